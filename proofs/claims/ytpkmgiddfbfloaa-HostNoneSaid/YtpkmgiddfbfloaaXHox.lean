-- Written by wip/xprint.py for this claim.
import Derived.Test.YtpkmgiddfbfloaaXHox0
import Derived.Test.YtpkmgiddfbfloaaXHox1
import Derived.Test.YtpkmgiddfbfloaaXHox2
import Derived.Test.YtpkmgiddfbfloaaXHox3
namespace Go.Proofs.Ytpkmgiddfbfloaa.XHo
open Go.RowKit Go.Proofs.YtpkmgiddfbfloaaX.PrintWords Go.Proofs.YtpkmgiddfbfloaaX.PrintLast Go.Proofs.YtpkmgiddfbfloaaX.PrintMore
attribute [local go_sem] max2_int min2_int max_two min_two max_three min_three max_four min_four   -- for this text's walks alone
set_option linter.unusedVariables false
set_option linter.unusedSimpArgs false

end Go.Proofs.Ytpkmgiddfbfloaa.XHo
