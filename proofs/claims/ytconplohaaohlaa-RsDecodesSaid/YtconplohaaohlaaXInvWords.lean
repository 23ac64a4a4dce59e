import Derived.Test.YtconplohaaohlaaXInv
import Derived.Test.YtconplohaaohlaaXFootNe
namespace Go.Proofs.YtconplohaaohlaaX.PrintWords
open Go.RowKit
end Go.Proofs.YtconplohaaohlaaX.PrintWords
namespace Go.Proofs.YtconplohaaohlaaX.PrintLast
section
variable {ops : Array Oper} {a : Act} {o og : Oper} {g : Nat} {t : Tmp} {u : Bool}
end
end Go.Proofs.YtconplohaaohlaaX.PrintLast
