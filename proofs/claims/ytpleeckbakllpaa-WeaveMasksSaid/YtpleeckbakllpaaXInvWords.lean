import Derived.Test.YtpleeckbakllpaaXInv
import Derived.Test.YtpleeckbakllpaaXFootNe
namespace Go.Proofs.YtpleeckbakllpaaX.PrintWords
open Go.RowKit
end Go.Proofs.YtpleeckbakllpaaX.PrintWords
namespace Go.Proofs.YtpleeckbakllpaaX.PrintLast
section
variable {ops : Array Oper} {a : Act} {o og : Oper} {g : Nat} {t : Tmp} {u : Bool}
end
end Go.Proofs.YtpleeckbakllpaaX.PrintLast
