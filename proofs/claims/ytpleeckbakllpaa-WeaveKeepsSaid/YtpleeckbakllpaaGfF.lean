/- What the program's division of two polynomials comes to, and the polynomials of places and of roots; no condition. -/
import Derived.Test.YtpleeckbakllpaaXWvx3
import Derived.Test.YtpleeckbakllpaaXWvx4
import Derived.Test.YtpleeckbakllpaaXWvx5
import Derived.Test.YtpleeckbakllpaaXWvx7
import Derived.Test.YtpleeckbakllpaaXWvx8
import Derived.Test.YtpleeckbakllpaaGfE
namespace Go.Proofs.Ytpleeckbakllpaa.Gf
open Go.RowKit Go.Proofs.YtpleeckbakllpaaX.PrintWords Go.Proofs.YtpleeckbakllpaaX.PrintLast Go.Proofs.YtpleeckbakllpaaX.PrintMore Go.Proofs.Ytpleeckbakllpaa.XWv
set_option linter.unusedSimpArgs false
set_option linter.unusedVariables false

theorem ifp {α : Type} {c : Prop} [Decidable c] {A B : Nat → Option α} {r : α} (h : c) (k : Ev A r) : Ev (fun n => if c then A n else B n) r := Ev.congr (fun _ => if_pos h) k
theorem ifn {α : Type} {c : Prop} [Decidable c] {A B : Nat → Option α} {r : α} (h : ¬ c) (k : Ev B r) : Ev (fun n => if c then A n else B n) r := Ev.congr (fun _ => if_neg h) k
/-- What holds between two rounds of dividing. -/
structure Mid (p : Nat) (T : E → E) (a b u v : List E) : Prop where
  ta : Tr a
  tb : Tr b
  tu : Tr u
  tv : Tr v
  la : a.length ≤ p + 1
  lv : v.length + a.length ≤ p + 2
  lu : u.length + b.length ≤ p + 2
  huv : ∀ x, ev v x * ev a x + ev u x * ev b x = pw x p
  hu : ∃ al n, Po n al ∧ n + b.length ≤ p + 2 ∧ ∀ x, ev u x * T x + pw x p * al x = ev a x
  hv : ∃ be n, Po n be ∧ n + a.length ≤ p + 2 ∧ ∀ x, ev v x * T x + pw x p * be x = ev b x

/-! ### places, roots, slope -/
def NL (l : List Nat) : List Int := l.map fun n : Nat => (n : Int)
theorem tr_one : Tr [1] := fun n h => by
  have : n = 0 := by simpa using h.symm
  subst this
  exact one_ne
/-- Every second number, the first taken or not. -/
def ds : Bool → List E → List E
  | _, [] => []
  | true, b :: t => b :: ds false t
  | false, _ :: t => 0 :: ds true t
end Go.Proofs.Ytpleeckbakllpaa.Gf
