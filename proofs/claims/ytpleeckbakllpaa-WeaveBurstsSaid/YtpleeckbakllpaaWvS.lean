/- Which shape a page has, and the first test of the statements: what the program's functions compute; no condition. -/
import Derived.Test.YtpleeckbakllpaaWvA
import Derived.Test.YtpleeckbakllpaaGfF
import Derived.Test.YtpleeckbakllpaaXWvx11
namespace Go.Proofs.Ytpleeckbakllpaa.Gf
open Go.RowKit Go.Proofs.YtpleeckbakllpaaX.PrintWords Go.Proofs.YtpleeckbakllpaaX.PrintLast Go.Proofs.YtpleeckbakllpaaX.PrintMore Go.Proofs.Ytpleeckbakllpaa.XWv
set_option linter.unusedSimpArgs false
set_option linter.unusedVariables false
theorem awake_enc : weave_Encode.f 400 (⟨#[48, 49, 50, 51, 52, 53, 54, 55, 56, 57]⟩ : ByteArray) 1 10 2 12 5 = some (⟨#[219, 30, 161, 43, 85, 64, 8, 226, 71, 29, 233, 3]⟩, 0) := by decide +kernel
theorem awake_dec : weave_Decode.f 400 (strOfNums ((bytesOf (⟨#[219, 30, 161, 43, 85, 64, 8, 226, 71, 29, 233, 3]⟩ : ByteArray)).set (3 : Int).toNat (Go.bits .xor .u8 (rd (bytesOf (⟨#[219, 30, 161, 43, 85, 64, 8, 226, 71, 29, 233, 3]⟩ : ByteArray)) 3) 9))) 1 10 2 12 5 [] = some (⟨#[48, 49, 50, 51, 52, 53, 54, 55, 56, 57]⟩, 1, 0) := by decide +kernel
theorem awake_ev : Ev (fun k => tinderboxlaw29_awake.f k) true := by
  have h0 : Ev (fun k => weave_ShapeOf.f k 10 2) (1, 10, 2, 12, true) := Ev.of (fun k => weave_ShapeOf.mono _ _ k) (k := 10) (by decide +kernel)
  have h1 := Ev.of (fun k => weave_Encode.mono (⟨#[48, 49, 50, 51, 52, 53, 54, 55, 56, 57]⟩ : ByteArray) 1 10 2 12 5 k) awake_enc
  have h2 := Ev.of (fun k => weave_Decode.mono _ 1 10 2 12 5 [] k) awake_dec
  have e : (⟨#[48, 49, 50, 51, 52, 53, 54, 55, 56, 57]⟩ : ByteArray).toList = ([48, 49, 50, 51, 52, 53, 54, 55, 56, 57] : List UInt8) := by rw [ByteArray.toList_eq]
  refine Ev.bind h0 (Ev.bind h1 (ifp rfl (ifp rfl (ifp rfl (ifp (by decide) (Ev.bind (Ev.now _) (ifp (by decide) (Ev.bind h2 (ifp rfl (ifp e (Ev.now _)))))))))))

/-! ### shapes -/
def ceil (N m : Nat) : Nat := (N + m - 1) / m
/-- A shape: so many bytes of a page, so many words, so many bytes that check each. -/
structure Shp (N P W D : Nat) : Prop where
  w1 : 1 ≤ W
  wN : W ≤ N
  d : D = ceil N W
  dp : D + P ≤ 127
end Go.Proofs.Ytpleeckbakllpaa.Gf
