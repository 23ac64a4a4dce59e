/- A page's bytes: what the statements' function computes; no condition. -/
import Derived.Test.YtpleeckbakllpaaWvB
import Derived.Test.YtpleeckbakllpaaXWvx11
namespace Go.Proofs.Ytpleeckbakllpaa.Gf
open Go.RowKit Go.Proofs.YtpleeckbakllpaaX.PrintWords Go.Proofs.YtpleeckbakllpaaX.PrintLast Go.Proofs.YtpleeckbakllpaaX.PrintMore Go.Proofs.Ytpleeckbakllpaa.XWv
set_option linter.unusedSimpArgs false
set_option linter.unusedVariables false
/-- A page's bytes. -/
theorem page_loop (N : Nat) (hN : N ≤ 1024) (r : Nat) : ∀ y : List E, y.length + r = N → ∃ z : List E, z.length = N ∧ Ev (fun k => tinderboxlaw29_page.l0 k (N : Int) (IL y)) (ofE z) := by
  induction r with
  | zero =>
    intro y hy
    refine ⟨y, hy, Ev.step (f := fun _ => some (ofE y)) (fun k => ?_) (Ev.now _)⟩
    rw [tinderboxlaw29_page.l0, if_neg (by rw [IL_length]; omega)]
    rfl
  | succ r ih =>
    intro y hy
    obtain ⟨z, hz, h⟩ := ih (y ++ [E.of y.length]) (by rw [List.length_append, List.length_singleton]; omega)
    refine ⟨z, hz, Ev.step (fun k => ?_) h⟩
    rw [tinderboxlaw29_page.l0, if_pos (by rw [IL_length]; omega), if_pos (by rw [IL_length]; omega), IL_append, IL_length]
    show tinderboxlaw29_page.l0 k _ (IL y ++ [((y.length : Nat) : Int) % 256]) = tinderboxlaw29_page.l0 k _ (IL y ++ [I (E.of y.length)])
    rw [I_of]
    rfl
theorem page_ev (a : ByteArray) (N : Nat) (hN : N ≤ 1024) : ∃ p : ByteArray, p.size = N ∧ Ev (fun k => tinderboxlaw29_page.f k a (N : Int)) p := by
  have em : mn (a.size : Int) (N : Int) = ((min a.size N : Nat) : Int) := by unfold mn; split <;> omega
  have hts : (a.extract 0 (min a.size N)).size = min a.size N := by rw [ByteArray.size_extract]; omega
  obtain ⟨z, hz, h⟩ := page_loop N hN (N - min a.size N) (toE (a.extract 0 (min a.size N))) (by rw [toE_length, hts]; omega)
  refine ⟨ofE z, by rw [size_ofE, hz], Ev.congr (fun k => ?_) h⟩
  rw [tinderboxlaw29_page.f, em, if_pos (by omega), if_pos (by omega), Int.toNat_natCast, if_pos (by omega), IL_toE]
end Go.Proofs.Ytpleeckbakllpaa.Gf
