/- The bytes that look like chance are the document's; mixed twice bytes are as they were; no condition. -/
import Derived.Test.YtpleeckbakllpaaWvM
namespace Go.Proofs.Ytpleeckbakllpaa.Pure
open Go.RowKit Go.Proofs.Ytpleeckbakllpaa.XWv Go.Proofs.YtpleeckbakllpaaX.PrintWords Go.Proofs.YtpleeckbakllpaaX.PrintLast Go.Proofs.YtpleeckbakllpaaX.PrintMore Go.Proofs.Ytpleeckbakllpaa.Gf
set_option linter.unusedSimpArgs false
set_option linter.unusedVariables false
theorem WeaveMasks : tinderboxlaw29_WeaveMasks.Pure := by
  intro a0 a1 a2 _ _ _
  apply Ev.rounds
  have em : mn (a2.size : Int) 100 = ((min a2.size 100 : Nat) : Int) := by unfold mn; split <;> omega
  have hts : (a2.extract 0 (min a2.size 100)).size = min a2.size 100 := by rw [ByteArray.size_extract]; omega
  have hk : Int.tmod a1 300 < 1000000 := Int.lt_of_lt_of_le (Int.tmod_lt_of_pos a1 (by omega)) (by omega)
  refine Ev.congr (f := fun k => (weave_Mask.f k a0 (Int.tmod a1 300)).bind fun t450 => ((weave_Mask.f k a0 ((a2.extract 0 (min a2.size 100)).size : Int)).bind fun t451 => ((tinderboxlaw29_awake.f k).bind fun t452 => (if t452 = true then ((tinderboxref29_Mask.f k a0 (Int.tmod a1 300)).bind fun t453 => (if t450.toList = t453.toList then ((weave_Mix.f k (a2.extract 0 (min a2.size 100)) t451).bind fun t454 => ((weave_Mix.f k t454 t451).bind fun t455 => (if t455.toList = (a2.extract 0 (min a2.size 100)).toList then ((weave_Mix.f k (a2.extract 0 (min a2.size 100)) (⟨#[97, 98]⟩ : ByteArray)).bind fun t456 => (some ((t456.size : Int) == (mn ((a2.extract 0 (min a2.size 100)).size : Int) 2)))) else (some false)))) else (some false))) else (some false))))) (fun k => ?_) ?_
  · unfold tinderboxlaw29_WeaveMasks.f
    rw [em, if_pos (by omega), if_pos (by omega), Int.toNat_natCast]
  generalize a2.extract 0 (min a2.size 100) = t at hts
  have h1 := mask_ev a0 (Int.tmod a1 300) hk
  have h2 := mask_ev a0 (t.size : Int) (by omega)
  rw [Int.toNat_natCast] at h2
  have h3 := rmask_ev a0 (Int.tmod a1 300) hk
  have m1 := mix_ev t (maskB a0 t.size) (by omega)
  have m2 := mix_ev (mixB t (maskB a0 t.size)) (maskB a0 t.size) (by rw [mixB_size]; omega)
  rw [mix_twice t _ (maskB_size _ _)] at m2
  refine Ev.bind h1 (Ev.bind h2 (Ev.bind awake_ev (ifp rfl (Ev.bind h3 (ifp rfl (Ev.bind m1 (Ev.bind m2 (ifp rfl (Ev.bind (mix_ev t _ (by omega)) ?_)))))))))
  have e : ((mixB t (⟨#[97, 98]⟩ : ByteArray)).size : Int) = mn (t.size : Int) 2 := by
    rw [mixB_size, show (⟨#[97, 98]⟩ : ByteArray).size = 2 from rfl]
    unfold mn
    split <;> omega
  rw [e, beq_self_eq_true]
  exact Ev.now _
end Go.Proofs.Ytpleeckbakllpaa.Pure
