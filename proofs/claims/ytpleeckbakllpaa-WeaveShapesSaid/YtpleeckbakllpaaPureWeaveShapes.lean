/- How pages become words is what the document says; which can; no condition. -/
import Derived.Test.YtpleeckbakllpaaWvS
namespace Go.Proofs.Ytpleeckbakllpaa.Pure
open Go.RowKit Go.Proofs.Ytpleeckbakllpaa.XWv Go.Proofs.YtpleeckbakllpaaX.PrintWords Go.Proofs.YtpleeckbakllpaaX.PrintLast Go.Proofs.YtpleeckbakllpaaX.PrintMore Go.Proofs.Ytpleeckbakllpaa.Gf
set_option linter.unusedSimpArgs false
set_option linter.unusedVariables false
theorem WeaveShapes : tinderboxlaw29_WeaveShapes.Pure := by
  intro a b _ _
  have key : ∃ r : Int × Int × Int × Int × Bool, Ev (fun k => weave_ShapeOf.f k a b) r ∧ Ev (fun k => tinderboxref29_Shape.f k a b) r := by
    by_cases c : a < 1 ∨ a > 1024 ∨ b < 2 ∨ b > 32
    · exact ⟨_, shape_no a b c⟩
    · obtain ⟨W, D, _, e1, e2⟩ := shape_ev a.toNat b.toNat (by omega) (by omega) (by omega) (by omega)
      rw [show ((a.toNat : Nat) : Int) = a by omega, show ((b.toNat : Nat) : Int) = b by omega] at e1 e2
      exact ⟨_, e1, e2⟩
  obtain ⟨r, h1, h2⟩ := key
  apply Ev.rounds
  refine Ev.bind h1 (Ev.bind h2 (Ev.bind awake_ev (ifp rfl (ifp (by simp) ?_))))
  simp only [beq_self_eq_true, Bool.and_self]
  exact Ev.now _
end Go.Proofs.Ytpleeckbakllpaa.Pure
