/- Whether a word is right, and its signs, are the document's, and so is which words may be; no condition. -/
import Derived.Test.YtconplohaaohlaaGfH
import Derived.Test.YtconplohaaohlaaGfR
import Derived.Test.YtconplohaaohlaaXRsx7
namespace Go.Proofs.Ytconplohaaohlaa.Pure
open Go.RowKit Go.Proofs.Ytconplohaaohlaa.XRs Go.Proofs.YtconplohaaohlaaX.PrintWords Go.Proofs.YtconplohaaohlaaX.PrintLast Go.Proofs.YtconplohaaohlaaX.PrintMore Go.Proofs.Ytconplohaaohlaa.Gf
set_option linter.unusedSimpArgs false
set_option linter.unusedVariables false

theorem signs_end (t : ByteArray) (n : Nat) (ht : t.size < 1000) (hn : n < 100) (r : Nat) : ∀ i, i + r = n → Ev (fun k => tinderboxlaw28_RsSigns.l0 k t (n : Int) (IL (sgs t n)) (i : Int)) true := by
  induction r with
  | zero =>
    intro i hi
    refine Ev.step (f := fun _ => some true) (fun k => ?_) (Ev.now _)
    rw [tinderboxlaw28_RsSigns.l0, if_neg (by omega), IL_length, sgs_length]
    have : mx (n : Int) 0 = (n : Int) := by unfold mx; rw [if_neg (by omega)]
    rw [this]
    simp
  | succ r ih =>
    intro i hi
    have e : (sgs t n).getD i 0 = sg t i := by
      unfold sgs
      rw [List.getD_eq_getElem?_getD, List.getElem?_map, List.getElem?_range (by omega)]
      rfl
    refine Ev.step (f := fun k => (tinderboxlaw28_sign.f k t (i : Int)).bind fun u => if I (sg t i) = u then tinderboxlaw28_RsSigns.l0 k t (n : Int) (IL (sgs t n)) ((i + 1 : Nat) : Int) else some false) (fun k => ?_) (Ev.bind (sign_ev t i (by omega) (by omega)) (ifp rfl (ih (i + 1) (by omega))))
    rw [tinderboxlaw28_RsSigns.l0, if_pos (by omega), IL_length, sgs_length, if_neg (by omega), if_pos (by omega), if_pos (by omega), rd_IL, e, w64 (by omega) (by omega)]
    rfl
theorem RsSigns : tinderboxlaw28_RsSigns.Pure := by
  intro a0 a1 _ _
  obtain ⟨t, ht, h1, h2⟩ := few_ev a0
  apply Ev.rounds
  refine Ev.congr (f := fun k => (some t).bind fun t371 => ((rs_Signs.f k t371 (Int.tmod a1 40)).bind fun t372 => (if (Int.tmod a1 40) ≥ 1 then (if (Int.tmod a1 40) ≤ 32 then (if (t371.size : Int) > (Int.tmod a1 40) then (tinderboxlaw28_RsSigns.j0 k t371 (Int.tmod a1 40) t372 (decide ((t371.size : Int) ≤ 255))) else (tinderboxlaw28_RsSigns.j0 k t371 (Int.tmod a1 40) t372 false)) else (tinderboxlaw28_RsSigns.j0 k t371 (Int.tmod a1 40) t372 false)) else (tinderboxlaw28_RsSigns.j0 k t371 (Int.tmod a1 40) t372 false)))) (fun k => by unfold tinderboxlaw28_RsSigns.f; rw [ht]) ?_
  have hm : -40 < Int.tmod a1 40 ∧ Int.tmod a1 40 < 40 := by
    have := Int.tmod_lt_of_pos a1 (show (0 : Int) < 40 by omega)
    have := Int.lt_tmod_of_pos a1 (show (0 : Int) < 40 by omega)
    omega
  generalize Int.tmod a1 40 = m at hm
  refine Ev.bind (Ev.now t) ?_
  by_cases hp : m ≤ 0
  · refine Ev.bind (signs_neg t m (by omega) hp) (ifn (by omega) ?_)
    have hc : rs_Check.f (t.size : Int) m = some false := by unfold rs_Check.f; by_cases c : m ≥ 1 <;> simp [c]; omega
    have hr : Ev (fun k => rs_Right.f k t m) false := Ev.congr (fun k => by unfold rs_Right.f; rw [hc, Option.bind_some, if_neg (by simp)]) (Ev.now _)
    have h5 : Ev (fun k => tinderboxlaw28_RsSigns.l0 k t m [] 0) true := by
      refine Ev.step (f := fun _ => some true) (fun k => ?_) (Ev.now _)
      rw [tinderboxlaw28_RsSigns.l0, if_neg (by omega)]
      have : mx m 0 = 0 := by unfold mx; split <;> omega
      rw [this]
      rfl
    refine Ev.step (f := fun k => (tinderboxlaw28_awake.f k).bind fun t375 => (if t375 = true then ((rs_Right.f k t m).bind fun t377 => tinderboxlaw28_RsSigns.j1 k t m [] (t377 != false)) else (tinderboxlaw28_RsSigns.j1 k t m [] true))) (fun k => ?_) (Ev.bind awake_ev (ifp rfl (Ev.bind hr ?_)))
    · rw [tinderboxlaw28_RsSigns.j0]
      simp [hc]
    · refine Ev.step (fun k => ?_) h5
      rw [tinderboxlaw28_RsSigns.j1, if_neg (by decide)]
  · obtain ⟨n, rfl⟩ : ∃ n : Nat, m = (n : Int) := ⟨m.toNat, by omega⟩
    have h5 := signs_end t n (by omega) (by omega) n 0 (by omega)
    have key : Ev (fun k => tinderboxlaw28_RsSigns.j0 k t (n : Int) (IL (sgs t n)) (decide (May t.size n))) true := by
      refine Ev.step (f := fun k => (tinderboxlaw28_awake.f k).bind fun t375 => (if t375 = true then ((rs_Right.f k t (n : Int)).bind fun t377 => (if decide (May t.size n) = true then ((tinderboxlaw28_right.f k t (n : Int)).bind fun t378 => (tinderboxlaw28_RsSigns.j1 k t (n : Int) (IL (sgs t n)) (t377 != t378))) else (tinderboxlaw28_RsSigns.j1 k t (n : Int) (IL (sgs t n)) (t377 != false)))) else (tinderboxlaw28_RsSigns.j1 k t (n : Int) (IL (sgs t n)) true))) (fun k => ?_) (Ev.bind awake_ev (ifp rfl (Ev.bind (rright_ev t n (by omega) (by omega)) ?_)))
      · rw [tinderboxlaw28_RsSigns.j0, check_eq]
        simp
      · by_cases c : May t.size n
        · refine ifp (decide_eq_true c) (Ev.bind (right_ev t n (by omega) (by omega)) ?_)
          refine Ev.step (fun k => ?_) h5
          rw [tinderboxlaw28_RsSigns.j1, if_neg (by simp [c])]
          rfl
        · refine ifn (by simp [c]) ?_
          refine Ev.step (fun k => ?_) h5
          rw [tinderboxlaw28_RsSigns.j1, if_neg (by simp [c])]
          rfl
    refine Ev.bind (signs_ev t n (by omega) (by omega)) (ifp (by omega) ?_)
    by_cases c1 : n ≤ 32
    · refine ifp (by omega) ?_
      by_cases c2 : n < t.size
      · refine ifp (by omega) ?_
        rw [decide_eq_true (by omega : (t.size : Int) ≤ 255)]
        rw [decide_eq_true (⟨by omega, c1, c2, by omega⟩ : 1 ≤ n ∧ n ≤ 32 ∧ n < t.size ∧ t.size ≤ 255) |> (fun q => (q : decide (May t.size n) = true))] at key
        exact key
      · refine ifn (by omega) ?_
        rw [show decide (May t.size n) = false from decide_eq_false (p := May t.size n) fun q => c2 q.2.2.1] at key
        exact key
    · refine ifn (by omega) ?_
      rw [show decide (May t.size n) = false from decide_eq_false (p := May t.size n) fun q => c1 q.2.1] at key
      exact key
end Go.Proofs.Ytconplohaaohlaa.Pure
