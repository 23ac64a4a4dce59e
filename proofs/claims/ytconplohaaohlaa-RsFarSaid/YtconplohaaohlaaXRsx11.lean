-- Written by wip/xprint.py for this claim.
import Derived.Test.YtconplohaaohlaaXRsx0
import Derived.Test.YtconplohaaohlaaXRsx1
import Derived.Test.YtconplohaaohlaaXRsx3
import Derived.Test.YtconplohaaohlaaXRsx5
namespace Go.Proofs.Ytconplohaaohlaa.XRs
open Go.RowKit Go.Proofs.YtconplohaaohlaaX.PrintWords Go.Proofs.YtconplohaaohlaaX.PrintLast Go.Proofs.YtconplohaaohlaaX.PrintMore
attribute [local go_sem] max2_int min2_int max_two min_two max_three min_three max_four min_four   -- for this text's walks alone
set_option linter.unusedVariables false
set_option linter.unusedSimpArgs false

/-! ### tinderboxlaw28_RsFar: function 8 -/
mutual
def tinderboxlaw28_RsFar.l0 : Nat → Int → ByteArray → Int → ByteArray → Int → Int → Int → Option (Bool)
  | 0, _, _, _, _, _, _, _ => none
  | k + 1, x9, x11, x12, x13, x14, x15, x16 => if x16 < (x11.size : Int) then (tinderboxlaw28_RsFar.j1 k x9 x11 x12 x13 x14 x15 x16 (decide (x16 < (x13.size : Int)))) else (tinderboxlaw28_RsFar.j1 k x9 x11 x12 x13 x14 x15 x16 false)
def tinderboxlaw28_RsFar.j1 : Nat → Int → ByteArray → Int → ByteArray → Int → Int → Int → Bool → Option (Bool)
  | 0, _, _, _, _, _, _, _, _ => none
  | k + 1, x9, x11, x12, x13, x14, x15, x16, x54 => if x54 = true then (if 0 ≤ x16 then (if x16 < (x11.size : Int) then (if x16 < (x13.size : Int) then (if (bt x11 x16) = (bt x13 x16) then (tinderboxlaw28_RsFar.l0 k x9 x11 x12 x13 x14 x15 (wrap64 (x16 + 1))) else (tinderboxlaw28_RsFar.l0 k x9 x11 x12 x13 x14 (wrap64 (x15 + 1)) (wrap64 (x16 + 1)))) else (none)) else (none)) else (none)) else ((tinderboxlaw28_awake.f k).bind fun t454 => (if t454 = true then (if x12 = 0 then (if x14 = 0 then (if x15 > x9 then (some true) else (some (x11.toList == x13.toList))) else (some false)) else (some false)) else (some false)))
end
def tinderboxlaw28_RsFar.f (k : Nat) (a0 : ByteArray) (a1 : ByteArray) (a2 : Int) : Option (Bool) := (tinderboxlaw28_few.f a0).bind fun t448 => ((tinderboxlaw28_few.f a1).bind fun t449 => (if 0 ≤ (mn (t448.size : Int) (t449.size : Int)) then (if (mn (t448.size : Int) (t449.size : Int)) ≤ (t448.size : Int) then ((rs_Encode.f k (t448.extract 0 ((mn (t448.size : Int) (t449.size : Int)) : Int).toNat) (wrap64 (1 + (Go.bits .and .i64 a2 15)))).bind fun bt450 => (if (mn (t448.size : Int) (t449.size : Int)) ≤ (t449.size : Int) then ((rs_Encode.f k (t449.extract 0 ((mn (t448.size : Int) (t449.size : Int)) : Int).toNat) (wrap64 (1 + (Go.bits .and .i64 a2 15)))).bind fun bt452 => (tinderboxlaw28_RsFar.l0 k (wrap64 (1 + (Go.bits .and .i64 a2 15))) bt450.1 bt450.2 bt452.1 bt452.2 0 0)) else (none))) else (none)) else (none)))
theorem tinderboxlaw28_RsFar.mono_l : ∀ k, (∀ y0 y1 y2 y3 y4 y5 y6, LeO (tinderboxlaw28_RsFar.l0 k y0 y1 y2 y3 y4 y5 y6) (tinderboxlaw28_RsFar.l0 (k + 1) y0 y1 y2 y3 y4 y5 y6)) ∧ (∀ y0 y1 y2 y3 y4 y5 y6 y7, LeO (tinderboxlaw28_RsFar.j1 k y0 y1 y2 y3 y4 y5 y6 y7) (tinderboxlaw28_RsFar.j1 (k + 1) y0 y1 y2 y3 y4 y5 y6 y7))
  | 0 => ⟨fun _ _ _ _ _ _ _ r h => by simp [tinderboxlaw28_RsFar.l0] at h, fun _ _ _ _ _ _ _ _ r h => by simp [tinderboxlaw28_RsFar.j1] at h⟩
  | k + 1 => by
    obtain ⟨ih0, ih1⟩ := tinderboxlaw28_RsFar.mono_l k
    refine ⟨?_, ?_⟩
    · intro y0 y1 y2 y3 y4 y5 y6
      unfold tinderboxlaw28_RsFar.l0
      repeat' first
      | (with_reducible exact ih0 _ _ _ _ _ _ _)
      | (with_reducible exact ih1 _ _ _ _ _ _ _ _)
      | (with_reducible exact rs_Encode.mono _ _ _)
      | (with_reducible exact tinderboxlaw28_awake.mono _)
      | (with_reducible exact LeO.refl _)
      | (with_reducible exact LeO.none _)
      | (with_reducible refine LeO.ite ?_ ?_)
      | (with_reducible refine LeO.bind ?_ (fun _ => ?_))
      | exact ih0 _ _ _ _ _ _ _
      | exact ih1 _ _ _ _ _ _ _ _
      | exact rs_Encode.mono _ _ _
      | exact tinderboxlaw28_awake.mono _
      | exact LeO.none _
      | refine LeO.ite ?_ ?_
      | refine LeO.bind ?_ (fun _ => ?_)
    · intro y0 y1 y2 y3 y4 y5 y6 y7
      unfold tinderboxlaw28_RsFar.j1
      repeat' first
      | (with_reducible exact ih0 _ _ _ _ _ _ _)
      | (with_reducible exact ih1 _ _ _ _ _ _ _ _)
      | (with_reducible exact rs_Encode.mono _ _ _)
      | (with_reducible exact tinderboxlaw28_awake.mono _)
      | (with_reducible exact LeO.refl _)
      | (with_reducible exact LeO.none _)
      | (with_reducible refine LeO.ite ?_ ?_)
      | (with_reducible refine LeO.bind ?_ (fun _ => ?_))
      | exact ih0 _ _ _ _ _ _ _
      | exact ih1 _ _ _ _ _ _ _ _
      | exact rs_Encode.mono _ _ _
      | exact tinderboxlaw28_awake.mono _
      | exact LeO.none _
      | refine LeO.ite ?_ ?_
      | refine LeO.bind ?_ (fun _ => ?_)
theorem tinderboxlaw28_RsFar.mono : ∀ a0 a1 a2 k, LeO (tinderboxlaw28_RsFar.f k a0 a1 a2) (tinderboxlaw28_RsFar.f (k + 1) a0 a1 a2) := by
  intro a0 a1 a2 k
  obtain ⟨ih0, ih1⟩ := tinderboxlaw28_RsFar.mono_l k
  unfold tinderboxlaw28_RsFar.f
  repeat' first
      | (with_reducible exact ih0 _ _ _ _ _ _ _)
      | (with_reducible exact ih1 _ _ _ _ _ _ _ _)
      | (with_reducible exact rs_Encode.mono _ _ _)
      | (with_reducible exact tinderboxlaw28_awake.mono _)
      | (with_reducible exact LeO.refl _)
      | (with_reducible exact LeO.none _)
      | (with_reducible refine LeO.ite ?_ ?_)
      | (with_reducible refine LeO.bind ?_ (fun _ => ?_))
      | exact ih0 _ _ _ _ _ _ _
      | exact ih1 _ _ _ _ _ _ _ _
      | exact rs_Encode.mono _ _ _
      | exact tinderboxlaw28_awake.mono _
      | exact LeO.none _
      | refine LeO.ite ?_ ?_
      | refine LeO.bind ?_ (fun _ => ?_)
set_option maxHeartbeats 8000000 in
set_option maxRecDepth 100000 in
theorem tinderboxlaw28_RsFar.calls (k : Nat) (a0 : ByteArray) (a1 : ByteArray) (a2 : Int) (r : Bool) (w : World) (h : tinderboxlaw28_RsFar.f k a0 a1 a2 = some r) :
    Calls Try.prog 8 #[.string a0, .string a1, .int .i64 a2] w fun e w' => e = .returned (.bool r) ∧ Below w.heap.size w w' := by
  have HB := Aside0.mk (Below.refl w.heap.size w)
  have H : ((tinderboxlaw28_few.f a0).bind fun t448 => ((tinderboxlaw28_few.f a1).bind fun t449 => (if 0 ≤ (mn (t448.size : Int) (t449.size : Int)) then (if (mn (t448.size : Int) (t449.size : Int)) ≤ (t448.size : Int) then ((rs_Encode.f k (t448.extract 0 ((mn (t448.size : Int) (t449.size : Int)) : Int).toNat) (wrap64 (1 + (Go.bits .and .i64 a2 15)))).bind fun bt450 => (if (mn (t448.size : Int) (t449.size : Int)) ≤ (t449.size : Int) then ((rs_Encode.f k (t449.extract 0 ((mn (t448.size : Int) (t449.size : Int)) : Int).toNat) (wrap64 (1 + (Go.bits .and .i64 a2 15)))).bind fun bt452 => (tinderboxlaw28_RsFar.l0 k (wrap64 (1 + (Go.bits .and .i64 a2 15))) bt450.1 bt450.2 bt452.1 bt452.2 0 0)) else (none))) else (none)) else (none)))) = some r := h
  clear h
  replace H := Option.bind_eq_some_iff.mp H
  obtain ⟨t448, A40, H⟩ := H
  replace H : ((tinderboxlaw28_few.f a1).bind fun t449 => (if 0 ≤ (mn (t448.size : Int) (t449.size : Int)) then (if (mn (t448.size : Int) (t449.size : Int)) ≤ (t448.size : Int) then ((rs_Encode.f k (t448.extract 0 ((mn (t448.size : Int) (t449.size : Int)) : Int).toNat) (wrap64 (1 + (Go.bits .and .i64 a2 15)))).bind fun bt450 => (if (mn (t448.size : Int) (t449.size : Int)) ≤ (t449.size : Int) then ((rs_Encode.f k (t449.extract 0 ((mn (t448.size : Int) (t449.size : Int)) : Int).toNat) (wrap64 (1 + (Go.bits .and .i64 a2 15)))).bind fun bt452 => (tinderboxlaw28_RsFar.l0 k (wrap64 (1 + (Go.bits .and .i64 a2 15))) bt450.1 bt450.2 bt452.1 bt452.2 0 0)) else (none))) else (none)) else (none))) = some r := H
  have A4 := Aside0.mk A40
  clear A40
  replace H := Option.bind_eq_some_iff.mp H
  obtain ⟨t449, A50, H⟩ := H
  replace H : (if 0 ≤ (mn (t448.size : Int) (t449.size : Int)) then (if (mn (t448.size : Int) (t449.size : Int)) ≤ (t448.size : Int) then ((rs_Encode.f k (t448.extract 0 ((mn (t448.size : Int) (t449.size : Int)) : Int).toNat) (wrap64 (1 + (Go.bits .and .i64 a2 15)))).bind fun bt450 => (if (mn (t448.size : Int) (t449.size : Int)) ≤ (t449.size : Int) then ((rs_Encode.f k (t449.extract 0 ((mn (t448.size : Int) (t449.size : Int)) : Int).toNat) (wrap64 (1 + (Go.bits .and .i64 a2 15)))).bind fun bt452 => (tinderboxlaw28_RsFar.l0 k (wrap64 (1 + (Go.bits .and .i64 a2 15))) bt450.1 bt450.2 bt452.1 bt452.2 0 0)) else (none))) else (none)) else (none)) = some r := H
  have A5 := Aside0.mk A50
  clear A50
  obtain ⟨ji6, hji6⟩ : ∃ j_ : Int, (mn (t448.size : Int) (t449.size : Int)) = j_ := ⟨_, rfl⟩
  replace H : (if 0 ≤ (ji6) then (if (ji6) ≤ (t448.size : Int) then ((rs_Encode.f k (t448.extract 0 ((ji6) : Int).toNat) (wrap64 (1 + (Go.bits .and .i64 a2 15)))).bind fun bt450 => (if (ji6) ≤ (t449.size : Int) then ((rs_Encode.f k (t449.extract 0 ((ji6) : Int).toNat) (wrap64 (1 + (Go.bits .and .i64 a2 15)))).bind fun bt452 => (tinderboxlaw28_RsFar.l0 k (wrap64 (1 + (Go.bits .and .i64 a2 15))) bt450.1 bt450.2 bt452.1 bt452.2 0 0)) else (none))) else (none)) else (none)) = some r := by first | (rw [hji6] at H; exact H) | (simp only [hji6] at H ⊢; exact H)
  (try rw [hji6] at A4)
  (try rw [hji6] at A5)
  (try (have hji6l : 0 ≤ ji6 := by (rw [← hji6]; unfold mn; (repeat' split) <;> omega)))
  (try (have hji6m : 0 ≤ ji6 := by omega))
  have hji6l : (if t449.size < t448.size then (t449.size : Int) else (t448.size : Int)) = ji6 := by rw [← hji6]; unfold mn; (repeat' split) <;> omega
  have hji6_ : (if (t449.size : Int) < (t448.size : Int) then (t449.size : Int) else (t448.size : Int)) = ji6 := hji6
  by_cases c7 : 0 ≤ (ji6)
  · rw [if_pos c7] at H
    have c7b0 := eq_true c7
    have c7b1 : decide (0 ≤ (ji6)) = true := decide_eq_true c7
    clear c7
    by_cases c8 : (ji6) ≤ (t448.size : Int)
    · rw [if_pos c8] at H
      have c8b0 := eq_true c8
      have c8b1 : decide ((ji6) ≤ (t448.size : Int)) = true := decide_eq_true c8
      clear c8
      replace H := Option.bind_eq_some_iff.mp H
      obtain ⟨⟨t450, t451⟩, A90, H⟩ := H
      replace H : (if (ji6) ≤ (t449.size : Int) then ((rs_Encode.f k (t449.extract 0 ((ji6) : Int).toNat) (wrap64 (1 + (Go.bits .and .i64 a2 15)))).bind fun bt452 => (tinderboxlaw28_RsFar.l0 k (wrap64 (1 + (Go.bits .and .i64 a2 15))) t450 t451 bt452.1 bt452.2 0 0)) else (none)) = some r := H
      have A9 := Aside0.mk A90
      clear A90
      have c10b0 := eq_true (of_decide_eq_true (by first | (with_reducible assumption) | assumption) : 0 ≤ (ji6))
      by_cases c11 : (ji6) ≤ (t449.size : Int)
      · rw [if_pos c11] at H
        have c11b0 := eq_true c11
        have c11b1 : decide ((ji6) ≤ (t449.size : Int)) = true := decide_eq_true c11
        clear c11
        replace H := Option.bind_eq_some_iff.mp H
        obtain ⟨⟨t452, t453⟩, A120, H⟩ := H
        replace H : (tinderboxlaw28_RsFar.l0 k (wrap64 (1 + (Go.bits .and .i64 a2 15))) t450 t451 t452 t453 0 0) = some r := H
        have A12 := Aside0.mk A120
        clear A120
        have H' := Aside0.mk H
        clear H
        go_enter Try.func8, Try.ntmps8
        go_wp2_with (first | (go_at_call 9; (with_reducible refine (tinderboxlaw28_few.calls a0 t448 _ A4.out).mono ?_); rintro e w' ⟨rfl, ⟨nd, rfl⟩⟩; (try first | exact ⟨rfl, _, World.drewN_drewN _ _ _⟩ | exact ⟨rfl, _, Eq.trans (World.drewN_drewN _ _ _) (congrArg (World.drewN _) (Nat.add_assoc _ _ _))⟩)) | (go_at_call 9; (with_reducible refine (tinderboxlaw28_few.calls a1 t449 _ A5.out).mono ?_); rintro e w' ⟨rfl, ⟨nd, rfl⟩⟩; (try first | exact ⟨rfl, _, World.drewN_drewN _ _ _⟩ | exact ⟨rfl, _, Eq.trans (World.drewN_drewN _ _ _) (congrArg (World.drewN _) (Nat.add_assoc _ _ _))⟩)) | (go_at_call 10; (with_reducible refine (rs_Encode.calls k (t448.extract 0 ((ji6) : Int).toNat) (wrap64 (1 + (Go.bits .and .i64 a2 15))) t450 t451 _ A9.out).mono ?_); rintro e w13 ⟨rfl, hb⟩; have n0_ := Aside0.mk (below_step (by repeat (first | (with_reducible first | exact HB.out | apply below_alloc | apply pw_below_drewN | apply below_drew1) | exact HB.out)) hb); clear HB; have HB := n0_; clear n0_; (try clear hb); (try clear hb2); (try clear hk); (try clear hi)) | (go_at_call 10; (with_reducible refine (rs_Encode.calls k (t449.extract 0 ((ji6) : Int).toNat) (wrap64 (1 + (Go.bits .and .i64 a2 15))) t452 t453 _ A12.out).mono ?_); rintro e w14 ⟨rfl, hb⟩; have n0_ := Aside0.mk (below_step (by repeat (first | (with_reducible first | exact HB.out | apply below_alloc | apply pw_below_drewN | apply below_drew1) | exact HB.out)) hb); clear HB; have HB := n0_; clear n0_; (try clear hb); (try clear hb2); (try clear hk); (try clear hi)))
        repeat (go_quiet (first | (go_at_call 9; (with_reducible refine (tinderboxlaw28_few.calls a0 t448 _ A4.out).mono ?_); rintro e w' ⟨rfl, ⟨nd, rfl⟩⟩; (try first | exact ⟨rfl, _, World.drewN_drewN _ _ _⟩ | exact ⟨rfl, _, Eq.trans (World.drewN_drewN _ _ _) (congrArg (World.drewN _) (Nat.add_assoc _ _ _))⟩)) | (go_at_call 9; (with_reducible refine (tinderboxlaw28_few.calls a1 t449 _ A5.out).mono ?_); rintro e w' ⟨rfl, ⟨nd, rfl⟩⟩; (try first | exact ⟨rfl, _, World.drewN_drewN _ _ _⟩ | exact ⟨rfl, _, Eq.trans (World.drewN_drewN _ _ _) (congrArg (World.drewN _) (Nat.add_assoc _ _ _))⟩)) | (go_at_call 10; (with_reducible refine (rs_Encode.calls k (t448.extract 0 ((ji6) : Int).toNat) (wrap64 (1 + (Go.bits .and .i64 a2 15))) t450 t451 _ A9.out).mono ?_); rintro e w13 ⟨rfl, hb⟩; have n0_ := Aside0.mk (below_step (by repeat (first | (with_reducible first | exact HB.out | apply below_alloc | apply pw_below_drewN | apply below_drew1) | exact HB.out)) hb); clear HB; have HB := n0_; clear n0_; (try clear hb); (try clear hb2); (try clear hk); (try clear hi)) | (go_at_call 10; (with_reducible refine (rs_Encode.calls k (t449.extract 0 ((ji6) : Int).toNat) (wrap64 (1 + (Go.bits .and .i64 a2 15))) t452 t453 _ A12.out).mono ?_); rintro e w14 ⟨rfl, hb⟩; have n0_ := Aside0.mk (below_step (by repeat (first | (with_reducible first | exact HB.out | apply below_alloc | apply pw_below_drewN | apply below_drew1) | exact HB.out)) hb); clear HB; have HB := n0_; clear n0_; (try clear hb); (try clear hb2); (try clear hk); (try clear hi))); try go_wp2_with (first | (go_at_call 9; (with_reducible refine (tinderboxlaw28_few.calls a0 t448 _ A4.out).mono ?_); rintro e w' ⟨rfl, ⟨nd, rfl⟩⟩; (try first | exact ⟨rfl, _, World.drewN_drewN _ _ _⟩ | exact ⟨rfl, _, Eq.trans (World.drewN_drewN _ _ _) (congrArg (World.drewN _) (Nat.add_assoc _ _ _))⟩)) | (go_at_call 9; (with_reducible refine (tinderboxlaw28_few.calls a1 t449 _ A5.out).mono ?_); rintro e w' ⟨rfl, ⟨nd, rfl⟩⟩; (try first | exact ⟨rfl, _, World.drewN_drewN _ _ _⟩ | exact ⟨rfl, _, Eq.trans (World.drewN_drewN _ _ _) (congrArg (World.drewN _) (Nat.add_assoc _ _ _))⟩)) | (go_at_call 10; (with_reducible refine (rs_Encode.calls k (t448.extract 0 ((ji6) : Int).toNat) (wrap64 (1 + (Go.bits .and .i64 a2 15))) t450 t451 _ A9.out).mono ?_); rintro e w13 ⟨rfl, hb⟩; have n0_ := Aside0.mk (below_step (by repeat (first | (with_reducible first | exact HB.out | apply below_alloc | apply pw_below_drewN | apply below_drew1) | exact HB.out)) hb); clear HB; have HB := n0_; clear n0_; (try clear hb); (try clear hb2); (try clear hk); (try clear hi)) | (go_at_call 10; (with_reducible refine (rs_Encode.calls k (t449.extract 0 ((ji6) : Int).toNat) (wrap64 (1 + (Go.bits .and .i64 a2 15))) t452 t453 _ A12.out).mono ?_); rintro e w14 ⟨rfl, hb⟩; have n0_ := Aside0.mk (below_step (by repeat (first | (with_reducible first | exact HB.out | apply below_alloc | apply pw_below_drewN | apply below_drew1) | exact HB.out)) hb); clear HB; have HB := n0_; clear n0_; (try clear hb); (try clear hb2); (try clear hk); (try clear hi))))
        go_loopg [15, 16] k (fun kq v15 v16 w' => ∃ (x15_1 : Int) (x16_1 : Int), v15 = .int .i64 x15_1 ∧ v16 = .int .i64 x16_1 ∧ Aside0 (tinderboxlaw28_RsFar.l0 kq (wrap64 (1 + (Go.bits .and .i64 a2 15))) t450 t451 t452 t453 x15_1 x16_1 = some r) ∧ Aside0 (kq ≤ k) ∧ Aside0 (Below w.heap.size w w'))
        case atStart => exact ⟨(0), (0), (by first | rfl | (simp; done) | (simp [*]; done)), (by first | rfl | (simp; done) | (simp [*]; done)), H', ⟨Nat.le_refl _⟩, ⟨by repeat (first | (with_reducible first | exact HB.out | apply below_alloc | apply pw_below_drewN | apply below_drew1) | exact HB.out)⟩⟩
        case round =>
          clear H'
          try clear c1
          try clear p2
          try clear p6
          try clear c7
          try clear c7b0
          try clear c7b1
          try clear c8
          try clear c8b0
          try clear c8b1
          try clear c10
          try clear c10b0
          try clear c11
          try clear c11b0
          try clear c11b1
          obtain ⟨x15_1, x16_1, rfl, rfl, HA, HK1, HB⟩ := hrel
          cases gk with
          | zero => exact absurd HA.out (by simp [tinderboxlaw28_RsFar.l0])
          | succ k1 =>
            have H := HA.out
            clear HA
            simp only [tinderboxlaw28_RsFar.l0] at H
            have HC15 := Aside0.mk H
            clear H
            go_upto_region 7 with (fail)
            repeat (go_quiet (fail); go_upto_region 7 with (fail))
            go_cut [54] (fun v54 wc => ∃ (kq : Nat) (x54_14 : Bool), v54 = .bool x54_14 ∧ Aside0 (tinderboxlaw28_RsFar.j1 kq (wrap64 (1 + (Go.bits .and .i64 a2 15))) t450 t451 t452 t453 x15_1 x16_1 x54_14 = some r) ∧ Aside0 (kq ≤ k1) ∧ Aside0 (Below w.heap.size w wc))
            case first =>
              have H := HC15.out
              clear HC15
              by_cases c16 : x16_1 < (t450.size : Int)
              · rw [if_pos c16] at H
                have c16b0 : decide (x16_1 < (t450.size : Int)) = true := decide_eq_true c16
                clear c16
                (first | rw [c16b0] | (simp only [i64_w, i32_w]; rw [c16b0]) | skip)
                have H' := Aside0.mk H
                clear H
                go_wp2
                repeat (go_quiet (fail); try go_wp2)
                go_meet
                case rel => exact ⟨_, (decide (x16_1 < (t452.size : Int))), (by first | rfl | (simp; done) | (simp [*]; done)), H', ⟨by have := HK1.out; first | omega | exact Nat.le_refl _⟩, ⟨by repeat (first | (with_reducible first | exact HB.out | apply below_alloc | apply pw_below_drewN | apply below_drew1) | exact HB.out)⟩⟩
              · rw [if_neg c16] at H
                have c16b0 : decide (x16_1 < (t450.size : Int)) = false := decide_eq_false c16
                clear c16
                (first | rw [c16b0] | (simp only [i64_w, i32_w]; rw [c16b0]) | skip)
                have H' := Aside0.mk H
                clear H
                go_wp2
                repeat (go_quiet (fail); try go_wp2)
                go_meet
                case rel => exact ⟨_, (false), (by first | rfl | (simp; done) | (simp [*]; done)), H', ⟨by have := HK1.out; first | omega | exact Nat.le_refl _⟩, ⟨by repeat (first | (with_reducible first | exact HB.out | apply below_alloc | apply pw_below_drewN | apply below_drew1) | exact HB.out)⟩⟩
            case rest =>
              clear HC15
              try clear c1
              try clear p2
              try clear p6
              try clear c7
              try clear c7b0
              try clear c7b1
              try clear c8
              try clear c8b0
              try clear c8b1
              try clear c10
              try clear c10b0
              try clear c11
              try clear c11b0
              try clear c11b1
              try clear c16
              try clear c16b0
              try clear p2
              try clear p6
              obtain ⟨kq, x54_14, rfl, HA, HJ14, HB⟩ := hcut
              cases kq with
              | zero => exact absurd HA.out (by simp [tinderboxlaw28_RsFar.j1])
              | succ kj14 =>
                have H := HA.out
                clear HA
                simp only [tinderboxlaw28_RsFar.j1] at H
                by_cases c17 : x54_14 = true
                · subst c17
                  have H1 : (if 0 ≤ x16_1 then (if x16_1 < (t450.size : Int) then (if x16_1 < (t452.size : Int) then (if (bt t450 x16_1) = (bt t452 x16_1) then (tinderboxlaw28_RsFar.l0 kj14 (wrap64 (1 + (Go.bits .and .i64 a2 15))) t450 t451 t452 t453 x15_1 (wrap64 (x16_1 + 1))) else (tinderboxlaw28_RsFar.l0 kj14 (wrap64 (1 + (Go.bits .and .i64 a2 15))) t450 t451 t452 t453 (wrap64 (x15_1 + 1)) (wrap64 (x16_1 + 1)))) else (none)) else (none)) else (none)) = some r := by rw [if_pos rfl] at H; exact H
                  clear H
                  have H := H1
                  clear H1
                  by_cases c18 : 0 ≤ x16_1
                  · rw [if_pos c18] at H
                    have c18b0 : decide (0 ≤ x16_1) = true := decide_eq_true c18
                    clear c18
                    by_cases c19 : x16_1 < (t450.size : Int)
                    · rw [if_pos c19] at H
                      have c19b0 : decide (x16_1 < (t450.size : Int)) = true := decide_eq_true c19
                      clear c19
                      by_cases c21 : x16_1 < (t452.size : Int)
                      · rw [if_pos c21] at H
                        have c21b0 : decide (x16_1 < (t452.size : Int)) = true := decide_eq_true c21
                        clear c21
                        by_cases c23 : (bt t450 x16_1) = (bt t452 x16_1)
                        · rw [if_pos c23] at H
                          have c23b0 : ((bt t450 x16_1) == (bt t452 x16_1)) = true := beq_iff_eq.mpr c23
                          have c23b1 : ((bt t450 x16_1) != (bt t452 x16_1)) = false := bne_eq_false_iff_eq.mpr c23
                          clear c23
                          have H' := Aside0.mk H
                          clear H
                          have p20 : 0 ≤ (x16_1 : Int) := of_decide_eq_true (by first | (with_reducible assumption) | assumption)
                          have q20 : x16_1 < (t450.size : Int) := of_decide_eq_true (by first | (with_reducible assumption) | assumption)
                          have hx20 := bt_at t450 x16_1
                          replace p20 := eq_true p20
                          replace q20 := eq_true q20
                          have p22 : 0 ≤ (x16_1 : Int) := of_decide_eq_true (by first | (with_reducible assumption) | assumption)
                          have q22 : x16_1 < (t452.size : Int) := of_decide_eq_true (by first | (with_reducible assumption) | assumption)
                          have hx22 := bt_at t452 x16_1
                          replace p22 := eq_true p22
                          replace q22 := eq_true q22
                          go_wp2
                          repeat (go_quiet (fail); try go_wp2)
                          go_roundg kj14
                          case measure => have := HK1.out; have := HJ14.out; omega
                          case rel => exact ⟨(x15_1), (wrap64 (x16_1 + 1)), (by first | rfl | (simp; done) | (simp [*]; done)), (by first | rfl | (simp; done) | (simp [*]; done)), H', ⟨by have := HK1.out; have := HJ14.out; omega⟩, ⟨by repeat (first | (with_reducible first | exact HB.out | apply below_alloc | apply pw_below_drewN | apply below_drew1) | exact HB.out)⟩⟩
                        · rw [if_neg c23] at H
                          have c23b0 : ((bt t450 x16_1) == (bt t452 x16_1)) = false := beq_eq_false_iff_ne.mpr c23
                          have c23b1 : ((bt t450 x16_1) != (bt t452 x16_1)) = true := bne_iff_ne.mpr c23
                          have H' := Aside0.mk H
                          clear H
                          have p20 : 0 ≤ (x16_1 : Int) := of_decide_eq_true (by first | (with_reducible assumption) | assumption)
                          have q20 : x16_1 < (t450.size : Int) := of_decide_eq_true (by first | (with_reducible assumption) | assumption)
                          have hx20 := bt_at t450 x16_1
                          replace p20 := eq_true p20
                          replace q20 := eq_true q20
                          have p22 : 0 ≤ (x16_1 : Int) := of_decide_eq_true (by first | (with_reducible assumption) | assumption)
                          have q22 : x16_1 < (t452.size : Int) := of_decide_eq_true (by first | (with_reducible assumption) | assumption)
                          have hx22 := bt_at t452 x16_1
                          replace p22 := eq_true p22
                          replace q22 := eq_true q22
                          go_wp2
                          repeat (go_quiet (fail); try go_wp2)
                          go_roundg kj14
                          case measure => have := HK1.out; have := HJ14.out; omega
                          case rel => exact ⟨(wrap64 (x15_1 + 1)), (wrap64 (x16_1 + 1)), (by first | rfl | (simp; done) | (simp [*]; done)), (by first | rfl | (simp; done) | (simp [*]; done)), H', ⟨by have := HK1.out; have := HJ14.out; omega⟩, ⟨by repeat (first | (with_reducible first | exact HB.out | apply below_alloc | apply pw_below_drewN | apply below_drew1) | exact HB.out)⟩⟩
                      · rw [if_neg c21] at H
                        exact absurd H (by simp)
                    · rw [if_neg c19] at H
                      exact absurd H (by simp)
                  · rw [if_neg c18] at H
                    exact absurd H (by simp)
                · replace c17 := Bool.eq_false_iff.mpr c17
                  subst c17
                  have H1 : ((tinderboxlaw28_awake.f kj14).bind fun t454 => (if t454 = true then (if t451 = 0 then (if t453 = 0 then (if x15_1 > (wrap64 (1 + (Go.bits .and .i64 a2 15))) then (some true) else (some (t450.toList == t452.toList))) else (some false)) else (some false)) else (some false))) = some r := by rw [if_neg (show ¬ (false = true) by decide)] at H; exact H
                  clear H
                  have H := H1
                  clear H1
                  replace H := Option.bind_eq_some_iff.mp H
                  obtain ⟨t454, A240, H⟩ := H
                  replace H : (if t454 = true then (if t451 = 0 then (if t453 = 0 then (if x15_1 > (wrap64 (1 + (Go.bits .and .i64 a2 15))) then (some true) else (some (t450.toList == t452.toList))) else (some false)) else (some false)) else (some false)) = some r := H
                  have A24 := Aside0.mk A240
                  clear A240
                  by_cases c25 : t454 = true
                  · subst c25
                    have H1 : (if t451 = 0 then (if t453 = 0 then (if x15_1 > (wrap64 (1 + (Go.bits .and .i64 a2 15))) then (some true) else (some (t450.toList == t452.toList))) else (some false)) else (some false)) = some r := by rw [if_pos rfl] at H; exact H
                    clear H
                    have H := H1
                    clear H1
                    by_cases c26 : t451 = 0
                    · rw [if_pos c26] at H
                      have c26b0 : (t451 == 0) = true := beq_iff_eq.mpr c26
                      have c26b1 : (t451 != 0) = false := bne_eq_false_iff_eq.mpr c26
                      clear c26
                      by_cases c27 : t453 = 0
                      · rw [if_pos c27] at H
                        have c27b0 : (t453 == 0) = true := beq_iff_eq.mpr c27
                        have c27b1 : (t453 != 0) = false := bne_eq_false_iff_eq.mpr c27
                        clear c27
                        by_cases c28 : x15_1 > (wrap64 (1 + (Go.bits .and .i64 a2 15)))
                        · rw [if_pos c28] at H
                          have c28b0 : decide ((wrap64 (1 + (Go.bits .and .i64 a2 15))) < x15_1) = true := decide_eq_true c28
                          clear c28
                          obtain rfl := Option.some.inj H
                          go_wp2_with (first | (go_at_call 11; (with_reducible refine (tinderboxlaw28_awake.calls kj14  true _ A24.out).mono ?_); rintro e w29 ⟨rfl, hb⟩; have n0_ := Aside0.mk (below_step (by repeat (first | (with_reducible first | exact HB.out | apply below_alloc | apply pw_below_drewN | apply below_drew1) | exact HB.out)) hb); clear HB; have HB := n0_; clear n0_; (try clear hb); (try clear hb2); (try clear hk); (try clear hi)))
                          repeat (go_quiet (first | (go_at_call 11; (with_reducible refine (tinderboxlaw28_awake.calls kj14  true _ A24.out).mono ?_); rintro e w29 ⟨rfl, hb⟩; have n0_ := Aside0.mk (below_step (by repeat (first | (with_reducible first | exact HB.out | apply below_alloc | apply pw_below_drewN | apply below_drew1) | exact HB.out)) hb); clear HB; have HB := n0_; clear n0_; (try clear hb); (try clear hb2); (try clear hk); (try clear hi))); try go_wp2_with (first | (go_at_call 11; (with_reducible refine (tinderboxlaw28_awake.calls kj14  true _ A24.out).mono ?_); rintro e w29 ⟨rfl, hb⟩; have n0_ := Aside0.mk (below_step (by repeat (first | (with_reducible first | exact HB.out | apply below_alloc | apply pw_below_drewN | apply below_drew1) | exact HB.out)) hb); clear HB; have HB := n0_; clear n0_; (try clear hb); (try clear hb2); (try clear hk); (try clear hi))))
                          go_ret
                          exact ⟨by first | rfl | (simp [errW_none, errW_some] <;> rfl) | (simp only [← hji6]; first | rfl | (simp [errW_none, errW_some] <;> rfl)) | (simp [*, errW_none, errW_some] <;> rfl), by repeat (first | (with_reducible first | exact HB.out | apply below_alloc | apply pw_below_drewN | apply below_drew1) | exact HB.out)⟩
                        · rw [if_neg c28] at H
                          have c28b0 : decide ((wrap64 (1 + (Go.bits .and .i64 a2 15))) < x15_1) = false := decide_eq_false c28
                          clear c28
                          obtain rfl := Option.some.inj H
                          go_wp2_with (first | (go_at_call 11; (with_reducible refine (tinderboxlaw28_awake.calls kj14  true _ A24.out).mono ?_); rintro e w30 ⟨rfl, hb⟩; have n0_ := Aside0.mk (below_step (by repeat (first | (with_reducible first | exact HB.out | apply below_alloc | apply pw_below_drewN | apply below_drew1) | exact HB.out)) hb); clear HB; have HB := n0_; clear n0_; (try clear hb); (try clear hb2); (try clear hk); (try clear hi)))
                          repeat (go_quiet (first | (go_at_call 11; (with_reducible refine (tinderboxlaw28_awake.calls kj14  true _ A24.out).mono ?_); rintro e w30 ⟨rfl, hb⟩; have n0_ := Aside0.mk (below_step (by repeat (first | (with_reducible first | exact HB.out | apply below_alloc | apply pw_below_drewN | apply below_drew1) | exact HB.out)) hb); clear HB; have HB := n0_; clear n0_; (try clear hb); (try clear hb2); (try clear hk); (try clear hi))); try go_wp2_with (first | (go_at_call 11; (with_reducible refine (tinderboxlaw28_awake.calls kj14  true _ A24.out).mono ?_); rintro e w30 ⟨rfl, hb⟩; have n0_ := Aside0.mk (below_step (by repeat (first | (with_reducible first | exact HB.out | apply below_alloc | apply pw_below_drewN | apply below_drew1) | exact HB.out)) hb); clear HB; have HB := n0_; clear n0_; (try clear hb); (try clear hb2); (try clear hk); (try clear hi))))
                          go_ret
                          exact ⟨by first | rfl | (simp [errW_none, errW_some] <;> rfl) | (simp only [← hji6]; first | rfl | (simp [errW_none, errW_some] <;> rfl)) | (simp [*, errW_none, errW_some] <;> rfl), by repeat (first | (with_reducible first | exact HB.out | apply below_alloc | apply pw_below_drewN | apply below_drew1) | exact HB.out)⟩
                      · rw [if_neg c27] at H
                        have c27b0 : (t453 == 0) = false := beq_eq_false_iff_ne.mpr c27
                        have c27b1 : (t453 != 0) = true := bne_iff_ne.mpr c27
                        obtain rfl := Option.some.inj H
                        go_wp2_with (first | (go_at_call 11; (with_reducible refine (tinderboxlaw28_awake.calls kj14  true _ A24.out).mono ?_); rintro e w31 ⟨rfl, hb⟩; have n0_ := Aside0.mk (below_step (by repeat (first | (with_reducible first | exact HB.out | apply below_alloc | apply pw_below_drewN | apply below_drew1) | exact HB.out)) hb); clear HB; have HB := n0_; clear n0_; (try clear hb); (try clear hb2); (try clear hk); (try clear hi)))
                        repeat (go_quiet (first | (go_at_call 11; (with_reducible refine (tinderboxlaw28_awake.calls kj14  true _ A24.out).mono ?_); rintro e w31 ⟨rfl, hb⟩; have n0_ := Aside0.mk (below_step (by repeat (first | (with_reducible first | exact HB.out | apply below_alloc | apply pw_below_drewN | apply below_drew1) | exact HB.out)) hb); clear HB; have HB := n0_; clear n0_; (try clear hb); (try clear hb2); (try clear hk); (try clear hi))); try go_wp2_with (first | (go_at_call 11; (with_reducible refine (tinderboxlaw28_awake.calls kj14  true _ A24.out).mono ?_); rintro e w31 ⟨rfl, hb⟩; have n0_ := Aside0.mk (below_step (by repeat (first | (with_reducible first | exact HB.out | apply below_alloc | apply pw_below_drewN | apply below_drew1) | exact HB.out)) hb); clear HB; have HB := n0_; clear n0_; (try clear hb); (try clear hb2); (try clear hk); (try clear hi))))
                        go_ret
                        exact ⟨by first | rfl | (simp [errW_none, errW_some] <;> rfl) | (simp only [← hji6]; first | rfl | (simp [errW_none, errW_some] <;> rfl)) | (simp [*, errW_none, errW_some] <;> rfl), by repeat (first | (with_reducible first | exact HB.out | apply below_alloc | apply pw_below_drewN | apply below_drew1) | exact HB.out)⟩
                    · rw [if_neg c26] at H
                      have c26b0 : (t451 == 0) = false := beq_eq_false_iff_ne.mpr c26
                      have c26b1 : (t451 != 0) = true := bne_iff_ne.mpr c26
                      obtain rfl := Option.some.inj H
                      go_wp2_with (first | (go_at_call 11; (with_reducible refine (tinderboxlaw28_awake.calls kj14  true _ A24.out).mono ?_); rintro e w32 ⟨rfl, hb⟩; have n0_ := Aside0.mk (below_step (by repeat (first | (with_reducible first | exact HB.out | apply below_alloc | apply pw_below_drewN | apply below_drew1) | exact HB.out)) hb); clear HB; have HB := n0_; clear n0_; (try clear hb); (try clear hb2); (try clear hk); (try clear hi)))
                      repeat (go_quiet (first | (go_at_call 11; (with_reducible refine (tinderboxlaw28_awake.calls kj14  true _ A24.out).mono ?_); rintro e w32 ⟨rfl, hb⟩; have n0_ := Aside0.mk (below_step (by repeat (first | (with_reducible first | exact HB.out | apply below_alloc | apply pw_below_drewN | apply below_drew1) | exact HB.out)) hb); clear HB; have HB := n0_; clear n0_; (try clear hb); (try clear hb2); (try clear hk); (try clear hi))); try go_wp2_with (first | (go_at_call 11; (with_reducible refine (tinderboxlaw28_awake.calls kj14  true _ A24.out).mono ?_); rintro e w32 ⟨rfl, hb⟩; have n0_ := Aside0.mk (below_step (by repeat (first | (with_reducible first | exact HB.out | apply below_alloc | apply pw_below_drewN | apply below_drew1) | exact HB.out)) hb); clear HB; have HB := n0_; clear n0_; (try clear hb); (try clear hb2); (try clear hk); (try clear hi))))
                      go_ret
                      exact ⟨by first | rfl | (simp [errW_none, errW_some] <;> rfl) | (simp only [← hji6]; first | rfl | (simp [errW_none, errW_some] <;> rfl)) | (simp [*, errW_none, errW_some] <;> rfl), by repeat (first | (with_reducible first | exact HB.out | apply below_alloc | apply pw_below_drewN | apply below_drew1) | exact HB.out)⟩
                  · replace c25 := Bool.eq_false_iff.mpr c25
                    subst c25
                    have H1 : (some false) = some r := by rw [if_neg (show ¬ (false = true) by decide)] at H; exact H
                    clear H
                    have H := H1
                    clear H1
                    obtain rfl := Option.some.inj H
                    go_wp2_with (first | (go_at_call 11; (with_reducible refine (tinderboxlaw28_awake.calls kj14  false _ A24.out).mono ?_); rintro e w33 ⟨rfl, hb⟩; have n0_ := Aside0.mk (below_step (by repeat (first | (with_reducible first | exact HB.out | apply below_alloc | apply pw_below_drewN | apply below_drew1) | exact HB.out)) hb); clear HB; have HB := n0_; clear n0_; (try clear hb); (try clear hb2); (try clear hk); (try clear hi)))
                    repeat (go_quiet (first | (go_at_call 11; (with_reducible refine (tinderboxlaw28_awake.calls kj14  false _ A24.out).mono ?_); rintro e w33 ⟨rfl, hb⟩; have n0_ := Aside0.mk (below_step (by repeat (first | (with_reducible first | exact HB.out | apply below_alloc | apply pw_below_drewN | apply below_drew1) | exact HB.out)) hb); clear HB; have HB := n0_; clear n0_; (try clear hb); (try clear hb2); (try clear hk); (try clear hi))); try go_wp2_with (first | (go_at_call 11; (with_reducible refine (tinderboxlaw28_awake.calls kj14  false _ A24.out).mono ?_); rintro e w33 ⟨rfl, hb⟩; have n0_ := Aside0.mk (below_step (by repeat (first | (with_reducible first | exact HB.out | apply below_alloc | apply pw_below_drewN | apply below_drew1) | exact HB.out)) hb); clear HB; have HB := n0_; clear n0_; (try clear hb); (try clear hb2); (try clear hk); (try clear hi))))
                    go_ret
                    exact ⟨by first | rfl | (simp [errW_none, errW_some] <;> rfl) | (simp only [← hji6]; first | rfl | (simp [errW_none, errW_some] <;> rfl)) | (simp [*, errW_none, errW_some] <;> rfl), by repeat (first | (with_reducible first | exact HB.out | apply below_alloc | apply pw_below_drewN | apply below_drew1) | exact HB.out)⟩
      · rw [if_neg c11] at H
        exact absurd H (by simp)
    · rw [if_neg c8] at H
      exact absurd H (by simp)
  · rw [if_neg c7] at H
    exact absurd H (by simp)

/-- THE ONE PURE STATEMENT of tinderboxlaw28_RsFar: yours. -/
def tinderboxlaw28_RsFar.Pure : Prop := ∀ (a0 : ByteArray) (a1 : ByteArray) (a2 : Int), a0.size ≤ 140737488351232 → a1.size ≤ 140737488351232 → (Lit.int .i64 a2).wf = true → ∃ k, tinderboxlaw28_RsFar.f k a0 a1 a2 = some true
theorem tinderboxlaw28_RsFar.walk (P : tinderboxlaw28_RsFar.Pure) (a0 : ByteArray) (a1 : ByteArray) (a2 : Int) (w : World) (w0 : a0.size ≤ 140737488351232) (w1 : a1.size ≤ 140737488351232) (w2 : (Lit.int .i64 a2).wf = true) :
    Calls Try.prog 8 #[.string a0, .string a1, .int .i64 a2] w fun e w' => e = .returned (.bool true) ∧ Below w.heap.size w w' := by
  obtain ⟨k, h⟩ := P a0 a1 a2 w0 w1 w2
  refine (tinderboxlaw28_RsFar.calls k a0 a1 a2 true w h).mono ?_
  rintro e w' ⟨rfl, hd⟩
  exact ⟨rfl, hd⟩

end Go.Proofs.Ytconplohaaohlaa.XRs
