import Derived.Test.YtpleeckbakllpaaXWvx0
import Derived.Test.YtpleeckbakllpaaXWvx2
import Derived.Test.YtpleeckbakllpaaXWvx6
import Derived.Test.YtpleeckbakllpaaXWvx10
import Derived.Test.YtpleeckbakllpaaXWvx11
namespace Go.Proofs.Ytpleeckbakllpaa.XWv
open Go.RowKit Go.Proofs.YtpleeckbakllpaaX.PrintWords Go.Proofs.YtpleeckbakllpaaX.PrintLast Go.Proofs.YtpleeckbakllpaaX.PrintMore
attribute [local go_sem] max2_int min2_int max_two min_two max_three min_three max_four min_four
set_option linter.unusedVariables false
set_option linter.unusedSimpArgs false
mutual
def tinderboxlaw29_WeaveBursts.j0 : Nat → ByteArray → Int → List Int → Bool → Int → Int → Int → Int → Option (Bool)
  | 0, _, _, _, _, _, _, _, _ => none
  | k + 1, x0, x1, x2, x34, x500000, x500001, x500002, x500003 => if x34 = true then (some false) else ((tinderboxlaw29_page.f k x0 250).bind fun t501 => ((weave_Encode.f k t501 x500000 x500001 x500002 x500003 7).bind fun bt502 => (if bt502.2 = 0 then (if bt502.1.size ≤ 9223372036854775807 then ((some (bytesOf bt502.1 : List Int)).bind fun y504 => (if (wrap64 ((y504.length : Int) - 12)) = 0 then (none) else (tinderboxlaw29_WeaveBursts.l0 k x2 t501 y504 12 0 (Int.tmod (wrap64 ((wrap64 ((Int.tmod x1 (wrap64 ((y504.length : Int) - 12))) + (y504.length : Int))) - 12)) (wrap64 ((y504.length : Int) - 12))) 0 x500000 x500001 x500002 x500003))) else (none)) else (some false))))
def tinderboxlaw29_WeaveBursts.l0 : Nat → List Int → ByteArray → List Int → Int → Int → Int → Int → Int → Int → Int → Int → Option (Bool)
  | 0, _, _, _, _, _, _, _, _, _, _, _ => none
  | k + 1, x2, x9, x12, x13, x14, x15, x16, x500000, x500001, x500002, x500003 => if x16 < x13 then (tinderboxlaw29_WeaveBursts.j2 k x2 x9 x12 x13 x14 x15 x16 (decide (x16 < (x2.length : Int))) x500000 x500001 x500002 x500003) else (tinderboxlaw29_WeaveBursts.j2 k x2 x9 x12 x13 x14 x15 x16 false x500000 x500001 x500002 x500003)
def tinderboxlaw29_WeaveBursts.j2 : Nat → List Int → ByteArray → List Int → Int → Int → Int → Int → Bool → Int → Int → Int → Int → Option (Bool)
  | 0, _, _, _, _, _, _, _, _, _, _, _, _ => none
  | k + 1, x2, x9, x12, x13, x14, x15, x16, x71, x500000, x500001, x500002, x500003 => if x71 = true then (if 0 ≤ (wrap64 (x15 + x16)) then (if (wrap64 (x15 + x16)) < (x12.length : Int) then (if 0 ≤ x16 then (if x16 < (x2.length : Int) then ((some (x12.set ((wrap64 (x15 + x16)) : Int).toNat (Go.bits .xor .u8 (rd x12 (wrap64 (x15 + x16))) (rd x2 x16)) : List Int)).bind fun y509 => (if (rd x2 x16) = 0 then (tinderboxlaw29_WeaveBursts.l0 k x2 x9 y509 x13 x14 x15 (wrap64 (x16 + 1)) x500000 x500001 x500002 x500003) else (tinderboxlaw29_WeaveBursts.l0 k x2 x9 y509 x13 (wrap64 (x14 + 1)) x15 (wrap64 (x16 + 1)) x500000 x500001 x500002 x500003))) else (none)) else (none)) else (none)) else (none)) else ((weave_Decode.f k (strOfNums x12) x500000 x500001 x500002 x500003 7 ([] : List Int)).bind fun bt511 => (if bt511.2.2 = 0 then (if bt511.1.toList = x9.toList then (some (bt511.2.1 == x14)) else (some false)) else (some false)))
end
def tinderboxlaw29_WeaveBursts.f (k : Nat) (a0 : ByteArray) (a1 : Int) (l2 : List Int) : Option (Bool) := (weave_ShapeOf.f k 250 8).bind fun bt494 => ((tinderboxlaw29_awake.f k).bind fun t500 => (if t500 = true then (if bt494.2.2.2.2 = true then (tinderboxlaw29_WeaveBursts.j0 k a0 a1 l2 (bt494.1 != 3) bt494.1 bt494.2.1 bt494.2.2.1 bt494.2.2.2.1) else (tinderboxlaw29_WeaveBursts.j0 k a0 a1 l2 true bt494.1 bt494.2.1 bt494.2.2.1 bt494.2.2.2.1)) else (tinderboxlaw29_WeaveBursts.j0 k a0 a1 l2 true bt494.1 bt494.2.1 bt494.2.2.1 bt494.2.2.2.1)))
theorem tinderboxlaw29_WeaveBursts.mono_l : ∀ k, (∀ y0 y1 y2 y3 y4 y5 y6 y7, LeO (tinderboxlaw29_WeaveBursts.j0 k y0 y1 y2 y3 y4 y5 y6 y7) (tinderboxlaw29_WeaveBursts.j0 (k + 1) y0 y1 y2 y3 y4 y5 y6 y7)) ∧ (∀ y0 y1 y2 y3 y4 y5 y6 y7 y8 y9 y10, LeO (tinderboxlaw29_WeaveBursts.l0 k y0 y1 y2 y3 y4 y5 y6 y7 y8 y9 y10) (tinderboxlaw29_WeaveBursts.l0 (k + 1) y0 y1 y2 y3 y4 y5 y6 y7 y8 y9 y10)) ∧ (∀ y0 y1 y2 y3 y4 y5 y6 y7 y8 y9 y10 y11, LeO (tinderboxlaw29_WeaveBursts.j2 k y0 y1 y2 y3 y4 y5 y6 y7 y8 y9 y10 y11) (tinderboxlaw29_WeaveBursts.j2 (k + 1) y0 y1 y2 y3 y4 y5 y6 y7 y8 y9 y10 y11))
  | 0 => ⟨fun _ _ _ _ _ _ _ _ r h => by simp [tinderboxlaw29_WeaveBursts.j0] at h, fun _ _ _ _ _ _ _ _ _ _ _ r h => by simp [tinderboxlaw29_WeaveBursts.l0] at h, fun _ _ _ _ _ _ _ _ _ _ _ _ r h => by simp [tinderboxlaw29_WeaveBursts.j2] at h⟩
  | k + 1 => by
    obtain ⟨ih0, ih1, ih2⟩ := tinderboxlaw29_WeaveBursts.mono_l k
    refine ⟨?_, ?_, ?_⟩
    · intro y0 y1 y2 y3 y4 y5 y6 y7
      unfold tinderboxlaw29_WeaveBursts.j0
      repeat' first
      | (with_reducible exact ih0 _ _ _ _ _ _ _ _)
      | (with_reducible exact ih1 _ _ _ _ _ _ _ _ _ _ _)
      | (with_reducible exact ih2 _ _ _ _ _ _ _ _ _ _ _ _)
      | (with_reducible exact tinderboxlaw29_awake.mono _)
      | (with_reducible exact tinderboxlaw29_page.mono _ _ _)
      | (with_reducible exact weave_Decode.mono _ _ _ _ _ _ _ _)
      | (with_reducible exact weave_Encode.mono _ _ _ _ _ _ _)
      | (with_reducible exact weave_ShapeOf.mono _ _ _)
      | (with_reducible exact LeO.refl _)
      | (with_reducible exact LeO.none _)
      | (with_reducible refine LeO.ite ?_ ?_)
      | (with_reducible refine LeO.bind ?_ (fun _ => ?_))
      | exact ih0 _ _ _ _ _ _ _ _
      | exact ih1 _ _ _ _ _ _ _ _ _ _ _
      | exact ih2 _ _ _ _ _ _ _ _ _ _ _ _
      | exact tinderboxlaw29_awake.mono _
      | exact tinderboxlaw29_page.mono _ _ _
      | exact weave_Decode.mono _ _ _ _ _ _ _ _
      | exact weave_Encode.mono _ _ _ _ _ _ _
      | exact weave_ShapeOf.mono _ _ _
      | exact LeO.none _
      | refine LeO.ite ?_ ?_
      | refine LeO.bind ?_ (fun _ => ?_)
    · intro y0 y1 y2 y3 y4 y5 y6 y7 y8 y9 y10
      unfold tinderboxlaw29_WeaveBursts.l0
      repeat' first
      | (with_reducible exact ih0 _ _ _ _ _ _ _ _)
      | (with_reducible exact ih1 _ _ _ _ _ _ _ _ _ _ _)
      | (with_reducible exact ih2 _ _ _ _ _ _ _ _ _ _ _ _)
      | (with_reducible exact tinderboxlaw29_awake.mono _)
      | (with_reducible exact tinderboxlaw29_page.mono _ _ _)
      | (with_reducible exact weave_Decode.mono _ _ _ _ _ _ _ _)
      | (with_reducible exact weave_Encode.mono _ _ _ _ _ _ _)
      | (with_reducible exact weave_ShapeOf.mono _ _ _)
      | (with_reducible exact LeO.refl _)
      | (with_reducible exact LeO.none _)
      | (with_reducible refine LeO.ite ?_ ?_)
      | (with_reducible refine LeO.bind ?_ (fun _ => ?_))
      | exact ih0 _ _ _ _ _ _ _ _
      | exact ih1 _ _ _ _ _ _ _ _ _ _ _
      | exact ih2 _ _ _ _ _ _ _ _ _ _ _ _
      | exact tinderboxlaw29_awake.mono _
      | exact tinderboxlaw29_page.mono _ _ _
      | exact weave_Decode.mono _ _ _ _ _ _ _ _
      | exact weave_Encode.mono _ _ _ _ _ _ _
      | exact weave_ShapeOf.mono _ _ _
      | exact LeO.none _
      | refine LeO.ite ?_ ?_
      | refine LeO.bind ?_ (fun _ => ?_)
    · intro y0 y1 y2 y3 y4 y5 y6 y7 y8 y9 y10 y11
      unfold tinderboxlaw29_WeaveBursts.j2
      repeat' first
      | (with_reducible exact ih0 _ _ _ _ _ _ _ _)
      | (with_reducible exact ih1 _ _ _ _ _ _ _ _ _ _ _)
      | (with_reducible exact ih2 _ _ _ _ _ _ _ _ _ _ _ _)
      | (with_reducible exact tinderboxlaw29_awake.mono _)
      | (with_reducible exact tinderboxlaw29_page.mono _ _ _)
      | (with_reducible exact weave_Decode.mono _ _ _ _ _ _ _ _)
      | (with_reducible exact weave_Encode.mono _ _ _ _ _ _ _)
      | (with_reducible exact weave_ShapeOf.mono _ _ _)
      | (with_reducible exact LeO.refl _)
      | (with_reducible exact LeO.none _)
      | (with_reducible refine LeO.ite ?_ ?_)
      | (with_reducible refine LeO.bind ?_ (fun _ => ?_))
      | exact ih0 _ _ _ _ _ _ _ _
      | exact ih1 _ _ _ _ _ _ _ _ _ _ _
      | exact ih2 _ _ _ _ _ _ _ _ _ _ _ _
      | exact tinderboxlaw29_awake.mono _
      | exact tinderboxlaw29_page.mono _ _ _
      | exact weave_Decode.mono _ _ _ _ _ _ _ _
      | exact weave_Encode.mono _ _ _ _ _ _ _
      | exact weave_ShapeOf.mono _ _ _
      | exact LeO.none _
      | refine LeO.ite ?_ ?_
      | refine LeO.bind ?_ (fun _ => ?_)
theorem tinderboxlaw29_WeaveBursts.mono : ∀ a0 a1 a2 k, LeO (tinderboxlaw29_WeaveBursts.f k a0 a1 a2) (tinderboxlaw29_WeaveBursts.f (k + 1) a0 a1 a2) := by
  intro a0 a1 a2 k
  obtain ⟨ih0, ih1, ih2⟩ := tinderboxlaw29_WeaveBursts.mono_l k
  unfold tinderboxlaw29_WeaveBursts.f
  repeat' first
      | (with_reducible exact ih0 _ _ _ _ _ _ _ _)
      | (with_reducible exact ih1 _ _ _ _ _ _ _ _ _ _ _)
      | (with_reducible exact ih2 _ _ _ _ _ _ _ _ _ _ _ _)
      | (with_reducible exact tinderboxlaw29_awake.mono _)
      | (with_reducible exact tinderboxlaw29_page.mono _ _ _)
      | (with_reducible exact weave_Decode.mono _ _ _ _ _ _ _ _)
      | (with_reducible exact weave_Encode.mono _ _ _ _ _ _ _)
      | (with_reducible exact weave_ShapeOf.mono _ _ _)
      | (with_reducible exact LeO.refl _)
      | (with_reducible exact LeO.none _)
      | (with_reducible refine LeO.ite ?_ ?_)
      | (with_reducible refine LeO.bind ?_ (fun _ => ?_))
      | exact ih0 _ _ _ _ _ _ _ _
      | exact ih1 _ _ _ _ _ _ _ _ _ _ _
      | exact ih2 _ _ _ _ _ _ _ _ _ _ _ _
      | exact tinderboxlaw29_awake.mono _
      | exact tinderboxlaw29_page.mono _ _ _
      | exact weave_Decode.mono _ _ _ _ _ _ _ _
      | exact weave_Encode.mono _ _ _ _ _ _ _
      | exact weave_ShapeOf.mono _ _ _
      | exact LeO.none _
      | refine LeO.ite ?_ ?_
      | refine LeO.bind ?_ (fun _ => ?_)
def tinderboxlaw29_WeaveBursts.T14 : Bool × List (List Nat × List Nat) := (true, [([], []), ([], []), ([], []), ([1, 2], [1, 2]), ([0, 3], [0, 3]), ([4], [4]), ([], []), ([], []), ([6, 7], [6, 7]), ([8], [8]), ([5, 9], [5, 9]), ([0, 3, 0, 1, 2, 3, 4, 5, 6, 7, 8, 9, 10], [0, 3]), ([11, 10, 0, 1, 2, 3, 4, 5, 6, 7, 8, 9, 10], [10, 11])])
def tinderboxlaw29_WeaveBursts.B14 : List Nat := [0, 0, 0, 6, 15, 31, 0, 0, 192, 448, 1023, 2047, 4095]
theorem tinderboxlaw29_WeaveBursts.tab14 : rtab .any (opsOf Try.f6 14) = tinderboxlaw29_WeaveBursts.T14 := by kernel_rfl
theorem tinderboxlaw29_WeaveBursts.bits14 : waitsOk tinderboxlaw29_WeaveBursts.T14.2 tinderboxlaw29_WeaveBursts.B14 = true := by kernel_rfl
set_option maxHeartbeats 8000000 in
set_option maxRecDepth 100000 in
theorem tinderboxlaw29_WeaveBursts.calls (k : Nat) (a0 : ByteArray) (a1 : Int) (A2 : Option Addr) (c2 : Nat) (l2 : List Int) (r : Bool) (w : World) (hr2 : Kd.C (Kd.int .u8) w A2 l2.length l2) (hc2 : l2.length ≤ c2) (h : tinderboxlaw29_WeaveBursts.f k a0 a1 l2 = some r) :
    Calls Try.prog 6 #[.string a0, .int .i64 a1, .slice A2 l2.length c2] w fun e w' => e = .returned (.bool r) ∧ Below w.heap.size w w' := by
  have hu23 := Try.underlying23
  have HR2 := Aside0.mk hr2
  have HC2 := Aside0.mk hc2
  clear hr2 hc2
  have HB := Aside0.mk (Below.refl w.heap.size w)
  have H : ((weave_ShapeOf.f k 250 8).bind fun bt494 => ((tinderboxlaw29_awake.f k).bind fun t500 => (if t500 = true then (if bt494.2.2.2.2 = true then (tinderboxlaw29_WeaveBursts.j0 k a0 a1 l2 (bt494.1 != 3) bt494.1 bt494.2.1 bt494.2.2.1 bt494.2.2.2.1) else (tinderboxlaw29_WeaveBursts.j0 k a0 a1 l2 true bt494.1 bt494.2.1 bt494.2.2.1 bt494.2.2.2.1)) else (tinderboxlaw29_WeaveBursts.j0 k a0 a1 l2 true bt494.1 bt494.2.1 bt494.2.2.1 bt494.2.2.2.1)))) = some r := h
  clear h
  replace H := Option.bind_eq_some_iff.mp H
  obtain ⟨⟨t494, t495, t496, t497, t498⟩, A40, H⟩ := H
  replace H : ((tinderboxlaw29_awake.f k).bind fun t500 => (if t500 = true then (if t498 = true then (tinderboxlaw29_WeaveBursts.j0 k a0 a1 l2 (t494 != 3) t494 t495 t496 t497) else (tinderboxlaw29_WeaveBursts.j0 k a0 a1 l2 true t494 t495 t496 t497)) else (tinderboxlaw29_WeaveBursts.j0 k a0 a1 l2 true t494 t495 t496 t497))) = some r := H
  have A4 := Aside0.mk A40
  clear A40
  have HC5 := Aside0.mk H
  clear H
  go_enter Try.func6, Try.ntmps6
  go_upto_region 2 with (first | ((with_reducible refine gate_callee (f := 9) rfl ?_); refine goesL_ (some 21) rfl rfl Try.func9 (by kernel_rfl) rfl #[.int .i64 250, .int .i64 8] rfl (by (try simp only [List.map_toArray, List.map_cons, List.map_nil]); first | done | rfl | (simp only [List.length_drop, List.length_take]; rfl)) ?_; (with_reducible refine (weave_ShapeOf.calls k 250 8 t494 t495 t496 t497 t498 _ A4.out).mono ?_); rintro e w6 ⟨rfl, hb⟩; refine ⟨_, rfl, ?_⟩; have n0_ := Aside0.mk (below_step (by repeat (first | (with_reducible first | exact HB.out | apply below_alloc | apply pw_below_drewN | apply below_drew1) | exact HB.out)) hb); clear HB; have HB := n0_; clear n0_; (try clear hb); (try clear hb2); (try clear hk); (try clear hi)) | ((with_reducible refine gate_dst (N := 7) rfl ?_); refine box_event ?hg (N := 7) ?hd (cs := #[.int .i64 0, .int .i64 0, .int .i64 0, .int .i64 0]) (t := 23) ?hr ?_; (case hd => rfl); (case hg => rfl); (case hr => first | (go_simp; done) | (go_simp; rfl)); intro gb499 hg w7 hbox hb; have n0_ := Aside0.mk (below_step (by repeat (first | (with_reducible first | exact HB.out | apply below_alloc | apply pw_below_drewN | apply below_drew1) | exact HB.out)) hb); have n1_ := Aside0.mk (hbox); have n2_ := Aside0.mk ((by rw [hg]; exact (below_size (by repeat (first | (with_reducible first | exact HB.out | apply below_alloc | apply pw_below_drewN | apply below_drew1) | exact HB.out))) : w.heap.size ≤ gb499)); have n3_ := Aside0.mk ((by rw [hg]; exact (below_size (by repeat (first | (with_reducible first | exact HB.out | apply below_alloc | apply pw_below_drewN | apply below_drew1) | exact HB.out))) : w.heap.size ≤ gb499)); clear HB; have HB := n0_; have BK499 := n1_; have GW499 := n2_; have GE499 := n3_; clear n0_ n1_ n2_ n3_; clear hb hbox hg; have hcz8_0 : w7.cell? ⟨gb499, 0, none⟩ = some (.int .i64 0) := (blk_cell BK499.out 0).trans rfl; have hcz8_1 : w7.cell? ⟨gb499, 1, none⟩ = some (.int .i64 0) := (blk_cell BK499.out 1).trans rfl; have hcz8_2 : w7.cell? ⟨gb499, 2, none⟩ = some (.int .i64 0) := (blk_cell BK499.out 2).trans rfl; have hcz8_3 : w7.cell? ⟨gb499, 3, none⟩ = some (.int .i64 0) := (blk_cell BK499.out 3).trans rfl; have hfz8_0 := blk_frozen BK499.out 0; have hfz8_1 := blk_frozen BK499.out 1; have hfz8_2 := blk_frozen BK499.out 2; have hfz8_3 := blk_frozen BK499.out 3))
  (try simp only [Act.put, List.setIfInBounds_toArray, List.set_cons_zero, List.set_cons_succ])
  go_cut [34] (fun v34 wc => ∃ (kq : Nat) (x34_4 : Bool), v34 = .bool x34_4 ∧ Aside0 (tinderboxlaw29_WeaveBursts.j0 kq a0 a1 l2 x34_4 t494 t495 t496 t497 = some r) ∧ Aside0 (kq ≤ k) ∧ Aside0 (wc.heap[gb499]? = some (.cells #[.int .i64 t494, .int .i64 t495, .int .i64 t496, .int .i64 t497] 23 (0, 0))) ∧ Aside0 (Below w.heap.size w wc))
  case first =>
    have H := HC5.out
    clear HC5
    replace H := Option.bind_eq_some_iff.mp H
    obtain ⟨t500, A90, H⟩ := H
    have A9 := Aside0.mk A90
    clear A90
    by_cases c10 : t500 = true
    rotate_left
    · replace c10 := Bool.eq_false_iff.mpr c10
      subst c10
      rw [if_neg (show ¬ (false = true) by decide)] at H
      have H' := Aside0.mk H
      clear H
      go_wp2_with (first | ((with_reducible refine gate_callee (f := 11) rfl ?_); refine goesL_ (some 24) rfl rfl Try.func11 (by kernel_rfl) rfl #[] rfl (by (try simp only [List.map_toArray, List.map_cons, List.map_nil]); first | done | rfl | (simp only [List.length_drop, List.length_take]; rfl)) ?_; (with_reducible refine (tinderboxlaw29_awake.calls k  false _ A9.out).mono ?_); rintro e w15 ⟨rfl, hb⟩; refine ⟨_, rfl, ?_⟩; have n0_ := Aside0.mk (blk_below (g := gb499) (o := .cells #[.int .i64 t494, .int .i64 t495, .int .i64 t496, .int .i64 t497] 23 (0, 0)) (by (with_reducible repeat (first | refine blk_drewN ?_ _ | refine blk_drew ?_ | refine blk_alloc ?_ _)); refine blk_put (cs := #[.int .i64 t494, .int .i64 t495, .int .i64 t496, .int .i64 0]) ?_ 3 _ rfl; (with_reducible repeat (first | refine blk_drewN ?_ _ | refine blk_drew ?_ | refine blk_alloc ?_ _)); refine blk_put (cs := #[.int .i64 t494, .int .i64 t495, .int .i64 0, .int .i64 0]) ?_ 2 _ rfl; (with_reducible repeat (first | refine blk_drewN ?_ _ | refine blk_drew ?_ | refine blk_alloc ?_ _)); refine blk_put (cs := #[.int .i64 t494, .int .i64 0, .int .i64 0, .int .i64 0]) ?_ 1 _ rfl; (with_reducible repeat (first | refine blk_drewN ?_ _ | refine blk_drew ?_ | refine blk_alloc ?_ _)); refine blk_put (cs := #[.int .i64 0, .int .i64 0, .int .i64 0, .int .i64 0]) ?_ 0 _ rfl; (with_reducible repeat (first | refine blk_drewN ?_ _ | refine blk_drew ?_ | refine blk_alloc ?_ _)); exact BK499.out) hb); have n1_ := Aside0.mk (below_step (by repeat (first | (with_reducible first | exact HB.out | apply below_alloc | apply pw_below_drewN | apply below_drew1 | refine below_set ?_ GE499.out) | exact HB.out)) hb); clear BK499; clear HB; have BK499 := n0_; have HB := n1_; clear n0_ n1_; (try clear hb); (try clear hb2); (try clear hk); (try clear hi)))
      go_meet
      case rel => exact ⟨_, (true), (by first | rfl | (simp; done) | (simp [*]; done)), H', ⟨by first | omega | exact Nat.le_refl _⟩, ⟨by (with_reducible repeat (first | refine blk_drewN ?_ _ | refine blk_drew ?_ | refine blk_alloc ?_ _)); exact BK499.out⟩, ⟨by repeat (first | (with_reducible first | exact HB.out | apply below_alloc | apply pw_below_drewN | apply below_drew1 | refine below_set ?_ GE499.out) | exact HB.out)⟩⟩
    subst c10
    rw [if_pos rfl] at H
    by_cases c11 : t498 = true
    rotate_left
    · replace c11 := Bool.eq_false_iff.mpr c11
      subst c11
      rw [if_neg (show ¬ (false = true) by decide)] at H
      have H' := Aside0.mk H
      clear H
      go_wp2_with (first | ((with_reducible refine gate_callee (f := 11) rfl ?_); refine goesL_ (some 24) rfl rfl Try.func11 (by kernel_rfl) rfl #[] rfl (by (try simp only [List.map_toArray, List.map_cons, List.map_nil]); first | done | rfl | (simp only [List.length_drop, List.length_take]; rfl)) ?_; (with_reducible refine (tinderboxlaw29_awake.calls k  true _ A9.out).mono ?_); rintro e w14 ⟨rfl, hb⟩; refine ⟨_, rfl, ?_⟩; have n0_ := Aside0.mk (blk_below (g := gb499) (o := .cells #[.int .i64 t494, .int .i64 t495, .int .i64 t496, .int .i64 t497] 23 (0, 0)) (by (with_reducible repeat (first | refine blk_drewN ?_ _ | refine blk_drew ?_ | refine blk_alloc ?_ _)); refine blk_put (cs := #[.int .i64 t494, .int .i64 t495, .int .i64 t496, .int .i64 0]) ?_ 3 _ rfl; (with_reducible repeat (first | refine blk_drewN ?_ _ | refine blk_drew ?_ | refine blk_alloc ?_ _)); refine blk_put (cs := #[.int .i64 t494, .int .i64 t495, .int .i64 0, .int .i64 0]) ?_ 2 _ rfl; (with_reducible repeat (first | refine blk_drewN ?_ _ | refine blk_drew ?_ | refine blk_alloc ?_ _)); refine blk_put (cs := #[.int .i64 t494, .int .i64 0, .int .i64 0, .int .i64 0]) ?_ 1 _ rfl; (with_reducible repeat (first | refine blk_drewN ?_ _ | refine blk_drew ?_ | refine blk_alloc ?_ _)); refine blk_put (cs := #[.int .i64 0, .int .i64 0, .int .i64 0, .int .i64 0]) ?_ 0 _ rfl; (with_reducible repeat (first | refine blk_drewN ?_ _ | refine blk_drew ?_ | refine blk_alloc ?_ _)); exact BK499.out) hb); have n1_ := Aside0.mk (below_step (by repeat (first | (with_reducible first | exact HB.out | apply below_alloc | apply pw_below_drewN | apply below_drew1 | refine below_set ?_ GE499.out) | exact HB.out)) hb); clear BK499; clear HB; have BK499 := n0_; have HB := n1_; clear n0_ n1_; (try clear hb); (try clear hb2); (try clear hk); (try clear hi)))
      go_meet
      case rel => exact ⟨_, (true), (by first | rfl | (simp; done) | (simp [*]; done)), H', ⟨by first | omega | exact Nat.le_refl _⟩, ⟨by (with_reducible repeat (first | refine blk_drewN ?_ _ | refine blk_drew ?_ | refine blk_alloc ?_ _)); exact BK499.out⟩, ⟨by repeat (first | (with_reducible first | exact HB.out | apply below_alloc | apply pw_below_drewN | apply below_drew1 | refine below_set ?_ GE499.out) | exact HB.out)⟩⟩
    subst c11
    rw [if_pos rfl] at H
    have H' := Aside0.mk H
    clear H
    go_wp2_with (first | ((with_reducible refine gate_callee (f := 11) rfl ?_); refine goesL_ (some 24) rfl rfl Try.func11 (by kernel_rfl) rfl #[] rfl (by (try simp only [List.map_toArray, List.map_cons, List.map_nil]); first | done | rfl | (simp only [List.length_drop, List.length_take]; rfl)) ?_; (with_reducible refine (tinderboxlaw29_awake.calls k  true _ A9.out).mono ?_); rintro e w12 ⟨rfl, hb⟩; refine ⟨_, rfl, ?_⟩; have n0_ := Aside0.mk (blk_below (g := gb499) (o := .cells #[.int .i64 t494, .int .i64 t495, .int .i64 t496, .int .i64 t497] 23 (0, 0)) (by (with_reducible repeat (first | refine blk_drewN ?_ _ | refine blk_drew ?_ | refine blk_alloc ?_ _)); refine blk_put (cs := #[.int .i64 t494, .int .i64 t495, .int .i64 t496, .int .i64 0]) ?_ 3 _ rfl; (with_reducible repeat (first | refine blk_drewN ?_ _ | refine blk_drew ?_ | refine blk_alloc ?_ _)); refine blk_put (cs := #[.int .i64 t494, .int .i64 t495, .int .i64 0, .int .i64 0]) ?_ 2 _ rfl; (with_reducible repeat (first | refine blk_drewN ?_ _ | refine blk_drew ?_ | refine blk_alloc ?_ _)); refine blk_put (cs := #[.int .i64 t494, .int .i64 0, .int .i64 0, .int .i64 0]) ?_ 1 _ rfl; (with_reducible repeat (first | refine blk_drewN ?_ _ | refine blk_drew ?_ | refine blk_alloc ?_ _)); refine blk_put (cs := #[.int .i64 0, .int .i64 0, .int .i64 0, .int .i64 0]) ?_ 0 _ rfl; (with_reducible repeat (first | refine blk_drewN ?_ _ | refine blk_drew ?_ | refine blk_alloc ?_ _)); exact BK499.out) hb); have n1_ := Aside0.mk (below_step (by repeat (first | (with_reducible first | exact HB.out | apply below_alloc | apply pw_below_drewN | apply below_drew1 | refine below_set ?_ GE499.out) | exact HB.out)) hb); clear BK499; clear HB; have BK499 := n0_; have HB := n1_; clear n0_ n1_; (try clear hb); (try clear hb2); (try clear hk); (try clear hi); have hcz13_0 : w12.cell? ⟨gb499, 0, none⟩ = some (.int .i64 t494) := (blk_cell BK499.out 0).trans rfl; have hcz13_1 : w12.cell? ⟨gb499, 1, none⟩ = some (.int .i64 t495) := (blk_cell BK499.out 1).trans rfl; have hcz13_2 : w12.cell? ⟨gb499, 2, none⟩ = some (.int .i64 t496) := (blk_cell BK499.out 2).trans rfl; have hcz13_3 : w12.cell? ⟨gb499, 3, none⟩ = some (.int .i64 t497) := (blk_cell BK499.out 3).trans rfl; have hfz13_0 := blk_frozen BK499.out 0; have hfz13_1 := blk_frozen BK499.out 1; have hfz13_2 := blk_frozen BK499.out 2; have hfz13_3 := blk_frozen BK499.out 3))
    go_meet
    case rel => exact ⟨_, ((t494 != 3)), (by first | rfl | (simp; done) | (simp [*]; done)), H', ⟨by first | omega | exact Nat.le_refl _⟩, ⟨by (with_reducible repeat (first | refine blk_drewN ?_ _ | refine blk_drew ?_ | refine blk_alloc ?_ _)); exact BK499.out⟩, ⟨by repeat (first | (with_reducible first | exact HB.out | apply below_alloc | apply pw_below_drewN | apply below_drew1 | refine below_set ?_ GE499.out) | exact HB.out)⟩⟩
  case rest =>
    clear HC5
    try clear c1
    try clear c2
    try clear p2
    try clear c6
    try clear c9
    try clear c10
    try clear c11
    try clear hcz13_0
    try clear hcz13_1
    try clear hcz13_2
    try clear hcz13_3
    try clear hcz8_0
    try clear hcz8_1
    try clear hcz8_2
    try clear hcz8_3
    try clear hfz13_0
    try clear hfz13_1
    try clear hfz13_2
    try clear hfz13_3
    try clear hfz8_0
    try clear hfz8_1
    try clear hfz8_2
    try clear hfz8_3
    obtain ⟨kq, x34_4, rfl, HA, HJ4, BK499, HB⟩ := hcut
    cases kq with
    | zero => exact absurd HA.out (by simp [tinderboxlaw29_WeaveBursts.j0])
    | succ kj4 =>
      have H := HA.out
      clear HA
      simp only [tinderboxlaw29_WeaveBursts.j0] at H
      by_cases c16 : x34_4 = true
      · subst c16
        rw [if_pos rfl] at H
        obtain rfl := Option.some.inj H
        go_wp2
        go_ret
        exact ⟨by first | rfl | (simp [errW_none, errW_some] <;> rfl) | (simp [*, errW_none, errW_some] <;> rfl), by repeat (first | (with_reducible first | exact HB.out | apply below_alloc | apply pw_below_drewN | apply below_drew1 | refine below_set ?_ GE499.out) | exact HB.out)⟩
      replace c16 := Bool.eq_false_iff.mpr c16
      subst c16
      rw [if_neg (show ¬ (false = true) by decide)] at H
      replace H := Option.bind_eq_some_iff.mp H
      obtain ⟨t501, A170, H⟩ := H
      have A17 := Aside0.mk A170
      clear A170
      replace H := Option.bind_eq_some_iff.mp H
      obtain ⟨⟨t502, t503⟩, A180, H⟩ := H
      replace H : (if t503 = 0 then (if t502.size ≤ 9223372036854775807 then ((some (bytesOf t502 : List Int)).bind fun y504 => (if (wrap64 ((y504.length : Int) - 12)) = 0 then (none) else (tinderboxlaw29_WeaveBursts.l0 kj4 l2 t501 y504 12 0 (Int.tmod (wrap64 ((wrap64 ((Int.tmod a1 (wrap64 ((y504.length : Int) - 12))) + (y504.length : Int))) - 12)) (wrap64 ((y504.length : Int) - 12))) 0 t494 t495 t496 t497))) else (none)) else (some false)) = some r := H
      have A18 := Aside0.mk A180
      clear A180
      by_cases c19 : t503 = 0
      rotate_left
      · rw [if_neg c19] at H
        have c19b0 : (t503 == 0) = false := beq_eq_false_iff_ne.mpr c19
        have c19b1 : (t503 != 0) = true := bne_iff_ne.mpr c19
        obtain rfl := Option.some.inj H
        go_wp2_with (first | ((with_reducible refine gate_callee (f := 15) rfl ?_); refine goesL_ (some 36) rfl rfl Try.func15 (by kernel_rfl) rfl #[.string a0, .int .i64 250] rfl (by (try simp only [List.map_toArray, List.map_cons, List.map_nil]); first | done | rfl | (simp only [List.length_drop, List.length_take]; rfl)) ?_; (with_reducible refine (tinderboxlaw29_page.calls kj4 a0 250 t501 _ A17.out).mono ?_); rintro e w54 ⟨rfl, hb⟩; refine ⟨_, rfl, ?_⟩; have n0_ := Aside0.mk (blk_below (g := gb499) (o := .cells #[.int .i64 t494, .int .i64 t495, .int .i64 t496, .int .i64 t497] 23 (0, 0)) (by (with_reducible repeat (first | refine blk_drewN ?_ _ | refine blk_drew ?_ | refine blk_alloc ?_ _)); exact BK499.out) hb); have n1_ := Aside0.mk (below_step (by repeat (first | (with_reducible first | exact HB.out | apply below_alloc | apply pw_below_drewN | apply below_drew1 | refine below_set ?_ GE499.out) | exact HB.out)) hb); clear BK499; clear HB; have BK499 := n0_; have HB := n1_; clear n0_ n1_; (try clear hb); (try clear hb2); (try clear hk); (try clear hi); have hcz55_0 : w54.cell? ⟨gb499, 0, none⟩ = some (.int .i64 t494) := (blk_cell BK499.out 0).trans rfl; have hcz55_1 : w54.cell? ⟨gb499, 1, none⟩ = some (.int .i64 t495) := (blk_cell BK499.out 1).trans rfl; have hcz55_2 : w54.cell? ⟨gb499, 2, none⟩ = some (.int .i64 t496) := (blk_cell BK499.out 2).trans rfl; have hcz55_3 : w54.cell? ⟨gb499, 3, none⟩ = some (.int .i64 t497) := (blk_cell BK499.out 3).trans rfl; have hfz55_0 := blk_frozen BK499.out 0; have hfz55_1 := blk_frozen BK499.out 1; have hfz55_2 := blk_frozen BK499.out 2; have hfz55_3 := blk_frozen BK499.out 3) | ((with_reducible refine gate_callee (f := 16) rfl ?_); refine goesL_ (some 40) rfl rfl Try.func16 (by kernel_rfl) rfl #[.string t501, .agg #[.int .i64 t494, .int .i64 t495, .int .i64 t496, .int .i64 t497], .int .i64 7] rfl (by (try simp only [List.map_toArray, List.map_cons, List.map_nil]); first | done | rfl | (simp only [List.length_drop, List.length_take]; rfl)) ?_; (with_reducible refine (weave_Encode.calls kj4 t501 t494 t495 t496 t497 7 t502 t503 _ A18.out).mono ?_); rintro e w56 ⟨rfl, hb⟩; refine ⟨_, rfl, ?_⟩; have n0_ := Aside0.mk (blk_below (g := gb499) (o := .cells #[.int .i64 t494, .int .i64 t495, .int .i64 t496, .int .i64 t497] 23 (0, 0)) (by (with_reducible repeat (first | refine blk_drewN ?_ _ | refine blk_drew ?_ | refine blk_alloc ?_ _)); exact BK499.out) hb); have n1_ := Aside0.mk (below_step (by repeat (first | (with_reducible first | exact HB.out | apply below_alloc | apply pw_below_drewN | apply below_drew1 | refine below_set ?_ GE499.out) | exact HB.out)) hb); clear BK499; clear HB; have BK499 := n0_; have HB := n1_; clear n0_ n1_; (try clear hb); (try clear hb2); (try clear hk); (try clear hi)))
        go_ret
        exact ⟨by first | rfl | (simp [errW_none, errW_some] <;> rfl) | (simp [*, errW_none, errW_some] <;> rfl), by repeat (first | (with_reducible first | exact HB.out | apply below_alloc | apply pw_below_drewN | apply below_drew1 | refine below_set ?_ GE499.out) | exact HB.out)⟩
      rw [if_pos c19] at H
      have c19b0 : (t503 == 0) = true := beq_iff_eq.mpr c19
      have c19b1 : (t503 != 0) = false := bne_eq_false_iff_eq.mpr c19
      clear c19
      by_cases c20 : t502.size ≤ 9223372036854775807
      rotate_left
      · rw [if_neg c20] at H
        exact absurd H (by simp)
      rw [if_pos c20] at H
      have c20b0 := eq_true c20
      have c20b1 : decide (t502.size ≤ 9223372036854775807) = true := decide_eq_true c20
      try have c20b2 : (9223372036854775807 < t502.size) = False := eq_false (Nat.not_lt.2 c20)
      clear c20
      obtain ⟨y504, hy504⟩ : ∃ y_ : List Int, y_ = (bytesOf t502) := ⟨_, rfl⟩
      replace H : (if (wrap64 ((y504.length : Int) - 12)) = 0 then (none) else (tinderboxlaw29_WeaveBursts.l0 kj4 l2 t501 y504 12 0 (Int.tmod (wrap64 ((wrap64 ((Int.tmod a1 (wrap64 ((y504.length : Int) - 12))) + (y504.length : Int))) - 12)) (wrap64 ((y504.length : Int) - 12))) 0 t494 t495 t496 t497)) = some r := by first | (rw [hy504]; with_reducible exact H) | (have H2_ := (Option.bind_some _ _).symm.trans H; rw [hy504]; with_reducible exact H2_) | (have H2_ := (Option.bind_some _ _).symm.trans H; with_reducible exact H2_) | with_reducible exact H | (rw [hy504]; exact H) | exact H
      have Ny504 := Aside0.mk hy504
      clear hy504
      by_cases c21 : (wrap64 ((y504.length : Int) - 12)) = 0
      · rw [if_pos c21] at H
        exact absurd H (by simp)
      rw [if_neg c21] at H
      have c21b0 : ((wrap64 ((y504.length : Int) - 12)) == 0) = false := beq_eq_false_iff_ne.mpr c21
      have c21b1 : ((wrap64 ((y504.length : Int) - 12)) != 0) = true := bne_iff_ne.mpr c21
      have H' := Aside0.mk H
      clear H
      go_wp2_with (first | ((with_reducible refine gate_callee (f := 15) rfl ?_); refine goesL_ (some 36) rfl rfl Try.func15 (by kernel_rfl) rfl #[.string a0, .int .i64 250] rfl (by (try simp only [List.map_toArray, List.map_cons, List.map_nil]); first | done | rfl | (simp only [List.length_drop, List.length_take]; rfl)) ?_; (with_reducible refine (tinderboxlaw29_page.calls kj4 a0 250 t501 _ A17.out).mono ?_); rintro e w22 ⟨rfl, hb⟩; refine ⟨_, rfl, ?_⟩; have n0_ := Aside0.mk (blk_below (g := gb499) (o := .cells #[.int .i64 t494, .int .i64 t495, .int .i64 t496, .int .i64 t497] 23 (0, 0)) (by (with_reducible repeat (first | refine blk_drewN ?_ _ | refine blk_drew ?_ | refine blk_alloc ?_ _)); exact BK499.out) hb); have n1_ := Aside0.mk (below_step (by repeat (first | (with_reducible first | exact HB.out | apply below_alloc | apply pw_below_drewN | apply below_drew1 | refine below_set ?_ GE499.out) | exact HB.out)) hb); clear BK499; clear HB; have BK499 := n0_; have HB := n1_; clear n0_ n1_; (try clear hb); (try clear hb2); (try clear hk); (try clear hi); have hcz23_0 : w22.cell? ⟨gb499, 0, none⟩ = some (.int .i64 t494) := (blk_cell BK499.out 0).trans rfl; have hcz23_1 : w22.cell? ⟨gb499, 1, none⟩ = some (.int .i64 t495) := (blk_cell BK499.out 1).trans rfl; have hcz23_2 : w22.cell? ⟨gb499, 2, none⟩ = some (.int .i64 t496) := (blk_cell BK499.out 2).trans rfl; have hcz23_3 : w22.cell? ⟨gb499, 3, none⟩ = some (.int .i64 t497) := (blk_cell BK499.out 3).trans rfl; have hfz23_0 := blk_frozen BK499.out 0; have hfz23_1 := blk_frozen BK499.out 1; have hfz23_2 := blk_frozen BK499.out 2; have hfz23_3 := blk_frozen BK499.out 3) | ((with_reducible refine gate_callee (f := 16) rfl ?_); refine goesL_ (some 40) rfl rfl Try.func16 (by kernel_rfl) rfl #[.string t501, .agg #[.int .i64 t494, .int .i64 t495, .int .i64 t496, .int .i64 t497], .int .i64 7] rfl (by (try simp only [List.map_toArray, List.map_cons, List.map_nil]); first | done | rfl | (simp only [List.length_drop, List.length_take]; rfl)) ?_; (with_reducible refine (weave_Encode.calls kj4 t501 t494 t495 t496 t497 7 t502 t503 _ A18.out).mono ?_); rintro e w24 ⟨rfl, hb⟩; refine ⟨_, rfl, ?_⟩; have n0_ := Aside0.mk (blk_below (g := gb499) (o := .cells #[.int .i64 t494, .int .i64 t495, .int .i64 t496, .int .i64 t497] 23 (0, 0)) (by (with_reducible repeat (first | refine blk_drewN ?_ _ | refine blk_drew ?_ | refine blk_alloc ?_ _)); exact BK499.out) hb); have n1_ := Aside0.mk (below_step (by repeat (first | (with_reducible first | exact HB.out | apply below_alloc | apply pw_below_drewN | apply below_drew1 | refine below_set ?_ GE499.out) | exact HB.out)) hb); clear BK499; clear HB; have BK499 := n0_; have HB := n1_; clear n0_ n1_; (try clear hb); (try clear hb2); (try clear hk); (try clear hi)) | ((with_reducible refine gate_dst (N := 46) rfl ?_); refine Kd.Q_bytes 5 rfl (N := 46) rfl 9 40 _ rfl t502 rfl Try.underlying9 Try.underlying40 Try.underlying5 (ok := fun _ => True) trivial (of_decide_eq_true (by first | (with_reducible assumption) | assumption)) (Below.refl _ _) (Nat.le_refl _) ?_; intro v505 w25 ho26 hb hg_ hnew_; clear hg_ hnew_; (first | rw [← Ny504.out] at ho26 | (simp only [Int.reduceToNat] at ho26; rw [← Ny504.out] at ho26)); have n0_ := Aside0.mk (Kd.Q_lower ho26 (below_size (by repeat (first | (with_reducible first | exact HB.out | apply below_alloc | apply pw_below_drewN | apply below_drew1 | refine below_set ?_ GE499.out) | exact HB.out)))); have n1_ := Aside0.mk (blk_below (g := gb499) (o := .cells #[.int .i64 t494, .int .i64 t495, .int .i64 t496, .int .i64 t497] 23 (0, 0)) (by (with_reducible repeat (first | refine blk_drewN ?_ _ | refine blk_drew ?_ | refine blk_alloc ?_ _)); exact BK499.out) hb); have n2_ := Aside0.mk (below_step (by repeat (first | (with_reducible first | exact HB.out | apply below_alloc | apply pw_below_drewN | apply below_drew1 | refine below_set ?_ GE499.out) | exact HB.out)) hb); clear BK499; clear HB; have HO506 := n0_; have BK499 := n1_; have HB := n2_; clear n0_ n1_ n2_; clear hb ho26; obtain ⟨Ao27, co27, eo27, _⟩ := Kd.Q_slice HO506.out; subst eo27))
      go_loopg [14, 16] kj4 (fun kq v14 v16 w' => ∃ (x12_2 : List Int) (x14_2 : Int) (x16_2 : Int), v14 = .int .i64 x14_2 ∧ v16 = .int .i64 x16_2 ∧ Aside0 (tinderboxlaw29_WeaveBursts.l0 kq l2 t501 x12_2 12 x14_2 (Int.tmod (wrap64 ((wrap64 ((Int.tmod a1 (wrap64 ((y504.length : Int) - 12))) + (y504.length : Int))) - 12)) (wrap64 ((y504.length : Int) - 12))) x16_2 t494 t495 t496 t497 = some r) ∧ Aside0 (kq ≤ kj4) ∧ Aside0 (Kd.Q (Kd.int .u8) 5 w' w.heap.size (fun _ => True) (.slice Ao27 y504.length co27) x12_2) ∧ Aside0 (w'.heap[gb499]? = some (.cells #[.int .i64 t494, .int .i64 t495, .int .i64 t496, .int .i64 t497] 23 (0, 0))) ∧ Aside0 (Below w.heap.size w w'))
      case atStart => exact ⟨(y504), (0), (0), (by first | rfl | (simp; done) | (simp [*]; done)), (by first | rfl | (simp; done) | (simp [*]; done)), H', ⟨Nat.le_refl _⟩, ⟨by (with_reducible repeat (first | apply Kd.Q_alloc | apply Kd.Q_drewN | apply Kd.Q_drew)); exact HO506.out⟩, ⟨by (with_reducible repeat (first | refine blk_drewN ?_ _ | refine blk_drew ?_ | refine blk_alloc ?_ _)); exact BK499.out⟩, ⟨by repeat (first | (with_reducible first | exact HB.out | apply below_alloc | apply pw_below_drewN | apply below_drew1 | refine below_set ?_ GE499.out) | exact HB.out)⟩⟩
      case round =>
        clear H'
        try clear c1
        try clear c2
        try clear p2
        try clear c6
        try clear p6
        try clear c9
        try clear c10
        try clear c11
        try clear c15
        try clear c16
        try clear c19
        try clear c19b0
        try clear c19b1
        try clear c20
        try clear c20b0
        try clear c20b1
        try clear c20b2
        try clear c21
        try clear c21b0
        try clear c21b1
        try clear hcz13_0
        try clear hcz13_1
        try clear hcz13_2
        try clear hcz13_3
        try clear hcz23_0
        try clear hcz23_1
        try clear hcz23_2
        try clear hcz23_3
        try clear hcz8_0
        try clear hcz8_1
        try clear hcz8_2
        try clear hcz8_3
        try clear hfz13_0
        try clear hfz13_1
        try clear hfz13_2
        try clear hfz13_3
        try clear hfz23_0
        try clear hfz23_1
        try clear hfz23_2
        try clear hfz23_3
        try clear hfz8_0
        try clear hfz8_1
        try clear hfz8_2
        try clear hfz8_3
        try clear p2
        obtain ⟨x12_2, x14_2, x16_2, rfl, rfl, HA, HK2, HO_12, BK499, HB⟩ := hrel
        have hl12_2 := (Kd.Q_reads' HO_12.out).1
        rw [hl12_2] at HO_12
        (try simp only [hl12_2])
        (try simp only [hl12_2] at BK499)
        cases gk with
        | zero => exact absurd HA.out (by simp [tinderboxlaw29_WeaveBursts.l0])
        | succ k2 =>
          have H := HA.out
          clear HA
          simp only [tinderboxlaw29_WeaveBursts.l0] at H
          have HC28 := Aside0.mk H
          clear H
          go_upto_region 12 with (fail)
          go_cut [71] (fun v71 wc => ∃ (kq : Nat) (x71_27 : Bool), v71 = .bool x71_27 ∧ Aside0 (tinderboxlaw29_WeaveBursts.j2 kq l2 t501 x12_2 12 x14_2 (Int.tmod (wrap64 ((wrap64 ((Int.tmod a1 (wrap64 ((y504.length : Int) - 12))) + (y504.length : Int))) - 12)) (wrap64 ((y504.length : Int) - 12))) x16_2 x71_27 t494 t495 t496 t497 = some r) ∧ Aside0 (kq ≤ k2) ∧ Aside0 (Kd.Q (Kd.int .u8) 5 wc w.heap.size (fun _ => True) (.slice Ao27 x12_2.length co27) x12_2) ∧ Aside0 (wc.heap[gb499]? = some (.cells #[.int .i64 t494, .int .i64 t495, .int .i64 t496, .int .i64 t497] 23 (0, 0))) ∧ Aside0 (Below w.heap.size w wc))
          case first =>
            have H := HC28.out
            clear HC28
            by_cases c29 : x16_2 < 12
            rotate_left
            · rw [if_neg c29] at H
              have c29b0 : decide (x16_2 < 12) = false := decide_eq_false c29
              clear c29
              (first | rw [c29b0] | (simp only [i64_w, i32_w]; rw [c29b0]) | skip)
              have H' := Aside0.mk H
              clear H
              go_wp2
              go_meet
              case rel => exact ⟨_, (false), (by first | rfl | (simp; done) | (simp [*]; done)), H', ⟨by have := HJ4.out; have := HK2.out; first | omega | exact Nat.le_refl _⟩, ⟨by (try simp only [hl12_2]); (with_reducible repeat (first | apply Kd.Q_alloc | apply Kd.Q_drewN | apply Kd.Q_drew)); exact HO_12.out⟩, ⟨by (try simp only [hl12_2]); (with_reducible repeat (first | refine blk_drewN ?_ _ | refine blk_drew ?_ | refine blk_alloc ?_ _)); exact BK499.out⟩, ⟨by repeat (first | (with_reducible first | exact HB.out | apply below_alloc | apply pw_below_drewN | apply below_drew1 | refine below_set ?_ GE499.out) | exact HB.out)⟩⟩
            rw [if_pos c29] at H
            have c29b0 : decide (x16_2 < 12) = true := decide_eq_true c29
            clear c29
            (first | rw [c29b0] | (simp only [i64_w, i32_w]; rw [c29b0]) | skip)
            have H' := Aside0.mk H
            clear H
            go_wp2
            go_meet
            case rel => exact ⟨_, (decide (x16_2 < (l2.length : Int))), (by first | rfl | (simp; done) | (simp [*]; done)), H', ⟨by have := HJ4.out; have := HK2.out; first | omega | exact Nat.le_refl _⟩, ⟨by (try simp only [hl12_2]); (with_reducible repeat (first | apply Kd.Q_alloc | apply Kd.Q_drewN | apply Kd.Q_drew)); exact HO_12.out⟩, ⟨by (try simp only [hl12_2]); (with_reducible repeat (first | refine blk_drewN ?_ _ | refine blk_drew ?_ | refine blk_alloc ?_ _)); exact BK499.out⟩, ⟨by repeat (first | (with_reducible first | exact HB.out | apply below_alloc | apply pw_below_drewN | apply below_drew1 | refine below_set ?_ GE499.out) | exact HB.out)⟩⟩
          case rest =>
            clear HC28
            try clear c1
            try clear c2
            try clear p2
            try clear c6
            try clear p6
            try clear c9
            try clear c10
            try clear c11
            try clear c15
            try clear c16
            try clear c19
            try clear c19b0
            try clear c19b1
            try clear c20
            try clear c20b0
            try clear c20b1
            try clear c20b2
            try clear c21
            try clear c21b0
            try clear c21b1
            try clear c29
            try clear c29b0
            try clear hcz13_0
            try clear hcz13_1
            try clear hcz13_2
            try clear hcz13_3
            try clear hcz23_0
            try clear hcz23_1
            try clear hcz23_2
            try clear hcz23_3
            try clear hcz8_0
            try clear hcz8_1
            try clear hcz8_2
            try clear hcz8_3
            try clear hfz13_0
            try clear hfz13_1
            try clear hfz13_2
            try clear hfz13_3
            try clear hfz23_0
            try clear hfz23_1
            try clear hfz23_2
            try clear hfz23_3
            try clear hfz8_0
            try clear hfz8_1
            try clear hfz8_2
            try clear hfz8_3
            try clear p2
            try clear p6
            obtain ⟨kq, x71_27, rfl, HA, HJ27, HO_12, BK499, HB⟩ := hcut
            cases kq with
            | zero => exact absurd HA.out (by simp [tinderboxlaw29_WeaveBursts.j2])
            | succ kj27 =>
              have H := HA.out
              clear HA
              simp only [tinderboxlaw29_WeaveBursts.j2] at H
              by_cases c30 : x71_27 = true
              rotate_left
              · replace c30 := Bool.eq_false_iff.mpr c30
                subst c30
                rw [if_neg (show ¬ (false = true) by decide)] at H
                replace H := Option.bind_eq_some_iff.mp H
                obtain ⟨⟨t511, t512, t513⟩, A420, H⟩ := H
                replace H : (if t513 = 0 then (if t511.toList = t501.toList then (some (t512 == x14_2)) else (some false)) else (some false)) = some r := H
                have A42 := Aside0.mk A420
                clear A420
                by_cases c43 : t513 = 0
                rotate_left
                · rw [if_neg c43] at H
                  have c43b0 : (t513 == 0) = false := beq_eq_false_iff_ne.mpr c43
                  have c43b1 : (t513 != 0) = true := bne_iff_ne.mpr c43
                  obtain rfl := Option.some.inj H
                  have hcv51 := Kd.Q_string (P := Try.prog) Try.underlying40 Try.underlying5 Try.underlying9 HO_12.out
                  have hcz52_0 : wc.cell? ⟨gb499, 0, none⟩ = some (.int .i64 t494) := (blk_cell BK499.out 0).trans rfl
                  have hcz52_1 : wc.cell? ⟨gb499, 1, none⟩ = some (.int .i64 t495) := (blk_cell BK499.out 1).trans rfl
                  have hcz52_2 : wc.cell? ⟨gb499, 2, none⟩ = some (.int .i64 t496) := (blk_cell BK499.out 2).trans rfl
                  have hcz52_3 : wc.cell? ⟨gb499, 3, none⟩ = some (.int .i64 t497) := (blk_cell BK499.out 3).trans rfl
                  have hfz52_0 := blk_frozen BK499.out 0
                  have hfz52_1 := blk_frozen BK499.out 1
                  have hfz52_2 := blk_frozen BK499.out 2
                  have hfz52_3 := blk_frozen BK499.out 3
                  go_wp2_with (first | ((with_reducible refine gate_callee (f := 17) rfl ?_); refine goesL_ (some 97) rfl rfl Try.func17 (by kernel_rfl) rfl #[.string (strOfNums x12_2), .agg #[.int .i64 t494, .int .i64 t495, .int .i64 t496, .int .i64 t497], .int .i64 7, .slice none 0 0] rfl (by (try simp only [List.map_toArray, List.map_cons, List.map_nil]); first | done | rfl | (simp only [List.length_drop, List.length_take]; rfl)) ?_; (refine (weave_Decode.calls kj27 (strOfNums x12_2) t494 t495 t496 t497 7 _ _ ([] : List Int) t511 t512 t513 _ ?side1 ?side2 A42.out).mono ?_); (case side1 => exact Kd.C_nil _ _); (case side2 => exact Nat.le_refl _); rintro e w53 ⟨rfl, hb⟩; refine ⟨_, rfl, ?_⟩; have n0_ := Aside0.mk (Kd.Q_below (by (with_reducible repeat (first | apply Kd.Q_alloc | apply Kd.Q_drewN | apply Kd.Q_drew)); exact HO_12.out) hb); have n1_ := Aside0.mk (blk_below (g := gb499) (o := .cells #[.int .i64 t494, .int .i64 t495, .int .i64 t496, .int .i64 t497] 23 (0, 0)) (by (with_reducible repeat (first | refine blk_drewN ?_ _ | refine blk_drew ?_ | refine blk_alloc ?_ _)); exact BK499.out) hb); have n2_ := Aside0.mk (below_step (by repeat (first | (with_reducible first | exact HB.out | apply below_alloc | apply pw_below_drewN | apply below_drew1 | refine below_set ?_ GE499.out) | exact HB.out)) hb); clear HO_12; clear BK499; clear HB; have HO_12 := n0_; have BK499 := n1_; have HB := n2_; clear n0_ n1_ n2_; (try clear hb); (try clear hb2); (try clear hk); (try clear hi)))
                  go_ret
                  exact ⟨by first | rfl | (simp [errW_none, errW_some] <;> rfl) | (simp [*, errW_none, errW_some] <;> rfl), by repeat (first | (with_reducible first | exact HB.out | apply below_alloc | apply pw_below_drewN | apply below_drew1 | refine below_set ?_ GE499.out) | exact HB.out)⟩
                rw [if_pos c43] at H
                have c43b0 : (t513 == 0) = true := beq_iff_eq.mpr c43
                have c43b1 : (t513 != 0) = false := bne_eq_false_iff_eq.mpr c43
                clear c43
                by_cases c44 : t511.toList = t501.toList
                · rw [if_pos c44] at H
                  have c44b0 : (t511.toList == t501.toList) = true := beq_iff_eq.mpr c44
                  have c44b1 : (t511.toList != t501.toList) = false := bne_eq_false_iff_eq.mpr c44
                  clear c44
                  obtain rfl := Option.some.inj H
                  have hcv45 := Kd.Q_string (P := Try.prog) Try.underlying40 Try.underlying5 Try.underlying9 HO_12.out
                  have hcz46_0 : wc.cell? ⟨gb499, 0, none⟩ = some (.int .i64 t494) := (blk_cell BK499.out 0).trans rfl
                  have hcz46_1 : wc.cell? ⟨gb499, 1, none⟩ = some (.int .i64 t495) := (blk_cell BK499.out 1).trans rfl
                  have hcz46_2 : wc.cell? ⟨gb499, 2, none⟩ = some (.int .i64 t496) := (blk_cell BK499.out 2).trans rfl
                  have hcz46_3 : wc.cell? ⟨gb499, 3, none⟩ = some (.int .i64 t497) := (blk_cell BK499.out 3).trans rfl
                  have hfz46_0 := blk_frozen BK499.out 0
                  have hfz46_1 := blk_frozen BK499.out 1
                  have hfz46_2 := blk_frozen BK499.out 2
                  have hfz46_3 := blk_frozen BK499.out 3
                  go_wp2_with (first | ((with_reducible refine gate_callee (f := 17) rfl ?_); refine goesL_ (some 97) rfl rfl Try.func17 (by kernel_rfl) rfl #[.string (strOfNums x12_2), .agg #[.int .i64 t494, .int .i64 t495, .int .i64 t496, .int .i64 t497], .int .i64 7, .slice none 0 0] rfl (by (try simp only [List.map_toArray, List.map_cons, List.map_nil]); first | done | rfl | (simp only [List.length_drop, List.length_take]; rfl)) ?_; (refine (weave_Decode.calls kj27 (strOfNums x12_2) t494 t495 t496 t497 7 _ _ ([] : List Int) t511 t512 t513 _ ?side1 ?side2 A42.out).mono ?_); (case side1 => exact Kd.C_nil _ _); (case side2 => exact Nat.le_refl _); rintro e w47 ⟨rfl, hb⟩; refine ⟨_, rfl, ?_⟩; have n0_ := Aside0.mk (Kd.Q_below (by (with_reducible repeat (first | apply Kd.Q_alloc | apply Kd.Q_drewN | apply Kd.Q_drew)); exact HO_12.out) hb); have n1_ := Aside0.mk (blk_below (g := gb499) (o := .cells #[.int .i64 t494, .int .i64 t495, .int .i64 t496, .int .i64 t497] 23 (0, 0)) (by (with_reducible repeat (first | refine blk_drewN ?_ _ | refine blk_drew ?_ | refine blk_alloc ?_ _)); exact BK499.out) hb); have n2_ := Aside0.mk (below_step (by repeat (first | (with_reducible first | exact HB.out | apply below_alloc | apply pw_below_drewN | apply below_drew1 | refine below_set ?_ GE499.out) | exact HB.out)) hb); clear HO_12; clear BK499; clear HB; have HO_12 := n0_; have BK499 := n1_; have HB := n2_; clear n0_ n1_ n2_; (try clear hb); (try clear hb2); (try clear hk); (try clear hi)))
                  go_ret
                  exact ⟨by first | rfl | (simp [errW_none, errW_some] <;> rfl) | (simp [*, errW_none, errW_some] <;> rfl), by repeat (first | (with_reducible first | exact HB.out | apply below_alloc | apply pw_below_drewN | apply below_drew1 | refine below_set ?_ GE499.out) | exact HB.out)⟩
                rw [if_neg c44] at H
                have c44b0 : (t511.toList == t501.toList) = false := beq_eq_false_iff_ne.mpr c44
                have c44b1 : (t511.toList != t501.toList) = true := bne_iff_ne.mpr c44
                obtain rfl := Option.some.inj H
                have hcv48 := Kd.Q_string (P := Try.prog) Try.underlying40 Try.underlying5 Try.underlying9 HO_12.out
                have hcz49_0 : wc.cell? ⟨gb499, 0, none⟩ = some (.int .i64 t494) := (blk_cell BK499.out 0).trans rfl
                have hcz49_1 : wc.cell? ⟨gb499, 1, none⟩ = some (.int .i64 t495) := (blk_cell BK499.out 1).trans rfl
                have hcz49_2 : wc.cell? ⟨gb499, 2, none⟩ = some (.int .i64 t496) := (blk_cell BK499.out 2).trans rfl
                have hcz49_3 : wc.cell? ⟨gb499, 3, none⟩ = some (.int .i64 t497) := (blk_cell BK499.out 3).trans rfl
                have hfz49_0 := blk_frozen BK499.out 0
                have hfz49_1 := blk_frozen BK499.out 1
                have hfz49_2 := blk_frozen BK499.out 2
                have hfz49_3 := blk_frozen BK499.out 3
                go_wp2_with (first | ((with_reducible refine gate_callee (f := 17) rfl ?_); refine goesL_ (some 97) rfl rfl Try.func17 (by kernel_rfl) rfl #[.string (strOfNums x12_2), .agg #[.int .i64 t494, .int .i64 t495, .int .i64 t496, .int .i64 t497], .int .i64 7, .slice none 0 0] rfl (by (try simp only [List.map_toArray, List.map_cons, List.map_nil]); first | done | rfl | (simp only [List.length_drop, List.length_take]; rfl)) ?_; (refine (weave_Decode.calls kj27 (strOfNums x12_2) t494 t495 t496 t497 7 _ _ ([] : List Int) t511 t512 t513 _ ?side1 ?side2 A42.out).mono ?_); (case side1 => exact Kd.C_nil _ _); (case side2 => exact Nat.le_refl _); rintro e w50 ⟨rfl, hb⟩; refine ⟨_, rfl, ?_⟩; have n0_ := Aside0.mk (Kd.Q_below (by (with_reducible repeat (first | apply Kd.Q_alloc | apply Kd.Q_drewN | apply Kd.Q_drew)); exact HO_12.out) hb); have n1_ := Aside0.mk (blk_below (g := gb499) (o := .cells #[.int .i64 t494, .int .i64 t495, .int .i64 t496, .int .i64 t497] 23 (0, 0)) (by (with_reducible repeat (first | refine blk_drewN ?_ _ | refine blk_drew ?_ | refine blk_alloc ?_ _)); exact BK499.out) hb); have n2_ := Aside0.mk (below_step (by repeat (first | (with_reducible first | exact HB.out | apply below_alloc | apply pw_below_drewN | apply below_drew1 | refine below_set ?_ GE499.out) | exact HB.out)) hb); clear HO_12; clear BK499; clear HB; have HO_12 := n0_; have BK499 := n1_; have HB := n2_; clear n0_ n1_ n2_; (try clear hb); (try clear hb2); (try clear hk); (try clear hi)))
                go_ret
                exact ⟨by first | rfl | (simp [errW_none, errW_some] <;> rfl) | (simp [*, errW_none, errW_some] <;> rfl), by repeat (first | (with_reducible first | exact HB.out | apply below_alloc | apply pw_below_drewN | apply below_drew1 | refine below_set ?_ GE499.out) | exact HB.out)⟩
              subst c30
              rw [if_pos rfl] at H
              obtain ⟨ji31, hji31⟩ : ∃ j_ : Int, (wrap64 ((Int.tmod (wrap64 ((wrap64 ((Int.tmod a1 (wrap64 ((y504.length : Int) - 12))) + (y504.length : Int))) - 12)) (wrap64 ((y504.length : Int) - 12))) + x16_2)) = j_ := ⟨_, rfl⟩
              first | rw [hji31] at H | simp only [hji31] at H
              have hji31w : (IntKind.i64.wrap ((Int.tmod (wrap64 ((wrap64 ((Int.tmod a1 (wrap64 ((y504.length : Int) - 12))) + (y504.length : Int))) - 12)) (wrap64 ((y504.length : Int) - 12))) + x16_2)) = ji31 := (i64_w _).trans hji31
              have hji31wk := hji31w
              have hji31k := hji31
              (try simp only [hl12_2] at hji31wk hji31k)
              by_cases c32 : 0 ≤ (ji31)
              rotate_left
              · rw [if_neg c32] at H
                exact absurd H (by simp)
              rw [if_pos c32] at H
              have c32b0 : decide (0 ≤ (ji31)) = true := decide_eq_true c32
              clear c32
              by_cases c33 : (ji31) < (x12_2.length : Int)
              rotate_left
              · rw [if_neg c33] at H
                exact absurd H (by simp)
              rw [if_pos c33] at H
              have c33b0 : decide ((ji31) < (x12_2.length : Int)) = true := decide_eq_true c33
              clear c33
              by_cases c34 : 0 ≤ x16_2
              rotate_left
              · rw [if_neg c34] at H
                exact absurd H (by simp)
              rw [if_pos c34] at H
              have c34b0 : decide (0 ≤ x16_2) = true := decide_eq_true c34
              clear c34
              by_cases c35 : x16_2 < (l2.length : Int)
              rotate_left
              · rw [if_neg c35] at H
                exact absurd H (by simp)
              rw [if_pos c35] at H
              have c35b0 : decide (x16_2 < (l2.length : Int)) = true := decide_eq_true c35
              clear c35
              obtain ⟨y509, hy509⟩ : ∃ y_ : List Int, y_ = (x12_2.set ((ji31) : Int).toNat (Go.bits .xor .u8 (rd x12_2 (ji31)) (rd l2 x16_2))) := ⟨_, rfl⟩
              replace H : (if (rd l2 x16_2) = 0 then (tinderboxlaw29_WeaveBursts.l0 kj27 l2 t501 y509 12 x14_2 (Int.tmod (wrap64 ((wrap64 ((Int.tmod a1 (wrap64 ((y504.length : Int) - 12))) + (y504.length : Int))) - 12)) (wrap64 ((y504.length : Int) - 12))) (wrap64 (x16_2 + 1)) t494 t495 t496 t497) else (tinderboxlaw29_WeaveBursts.l0 kj27 l2 t501 y509 12 (wrap64 (x14_2 + 1)) (Int.tmod (wrap64 ((wrap64 ((Int.tmod a1 (wrap64 ((y504.length : Int) - 12))) + (y504.length : Int))) - 12)) (wrap64 ((y504.length : Int) - 12))) (wrap64 (x16_2 + 1)) t494 t495 t496 t497)) = some r := by first | (rw [hy509]; with_reducible exact H) | (have H2_ := (Option.bind_some _ _).symm.trans H; rw [hy509]; with_reducible exact H2_) | (have H2_ := (Option.bind_some _ _).symm.trans H; with_reducible exact H2_) | with_reducible exact H | (rw [hy509]; exact H) | exact H
              have Ny509 := Aside0.mk hy509
              clear hy509
              by_cases c37 : (rd l2 x16_2) = 0
              · rw [if_pos c37] at H
                have c37b0 : ((rd l2 x16_2) == 0) = true := beq_iff_eq.mpr c37
                have c37b1 : ((rd l2 x16_2) != 0) = false := bne_eq_false_iff_eq.mpr c37
                clear c37
                have H' := Aside0.mk H
                clear H
                try go_wp2
                have n0_ := Aside0.mk (Kd.Q_drew HO_12.out)
                have n1_ := Aside0.mk (blk_drew BK499.out)
                have n2_ := Aside0.mk (below_drew1 HB.out)
                clear HO_12
                clear BK499
                clear HB
                have HO_12 := n0_
                have BK499 := n1_
                have HB := n2_
                clear n0_ n1_ n2_
                have p507 : 0 ≤ ((ji31) : Int) := of_decide_eq_true (by first | (with_reducible assumption) | assumption)
                have q507 : (ji31) < (x12_2.length : Int) := of_decide_eq_true (by first | (with_reducible assumption) | assumption)
                obtain ⟨ad507, e507, hx507_0⟩ := Kd.at_int (Kd.Q_reads' HO_12.out).2.2 (ji31) p507 q507
                cases e507
                replace p507 := eq_true p507
                replace q507 := eq_true q507
                have p508 : 0 ≤ (x16_2 : Int) := of_decide_eq_true (by first | (with_reducible assumption) | assumption)
                have q508 : x16_2 < (l2.length : Int) := of_decide_eq_true (by first | (with_reducible assumption) | assumption)
                obtain ⟨ad508, e508, hx508_0⟩ := Kd.at_int HR2.out x16_2 p508 q508
                have hw508_0 := hx508_0
                cases e508
                replace hx508_0 := (HB.out.cell (World.block_lt_of_cell? w _ hx508_0)).trans hx508_0
                replace p508 := eq_true p508
                replace q508 := eq_true q508
                have p36 : 0 ≤ ((ji31) : Int) := of_decide_eq_true (by first | (with_reducible assumption) | assumption)
                have q36 : ((ji31) : Int) < ((x12_2.length : Int) : Int) := of_decide_eq_true (by first | (with_reducible assumption) | assumption)
                obtain ⟨go36, oo36, co36, eo36, gb36, gl36, cl36, HG36⟩ := Kd.Q_form HO_12.out (by omega)
                (first | cases eo36 | (injection eo36 with ea_ en_ ec_; (first | subst ea_ | (injection ea_ with ea_; subst ea_)); subst ec_; clear en_))
                have GB36 := Aside0.mk gb36
                have GG36 := Aside0.mk HG36
                clear gb36 gl36 HG36
                (first | simp only [add_at] at hx507_0 | skip)
                obtain ⟨hx36_0, hf36_0⟩ := Kd.Q_cell 0 HO_12.out ((ji31) : Int) p36 q36
                replace p36 := eq_true p36
                replace q36 := eq_true q36
                have HP39 := (Kd.Q_putg HO_12.out ((ji31) : Int) (of_decide_eq_true (by first | (with_reducible assumption) | assumption)) (by have h_ : ((ji31) : Int) < ((x12_2.length : Int) : Int) := of_decide_eq_true (by first | (with_reducible assumption) | assumption); first | exact h_ | (have e_ := (Kd.Q_reads' HO_12.out).1; omega) | simpa using h_) (Go.bits .xor .u8 (rd x12_2 (ji31)) (rd l2 x16_2))).1
                rw [← Ny509.out] at HP39
                have HQ39 := Aside0.mk HP39
                clear HP39
                refine start_ (n := 13) (S := fun w' => w'.cell? ⟨go36, oo36 + ((ji31)).toNat, none⟩ = some (.int .u8 (rd x12_2 (ji31))) ∧ w'.cell? (ad508.add (x16_2).toNat) = some (.int .u8 (rd l2 x16_2))) (ds := [12]) #[false, false, false, false, false, false, false, false, false, false, false, false, false] (by kernel_rfl) rfl rfl ⟨hx507_0, ((HB.out.cell (World.block_lt_of_cell? w _ hw508_0)).trans hw508_0)⟩ (fun hHeld => ?_); refine with_tabW tinderboxlaw29_WeaveBursts.tab14 tinderboxlaw29_WeaveBursts.bits14 (fun HT_ HW_ => ?_)
                generalize wc.drew = w38 at HO_12 BK499 HB GG36 HQ39 hf36_0 hx36_0 hx507_0 hx508_0 hHeld ⊢
                refine pure_ (i := 0) (N := some 74) (v := ?_) (a' := ?_) #[true, false, false, false, false, false, false, false, false, false, false, false, false] rfl rfl (any_of HT_.out (by kernel_rfl)) (fun _ _ _ h => h) (Or.inl ⟨by rfl, ?_⟩) ?_ ?_
                rotate_left
                · intro w'
                  go_simp
                  with_reducible rfl
                rotate_left
                · simp only [Act.put, List.setIfInBounds_toArray, List.set_cons_zero, List.set_cons_succ, i64_w, i32_w]
                  rfl
                refine pure_ (i := 1) (N := some 75) (v := ?_) (a' := ?_) #[true, true, false, false, false, false, false, false, false, false, false, false, false] rfl rfl (any_of HT_.out (by kernel_rfl)) (fun _ _ _ h => h) (Or.inl ⟨by rfl, ?_⟩) ?_ ?_
                rotate_left
                · intro w'
                  go_simp
                  with_reducible rfl
                rotate_left
                · simp only [Act.put, List.setIfInBounds_toArray, List.set_cons_zero, List.set_cons_succ, i64_w, i32_w]
                  rfl
                refine pure_ (i := 2) (N := some 76) (v := ?_) (a' := ?_) #[true, true, true, false, false, false, false, false, false, false, false, false, false] rfl rfl (any_of HT_.out (by kernel_rfl)) (fun _ _ _ h => h) (Or.inl ⟨by rfl, ?_⟩) ?_ ?_
                rotate_left
                · intro w'
                  go_simp
                  with_reducible rfl
                rotate_left
                · simp only [Act.put, List.setIfInBounds_toArray, List.set_cons_zero, List.set_cons_succ, i64_w, i32_w]
                  rfl
                refine pure_ (i := 3) (N := some 77) (v := ?_) (a' := ?_) #[true, true, true, true, false, false, false, false, false, false, false, false, false] rfl rfl (any_of HT_.out (by kernel_rfl)) (fun _ _ _ h => h) (Or.inl ⟨by rfl, ?_⟩) ?_ ?_
                rotate_left
                · intro w'
                  go_simp
                  with_reducible rfl
                rotate_left
                · simp only [Act.put, List.setIfInBounds_toArray, List.set_cons_zero, List.set_cons_succ, i64_w, i32_w]
                  rfl
                refine pure_ (i := 4) (N := some 78) (v := ?_) (a' := ?_) #[true, true, true, true, true, false, false, false, false, false, false, false, false] rfl rfl (any_of HT_.out (by kernel_rfl)) (fun _ _ _ h => h) (Or.inl ⟨by rfl, ?_⟩) ?_ ?_
                rotate_left
                · intro w'
                  go_simp
                  with_reducible rfl
                rotate_left
                · simp only [Act.put, List.setIfInBounds_toArray, List.set_cons_zero, List.set_cons_succ, i64_w, i32_w]
                  rfl
                refine pure_ (i := 6) (N := some 80) (v := ?_) (a' := ?_) #[true, true, true, true, true, false, true, false, false, false, false, false, false] rfl rfl (any_of HT_.out (by kernel_rfl)) (fun _ _ _ h => h) (Or.inl ⟨by rfl, ?_⟩) ?_ ?_
                rotate_left
                · intro w'
                  go_simp
                  with_reducible rfl
                rotate_left
                · simp only [Act.put, List.setIfInBounds_toArray, List.set_cons_zero, List.set_cons_succ, i64_w, i32_w]
                  rfl
                refine pure_ (i := 7) (N := some 81) (v := ?_) (a' := ?_) #[true, true, true, true, true, false, true, true, false, false, false, false, false] rfl rfl (any_of HT_.out (by kernel_rfl)) (fun _ _ _ h => h) (Or.inl ⟨by rfl, ?_⟩) ?_ ?_
                rotate_left
                · intro w'
                  go_simp
                  with_reducible rfl
                rotate_left
                · simp only [Act.put, List.setIfInBounds_toArray, List.set_cons_zero, List.set_cons_succ, i64_w, i32_w]
                  rfl
                refine pure_ (i := 8) (N := some 82) (v := ?_) (a' := ?_) #[true, true, true, true, true, false, true, true, true, false, false, false, false] rfl rfl (any_of HT_.out (by kernel_rfl)) (fun _ _ _ h => h) (Or.inl ⟨by rfl, ?_⟩) ?_ ?_
                rotate_left
                · intro w'
                  go_simp
                  with_reducible rfl
                rotate_left
                · simp only [Act.put, List.setIfInBounds_toArray, List.set_cons_zero, List.set_cons_succ, i64_w, i32_w]
                  rfl
                refine take_ (i := 5) (N := some 79) (v := ?_) (a' := ?_) #[true, true, true, true, true, true, true, true, true, false, false, false, false] rfl rfl (take_ofW HT_.out HW_.out (by kernel_rfl)) (fun _ _ _ h => h) (Or.inl ⟨by rfl, ?_⟩) hHeld ?_ ?_
                rotate_left
                · rintro w' ⟨s0, s1⟩
                  go_simp
                  with_reducible rfl
                rotate_left
                · simp only [Act.put, List.setIfInBounds_toArray, List.set_cons_zero, List.set_cons_succ, i64_w, i32_w]
                  rfl
                refine take_ (i := 9) (N := some 83) (v := ?_) (a' := ?_) #[true, true, true, true, true, true, true, true, true, true, false, false, false] rfl rfl (take_ofW HT_.out HW_.out (by kernel_rfl)) (fun _ _ _ h => h) (Or.inl ⟨by rfl, ?_⟩) hHeld ?_ ?_
                rotate_left
                · rintro w' ⟨s0, s1⟩
                  go_simp
                  with_reducible rfl
                rotate_left
                · simp only [Act.put, List.setIfInBounds_toArray, List.set_cons_zero, List.set_cons_succ, i64_w, i32_w]
                  rfl
                refine pure_ (i := 10) (N := some 84) (v := ?_) (a' := ?_) #[true, true, true, true, true, true, true, true, true, true, true, false, false] rfl rfl (any_of HT_.out (by kernel_rfl)) (fun _ _ _ h => h) (Or.inl ⟨by rfl, ?_⟩) ?_ ?_
                rotate_left
                · intro w'
                  go_simp
                  with_reducible rfl
                rotate_left
                · simp only [Act.put, List.setIfInBounds_toArray, List.set_cons_zero, List.set_cons_succ, i64_w, i32_w]
                  rfl
                refine pure_ (i := 11) (N := some 85) (v := ?_) (a' := ?_) #[true, true, true, true, true, true, true, true, true, true, true, true, false] rfl rfl (any_of HT_.out (by kernel_rfl)) (fun _ _ _ h => h) (Or.inl ⟨by rfl, ?_⟩) ?_ ?_
                rotate_left
                · intro w'
                  go_simp
                  with_reducible rfl
                rotate_left
                · simp only [Act.put, List.setIfInBounds_toArray, List.set_cons_zero, List.set_cons_succ, i64_w, i32_w]
                  rfl
                refine last_ (i := 12) (N := none) #[true, true, true, true, true, true, true, true, true, true, true, true, true] rfl rfl (one_of HT_.out (by kernel_rfl)) (by decide) (fun K hK => ?_)
                refine skip_ (w1 := ?_) (by rfl) rfl ?_ ?_
                rotate_left
                · go_simp
                  rfl
                refine hK.out _ _ ?_
                clear hK K
                refine done_ (done_of HT_.out (by kernel_rfl)) ?_
                have p510 : 0 ≤ (x16_2 : Int) := of_decide_eq_true (by first | (with_reducible assumption) | assumption)
                have q510 : x16_2 < (l2.length : Int) := of_decide_eq_true (by first | (with_reducible assumption) | assumption)
                obtain ⟨ad510, e510, hx510_0⟩ := Kd.at_int HR2.out x16_2 p510 q510
                obtain rfl : ad508 = ad510 := (by injection e510)
                have hn510_0 : ad508.block ≠ go36 := Nat.ne_of_lt (Nat.lt_of_lt_of_le (by have := World.block_lt_of_cell? _ _ hx510_0; first | rwa [add_block] at this | exact this) GB36.out)
                replace hx510_0 := (HB.out.cell (World.block_lt_of_cell? w _ hx510_0)).trans hx510_0
                replace hx510_0 := (cell_far (p := ⟨go36, oo36 + ((ji31) : Int).toNat, none⟩) (by first | (rw [add_block]; exact hn510_0) | (show (Addr.add _ _).block ≠ _; rw [add_block]; exact hn510_0) | exact hn510_0) (.int .u8 (Go.bits .xor .u8 (rd x12_2 (ji31)) (rd l2 x16_2)))).trans hx510_0
                clear hn510_0
                replace p510 := eq_true p510
                replace q510 := eq_true q510
                try go_wp2
                (try simp only [← hl12_2])
                go_roundg kj27
                case measure => have := HJ4.out; have := HK2.out; have := HJ27.out; omega
                case rel => exact ⟨(y509), (x14_2), (wrap64 (x16_2 + 1)), (by first | rfl | (simp; done) | (simp [*]; done)), (by first | rfl | (simp; done) | (simp [*]; done)), H', ⟨by have := HJ4.out; have := HK2.out; have := HJ27.out; omega⟩, ⟨by (try simp only [hl12_2]); (with_reducible repeat (first | apply Kd.Q_alloc | apply Kd.Q_drewN | apply Kd.Q_drew)); exact HQ39.out⟩, ⟨by (try simp only [hl12_2]); (with_reducible repeat (first | refine blk_drewN ?_ _ | refine blk_drew ?_ | refine blk_alloc ?_ _)); refine blk_far ?_ (by have h_ := Kd.Q_ne HO_12.out BK499.out (by decide); intro e_; exact h_ (by rw [e_]; rfl)) _; (with_reducible repeat (first | refine blk_drewN ?_ _ | refine blk_drew ?_ | refine blk_alloc ?_ _)); exact BK499.out⟩, ⟨by repeat (first | (with_reducible first | exact HB.out | apply below_alloc | apply pw_below_drewN | apply below_drew1 | refine below_set ?_ GB36.out | refine below_set ?_ GE499.out) | exact HB.out)⟩⟩
              rw [if_neg c37] at H
              have c37b0 : ((rd l2 x16_2) == 0) = false := beq_eq_false_iff_ne.mpr c37
              have c37b1 : ((rd l2 x16_2) != 0) = true := bne_iff_ne.mpr c37
              have H' := Aside0.mk H
              clear H
              try go_wp2
              have n0_ := Aside0.mk (Kd.Q_drew HO_12.out)
              have n1_ := Aside0.mk (blk_drew BK499.out)
              have n2_ := Aside0.mk (below_drew1 HB.out)
              clear HO_12
              clear BK499
              clear HB
              have HO_12 := n0_
              have BK499 := n1_
              have HB := n2_
              clear n0_ n1_ n2_
              have p507 : 0 ≤ ((ji31) : Int) := of_decide_eq_true (by first | (with_reducible assumption) | assumption)
              have q507 : (ji31) < (x12_2.length : Int) := of_decide_eq_true (by first | (with_reducible assumption) | assumption)
              obtain ⟨ad507, e507, hx507_0⟩ := Kd.at_int (Kd.Q_reads' HO_12.out).2.2 (ji31) p507 q507
              cases e507
              replace p507 := eq_true p507
              replace q507 := eq_true q507
              have p508 : 0 ≤ (x16_2 : Int) := of_decide_eq_true (by first | (with_reducible assumption) | assumption)
              have q508 : x16_2 < (l2.length : Int) := of_decide_eq_true (by first | (with_reducible assumption) | assumption)
              obtain ⟨ad508, e508, hx508_0⟩ := Kd.at_int HR2.out x16_2 p508 q508
              have hw508_0 := hx508_0
              cases e508
              replace hx508_0 := (HB.out.cell (World.block_lt_of_cell? w _ hx508_0)).trans hx508_0
              replace p508 := eq_true p508
              replace q508 := eq_true q508
              have p36 : 0 ≤ ((ji31) : Int) := of_decide_eq_true (by first | (with_reducible assumption) | assumption)
              have q36 : ((ji31) : Int) < ((x12_2.length : Int) : Int) := of_decide_eq_true (by first | (with_reducible assumption) | assumption)
              obtain ⟨go36, oo36, co36, eo36, gb36, gl36, cl36, HG36⟩ := Kd.Q_form HO_12.out (by omega)
              (first | cases eo36 | (injection eo36 with ea_ en_ ec_; (first | subst ea_ | (injection ea_ with ea_; subst ea_)); subst ec_; clear en_))
              have GB36 := Aside0.mk gb36
              have GG36 := Aside0.mk HG36
              clear gb36 gl36 HG36
              (first | simp only [add_at] at hx507_0 | skip)
              obtain ⟨hx36_0, hf36_0⟩ := Kd.Q_cell 0 HO_12.out ((ji31) : Int) p36 q36
              replace p36 := eq_true p36
              replace q36 := eq_true q36
              have HP41 := (Kd.Q_putg HO_12.out ((ji31) : Int) (of_decide_eq_true (by first | (with_reducible assumption) | assumption)) (by have h_ : ((ji31) : Int) < ((x12_2.length : Int) : Int) := of_decide_eq_true (by first | (with_reducible assumption) | assumption); first | exact h_ | (have e_ := (Kd.Q_reads' HO_12.out).1; omega) | simpa using h_) (Go.bits .xor .u8 (rd x12_2 (ji31)) (rd l2 x16_2))).1
              rw [← Ny509.out] at HP41
              have HQ41 := Aside0.mk HP41
              clear HP41
              refine start_ (n := 13) (S := fun w' => w'.cell? ⟨go36, oo36 + ((ji31)).toNat, none⟩ = some (.int .u8 (rd x12_2 (ji31))) ∧ w'.cell? (ad508.add (x16_2).toNat) = some (.int .u8 (rd l2 x16_2))) (ds := [12]) #[false, false, false, false, false, false, false, false, false, false, false, false, false] (by kernel_rfl) rfl rfl ⟨hx507_0, ((HB.out.cell (World.block_lt_of_cell? w _ hw508_0)).trans hw508_0)⟩ (fun hHeld => ?_); refine with_tabW tinderboxlaw29_WeaveBursts.tab14 tinderboxlaw29_WeaveBursts.bits14 (fun HT_ HW_ => ?_)
              generalize wc.drew = w40 at HO_12 BK499 HB GG36 HQ41 hf36_0 hx36_0 hx507_0 hx508_0 hHeld ⊢
              refine pure_ (i := 0) (N := some 74) (v := ?_) (a' := ?_) #[true, false, false, false, false, false, false, false, false, false, false, false, false] rfl rfl (any_of HT_.out (by kernel_rfl)) (fun _ _ _ h => h) (Or.inl ⟨by rfl, ?_⟩) ?_ ?_
              rotate_left
              · intro w'
                go_simp
                with_reducible rfl
              rotate_left
              · simp only [Act.put, List.setIfInBounds_toArray, List.set_cons_zero, List.set_cons_succ, i64_w, i32_w]
                rfl
              refine pure_ (i := 1) (N := some 75) (v := ?_) (a' := ?_) #[true, true, false, false, false, false, false, false, false, false, false, false, false] rfl rfl (any_of HT_.out (by kernel_rfl)) (fun _ _ _ h => h) (Or.inl ⟨by rfl, ?_⟩) ?_ ?_
              rotate_left
              · intro w'
                go_simp
                with_reducible rfl
              rotate_left
              · simp only [Act.put, List.setIfInBounds_toArray, List.set_cons_zero, List.set_cons_succ, i64_w, i32_w]
                rfl
              refine pure_ (i := 2) (N := some 76) (v := ?_) (a' := ?_) #[true, true, true, false, false, false, false, false, false, false, false, false, false] rfl rfl (any_of HT_.out (by kernel_rfl)) (fun _ _ _ h => h) (Or.inl ⟨by rfl, ?_⟩) ?_ ?_
              rotate_left
              · intro w'
                go_simp
                with_reducible rfl
              rotate_left
              · simp only [Act.put, List.setIfInBounds_toArray, List.set_cons_zero, List.set_cons_succ, i64_w, i32_w]
                rfl
              refine pure_ (i := 3) (N := some 77) (v := ?_) (a' := ?_) #[true, true, true, true, false, false, false, false, false, false, false, false, false] rfl rfl (any_of HT_.out (by kernel_rfl)) (fun _ _ _ h => h) (Or.inl ⟨by rfl, ?_⟩) ?_ ?_
              rotate_left
              · intro w'
                go_simp
                with_reducible rfl
              rotate_left
              · simp only [Act.put, List.setIfInBounds_toArray, List.set_cons_zero, List.set_cons_succ, i64_w, i32_w]
                rfl
              refine pure_ (i := 4) (N := some 78) (v := ?_) (a' := ?_) #[true, true, true, true, true, false, false, false, false, false, false, false, false] rfl rfl (any_of HT_.out (by kernel_rfl)) (fun _ _ _ h => h) (Or.inl ⟨by rfl, ?_⟩) ?_ ?_
              rotate_left
              · intro w'
                go_simp
                with_reducible rfl
              rotate_left
              · simp only [Act.put, List.setIfInBounds_toArray, List.set_cons_zero, List.set_cons_succ, i64_w, i32_w]
                rfl
              refine pure_ (i := 6) (N := some 80) (v := ?_) (a' := ?_) #[true, true, true, true, true, false, true, false, false, false, false, false, false] rfl rfl (any_of HT_.out (by kernel_rfl)) (fun _ _ _ h => h) (Or.inl ⟨by rfl, ?_⟩) ?_ ?_
              rotate_left
              · intro w'
                go_simp
                with_reducible rfl
              rotate_left
              · simp only [Act.put, List.setIfInBounds_toArray, List.set_cons_zero, List.set_cons_succ, i64_w, i32_w]
                rfl
              refine pure_ (i := 7) (N := some 81) (v := ?_) (a' := ?_) #[true, true, true, true, true, false, true, true, false, false, false, false, false] rfl rfl (any_of HT_.out (by kernel_rfl)) (fun _ _ _ h => h) (Or.inl ⟨by rfl, ?_⟩) ?_ ?_
              rotate_left
              · intro w'
                go_simp
                with_reducible rfl
              rotate_left
              · simp only [Act.put, List.setIfInBounds_toArray, List.set_cons_zero, List.set_cons_succ, i64_w, i32_w]
                rfl
              refine pure_ (i := 8) (N := some 82) (v := ?_) (a' := ?_) #[true, true, true, true, true, false, true, true, true, false, false, false, false] rfl rfl (any_of HT_.out (by kernel_rfl)) (fun _ _ _ h => h) (Or.inl ⟨by rfl, ?_⟩) ?_ ?_
              rotate_left
              · intro w'
                go_simp
                with_reducible rfl
              rotate_left
              · simp only [Act.put, List.setIfInBounds_toArray, List.set_cons_zero, List.set_cons_succ, i64_w, i32_w]
                rfl
              refine take_ (i := 5) (N := some 79) (v := ?_) (a' := ?_) #[true, true, true, true, true, true, true, true, true, false, false, false, false] rfl rfl (take_ofW HT_.out HW_.out (by kernel_rfl)) (fun _ _ _ h => h) (Or.inl ⟨by rfl, ?_⟩) hHeld ?_ ?_
              rotate_left
              · rintro w' ⟨s0, s1⟩
                go_simp
                with_reducible rfl
              rotate_left
              · simp only [Act.put, List.setIfInBounds_toArray, List.set_cons_zero, List.set_cons_succ, i64_w, i32_w]
                rfl
              refine take_ (i := 9) (N := some 83) (v := ?_) (a' := ?_) #[true, true, true, true, true, true, true, true, true, true, false, false, false] rfl rfl (take_ofW HT_.out HW_.out (by kernel_rfl)) (fun _ _ _ h => h) (Or.inl ⟨by rfl, ?_⟩) hHeld ?_ ?_
              rotate_left
              · rintro w' ⟨s0, s1⟩
                go_simp
                with_reducible rfl
              rotate_left
              · simp only [Act.put, List.setIfInBounds_toArray, List.set_cons_zero, List.set_cons_succ, i64_w, i32_w]
                rfl
              refine pure_ (i := 10) (N := some 84) (v := ?_) (a' := ?_) #[true, true, true, true, true, true, true, true, true, true, true, false, false] rfl rfl (any_of HT_.out (by kernel_rfl)) (fun _ _ _ h => h) (Or.inl ⟨by rfl, ?_⟩) ?_ ?_
              rotate_left
              · intro w'
                go_simp
                with_reducible rfl
              rotate_left
              · simp only [Act.put, List.setIfInBounds_toArray, List.set_cons_zero, List.set_cons_succ, i64_w, i32_w]
                rfl
              refine pure_ (i := 11) (N := some 85) (v := ?_) (a' := ?_) #[true, true, true, true, true, true, true, true, true, true, true, true, false] rfl rfl (any_of HT_.out (by kernel_rfl)) (fun _ _ _ h => h) (Or.inl ⟨by rfl, ?_⟩) ?_ ?_
              rotate_left
              · intro w'
                go_simp
                with_reducible rfl
              rotate_left
              · simp only [Act.put, List.setIfInBounds_toArray, List.set_cons_zero, List.set_cons_succ, i64_w, i32_w]
                rfl
              refine last_ (i := 12) (N := none) #[true, true, true, true, true, true, true, true, true, true, true, true, true] rfl rfl (one_of HT_.out (by kernel_rfl)) (by decide) (fun K hK => ?_)
              refine skip_ (w1 := ?_) (by rfl) rfl ?_ ?_
              rotate_left
              · go_simp
                rfl
              refine hK.out _ _ ?_
              clear hK K
              refine done_ (done_of HT_.out (by kernel_rfl)) ?_
              have p510 : 0 ≤ (x16_2 : Int) := of_decide_eq_true (by first | (with_reducible assumption) | assumption)
              have q510 : x16_2 < (l2.length : Int) := of_decide_eq_true (by first | (with_reducible assumption) | assumption)
              obtain ⟨ad510, e510, hx510_0⟩ := Kd.at_int HR2.out x16_2 p510 q510
              obtain rfl : ad508 = ad510 := (by injection e510)
              have hn510_0 : ad508.block ≠ go36 := Nat.ne_of_lt (Nat.lt_of_lt_of_le (by have := World.block_lt_of_cell? _ _ hx510_0; first | rwa [add_block] at this | exact this) GB36.out)
              replace hx510_0 := (HB.out.cell (World.block_lt_of_cell? w _ hx510_0)).trans hx510_0
              replace hx510_0 := (cell_far (p := ⟨go36, oo36 + ((ji31) : Int).toNat, none⟩) (by first | (rw [add_block]; exact hn510_0) | (show (Addr.add _ _).block ≠ _; rw [add_block]; exact hn510_0) | exact hn510_0) (.int .u8 (Go.bits .xor .u8 (rd x12_2 (ji31)) (rd l2 x16_2)))).trans hx510_0
              clear hn510_0
              replace p510 := eq_true p510
              replace q510 := eq_true q510
              try go_wp2
              (try simp only [← hl12_2])
              go_roundg kj27
              case measure => have := HJ4.out; have := HK2.out; have := HJ27.out; omega
              case rel => exact ⟨(y509), (wrap64 (x14_2 + 1)), (wrap64 (x16_2 + 1)), (by first | rfl | (simp; done) | (simp [*]; done)), (by first | rfl | (simp; done) | (simp [*]; done)), H', ⟨by have := HJ4.out; have := HK2.out; have := HJ27.out; omega⟩, ⟨by (try simp only [hl12_2]); (with_reducible repeat (first | apply Kd.Q_alloc | apply Kd.Q_drewN | apply Kd.Q_drew)); exact HQ41.out⟩, ⟨by (try simp only [hl12_2]); (with_reducible repeat (first | refine blk_drewN ?_ _ | refine blk_drew ?_ | refine blk_alloc ?_ _)); refine blk_far ?_ (by have h_ := Kd.Q_ne HO_12.out BK499.out (by decide); intro e_; exact h_ (by rw [e_]; rfl)) _; (with_reducible repeat (first | refine blk_drewN ?_ _ | refine blk_drew ?_ | refine blk_alloc ?_ _)); exact BK499.out⟩, ⟨by repeat (first | (with_reducible first | exact HB.out | apply below_alloc | apply pw_below_drewN | apply below_drew1 | refine below_set ?_ GB36.out | refine below_set ?_ GE499.out) | exact HB.out)⟩⟩
def tinderboxlaw29_WeaveBursts.Pure : Prop := ∀ (a0 : ByteArray) (a1 : Int) (l2 : List Int), a0.size ≤ 140737488351232 → (Lit.int .i64 a1).wf = true → l2.length ≤ maxLen → l2.length * 1 ≤ 140737488351232 → (∀ x ∈ l2, (Lit.int .u8 x).wf = true) → ∃ k, tinderboxlaw29_WeaveBursts.f k a0 a1 l2 = some true
theorem tinderboxlaw29_WeaveBursts.walk (P : tinderboxlaw29_WeaveBursts.Pure) (a0 : ByteArray) (a1 : Int) (a2 : Option Addr) (len2 cap2 : Nat) (z2 : List Int) (w : World) (w0 : a0.size ≤ 140737488351232) (w1 : (Lit.int .i64 a1).wf = true) (w2 : (a2 = none ∧ len2 = 0 ∧ cap2 = 0 ∧ z2 = []) ∨ ∃ x, a2 = some x ∧ len2 ≤ cap2 ∧ cap2 ≤ maxLen ∧ z2.length = cap2 ∧ (∀ i, i < z2.length → w.cell? (x.add i) = some (.int .u8 (z2.getD i 0))) ∧ ∀ n ∈ z2, (Lit.int .u8 n).wf = true) (y2 : len2 * 1 ≤ 140737488351232) :
    Calls Try.prog 6 #[.string a0, .int .i64 a1, .slice a2 len2 cap2] w fun e w' => e = .returned (.bool true) ∧ Below w.heap.size w w' := by
  obtain ⟨l2, rfl, hr2, hm2, hw2, hc2⟩ := ReadsInt.ofRowC w2
  obtain ⟨k, h⟩ := P a0 a1 l2 w0 w1 hm2 y2 hw2
  refine (tinderboxlaw29_WeaveBursts.calls k a0 a1 _ _ l2 true w (Kd.C_of_reads (d := (0 : Int)) (h1 := fun _ => rfl) hr2) hc2 h).mono ?_
  rintro e w' ⟨rfl, hd⟩
  exact ⟨rfl, hd⟩
end Go.Proofs.Ytpleeckbakllpaa.XWv
