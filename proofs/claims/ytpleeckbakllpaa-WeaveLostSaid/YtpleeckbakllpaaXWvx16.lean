import Derived.Test.YtpleeckbakllpaaXWvx0
import Derived.Test.YtpleeckbakllpaaXWvx2
import Derived.Test.YtpleeckbakllpaaXWvx6
import Derived.Test.YtpleeckbakllpaaXWvx10
import Derived.Test.YtpleeckbakllpaaXWvx11
namespace Go.Proofs.Ytpleeckbakllpaa.XWv
open Go.RowKit Go.Proofs.YtpleeckbakllpaaX.PrintWords Go.Proofs.YtpleeckbakllpaaX.PrintLast Go.Proofs.YtpleeckbakllpaaX.PrintMore
attribute [local go_sem] max2_int min2_int max_two min_two max_three min_three max_four min_four
set_option linter.unusedVariables false
set_option linter.unusedSimpArgs false
mutual
def tinderboxlaw29_WeaveLost.j0 : Nat → ByteArray → Int → Int → Bool → Int → Int → Int → Int → Option (Bool)
  | 0, _, _, _, _, _, _, _, _ => none
  | k + 1, x0, x1, x2, x29, x520000, x520001, x520002, x520003 => if x29 = true then (some false) else ((tinderboxlaw29_page.f k x0 250).bind fun t521 => ((weave_Encode.f k t521 x520000 x520001 x520002 x520003 3).bind fun bt522 => (if bt522.2 = 0 then (if bt522.1.size ≤ 9223372036854775807 then ((some (bytesOf bt522.1 : List Int)).bind fun y524 => (if (wrap64 ((y524.length : Int) - 24)) = 0 then (none) else (tinderboxlaw29_WeaveLost.l0 k x2 t521 y524 (([(-1), (bt522.1.size : Int)] : List Int)) 24 (Int.tmod (wrap64 ((wrap64 ((Int.tmod x1 (wrap64 ((y524.length : Int) - 24))) + (y524.length : Int))) - 24)) (wrap64 ((y524.length : Int) - 24))) 0 x520000 x520001 x520002 x520003))) else (none)) else (some false))))
def tinderboxlaw29_WeaveLost.l0 : Nat → Int → ByteArray → List Int → List Int → Int → Int → Int → Int → Int → Int → Int → Option (Bool)
  | 0, _, _, _, _, _, _, _, _, _, _, _ => none
  | k + 1, x2, x9, x12, x13, x14, x15, x16, x520000, x520001, x520002, x520003 => if x16 < x14 then (if 0 ≤ (wrap64 (x15 + x16)) then (if (wrap64 (x15 + x16)) < (x12.length : Int) then (if x13.length < 17592186044416 then (tinderboxlaw29_WeaveLost.l0 k x2 x9 (x12.set ((wrap64 (x15 + x16)) : Int).toNat x2) (x13 ++ [wrap64 (x15 + x16)]) x14 x15 (wrap64 (x16 + 1)) x520000 x520001 x520002 x520003) else (none)) else (none)) else (none)) else ((weave_Decode.f k (strOfNums x12) x520000 x520001 x520002 x520003 3 x13).bind fun bt534 => (if bt534.2.2 = 0 then (some (bt534.1.toList == x9.toList)) else (some false)))
end
def tinderboxlaw29_WeaveLost.f (k : Nat) (a0 : ByteArray) (a1 : Int) (a2 : Int) : Option (Bool) := (weave_ShapeOf.f k 250 8).bind fun bt514 => ((tinderboxlaw29_awake.f k).bind fun t520 => (if t520 = true then (tinderboxlaw29_WeaveLost.j0 k a0 a1 a2 (!bt514.2.2.2.2) bt514.1 bt514.2.1 bt514.2.2.1 bt514.2.2.2.1) else (tinderboxlaw29_WeaveLost.j0 k a0 a1 a2 true bt514.1 bt514.2.1 bt514.2.2.1 bt514.2.2.2.1)))
theorem tinderboxlaw29_WeaveLost.mono_l : ∀ k, (∀ y0 y1 y2 y3 y4 y5 y6 y7, LeO (tinderboxlaw29_WeaveLost.j0 k y0 y1 y2 y3 y4 y5 y6 y7) (tinderboxlaw29_WeaveLost.j0 (k + 1) y0 y1 y2 y3 y4 y5 y6 y7)) ∧ (∀ y0 y1 y2 y3 y4 y5 y6 y7 y8 y9 y10, LeO (tinderboxlaw29_WeaveLost.l0 k y0 y1 y2 y3 y4 y5 y6 y7 y8 y9 y10) (tinderboxlaw29_WeaveLost.l0 (k + 1) y0 y1 y2 y3 y4 y5 y6 y7 y8 y9 y10))
  | 0 => ⟨fun _ _ _ _ _ _ _ _ r h => by simp [tinderboxlaw29_WeaveLost.j0] at h, fun _ _ _ _ _ _ _ _ _ _ _ r h => by simp [tinderboxlaw29_WeaveLost.l0] at h⟩
  | k + 1 => by
    obtain ⟨ih0, ih1⟩ := tinderboxlaw29_WeaveLost.mono_l k
    refine ⟨?_, ?_⟩
    · intro y0 y1 y2 y3 y4 y5 y6 y7
      unfold tinderboxlaw29_WeaveLost.j0
      repeat' first
      | (with_reducible exact ih0 _ _ _ _ _ _ _ _)
      | (with_reducible exact ih1 _ _ _ _ _ _ _ _ _ _ _)
      | (with_reducible exact tinderboxlaw29_awake.mono _)
      | (with_reducible exact tinderboxlaw29_page.mono _ _ _)
      | (with_reducible exact weave_Decode.mono _ _ _ _ _ _ _ _)
      | (with_reducible exact weave_Encode.mono _ _ _ _ _ _ _)
      | (with_reducible exact weave_ShapeOf.mono _ _ _)
      | (with_reducible exact LeO.refl _)
      | (with_reducible exact LeO.none _)
      | (with_reducible refine LeO.ite ?_ ?_)
      | (with_reducible refine LeO.bind ?_ (fun _ => ?_))
      | exact ih0 _ _ _ _ _ _ _ _
      | exact ih1 _ _ _ _ _ _ _ _ _ _ _
      | exact tinderboxlaw29_awake.mono _
      | exact tinderboxlaw29_page.mono _ _ _
      | exact weave_Decode.mono _ _ _ _ _ _ _ _
      | exact weave_Encode.mono _ _ _ _ _ _ _
      | exact weave_ShapeOf.mono _ _ _
      | exact LeO.none _
      | refine LeO.ite ?_ ?_
      | refine LeO.bind ?_ (fun _ => ?_)
    · intro y0 y1 y2 y3 y4 y5 y6 y7 y8 y9 y10
      unfold tinderboxlaw29_WeaveLost.l0
      repeat' first
      | (with_reducible exact ih0 _ _ _ _ _ _ _ _)
      | (with_reducible exact ih1 _ _ _ _ _ _ _ _ _ _ _)
      | (with_reducible exact tinderboxlaw29_awake.mono _)
      | (with_reducible exact tinderboxlaw29_page.mono _ _ _)
      | (with_reducible exact weave_Decode.mono _ _ _ _ _ _ _ _)
      | (with_reducible exact weave_Encode.mono _ _ _ _ _ _ _)
      | (with_reducible exact weave_ShapeOf.mono _ _ _)
      | (with_reducible exact LeO.refl _)
      | (with_reducible exact LeO.none _)
      | (with_reducible refine LeO.ite ?_ ?_)
      | (with_reducible refine LeO.bind ?_ (fun _ => ?_))
      | exact ih0 _ _ _ _ _ _ _ _
      | exact ih1 _ _ _ _ _ _ _ _ _ _ _
      | exact tinderboxlaw29_awake.mono _
      | exact tinderboxlaw29_page.mono _ _ _
      | exact weave_Decode.mono _ _ _ _ _ _ _ _
      | exact weave_Encode.mono _ _ _ _ _ _ _
      | exact weave_ShapeOf.mono _ _ _
      | exact LeO.none _
      | refine LeO.ite ?_ ?_
      | refine LeO.bind ?_ (fun _ => ?_)
theorem tinderboxlaw29_WeaveLost.mono : ∀ a0 a1 a2 k, LeO (tinderboxlaw29_WeaveLost.f k a0 a1 a2) (tinderboxlaw29_WeaveLost.f (k + 1) a0 a1 a2) := by
  intro a0 a1 a2 k
  obtain ⟨ih0, ih1⟩ := tinderboxlaw29_WeaveLost.mono_l k
  unfold tinderboxlaw29_WeaveLost.f
  repeat' first
      | (with_reducible exact ih0 _ _ _ _ _ _ _ _)
      | (with_reducible exact ih1 _ _ _ _ _ _ _ _ _ _ _)
      | (with_reducible exact tinderboxlaw29_awake.mono _)
      | (with_reducible exact tinderboxlaw29_page.mono _ _ _)
      | (with_reducible exact weave_Decode.mono _ _ _ _ _ _ _ _)
      | (with_reducible exact weave_Encode.mono _ _ _ _ _ _ _)
      | (with_reducible exact weave_ShapeOf.mono _ _ _)
      | (with_reducible exact LeO.refl _)
      | (with_reducible exact LeO.none _)
      | (with_reducible refine LeO.ite ?_ ?_)
      | (with_reducible refine LeO.bind ?_ (fun _ => ?_))
      | exact ih0 _ _ _ _ _ _ _ _
      | exact ih1 _ _ _ _ _ _ _ _ _ _ _
      | exact tinderboxlaw29_awake.mono _
      | exact tinderboxlaw29_page.mono _ _ _
      | exact weave_Decode.mono _ _ _ _ _ _ _ _
      | exact weave_Encode.mono _ _ _ _ _ _ _
      | exact weave_ShapeOf.mono _ _ _
      | exact LeO.none _
      | refine LeO.ite ?_ ?_
      | refine LeO.bind ?_ (fun _ => ?_)
set_option maxHeartbeats 8000000 in
set_option maxRecDepth 100000 in
theorem tinderboxlaw29_WeaveLost.calls (k : Nat) (a0 : ByteArray) (a1 : Int) (a2 : Int) (r : Bool) (w : World) (h : tinderboxlaw29_WeaveLost.f k a0 a1 a2 = some r) :
    Calls Try.prog 7 #[.string a0, .int .i64 a1, .int .u8 a2] w fun e w' => e = .returned (.bool r) ∧ Below w.heap.size w w' := by
  have hu23 := Try.underlying23
  have HB := Aside0.mk (Below.refl w.heap.size w)
  have H : ((weave_ShapeOf.f k 250 8).bind fun bt514 => ((tinderboxlaw29_awake.f k).bind fun t520 => (if t520 = true then (tinderboxlaw29_WeaveLost.j0 k a0 a1 a2 (!bt514.2.2.2.2) bt514.1 bt514.2.1 bt514.2.2.1 bt514.2.2.2.1) else (tinderboxlaw29_WeaveLost.j0 k a0 a1 a2 true bt514.1 bt514.2.1 bt514.2.2.1 bt514.2.2.2.1)))) = some r := h
  clear h
  replace H := Option.bind_eq_some_iff.mp H
  obtain ⟨⟨t514, t515, t516, t517, t518⟩, A40, H⟩ := H
  replace H : ((tinderboxlaw29_awake.f k).bind fun t520 => (if t520 = true then (tinderboxlaw29_WeaveLost.j0 k a0 a1 a2 (!t518) t514 t515 t516 t517) else (tinderboxlaw29_WeaveLost.j0 k a0 a1 a2 true t514 t515 t516 t517))) = some r := H
  have A4 := Aside0.mk A40
  clear A40
  have HC5 := Aside0.mk H
  clear H
  go_enter Try.func7, Try.ntmps7
  go_upto_region 2 with (first | ((with_reducible refine gate_callee (f := 9) rfl ?_); refine goesL_ (some 21) rfl rfl Try.func9 (by kernel_rfl) rfl #[.int .i64 250, .int .i64 8] rfl (by (try simp only [List.map_toArray, List.map_cons, List.map_nil]); first | done | rfl | (simp only [List.length_drop, List.length_take]; rfl)) ?_; (with_reducible refine (weave_ShapeOf.calls k 250 8 t514 t515 t516 t517 t518 _ A4.out).mono ?_); rintro e w6 ⟨rfl, hb⟩; refine ⟨_, rfl, ?_⟩; have n0_ := Aside0.mk (below_step (by repeat (first | (with_reducible first | exact HB.out | apply below_alloc | apply pw_below_drewN | apply below_drew1) | exact HB.out)) hb); clear HB; have HB := n0_; clear n0_; (try clear hb); (try clear hb2); (try clear hk); (try clear hi)) | ((with_reducible refine gate_dst (N := 7) rfl ?_); refine box_event ?hg (N := 7) ?hd (cs := #[.int .i64 0, .int .i64 0, .int .i64 0, .int .i64 0]) (t := 23) ?hr ?_; (case hd => rfl); (case hg => rfl); (case hr => first | (go_simp; done) | (go_simp; rfl)); intro gb519 hg w7 hbox hb; have n0_ := Aside0.mk (below_step (by repeat (first | (with_reducible first | exact HB.out | apply below_alloc | apply pw_below_drewN | apply below_drew1) | exact HB.out)) hb); have n1_ := Aside0.mk (hbox); have n2_ := Aside0.mk ((by rw [hg]; exact (below_size (by repeat (first | (with_reducible first | exact HB.out | apply below_alloc | apply pw_below_drewN | apply below_drew1) | exact HB.out))) : w.heap.size ≤ gb519)); have n3_ := Aside0.mk ((by rw [hg]; exact (below_size (by repeat (first | (with_reducible first | exact HB.out | apply below_alloc | apply pw_below_drewN | apply below_drew1) | exact HB.out))) : w.heap.size ≤ gb519)); clear HB; have HB := n0_; have BK519 := n1_; have GW519 := n2_; have GE519 := n3_; clear n0_ n1_ n2_ n3_; clear hb hbox hg; have hcz8_0 : w7.cell? ⟨gb519, 0, none⟩ = some (.int .i64 0) := (blk_cell BK519.out 0).trans rfl; have hcz8_1 : w7.cell? ⟨gb519, 1, none⟩ = some (.int .i64 0) := (blk_cell BK519.out 1).trans rfl; have hcz8_2 : w7.cell? ⟨gb519, 2, none⟩ = some (.int .i64 0) := (blk_cell BK519.out 2).trans rfl; have hcz8_3 : w7.cell? ⟨gb519, 3, none⟩ = some (.int .i64 0) := (blk_cell BK519.out 3).trans rfl; have hfz8_0 := blk_frozen BK519.out 0; have hfz8_1 := blk_frozen BK519.out 1; have hfz8_2 := blk_frozen BK519.out 2; have hfz8_3 := blk_frozen BK519.out 3))
  (try simp only [Act.put, List.setIfInBounds_toArray, List.set_cons_zero, List.set_cons_succ])
  go_cut [29] (fun v29 wc => ∃ (kq : Nat) (x29_4 : Bool), v29 = .bool x29_4 ∧ Aside0 (tinderboxlaw29_WeaveLost.j0 kq a0 a1 a2 x29_4 t514 t515 t516 t517 = some r) ∧ Aside0 (kq ≤ k) ∧ Aside0 (wc.heap[gb519]? = some (.cells #[.int .i64 t514, .int .i64 t515, .int .i64 t516, .int .i64 t517] 23 (0, 0))) ∧ Aside0 (Below w.heap.size w wc))
  case first =>
    have H := HC5.out
    clear HC5
    replace H := Option.bind_eq_some_iff.mp H
    obtain ⟨t520, A90, H⟩ := H
    have A9 := Aside0.mk A90
    clear A90
    by_cases c10 : t520 = true
    · subst c10
      rw [if_pos rfl] at H
      have H' := Aside0.mk H
      clear H
      go_wp2_with (first | ((with_reducible refine gate_callee (f := 11) rfl ?_); refine goesL_ (some 24) rfl rfl Try.func11 (by kernel_rfl) rfl #[] rfl (by (try simp only [List.map_toArray, List.map_cons, List.map_nil]); first | done | rfl | (simp only [List.length_drop, List.length_take]; rfl)) ?_; (with_reducible refine (tinderboxlaw29_awake.calls k  true _ A9.out).mono ?_); rintro e w11 ⟨rfl, hb⟩; refine ⟨_, rfl, ?_⟩; have n0_ := Aside0.mk (blk_below (g := gb519) (o := .cells #[.int .i64 t514, .int .i64 t515, .int .i64 t516, .int .i64 t517] 23 (0, 0)) (by (with_reducible repeat (first | refine blk_drewN ?_ _ | refine blk_drew ?_ | refine blk_alloc ?_ _)); refine blk_put (cs := #[.int .i64 t514, .int .i64 t515, .int .i64 t516, .int .i64 0]) ?_ 3 _ rfl; (with_reducible repeat (first | refine blk_drewN ?_ _ | refine blk_drew ?_ | refine blk_alloc ?_ _)); refine blk_put (cs := #[.int .i64 t514, .int .i64 t515, .int .i64 0, .int .i64 0]) ?_ 2 _ rfl; (with_reducible repeat (first | refine blk_drewN ?_ _ | refine blk_drew ?_ | refine blk_alloc ?_ _)); refine blk_put (cs := #[.int .i64 t514, .int .i64 0, .int .i64 0, .int .i64 0]) ?_ 1 _ rfl; (with_reducible repeat (first | refine blk_drewN ?_ _ | refine blk_drew ?_ | refine blk_alloc ?_ _)); refine blk_put (cs := #[.int .i64 0, .int .i64 0, .int .i64 0, .int .i64 0]) ?_ 0 _ rfl; (with_reducible repeat (first | refine blk_drewN ?_ _ | refine blk_drew ?_ | refine blk_alloc ?_ _)); exact BK519.out) hb); have n1_ := Aside0.mk (below_step (by repeat (first | (with_reducible first | exact HB.out | apply below_alloc | apply pw_below_drewN | apply below_drew1 | refine below_set ?_ GE519.out) | exact HB.out)) hb); clear BK519; clear HB; have BK519 := n0_; have HB := n1_; clear n0_ n1_; (try clear hb); (try clear hb2); (try clear hk); (try clear hi)))
      go_meet
      case rel => exact ⟨_, (!t518), (by first | rfl | (simp; done) | (simp [*]; done)), H', ⟨by first | omega | exact Nat.le_refl _⟩, ⟨by (with_reducible repeat (first | refine blk_drewN ?_ _ | refine blk_drew ?_ | refine blk_alloc ?_ _)); exact BK519.out⟩, ⟨by repeat (first | (with_reducible first | exact HB.out | apply below_alloc | apply pw_below_drewN | apply below_drew1 | refine below_set ?_ GE519.out) | exact HB.out)⟩⟩
    replace c10 := Bool.eq_false_iff.mpr c10
    subst c10
    rw [if_neg (show ¬ (false = true) by decide)] at H
    have H' := Aside0.mk H
    clear H
    go_wp2_with (first | ((with_reducible refine gate_callee (f := 11) rfl ?_); refine goesL_ (some 24) rfl rfl Try.func11 (by kernel_rfl) rfl #[] rfl (by (try simp only [List.map_toArray, List.map_cons, List.map_nil]); first | done | rfl | (simp only [List.length_drop, List.length_take]; rfl)) ?_; (with_reducible refine (tinderboxlaw29_awake.calls k  false _ A9.out).mono ?_); rintro e w12 ⟨rfl, hb⟩; refine ⟨_, rfl, ?_⟩; have n0_ := Aside0.mk (blk_below (g := gb519) (o := .cells #[.int .i64 t514, .int .i64 t515, .int .i64 t516, .int .i64 t517] 23 (0, 0)) (by (with_reducible repeat (first | refine blk_drewN ?_ _ | refine blk_drew ?_ | refine blk_alloc ?_ _)); refine blk_put (cs := #[.int .i64 t514, .int .i64 t515, .int .i64 t516, .int .i64 0]) ?_ 3 _ rfl; (with_reducible repeat (first | refine blk_drewN ?_ _ | refine blk_drew ?_ | refine blk_alloc ?_ _)); refine blk_put (cs := #[.int .i64 t514, .int .i64 t515, .int .i64 0, .int .i64 0]) ?_ 2 _ rfl; (with_reducible repeat (first | refine blk_drewN ?_ _ | refine blk_drew ?_ | refine blk_alloc ?_ _)); refine blk_put (cs := #[.int .i64 t514, .int .i64 0, .int .i64 0, .int .i64 0]) ?_ 1 _ rfl; (with_reducible repeat (first | refine blk_drewN ?_ _ | refine blk_drew ?_ | refine blk_alloc ?_ _)); refine blk_put (cs := #[.int .i64 0, .int .i64 0, .int .i64 0, .int .i64 0]) ?_ 0 _ rfl; (with_reducible repeat (first | refine blk_drewN ?_ _ | refine blk_drew ?_ | refine blk_alloc ?_ _)); exact BK519.out) hb); have n1_ := Aside0.mk (below_step (by repeat (first | (with_reducible first | exact HB.out | apply below_alloc | apply pw_below_drewN | apply below_drew1 | refine below_set ?_ GE519.out) | exact HB.out)) hb); clear BK519; clear HB; have BK519 := n0_; have HB := n1_; clear n0_ n1_; (try clear hb); (try clear hb2); (try clear hk); (try clear hi)))
    go_meet
    case rel => exact ⟨_, (true), (by first | rfl | (simp; done) | (simp [*]; done)), H', ⟨by first | omega | exact Nat.le_refl _⟩, ⟨by (with_reducible repeat (first | refine blk_drewN ?_ _ | refine blk_drew ?_ | refine blk_alloc ?_ _)); exact BK519.out⟩, ⟨by repeat (first | (with_reducible first | exact HB.out | apply below_alloc | apply pw_below_drewN | apply below_drew1 | refine below_set ?_ GE519.out) | exact HB.out)⟩⟩
  case rest =>
    clear HC5
    try clear c1
    try clear p2
    try clear c7
    try clear c9
    try clear c10
    try clear c11
    try clear hcz8_0
    try clear hcz8_1
    try clear hcz8_2
    try clear hcz8_3
    try clear hfz8_0
    try clear hfz8_1
    try clear hfz8_2
    try clear hfz8_3
    obtain ⟨kq, x29_4, rfl, HA, HJ4, BK519, HB⟩ := hcut
    cases kq with
    | zero => exact absurd HA.out (by simp [tinderboxlaw29_WeaveLost.j0])
    | succ kj4 =>
      have H := HA.out
      clear HA
      simp only [tinderboxlaw29_WeaveLost.j0] at H
      by_cases c13 : x29_4 = true
      · subst c13
        rw [if_pos rfl] at H
        obtain rfl := Option.some.inj H
        go_wp2
        go_ret
        exact ⟨by first | rfl | (simp [errW_none, errW_some] <;> rfl) | (simp [*, errW_none, errW_some] <;> rfl), by repeat (first | (with_reducible first | exact HB.out | apply below_alloc | apply pw_below_drewN | apply below_drew1 | refine below_set ?_ GE519.out) | exact HB.out)⟩
      replace c13 := Bool.eq_false_iff.mpr c13
      subst c13
      rw [if_neg (show ¬ (false = true) by decide)] at H
      replace H := Option.bind_eq_some_iff.mp H
      obtain ⟨t521, A140, H⟩ := H
      have A14 := Aside0.mk A140
      clear A140
      replace H := Option.bind_eq_some_iff.mp H
      obtain ⟨⟨t522, t523⟩, A150, H⟩ := H
      replace H : (if t523 = 0 then (if t522.size ≤ 9223372036854775807 then ((some (bytesOf t522 : List Int)).bind fun y524 => (if (wrap64 ((y524.length : Int) - 24)) = 0 then (none) else (tinderboxlaw29_WeaveLost.l0 kj4 a2 t521 y524 (([(-1), (t522.size : Int)] : List Int)) 24 (Int.tmod (wrap64 ((wrap64 ((Int.tmod a1 (wrap64 ((y524.length : Int) - 24))) + (y524.length : Int))) - 24)) (wrap64 ((y524.length : Int) - 24))) 0 t514 t515 t516 t517))) else (none)) else (some false)) = some r := H
      have A15 := Aside0.mk A150
      clear A150
      by_cases c16 : t523 = 0
      rotate_left
      · rw [if_neg c16] at H
        have c16b0 : (t523 == 0) = false := beq_eq_false_iff_ne.mpr c16
        have c16b1 : (t523 != 0) = true := bne_iff_ne.mpr c16
        obtain rfl := Option.some.inj H
        go_wp2_with (first | ((with_reducible refine gate_callee (f := 15) rfl ?_); refine goesL_ (some 31) rfl rfl Try.func15 (by kernel_rfl) rfl #[.string a0, .int .i64 250] rfl (by (try simp only [List.map_toArray, List.map_cons, List.map_nil]); first | done | rfl | (simp only [List.length_drop, List.length_take]; rfl)) ?_; (with_reducible refine (tinderboxlaw29_page.calls kj4 a0 250 t521 _ A14.out).mono ?_); rintro e w46 ⟨rfl, hb⟩; refine ⟨_, rfl, ?_⟩; have n0_ := Aside0.mk (blk_below (g := gb519) (o := .cells #[.int .i64 t514, .int .i64 t515, .int .i64 t516, .int .i64 t517] 23 (0, 0)) (by (with_reducible repeat (first | refine blk_drewN ?_ _ | refine blk_drew ?_ | refine blk_alloc ?_ _)); exact BK519.out) hb); have n1_ := Aside0.mk (below_step (by repeat (first | (with_reducible first | exact HB.out | apply below_alloc | apply pw_below_drewN | apply below_drew1 | refine below_set ?_ GE519.out) | exact HB.out)) hb); clear BK519; clear HB; have BK519 := n0_; have HB := n1_; clear n0_ n1_; (try clear hb); (try clear hb2); (try clear hk); (try clear hi); have hcz47_0 : w46.cell? ⟨gb519, 0, none⟩ = some (.int .i64 t514) := (blk_cell BK519.out 0).trans rfl; have hcz47_1 : w46.cell? ⟨gb519, 1, none⟩ = some (.int .i64 t515) := (blk_cell BK519.out 1).trans rfl; have hcz47_2 : w46.cell? ⟨gb519, 2, none⟩ = some (.int .i64 t516) := (blk_cell BK519.out 2).trans rfl; have hcz47_3 : w46.cell? ⟨gb519, 3, none⟩ = some (.int .i64 t517) := (blk_cell BK519.out 3).trans rfl; have hfz47_0 := blk_frozen BK519.out 0; have hfz47_1 := blk_frozen BK519.out 1; have hfz47_2 := blk_frozen BK519.out 2; have hfz47_3 := blk_frozen BK519.out 3) | ((with_reducible refine gate_callee (f := 16) rfl ?_); refine goesL_ (some 35) rfl rfl Try.func16 (by kernel_rfl) rfl #[.string t521, .agg #[.int .i64 t514, .int .i64 t515, .int .i64 t516, .int .i64 t517], .int .i64 3] rfl (by (try simp only [List.map_toArray, List.map_cons, List.map_nil]); first | done | rfl | (simp only [List.length_drop, List.length_take]; rfl)) ?_; (with_reducible refine (weave_Encode.calls kj4 t521 t514 t515 t516 t517 3 t522 t523 _ A15.out).mono ?_); rintro e w48 ⟨rfl, hb⟩; refine ⟨_, rfl, ?_⟩; have n0_ := Aside0.mk (blk_below (g := gb519) (o := .cells #[.int .i64 t514, .int .i64 t515, .int .i64 t516, .int .i64 t517] 23 (0, 0)) (by (with_reducible repeat (first | refine blk_drewN ?_ _ | refine blk_drew ?_ | refine blk_alloc ?_ _)); exact BK519.out) hb); have n1_ := Aside0.mk (below_step (by repeat (first | (with_reducible first | exact HB.out | apply below_alloc | apply pw_below_drewN | apply below_drew1 | refine below_set ?_ GE519.out) | exact HB.out)) hb); clear BK519; clear HB; have BK519 := n0_; have HB := n1_; clear n0_ n1_; (try clear hb); (try clear hb2); (try clear hk); (try clear hi)))
        go_ret
        exact ⟨by first | rfl | (simp [errW_none, errW_some] <;> rfl) | (simp [*, errW_none, errW_some] <;> rfl), by repeat (first | (with_reducible first | exact HB.out | apply below_alloc | apply pw_below_drewN | apply below_drew1 | refine below_set ?_ GE519.out) | exact HB.out)⟩
      rw [if_pos c16] at H
      have c16b0 : (t523 == 0) = true := beq_iff_eq.mpr c16
      have c16b1 : (t523 != 0) = false := bne_eq_false_iff_eq.mpr c16
      clear c16
      by_cases c17 : t522.size ≤ 9223372036854775807
      rotate_left
      · rw [if_neg c17] at H
        exact absurd H (by simp)
      rw [if_pos c17] at H
      have c17b0 := eq_true c17
      have c17b1 : decide (t522.size ≤ 9223372036854775807) = true := decide_eq_true c17
      try have c17b2 : (9223372036854775807 < t522.size) = False := eq_false (Nat.not_lt.2 c17)
      clear c17
      obtain ⟨y524, hy524⟩ : ∃ y_ : List Int, y_ = (bytesOf t522) := ⟨_, rfl⟩
      replace H : (if (wrap64 ((y524.length : Int) - 24)) = 0 then (none) else (tinderboxlaw29_WeaveLost.l0 kj4 a2 t521 y524 (([(-1), (t522.size : Int)] : List Int)) 24 (Int.tmod (wrap64 ((wrap64 ((Int.tmod a1 (wrap64 ((y524.length : Int) - 24))) + (y524.length : Int))) - 24)) (wrap64 ((y524.length : Int) - 24))) 0 t514 t515 t516 t517)) = some r := by first | (rw [hy524]; with_reducible exact H) | (have H2_ := (Option.bind_some _ _).symm.trans H; rw [hy524]; with_reducible exact H2_) | (have H2_ := (Option.bind_some _ _).symm.trans H; with_reducible exact H2_) | with_reducible exact H | (rw [hy524]; exact H) | exact H
      have Ny524 := Aside0.mk hy524
      clear hy524
      obtain ⟨y527, hy527⟩ : ∃ y_ : List Int, y_ = (([(-1), (t522.size : Int)] : List Int)) := ⟨_, rfl⟩
      replace H : (if (wrap64 ((y524.length : Int) - 24)) = 0 then (none) else (tinderboxlaw29_WeaveLost.l0 kj4 a2 t521 y524 y527 24 (Int.tmod (wrap64 ((wrap64 ((Int.tmod a1 (wrap64 ((y524.length : Int) - 24))) + (y524.length : Int))) - 24)) (wrap64 ((y524.length : Int) - 24))) 0 t514 t515 t516 t517)) = some r := by first | (rw [hy527]; with_reducible exact H) | (have H2_ := (Option.bind_some _ _).symm.trans H; rw [hy527]; with_reducible exact H2_) | (have H2_ := (Option.bind_some _ _).symm.trans H; with_reducible exact H2_) | with_reducible exact H | (rw [hy527]; exact H) | exact H
      have Ny527 := Aside0.mk hy527
      clear hy527
      by_cases c18 : (wrap64 ((y524.length : Int) - 24)) = 0
      · rw [if_pos c18] at H
        exact absurd H (by simp)
      rw [if_neg c18] at H
      have c18b0 : ((wrap64 ((y524.length : Int) - 24)) == 0) = false := beq_eq_false_iff_ne.mpr c18
      have c18b1 : ((wrap64 ((y524.length : Int) - 24)) != 0) = true := bne_iff_ne.mpr c18
      have H' := Aside0.mk H
      clear H
      go_wp2_with (first | ((with_reducible refine gate_callee (f := 15) rfl ?_); refine goesL_ (some 31) rfl rfl Try.func15 (by kernel_rfl) rfl #[.string a0, .int .i64 250] rfl (by (try simp only [List.map_toArray, List.map_cons, List.map_nil]); first | done | rfl | (simp only [List.length_drop, List.length_take]; rfl)) ?_; (with_reducible refine (tinderboxlaw29_page.calls kj4 a0 250 t521 _ A14.out).mono ?_); rintro e w19 ⟨rfl, hb⟩; refine ⟨_, rfl, ?_⟩; have n0_ := Aside0.mk (blk_below (g := gb519) (o := .cells #[.int .i64 t514, .int .i64 t515, .int .i64 t516, .int .i64 t517] 23 (0, 0)) (by (with_reducible repeat (first | refine blk_drewN ?_ _ | refine blk_drew ?_ | refine blk_alloc ?_ _)); exact BK519.out) hb); have n1_ := Aside0.mk (below_step (by repeat (first | (with_reducible first | exact HB.out | apply below_alloc | apply pw_below_drewN | apply below_drew1 | refine below_set ?_ GE519.out) | exact HB.out)) hb); clear BK519; clear HB; have BK519 := n0_; have HB := n1_; clear n0_ n1_; (try clear hb); (try clear hb2); (try clear hk); (try clear hi); have hcz20_0 : w19.cell? ⟨gb519, 0, none⟩ = some (.int .i64 t514) := (blk_cell BK519.out 0).trans rfl; have hcz20_1 : w19.cell? ⟨gb519, 1, none⟩ = some (.int .i64 t515) := (blk_cell BK519.out 1).trans rfl; have hcz20_2 : w19.cell? ⟨gb519, 2, none⟩ = some (.int .i64 t516) := (blk_cell BK519.out 2).trans rfl; have hcz20_3 : w19.cell? ⟨gb519, 3, none⟩ = some (.int .i64 t517) := (blk_cell BK519.out 3).trans rfl; have hfz20_0 := blk_frozen BK519.out 0; have hfz20_1 := blk_frozen BK519.out 1; have hfz20_2 := blk_frozen BK519.out 2; have hfz20_3 := blk_frozen BK519.out 3) | ((with_reducible refine gate_callee (f := 16) rfl ?_); refine goesL_ (some 35) rfl rfl Try.func16 (by kernel_rfl) rfl #[.string t521, .agg #[.int .i64 t514, .int .i64 t515, .int .i64 t516, .int .i64 t517], .int .i64 3] rfl (by (try simp only [List.map_toArray, List.map_cons, List.map_nil]); first | done | rfl | (simp only [List.length_drop, List.length_take]; rfl)) ?_; (with_reducible refine (weave_Encode.calls kj4 t521 t514 t515 t516 t517 3 t522 t523 _ A15.out).mono ?_); rintro e w21 ⟨rfl, hb⟩; refine ⟨_, rfl, ?_⟩; have n0_ := Aside0.mk (blk_below (g := gb519) (o := .cells #[.int .i64 t514, .int .i64 t515, .int .i64 t516, .int .i64 t517] 23 (0, 0)) (by (with_reducible repeat (first | refine blk_drewN ?_ _ | refine blk_drew ?_ | refine blk_alloc ?_ _)); exact BK519.out) hb); have n1_ := Aside0.mk (below_step (by repeat (first | (with_reducible first | exact HB.out | apply below_alloc | apply pw_below_drewN | apply below_drew1 | refine below_set ?_ GE519.out) | exact HB.out)) hb); clear BK519; clear HB; have BK519 := n0_; have HB := n1_; clear n0_ n1_; (try clear hb); (try clear hb2); (try clear hk); (try clear hi)) | ((with_reducible refine gate_dst (N := 41) rfl ?_); refine Kd.Q_bytes 5 rfl (N := 41) rfl 9 40 _ rfl t522 rfl Try.underlying9 Try.underlying40 Try.underlying5 (ok := fun _ => True) trivial (of_decide_eq_true (by first | (with_reducible assumption) | assumption)) (Below.refl _ _) (Nat.le_refl _) ?_; intro v525 w22 ho23 hb hg_ hnew_; clear hg_ hnew_; (first | rw [← Ny524.out] at ho23 | (simp only [Int.reduceToNat] at ho23; rw [← Ny524.out] at ho23)); have n0_ := Aside0.mk (Kd.Q_lower ho23 (below_size (by repeat (first | (with_reducible first | exact HB.out | apply below_alloc | apply pw_below_drewN | apply below_drew1 | refine below_set ?_ GE519.out) | exact HB.out)))); have n1_ := Aside0.mk (blk_below (g := gb519) (o := .cells #[.int .i64 t514, .int .i64 t515, .int .i64 t516, .int .i64 t517] 23 (0, 0)) (by (with_reducible repeat (first | refine blk_drewN ?_ _ | refine blk_drew ?_ | refine blk_alloc ?_ _)); exact BK519.out) hb); have n2_ := Aside0.mk (below_step (by repeat (first | (with_reducible first | exact HB.out | apply below_alloc | apply pw_below_drewN | apply below_drew1 | refine below_set ?_ GE519.out) | exact HB.out)) hb); clear BK519; clear HB; have HO526 := n0_; have BK519 := n1_; have HB := n2_; clear n0_ n1_ n2_; clear hb ho23) | ((with_reducible refine gate_dst (N := 44) rfl ?_); refine Kd.R_lit (Kd.int .i64) _ 3 ?hg (N := 44) ?hd (xs := ([(-1), (t522.size : Int)] : List Int)) (inner := [.int .i64 (-1), .int .i64 (t522.size : Int)]) (ok := fun _ => True) (okp := fun _ => True) ?hr ?hp (fun _ hk => hk) trivial (Below.refl _ _) (Nat.le_refl _) (by simp) ?_; (case hd => rfl); (case hg => rfl); (case hr => first | (go_simp; done) | (go_simp; rfl)); (case hp => exact (Reps.one (show Kd.M (Kd.int .i64) _ _ _ (-1) [.int .i64 (-1)] from rfl) (Reps.one (show Kd.M (Kd.int .i64) _ _ _ (t522.size : Int) [.int .i64 (t522.size : Int)] from rfl) (Reps.none _ _)))); intro v528 w24 ho25 hb hg_ hnew_; clear hg_ hnew_; (first | rw [← Ny527.out] at ho25 | (simp only [Int.reduceToNat] at ho25; rw [← Ny527.out] at ho25)); have n0_ := Aside0.mk (Kd.Q_below (by (with_reducible repeat (first | apply Kd.Q_alloc | apply Kd.Q_drewN | apply Kd.Q_drew)); exact HO526.out) hb); have n1_ := Aside0.mk (Kd.R_lower ho25 (below_size (by repeat (first | (with_reducible first | exact HB.out | apply below_alloc | apply pw_below_drewN | apply below_drew1 | refine below_set ?_ GE519.out) | exact HB.out)))); have n2_ := Aside0.mk (blk_below (g := gb519) (o := .cells #[.int .i64 t514, .int .i64 t515, .int .i64 t516, .int .i64 t517] 23 (0, 0)) (by (with_reducible repeat (first | refine blk_drewN ?_ _ | refine blk_drew ?_ | refine blk_alloc ?_ _)); exact BK519.out) hb); have n3_ := Aside0.mk (below_step (by repeat (first | (with_reducible first | exact HB.out | apply below_alloc | apply pw_below_drewN | apply below_drew1 | refine below_set ?_ GE519.out) | exact HB.out)) hb); clear HO526; clear BK519; clear HB; have HO526 := n0_; have HO529 := n1_; have BK519 := n2_; have HB := n3_; clear n0_ n1_ n2_ n3_; clear hb ho25; obtain ⟨Ao26, co26, eo26, _⟩ := Kd.Q_slice HO526.out; subst eo26))
      go_loopg [13, 16] kj4 (fun kq v13 v16 w' => ∃ (x12_2 : List Int) (x13_2 : List Int) (x16_2 : Int), v16 = .int .i64 x16_2 ∧ Aside0 (tinderboxlaw29_WeaveLost.l0 kq a2 t521 x12_2 x13_2 24 (Int.tmod (wrap64 ((wrap64 ((Int.tmod a1 (wrap64 ((y524.length : Int) - 24))) + (y524.length : Int))) - 24)) (wrap64 ((y524.length : Int) - 24))) x16_2 t514 t515 t516 t517 = some r) ∧ Aside0 (kq ≤ kj4) ∧ Aside0 (Kd.Q (Kd.int .u8) 5 w' w.heap.size (fun _ => True) (.slice Ao26 y524.length co26) x12_2) ∧ Aside0 (Kd.R (Kd.int .i64) 3 w' w.heap.size (fun _ => True) v13 x13_2) ∧ Aside0 (w'.heap[gb519]? = some (.cells #[.int .i64 t514, .int .i64 t515, .int .i64 t516, .int .i64 t517] 23 (0, 0))) ∧ Aside0 (Below w.heap.size w w'))
      case atStart => exact ⟨(y524), (y527), (0), (by first | rfl | (simp; done) | (simp [*]; done)), H', ⟨Nat.le_refl _⟩, ⟨by (with_reducible repeat (first | apply Kd.Q_alloc | apply Kd.Q_drewN | apply Kd.Q_drew)); exact HO526.out⟩, ⟨by (with_reducible repeat (first | apply Kd.R_alloc | apply Kd.R_drewN | apply Kd.R_drew)); exact HO529.out⟩, ⟨by (with_reducible repeat (first | refine blk_drewN ?_ _ | refine blk_drew ?_ | refine blk_alloc ?_ _)); exact BK519.out⟩, ⟨by repeat (first | (with_reducible first | exact HB.out | apply below_alloc | apply pw_below_drewN | apply below_drew1 | refine below_set ?_ GE519.out) | exact HB.out)⟩⟩
      case round =>
        clear H'
        try clear c1
        try clear p2
        try clear p6
        try clear c7
        try clear c9
        try clear c10
        try clear c11
        try clear c13
        try clear c15
        try clear c16
        try clear c16b0
        try clear c16b1
        try clear c17
        try clear c17b0
        try clear c17b1
        try clear c17b2
        try clear c18
        try clear c18b0
        try clear c18b1
        try clear hcz20_0
        try clear hcz20_1
        try clear hcz20_2
        try clear hcz20_3
        try clear hcz8_0
        try clear hcz8_1
        try clear hcz8_2
        try clear hcz8_3
        try clear hfz20_0
        try clear hfz20_1
        try clear hfz20_2
        try clear hfz20_3
        try clear hfz8_0
        try clear hfz8_1
        try clear hfz8_2
        try clear hfz8_3
        try clear p2
        obtain ⟨x12_2, x13_2, x16_2, rfl, HA, HK2, HO_12, HO_13, BK519, HB⟩ := hrel
        have hl12_2 := (Kd.Q_reads' HO_12.out).1
        rw [hl12_2] at HO_12
        (try simp only [hl12_2])
        (try simp only [hl12_2] at BK519)
        (try simp only [hl12_2] at HO_13)
        cases gk with
        | zero => exact absurd HA.out (by simp [tinderboxlaw29_WeaveLost.l0])
        | succ k2 =>
          have H := HA.out
          clear HA
          simp only [tinderboxlaw29_WeaveLost.l0] at H
          by_cases c27 : x16_2 < 24
          rotate_left
          · rw [if_neg c27] at H
            have c27b0 : decide (x16_2 < 24) = false := decide_eq_false c27
            clear c27
            replace H := Option.bind_eq_some_iff.mp H
            obtain ⟨⟨t534, t535, t536⟩, A360, H⟩ := H
            replace H : (if t536 = 0 then (some (t534.toList == t521.toList)) else (some false)) = some r := H
            have A36 := Aside0.mk A360
            clear A360
            by_cases c37 : t536 = 0
            · rw [if_pos c37] at H
              have c37b0 : (t536 == 0) = true := beq_iff_eq.mpr c37
              have c37b1 : (t536 != 0) = false := bne_eq_false_iff_eq.mpr c37
              clear c37
              obtain rfl := Option.some.inj H
              have hcv38 := Kd.Q_string (P := Try.prog) Try.underlying40 Try.underlying5 Try.underlying9 HO_12.out
              have hcz39_0 : wr.cell? ⟨gb519, 0, none⟩ = some (.int .i64 t514) := (blk_cell BK519.out 0).trans rfl
              have hcz39_1 : wr.cell? ⟨gb519, 1, none⟩ = some (.int .i64 t515) := (blk_cell BK519.out 1).trans rfl
              have hcz39_2 : wr.cell? ⟨gb519, 2, none⟩ = some (.int .i64 t516) := (blk_cell BK519.out 2).trans rfl
              have hcz39_3 : wr.cell? ⟨gb519, 3, none⟩ = some (.int .i64 t517) := (blk_cell BK519.out 3).trans rfl
              have hfz39_0 := blk_frozen BK519.out 0
              have hfz39_1 := blk_frozen BK519.out 1
              have hfz39_2 := blk_frozen BK519.out 2
              have hfz39_3 := blk_frozen BK519.out 3
              obtain ⟨Ao40, co40, eo40⟩ := Kd.R_slice HO_13.out
              subst eo40
              go_wp2_with (first | ((with_reducible refine gate_callee (f := 17) rfl ?_); refine goesL_ (some 83) rfl rfl Try.func17 (by kernel_rfl) rfl #[.string (strOfNums x12_2), .agg #[.int .i64 t514, .int .i64 t515, .int .i64 t516, .int .i64 t517], .int .i64 3, .slice Ao40 x13_2.length co40] rfl (by (try simp only [List.map_toArray, List.map_cons, List.map_nil]); first | done | rfl | (simp only [List.length_drop, List.length_take]; rfl)) ?_; (with_reducible refine (weave_Decode.calls k2 (strOfNums x12_2) t514 t515 t516 t517 3 _ _ x13_2 t534 t535 t536 _ ?side1 ?side2 A36.out).mono ?_); (case side1 => repeat (first | exact (Kd.R_reads' HO_13.out).2.2 | (with_reducible refine Kd.C_alloc ?_ _) | (with_reducible refine Kd.C_drewN ?_ _) | (with_reducible refine Kd.C_drew ?_))); (case side2 => exact (Kd.R_reads' HO_13.out).2.1); rintro e w41 ⟨rfl, hb⟩; refine ⟨_, rfl, ?_⟩; have n0_ := Aside0.mk (Kd.Q_below (by (with_reducible repeat (first | apply Kd.Q_alloc | apply Kd.Q_drewN | apply Kd.Q_drew)); exact HO_12.out) hb); have n1_ := Aside0.mk (Kd.R_below (by (with_reducible repeat (first | apply Kd.R_alloc | apply Kd.R_drewN | apply Kd.R_drew)); exact HO_13.out) hb); have n2_ := Aside0.mk (blk_below (g := gb519) (o := .cells #[.int .i64 t514, .int .i64 t515, .int .i64 t516, .int .i64 t517] 23 (0, 0)) (by (with_reducible repeat (first | refine blk_drewN ?_ _ | refine blk_drew ?_ | refine blk_alloc ?_ _)); exact BK519.out) hb); have n3_ := Aside0.mk (below_step (by repeat (first | (with_reducible first | exact HB.out | apply below_alloc | apply pw_below_drewN | apply below_drew1 | refine below_set ?_ GE519.out) | exact HB.out)) hb); clear HO_12; clear HO_13; clear BK519; clear HB; have HO_12 := n0_; have HO_13 := n1_; have BK519 := n2_; have HB := n3_; clear n0_ n1_ n2_ n3_; (try clear hb); (try clear hb2); (try clear hk); (try clear hi)))
              go_ret
              exact ⟨by first | rfl | (simp [errW_none, errW_some] <;> rfl) | (simp [*, errW_none, errW_some] <;> rfl), by repeat (first | (with_reducible first | exact HB.out | apply below_alloc | apply pw_below_drewN | apply below_drew1 | refine below_set ?_ GE519.out) | exact HB.out)⟩
            rw [if_neg c37] at H
            have c37b0 : (t536 == 0) = false := beq_eq_false_iff_ne.mpr c37
            have c37b1 : (t536 != 0) = true := bne_iff_ne.mpr c37
            obtain rfl := Option.some.inj H
            have hcv42 := Kd.Q_string (P := Try.prog) Try.underlying40 Try.underlying5 Try.underlying9 HO_12.out
            have hcz43_0 : wr.cell? ⟨gb519, 0, none⟩ = some (.int .i64 t514) := (blk_cell BK519.out 0).trans rfl
            have hcz43_1 : wr.cell? ⟨gb519, 1, none⟩ = some (.int .i64 t515) := (blk_cell BK519.out 1).trans rfl
            have hcz43_2 : wr.cell? ⟨gb519, 2, none⟩ = some (.int .i64 t516) := (blk_cell BK519.out 2).trans rfl
            have hcz43_3 : wr.cell? ⟨gb519, 3, none⟩ = some (.int .i64 t517) := (blk_cell BK519.out 3).trans rfl
            have hfz43_0 := blk_frozen BK519.out 0
            have hfz43_1 := blk_frozen BK519.out 1
            have hfz43_2 := blk_frozen BK519.out 2
            have hfz43_3 := blk_frozen BK519.out 3
            obtain ⟨Ao44, co44, eo44⟩ := Kd.R_slice HO_13.out
            subst eo44
            go_wp2_with (first | ((with_reducible refine gate_callee (f := 17) rfl ?_); refine goesL_ (some 83) rfl rfl Try.func17 (by kernel_rfl) rfl #[.string (strOfNums x12_2), .agg #[.int .i64 t514, .int .i64 t515, .int .i64 t516, .int .i64 t517], .int .i64 3, .slice Ao44 x13_2.length co44] rfl (by (try simp only [List.map_toArray, List.map_cons, List.map_nil]); first | done | rfl | (simp only [List.length_drop, List.length_take]; rfl)) ?_; (with_reducible refine (weave_Decode.calls k2 (strOfNums x12_2) t514 t515 t516 t517 3 _ _ x13_2 t534 t535 t536 _ ?side1 ?side2 A36.out).mono ?_); (case side1 => repeat (first | exact (Kd.R_reads' HO_13.out).2.2 | (with_reducible refine Kd.C_alloc ?_ _) | (with_reducible refine Kd.C_drewN ?_ _) | (with_reducible refine Kd.C_drew ?_))); (case side2 => exact (Kd.R_reads' HO_13.out).2.1); rintro e w45 ⟨rfl, hb⟩; refine ⟨_, rfl, ?_⟩; have n0_ := Aside0.mk (Kd.Q_below (by (with_reducible repeat (first | apply Kd.Q_alloc | apply Kd.Q_drewN | apply Kd.Q_drew)); exact HO_12.out) hb); have n1_ := Aside0.mk (Kd.R_below (by (with_reducible repeat (first | apply Kd.R_alloc | apply Kd.R_drewN | apply Kd.R_drew)); exact HO_13.out) hb); have n2_ := Aside0.mk (blk_below (g := gb519) (o := .cells #[.int .i64 t514, .int .i64 t515, .int .i64 t516, .int .i64 t517] 23 (0, 0)) (by (with_reducible repeat (first | refine blk_drewN ?_ _ | refine blk_drew ?_ | refine blk_alloc ?_ _)); exact BK519.out) hb); have n3_ := Aside0.mk (below_step (by repeat (first | (with_reducible first | exact HB.out | apply below_alloc | apply pw_below_drewN | apply below_drew1 | refine below_set ?_ GE519.out) | exact HB.out)) hb); clear HO_12; clear HO_13; clear BK519; clear HB; have HO_12 := n0_; have HO_13 := n1_; have BK519 := n2_; have HB := n3_; clear n0_ n1_ n2_ n3_; (try clear hb); (try clear hb2); (try clear hk); (try clear hi)))
            go_ret
            exact ⟨by first | rfl | (simp [errW_none, errW_some] <;> rfl) | (simp [*, errW_none, errW_some] <;> rfl), by repeat (first | (with_reducible first | exact HB.out | apply below_alloc | apply pw_below_drewN | apply below_drew1 | refine below_set ?_ GE519.out) | exact HB.out)⟩
          rw [if_pos c27] at H
          have c27b0 : decide (x16_2 < 24) = true := decide_eq_true c27
          clear c27
          obtain ⟨ji28, hji28⟩ : ∃ j_ : Int, (wrap64 ((Int.tmod (wrap64 ((wrap64 ((Int.tmod a1 (wrap64 ((y524.length : Int) - 24))) + (y524.length : Int))) - 24)) (wrap64 ((y524.length : Int) - 24))) + x16_2)) = j_ := ⟨_, rfl⟩
          first | rw [hji28] at H | simp only [hji28] at H
          have hji28w : (IntKind.i64.wrap ((Int.tmod (wrap64 ((wrap64 ((Int.tmod a1 (wrap64 ((y524.length : Int) - 24))) + (y524.length : Int))) - 24)) (wrap64 ((y524.length : Int) - 24))) + x16_2)) = ji28 := (i64_w _).trans hji28
          have hji28wk := hji28w
          have hji28k := hji28
          (try simp only [hl12_2] at hji28wk hji28k)
          by_cases c29 : 0 ≤ (ji28)
          rotate_left
          · rw [if_neg c29] at H
            exact absurd H (by simp)
          rw [if_pos c29] at H
          have c29b0 : decide (0 ≤ (ji28)) = true := decide_eq_true c29
          clear c29
          by_cases c30 : (ji28) < (x12_2.length : Int)
          rotate_left
          · rw [if_neg c30] at H
            exact absurd H (by simp)
          rw [if_pos c30] at H
          have c30b0 : decide ((ji28) < (x12_2.length : Int)) = true := decide_eq_true c30
          clear c30
          obtain ⟨y530, hy530⟩ : ∃ y_ : List Int, y_ = (x12_2.set ((ji28) : Int).toNat a2) := ⟨_, rfl⟩
          replace H : (if x13_2.length < 17592186044416 then (tinderboxlaw29_WeaveLost.l0 k2 a2 t521 y530 (x13_2 ++ [ji28]) 24 (Int.tmod (wrap64 ((wrap64 ((Int.tmod a1 (wrap64 ((y524.length : Int) - 24))) + (y524.length : Int))) - 24)) (wrap64 ((y524.length : Int) - 24))) (wrap64 (x16_2 + 1)) t514 t515 t516 t517) else (none)) = some r := by first | (rw [hy530]; with_reducible exact H) | (have H2_ := (Option.bind_some _ _).symm.trans H; rw [hy530]; with_reducible exact H2_) | (have H2_ := (Option.bind_some _ _).symm.trans H; with_reducible exact H2_) | with_reducible exact H | (rw [hy530]; exact H) | exact H
          have Ny530 := Aside0.mk hy530
          clear hy530
          by_cases c32 : x13_2.length < 17592186044416
          rotate_left
          · rw [if_neg c32] at H
            exact absurd H (by simp)
          rw [if_pos c32] at H
          have LMc32 := Aside0.mk c32
          clear c32
          obtain ⟨y531, hy531⟩ : ∃ y_ : List Int, y_ = (x13_2 ++ [ji28]) := ⟨_, rfl⟩
          replace H : (tinderboxlaw29_WeaveLost.l0 k2 a2 t521 y530 y531 24 (Int.tmod (wrap64 ((wrap64 ((Int.tmod a1 (wrap64 ((y524.length : Int) - 24))) + (y524.length : Int))) - 24)) (wrap64 ((y524.length : Int) - 24))) (wrap64 (x16_2 + 1)) t514 t515 t516 t517) = some r := by first | (rw [hy531]; with_reducible exact H) | (have H2_ := (Option.bind_some _ _).symm.trans H; rw [hy531]; with_reducible exact H2_) | (have H2_ := (Option.bind_some _ _).symm.trans H; with_reducible exact H2_) | with_reducible exact H | (rw [hy531]; exact H) | exact H
          have Ny531 := Aside0.mk hy531
          clear hy531
          have H' := Aside0.mk H
          clear H
          have p31 : 0 ≤ ((ji28) : Int) := of_decide_eq_true (by first | (with_reducible assumption) | assumption)
          have q31 : ((ji28) : Int) < ((x12_2.length : Int) : Int) := of_decide_eq_true (by first | (with_reducible assumption) | assumption)
          obtain ⟨go31, oo31, co31, eo31, gb31, gl31, cl31, HG31⟩ := Kd.Q_form HO_12.out (by omega)
          (first | cases eo31 | (injection eo31 with ea_ en_ ec_; (first | subst ea_ | (injection ea_ with ea_; subst ea_)); subst ec_; clear en_))
          have GB31 := Aside0.mk gb31
          have GG31 := Aside0.mk HG31
          clear gb31 gl31 HG31
          obtain ⟨hx31_0, hf31_0⟩ := Kd.Q_cell 0 HO_12.out ((ji28) : Int) p31 q31
          replace p31 := eq_true p31
          replace q31 := eq_true q31
          have HP33 := Kd.Q_putg HO_12.out ((ji28) : Int) (of_decide_eq_true (by first | (with_reducible assumption) | assumption)) (by have h_ : ((ji28) : Int) < ((x12_2.length : Int) : Int) := of_decide_eq_true (by first | (with_reducible assumption) | assumption); first | exact h_ | (have e_ := (Kd.Q_reads' HO_12.out).1; omega) | simpa using h_) a2
          go_wp2_with (first | ((with_reducible refine gate_store (t := 5) (p := 71) rfl ?_); refine store_event (t := 5) (p := 71) (v := ?vo_w34) (w1 := (wr.setCell ⟨go31, oo31 + ((ji28) : Int).toNat, none⟩ (.int .u8 a2))) ?hg ?ho ?hn ?hr ?_; (case ho => rfl); (case hg => rfl); (case hn => rfl); (case hr => first | (go_simp; done) | (go_simp; rfl)); intro w34 hw; have hg : wr.grownBy w34 (some go31) := (by rw [hw]; exact HP33.2); have hp_ : Kd.Q (Kd.int .u8) 5 w34 w.heap.size (fun _ => True) (.slice (some ⟨go31, oo31, none⟩) x12_2.length co26) y530 := (by rw [hw, Ny530.out]; exact HP33.1); clear HP33; have n0_ := Aside0.mk (hp_); have n1_ := Aside0.mk (Kd.R_over' (v := (.slice (some ⟨go31, oo31, none⟩) x12_2.length co26)) (by (with_reducible repeat (first | apply Kd.R_alloc | apply Kd.R_drewN | apply Kd.R_drew)); exact HO_13.out) (Kd.Q_typed HO_12.out) (by decide) hg); have n2_ := Aside0.mk (blk_grown (g := gb519) (o := .cells #[.int .i64 t514, .int .i64 t515, .int .i64 t516, .int .i64 t517] 23 (0, 0)) (by (with_reducible repeat (first | refine blk_drewN ?_ _ | refine blk_drew ?_ | refine blk_alloc ?_ _)); exact BK519.out) hg (Kd.Q_ne HO_12.out BK519.out (by decide))); have n3_ := Aside0.mk ((by rw [hw]; exact below_set (HB.out) GB31.out : Below w.heap.size w w34)); clear HO_12; clear HO_13; clear BK519; clear HB; have HO_12 := n0_; have HO_13 := n1_; have BK519 := n2_; have HB := n3_; clear n0_ n1_ n2_ n3_; clear hg hw hp_) | ((with_reducible refine gate_builtin (b := .append) (xs := #[.tmp 72, .tmp 76]) rfl ?_); at_builtin; refine Kd.R_append (Kd.int .i64) (w0 := w) w.heap.size rfl (.tmp 72) (.tmp 76) 42 3 (.int .i64 0) 8 rfl Try.underlying42 info3 rfl (by decide) (by omega) u13 x13_2 ji28 [.int .i64 ji28] (fun _ => True) (fun _ => False) rfl rfl ?aP (fun _ hk => hk.elim) ?aF ?aO ?aB ?aS ?aL ?_; (case aP => exact rfl); (case aB => exact (by repeat (first | (with_reducible first | exact HB.out | apply below_alloc | apply pw_below_drewN | apply below_drew1 | refine below_set ?_ GE519.out) | exact HB.out))); (case aF => exact (fun _ _ => trivial)); (case aO => exact (by (with_reducible repeat (first | apply Kd.R_alloc | apply Kd.R_drewN | apply Kd.R_drew)); exact HO_13.out)); (case aS => exact (below_size (by repeat (first | (with_reducible first | exact HB.out | apply below_alloc | apply pw_below_drewN | apply below_drew1 | refine below_set ?_ GE519.out) | exact HB.out)))); (case aL => have := LMc32.out; omega); intro v532 w35 ho hb hg hat; rw [← Ny531.out] at ho; have n0_ := Aside0.mk (Kd.Q_over' (by (with_reducible repeat (first | apply Kd.Q_alloc | apply Kd.Q_drewN | apply Kd.Q_drew)); exact HO_12.out) (Kd.R_typed (by (with_reducible repeat (first | apply Kd.R_alloc | apply Kd.R_drewN | apply Kd.R_drew)); exact HO_13.out)) (by decide) hg); have n1_ := Aside0.mk (blk_grown (g := gb519) (o := .cells #[.int .i64 t514, .int .i64 t515, .int .i64 t516, .int .i64 t517] 23 (0, 0)) (by (with_reducible repeat (first | refine blk_drewN ?_ _ | refine blk_drew ?_ | refine blk_alloc ?_ _)); exact BK519.out) hg (Kd.R_ne HO_13.out BK519.out (by decide))); have n2_ := Aside0.mk (hb); have n3_ := Aside0.mk (ho); clear HO_12; clear BK519; clear HB; clear HO_13; have HO_12 := n0_; have BK519 := n1_; have HB := n2_; have HO533 := n3_; clear n0_ n1_ n2_ n3_; clear ho hb hg hat))
          (try simp only [← hl12_2])
          go_roundg k2
          case measure => have := HJ4.out; have := HK2.out; omega
          case rel => exact ⟨(y530), (y531), (wrap64 (x16_2 + 1)), (by first | rfl | (simp; done) | (simp [*]; done)), H', ⟨by have := HJ4.out; have := HK2.out; omega⟩, ⟨by (try simp only [hl12_2]); (with_reducible repeat (first | apply Kd.Q_alloc | apply Kd.Q_drewN | apply Kd.Q_drew)); exact HO_12.out⟩, ⟨by (try simp only [hl12_2]); (with_reducible repeat (first | apply Kd.R_alloc | apply Kd.R_drewN | apply Kd.R_drew)); exact HO533.out⟩, ⟨by (try simp only [hl12_2]); (with_reducible repeat (first | refine blk_drewN ?_ _ | refine blk_drew ?_ | refine blk_alloc ?_ _)); exact BK519.out⟩, ⟨by repeat (first | (with_reducible first | exact HB.out | apply below_alloc | apply pw_below_drewN | apply below_drew1 | refine below_set ?_ GE519.out) | exact HB.out)⟩⟩
def tinderboxlaw29_WeaveLost.Pure : Prop := ∀ (a0 : ByteArray) (a1 : Int) (a2 : Int), a0.size ≤ 140737488351232 → (Lit.int .i64 a1).wf = true → (Lit.int .u8 a2).wf = true → ∃ k, tinderboxlaw29_WeaveLost.f k a0 a1 a2 = some true
theorem tinderboxlaw29_WeaveLost.walk (P : tinderboxlaw29_WeaveLost.Pure) (a0 : ByteArray) (a1 : Int) (a2 : Int) (w : World) (w0 : a0.size ≤ 140737488351232) (w1 : (Lit.int .i64 a1).wf = true) (w2 : (Lit.int .u8 a2).wf = true) :
    Calls Try.prog 7 #[.string a0, .int .i64 a1, .int .u8 a2] w fun e w' => e = .returned (.bool true) ∧ Below w.heap.size w w' := by
  obtain ⟨k, h⟩ := P a0 a1 a2 w0 w1 w2
  refine (tinderboxlaw29_WeaveLost.calls k a0 a1 a2 true w h).mono ?_
  rintro e w' ⟨rfl, hd⟩
  exact ⟨rfl, hd⟩
mutual
def weave_Erased.l0 : Nat → ByteArray → Int → Int → Int → Int → Option (Bool)
  | 0, _, _, _, _, _ => none
  | k + 1, x0, x1, x5, x9, x10 => if x10 < x9 then (if 0 ≤ x10 then (if x10 < (x0.size : Int) then (weave_Erased.l1 k x0 x1 x5 (Go.bits .xor .u8 (bt x0 x10) 255) x9 x10) else (none)) else (none)) else (some (decide (x5 ≤ x1)))
def weave_Erased.l1 : Nat → ByteArray → Int → Int → Int → Int → Int → Option (Bool)
  | 0, _, _, _, _, _, _ => none
  | k + 1, x0, x1, x5, x7, x9, x10 => if x7 > 0 then (weave_Erased.l1 k x0 x1 (wrap64 (x5 + 1)) (Go.bits .and .u8 x7 ((x7 - 1) % 256)) x9 x10) else (weave_Erased.l0 k x0 x1 x5 x9 (wrap64 (x10 + 1)))
end
def weave_Erased.f (k : Nat) (a0 : ByteArray) (a1 : Int) : Option (Bool) := weave_Erased.l0 k a0 a1 0 (a0.size : Int) 0
theorem weave_Erased.mono_l : ∀ k, (∀ y0 y1 y2 y3 y4, LeO (weave_Erased.l0 k y0 y1 y2 y3 y4) (weave_Erased.l0 (k + 1) y0 y1 y2 y3 y4)) ∧ (∀ y0 y1 y2 y3 y4 y5, LeO (weave_Erased.l1 k y0 y1 y2 y3 y4 y5) (weave_Erased.l1 (k + 1) y0 y1 y2 y3 y4 y5))
  | 0 => ⟨fun _ _ _ _ _ r h => by simp [weave_Erased.l0] at h, fun _ _ _ _ _ _ r h => by simp [weave_Erased.l1] at h⟩
  | k + 1 => by
    obtain ⟨ih0, ih1⟩ := weave_Erased.mono_l k
    refine ⟨?_, ?_⟩
    · intro y0 y1 y2 y3 y4
      unfold weave_Erased.l0
      repeat' first
      | (with_reducible exact ih0 _ _ _ _ _)
      | (with_reducible exact ih1 _ _ _ _ _ _)
      | (with_reducible exact LeO.refl _)
      | (with_reducible exact LeO.none _)
      | (with_reducible refine LeO.ite ?_ ?_)
      | (with_reducible refine LeO.bind ?_ (fun _ => ?_))
      | exact ih0 _ _ _ _ _
      | exact ih1 _ _ _ _ _ _
      | exact LeO.none _
      | refine LeO.ite ?_ ?_
      | refine LeO.bind ?_ (fun _ => ?_)
    · intro y0 y1 y2 y3 y4 y5
      unfold weave_Erased.l1
      repeat' first
      | (with_reducible exact ih0 _ _ _ _ _)
      | (with_reducible exact ih1 _ _ _ _ _ _)
      | (with_reducible exact LeO.refl _)
      | (with_reducible exact LeO.none _)
      | (with_reducible refine LeO.ite ?_ ?_)
      | (with_reducible refine LeO.bind ?_ (fun _ => ?_))
      | exact ih0 _ _ _ _ _
      | exact ih1 _ _ _ _ _ _
      | exact LeO.none _
      | refine LeO.ite ?_ ?_
      | refine LeO.bind ?_ (fun _ => ?_)
theorem weave_Erased.mono : ∀ a0 a1 k, LeO (weave_Erased.f k a0 a1) (weave_Erased.f (k + 1) a0 a1) := by
  intro a0 a1 k
  obtain ⟨ih0, ih1⟩ := weave_Erased.mono_l k
  unfold weave_Erased.f
  repeat' first
      | (with_reducible exact ih0 _ _ _ _ _)
      | (with_reducible exact ih1 _ _ _ _ _ _)
      | (with_reducible exact LeO.refl _)
      | (with_reducible exact LeO.none _)
      | (with_reducible refine LeO.ite ?_ ?_)
      | (with_reducible refine LeO.bind ?_ (fun _ => ?_))
      | exact ih0 _ _ _ _ _
      | exact ih1 _ _ _ _ _ _
      | exact LeO.none _
      | refine LeO.ite ?_ ?_
      | refine LeO.bind ?_ (fun _ => ?_)
set_option maxHeartbeats 8000000 in
set_option maxRecDepth 100000 in
theorem weave_Erased.calls (k : Nat) (a0 : ByteArray) (a1 : Int) (r : Bool) (w : World) (h : weave_Erased.f k a0 a1 = some r) :
    Calls Try.prog 19 #[.string a0, .int .i64 a1] w fun e w' => e = .returned (.bool r) ∧ Drawn0 w w' := by
  have H : (weave_Erased.l0 k a0 a1 0 (a0.size : Int) 0) = some r := h
  clear h
  have H' := Aside0.mk H
  clear H
  go_enter Try.func19, Try.ntmps19
  go_wp2
  go_loopg [5, 10] k (fun kq v5 v10 w' => ∃ (x5_1 : Int) (x10_1 : Int), v5 = .int .i64 x5_1 ∧ v10 = .int .i64 x10_1 ∧ Aside0 (weave_Erased.l0 kq a0 a1 x5_1 (a0.size : Int) x10_1 = some r) ∧ Aside0 (kq ≤ k) ∧ Drawn0 w w')
  case atStart => exact ⟨(0), (0), (by first | rfl | (simp; done) | (simp [*]; done)), (by first | rfl | (simp; done) | (simp [*]; done)), H', ⟨Nat.le_refl _⟩, by repeat (first | exact Drawn0.refl _ | apply Drawn0.step)⟩
  case round =>
    clear H'
    try clear c1
    try clear p2
    obtain ⟨x5_1, x10_1, rfl, rfl, HA, HK1, ⟨m1, rfl⟩⟩ := hrel
    cases gk with
    | zero => exact absurd HA.out (by simp [weave_Erased.l0])
    | succ k1 =>
      have H := HA.out
      clear HA
      simp only [weave_Erased.l0] at H
      by_cases c3 : x10_1 < (a0.size : Int)
      rotate_left
      · rw [if_neg c3] at H
        have c3b0 : decide (x10_1 < (a0.size : Int)) = false := decide_eq_false c3
        clear c3
        obtain rfl := Option.some.inj H
        go_wp2
        go_ret
        exact ⟨by first | rfl | (simp; done) | (simp [*]; done), by repeat (first | exact Drawn0.refl _ | apply Drawn0.step)⟩
      rw [if_pos c3] at H
      have c3b0 : decide (x10_1 < (a0.size : Int)) = true := decide_eq_true c3
      clear c3
      by_cases c4 : 0 ≤ x10_1
      rotate_left
      · rw [if_neg c4] at H
        exact absurd H (by simp)
      rw [if_pos c4] at H
      have c4b0 : decide (0 ≤ x10_1) = true := decide_eq_true c4
      clear c4
      by_cases c5 : x10_1 < (a0.size : Int)
      rotate_left
      · rw [if_neg c5] at H
        exact absurd H (by simp)
      rw [if_pos c5] at H
      have c5b0 : decide (x10_1 < (a0.size : Int)) = true := decide_eq_true c5
      clear c5
      have H' := Aside0.mk H
      clear H
      have p6 : 0 ≤ (x10_1 : Int) := of_decide_eq_true (by first | (with_reducible assumption) | assumption)
      have q6 : x10_1 < (a0.size : Int) := of_decide_eq_true (by first | (with_reducible assumption) | assumption)
      have hx6 := bt_at a0 x10_1
      replace p6 := eq_true p6
      replace q6 := eq_true q6
      go_wp2
      go_loopg [5, 7] k1 (fun kq v5 v7 w' => ∃ (x5_2 : Int) (x7_2 : Int), v5 = .int .i64 x5_2 ∧ v7 = .int .u8 x7_2 ∧ Aside0 (weave_Erased.l1 kq a0 a1 x5_2 x7_2 (a0.size : Int) x10_1 = some r) ∧ Aside0 (kq ≤ k1) ∧ Drawn0 w w')
      case atStart => exact ⟨(x5_1), (Go.bits .xor .u8 (bt a0 x10_1) 255), (by first | rfl | (simp; done) | (simp [*]; done)), (by first | rfl | (simp; done) | (simp [*]; done)), H', ⟨Nat.le_refl _⟩, by repeat (first | exact Drawn0.refl _ | apply Drawn0.step)⟩
      case round =>
        clear H'
        try clear c1
        try clear p2
        try clear c3
        try clear c3b0
        try clear c4
        try clear c4b0
        try clear c5
        try clear c5b0
        try clear p6
        try clear q6
        try clear hx6
        try clear p2
        try clear p6
        try clear q6
        obtain ⟨x5_2, x7_2, rfl, rfl, HA, HK2, ⟨m2, rfl⟩⟩ := hrel
        cases gk with
        | zero => exact absurd HA.out (by simp [weave_Erased.l1])
        | succ k2 =>
          have H := HA.out
          clear HA
          simp only [weave_Erased.l1] at H
          by_cases c7 : x7_2 > 0
          rotate_left
          · rw [if_neg c7] at H
            have c7b0 : decide (0 < x7_2) = false := decide_eq_false c7
            clear c7
            have H' := Aside0.mk H
            clear H
            go_wp2
            go_roundg k2
            case measure => have := HK1.out; have := HK2.out; omega
            case rel => exact ⟨(x5_2), (wrap64 (x10_1 + 1)), (by first | rfl | (simp; done) | (simp [*]; done)), (by first | rfl | (simp; done) | (simp [*]; done)), H', ⟨by have := HK1.out; have := HK2.out; omega⟩, by repeat (first | exact Drawn0.refl _ | apply Drawn0.step)⟩
          rw [if_pos c7] at H
          have c7b0 : decide (0 < x7_2) = true := decide_eq_true c7
          clear c7
          have H' := Aside0.mk H
          clear H
          go_wp2
          go_roundg k2
          case measure => have := HK1.out; have := HK2.out; omega
          case rel => exact ⟨(wrap64 (x5_2 + 1)), (Go.bits .and .u8 x7_2 ((x7_2 - 1) % 256)), (by first | rfl | (simp; done) | (simp [*]; done)), (by first | rfl | (simp; done) | (simp [*]; done)), H', ⟨by have := HK1.out; have := HK2.out; omega⟩, by repeat (first | exact Drawn0.refl _ | apply Drawn0.step)⟩
mutual
def tinderboxlaw29_WeaveErased.l0 : Nat → ByteArray → Int → Int → Int → Option (Bool)
  | 0, _, _, _, _ => none
  | k + 1, x5, x6, x7, x8 => if x8 < (x5.size : Int) then (tinderboxlaw29_WeaveErased.l1 k x5 x6 x7 x8 0) else ((tinderboxlaw29_awake.f k).bind fun t537 => (if t537 = true then ((weave_Erased.f k x5 x7).bind fun t538 => (some (t538 == (decide (x6 ≤ x7))))) else (some false)))
def tinderboxlaw29_WeaveErased.l1 : Nat → ByteArray → Int → Int → Int → Int → Option (Bool)
  | 0, _, _, _, _, _ => none
  | k + 1, x5, x6, x7, x8, x9 => if x9 < 8 then (if 0 ≤ x8 then (if x8 < (x5.size : Int) then (if 0 ≤ (IntKind.u64.wrap (x9)) then (if (Int.tmod (shr .u8 (bt x5 x8) (IntKind.u64.wrap (x9))) 2) = 0 then (tinderboxlaw29_WeaveErased.l1 k x5 (wrap64 (x6 + 1)) x7 x8 (wrap64 (x9 + 1))) else (tinderboxlaw29_WeaveErased.l1 k x5 x6 x7 x8 (wrap64 (x9 + 1)))) else (none)) else (none)) else (none)) else (tinderboxlaw29_WeaveErased.l0 k x5 x6 x7 (wrap64 (x8 + 1)))
end
def tinderboxlaw29_WeaveErased.f (k : Nat) (a0 : ByteArray) (a1 : Int) : Option (Bool) := if 0 ≤ (mn (a0.size : Int) 100) then (if (mn (a0.size : Int) 100) ≤ (a0.size : Int) then (tinderboxlaw29_WeaveErased.l0 k (a0.extract 0 ((mn (a0.size : Int) 100) : Int).toNat) 0 (Go.bits .and .i64 a1 63) 0) else (none)) else (none)
theorem tinderboxlaw29_WeaveErased.mono_l : ∀ k, (∀ y0 y1 y2 y3, LeO (tinderboxlaw29_WeaveErased.l0 k y0 y1 y2 y3) (tinderboxlaw29_WeaveErased.l0 (k + 1) y0 y1 y2 y3)) ∧ (∀ y0 y1 y2 y3 y4, LeO (tinderboxlaw29_WeaveErased.l1 k y0 y1 y2 y3 y4) (tinderboxlaw29_WeaveErased.l1 (k + 1) y0 y1 y2 y3 y4))
  | 0 => ⟨fun _ _ _ _ r h => by simp [tinderboxlaw29_WeaveErased.l0] at h, fun _ _ _ _ _ r h => by simp [tinderboxlaw29_WeaveErased.l1] at h⟩
  | k + 1 => by
    obtain ⟨ih0, ih1⟩ := tinderboxlaw29_WeaveErased.mono_l k
    refine ⟨?_, ?_⟩
    · intro y0 y1 y2 y3
      unfold tinderboxlaw29_WeaveErased.l0
      repeat' first
      | (with_reducible exact ih0 _ _ _ _)
      | (with_reducible exact ih1 _ _ _ _ _)
      | (with_reducible exact tinderboxlaw29_awake.mono _)
      | (with_reducible exact weave_Erased.mono _ _ _)
      | (with_reducible exact LeO.refl _)
      | (with_reducible exact LeO.none _)
      | (with_reducible refine LeO.ite ?_ ?_)
      | (with_reducible refine LeO.bind ?_ (fun _ => ?_))
      | exact ih0 _ _ _ _
      | exact ih1 _ _ _ _ _
      | exact tinderboxlaw29_awake.mono _
      | exact weave_Erased.mono _ _ _
      | exact LeO.none _
      | refine LeO.ite ?_ ?_
      | refine LeO.bind ?_ (fun _ => ?_)
    · intro y0 y1 y2 y3 y4
      unfold tinderboxlaw29_WeaveErased.l1
      repeat' first
      | (with_reducible exact ih0 _ _ _ _)
      | (with_reducible exact ih1 _ _ _ _ _)
      | (with_reducible exact tinderboxlaw29_awake.mono _)
      | (with_reducible exact weave_Erased.mono _ _ _)
      | (with_reducible exact LeO.refl _)
      | (with_reducible exact LeO.none _)
      | (with_reducible refine LeO.ite ?_ ?_)
      | (with_reducible refine LeO.bind ?_ (fun _ => ?_))
      | exact ih0 _ _ _ _
      | exact ih1 _ _ _ _ _
      | exact tinderboxlaw29_awake.mono _
      | exact weave_Erased.mono _ _ _
      | exact LeO.none _
      | refine LeO.ite ?_ ?_
      | refine LeO.bind ?_ (fun _ => ?_)
theorem tinderboxlaw29_WeaveErased.mono : ∀ a0 a1 k, LeO (tinderboxlaw29_WeaveErased.f k a0 a1) (tinderboxlaw29_WeaveErased.f (k + 1) a0 a1) := by
  intro a0 a1 k
  obtain ⟨ih0, ih1⟩ := tinderboxlaw29_WeaveErased.mono_l k
  unfold tinderboxlaw29_WeaveErased.f
  repeat' first
      | (with_reducible exact ih0 _ _ _ _)
      | (with_reducible exact ih1 _ _ _ _ _)
      | (with_reducible exact tinderboxlaw29_awake.mono _)
      | (with_reducible exact weave_Erased.mono _ _ _)
      | (with_reducible exact LeO.refl _)
      | (with_reducible exact LeO.none _)
      | (with_reducible refine LeO.ite ?_ ?_)
      | (with_reducible refine LeO.bind ?_ (fun _ => ?_))
      | exact ih0 _ _ _ _
      | exact ih1 _ _ _ _ _
      | exact tinderboxlaw29_awake.mono _
      | exact weave_Erased.mono _ _ _
      | exact LeO.none _
      | refine LeO.ite ?_ ?_
      | refine LeO.bind ?_ (fun _ => ?_)
set_option maxHeartbeats 8000000 in
set_option maxRecDepth 100000 in
theorem tinderboxlaw29_WeaveErased.calls (k : Nat) (a0 : ByteArray) (a1 : Int) (r : Bool) (w : World) (h : tinderboxlaw29_WeaveErased.f k a0 a1 = some r) :
    Calls Try.prog 8 #[.string a0, .int .i64 a1] w fun e w' => e = .returned (.bool r) ∧ Below w.heap.size w w' := by
  have HB := Aside0.mk (Below.refl w.heap.size w)
  have H : (if 0 ≤ (mn (a0.size : Int) 100) then (if (mn (a0.size : Int) 100) ≤ (a0.size : Int) then (tinderboxlaw29_WeaveErased.l0 k (a0.extract 0 ((mn (a0.size : Int) 100) : Int).toNat) 0 (Go.bits .and .i64 a1 63) 0) else (none)) else (none)) = some r := h
  clear h
  obtain ⟨ji3, hji3⟩ : ∃ j_ : Int, (mn (a0.size : Int) 100) = j_ := ⟨_, rfl⟩
  first | rw [hji3] at H | simp only [hji3] at H
  (try (have hji3h : ji3 ≤ 100 := by (rw [← hji3]; unfold mn; (repeat' split) <;> omega)))
  (try (have hji3g : ji3 ≤ 64 := by omega))
  (try (have hji3l : 0 ≤ ji3 := by (rw [← hji3]; unfold mn; (repeat' split) <;> omega)))
  (try (have hji3m : 0 ≤ ji3 := by omega))
  have hji3_ : (if 100 < (a0.size : Int) then 100 else (a0.size : Int)) = ji3 := hji3
  by_cases c4 : 0 ≤ (ji3)
  rotate_left
  · rw [if_neg c4] at H
    exact absurd H (by simp)
  rw [if_pos c4] at H
  have c4b0 := eq_true c4
  have c4b1 : decide (0 ≤ (ji3)) = true := decide_eq_true c4
  clear c4
  by_cases c5 : (ji3) ≤ (a0.size : Int)
  rotate_left
  · rw [if_neg c5] at H
    exact absurd H (by simp)
  rw [if_pos c5] at H
  have c5b0 := eq_true c5
  have c5b1 : decide ((ji3) ≤ (a0.size : Int)) = true := decide_eq_true c5
  clear c5
  obtain ⟨js6, hjs6⟩ : ∃ j_ : ByteArray, (a0.extract 0 ((ji3) : Int).toNat) = j_ := ⟨_, rfl⟩
  first | rw [hjs6] at H | simp only [hjs6] at H
  have H' := Aside0.mk H
  clear H
  go_enter Try.func8, Try.ntmps8
  go_wp2
  go_loopg [6, 8] k (fun kq v6 v8 w' => ∃ (x6_1 : Int) (x8_1 : Int), v6 = .int .i64 x6_1 ∧ v8 = .int .i64 x8_1 ∧ Aside0 (tinderboxlaw29_WeaveErased.l0 kq js6 x6_1 (Go.bits .and .i64 a1 63) x8_1 = some r) ∧ Aside0 (kq ≤ k) ∧ Aside0 (Below w.heap.size w w'))
  case atStart => exact ⟨(0), (0), (by first | rfl | (simp; done) | (simp [*]; done)), (by first | rfl | (simp; done) | (simp [*]; done)), H', ⟨Nat.le_refl _⟩, ⟨by repeat (first | (with_reducible first | exact HB.out | apply below_alloc | apply pw_below_drewN | apply below_drew1) | exact HB.out)⟩⟩
  case round =>
    clear H'
    try clear p2
    try clear c4
    try clear c4b0
    try clear c4b1
    try clear c5
    try clear c5b0
    try clear c5b1
    obtain ⟨x6_1, x8_1, rfl, rfl, HA, HK1, HB⟩ := hrel
    cases gk with
    | zero => exact absurd HA.out (by simp [tinderboxlaw29_WeaveErased.l0])
    | succ k1 =>
      have H := HA.out
      clear HA
      simp only [tinderboxlaw29_WeaveErased.l0] at H
      by_cases c7 : x8_1 < (js6.size : Int)
      rotate_left
      · rw [if_neg c7] at H
        have c7b0 : decide (x8_1 < (js6.size : Int)) = false := decide_eq_false c7
        clear c7
        replace H := Option.bind_eq_some_iff.mp H
        obtain ⟨t537, A160, H⟩ := H
        have A16 := Aside0.mk A160
        clear A160
        by_cases c17 : t537 = true
        rotate_left
        · replace c17 := Bool.eq_false_iff.mpr c17
          subst c17
          rw [if_neg (show ¬ (false = true) by decide)] at H
          obtain rfl := Option.some.inj H
          go_wp2_with (first | ((with_reducible refine gate_callee (f := 11) rfl ?_); refine goesL_ (some 37) rfl rfl Try.func11 (by kernel_rfl) rfl #[] rfl (by (try simp only [List.map_toArray, List.map_cons, List.map_nil]); first | done | rfl | (simp only [List.length_drop, List.length_take]; rfl)) ?_; (with_reducible refine (tinderboxlaw29_awake.calls k1  false _ A16.out).mono ?_); rintro e w20 ⟨rfl, hb⟩; refine ⟨_, rfl, ?_⟩; have n0_ := Aside0.mk (below_step (by repeat (first | (with_reducible first | exact HB.out | apply below_alloc | apply pw_below_drewN | apply below_drew1) | exact HB.out)) hb); clear HB; have HB := n0_; clear n0_; (try clear hb); (try clear hb2); (try clear hk); (try clear hi)))
          go_ret
          exact ⟨by first | rfl | (simp [errW_none, errW_some] <;> rfl) | (simp only [← hji3, ← hjs6]; first | rfl | (simp [errW_none, errW_some] <;> rfl)) | (simp [*, errW_none, errW_some] <;> rfl), by repeat (first | (with_reducible first | exact HB.out | apply below_alloc | apply pw_below_drewN | apply below_drew1) | exact HB.out)⟩
        subst c17
        rw [if_pos rfl] at H
        replace H := Option.bind_eq_some_iff.mp H
        obtain ⟨t538, A180, H⟩ := H
        have A18 := Aside0.mk A180
        clear A180
        obtain rfl := Option.some.inj H
        go_wp2_with (first | ((with_reducible refine gate_callee (f := 11) rfl ?_); refine goesL_ (some 37) rfl rfl Try.func11 (by kernel_rfl) rfl #[] rfl (by (try simp only [List.map_toArray, List.map_cons, List.map_nil]); first | done | rfl | (simp only [List.length_drop, List.length_take]; rfl)) ?_; (with_reducible refine (tinderboxlaw29_awake.calls k1  true _ A16.out).mono ?_); rintro e w19 ⟨rfl, hb⟩; refine ⟨_, rfl, ?_⟩; have n0_ := Aside0.mk (below_step (by repeat (first | (with_reducible first | exact HB.out | apply below_alloc | apply pw_below_drewN | apply below_drew1) | exact HB.out)) hb); clear HB; have HB := n0_; clear n0_; (try clear hb); (try clear hb2); (try clear hk); (try clear hi)) | (go_at_call 19; (with_reducible refine (weave_Erased.calls k1 js6 (Go.bits .and .i64 a1 63) t538 _ A18.out).mono ?_); rintro e w' ⟨rfl, ⟨nd, rfl⟩⟩))
        go_ret
        exact ⟨by first | rfl | (simp [errW_none, errW_some] <;> rfl) | (simp only [← hji3, ← hjs6]; first | rfl | (simp [errW_none, errW_some] <;> rfl)) | (simp [*, errW_none, errW_some] <;> rfl), by repeat (first | (with_reducible first | exact HB.out | apply below_alloc | apply pw_below_drewN | apply below_drew1) | exact HB.out)⟩
      rw [if_pos c7] at H
      have c7b0 : decide (x8_1 < (js6.size : Int)) = true := decide_eq_true c7
      clear c7
      have H' := Aside0.mk H
      clear H
      go_wp2
      go_loopg [6, 9] k1 (fun kq v6 v9 w' => ∃ (x6_2 : Int) (x9_2 : Int), v6 = .int .i64 x6_2 ∧ v9 = .int .i64 x9_2 ∧ Aside0 (tinderboxlaw29_WeaveErased.l1 kq js6 x6_2 (Go.bits .and .i64 a1 63) x8_1 x9_2 = some r) ∧ Aside0 (kq ≤ k1) ∧ Aside0 (Below w.heap.size w w'))
      case atStart => exact ⟨(x6_1), (0), (by first | rfl | (simp; done) | (simp [*]; done)), (by first | rfl | (simp; done) | (simp [*]; done)), H', ⟨Nat.le_refl _⟩, ⟨by repeat (first | (with_reducible first | exact HB.out | apply below_alloc | apply pw_below_drewN | apply below_drew1) | exact HB.out)⟩⟩
      case round =>
        clear H'
        try clear p2
        try clear c4
        try clear c4b0
        try clear c4b1
        try clear c5
        try clear c5b0
        try clear c5b1
        try clear c7
        try clear c7b0
        try clear p2
        obtain ⟨x6_2, x9_2, rfl, rfl, HA, HK2, HB⟩ := hrel
        cases gk with
        | zero => exact absurd HA.out (by simp [tinderboxlaw29_WeaveErased.l1])
        | succ k2 =>
          have H := HA.out
          clear HA
          simp only [tinderboxlaw29_WeaveErased.l1] at H
          by_cases c8 : x9_2 < 8
          rotate_left
          · rw [if_neg c8] at H
            have c8b0 : decide (x9_2 < 8) = false := decide_eq_false c8
            clear c8
            have H' := Aside0.mk H
            clear H
            go_wp2
            go_roundg k2
            case measure => have := HK1.out; have := HK2.out; omega
            case rel => exact ⟨(x6_2), (wrap64 (x8_1 + 1)), (by first | rfl | (simp; done) | (simp [*]; done)), (by first | rfl | (simp; done) | (simp [*]; done)), H', ⟨by have := HK1.out; have := HK2.out; omega⟩, ⟨by repeat (first | (with_reducible first | exact HB.out | apply below_alloc | apply pw_below_drewN | apply below_drew1) | exact HB.out)⟩⟩
          rw [if_pos c8] at H
          have c8b0 : decide (x9_2 < 8) = true := decide_eq_true c8
          clear c8
          by_cases c9 : 0 ≤ x8_1
          rotate_left
          · rw [if_neg c9] at H
            exact absurd H (by simp)
          rw [if_pos c9] at H
          have c9b0 : decide (0 ≤ x8_1) = true := decide_eq_true c9
          clear c9
          by_cases c10 : x8_1 < (js6.size : Int)
          rotate_left
          · rw [if_neg c10] at H
            exact absurd H (by simp)
          rw [if_pos c10] at H
          have c10b0 : decide (x8_1 < (js6.size : Int)) = true := decide_eq_true c10
          clear c10
          obtain ⟨ji12, hji12⟩ : ∃ j_ : Int, (IntKind.u64.wrap (x9_2)) = j_ := ⟨_, rfl⟩
          first | rw [hji12] at H | simp only [hji12] at H
          by_cases c13 : 0 ≤ (ji12)
          rotate_left
          · rw [if_neg c13] at H
            exact absurd H (by simp)
          rw [if_pos c13] at H
          have c13b0 := eq_true c13
          have c13b1 : decide (0 ≤ (ji12)) = true := decide_eq_true c13
          clear c13
          obtain ⟨ji14, hji14⟩ : ∃ j_ : Int, (shr .u8 (bt js6 x8_1) (ji12)) = j_ := ⟨_, rfl⟩
          first | rw [hji14] at H | simp only [hji14] at H
          have hji14_ : ((bt js6 x8_1) / 2 ^ min (ji12).toNat 8) = ji14 := hji14
          have hji14z : (ji12) ≤ 8 → ((bt js6 x8_1) / 2 ^ (ji12).toNat) = ji14 := shr_small hji14
          by_cases c15 : (Int.tmod (ji14) 2) = 0
          rotate_left
          · rw [if_neg c15] at H
            have c15b0 : ((Int.tmod (ji14) 2) == 0) = false := beq_eq_false_iff_ne.mpr c15
            have c15b1 : ((Int.tmod (ji14) 2) != 0) = true := bne_iff_ne.mpr c15
            have H' := Aside0.mk H
            clear H
            have p11 : 0 ≤ (x8_1 : Int) := of_decide_eq_true (by first | (with_reducible assumption) | assumption)
            have q11 : x8_1 < (js6.size : Int) := of_decide_eq_true (by first | (with_reducible assumption) | assumption)
            have hx11 := bt_at js6 x8_1
            replace p11 := eq_true p11
            replace q11 := eq_true q11
            go_wp2
            go_roundg k2
            case measure => have := HK1.out; have := HK2.out; omega
            case rel => exact ⟨(x6_2), (wrap64 (x9_2 + 1)), (by first | rfl | (simp; done) | (simp [*]; done)), (by first | rfl | (simp; done) | (simp [*]; done)), H', ⟨by have := HK1.out; have := HK2.out; omega⟩, ⟨by repeat (first | (with_reducible first | exact HB.out | apply below_alloc | apply pw_below_drewN | apply below_drew1) | exact HB.out)⟩⟩
          rw [if_pos c15] at H
          have c15b0 : ((Int.tmod (ji14) 2) == 0) = true := beq_iff_eq.mpr c15
          have c15b1 : ((Int.tmod (ji14) 2) != 0) = false := bne_eq_false_iff_eq.mpr c15
          clear c15
          have H' := Aside0.mk H
          clear H
          have p11 : 0 ≤ (x8_1 : Int) := of_decide_eq_true (by first | (with_reducible assumption) | assumption)
          have q11 : x8_1 < (js6.size : Int) := of_decide_eq_true (by first | (with_reducible assumption) | assumption)
          have hx11 := bt_at js6 x8_1
          replace p11 := eq_true p11
          replace q11 := eq_true q11
          go_wp2
          go_roundg k2
          case measure => have := HK1.out; have := HK2.out; omega
          case rel => exact ⟨(wrap64 (x6_2 + 1)), (wrap64 (x9_2 + 1)), (by first | rfl | (simp; done) | (simp [*]; done)), (by first | rfl | (simp; done) | (simp [*]; done)), H', ⟨by have := HK1.out; have := HK2.out; omega⟩, ⟨by repeat (first | (with_reducible first | exact HB.out | apply below_alloc | apply pw_below_drewN | apply below_drew1) | exact HB.out)⟩⟩
def tinderboxlaw29_WeaveErased.Pure : Prop := ∀ (a0 : ByteArray) (a1 : Int), a0.size ≤ 140737488351232 → (Lit.int .i64 a1).wf = true → ∃ k, tinderboxlaw29_WeaveErased.f k a0 a1 = some true
theorem tinderboxlaw29_WeaveErased.walk (P : tinderboxlaw29_WeaveErased.Pure) (a0 : ByteArray) (a1 : Int) (w : World) (w0 : a0.size ≤ 140737488351232) (w1 : (Lit.int .i64 a1).wf = true) :
    Calls Try.prog 8 #[.string a0, .int .i64 a1] w fun e w' => e = .returned (.bool true) ∧ Below w.heap.size w w' := by
  obtain ⟨k, h⟩ := P a0 a1 w0 w1
  refine (tinderboxlaw29_WeaveErased.calls k a0 a1 true w h).mono ?_
  rintro e w' ⟨rfl, hd⟩
  exact ⟨rfl, hd⟩
end Go.Proofs.Ytpleeckbakllpaa.XWv
