import Derived.Test.YtpleeckbakllpaaXWvx0
import Derived.Test.YtpleeckbakllpaaXWvx11
import Derived.Test.YtpleeckbakllpaaXWvx12
namespace Go.Proofs.Ytpleeckbakllpaa.XWv
open Go.RowKit Go.Proofs.YtpleeckbakllpaaX.PrintWords Go.Proofs.YtpleeckbakllpaaX.PrintLast Go.Proofs.YtpleeckbakllpaaX.PrintMore
attribute [local go_sem] max2_int min2_int max_two min_two max_three min_three max_four min_four
set_option linter.unusedVariables false
set_option linter.unusedSimpArgs false
mutual
def tinderboxref29_Kept.j0 : Nat → ByteArray → ByteArray → Int → Bool → Int → Int → Int → Int → Option (Bool)
  | 0, _, _, _, _, _, _, _, _ => none
  | k + 1, x0, x1, x3, x31, x467000, x467001, x467002, x467003 => if x31 = true then (some false) else ((tinderboxref29_Mask.f k x3 (x0.size : Int)).bind fun t467 => (tinderboxref29_Kept.l0 k x0 x1 t467 0 x467000 x467001 x467002 x467003))
def tinderboxref29_Kept.l0 : Nat → ByteArray → ByteArray → ByteArray → Int → Int → Int → Int → Int → Option (Bool)
  | 0, _, _, _, _, _, _, _, _ => none
  | k + 1, x0, x1, x9, x10, x467000, x467001, x467002, x467003 => if x10 < (x0.size : Int) then (if 0 ≤ x10 then (if x10 < (x1.size : Int) then (if x10 < (x9.size : Int) then (if (bt x1 x10) = (Go.bits .xor .u8 (bt x0 x10) (bt x9 x10)) then (tinderboxref29_Kept.l0 k x0 x1 x9 (wrap64 (x10 + 1)) x467000 x467001 x467002 x467003) else (some false)) else (none)) else (none)) else (none)) else (tinderboxref29_Kept.l1 k x1 0 x467000 x467001 x467002 x467003)
def tinderboxref29_Kept.l1 : Nat → ByteArray → Int → Int → Int → Int → Int → Option (Bool)
  | 0, _, _, _, _, _, _ => none
  | k + 1, x1, x11, x467000, x467001, x467002, x467003 => if x11 < x467000 then (tinderboxref29_Kept.l2 k x1 x11 (([] : List Int)) x11 x467000 x467001 x467002 x467003) else (some true)
def tinderboxref29_Kept.l2 : Nat → ByteArray → Int → List Int → Int → Int → Int → Int → Int → Option (Bool)
  | 0, _, _, _, _, _, _, _, _ => none
  | k + 1, x1, x11, x12, x13, x467000, x467001, x467002, x467003 => if x13 < (x1.size : Int) then (if 0 ≤ x13 then (if x12.length < 140737488355328 then (tinderboxref29_Kept.l2 k x1 x11 (x12 ++ [bt x1 x13]) (wrap64 (x13 + x467000)) x467000 x467001 x467002 x467003) else (none)) else (none)) else ((tinderboxref29_right.f k (strOfNums x12) x467002).bind fun t474 => (if t474 = true then (tinderboxref29_Kept.l1 k x1 (wrap64 (x11 + 1)) x467000 x467001 x467002 x467003) else (some false)))
end
def tinderboxref29_Kept.f (k : Nat) (a0 : ByteArray) (a1 : ByteArray) (a2_0 : Int) (a2_1 : Int) (a2_2 : Int) (a2_3 : Int) (a3 : Int) : Option (Bool) := if (a1.size : Int) = a2_3 then (tinderboxref29_Kept.j0 k a0 a1 a3 ((a0.size : Int) != (wrap64 (a2_3 - (wrap64 (a2_0 * a2_2))))) a2_0 a2_1 a2_2 a2_3) else (tinderboxref29_Kept.j0 k a0 a1 a3 true a2_0 a2_1 a2_2 a2_3)
theorem tinderboxref29_Kept.mono_l : ∀ k, (∀ y0 y1 y2 y3 y4 y5 y6 y7, LeO (tinderboxref29_Kept.j0 k y0 y1 y2 y3 y4 y5 y6 y7) (tinderboxref29_Kept.j0 (k + 1) y0 y1 y2 y3 y4 y5 y6 y7)) ∧ (∀ y0 y1 y2 y3 y4 y5 y6 y7, LeO (tinderboxref29_Kept.l0 k y0 y1 y2 y3 y4 y5 y6 y7) (tinderboxref29_Kept.l0 (k + 1) y0 y1 y2 y3 y4 y5 y6 y7)) ∧ (∀ y0 y1 y2 y3 y4 y5, LeO (tinderboxref29_Kept.l1 k y0 y1 y2 y3 y4 y5) (tinderboxref29_Kept.l1 (k + 1) y0 y1 y2 y3 y4 y5)) ∧ (∀ y0 y1 y2 y3 y4 y5 y6 y7, LeO (tinderboxref29_Kept.l2 k y0 y1 y2 y3 y4 y5 y6 y7) (tinderboxref29_Kept.l2 (k + 1) y0 y1 y2 y3 y4 y5 y6 y7))
  | 0 => ⟨fun _ _ _ _ _ _ _ _ r h => by simp [tinderboxref29_Kept.j0] at h, fun _ _ _ _ _ _ _ _ r h => by simp [tinderboxref29_Kept.l0] at h, fun _ _ _ _ _ _ r h => by simp [tinderboxref29_Kept.l1] at h, fun _ _ _ _ _ _ _ _ r h => by simp [tinderboxref29_Kept.l2] at h⟩
  | k + 1 => by
    obtain ⟨ih0, ih1, ih2, ih3⟩ := tinderboxref29_Kept.mono_l k
    refine ⟨?_, ?_, ?_, ?_⟩
    · intro y0 y1 y2 y3 y4 y5 y6 y7
      unfold tinderboxref29_Kept.j0
      repeat' first
      | (with_reducible exact ih0 _ _ _ _ _ _ _ _)
      | (with_reducible exact ih1 _ _ _ _ _ _ _ _)
      | (with_reducible exact ih2 _ _ _ _ _ _)
      | (with_reducible exact ih3 _ _ _ _ _ _ _ _)
      | (with_reducible exact tinderboxref29_Mask.mono _ _ _)
      | (with_reducible exact tinderboxref29_right.mono _ _ _)
      | (with_reducible exact LeO.refl _)
      | (with_reducible exact LeO.none _)
      | (with_reducible refine LeO.ite ?_ ?_)
      | (with_reducible refine LeO.bind ?_ (fun _ => ?_))
      | exact ih0 _ _ _ _ _ _ _ _
      | exact ih1 _ _ _ _ _ _ _ _
      | exact ih2 _ _ _ _ _ _
      | exact ih3 _ _ _ _ _ _ _ _
    · intro y0 y1 y2 y3 y4 y5 y6 y7
      unfold tinderboxref29_Kept.l0
      repeat' first
      | (with_reducible exact ih0 _ _ _ _ _ _ _ _)
      | (with_reducible exact ih1 _ _ _ _ _ _ _ _)
      | (with_reducible exact ih2 _ _ _ _ _ _)
      | (with_reducible exact ih3 _ _ _ _ _ _ _ _)
      | (with_reducible exact tinderboxref29_Mask.mono _ _ _)
      | (with_reducible exact tinderboxref29_right.mono _ _ _)
      | (with_reducible exact LeO.refl _)
      | (with_reducible exact LeO.none _)
      | (with_reducible refine LeO.ite ?_ ?_)
      | (with_reducible refine LeO.bind ?_ (fun _ => ?_))
      | exact ih0 _ _ _ _ _ _ _ _
      | exact ih1 _ _ _ _ _ _ _ _
      | exact ih2 _ _ _ _ _ _
      | exact ih3 _ _ _ _ _ _ _ _
    · intro y0 y1 y2 y3 y4 y5
      unfold tinderboxref29_Kept.l1
      repeat' first
      | (with_reducible exact ih0 _ _ _ _ _ _ _ _)
      | (with_reducible exact ih1 _ _ _ _ _ _ _ _)
      | (with_reducible exact ih2 _ _ _ _ _ _)
      | (with_reducible exact ih3 _ _ _ _ _ _ _ _)
      | (with_reducible exact tinderboxref29_Mask.mono _ _ _)
      | (with_reducible exact tinderboxref29_right.mono _ _ _)
      | (with_reducible exact LeO.refl _)
      | (with_reducible exact LeO.none _)
      | (with_reducible refine LeO.ite ?_ ?_)
      | (with_reducible refine LeO.bind ?_ (fun _ => ?_))
      | exact ih0 _ _ _ _ _ _ _ _
      | exact ih1 _ _ _ _ _ _ _ _
      | exact ih2 _ _ _ _ _ _
      | exact ih3 _ _ _ _ _ _ _ _
    · intro y0 y1 y2 y3 y4 y5 y6 y7
      unfold tinderboxref29_Kept.l2
      repeat' first
      | (with_reducible exact ih0 _ _ _ _ _ _ _ _)
      | (with_reducible exact ih1 _ _ _ _ _ _ _ _)
      | (with_reducible exact ih2 _ _ _ _ _ _)
      | (with_reducible exact ih3 _ _ _ _ _ _ _ _)
      | (with_reducible exact tinderboxref29_Mask.mono _ _ _)
      | (with_reducible exact tinderboxref29_right.mono _ _ _)
      | (with_reducible exact LeO.refl _)
      | (with_reducible exact LeO.none _)
      | (with_reducible refine LeO.ite ?_ ?_)
      | (with_reducible refine LeO.bind ?_ (fun _ => ?_))
      | exact ih0 _ _ _ _ _ _ _ _
      | exact ih1 _ _ _ _ _ _ _ _
      | exact ih2 _ _ _ _ _ _
      | exact ih3 _ _ _ _ _ _ _ _
theorem tinderboxref29_Kept.mono : ∀ a0 a1 a2 a3 a4 a5 a6 k, LeO (tinderboxref29_Kept.f k a0 a1 a2 a3 a4 a5 a6) (tinderboxref29_Kept.f (k + 1) a0 a1 a2 a3 a4 a5 a6) := by
  intro a0 a1 a2 a3 a4 a5 a6 k
  obtain ⟨ih0, ih1, ih2, ih3⟩ := tinderboxref29_Kept.mono_l k
  unfold tinderboxref29_Kept.f
  repeat' first
      | (with_reducible exact ih0 _ _ _ _ _ _ _ _)
      | (with_reducible exact ih1 _ _ _ _ _ _ _ _)
      | (with_reducible exact ih2 _ _ _ _ _ _)
      | (with_reducible exact ih3 _ _ _ _ _ _ _ _)
      | (with_reducible exact tinderboxref29_Mask.mono _ _ _)
      | (with_reducible exact tinderboxref29_right.mono _ _ _)
      | (with_reducible exact LeO.refl _)
      | (with_reducible exact LeO.none _)
      | (with_reducible refine LeO.ite ?_ ?_)
      | (with_reducible refine LeO.bind ?_ (fun _ => ?_))
      | exact ih0 _ _ _ _ _ _ _ _
      | exact ih1 _ _ _ _ _ _ _ _
      | exact ih2 _ _ _ _ _ _
      | exact ih3 _ _ _ _ _ _ _ _
set_option maxHeartbeats 8000000 in
set_option maxRecDepth 100000 in
theorem tinderboxref29_Kept.calls (k : Nat) (a0 : ByteArray) (a1 : ByteArray) (a2_0 : Int) (a2_1 : Int) (a2_2 : Int) (a2_3 : Int) (a3 : Int) (r : Bool) (w : World) (h : tinderboxref29_Kept.f k a0 a1 a2_0 a2_1 a2_2 a2_3 a3 = some r) :
    Calls Try.prog 18 #[.string a0, .string a1, .agg #[.int .i64 a2_0, .int .i64 a2_1, .int .i64 a2_2, .int .i64 a2_3], .int .i64 a3] w fun e w' => e = .returned (.bool r) ∧ Below w.heap.size w w' := by
  have hu23 := Try.underlying23
  have HB := Aside0.mk (Below.refl w.heap.size w)
  have H : (if (a1.size : Int) = a2_3 then (tinderboxref29_Kept.j0 k a0 a1 a3 ((a0.size : Int) != (wrap64 (a2_3 - (wrap64 (a2_0 * a2_2))))) a2_0 a2_1 a2_2 a2_3) else (tinderboxref29_Kept.j0 k a0 a1 a3 true a2_0 a2_1 a2_2 a2_3)) = some r := h
  clear h
  have HC5 := Aside0.mk H
  clear H
  go_enter Try.func18, Try.ntmps18
  go_upto_region 1 with (first | ((with_reducible refine gate_dst (N := 6) rfl ?_); refine box_event ?hg (N := 6) ?hd (cs := #[.int .i64 a2_0, .int .i64 a2_1, .int .i64 a2_2, .int .i64 a2_3]) (t := 23) ?hr ?_; (case hd => rfl); (case hg => rfl); (case hr => first | (go_simp; done) | (go_simp; rfl)); intro gb466 hg w6 hbox hb; have n0_ := Aside0.mk (xP (by repeat (first | (with_reducible first | exact HB.out | apply xA | apply xN | apply xO) | exact HB.out)) hb); have n1_ := Aside0.mk (hbox); have n2_ := Aside0.mk ((by rw [hg]; exact (xZ (by repeat (first | (with_reducible first | exact HB.out | apply xA | apply xN | apply xO) | exact HB.out))) : w.heap.size ≤ gb466)); have n3_ := Aside0.mk ((by rw [hg]; exact (xZ (by repeat (first | (with_reducible first | exact HB.out | apply xA | apply xN | apply xO) | exact HB.out))) : w.heap.size ≤ gb466)); clear HB; have HB := n0_; have BK466 := n1_; have GW466 := n2_; have GE466 := n3_; clear n0_ n1_ n2_ n3_; clear hb hbox hg))
  repeat (go_quiet (first | ((with_reducible refine gate_dst (N := 6) rfl ?_); refine box_event ?hg (N := 6) ?hd (cs := #[.int .i64 a2_0, .int .i64 a2_1, .int .i64 a2_2, .int .i64 a2_3]) (t := 23) ?hr ?_; (case hd => rfl); (case hg => rfl); (case hr => first | (go_simp; done) | (go_simp; rfl)); intro gb466 hg w6 hbox hb; have n0_ := Aside0.mk (xP (by repeat (first | (with_reducible first | exact HB.out | apply xA | apply xN | apply xO) | exact HB.out)) hb); have n1_ := Aside0.mk (hbox); have n2_ := Aside0.mk ((by rw [hg]; exact (xZ (by repeat (first | (with_reducible first | exact HB.out | apply xA | apply xN | apply xO) | exact HB.out))) : w.heap.size ≤ gb466)); have n3_ := Aside0.mk ((by rw [hg]; exact (xZ (by repeat (first | (with_reducible first | exact HB.out | apply xA | apply xN | apply xO) | exact HB.out))) : w.heap.size ≤ gb466)); clear HB; have HB := n0_; have BK466 := n1_; have GW466 := n2_; have GE466 := n3_; clear n0_ n1_ n2_ n3_; clear hb hbox hg)); go_upto_region 1 with (first | ((with_reducible refine gate_dst (N := 6) rfl ?_); refine box_event ?hg (N := 6) ?hd (cs := #[.int .i64 a2_0, .int .i64 a2_1, .int .i64 a2_2, .int .i64 a2_3]) (t := 23) ?hr ?_; (case hd => rfl); (case hg => rfl); (case hr => first | (go_simp; done) | (go_simp; rfl)); intro gb466 hg w6 hbox hb; have n0_ := Aside0.mk (xP (by repeat (first | (with_reducible first | exact HB.out | apply xA | apply xN | apply xO) | exact HB.out)) hb); have n1_ := Aside0.mk (hbox); have n2_ := Aside0.mk ((by rw [hg]; exact (xZ (by repeat (first | (with_reducible first | exact HB.out | apply xA | apply xN | apply xO) | exact HB.out))) : w.heap.size ≤ gb466)); have n3_ := Aside0.mk ((by rw [hg]; exact (xZ (by repeat (first | (with_reducible first | exact HB.out | apply xA | apply xN | apply xO) | exact HB.out))) : w.heap.size ≤ gb466)); clear HB; have HB := n0_; have BK466 := n1_; have GW466 := n2_; have GE466 := n3_; clear n0_ n1_ n2_ n3_; clear hb hbox hg)))
  (try simp only [Act.put, List.setIfInBounds_toArray, List.set_cons_zero, List.set_cons_succ])
  go_cut [31] (fun v31 wc => ∃ (kq : Nat) (x31_4 : Bool), v31 = .bool x31_4 ∧ Aside0 (tinderboxref29_Kept.j0 kq a0 a1 a3 x31_4 a2_0 a2_1 a2_2 a2_3 = some r) ∧ Aside0 (kq ≤ k) ∧ Aside0 (wc.heap[gb466]? = some (.cells #[.int .i64 a2_0, .int .i64 a2_1, .int .i64 a2_2, .int .i64 a2_3] 23 (0, 0))) ∧ Aside0 (Below w.heap.size w wc))
  case first =>
    have H := HC5.out
    clear HC5
    by_cases c7 : (a1.size : Int) = a2_3
    rotate_left
    · rw [if_neg c7] at H
      have c7b0 : ((a1.size : Int) == a2_3) = false := beq_eq_false_iff_ne.mpr c7
      have c7b1 : ((a1.size : Int) != a2_3) = true := bne_iff_ne.mpr c7
      (first | rw [c7b0] | (simp only [i64_w, i32_w]; rw [c7b0]) | skip)
      have H' := Aside0.mk H
      clear H
      have hcz9_0 : w6.cell? ⟨gb466, 0, none⟩ = some (.int .i64 a2_0) := (blk_cell BK466.out 0).trans rfl
      have hcz9_1 : w6.cell? ⟨gb466, 1, none⟩ = some (.int .i64 a2_1) := (blk_cell BK466.out 1).trans rfl
      have hcz9_2 : w6.cell? ⟨gb466, 2, none⟩ = some (.int .i64 a2_2) := (blk_cell BK466.out 2).trans rfl
      have hcz9_3 : w6.cell? ⟨gb466, 3, none⟩ = some (.int .i64 a2_3) := (blk_cell BK466.out 3).trans rfl
      have hfz9_0 := blk_frozen BK466.out 0
      have hfz9_1 := blk_frozen BK466.out 1
      have hfz9_2 := blk_frozen BK466.out 2
      have hfz9_3 := blk_frozen BK466.out 3
      go_wp2
      repeat (go_quiet (fail); try go_wp2)
      go_meet
      case rel => exact ⟨_, (true), (by first | rfl | (simp; done) | (simp [*]; done)), H', ⟨by first | omega | exact Nat.le_refl _⟩, ⟨by (with_reducible repeat (first | refine xB ?_ _ | refine xC ?_ | refine xD ?_ _)); exact BK466.out⟩, ⟨by repeat (first | (with_reducible first | exact HB.out | apply xA | apply xN | apply xO | refine below_set ?_ GE466.out) | exact HB.out)⟩⟩
    rw [if_pos c7] at H
    have c7b0 : ((a1.size : Int) == a2_3) = true := beq_iff_eq.mpr c7
    have c7b1 : ((a1.size : Int) != a2_3) = false := bne_eq_false_iff_eq.mpr c7
    clear c7
    (first | rw [c7b0] | (simp only [i64_w, i32_w]; rw [c7b0]) | skip)
    have H' := Aside0.mk H
    clear H
    have hcz8_0 : w6.cell? ⟨gb466, 0, none⟩ = some (.int .i64 a2_0) := (blk_cell BK466.out 0).trans rfl
    have hcz8_1 : w6.cell? ⟨gb466, 1, none⟩ = some (.int .i64 a2_1) := (blk_cell BK466.out 1).trans rfl
    have hcz8_2 : w6.cell? ⟨gb466, 2, none⟩ = some (.int .i64 a2_2) := (blk_cell BK466.out 2).trans rfl
    have hcz8_3 : w6.cell? ⟨gb466, 3, none⟩ = some (.int .i64 a2_3) := (blk_cell BK466.out 3).trans rfl
    have hfz8_0 := blk_frozen BK466.out 0
    have hfz8_1 := blk_frozen BK466.out 1
    have hfz8_2 := blk_frozen BK466.out 2
    have hfz8_3 := blk_frozen BK466.out 3
    go_wp2
    repeat (go_quiet (fail); try go_wp2)
    go_meet
    case rel => exact ⟨_, (((a0.size : Int) != (wrap64 (a2_3 - (wrap64 (a2_0 * a2_2)))))), (by first | rfl | (simp; done) | (simp [*]; done)), H', ⟨by first | omega | exact Nat.le_refl _⟩, ⟨by (with_reducible repeat (first | refine xB ?_ _ | refine xC ?_ | refine xD ?_ _)); exact BK466.out⟩, ⟨by repeat (first | (with_reducible first | exact HB.out | apply xA | apply xN | apply xO | refine below_set ?_ GE466.out) | exact HB.out)⟩⟩
  case rest =>
    clear HC5
    try clear c1
    try clear p2
    try clear p6
    try clear c7
    try clear c7b0
    try clear c7b1
    try clear hcz8_0
    try clear hcz8_1
    try clear hcz8_2
    try clear hcz8_3
    try clear hcz9_0
    try clear hcz9_1
    try clear hcz9_2
    try clear hcz9_3
    try clear hfz8_0
    try clear hfz8_1
    try clear hfz8_2
    try clear hfz8_3
    try clear hfz9_0
    try clear hfz9_1
    try clear hfz9_2
    try clear hfz9_3
    obtain ⟨kq, x31_4, rfl, HA, HJ4, BK466, HB⟩ := hcut
    cases kq with
    | zero => exact absurd HA.out (by simp [tinderboxref29_Kept.j0])
    | succ kj4 =>
      have H := HA.out
      clear HA
      simp only [tinderboxref29_Kept.j0] at H
      by_cases c10 : x31_4 = true
      · subst c10
        rw [if_pos rfl] at H
        obtain rfl := Option.some.inj H
        go_wp2
        repeat (go_quiet (fail); try go_wp2)
        go_ret
        exact ⟨by first | rfl | (simp [errW_none, errW_some] <;> rfl) | (simp [*, errW_none, errW_some] <;> rfl), by repeat (first | (with_reducible first | exact HB.out | apply xA | apply xN | apply xO | refine below_set ?_ GE466.out) | exact HB.out)⟩
      replace c10 := Bool.eq_false_iff.mpr c10
      subst c10
      rw [if_neg (show ¬ (false = true) by decide)] at H
      replace H := Option.bind_eq_some_iff.mp H
      obtain ⟨t467, A110, H⟩ := H
      have A11 := Aside0.mk A110
      clear A110
      have H' := Aside0.mk H
      clear H
      go_wp2_with (first | (go_at_call 13; (with_reducible refine (tinderboxref29_Mask.calls kj4 a3 (a0.size : Int) t467 _ A11.out).mono ?_); rintro e w12 ⟨rfl, hb⟩; have n0_ := Aside0.mk (blk_below (g := gb466) (o := .cells #[.int .i64 a2_0, .int .i64 a2_1, .int .i64 a2_2, .int .i64 a2_3] 23 (0, 0)) (by (with_reducible repeat (first | refine xB ?_ _ | refine xC ?_ | refine xD ?_ _)); exact BK466.out) hb); have n1_ := Aside0.mk (xP (by repeat (first | (with_reducible first | exact HB.out | apply xA | apply xN | apply xO | refine below_set ?_ GE466.out) | exact HB.out)) hb); clear BK466; clear HB; have BK466 := n0_; have HB := n1_; clear n0_ n1_; (try clear hb)))
      repeat (go_quiet (first | (go_at_call 13; (with_reducible refine (tinderboxref29_Mask.calls kj4 a3 (a0.size : Int) t467 _ A11.out).mono ?_); rintro e w12 ⟨rfl, hb⟩; have n0_ := Aside0.mk (blk_below (g := gb466) (o := .cells #[.int .i64 a2_0, .int .i64 a2_1, .int .i64 a2_2, .int .i64 a2_3] 23 (0, 0)) (by (with_reducible repeat (first | refine xB ?_ _ | refine xC ?_ | refine xD ?_ _)); exact BK466.out) hb); have n1_ := Aside0.mk (xP (by repeat (first | (with_reducible first | exact HB.out | apply xA | apply xN | apply xO | refine below_set ?_ GE466.out) | exact HB.out)) hb); clear BK466; clear HB; have BK466 := n0_; have HB := n1_; clear n0_ n1_; (try clear hb))); try go_wp2_with (first | (go_at_call 13; (with_reducible refine (tinderboxref29_Mask.calls kj4 a3 (a0.size : Int) t467 _ A11.out).mono ?_); rintro e w12 ⟨rfl, hb⟩; have n0_ := Aside0.mk (blk_below (g := gb466) (o := .cells #[.int .i64 a2_0, .int .i64 a2_1, .int .i64 a2_2, .int .i64 a2_3] 23 (0, 0)) (by (with_reducible repeat (first | refine xB ?_ _ | refine xC ?_ | refine xD ?_ _)); exact BK466.out) hb); have n1_ := Aside0.mk (xP (by repeat (first | (with_reducible first | exact HB.out | apply xA | apply xN | apply xO | refine below_set ?_ GE466.out) | exact HB.out)) hb); clear BK466; clear HB; have BK466 := n0_; have HB := n1_; clear n0_ n1_; (try clear hb))))
      go_loopg [10] kj4 (fun kq v10 w' => ∃ (x10_2 : Int), v10 = .int .i64 x10_2 ∧ Aside0 (tinderboxref29_Kept.l0 kq a0 a1 t467 x10_2 a2_0 a2_1 a2_2 a2_3 = some r) ∧ Aside0 (kq ≤ kj4) ∧ Aside0 (w'.heap[gb466]? = some (.cells #[.int .i64 a2_0, .int .i64 a2_1, .int .i64 a2_2, .int .i64 a2_3] 23 (0, 0))) ∧ Aside0 (Below w.heap.size w w'))
      case atStart => exact ⟨(0), (by first | rfl | (simp; done) | (simp [*]; done)), H', ⟨Nat.le_refl _⟩, ⟨by (with_reducible repeat (first | refine xB ?_ _ | refine xC ?_ | refine xD ?_ _)); exact BK466.out⟩, ⟨by repeat (first | (with_reducible first | exact HB.out | apply xA | apply xN | apply xO | refine below_set ?_ GE466.out) | exact HB.out)⟩⟩
      case round =>
        clear H'
        try clear c1
        try clear p2
        try clear p6
        try clear c7
        try clear c7b0
        try clear c7b1
        try clear c10
        try clear hcz8_0
        try clear hcz8_1
        try clear hcz8_2
        try clear hcz8_3
        try clear hcz9_0
        try clear hcz9_1
        try clear hcz9_2
        try clear hcz9_3
        try clear hfz8_0
        try clear hfz8_1
        try clear hfz8_2
        try clear hfz8_3
        try clear hfz9_0
        try clear hfz9_1
        try clear hfz9_2
        try clear hfz9_3
        try clear p2
        try clear p6
        obtain ⟨x10_2, rfl, HA, HK2, BK466, HB⟩ := hrel
        cases gk with
        | zero => exact absurd HA.out (by simp [tinderboxref29_Kept.l0])
        | succ k2 =>
          have H := HA.out
          clear HA
          simp only [tinderboxref29_Kept.l0] at H
          by_cases c13 : x10_2 < (a0.size : Int)
          · rw [if_pos c13] at H
            have c13b0 : decide (x10_2 < (a0.size : Int)) = true := decide_eq_true c13
            clear c13
            by_cases c14 : 0 ≤ x10_2
            rotate_left
            · rw [if_neg c14] at H
              exact absurd H (by simp)
            rw [if_pos c14] at H
            have c14b0 : decide (0 ≤ x10_2) = true := decide_eq_true c14
            clear c14
            by_cases c15 : x10_2 < (a1.size : Int)
            rotate_left
            · rw [if_neg c15] at H
              exact absurd H (by simp)
            rw [if_pos c15] at H
            have c15b0 : decide (x10_2 < (a1.size : Int)) = true := decide_eq_true c15
            clear c15
            by_cases c18 : x10_2 < (t467.size : Int)
            rotate_left
            · rw [if_neg c18] at H
              exact absurd H (by simp)
            rw [if_pos c18] at H
            have c18b0 : decide (x10_2 < (t467.size : Int)) = true := decide_eq_true c18
            clear c18
            by_cases c20 : (bt a1 x10_2) = (Go.bits .xor .u8 (bt a0 x10_2) (bt t467 x10_2))
            rotate_left
            · rw [if_neg c20] at H
              have c20b0 : ((bt a1 x10_2) == (Go.bits .xor .u8 (bt a0 x10_2) (bt t467 x10_2))) = false := beq_eq_false_iff_ne.mpr c20
              have c20b1 : ((bt a1 x10_2) != (Go.bits .xor .u8 (bt a0 x10_2) (bt t467 x10_2))) = true := bne_iff_ne.mpr c20
              obtain rfl := Option.some.inj H
              have p16 : 0 ≤ (x10_2 : Int) := of_decide_eq_true (by first | (with_reducible assumption) | assumption)
              have q16 : x10_2 < (a1.size : Int) := of_decide_eq_true (by first | (with_reducible assumption) | assumption)
              have hx16 := bt_at a1 x10_2
              replace p16 := eq_true p16
              replace q16 := eq_true q16
              have p17 : 0 ≤ (x10_2 : Int) := of_decide_eq_true (by first | (with_reducible assumption) | assumption)
              have q17 : x10_2 < (a0.size : Int) := of_decide_eq_true (by first | (with_reducible assumption) | assumption)
              have hx17 := bt_at a0 x10_2
              replace p17 := eq_true p17
              replace q17 := eq_true q17
              have p19 : 0 ≤ (x10_2 : Int) := of_decide_eq_true (by first | (with_reducible assumption) | assumption)
              have q19 : x10_2 < (t467.size : Int) := of_decide_eq_true (by first | (with_reducible assumption) | assumption)
              have hx19 := bt_at t467 x10_2
              replace p19 := eq_true p19
              replace q19 := eq_true q19
              go_wp2
              repeat (go_quiet (fail); try go_wp2)
              go_ret
              exact ⟨by first | rfl | (simp [errW_none, errW_some] <;> rfl) | (simp [*, errW_none, errW_some] <;> rfl), by repeat (first | (with_reducible first | exact HB.out | apply xA | apply xN | apply xO | refine below_set ?_ GE466.out) | exact HB.out)⟩
            rw [if_pos c20] at H
            have c20b0 : ((bt a1 x10_2) == (Go.bits .xor .u8 (bt a0 x10_2) (bt t467 x10_2))) = true := beq_iff_eq.mpr c20
            have c20b1 : ((bt a1 x10_2) != (Go.bits .xor .u8 (bt a0 x10_2) (bt t467 x10_2))) = false := bne_eq_false_iff_eq.mpr c20
            clear c20
            have H' := Aside0.mk H
            clear H
            have p16 : 0 ≤ (x10_2 : Int) := of_decide_eq_true (by first | (with_reducible assumption) | assumption)
            have q16 : x10_2 < (a1.size : Int) := of_decide_eq_true (by first | (with_reducible assumption) | assumption)
            have hx16 := bt_at a1 x10_2
            replace p16 := eq_true p16
            replace q16 := eq_true q16
            have p17 : 0 ≤ (x10_2 : Int) := of_decide_eq_true (by first | (with_reducible assumption) | assumption)
            have q17 : x10_2 < (a0.size : Int) := of_decide_eq_true (by first | (with_reducible assumption) | assumption)
            have hx17 := bt_at a0 x10_2
            replace p17 := eq_true p17
            replace q17 := eq_true q17
            have p19 : 0 ≤ (x10_2 : Int) := of_decide_eq_true (by first | (with_reducible assumption) | assumption)
            have q19 : x10_2 < (t467.size : Int) := of_decide_eq_true (by first | (with_reducible assumption) | assumption)
            have hx19 := bt_at t467 x10_2
            replace p19 := eq_true p19
            replace q19 := eq_true q19
            go_wp2
            repeat (go_quiet (fail); try go_wp2)
            go_roundg k2
            case measure => have := HJ4.out; have := HK2.out; omega
            case rel => exact ⟨(wrap64 (x10_2 + 1)), (by first | rfl | (simp; done) | (simp [*]; done)), H', ⟨by have := HJ4.out; have := HK2.out; omega⟩, ⟨by (with_reducible repeat (first | refine xB ?_ _ | refine xC ?_ | refine xD ?_ _)); exact BK466.out⟩, ⟨by repeat (first | (with_reducible first | exact HB.out | apply xA | apply xN | apply xO | refine below_set ?_ GE466.out) | exact HB.out)⟩⟩
          rw [if_neg c13] at H
          have c13b0 : decide (x10_2 < (a0.size : Int)) = false := decide_eq_false c13
          clear c13
          have H' := Aside0.mk H
          clear H
          go_wp2
          repeat (go_quiet (fail); try go_wp2)
          go_loopg [11] k2 (fun kq v11 w' => ∃ (x11_3 : Int), v11 = .int .i64 x11_3 ∧ Aside0 (tinderboxref29_Kept.l1 kq a1 x11_3 a2_0 a2_1 a2_2 a2_3 = some r) ∧ Aside0 (kq ≤ k2) ∧ Aside0 (w'.heap[gb466]? = some (.cells #[.int .i64 a2_0, .int .i64 a2_1, .int .i64 a2_2, .int .i64 a2_3] 23 (0, 0))) ∧ Aside0 (Below w.heap.size w w'))
          case atStart => exact ⟨(0), (by first | rfl | (simp; done) | (simp [*]; done)), H', ⟨Nat.le_refl _⟩, ⟨by (with_reducible repeat (first | refine xB ?_ _ | refine xC ?_ | refine xD ?_ _)); exact BK466.out⟩, ⟨by repeat (first | (with_reducible first | exact HB.out | apply xA | apply xN | apply xO | refine below_set ?_ GE466.out) | exact HB.out)⟩⟩
          case round =>
            clear H'
            try clear c1
            try clear p1
            try clear q1
            try clear hx1
            try clear c2
            try clear p2
            try clear p6
            try clear c7
            try clear c7b0
            try clear c7b1
            try clear c10
            try clear c13
            try clear c13b0
            try clear c14
            try clear c14b0
            try clear c15
            try clear c15b0
            try clear p16
            try clear q16
            try clear hx16
            try clear p17
            try clear q17
            try clear hx17
            try clear c18
            try clear c18b0
            try clear p19
            try clear q19
            try clear hx19
            try clear c20
            try clear c20b0
            try clear c20b1
            try clear hcz8_0
            try clear hcz8_1
            try clear hcz8_2
            try clear hcz8_3
            try clear hcz9_0
            try clear hcz9_1
            try clear hcz9_2
            try clear hcz9_3
            try clear hfz8_0
            try clear hfz8_1
            try clear hfz8_2
            try clear hfz8_3
            try clear hfz9_0
            try clear hfz9_1
            try clear hfz9_2
            try clear hfz9_3
            try clear p16
            try clear p17
            try clear p19
            try clear p2
            try clear p6
            try clear q16
            try clear q17
            try clear q19
            obtain ⟨x11_3, rfl, HA, HK3, BK466, HB⟩ := hrel
            cases gk with
            | zero => exact absurd HA.out (by simp [tinderboxref29_Kept.l1])
            | succ k3 =>
              have H := HA.out
              clear HA
              simp only [tinderboxref29_Kept.l1] at H
              by_cases c21 : x11_3 < a2_0
              rotate_left
              · rw [if_neg c21] at H
                have c21b0 : decide (x11_3 < a2_0) = false := decide_eq_false c21
                clear c21
                obtain rfl := Option.some.inj H
                have hcz37_0 : wr.cell? ⟨gb466, 0, none⟩ = some (.int .i64 a2_0) := (blk_cell BK466.out 0).trans rfl
                have hcz37_1 : wr.cell? ⟨gb466, 1, none⟩ = some (.int .i64 a2_1) := (blk_cell BK466.out 1).trans rfl
                have hcz37_2 : wr.cell? ⟨gb466, 2, none⟩ = some (.int .i64 a2_2) := (blk_cell BK466.out 2).trans rfl
                have hcz37_3 : wr.cell? ⟨gb466, 3, none⟩ = some (.int .i64 a2_3) := (blk_cell BK466.out 3).trans rfl
                have hfz37_0 := blk_frozen BK466.out 0
                have hfz37_1 := blk_frozen BK466.out 1
                have hfz37_2 := blk_frozen BK466.out 2
                have hfz37_3 := blk_frozen BK466.out 3
                go_wp2
                repeat (go_quiet (fail); try go_wp2)
                go_ret
                exact ⟨by first | rfl | (simp [errW_none, errW_some] <;> rfl) | (simp [*, errW_none, errW_some] <;> rfl), by repeat (first | (with_reducible first | exact HB.out | apply xA | apply xN | apply xO | refine below_set ?_ GE466.out) | exact HB.out)⟩
              rw [if_pos c21] at H
              have c21b0 : decide (x11_3 < a2_0) = true := decide_eq_true c21
              clear c21
              obtain ⟨y468, hy468⟩ : ∃ y_ : List Int, y_ = (([] : List Int)) := ⟨_, rfl⟩
              replace H : (tinderboxref29_Kept.l2 k3 a1 x11_3 y468 x11_3 a2_0 a2_1 a2_2 a2_3) = some r := by first | (have H2_ := (Option.bind_some _ _).symm.trans H; rw [hy468]; with_reducible exact H2_) | (rw [hy468]; exact H) | exact H
              have Ny468 := Aside0.mk hy468
              clear hy468
              have H' := Aside0.mk H
              clear H
              have hcz22_0 : wr.cell? ⟨gb466, 0, none⟩ = some (.int .i64 a2_0) := (blk_cell BK466.out 0).trans rfl
              have hcz22_1 : wr.cell? ⟨gb466, 1, none⟩ = some (.int .i64 a2_1) := (blk_cell BK466.out 1).trans rfl
              have hcz22_2 : wr.cell? ⟨gb466, 2, none⟩ = some (.int .i64 a2_2) := (blk_cell BK466.out 2).trans rfl
              have hcz22_3 : wr.cell? ⟨gb466, 3, none⟩ = some (.int .i64 a2_3) := (blk_cell BK466.out 3).trans rfl
              have hfz22_0 := blk_frozen BK466.out 0
              have hfz22_1 := blk_frozen BK466.out 1
              have hfz22_2 := blk_frozen BK466.out 2
              have hfz22_3 := blk_frozen BK466.out 3
              go_wp2_with (first | ((with_reducible refine gate_dst (N := 59) rfl ?_); refine Kd.R_lit (Kd.int .u8) _ 5 ?hg (N := 59) ?hd (xs := ([] : List Int)) (inner := []) (ok := fun _ => True) (okp := fun _ => True) ?hr ?hp (fun _ hk => hk) trivial (Below.refl _ _) (Nat.le_refl _) (by simp) ?_; (case hd => rfl); (case hg => rfl); (case hr => first | (go_simp; done) | (go_simp; rfl)); (case hp => exact (Reps.none _ _)); intro v469 w23 ho24 hb hg_ hnew_; clear hg_ hnew_; (first | rw [← Ny468.out] at ho24 | (simp only [Int.reduceToNat] at ho24; rw [← Ny468.out] at ho24)); have n0_ := Aside0.mk (Kd.R_lower ho24 (xZ (by repeat (first | (with_reducible first | exact HB.out | apply xA | apply xN | apply xO | refine below_set ?_ GE466.out) | exact HB.out)))); have n1_ := Aside0.mk (blk_below (g := gb466) (o := .cells #[.int .i64 a2_0, .int .i64 a2_1, .int .i64 a2_2, .int .i64 a2_3] 23 (0, 0)) (by (with_reducible repeat (first | refine xB ?_ _ | refine xC ?_ | refine xD ?_ _)); exact BK466.out) hb); have n2_ := Aside0.mk (xP (by repeat (first | (with_reducible first | exact HB.out | apply xA | apply xN | apply xO | refine below_set ?_ GE466.out) | exact HB.out)) hb); clear BK466; clear HB; have HO470 := n0_; have BK466 := n1_; have HB := n2_; clear n0_ n1_ n2_; clear hb ho24))
              repeat (go_quiet (first | ((with_reducible refine gate_dst (N := 59) rfl ?_); refine Kd.R_lit (Kd.int .u8) _ 5 ?hg (N := 59) ?hd (xs := ([] : List Int)) (inner := []) (ok := fun _ => True) (okp := fun _ => True) ?hr ?hp (fun _ hk => hk) trivial (Below.refl _ _) (Nat.le_refl _) (by simp) ?_; (case hd => rfl); (case hg => rfl); (case hr => first | (go_simp; done) | (go_simp; rfl)); (case hp => exact (Reps.none _ _)); intro v469 w23 ho24 hb hg_ hnew_; clear hg_ hnew_; (first | rw [← Ny468.out] at ho24 | (simp only [Int.reduceToNat] at ho24; rw [← Ny468.out] at ho24)); have n0_ := Aside0.mk (Kd.R_lower ho24 (xZ (by repeat (first | (with_reducible first | exact HB.out | apply xA | apply xN | apply xO | refine below_set ?_ GE466.out) | exact HB.out)))); have n1_ := Aside0.mk (blk_below (g := gb466) (o := .cells #[.int .i64 a2_0, .int .i64 a2_1, .int .i64 a2_2, .int .i64 a2_3] 23 (0, 0)) (by (with_reducible repeat (first | refine xB ?_ _ | refine xC ?_ | refine xD ?_ _)); exact BK466.out) hb); have n2_ := Aside0.mk (xP (by repeat (first | (with_reducible first | exact HB.out | apply xA | apply xN | apply xO | refine below_set ?_ GE466.out) | exact HB.out)) hb); clear BK466; clear HB; have HO470 := n0_; have BK466 := n1_; have HB := n2_; clear n0_ n1_ n2_; clear hb ho24)); try go_wp2_with (first | ((with_reducible refine gate_dst (N := 59) rfl ?_); refine Kd.R_lit (Kd.int .u8) _ 5 ?hg (N := 59) ?hd (xs := ([] : List Int)) (inner := []) (ok := fun _ => True) (okp := fun _ => True) ?hr ?hp (fun _ hk => hk) trivial (Below.refl _ _) (Nat.le_refl _) (by simp) ?_; (case hd => rfl); (case hg => rfl); (case hr => first | (go_simp; done) | (go_simp; rfl)); (case hp => exact (Reps.none _ _)); intro v469 w23 ho24 hb hg_ hnew_; clear hg_ hnew_; (first | rw [← Ny468.out] at ho24 | (simp only [Int.reduceToNat] at ho24; rw [← Ny468.out] at ho24)); have n0_ := Aside0.mk (Kd.R_lower ho24 (xZ (by repeat (first | (with_reducible first | exact HB.out | apply xA | apply xN | apply xO | refine below_set ?_ GE466.out) | exact HB.out)))); have n1_ := Aside0.mk (blk_below (g := gb466) (o := .cells #[.int .i64 a2_0, .int .i64 a2_1, .int .i64 a2_2, .int .i64 a2_3] 23 (0, 0)) (by (with_reducible repeat (first | refine xB ?_ _ | refine xC ?_ | refine xD ?_ _)); exact BK466.out) hb); have n2_ := Aside0.mk (xP (by repeat (first | (with_reducible first | exact HB.out | apply xA | apply xN | apply xO | refine below_set ?_ GE466.out) | exact HB.out)) hb); clear BK466; clear HB; have HO470 := n0_; have BK466 := n1_; have HB := n2_; clear n0_ n1_ n2_; clear hb ho24)))
              go_loopg [12, 13] k3 (fun kq v12 v13 w' => ∃ (x12_4 : List Int) (x13_4 : Int), v13 = .int .i64 x13_4 ∧ Aside0 (tinderboxref29_Kept.l2 kq a1 x11_3 x12_4 x13_4 a2_0 a2_1 a2_2 a2_3 = some r) ∧ Aside0 (kq ≤ k3) ∧ Aside0 (Kd.R (Kd.int .u8) 5 w' w.heap.size (fun _ => True) v12 x12_4) ∧ Aside0 (w'.heap[gb466]? = some (.cells #[.int .i64 a2_0, .int .i64 a2_1, .int .i64 a2_2, .int .i64 a2_3] 23 (0, 0))) ∧ Aside0 (Below w.heap.size w w'))
              case atStart => exact ⟨(y468), (x11_3), (by first | rfl | (simp; done) | (simp [*]; done)), H', ⟨Nat.le_refl _⟩, ⟨by (with_reducible repeat (first | apply xR | apply xS | apply xT)); exact HO470.out⟩, ⟨by (with_reducible repeat (first | refine xB ?_ _ | refine xC ?_ | refine xD ?_ _)); exact BK466.out⟩, ⟨by repeat (first | (with_reducible first | exact HB.out | apply xA | apply xN | apply xO | refine below_set ?_ GE466.out) | exact HB.out)⟩⟩
              case round =>
                clear H'
                try clear c1
                try clear p1
                try clear q1
                try clear hx1
                try clear c2
                try clear p2
                try clear p6
                try clear c7
                try clear c7b0
                try clear c7b1
                try clear c10
                try clear c13
                try clear c13b0
                try clear c14
                try clear c14b0
                try clear c15
                try clear c15b0
                try clear p16
                try clear q16
                try clear hx16
                try clear p17
                try clear q17
                try clear hx17
                try clear c18
                try clear c18b0
                try clear p19
                try clear q19
                try clear hx19
                try clear c20
                try clear c20b0
                try clear c20b1
                try clear c21
                try clear c21b0
                try clear hcz22_0
                try clear hcz22_1
                try clear hcz22_2
                try clear hcz22_3
                try clear hcz8_0
                try clear hcz8_1
                try clear hcz8_2
                try clear hcz8_3
                try clear hcz9_0
                try clear hcz9_1
                try clear hcz9_2
                try clear hcz9_3
                try clear hfz22_0
                try clear hfz22_1
                try clear hfz22_2
                try clear hfz22_3
                try clear hfz8_0
                try clear hfz8_1
                try clear hfz8_2
                try clear hfz8_3
                try clear hfz9_0
                try clear hfz9_1
                try clear hfz9_2
                try clear hfz9_3
                try clear p1
                try clear p16
                try clear p17
                try clear p19
                try clear p2
                try clear p6
                try clear q1
                try clear q16
                try clear q17
                try clear q19
                obtain ⟨x12_4, x13_4, rfl, HA, HK4, HO_12, BK466, HB⟩ := hrel
                cases gk with
                | zero => exact absurd HA.out (by simp [tinderboxref29_Kept.l2])
                | succ k4 =>
                  have H := HA.out
                  clear HA
                  simp only [tinderboxref29_Kept.l2] at H
                  by_cases c25 : x13_4 < (a1.size : Int)
                  rotate_left
                  · rw [if_neg c25] at H
                    have c25b0 : decide (x13_4 < (a1.size : Int)) = false := decide_eq_false c25
                    clear c25
                    replace H := Option.bind_eq_some_iff.mp H
                    obtain ⟨t474, A310, H⟩ := H
                    have A31 := Aside0.mk A310
                    clear A310
                    by_cases c32 : t474 = true
                    rotate_left
                    · replace c32 := Bool.eq_false_iff.mpr c32
                      subst c32
                      rw [if_neg (show ¬ (false = true) by decide)] at H
                      obtain rfl := Option.some.inj H
                      have hcv35 := own_string (P := Try.prog) Try.underlying40 Try.underlying5 Try.underlying9 (Kd.own_of_R HO_12.out)
                      have hcz36_0 : wr.cell? ⟨gb466, 0, none⟩ = some (.int .i64 a2_0) := (blk_cell BK466.out 0).trans rfl
                      have hcz36_1 : wr.cell? ⟨gb466, 1, none⟩ = some (.int .i64 a2_1) := (blk_cell BK466.out 1).trans rfl
                      have hcz36_2 : wr.cell? ⟨gb466, 2, none⟩ = some (.int .i64 a2_2) := (blk_cell BK466.out 2).trans rfl
                      have hcz36_3 : wr.cell? ⟨gb466, 3, none⟩ = some (.int .i64 a2_3) := (blk_cell BK466.out 3).trans rfl
                      have hfz36_0 := blk_frozen BK466.out 0
                      have hfz36_1 := blk_frozen BK466.out 1
                      have hfz36_2 := blk_frozen BK466.out 2
                      have hfz36_3 := blk_frozen BK466.out 3
                      go_wp2_with (first | (go_at_call 26; (with_reducible refine (tinderboxref29_right.calls k4 (strOfNums x12_4) a2_2 false _ A31.out).mono ?_); rintro e w' ⟨rfl, ⟨nd, rfl⟩⟩; (try first | exact ⟨rfl, _, World.drewN_drewN _ _ _⟩ | exact ⟨rfl, _, Eq.trans (World.drewN_drewN _ _ _) (congrArg (World.drewN _) (Nat.add_assoc _ _ _))⟩)))
                      repeat (go_quiet (first | (go_at_call 26; (with_reducible refine (tinderboxref29_right.calls k4 (strOfNums x12_4) a2_2 false _ A31.out).mono ?_); rintro e w' ⟨rfl, ⟨nd, rfl⟩⟩; (try first | exact ⟨rfl, _, World.drewN_drewN _ _ _⟩ | exact ⟨rfl, _, Eq.trans (World.drewN_drewN _ _ _) (congrArg (World.drewN _) (Nat.add_assoc _ _ _))⟩))); try go_wp2_with (first | (go_at_call 26; (with_reducible refine (tinderboxref29_right.calls k4 (strOfNums x12_4) a2_2 false _ A31.out).mono ?_); rintro e w' ⟨rfl, ⟨nd, rfl⟩⟩; (try first | exact ⟨rfl, _, World.drewN_drewN _ _ _⟩ | exact ⟨rfl, _, Eq.trans (World.drewN_drewN _ _ _) (congrArg (World.drewN _) (Nat.add_assoc _ _ _))⟩))))
                      go_ret
                      exact ⟨by first | rfl | (simp [errW_none, errW_some] <;> rfl) | (simp [*, errW_none, errW_some] <;> rfl), by repeat (first | (with_reducible first | exact HB.out | apply xA | apply xN | apply xO | refine below_set ?_ GE466.out) | exact HB.out)⟩
                    subst c32
                    rw [if_pos rfl] at H
                    have H' := Aside0.mk H
                    clear H
                    have hcv33 := own_string (P := Try.prog) Try.underlying40 Try.underlying5 Try.underlying9 (Kd.own_of_R HO_12.out)
                    have hcz34_0 : wr.cell? ⟨gb466, 0, none⟩ = some (.int .i64 a2_0) := (blk_cell BK466.out 0).trans rfl
                    have hcz34_1 : wr.cell? ⟨gb466, 1, none⟩ = some (.int .i64 a2_1) := (blk_cell BK466.out 1).trans rfl
                    have hcz34_2 : wr.cell? ⟨gb466, 2, none⟩ = some (.int .i64 a2_2) := (blk_cell BK466.out 2).trans rfl
                    have hcz34_3 : wr.cell? ⟨gb466, 3, none⟩ = some (.int .i64 a2_3) := (blk_cell BK466.out 3).trans rfl
                    have hfz34_0 := blk_frozen BK466.out 0
                    have hfz34_1 := blk_frozen BK466.out 1
                    have hfz34_2 := blk_frozen BK466.out 2
                    have hfz34_3 := blk_frozen BK466.out 3
                    go_wp2_with (first | (go_at_call 26; (with_reducible refine (tinderboxref29_right.calls k4 (strOfNums x12_4) a2_2 true _ A31.out).mono ?_); rintro e w' ⟨rfl, ⟨nd, rfl⟩⟩; (try first | exact ⟨rfl, _, World.drewN_drewN _ _ _⟩ | exact ⟨rfl, _, Eq.trans (World.drewN_drewN _ _ _) (congrArg (World.drewN _) (Nat.add_assoc _ _ _))⟩)))
                    repeat (go_quiet (first | (go_at_call 26; (with_reducible refine (tinderboxref29_right.calls k4 (strOfNums x12_4) a2_2 true _ A31.out).mono ?_); rintro e w' ⟨rfl, ⟨nd, rfl⟩⟩; (try first | exact ⟨rfl, _, World.drewN_drewN _ _ _⟩ | exact ⟨rfl, _, Eq.trans (World.drewN_drewN _ _ _) (congrArg (World.drewN _) (Nat.add_assoc _ _ _))⟩))); try go_wp2_with (first | (go_at_call 26; (with_reducible refine (tinderboxref29_right.calls k4 (strOfNums x12_4) a2_2 true _ A31.out).mono ?_); rintro e w' ⟨rfl, ⟨nd, rfl⟩⟩; (try first | exact ⟨rfl, _, World.drewN_drewN _ _ _⟩ | exact ⟨rfl, _, Eq.trans (World.drewN_drewN _ _ _) (congrArg (World.drewN _) (Nat.add_assoc _ _ _))⟩))))
                    go_roundg k4
                    case measure => have := HJ4.out; have := HK2.out; have := HK3.out; have := HK4.out; omega
                    case rel => exact ⟨(wrap64 (x11_3 + 1)), (by first | rfl | (simp; done) | (simp [*]; done)), H', ⟨by have := HJ4.out; have := HK2.out; have := HK3.out; have := HK4.out; omega⟩, ⟨by (with_reducible repeat (first | refine xB ?_ _ | refine xC ?_ | refine xD ?_ _)); exact BK466.out⟩, ⟨by repeat (first | (with_reducible first | exact HB.out | apply xA | apply xN | apply xO | refine below_set ?_ GE466.out) | exact HB.out)⟩⟩
                  rw [if_pos c25] at H
                  have c25b0 : decide (x13_4 < (a1.size : Int)) = true := decide_eq_true c25
                  clear c25
                  by_cases c26 : 0 ≤ x13_4
                  rotate_left
                  · rw [if_neg c26] at H
                    exact absurd H (by simp)
                  rw [if_pos c26] at H
                  have c26b0 : decide (0 ≤ x13_4) = true := decide_eq_true c26
                  clear c26
                  by_cases c28 : x12_4.length < 140737488355328
                  rotate_left
                  · rw [if_neg c28] at H
                    exact absurd H (by simp)
                  rw [if_pos c28] at H
                  have LMc28 := Aside0.mk c28
                  clear c28
                  obtain ⟨y471, hy471⟩ : ∃ y_ : List Int, y_ = (x12_4 ++ [bt a1 x13_4]) := ⟨_, rfl⟩
                  replace H : (tinderboxref29_Kept.l2 k4 a1 x11_3 y471 (wrap64 (x13_4 + a2_0)) a2_0 a2_1 a2_2 a2_3) = some r := by first | (have H2_ := (Option.bind_some _ _).symm.trans H; rw [hy471]; with_reducible exact H2_) | (rw [hy471]; exact H) | exact H
                  have Ny471 := Aside0.mk hy471
                  clear hy471
                  have H' := Aside0.mk H
                  clear H
                  have p27 : 0 ≤ (x13_4 : Int) := of_decide_eq_true (by first | (with_reducible assumption) | assumption)
                  have q27 : x13_4 < (a1.size : Int) := of_decide_eq_true (by first | (with_reducible assumption) | assumption)
                  have hx27 := bt_at a1 x13_4
                  replace p27 := eq_true p27
                  replace q27 := eq_true q27
                  go_wp2_with (first | ((with_reducible refine gate_builtin (b := .append) (xs := #[.tmp 69, .tmp 73]) rfl ?_); at_builtin; refine Kd.R_append (Kd.int .u8) (w0 := w) w.heap.size rfl (.tmp 69) (.tmp 73) 40 5 (.int .u8 0) 1 rfl Try.underlying40 info5 rfl (by decide) (by omega) u12 x12_4 (bt a1 x13_4) [.int .u8 (bt a1 x13_4)] (fun _ => True) (fun _ => False) rfl rfl ?aP (fun _ hk => hk.elim) ?aF ?aO ?aB ?aS ?aL ?_; (case aP => exact rfl); (case aB => exact (by repeat (first | (with_reducible first | exact HB.out | apply xA | apply xN | apply xO | refine below_set ?_ GE466.out) | exact HB.out))); (case aF => exact (fun _ _ => trivial)); (case aO => exact (by (with_reducible repeat (first | apply xR | apply xS | apply xT)); exact HO_12.out)); (case aS => exact (xZ (by repeat (first | (with_reducible first | exact HB.out | apply xA | apply xN | apply xO | refine below_set ?_ GE466.out) | exact HB.out)))); (case aL => have := LMc28.out; omega); intro v472 w29 ho hb hg hat; rw [← Ny471.out] at ho; have n0_ := Aside0.mk (blk_grown (g := gb466) (o := .cells #[.int .i64 a2_0, .int .i64 a2_1, .int .i64 a2_2, .int .i64 a2_3] 23 (0, 0)) (by (with_reducible repeat (first | refine xB ?_ _ | refine xC ?_ | refine xD ?_ _)); exact BK466.out) hg (Kd.R_ne HO_12.out BK466.out (by decide))); have n1_ := Aside0.mk (hb); have n2_ := Aside0.mk (ho); clear BK466; clear HB; clear HO_12; have BK466 := n0_; have HB := n1_; have HO473 := n2_; clear n0_ n1_ n2_; clear ho hb hg hat; have hcz30_0 : w29.cell? ⟨gb466, 0, none⟩ = some (.int .i64 a2_0) := (blk_cell BK466.out 0).trans rfl; have hcz30_1 : w29.cell? ⟨gb466, 1, none⟩ = some (.int .i64 a2_1) := (blk_cell BK466.out 1).trans rfl; have hcz30_2 : w29.cell? ⟨gb466, 2, none⟩ = some (.int .i64 a2_2) := (blk_cell BK466.out 2).trans rfl; have hcz30_3 : w29.cell? ⟨gb466, 3, none⟩ = some (.int .i64 a2_3) := (blk_cell BK466.out 3).trans rfl; have hfz30_0 := blk_frozen BK466.out 0; have hfz30_1 := blk_frozen BK466.out 1; have hfz30_2 := blk_frozen BK466.out 2; have hfz30_3 := blk_frozen BK466.out 3))
                  repeat (go_quiet (first | ((with_reducible refine gate_builtin (b := .append) (xs := #[.tmp 69, .tmp 73]) rfl ?_); at_builtin; refine Kd.R_append (Kd.int .u8) (w0 := w) w.heap.size rfl (.tmp 69) (.tmp 73) 40 5 (.int .u8 0) 1 rfl Try.underlying40 info5 rfl (by decide) (by omega) u12 x12_4 (bt a1 x13_4) [.int .u8 (bt a1 x13_4)] (fun _ => True) (fun _ => False) rfl rfl ?aP (fun _ hk => hk.elim) ?aF ?aO ?aB ?aS ?aL ?_; (case aP => exact rfl); (case aB => exact (by repeat (first | (with_reducible first | exact HB.out | apply xA | apply xN | apply xO | refine below_set ?_ GE466.out) | exact HB.out))); (case aF => exact (fun _ _ => trivial)); (case aO => exact (by (with_reducible repeat (first | apply xR | apply xS | apply xT)); exact HO_12.out)); (case aS => exact (xZ (by repeat (first | (with_reducible first | exact HB.out | apply xA | apply xN | apply xO | refine below_set ?_ GE466.out) | exact HB.out)))); (case aL => have := LMc28.out; omega); intro v472 w29 ho hb hg hat; rw [← Ny471.out] at ho; have n0_ := Aside0.mk (blk_grown (g := gb466) (o := .cells #[.int .i64 a2_0, .int .i64 a2_1, .int .i64 a2_2, .int .i64 a2_3] 23 (0, 0)) (by (with_reducible repeat (first | refine xB ?_ _ | refine xC ?_ | refine xD ?_ _)); exact BK466.out) hg (Kd.R_ne HO_12.out BK466.out (by decide))); have n1_ := Aside0.mk (hb); have n2_ := Aside0.mk (ho); clear BK466; clear HB; clear HO_12; have BK466 := n0_; have HB := n1_; have HO473 := n2_; clear n0_ n1_ n2_; clear ho hb hg hat; have hcz30_0 : w29.cell? ⟨gb466, 0, none⟩ = some (.int .i64 a2_0) := (blk_cell BK466.out 0).trans rfl; have hcz30_1 : w29.cell? ⟨gb466, 1, none⟩ = some (.int .i64 a2_1) := (blk_cell BK466.out 1).trans rfl; have hcz30_2 : w29.cell? ⟨gb466, 2, none⟩ = some (.int .i64 a2_2) := (blk_cell BK466.out 2).trans rfl; have hcz30_3 : w29.cell? ⟨gb466, 3, none⟩ = some (.int .i64 a2_3) := (blk_cell BK466.out 3).trans rfl; have hfz30_0 := blk_frozen BK466.out 0; have hfz30_1 := blk_frozen BK466.out 1; have hfz30_2 := blk_frozen BK466.out 2; have hfz30_3 := blk_frozen BK466.out 3)); try go_wp2_with (first | ((with_reducible refine gate_builtin (b := .append) (xs := #[.tmp 69, .tmp 73]) rfl ?_); at_builtin; refine Kd.R_append (Kd.int .u8) (w0 := w) w.heap.size rfl (.tmp 69) (.tmp 73) 40 5 (.int .u8 0) 1 rfl Try.underlying40 info5 rfl (by decide) (by omega) u12 x12_4 (bt a1 x13_4) [.int .u8 (bt a1 x13_4)] (fun _ => True) (fun _ => False) rfl rfl ?aP (fun _ hk => hk.elim) ?aF ?aO ?aB ?aS ?aL ?_; (case aP => exact rfl); (case aB => exact (by repeat (first | (with_reducible first | exact HB.out | apply xA | apply xN | apply xO | refine below_set ?_ GE466.out) | exact HB.out))); (case aF => exact (fun _ _ => trivial)); (case aO => exact (by (with_reducible repeat (first | apply xR | apply xS | apply xT)); exact HO_12.out)); (case aS => exact (xZ (by repeat (first | (with_reducible first | exact HB.out | apply xA | apply xN | apply xO | refine below_set ?_ GE466.out) | exact HB.out)))); (case aL => have := LMc28.out; omega); intro v472 w29 ho hb hg hat; rw [← Ny471.out] at ho; have n0_ := Aside0.mk (blk_grown (g := gb466) (o := .cells #[.int .i64 a2_0, .int .i64 a2_1, .int .i64 a2_2, .int .i64 a2_3] 23 (0, 0)) (by (with_reducible repeat (first | refine xB ?_ _ | refine xC ?_ | refine xD ?_ _)); exact BK466.out) hg (Kd.R_ne HO_12.out BK466.out (by decide))); have n1_ := Aside0.mk (hb); have n2_ := Aside0.mk (ho); clear BK466; clear HB; clear HO_12; have BK466 := n0_; have HB := n1_; have HO473 := n2_; clear n0_ n1_ n2_; clear ho hb hg hat; have hcz30_0 : w29.cell? ⟨gb466, 0, none⟩ = some (.int .i64 a2_0) := (blk_cell BK466.out 0).trans rfl; have hcz30_1 : w29.cell? ⟨gb466, 1, none⟩ = some (.int .i64 a2_1) := (blk_cell BK466.out 1).trans rfl; have hcz30_2 : w29.cell? ⟨gb466, 2, none⟩ = some (.int .i64 a2_2) := (blk_cell BK466.out 2).trans rfl; have hcz30_3 : w29.cell? ⟨gb466, 3, none⟩ = some (.int .i64 a2_3) := (blk_cell BK466.out 3).trans rfl; have hfz30_0 := blk_frozen BK466.out 0; have hfz30_1 := blk_frozen BK466.out 1; have hfz30_2 := blk_frozen BK466.out 2; have hfz30_3 := blk_frozen BK466.out 3)))
                  go_roundg k4
                  case measure => have := HJ4.out; have := HK2.out; have := HK3.out; have := HK4.out; omega
                  case rel => exact ⟨(y471), (wrap64 (x13_4 + a2_0)), (by first | rfl | (simp; done) | (simp [*]; done)), H', ⟨by have := HJ4.out; have := HK2.out; have := HK3.out; have := HK4.out; omega⟩, ⟨by (with_reducible repeat (first | apply xR | apply xS | apply xT)); exact HO473.out⟩, ⟨by (with_reducible repeat (first | refine xB ?_ _ | refine xC ?_ | refine xD ?_ _)); exact BK466.out⟩, ⟨by repeat (first | (with_reducible first | exact HB.out | apply xA | apply xN | apply xO | refine below_set ?_ GE466.out) | exact HB.out)⟩⟩
end Go.Proofs.Ytpleeckbakllpaa.XWv
