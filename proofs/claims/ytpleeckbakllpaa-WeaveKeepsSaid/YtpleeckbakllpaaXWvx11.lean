import Derived.Test.YtpleeckbakllpaaXWvx0
import Derived.Test.YtpleeckbakllpaaXWvx1
import Derived.Test.YtpleeckbakllpaaXWvx2
import Derived.Test.YtpleeckbakllpaaXWvx3
import Derived.Test.YtpleeckbakllpaaXWvx6
import Derived.Test.YtpleeckbakllpaaXWvx10
namespace Go.Proofs.Ytpleeckbakllpaa.XWv
open Go.RowKit Go.Proofs.YtpleeckbakllpaaX.PrintWords Go.Proofs.YtpleeckbakllpaaX.PrintLast Go.Proofs.YtpleeckbakllpaaX.PrintMore
attribute [local go_sem] max2_int min2_int max_two min_two max_three min_three max_four min_four
set_option linter.unusedVariables false
set_option linter.unusedSimpArgs false
attribute [local go_sem high] eqA23
def tinderboxlaw29_awake.f (k : Nat)  : Option (Bool) := (weave_ShapeOf.f k 10 2).bind fun bt415 => ((weave_Encode.f k (⟨#[48, 49, 50, 51, 52, 53, 54, 55, 56, 57]⟩ : ByteArray) bt415.1 bt415.2.1 bt415.2.2.1 bt415.2.2.2.1 5).bind fun bt421 => (if bt415.2.2.2.2 = true then (if bt421.2 = 0 then (if (bt421.1.size : Int) = 12 then (if bt421.1.size ≤ 9223372036854775807 then ((some (bytesOf bt421.1 : List Int)).bind fun y423 => (if 3 < (y423.length : Int) then ((weave_Decode.f k (strOfNums (y423.set (3 : Int).toNat (Go.bits .xor .u8 (rd y423 3) 9))) bt415.1 bt415.2.1 bt415.2.2.1 bt415.2.2.2.1 5 ([] : List Int)).bind fun bt428 => (if bt428.2.2 = 0 then (if bt428.1.toList = ([48, 49, 50, 51, 52, 53, 54, 55, 56, 57] : List UInt8) then (some (bt428.2.1 == 1)) else (some false)) else (some false))) else (none))) else (none)) else (some false)) else (some false)) else (some false)))
theorem tinderboxlaw29_awake.mono : ∀ k, LeO (tinderboxlaw29_awake.f k ) (tinderboxlaw29_awake.f (k + 1) ) := by
  intro  k
  unfold tinderboxlaw29_awake.f
  repeat' first
      | (with_reducible exact weave_Decode.mono _ _ _ _ _ _ _ _)
      | (with_reducible exact weave_Encode.mono _ _ _ _ _ _ _)
      | (with_reducible exact weave_ShapeOf.mono _ _ _)
      | (with_reducible exact LeO.refl _)
      | (with_reducible exact LeO.none _)
      | (with_reducible refine LeO.ite ?_ ?_)
      | (with_reducible refine LeO.bind ?_ (fun _ => ?_))
set_option maxHeartbeats 8000000 in
set_option maxRecDepth 100000 in
theorem tinderboxlaw29_awake.calls (k : Nat)  (r : Bool) (w : World) (h : tinderboxlaw29_awake.f k  = some r) :
    Calls Try.prog 11 #[] w fun e w' => e = .returned (.bool r) ∧ Below w.heap.size w w' := by
  have hu23 := Try.underlying23
  have HB := Aside0.mk (Below.refl w.heap.size w)
  have H : ((weave_ShapeOf.f k 10 2).bind fun bt415 => ((weave_Encode.f k (⟨#[48, 49, 50, 51, 52, 53, 54, 55, 56, 57]⟩ : ByteArray) bt415.1 bt415.2.1 bt415.2.2.1 bt415.2.2.2.1 5).bind fun bt421 => (if bt415.2.2.2.2 = true then (if bt421.2 = 0 then (if (bt421.1.size : Int) = 12 then (if bt421.1.size ≤ 9223372036854775807 then ((some (bytesOf bt421.1 : List Int)).bind fun y423 => (if 3 < (y423.length : Int) then ((weave_Decode.f k (strOfNums (y423.set (3 : Int).toNat (Go.bits .xor .u8 (rd y423 3) 9))) bt415.1 bt415.2.1 bt415.2.2.1 bt415.2.2.2.1 5 ([] : List Int)).bind fun bt428 => (if bt428.2.2 = 0 then (if bt428.1.toList = ([48, 49, 50, 51, 52, 53, 54, 55, 56, 57] : List UInt8) then (some (bt428.2.1 == 1)) else (some false)) else (some false))) else (none))) else (none)) else (some false)) else (some false)) else (some false)))) = some r := h
  clear h
  replace H := Option.bind_eq_some_iff.mp H
  obtain ⟨⟨t415, t416, t417, t418, t419⟩, A10, H⟩ := H
  replace H : ((weave_Encode.f k (⟨#[48, 49, 50, 51, 52, 53, 54, 55, 56, 57]⟩ : ByteArray) t415 t416 t417 t418 5).bind fun bt421 => (if t419 = true then (if bt421.2 = 0 then (if (bt421.1.size : Int) = 12 then (if bt421.1.size ≤ 9223372036854775807 then ((some (bytesOf bt421.1 : List Int)).bind fun y423 => (if 3 < (y423.length : Int) then ((weave_Decode.f k (strOfNums (y423.set (3 : Int).toNat (Go.bits .xor .u8 (rd y423 3) 9))) t415 t416 t417 t418 5 ([] : List Int)).bind fun bt428 => (if bt428.2.2 = 0 then (if bt428.1.toList = ([48, 49, 50, 51, 52, 53, 54, 55, 56, 57] : List UInt8) then (some (bt428.2.1 == 1)) else (some false)) else (some false))) else (none))) else (none)) else (some false)) else (some false)) else (some false))) = some r := H
  have A1 := Aside0.mk A10
  clear A10
  replace H := Option.bind_eq_some_iff.mp H
  obtain ⟨⟨t421, t422⟩, A20, H⟩ := H
  replace H : (if t419 = true then (if t422 = 0 then (if (t421.size : Int) = 12 then (if t421.size ≤ 9223372036854775807 then ((some (bytesOf t421 : List Int)).bind fun y423 => (if 3 < (y423.length : Int) then ((weave_Decode.f k (strOfNums (y423.set (3 : Int).toNat (Go.bits .xor .u8 (rd y423 3) 9))) t415 t416 t417 t418 5 ([] : List Int)).bind fun bt428 => (if bt428.2.2 = 0 then (if bt428.1.toList = ([48, 49, 50, 51, 52, 53, 54, 55, 56, 57] : List UInt8) then (some (bt428.2.1 == 1)) else (some false)) else (some false))) else (none))) else (none)) else (some false)) else (some false)) else (some false)) = some r := H
  have A2 := Aside0.mk A20
  clear A20
  by_cases c3 : t419 = true
  rotate_left
  · replace c3 := Bool.eq_false_iff.mpr c3
    subst c3
    rw [if_neg (show ¬ (false = true) by decide)] at H
    obtain rfl := Option.some.inj H
    go_enter Try.func11, Try.ntmps11
    go_wp2_with (first | ((with_reducible refine gate_callee (f := 9) rfl ?_); refine goesL_ (some 10) rfl rfl Try.func9 (by kernel_rfl) rfl #[.int .i64 10, .int .i64 2] rfl (by (try simp only [List.map_toArray, List.map_cons, List.map_nil]); first | done | rfl | (simp only [List.length_drop, List.length_take]; rfl)) ?_; (with_reducible refine (weave_ShapeOf.calls k 10 2 t415 t416 t417 t418 false _ A1.out).mono ?_); rintro e w56 ⟨rfl, hb⟩; refine ⟨_, rfl, ?_⟩; have n0_ := Aside0.mk (xP (by repeat (first | (with_reducible first | exact HB.out | apply xA | apply xN | apply xO) | exact HB.out)) hb); clear HB; have HB := n0_; clear n0_; (try clear hb); (try clear hi)) | ((with_reducible refine gate_dst (N := 1) rfl ?_); refine box_event ?hg (N := 1) ?hd (cs := #[.int .i64 0, .int .i64 0, .int .i64 0, .int .i64 0]) (t := 23) ?hr ?_; (case hd => rfl); (case hg => rfl); (case hr => first | (go_simp; done) | (go_simp; rfl)); intro gb420 hg w57 hbox hb; have n0_ := Aside0.mk (xP (by repeat (first | (with_reducible first | exact HB.out | apply xA | apply xN | apply xO) | exact HB.out)) hb); have n1_ := Aside0.mk (hbox); have n2_ := Aside0.mk ((by rw [hg]; exact (xZ (by repeat (first | (with_reducible first | exact HB.out | apply xA | apply xN | apply xO) | exact HB.out))) : w.heap.size ≤ gb420)); have n3_ := Aside0.mk ((by rw [hg]; exact (xZ (by repeat (first | (with_reducible first | exact HB.out | apply xA | apply xN | apply xO) | exact HB.out))) : w.heap.size ≤ gb420)); clear HB; have HB := n0_; have BK420 := n1_; have GW420 := n2_; have GE420 := n3_; clear n0_ n1_ n2_ n3_; clear hb hbox hg; have hcz58_0 : w57.cell? ⟨gb420, 0, none⟩ = some (.int .i64 0) := (blk_cell BK420.out 0).trans rfl; have hcz58_1 : w57.cell? ⟨gb420, 1, none⟩ = some (.int .i64 0) := (blk_cell BK420.out 1).trans rfl; have hcz58_2 : w57.cell? ⟨gb420, 2, none⟩ = some (.int .i64 0) := (blk_cell BK420.out 2).trans rfl; have hcz58_3 : w57.cell? ⟨gb420, 3, none⟩ = some (.int .i64 0) := (blk_cell BK420.out 3).trans rfl; have hfz58_0 := blk_frozen BK420.out 0; have hfz58_1 := blk_frozen BK420.out 1; have hfz58_2 := blk_frozen BK420.out 2; have hfz58_3 := blk_frozen BK420.out 3) | ((with_reducible refine gate_callee (f := 16) rfl ?_); refine goesL_ (some 15) rfl rfl Try.func16 (by kernel_rfl) rfl #[.string (⟨#[48, 49, 50, 51, 52, 53, 54, 55, 56, 57]⟩ : ByteArray), .agg #[.int .i64 t415, .int .i64 t416, .int .i64 t417, .int .i64 t418], .int .i64 5] rfl (by (try simp only [List.map_toArray, List.map_cons, List.map_nil]); first | done | rfl | (simp only [List.length_drop, List.length_take]; rfl)) ?_; (with_reducible refine (weave_Encode.calls k (⟨#[48, 49, 50, 51, 52, 53, 54, 55, 56, 57]⟩ : ByteArray) t415 t416 t417 t418 5 t421 t422 _ A2.out).mono ?_); rintro e w59 ⟨rfl, hb⟩; refine ⟨_, rfl, ?_⟩; have n0_ := Aside0.mk (blk_below (g := gb420) (o := .cells #[.int .i64 t415, .int .i64 t416, .int .i64 t417, .int .i64 t418] 23 (0, 0)) (by (with_reducible repeat (first | refine xB ?_ _ | refine xC ?_ | refine xD ?_ _)); refine blk_put (cs := #[.int .i64 t415, .int .i64 t416, .int .i64 t417, .int .i64 0]) ?_ 3 _ rfl; (with_reducible repeat (first | refine xB ?_ _ | refine xC ?_ | refine xD ?_ _)); refine blk_put (cs := #[.int .i64 t415, .int .i64 t416, .int .i64 0, .int .i64 0]) ?_ 2 _ rfl; (with_reducible repeat (first | refine xB ?_ _ | refine xC ?_ | refine xD ?_ _)); refine blk_put (cs := #[.int .i64 t415, .int .i64 0, .int .i64 0, .int .i64 0]) ?_ 1 _ rfl; (with_reducible repeat (first | refine xB ?_ _ | refine xC ?_ | refine xD ?_ _)); refine blk_put (cs := #[.int .i64 0, .int .i64 0, .int .i64 0, .int .i64 0]) ?_ 0 _ rfl; (with_reducible repeat (first | refine xB ?_ _ | refine xC ?_ | refine xD ?_ _)); exact BK420.out) hb); have n1_ := Aside0.mk (xP (by repeat (first | (with_reducible first | exact HB.out | apply xA | apply xN | apply xO | refine below_set ?_ GE420.out) | exact HB.out)) hb); clear BK420; clear HB; have BK420 := n0_; have HB := n1_; clear n0_ n1_; (try clear hb)))
    go_ret
    exact ⟨by first | rfl | (simp [errW_none, errW_some] <;> rfl) | (simp [*, errW_none, errW_some] <;> rfl), by repeat (first | (with_reducible first | exact HB.out | apply xA | apply xN | apply xO | refine below_set ?_ GE420.out) | exact HB.out)⟩
  subst c3
  rw [if_pos rfl] at H
  by_cases c4 : t422 = 0
  rotate_left
  · rw [if_neg c4] at H
    have c4b0 : (t422 == 0) = false := beq_eq_false_iff_ne.mpr c4
    have c4b1 : (t422 != 0) = true := bne_iff_ne.mpr c4
    obtain rfl := Option.some.inj H
    go_enter Try.func11, Try.ntmps11
    go_wp2_with (first | ((with_reducible refine gate_callee (f := 9) rfl ?_); refine goesL_ (some 10) rfl rfl Try.func9 (by kernel_rfl) rfl #[.int .i64 10, .int .i64 2] rfl (by (try simp only [List.map_toArray, List.map_cons, List.map_nil]); first | done | rfl | (simp only [List.length_drop, List.length_take]; rfl)) ?_; (with_reducible refine (weave_ShapeOf.calls k 10 2 t415 t416 t417 t418 true _ A1.out).mono ?_); rintro e w52 ⟨rfl, hb⟩; refine ⟨_, rfl, ?_⟩; have n0_ := Aside0.mk (xP (by repeat (first | (with_reducible first | exact HB.out | apply xA | apply xN | apply xO) | exact HB.out)) hb); clear HB; have HB := n0_; clear n0_; (try clear hb); (try clear hi)) | ((with_reducible refine gate_dst (N := 1) rfl ?_); refine box_event ?hg (N := 1) ?hd (cs := #[.int .i64 0, .int .i64 0, .int .i64 0, .int .i64 0]) (t := 23) ?hr ?_; (case hd => rfl); (case hg => rfl); (case hr => first | (go_simp; done) | (go_simp; rfl)); intro gb420 hg w53 hbox hb; have n0_ := Aside0.mk (xP (by repeat (first | (with_reducible first | exact HB.out | apply xA | apply xN | apply xO) | exact HB.out)) hb); have n1_ := Aside0.mk (hbox); have n2_ := Aside0.mk ((by rw [hg]; exact (xZ (by repeat (first | (with_reducible first | exact HB.out | apply xA | apply xN | apply xO) | exact HB.out))) : w.heap.size ≤ gb420)); have n3_ := Aside0.mk ((by rw [hg]; exact (xZ (by repeat (first | (with_reducible first | exact HB.out | apply xA | apply xN | apply xO) | exact HB.out))) : w.heap.size ≤ gb420)); clear HB; have HB := n0_; have BK420 := n1_; have GW420 := n2_; have GE420 := n3_; clear n0_ n1_ n2_ n3_; clear hb hbox hg; have hcz54_0 : w53.cell? ⟨gb420, 0, none⟩ = some (.int .i64 0) := (blk_cell BK420.out 0).trans rfl; have hcz54_1 : w53.cell? ⟨gb420, 1, none⟩ = some (.int .i64 0) := (blk_cell BK420.out 1).trans rfl; have hcz54_2 : w53.cell? ⟨gb420, 2, none⟩ = some (.int .i64 0) := (blk_cell BK420.out 2).trans rfl; have hcz54_3 : w53.cell? ⟨gb420, 3, none⟩ = some (.int .i64 0) := (blk_cell BK420.out 3).trans rfl; have hfz54_0 := blk_frozen BK420.out 0; have hfz54_1 := blk_frozen BK420.out 1; have hfz54_2 := blk_frozen BK420.out 2; have hfz54_3 := blk_frozen BK420.out 3) | ((with_reducible refine gate_callee (f := 16) rfl ?_); refine goesL_ (some 15) rfl rfl Try.func16 (by kernel_rfl) rfl #[.string (⟨#[48, 49, 50, 51, 52, 53, 54, 55, 56, 57]⟩ : ByteArray), .agg #[.int .i64 t415, .int .i64 t416, .int .i64 t417, .int .i64 t418], .int .i64 5] rfl (by (try simp only [List.map_toArray, List.map_cons, List.map_nil]); first | done | rfl | (simp only [List.length_drop, List.length_take]; rfl)) ?_; (with_reducible refine (weave_Encode.calls k (⟨#[48, 49, 50, 51, 52, 53, 54, 55, 56, 57]⟩ : ByteArray) t415 t416 t417 t418 5 t421 t422 _ A2.out).mono ?_); rintro e w55 ⟨rfl, hb⟩; refine ⟨_, rfl, ?_⟩; have n0_ := Aside0.mk (blk_below (g := gb420) (o := .cells #[.int .i64 t415, .int .i64 t416, .int .i64 t417, .int .i64 t418] 23 (0, 0)) (by (with_reducible repeat (first | refine xB ?_ _ | refine xC ?_ | refine xD ?_ _)); refine blk_put (cs := #[.int .i64 t415, .int .i64 t416, .int .i64 t417, .int .i64 0]) ?_ 3 _ rfl; (with_reducible repeat (first | refine xB ?_ _ | refine xC ?_ | refine xD ?_ _)); refine blk_put (cs := #[.int .i64 t415, .int .i64 t416, .int .i64 0, .int .i64 0]) ?_ 2 _ rfl; (with_reducible repeat (first | refine xB ?_ _ | refine xC ?_ | refine xD ?_ _)); refine blk_put (cs := #[.int .i64 t415, .int .i64 0, .int .i64 0, .int .i64 0]) ?_ 1 _ rfl; (with_reducible repeat (first | refine xB ?_ _ | refine xC ?_ | refine xD ?_ _)); refine blk_put (cs := #[.int .i64 0, .int .i64 0, .int .i64 0, .int .i64 0]) ?_ 0 _ rfl; (with_reducible repeat (first | refine xB ?_ _ | refine xC ?_ | refine xD ?_ _)); exact BK420.out) hb); have n1_ := Aside0.mk (xP (by repeat (first | (with_reducible first | exact HB.out | apply xA | apply xN | apply xO | refine below_set ?_ GE420.out) | exact HB.out)) hb); clear BK420; clear HB; have BK420 := n0_; have HB := n1_; clear n0_ n1_; (try clear hb)))
    go_ret
    exact ⟨by first | rfl | (simp [errW_none, errW_some] <;> rfl) | (simp [*, errW_none, errW_some] <;> rfl), by repeat (first | (with_reducible first | exact HB.out | apply xA | apply xN | apply xO | refine below_set ?_ GE420.out) | exact HB.out)⟩
  rw [if_pos c4] at H
  have c4b0 : (t422 == 0) = true := beq_iff_eq.mpr c4
  have c4b1 : (t422 != 0) = false := bne_eq_false_iff_eq.mpr c4
  clear c4
  by_cases c5 : (t421.size : Int) = 12
  rotate_left
  · rw [if_neg c5] at H
    have c5b0 : ((t421.size : Int) == 12) = false := beq_eq_false_iff_ne.mpr c5
    have c5b1 : ((t421.size : Int) != 12) = true := bne_iff_ne.mpr c5
    obtain rfl := Option.some.inj H
    go_enter Try.func11, Try.ntmps11
    go_wp2_with (first | ((with_reducible refine gate_callee (f := 9) rfl ?_); refine goesL_ (some 10) rfl rfl Try.func9 (by kernel_rfl) rfl #[.int .i64 10, .int .i64 2] rfl (by (try simp only [List.map_toArray, List.map_cons, List.map_nil]); first | done | rfl | (simp only [List.length_drop, List.length_take]; rfl)) ?_; (with_reducible refine (weave_ShapeOf.calls k 10 2 t415 t416 t417 t418 true _ A1.out).mono ?_); rintro e w48 ⟨rfl, hb⟩; refine ⟨_, rfl, ?_⟩; have n0_ := Aside0.mk (xP (by repeat (first | (with_reducible first | exact HB.out | apply xA | apply xN | apply xO) | exact HB.out)) hb); clear HB; have HB := n0_; clear n0_; (try clear hb); (try clear hi)) | ((with_reducible refine gate_dst (N := 1) rfl ?_); refine box_event ?hg (N := 1) ?hd (cs := #[.int .i64 0, .int .i64 0, .int .i64 0, .int .i64 0]) (t := 23) ?hr ?_; (case hd => rfl); (case hg => rfl); (case hr => first | (go_simp; done) | (go_simp; rfl)); intro gb420 hg w49 hbox hb; have n0_ := Aside0.mk (xP (by repeat (first | (with_reducible first | exact HB.out | apply xA | apply xN | apply xO) | exact HB.out)) hb); have n1_ := Aside0.mk (hbox); have n2_ := Aside0.mk ((by rw [hg]; exact (xZ (by repeat (first | (with_reducible first | exact HB.out | apply xA | apply xN | apply xO) | exact HB.out))) : w.heap.size ≤ gb420)); have n3_ := Aside0.mk ((by rw [hg]; exact (xZ (by repeat (first | (with_reducible first | exact HB.out | apply xA | apply xN | apply xO) | exact HB.out))) : w.heap.size ≤ gb420)); clear HB; have HB := n0_; have BK420 := n1_; have GW420 := n2_; have GE420 := n3_; clear n0_ n1_ n2_ n3_; clear hb hbox hg; have hcz50_0 : w49.cell? ⟨gb420, 0, none⟩ = some (.int .i64 0) := (blk_cell BK420.out 0).trans rfl; have hcz50_1 : w49.cell? ⟨gb420, 1, none⟩ = some (.int .i64 0) := (blk_cell BK420.out 1).trans rfl; have hcz50_2 : w49.cell? ⟨gb420, 2, none⟩ = some (.int .i64 0) := (blk_cell BK420.out 2).trans rfl; have hcz50_3 : w49.cell? ⟨gb420, 3, none⟩ = some (.int .i64 0) := (blk_cell BK420.out 3).trans rfl; have hfz50_0 := blk_frozen BK420.out 0; have hfz50_1 := blk_frozen BK420.out 1; have hfz50_2 := blk_frozen BK420.out 2; have hfz50_3 := blk_frozen BK420.out 3) | ((with_reducible refine gate_callee (f := 16) rfl ?_); refine goesL_ (some 15) rfl rfl Try.func16 (by kernel_rfl) rfl #[.string (⟨#[48, 49, 50, 51, 52, 53, 54, 55, 56, 57]⟩ : ByteArray), .agg #[.int .i64 t415, .int .i64 t416, .int .i64 t417, .int .i64 t418], .int .i64 5] rfl (by (try simp only [List.map_toArray, List.map_cons, List.map_nil]); first | done | rfl | (simp only [List.length_drop, List.length_take]; rfl)) ?_; (with_reducible refine (weave_Encode.calls k (⟨#[48, 49, 50, 51, 52, 53, 54, 55, 56, 57]⟩ : ByteArray) t415 t416 t417 t418 5 t421 t422 _ A2.out).mono ?_); rintro e w51 ⟨rfl, hb⟩; refine ⟨_, rfl, ?_⟩; have n0_ := Aside0.mk (blk_below (g := gb420) (o := .cells #[.int .i64 t415, .int .i64 t416, .int .i64 t417, .int .i64 t418] 23 (0, 0)) (by (with_reducible repeat (first | refine xB ?_ _ | refine xC ?_ | refine xD ?_ _)); refine blk_put (cs := #[.int .i64 t415, .int .i64 t416, .int .i64 t417, .int .i64 0]) ?_ 3 _ rfl; (with_reducible repeat (first | refine xB ?_ _ | refine xC ?_ | refine xD ?_ _)); refine blk_put (cs := #[.int .i64 t415, .int .i64 t416, .int .i64 0, .int .i64 0]) ?_ 2 _ rfl; (with_reducible repeat (first | refine xB ?_ _ | refine xC ?_ | refine xD ?_ _)); refine blk_put (cs := #[.int .i64 t415, .int .i64 0, .int .i64 0, .int .i64 0]) ?_ 1 _ rfl; (with_reducible repeat (first | refine xB ?_ _ | refine xC ?_ | refine xD ?_ _)); refine blk_put (cs := #[.int .i64 0, .int .i64 0, .int .i64 0, .int .i64 0]) ?_ 0 _ rfl; (with_reducible repeat (first | refine xB ?_ _ | refine xC ?_ | refine xD ?_ _)); exact BK420.out) hb); have n1_ := Aside0.mk (xP (by repeat (first | (with_reducible first | exact HB.out | apply xA | apply xN | apply xO | refine below_set ?_ GE420.out) | exact HB.out)) hb); clear BK420; clear HB; have BK420 := n0_; have HB := n1_; clear n0_ n1_; (try clear hb)))
    go_ret
    exact ⟨by first | rfl | (simp [errW_none, errW_some] <;> rfl) | (simp [*, errW_none, errW_some] <;> rfl), by repeat (first | (with_reducible first | exact HB.out | apply xA | apply xN | apply xO | refine below_set ?_ GE420.out) | exact HB.out)⟩
  rw [if_pos c5] at H
  have c5b0 : ((t421.size : Int) == 12) = true := beq_iff_eq.mpr c5
  have c5b1 : ((t421.size : Int) != 12) = false := bne_eq_false_iff_eq.mpr c5
  clear c5
  by_cases c6 : t421.size ≤ 9223372036854775807
  rotate_left
  · rw [if_neg c6] at H
    exact absurd H (by simp)
  rw [if_pos c6] at H
  have c6b0 := eq_true c6
  have c6b1 : decide (t421.size ≤ 9223372036854775807) = true := decide_eq_true c6
  try have c6b2 : (9223372036854775807 < t421.size) = False := eq_false (Nat.not_lt.2 c6)
  clear c6
  obtain ⟨y423, hy423⟩ : ∃ y_ : List Int, y_ = (bytesOf t421) := ⟨_, rfl⟩
  replace H : (if 3 < (y423.length : Int) then ((weave_Decode.f k (strOfNums (y423.set (3 : Int).toNat (Go.bits .xor .u8 (rd y423 3) 9))) t415 t416 t417 t418 5 ([] : List Int)).bind fun bt428 => (if bt428.2.2 = 0 then (if bt428.1.toList = ([48, 49, 50, 51, 52, 53, 54, 55, 56, 57] : List UInt8) then (some (bt428.2.1 == 1)) else (some false)) else (some false))) else (none)) = some r := by first | (have H2_ := (Option.bind_some _ _).symm.trans H; rw [hy423]; with_reducible exact H2_) | (rw [hy423]; exact H) | exact H
  have Ny423 := Aside0.mk hy423
  clear hy423
  by_cases c7 : 3 < (y423.length : Int)
  rotate_left
  · rw [if_neg c7] at H
    exact absurd H (by simp)
  rw [if_pos c7] at H
  have c7b0 : decide (3 < (y423.length : Int)) = true := decide_eq_true c7
  have c7b1 : decide (3 < y423.length) = true := decide_eq_true (by omega)
  clear c7
  obtain ⟨y427, hy427⟩ : ∃ y_ : List Int, y_ = (y423.set (3 : Int).toNat (Go.bits .xor .u8 (rd y423 3) 9)) := ⟨_, rfl⟩
  replace H : ((weave_Decode.f k (strOfNums y427) t415 t416 t417 t418 5 ([] : List Int)).bind fun bt428 => (if bt428.2.2 = 0 then (if bt428.1.toList = ([48, 49, 50, 51, 52, 53, 54, 55, 56, 57] : List UInt8) then (some (bt428.2.1 == 1)) else (some false)) else (some false))) = some r := by first | (have H2_ := (Option.bind_some _ _).symm.trans H; rw [hy427]; with_reducible exact H2_) | (rw [hy427]; exact H) | exact H
  have Ny427 := Aside0.mk hy427
  clear hy427
  replace H := Option.bind_eq_some_iff.mp H
  obtain ⟨⟨t428, t429, t430⟩, A90, H⟩ := H
  replace H : (if t430 = 0 then (if t428.toList = ([48, 49, 50, 51, 52, 53, 54, 55, 56, 57] : List UInt8) then (some (t429 == 1)) else (some false)) else (some false)) = some r := H
  have A9 := Aside0.mk A90
  clear A90
  by_cases c10 : t430 = 0
  rotate_left
  · rw [if_neg c10] at H
    have c10b0 : (t430 == 0) = false := beq_eq_false_iff_ne.mpr c10
    have c10b1 : (t430 != 0) = true := bne_iff_ne.mpr c10
    obtain rfl := Option.some.inj H
    go_enter Try.func11, Try.ntmps11
    go_wp2_with (first | ((with_reducible refine gate_callee (f := 9) rfl ?_); refine goesL_ (some 10) rfl rfl Try.func9 (by kernel_rfl) rfl #[.int .i64 10, .int .i64 2] rfl (by (try simp only [List.map_toArray, List.map_cons, List.map_nil]); first | done | rfl | (simp only [List.length_drop, List.length_take]; rfl)) ?_; (with_reducible refine (weave_ShapeOf.calls k 10 2 t415 t416 t417 t418 true _ A1.out).mono ?_); rintro e w36 ⟨rfl, hb⟩; refine ⟨_, rfl, ?_⟩; have n0_ := Aside0.mk (xP (by repeat (first | (with_reducible first | exact HB.out | apply xA | apply xN | apply xO) | exact HB.out)) hb); clear HB; have HB := n0_; clear n0_; (try clear hb); (try clear hi)) | ((with_reducible refine gate_dst (N := 1) rfl ?_); refine box_event ?hg (N := 1) ?hd (cs := #[.int .i64 0, .int .i64 0, .int .i64 0, .int .i64 0]) (t := 23) ?hr ?_; (case hd => rfl); (case hg => rfl); (case hr => first | (go_simp; done) | (go_simp; rfl)); intro gb420 hg w37 hbox hb; have n0_ := Aside0.mk (xP (by repeat (first | (with_reducible first | exact HB.out | apply xA | apply xN | apply xO) | exact HB.out)) hb); have n1_ := Aside0.mk (hbox); have n2_ := Aside0.mk ((by rw [hg]; exact (xZ (by repeat (first | (with_reducible first | exact HB.out | apply xA | apply xN | apply xO) | exact HB.out))) : w.heap.size ≤ gb420)); have n3_ := Aside0.mk ((by rw [hg]; exact (xZ (by repeat (first | (with_reducible first | exact HB.out | apply xA | apply xN | apply xO) | exact HB.out))) : w.heap.size ≤ gb420)); clear HB; have HB := n0_; have BK420 := n1_; have GW420 := n2_; have GE420 := n3_; clear n0_ n1_ n2_ n3_; clear hb hbox hg; have hcz38_0 : w37.cell? ⟨gb420, 0, none⟩ = some (.int .i64 0) := (blk_cell BK420.out 0).trans rfl; have hcz38_1 : w37.cell? ⟨gb420, 1, none⟩ = some (.int .i64 0) := (blk_cell BK420.out 1).trans rfl; have hcz38_2 : w37.cell? ⟨gb420, 2, none⟩ = some (.int .i64 0) := (blk_cell BK420.out 2).trans rfl; have hcz38_3 : w37.cell? ⟨gb420, 3, none⟩ = some (.int .i64 0) := (blk_cell BK420.out 3).trans rfl; have hfz38_0 := blk_frozen BK420.out 0; have hfz38_1 := blk_frozen BK420.out 1; have hfz38_2 := blk_frozen BK420.out 2; have hfz38_3 := blk_frozen BK420.out 3) | ((with_reducible refine gate_callee (f := 16) rfl ?_); refine goesL_ (some 15) rfl rfl Try.func16 (by kernel_rfl) rfl #[.string (⟨#[48, 49, 50, 51, 52, 53, 54, 55, 56, 57]⟩ : ByteArray), .agg #[.int .i64 t415, .int .i64 t416, .int .i64 t417, .int .i64 t418], .int .i64 5] rfl (by (try simp only [List.map_toArray, List.map_cons, List.map_nil]); first | done | rfl | (simp only [List.length_drop, List.length_take]; rfl)) ?_; (with_reducible refine (weave_Encode.calls k (⟨#[48, 49, 50, 51, 52, 53, 54, 55, 56, 57]⟩ : ByteArray) t415 t416 t417 t418 5 t421 t422 _ A2.out).mono ?_); rintro e w39 ⟨rfl, hb⟩; refine ⟨_, rfl, ?_⟩; have n0_ := Aside0.mk (blk_below (g := gb420) (o := .cells #[.int .i64 t415, .int .i64 t416, .int .i64 t417, .int .i64 t418] 23 (0, 0)) (by (with_reducible repeat (first | refine xB ?_ _ | refine xC ?_ | refine xD ?_ _)); refine blk_put (cs := #[.int .i64 t415, .int .i64 t416, .int .i64 t417, .int .i64 0]) ?_ 3 _ rfl; (with_reducible repeat (first | refine xB ?_ _ | refine xC ?_ | refine xD ?_ _)); refine blk_put (cs := #[.int .i64 t415, .int .i64 t416, .int .i64 0, .int .i64 0]) ?_ 2 _ rfl; (with_reducible repeat (first | refine xB ?_ _ | refine xC ?_ | refine xD ?_ _)); refine blk_put (cs := #[.int .i64 t415, .int .i64 0, .int .i64 0, .int .i64 0]) ?_ 1 _ rfl; (with_reducible repeat (first | refine xB ?_ _ | refine xC ?_ | refine xD ?_ _)); refine blk_put (cs := #[.int .i64 0, .int .i64 0, .int .i64 0, .int .i64 0]) ?_ 0 _ rfl; (with_reducible repeat (first | refine xB ?_ _ | refine xC ?_ | refine xD ?_ _)); exact BK420.out) hb); have n1_ := Aside0.mk (xP (by repeat (first | (with_reducible first | exact HB.out | apply xA | apply xN | apply xO | refine below_set ?_ GE420.out) | exact HB.out)) hb); clear BK420; clear HB; have BK420 := n0_; have HB := n1_; clear n0_ n1_; (try clear hb); (try clear hi)) | ((with_reducible refine gate_dst (N := 30) rfl ?_); refine Kd.Q_bytes 5 rfl (N := 30) rfl 9 40 _ rfl t421 rfl Try.underlying9 Try.underlying40 Try.underlying5 (ok := fun _ => True) trivial (of_decide_eq_true (by first | (with_reducible assumption) | assumption)) (Below.refl _ _) (Nat.le_refl _) ?_; intro v424 w40 ho41 hb hg_ hnew_; clear hg_ hnew_; (first | rw [← Ny423.out] at ho41 | (simp only [Int.reduceToNat] at ho41; rw [← Ny423.out] at ho41)); have n0_ := Aside0.mk (Kd.Q_lower ho41 (xZ (by repeat (first | (with_reducible first | exact HB.out | apply xA | apply xN | apply xO | refine below_set ?_ GE420.out) | exact HB.out)))); have n1_ := Aside0.mk (blk_below (g := gb420) (o := .cells #[.int .i64 t415, .int .i64 t416, .int .i64 t417, .int .i64 t418] 23 (0, 0)) (by (with_reducible repeat (first | refine xB ?_ _ | refine xC ?_ | refine xD ?_ _)); exact BK420.out) hb); have n2_ := Aside0.mk (xP (by repeat (first | (with_reducible first | exact HB.out | apply xA | apply xN | apply xO | refine below_set ?_ GE420.out) | exact HB.out)) hb); clear BK420; clear HB; have HO425 := n0_; have BK420 := n1_; have HB := n2_; clear n0_ n1_ n2_; clear hb ho41; obtain ⟨Ao42, co42, eo42, _⟩ := Kd.Q_slice HO425.out; subst eo42; have p426 : 0 ≤ (3 : Int) := (by omega); have q426 : 3 < (y423.length : Int) := of_decide_eq_true (by first | (with_reducible assumption) | assumption); obtain ⟨ad426, e426, hx426_0⟩ := Kd.at_int (Kd.Q_reads' HO425.out).2.2 3 p426 q426; cases e426; (try simp only [show (3 : Int).toNat = 3 from rfl, Nat.reduceMul, Nat.reduceEqDiff, Go.Addr.add, ↓reduceIte] at hx426_0); have qi426 : (3 < y423.length) = True := eq_true (by omega); (try rw [show ((3 : Int)).toNat = 3 from rfl] at hx426_0); replace p426 := eq_true p426; replace q426 := eq_true q426; have p8 : 0 ≤ (3 : Int) := (by omega); have q8 : (3 : Int) < ((y423.length : Int) : Int) := of_decide_eq_true (by first | (with_reducible assumption) | assumption); have qi8 : (3 < y423.length) = True := eq_true (by omega); obtain ⟨go8, oo8, co8, eo8, gb8, gl8, cl8, HG8⟩ := Kd.Q_form HO425.out (by omega); (first | cases eo8 | (injection eo8 with ea_ en_ ec_; (first | subst ea_ | (injection ea_ with ea_; subst ea_)); subst ec_; clear en_)); have GB8 := Aside0.mk gb8; have GG8 := Aside0.mk HG8; clear gb8 gl8 HG8; (first | simp only [add_at] at hx426_0 | skip); obtain ⟨hx8_0, hf8_0⟩ := Kd.Q_cell 0 HO425.out (3 : Int) p8 q8; (try rw [show ((3 : Int)).toNat = 3 from rfl] at hx8_0); (try simp only [Nat.reduceMul, Nat.zero_mul, Nat.zero_add, Nat.reduceAdd] at hx8_0); (try rw [show ((3 : Int)).toNat = 3 from rfl] at hf8_0); (try simp only [Nat.reduceMul, Nat.zero_mul, Nat.zero_add, Nat.reduceAdd] at hf8_0); replace p8 := eq_true p8; replace q8 := eq_true q8; obtain ⟨hy43_, hz43_⟩ := Kd.Q_cell 0 HO425.out (3 : Int) (by omega) (of_decide_eq_true (by first | (with_reducible assumption) | assumption)); (try simp only [Int.reduceToNat, Int.toNat_zero, Int.toNat_ofNat, Nat.reduceMul, Nat.zero_mul, Nat.zero_add] at hy43_ hz43_); (try rw [show ((3 : Int)).toNat = 3 from rfl] at hy43_); (try rw [show ((3 : Int)).toNat = 3 from rfl] at hz43_); have HP43 := Kd.Q_putg HO425.out (3 : Int) (by omega) (by have h_ : (3 : Int) < ((y423.length : Int) : Int) := of_decide_eq_true (by first | (with_reducible assumption) | assumption); first | exact h_ | (have e_ := (Kd.Q_reads' HO425.out).1; omega) | simpa using h_) (Go.bits .xor .u8 (rd y423 3) 9)) | ((with_reducible refine gate_store (t := 5) (p := 35) rfl ?_); refine store_event (t := 5) (p := 35) (v := ?vo_w44) (w1 := (w40.setCell ⟨go8, oo8 + (3 : Int).toNat, none⟩ (.int .u8 (Go.bits .xor .u8 (rd y423 3) 9)))) ?hg ?ho ?hn ?hr ?_; (case ho => rfl); (case hg => rfl); (case hn => rfl); (case hr => first | (go_simp; done) | (go_simp; rfl)); intro w44 hw; have hg : w40.grownBy w44 (some go8) := (by rw [hw]; exact HP43.2); have hp_ : Kd.Q (Kd.int .u8) 5 w44 w.heap.size (fun _ => True) (.slice (some ⟨go8, oo8, none⟩) y423.length co42) y427 := (by rw [hw, Ny427.out]; exact HP43.1); clear HP43; have n0_ := Aside0.mk (blk_grown (g := gb420) (o := .cells #[.int .i64 t415, .int .i64 t416, .int .i64 t417, .int .i64 t418] 23 (0, 0)) (by (with_reducible repeat (first | refine xB ?_ _ | refine xC ?_ | refine xD ?_ _)); exact BK420.out) hg (Kd.Q_ne HO425.out BK420.out (by decide))); have n1_ := Aside0.mk (hp_); have n2_ := Aside0.mk ((by rw [hw]; exact below_set (HB.out) GB8.out : Below w.heap.size w w44)); clear BK420; clear HO425; clear HB; have BK420 := n0_; have HO425 := n1_; have HB := n2_; clear n0_ n1_ n2_; clear hg hw hp_; have hcv45 := Kd.Q_string (P := Try.prog) Try.underlying40 Try.underlying5 Try.underlying9 HO425.out; have hcz46_0 : w44.cell? ⟨gb420, 0, none⟩ = some (.int .i64 t415) := (blk_cell BK420.out 0).trans rfl; have hcz46_1 : w44.cell? ⟨gb420, 1, none⟩ = some (.int .i64 t416) := (blk_cell BK420.out 1).trans rfl; have hcz46_2 : w44.cell? ⟨gb420, 2, none⟩ = some (.int .i64 t417) := (blk_cell BK420.out 2).trans rfl; have hcz46_3 : w44.cell? ⟨gb420, 3, none⟩ = some (.int .i64 t418) := (blk_cell BK420.out 3).trans rfl; have hfz46_0 := blk_frozen BK420.out 0; have hfz46_1 := blk_frozen BK420.out 1; have hfz46_2 := blk_frozen BK420.out 2; have hfz46_3 := blk_frozen BK420.out 3) | ((with_reducible refine gate_callee (f := 17) rfl ?_); refine goesL_ (some 40) rfl rfl Try.func17 (by kernel_rfl) rfl #[.string (strOfNums y427), .agg #[.int .i64 t415, .int .i64 t416, .int .i64 t417, .int .i64 t418], .int .i64 5, .slice none 0 0] rfl (by (try simp only [List.map_toArray, List.map_cons, List.map_nil]); first | done | rfl | (simp only [List.length_drop, List.length_take]; rfl)) ?_; (refine (weave_Decode.calls k (strOfNums y427) t415 t416 t417 t418 5 _ _ ([] : List Int) t428 t429 t430 _ ?side1 ?side2 A9.out).mono ?_); (case side1 => exact Kd.C_nil _ _); (case side2 => exact Nat.le_refl _); rintro e w47 ⟨rfl, hb⟩; refine ⟨_, rfl, ?_⟩; have n0_ := Aside0.mk (Kd.Q_below (by (with_reducible repeat (first | apply Kd.Q_alloc | apply Kd.Q_drewN | apply Kd.Q_drew)); exact HO425.out) hb); have n1_ := Aside0.mk (blk_below (g := gb420) (o := .cells #[.int .i64 t415, .int .i64 t416, .int .i64 t417, .int .i64 t418] 23 (0, 0)) (by (with_reducible repeat (first | refine xB ?_ _ | refine xC ?_ | refine xD ?_ _)); exact BK420.out) hb); have n2_ := Aside0.mk (xP (by repeat (first | (with_reducible first | exact HB.out | apply xA | apply xN | apply xO | refine below_set ?_ GE420.out) | exact HB.out)) hb); clear HO425; clear BK420; clear HB; have HO425 := n0_; have BK420 := n1_; have HB := n2_; clear n0_ n1_ n2_; (try clear hb)))
    go_ret
    exact ⟨by first | rfl | (simp [errW_none, errW_some] <;> rfl) | (simp [*, errW_none, errW_some] <;> rfl), by repeat (first | (with_reducible first | exact HB.out | apply xA | apply xN | apply xO | refine below_set ?_ GE420.out) | exact HB.out)⟩
  rw [if_pos c10] at H
  have c10b0 : (t430 == 0) = true := beq_iff_eq.mpr c10
  have c10b1 : (t430 != 0) = false := bne_eq_false_iff_eq.mpr c10
  clear c10
  by_cases c11 : t428.toList = ([48, 49, 50, 51, 52, 53, 54, 55, 56, 57] : List UInt8)
  · rw [if_pos c11] at H
    have c11b0 : (t428.toList == ([48, 49, 50, 51, 52, 53, 54, 55, 56, 57] : List UInt8)) = true := beq_iff_eq.mpr c11
    have c11b1 : (t428.toList != ([48, 49, 50, 51, 52, 53, 54, 55, 56, 57] : List UInt8)) = false := bne_eq_false_iff_eq.mpr c11
    clear c11
    obtain rfl := Option.some.inj H
    go_enter Try.func11, Try.ntmps11
    go_wp2_with (first | ((with_reducible refine gate_callee (f := 9) rfl ?_); refine goesL_ (some 10) rfl rfl Try.func9 (by kernel_rfl) rfl #[.int .i64 10, .int .i64 2] rfl (by (try simp only [List.map_toArray, List.map_cons, List.map_nil]); first | done | rfl | (simp only [List.length_drop, List.length_take]; rfl)) ?_; (with_reducible refine (weave_ShapeOf.calls k 10 2 t415 t416 t417 t418 true _ A1.out).mono ?_); rintro e w12 ⟨rfl, hb⟩; refine ⟨_, rfl, ?_⟩; have n0_ := Aside0.mk (xP (by repeat (first | (with_reducible first | exact HB.out | apply xA | apply xN | apply xO) | exact HB.out)) hb); clear HB; have HB := n0_; clear n0_; (try clear hb); (try clear hi)) | ((with_reducible refine gate_dst (N := 1) rfl ?_); refine box_event ?hg (N := 1) ?hd (cs := #[.int .i64 0, .int .i64 0, .int .i64 0, .int .i64 0]) (t := 23) ?hr ?_; (case hd => rfl); (case hg => rfl); (case hr => first | (go_simp; done) | (go_simp; rfl)); intro gb420 hg w13 hbox hb; have n0_ := Aside0.mk (xP (by repeat (first | (with_reducible first | exact HB.out | apply xA | apply xN | apply xO) | exact HB.out)) hb); have n1_ := Aside0.mk (hbox); have n2_ := Aside0.mk ((by rw [hg]; exact (xZ (by repeat (first | (with_reducible first | exact HB.out | apply xA | apply xN | apply xO) | exact HB.out))) : w.heap.size ≤ gb420)); have n3_ := Aside0.mk ((by rw [hg]; exact (xZ (by repeat (first | (with_reducible first | exact HB.out | apply xA | apply xN | apply xO) | exact HB.out))) : w.heap.size ≤ gb420)); clear HB; have HB := n0_; have BK420 := n1_; have GW420 := n2_; have GE420 := n3_; clear n0_ n1_ n2_ n3_; clear hb hbox hg; have hcz14_0 : w13.cell? ⟨gb420, 0, none⟩ = some (.int .i64 0) := (blk_cell BK420.out 0).trans rfl; have hcz14_1 : w13.cell? ⟨gb420, 1, none⟩ = some (.int .i64 0) := (blk_cell BK420.out 1).trans rfl; have hcz14_2 : w13.cell? ⟨gb420, 2, none⟩ = some (.int .i64 0) := (blk_cell BK420.out 2).trans rfl; have hcz14_3 : w13.cell? ⟨gb420, 3, none⟩ = some (.int .i64 0) := (blk_cell BK420.out 3).trans rfl; have hfz14_0 := blk_frozen BK420.out 0; have hfz14_1 := blk_frozen BK420.out 1; have hfz14_2 := blk_frozen BK420.out 2; have hfz14_3 := blk_frozen BK420.out 3) | ((with_reducible refine gate_callee (f := 16) rfl ?_); refine goesL_ (some 15) rfl rfl Try.func16 (by kernel_rfl) rfl #[.string (⟨#[48, 49, 50, 51, 52, 53, 54, 55, 56, 57]⟩ : ByteArray), .agg #[.int .i64 t415, .int .i64 t416, .int .i64 t417, .int .i64 t418], .int .i64 5] rfl (by (try simp only [List.map_toArray, List.map_cons, List.map_nil]); first | done | rfl | (simp only [List.length_drop, List.length_take]; rfl)) ?_; (with_reducible refine (weave_Encode.calls k (⟨#[48, 49, 50, 51, 52, 53, 54, 55, 56, 57]⟩ : ByteArray) t415 t416 t417 t418 5 t421 t422 _ A2.out).mono ?_); rintro e w15 ⟨rfl, hb⟩; refine ⟨_, rfl, ?_⟩; have n0_ := Aside0.mk (blk_below (g := gb420) (o := .cells #[.int .i64 t415, .int .i64 t416, .int .i64 t417, .int .i64 t418] 23 (0, 0)) (by (with_reducible repeat (first | refine xB ?_ _ | refine xC ?_ | refine xD ?_ _)); refine blk_put (cs := #[.int .i64 t415, .int .i64 t416, .int .i64 t417, .int .i64 0]) ?_ 3 _ rfl; (with_reducible repeat (first | refine xB ?_ _ | refine xC ?_ | refine xD ?_ _)); refine blk_put (cs := #[.int .i64 t415, .int .i64 t416, .int .i64 0, .int .i64 0]) ?_ 2 _ rfl; (with_reducible repeat (first | refine xB ?_ _ | refine xC ?_ | refine xD ?_ _)); refine blk_put (cs := #[.int .i64 t415, .int .i64 0, .int .i64 0, .int .i64 0]) ?_ 1 _ rfl; (with_reducible repeat (first | refine xB ?_ _ | refine xC ?_ | refine xD ?_ _)); refine blk_put (cs := #[.int .i64 0, .int .i64 0, .int .i64 0, .int .i64 0]) ?_ 0 _ rfl; (with_reducible repeat (first | refine xB ?_ _ | refine xC ?_ | refine xD ?_ _)); exact BK420.out) hb); have n1_ := Aside0.mk (xP (by repeat (first | (with_reducible first | exact HB.out | apply xA | apply xN | apply xO | refine below_set ?_ GE420.out) | exact HB.out)) hb); clear BK420; clear HB; have BK420 := n0_; have HB := n1_; clear n0_ n1_; (try clear hb); (try clear hi)) | ((with_reducible refine gate_dst (N := 30) rfl ?_); refine Kd.Q_bytes 5 rfl (N := 30) rfl 9 40 _ rfl t421 rfl Try.underlying9 Try.underlying40 Try.underlying5 (ok := fun _ => True) trivial (of_decide_eq_true (by first | (with_reducible assumption) | assumption)) (Below.refl _ _) (Nat.le_refl _) ?_; intro v424 w16 ho17 hb hg_ hnew_; clear hg_ hnew_; (first | rw [← Ny423.out] at ho17 | (simp only [Int.reduceToNat] at ho17; rw [← Ny423.out] at ho17)); have n0_ := Aside0.mk (Kd.Q_lower ho17 (xZ (by repeat (first | (with_reducible first | exact HB.out | apply xA | apply xN | apply xO | refine below_set ?_ GE420.out) | exact HB.out)))); have n1_ := Aside0.mk (blk_below (g := gb420) (o := .cells #[.int .i64 t415, .int .i64 t416, .int .i64 t417, .int .i64 t418] 23 (0, 0)) (by (with_reducible repeat (first | refine xB ?_ _ | refine xC ?_ | refine xD ?_ _)); exact BK420.out) hb); have n2_ := Aside0.mk (xP (by repeat (first | (with_reducible first | exact HB.out | apply xA | apply xN | apply xO | refine below_set ?_ GE420.out) | exact HB.out)) hb); clear BK420; clear HB; have HO425 := n0_; have BK420 := n1_; have HB := n2_; clear n0_ n1_ n2_; clear hb ho17; obtain ⟨Ao18, co18, eo18, _⟩ := Kd.Q_slice HO425.out; subst eo18; have p426 : 0 ≤ (3 : Int) := (by omega); have q426 : 3 < (y423.length : Int) := of_decide_eq_true (by first | (with_reducible assumption) | assumption); obtain ⟨ad426, e426, hx426_0⟩ := Kd.at_int (Kd.Q_reads' HO425.out).2.2 3 p426 q426; cases e426; (try simp only [show (3 : Int).toNat = 3 from rfl, Nat.reduceMul, Nat.reduceEqDiff, Go.Addr.add, ↓reduceIte] at hx426_0); have qi426 : (3 < y423.length) = True := eq_true (by omega); (try rw [show ((3 : Int)).toNat = 3 from rfl] at hx426_0); replace p426 := eq_true p426; replace q426 := eq_true q426; have p8 : 0 ≤ (3 : Int) := (by omega); have q8 : (3 : Int) < ((y423.length : Int) : Int) := of_decide_eq_true (by first | (with_reducible assumption) | assumption); have qi8 : (3 < y423.length) = True := eq_true (by omega); obtain ⟨go8, oo8, co8, eo8, gb8, gl8, cl8, HG8⟩ := Kd.Q_form HO425.out (by omega); (first | cases eo8 | (injection eo8 with ea_ en_ ec_; (first | subst ea_ | (injection ea_ with ea_; subst ea_)); subst ec_; clear en_)); have GB8 := Aside0.mk gb8; have GG8 := Aside0.mk HG8; clear gb8 gl8 HG8; (first | simp only [add_at] at hx426_0 | skip); obtain ⟨hx8_0, hf8_0⟩ := Kd.Q_cell 0 HO425.out (3 : Int) p8 q8; (try rw [show ((3 : Int)).toNat = 3 from rfl] at hx8_0); (try simp only [Nat.reduceMul, Nat.zero_mul, Nat.zero_add, Nat.reduceAdd] at hx8_0); (try rw [show ((3 : Int)).toNat = 3 from rfl] at hf8_0); (try simp only [Nat.reduceMul, Nat.zero_mul, Nat.zero_add, Nat.reduceAdd] at hf8_0); replace p8 := eq_true p8; replace q8 := eq_true q8; obtain ⟨hy19_, hz19_⟩ := Kd.Q_cell 0 HO425.out (3 : Int) (by omega) (of_decide_eq_true (by first | (with_reducible assumption) | assumption)); (try simp only [Int.reduceToNat, Int.toNat_zero, Int.toNat_ofNat, Nat.reduceMul, Nat.zero_mul, Nat.zero_add] at hy19_ hz19_); (try rw [show ((3 : Int)).toNat = 3 from rfl] at hy19_); (try rw [show ((3 : Int)).toNat = 3 from rfl] at hz19_); have HP19 := Kd.Q_putg HO425.out (3 : Int) (by omega) (by have h_ : (3 : Int) < ((y423.length : Int) : Int) := of_decide_eq_true (by first | (with_reducible assumption) | assumption); first | exact h_ | (have e_ := (Kd.Q_reads' HO425.out).1; omega) | simpa using h_) (Go.bits .xor .u8 (rd y423 3) 9)) | ((with_reducible refine gate_store (t := 5) (p := 35) rfl ?_); refine store_event (t := 5) (p := 35) (v := ?vo_w20) (w1 := (w16.setCell ⟨go8, oo8 + (3 : Int).toNat, none⟩ (.int .u8 (Go.bits .xor .u8 (rd y423 3) 9)))) ?hg ?ho ?hn ?hr ?_; (case ho => rfl); (case hg => rfl); (case hn => rfl); (case hr => first | (go_simp; done) | (go_simp; rfl)); intro w20 hw; have hg : w16.grownBy w20 (some go8) := (by rw [hw]; exact HP19.2); have hp_ : Kd.Q (Kd.int .u8) 5 w20 w.heap.size (fun _ => True) (.slice (some ⟨go8, oo8, none⟩) y423.length co18) y427 := (by rw [hw, Ny427.out]; exact HP19.1); clear HP19; have n0_ := Aside0.mk (blk_grown (g := gb420) (o := .cells #[.int .i64 t415, .int .i64 t416, .int .i64 t417, .int .i64 t418] 23 (0, 0)) (by (with_reducible repeat (first | refine xB ?_ _ | refine xC ?_ | refine xD ?_ _)); exact BK420.out) hg (Kd.Q_ne HO425.out BK420.out (by decide))); have n1_ := Aside0.mk (hp_); have n2_ := Aside0.mk ((by rw [hw]; exact below_set (HB.out) GB8.out : Below w.heap.size w w20)); clear BK420; clear HO425; clear HB; have BK420 := n0_; have HO425 := n1_; have HB := n2_; clear n0_ n1_ n2_; clear hg hw hp_; have hcv21 := Kd.Q_string (P := Try.prog) Try.underlying40 Try.underlying5 Try.underlying9 HO425.out; have hcz22_0 : w20.cell? ⟨gb420, 0, none⟩ = some (.int .i64 t415) := (blk_cell BK420.out 0).trans rfl; have hcz22_1 : w20.cell? ⟨gb420, 1, none⟩ = some (.int .i64 t416) := (blk_cell BK420.out 1).trans rfl; have hcz22_2 : w20.cell? ⟨gb420, 2, none⟩ = some (.int .i64 t417) := (blk_cell BK420.out 2).trans rfl; have hcz22_3 : w20.cell? ⟨gb420, 3, none⟩ = some (.int .i64 t418) := (blk_cell BK420.out 3).trans rfl; have hfz22_0 := blk_frozen BK420.out 0; have hfz22_1 := blk_frozen BK420.out 1; have hfz22_2 := blk_frozen BK420.out 2; have hfz22_3 := blk_frozen BK420.out 3) | ((with_reducible refine gate_callee (f := 17) rfl ?_); refine goesL_ (some 40) rfl rfl Try.func17 (by kernel_rfl) rfl #[.string (strOfNums y427), .agg #[.int .i64 t415, .int .i64 t416, .int .i64 t417, .int .i64 t418], .int .i64 5, .slice none 0 0] rfl (by (try simp only [List.map_toArray, List.map_cons, List.map_nil]); first | done | rfl | (simp only [List.length_drop, List.length_take]; rfl)) ?_; (refine (weave_Decode.calls k (strOfNums y427) t415 t416 t417 t418 5 _ _ ([] : List Int) t428 t429 t430 _ ?side1 ?side2 A9.out).mono ?_); (case side1 => exact Kd.C_nil _ _); (case side2 => exact Nat.le_refl _); rintro e w23 ⟨rfl, hb⟩; refine ⟨_, rfl, ?_⟩; have n0_ := Aside0.mk (Kd.Q_below (by (with_reducible repeat (first | apply Kd.Q_alloc | apply Kd.Q_drewN | apply Kd.Q_drew)); exact HO425.out) hb); have n1_ := Aside0.mk (blk_below (g := gb420) (o := .cells #[.int .i64 t415, .int .i64 t416, .int .i64 t417, .int .i64 t418] 23 (0, 0)) (by (with_reducible repeat (first | refine xB ?_ _ | refine xC ?_ | refine xD ?_ _)); exact BK420.out) hb); have n2_ := Aside0.mk (xP (by repeat (first | (with_reducible first | exact HB.out | apply xA | apply xN | apply xO | refine below_set ?_ GE420.out) | exact HB.out)) hb); clear HO425; clear BK420; clear HB; have HO425 := n0_; have BK420 := n1_; have HB := n2_; clear n0_ n1_ n2_; (try clear hb)))
    go_ret
    exact ⟨by first | rfl | (simp [errW_none, errW_some] <;> rfl) | (simp [*, errW_none, errW_some] <;> rfl), by repeat (first | (with_reducible first | exact HB.out | apply xA | apply xN | apply xO | refine below_set ?_ GE420.out) | exact HB.out)⟩
  rw [if_neg c11] at H
  have c11b0 : (t428.toList == ([48, 49, 50, 51, 52, 53, 54, 55, 56, 57] : List UInt8)) = false := beq_eq_false_iff_ne.mpr c11
  have c11b1 : (t428.toList != ([48, 49, 50, 51, 52, 53, 54, 55, 56, 57] : List UInt8)) = true := bne_iff_ne.mpr c11
  obtain rfl := Option.some.inj H
  go_enter Try.func11, Try.ntmps11
  go_wp2_with (first | ((with_reducible refine gate_callee (f := 9) rfl ?_); refine goesL_ (some 10) rfl rfl Try.func9 (by kernel_rfl) rfl #[.int .i64 10, .int .i64 2] rfl (by (try simp only [List.map_toArray, List.map_cons, List.map_nil]); first | done | rfl | (simp only [List.length_drop, List.length_take]; rfl)) ?_; (with_reducible refine (weave_ShapeOf.calls k 10 2 t415 t416 t417 t418 true _ A1.out).mono ?_); rintro e w24 ⟨rfl, hb⟩; refine ⟨_, rfl, ?_⟩; have n0_ := Aside0.mk (xP (by repeat (first | (with_reducible first | exact HB.out | apply xA | apply xN | apply xO) | exact HB.out)) hb); clear HB; have HB := n0_; clear n0_; (try clear hb); (try clear hi)) | ((with_reducible refine gate_dst (N := 1) rfl ?_); refine box_event ?hg (N := 1) ?hd (cs := #[.int .i64 0, .int .i64 0, .int .i64 0, .int .i64 0]) (t := 23) ?hr ?_; (case hd => rfl); (case hg => rfl); (case hr => first | (go_simp; done) | (go_simp; rfl)); intro gb420 hg w25 hbox hb; have n0_ := Aside0.mk (xP (by repeat (first | (with_reducible first | exact HB.out | apply xA | apply xN | apply xO) | exact HB.out)) hb); have n1_ := Aside0.mk (hbox); have n2_ := Aside0.mk ((by rw [hg]; exact (xZ (by repeat (first | (with_reducible first | exact HB.out | apply xA | apply xN | apply xO) | exact HB.out))) : w.heap.size ≤ gb420)); have n3_ := Aside0.mk ((by rw [hg]; exact (xZ (by repeat (first | (with_reducible first | exact HB.out | apply xA | apply xN | apply xO) | exact HB.out))) : w.heap.size ≤ gb420)); clear HB; have HB := n0_; have BK420 := n1_; have GW420 := n2_; have GE420 := n3_; clear n0_ n1_ n2_ n3_; clear hb hbox hg; have hcz26_0 : w25.cell? ⟨gb420, 0, none⟩ = some (.int .i64 0) := (blk_cell BK420.out 0).trans rfl; have hcz26_1 : w25.cell? ⟨gb420, 1, none⟩ = some (.int .i64 0) := (blk_cell BK420.out 1).trans rfl; have hcz26_2 : w25.cell? ⟨gb420, 2, none⟩ = some (.int .i64 0) := (blk_cell BK420.out 2).trans rfl; have hcz26_3 : w25.cell? ⟨gb420, 3, none⟩ = some (.int .i64 0) := (blk_cell BK420.out 3).trans rfl; have hfz26_0 := blk_frozen BK420.out 0; have hfz26_1 := blk_frozen BK420.out 1; have hfz26_2 := blk_frozen BK420.out 2; have hfz26_3 := blk_frozen BK420.out 3) | ((with_reducible refine gate_callee (f := 16) rfl ?_); refine goesL_ (some 15) rfl rfl Try.func16 (by kernel_rfl) rfl #[.string (⟨#[48, 49, 50, 51, 52, 53, 54, 55, 56, 57]⟩ : ByteArray), .agg #[.int .i64 t415, .int .i64 t416, .int .i64 t417, .int .i64 t418], .int .i64 5] rfl (by (try simp only [List.map_toArray, List.map_cons, List.map_nil]); first | done | rfl | (simp only [List.length_drop, List.length_take]; rfl)) ?_; (with_reducible refine (weave_Encode.calls k (⟨#[48, 49, 50, 51, 52, 53, 54, 55, 56, 57]⟩ : ByteArray) t415 t416 t417 t418 5 t421 t422 _ A2.out).mono ?_); rintro e w27 ⟨rfl, hb⟩; refine ⟨_, rfl, ?_⟩; have n0_ := Aside0.mk (blk_below (g := gb420) (o := .cells #[.int .i64 t415, .int .i64 t416, .int .i64 t417, .int .i64 t418] 23 (0, 0)) (by (with_reducible repeat (first | refine xB ?_ _ | refine xC ?_ | refine xD ?_ _)); refine blk_put (cs := #[.int .i64 t415, .int .i64 t416, .int .i64 t417, .int .i64 0]) ?_ 3 _ rfl; (with_reducible repeat (first | refine xB ?_ _ | refine xC ?_ | refine xD ?_ _)); refine blk_put (cs := #[.int .i64 t415, .int .i64 t416, .int .i64 0, .int .i64 0]) ?_ 2 _ rfl; (with_reducible repeat (first | refine xB ?_ _ | refine xC ?_ | refine xD ?_ _)); refine blk_put (cs := #[.int .i64 t415, .int .i64 0, .int .i64 0, .int .i64 0]) ?_ 1 _ rfl; (with_reducible repeat (first | refine xB ?_ _ | refine xC ?_ | refine xD ?_ _)); refine blk_put (cs := #[.int .i64 0, .int .i64 0, .int .i64 0, .int .i64 0]) ?_ 0 _ rfl; (with_reducible repeat (first | refine xB ?_ _ | refine xC ?_ | refine xD ?_ _)); exact BK420.out) hb); have n1_ := Aside0.mk (xP (by repeat (first | (with_reducible first | exact HB.out | apply xA | apply xN | apply xO | refine below_set ?_ GE420.out) | exact HB.out)) hb); clear BK420; clear HB; have BK420 := n0_; have HB := n1_; clear n0_ n1_; (try clear hb); (try clear hi)) | ((with_reducible refine gate_dst (N := 30) rfl ?_); refine Kd.Q_bytes 5 rfl (N := 30) rfl 9 40 _ rfl t421 rfl Try.underlying9 Try.underlying40 Try.underlying5 (ok := fun _ => True) trivial (of_decide_eq_true (by first | (with_reducible assumption) | assumption)) (Below.refl _ _) (Nat.le_refl _) ?_; intro v424 w28 ho29 hb hg_ hnew_; clear hg_ hnew_; (first | rw [← Ny423.out] at ho29 | (simp only [Int.reduceToNat] at ho29; rw [← Ny423.out] at ho29)); have n0_ := Aside0.mk (Kd.Q_lower ho29 (xZ (by repeat (first | (with_reducible first | exact HB.out | apply xA | apply xN | apply xO | refine below_set ?_ GE420.out) | exact HB.out)))); have n1_ := Aside0.mk (blk_below (g := gb420) (o := .cells #[.int .i64 t415, .int .i64 t416, .int .i64 t417, .int .i64 t418] 23 (0, 0)) (by (with_reducible repeat (first | refine xB ?_ _ | refine xC ?_ | refine xD ?_ _)); exact BK420.out) hb); have n2_ := Aside0.mk (xP (by repeat (first | (with_reducible first | exact HB.out | apply xA | apply xN | apply xO | refine below_set ?_ GE420.out) | exact HB.out)) hb); clear BK420; clear HB; have HO425 := n0_; have BK420 := n1_; have HB := n2_; clear n0_ n1_ n2_; clear hb ho29; obtain ⟨Ao30, co30, eo30, _⟩ := Kd.Q_slice HO425.out; subst eo30; have p426 : 0 ≤ (3 : Int) := (by omega); have q426 : 3 < (y423.length : Int) := of_decide_eq_true (by first | (with_reducible assumption) | assumption); obtain ⟨ad426, e426, hx426_0⟩ := Kd.at_int (Kd.Q_reads' HO425.out).2.2 3 p426 q426; cases e426; (try simp only [show (3 : Int).toNat = 3 from rfl, Nat.reduceMul, Nat.reduceEqDiff, Go.Addr.add, ↓reduceIte] at hx426_0); have qi426 : (3 < y423.length) = True := eq_true (by omega); (try rw [show ((3 : Int)).toNat = 3 from rfl] at hx426_0); replace p426 := eq_true p426; replace q426 := eq_true q426; have p8 : 0 ≤ (3 : Int) := (by omega); have q8 : (3 : Int) < ((y423.length : Int) : Int) := of_decide_eq_true (by first | (with_reducible assumption) | assumption); have qi8 : (3 < y423.length) = True := eq_true (by omega); obtain ⟨go8, oo8, co8, eo8, gb8, gl8, cl8, HG8⟩ := Kd.Q_form HO425.out (by omega); (first | cases eo8 | (injection eo8 with ea_ en_ ec_; (first | subst ea_ | (injection ea_ with ea_; subst ea_)); subst ec_; clear en_)); have GB8 := Aside0.mk gb8; have GG8 := Aside0.mk HG8; clear gb8 gl8 HG8; (first | simp only [add_at] at hx426_0 | skip); obtain ⟨hx8_0, hf8_0⟩ := Kd.Q_cell 0 HO425.out (3 : Int) p8 q8; (try rw [show ((3 : Int)).toNat = 3 from rfl] at hx8_0); (try simp only [Nat.reduceMul, Nat.zero_mul, Nat.zero_add, Nat.reduceAdd] at hx8_0); (try rw [show ((3 : Int)).toNat = 3 from rfl] at hf8_0); (try simp only [Nat.reduceMul, Nat.zero_mul, Nat.zero_add, Nat.reduceAdd] at hf8_0); replace p8 := eq_true p8; replace q8 := eq_true q8; obtain ⟨hy31_, hz31_⟩ := Kd.Q_cell 0 HO425.out (3 : Int) (by omega) (of_decide_eq_true (by first | (with_reducible assumption) | assumption)); (try simp only [Int.reduceToNat, Int.toNat_zero, Int.toNat_ofNat, Nat.reduceMul, Nat.zero_mul, Nat.zero_add] at hy31_ hz31_); (try rw [show ((3 : Int)).toNat = 3 from rfl] at hy31_); (try rw [show ((3 : Int)).toNat = 3 from rfl] at hz31_); have HP31 := Kd.Q_putg HO425.out (3 : Int) (by omega) (by have h_ : (3 : Int) < ((y423.length : Int) : Int) := of_decide_eq_true (by first | (with_reducible assumption) | assumption); first | exact h_ | (have e_ := (Kd.Q_reads' HO425.out).1; omega) | simpa using h_) (Go.bits .xor .u8 (rd y423 3) 9)) | ((with_reducible refine gate_store (t := 5) (p := 35) rfl ?_); refine store_event (t := 5) (p := 35) (v := ?vo_w32) (w1 := (w28.setCell ⟨go8, oo8 + (3 : Int).toNat, none⟩ (.int .u8 (Go.bits .xor .u8 (rd y423 3) 9)))) ?hg ?ho ?hn ?hr ?_; (case ho => rfl); (case hg => rfl); (case hn => rfl); (case hr => first | (go_simp; done) | (go_simp; rfl)); intro w32 hw; have hg : w28.grownBy w32 (some go8) := (by rw [hw]; exact HP31.2); have hp_ : Kd.Q (Kd.int .u8) 5 w32 w.heap.size (fun _ => True) (.slice (some ⟨go8, oo8, none⟩) y423.length co30) y427 := (by rw [hw, Ny427.out]; exact HP31.1); clear HP31; have n0_ := Aside0.mk (blk_grown (g := gb420) (o := .cells #[.int .i64 t415, .int .i64 t416, .int .i64 t417, .int .i64 t418] 23 (0, 0)) (by (with_reducible repeat (first | refine xB ?_ _ | refine xC ?_ | refine xD ?_ _)); exact BK420.out) hg (Kd.Q_ne HO425.out BK420.out (by decide))); have n1_ := Aside0.mk (hp_); have n2_ := Aside0.mk ((by rw [hw]; exact below_set (HB.out) GB8.out : Below w.heap.size w w32)); clear BK420; clear HO425; clear HB; have BK420 := n0_; have HO425 := n1_; have HB := n2_; clear n0_ n1_ n2_; clear hg hw hp_; have hcv33 := Kd.Q_string (P := Try.prog) Try.underlying40 Try.underlying5 Try.underlying9 HO425.out; have hcz34_0 : w32.cell? ⟨gb420, 0, none⟩ = some (.int .i64 t415) := (blk_cell BK420.out 0).trans rfl; have hcz34_1 : w32.cell? ⟨gb420, 1, none⟩ = some (.int .i64 t416) := (blk_cell BK420.out 1).trans rfl; have hcz34_2 : w32.cell? ⟨gb420, 2, none⟩ = some (.int .i64 t417) := (blk_cell BK420.out 2).trans rfl; have hcz34_3 : w32.cell? ⟨gb420, 3, none⟩ = some (.int .i64 t418) := (blk_cell BK420.out 3).trans rfl; have hfz34_0 := blk_frozen BK420.out 0; have hfz34_1 := blk_frozen BK420.out 1; have hfz34_2 := blk_frozen BK420.out 2; have hfz34_3 := blk_frozen BK420.out 3) | ((with_reducible refine gate_callee (f := 17) rfl ?_); refine goesL_ (some 40) rfl rfl Try.func17 (by kernel_rfl) rfl #[.string (strOfNums y427), .agg #[.int .i64 t415, .int .i64 t416, .int .i64 t417, .int .i64 t418], .int .i64 5, .slice none 0 0] rfl (by (try simp only [List.map_toArray, List.map_cons, List.map_nil]); first | done | rfl | (simp only [List.length_drop, List.length_take]; rfl)) ?_; (refine (weave_Decode.calls k (strOfNums y427) t415 t416 t417 t418 5 _ _ ([] : List Int) t428 t429 t430 _ ?side1 ?side2 A9.out).mono ?_); (case side1 => exact Kd.C_nil _ _); (case side2 => exact Nat.le_refl _); rintro e w35 ⟨rfl, hb⟩; refine ⟨_, rfl, ?_⟩; have n0_ := Aside0.mk (Kd.Q_below (by (with_reducible repeat (first | apply Kd.Q_alloc | apply Kd.Q_drewN | apply Kd.Q_drew)); exact HO425.out) hb); have n1_ := Aside0.mk (blk_below (g := gb420) (o := .cells #[.int .i64 t415, .int .i64 t416, .int .i64 t417, .int .i64 t418] 23 (0, 0)) (by (with_reducible repeat (first | refine xB ?_ _ | refine xC ?_ | refine xD ?_ _)); exact BK420.out) hb); have n2_ := Aside0.mk (xP (by repeat (first | (with_reducible first | exact HB.out | apply xA | apply xN | apply xO | refine below_set ?_ GE420.out) | exact HB.out)) hb); clear HO425; clear BK420; clear HB; have HO425 := n0_; have BK420 := n1_; have HB := n2_; clear n0_ n1_ n2_; (try clear hb)))
  go_ret
  exact ⟨by first | rfl | (simp [errW_none, errW_some] <;> rfl) | (simp [*, errW_none, errW_some] <;> rfl), by repeat (first | (with_reducible first | exact HB.out | apply xA | apply xN | apply xO | refine below_set ?_ GE420.out) | exact HB.out)⟩
def tinderboxlaw29_WeaveShapes.f (k : Nat) (a0 : Int) (a1 : Int) : Option (Bool) := (weave_ShapeOf.f k a0 a1).bind fun bt431 => ((tinderboxref29_Shape.f k a0 a1).bind fun bt437 => ((tinderboxlaw29_awake.f k).bind fun t443 => (if t443 = true then (if (bt431.2.2.2.2 == bt437.2.2.2.2) = true then (some (bt431.1 == bt437.1 && (bt431.2.1 == bt437.2.1 && (bt431.2.2.1 == bt437.2.2.1 && (bt431.2.2.2.1 == bt437.2.2.2.1))))) else (some false)) else (some false))))
theorem tinderboxlaw29_WeaveShapes.mono : ∀ a0 a1 k, LeO (tinderboxlaw29_WeaveShapes.f k a0 a1) (tinderboxlaw29_WeaveShapes.f (k + 1) a0 a1) := by
  intro a0 a1 k
  unfold tinderboxlaw29_WeaveShapes.f
  repeat' first
      | (with_reducible exact tinderboxlaw29_awake.mono _)
      | (with_reducible exact tinderboxref29_Shape.mono _ _ _)
      | (with_reducible exact weave_ShapeOf.mono _ _ _)
      | (with_reducible exact LeO.refl _)
      | (with_reducible exact LeO.none _)
      | (with_reducible refine LeO.ite ?_ ?_)
      | (with_reducible refine LeO.bind ?_ (fun _ => ?_))
set_option maxHeartbeats 8000000 in
set_option maxRecDepth 100000 in
theorem tinderboxlaw29_WeaveShapes.calls (k : Nat) (a0 : Int) (a1 : Int) (r : Bool) (w : World) (h : tinderboxlaw29_WeaveShapes.f k a0 a1 = some r) :
    Calls Try.prog 3 #[.int .i64 a0, .int .i64 a1] w fun e w' => e = .returned (.bool r) ∧ Below w.heap.size w w' := by
  have hu23 := Try.underlying23
  have HB := Aside0.mk (Below.refl w.heap.size w)
  have H : ((weave_ShapeOf.f k a0 a1).bind fun bt431 => ((tinderboxref29_Shape.f k a0 a1).bind fun bt437 => ((tinderboxlaw29_awake.f k).bind fun t443 => (if t443 = true then (if (bt431.2.2.2.2 == bt437.2.2.2.2) = true then (some (bt431.1 == bt437.1 && (bt431.2.1 == bt437.2.1 && (bt431.2.2.1 == bt437.2.2.1 && (bt431.2.2.2.1 == bt437.2.2.2.1))))) else (some false)) else (some false))))) = some r := h
  clear h
  replace H := Option.bind_eq_some_iff.mp H
  obtain ⟨⟨t431, t432, t433, t434, t435⟩, A30, H⟩ := H
  replace H : ((tinderboxref29_Shape.f k a0 a1).bind fun bt437 => ((tinderboxlaw29_awake.f k).bind fun t443 => (if t443 = true then (if (t435 == bt437.2.2.2.2) = true then (some (t431 == bt437.1 && (t432 == bt437.2.1 && (t433 == bt437.2.2.1 && (t434 == bt437.2.2.2.1))))) else (some false)) else (some false)))) = some r := H
  have A3 := Aside0.mk A30
  clear A30
  replace H := Option.bind_eq_some_iff.mp H
  obtain ⟨⟨t437, t438, t439, t440, t441⟩, A40, H⟩ := H
  replace H : ((tinderboxlaw29_awake.f k).bind fun t443 => (if t443 = true then (if (t435 == t441) = true then (some (t431 == t437 && (t432 == t438 && (t433 == t439 && (t434 == t440))))) else (some false)) else (some false))) = some r := H
  have A4 := Aside0.mk A40
  clear A40
  replace H := Option.bind_eq_some_iff.mp H
  obtain ⟨t443, A50, H⟩ := H
  have A5 := Aside0.mk A50
  clear A50
  by_cases c6 : t443 = true
  rotate_left
  · replace c6 := Bool.eq_false_iff.mpr c6
    subst c6
    rw [if_neg (show ¬ (false = true) by decide)] at H
    obtain rfl := Option.some.inj H
    go_enter Try.func3, Try.ntmps3
    go_wp2_with (first | ((with_reducible refine gate_callee (f := 9) rfl ?_); refine goesL_ (some 12) rfl rfl Try.func9 (by kernel_rfl) rfl #[.int .i64 a0, .int .i64 a1] rfl (by (try simp only [List.map_toArray, List.map_cons, List.map_nil]); first | done | rfl | (simp only [List.length_drop, List.length_take]; rfl)) ?_; (with_reducible refine (weave_ShapeOf.calls k a0 a1 t431 t432 t433 t434 t435 _ A3.out).mono ?_); rintro e w26 ⟨rfl, hb⟩; refine ⟨_, rfl, ?_⟩; have n0_ := Aside0.mk (xP (by repeat (first | (with_reducible first | exact HB.out | apply xA | apply xN | apply xO) | exact HB.out)) hb); clear HB; have HB := n0_; clear n0_; (try clear hb); (try clear hi)) | ((with_reducible refine gate_dst (N := 5) rfl ?_); refine box_event ?hg (N := 5) ?hd (cs := #[.int .i64 0, .int .i64 0, .int .i64 0, .int .i64 0]) (t := 23) ?hr ?_; (case hd => rfl); (case hg => rfl); (case hr => first | (go_simp; done) | (go_simp; rfl)); intro gb436 hg w27 hbox hb; have n0_ := Aside0.mk (xP (by repeat (first | (with_reducible first | exact HB.out | apply xA | apply xN | apply xO) | exact HB.out)) hb); have n1_ := Aside0.mk (hbox); have n2_ := Aside0.mk ((by rw [hg]; exact (xZ (by repeat (first | (with_reducible first | exact HB.out | apply xA | apply xN | apply xO) | exact HB.out))) : w.heap.size ≤ gb436)); have n3_ := Aside0.mk ((by rw [hg]; exact (xZ (by repeat (first | (with_reducible first | exact HB.out | apply xA | apply xN | apply xO) | exact HB.out))) : w.heap.size ≤ gb436)); clear HB; have HB := n0_; have BK436 := n1_; have GW436 := n2_; have GE436 := n3_; clear n0_ n1_ n2_ n3_; clear hb hbox hg; have hcz28_0 : w27.cell? ⟨gb436, 0, none⟩ = some (.int .i64 0) := (blk_cell BK436.out 0).trans rfl; have hcz28_1 : w27.cell? ⟨gb436, 1, none⟩ = some (.int .i64 0) := (blk_cell BK436.out 1).trans rfl; have hcz28_2 : w27.cell? ⟨gb436, 2, none⟩ = some (.int .i64 0) := (blk_cell BK436.out 2).trans rfl; have hcz28_3 : w27.cell? ⟨gb436, 3, none⟩ = some (.int .i64 0) := (blk_cell BK436.out 3).trans rfl; have hfz28_0 := blk_frozen BK436.out 0; have hfz28_1 := blk_frozen BK436.out 1; have hfz28_2 := blk_frozen BK436.out 2; have hfz28_3 := blk_frozen BK436.out 3) | ((with_reducible refine gate_callee (f := 10) rfl ?_); refine goesL_ (some 18) rfl rfl Try.func10 (by kernel_rfl) rfl #[.int .i64 a0, .int .i64 a1] rfl (by (try simp only [List.map_toArray, List.map_cons, List.map_nil]); first | done | rfl | (simp only [List.length_drop, List.length_take]; rfl)) ?_; (with_reducible refine (tinderboxref29_Shape.calls k a0 a1 t437 t438 t439 t440 t441 _ A4.out).mono ?_); rintro e w29 ⟨rfl, hb⟩; refine ⟨_, rfl, ?_⟩; have n0_ := Aside0.mk (blk_below (g := gb436) (o := .cells #[.int .i64 t431, .int .i64 t432, .int .i64 t433, .int .i64 t434] 23 (0, 0)) (by (with_reducible repeat (first | refine xB ?_ _ | refine xC ?_ | refine xD ?_ _)); refine blk_put (cs := #[.int .i64 t431, .int .i64 t432, .int .i64 t433, .int .i64 0]) ?_ 3 _ rfl; (with_reducible repeat (first | refine xB ?_ _ | refine xC ?_ | refine xD ?_ _)); refine blk_put (cs := #[.int .i64 t431, .int .i64 t432, .int .i64 0, .int .i64 0]) ?_ 2 _ rfl; (with_reducible repeat (first | refine xB ?_ _ | refine xC ?_ | refine xD ?_ _)); refine blk_put (cs := #[.int .i64 t431, .int .i64 0, .int .i64 0, .int .i64 0]) ?_ 1 _ rfl; (with_reducible repeat (first | refine xB ?_ _ | refine xC ?_ | refine xD ?_ _)); refine blk_put (cs := #[.int .i64 0, .int .i64 0, .int .i64 0, .int .i64 0]) ?_ 0 _ rfl; (with_reducible repeat (first | refine xB ?_ _ | refine xC ?_ | refine xD ?_ _)); exact BK436.out) hb); have n1_ := Aside0.mk (xP (by repeat (first | (with_reducible first | exact HB.out | apply xA | apply xN | apply xO | refine below_set ?_ GE436.out) | exact HB.out)) hb); clear BK436; clear HB; have BK436 := n0_; have HB := n1_; clear n0_ n1_; (try clear hb); (try clear hi)) | ((with_reducible refine gate_dst (N := 7) rfl ?_); refine box_event ?hg (N := 7) ?hd (cs := #[.int .i64 0, .int .i64 0, .int .i64 0, .int .i64 0]) (t := 23) ?hr ?_; (case hd => rfl); (case hg => rfl); (case hr => first | (go_simp; done) | (go_simp; rfl)); intro gb442 hg w30 hbox hb; have n0_ := Aside0.mk (blk_below (g := gb436) (o := .cells #[.int .i64 t431, .int .i64 t432, .int .i64 t433, .int .i64 t434] 23 (0, 0)) (by (with_reducible repeat (first | refine xB ?_ _ | refine xC ?_ | refine xD ?_ _)); exact BK436.out) hb); have n1_ := Aside0.mk (xP (by repeat (first | (with_reducible first | exact HB.out | apply xA | apply xN | apply xO | refine below_set ?_ GE436.out) | exact HB.out)) hb); have n2_ := Aside0.mk (hbox); have n3_ := Aside0.mk ((by rw [hg]; exact (xZ (by repeat (first | (with_reducible first | exact HB.out | apply xA | apply xN | apply xO | refine below_set ?_ GE436.out) | exact HB.out))) : w.heap.size ≤ gb442)); have n4_ := Aside0.mk ((by rw [hg]; exact (xZ (by repeat (first | (with_reducible first | exact HB.out | apply xA | apply xN | apply xO | refine below_set ?_ GE436.out) | exact HB.out))) : w.heap.size ≤ gb442)); have n5_ := Aside0.mk ((by rw [hg]; exact Nat.ne_of_lt (blk_lt (g := gb436) (o := .cells #[.int .i64 t431, .int .i64 t432, .int .i64 t433, .int .i64 t434] 23 (0, 0)) (by (with_reducible repeat (first | refine xB ?_ _ | refine xC ?_ | refine xD ?_ _)); exact BK436.out)) : gb436 ≠ gb442)); have n6_ := Aside0.mk ((by rw [hg]; exact Nat.ne_of_gt (blk_lt (g := gb436) (o := .cells #[.int .i64 t431, .int .i64 t432, .int .i64 t433, .int .i64 t434] 23 (0, 0)) (by (with_reducible repeat (first | refine xB ?_ _ | refine xC ?_ | refine xD ?_ _)); exact BK436.out)) : gb442 ≠ gb436)); clear BK436; clear HB; have BK436 := n0_; have HB := n1_; have BK442 := n2_; have GW442 := n3_; have GE442 := n4_; have NB436_442 := n5_; have NB442_436 := n6_; clear n0_ n1_ n2_ n3_ n4_ n5_ n6_; clear hb hbox hg; have hnb31 := NB442_436.out; have hnc31 := NB436_442.out; have hcz32_0 : w30.cell? ⟨gb442, 0, none⟩ = some (.int .i64 0) := (blk_cell BK442.out 0).trans rfl; have hcz32_1 : w30.cell? ⟨gb442, 1, none⟩ = some (.int .i64 0) := (blk_cell BK442.out 1).trans rfl; have hcz32_2 : w30.cell? ⟨gb442, 2, none⟩ = some (.int .i64 0) := (blk_cell BK442.out 2).trans rfl; have hcz32_3 : w30.cell? ⟨gb442, 3, none⟩ = some (.int .i64 0) := (blk_cell BK442.out 3).trans rfl; have hfz32_0 := blk_frozen BK442.out 0; have hfz32_1 := blk_frozen BK442.out 1; have hfz32_2 := blk_frozen BK442.out 2; have hfz32_3 := blk_frozen BK442.out 3) | ((with_reducible refine gate_callee (f := 11) rfl ?_); refine goesL_ (some 21) rfl rfl Try.func11 (by kernel_rfl) rfl #[] rfl (by (try simp only [List.map_toArray, List.map_cons, List.map_nil]); first | done | rfl | (simp only [List.length_drop, List.length_take]; rfl)) ?_; (with_reducible refine (tinderboxlaw29_awake.calls k  false _ A5.out).mono ?_); rintro e w33 ⟨rfl, hb⟩; refine ⟨_, rfl, ?_⟩; have n0_ := Aside0.mk (blk_below (g := gb436) (o := .cells #[.int .i64 t431, .int .i64 t432, .int .i64 t433, .int .i64 t434] 23 (0, 0)) (by (with_reducible repeat (first | refine xB ?_ _ | refine xC ?_ | refine xD ?_ _)); refine blk_far ?_ NB436_442.out _; (with_reducible repeat (first | refine xB ?_ _ | refine xC ?_ | refine xD ?_ _)); refine blk_far ?_ NB436_442.out _; (with_reducible repeat (first | refine xB ?_ _ | refine xC ?_ | refine xD ?_ _)); refine blk_far ?_ NB436_442.out _; (with_reducible repeat (first | refine xB ?_ _ | refine xC ?_ | refine xD ?_ _)); refine blk_far ?_ NB436_442.out _; (with_reducible repeat (first | refine xB ?_ _ | refine xC ?_ | refine xD ?_ _)); exact BK436.out) hb); have n1_ := Aside0.mk (blk_below (g := gb442) (o := .cells #[.int .i64 t437, .int .i64 t438, .int .i64 t439, .int .i64 t440] 23 (0, 0)) (by (with_reducible repeat (first | refine xB ?_ _ | refine xC ?_ | refine xD ?_ _)); refine blk_put (cs := #[.int .i64 t437, .int .i64 t438, .int .i64 t439, .int .i64 0]) ?_ 3 _ rfl; (with_reducible repeat (first | refine xB ?_ _ | refine xC ?_ | refine xD ?_ _)); refine blk_put (cs := #[.int .i64 t437, .int .i64 t438, .int .i64 0, .int .i64 0]) ?_ 2 _ rfl; (with_reducible repeat (first | refine xB ?_ _ | refine xC ?_ | refine xD ?_ _)); refine blk_put (cs := #[.int .i64 t437, .int .i64 0, .int .i64 0, .int .i64 0]) ?_ 1 _ rfl; (with_reducible repeat (first | refine xB ?_ _ | refine xC ?_ | refine xD ?_ _)); refine blk_put (cs := #[.int .i64 0, .int .i64 0, .int .i64 0, .int .i64 0]) ?_ 0 _ rfl; (with_reducible repeat (first | refine xB ?_ _ | refine xC ?_ | refine xD ?_ _)); exact BK442.out) hb); have n2_ := Aside0.mk (xP (by repeat (first | (with_reducible first | exact HB.out | apply xA | apply xN | apply xO | refine below_set ?_ GE436.out | refine below_set ?_ GE442.out) | exact HB.out)) hb); clear BK436; clear BK442; clear HB; have BK436 := n0_; have BK442 := n1_; have HB := n2_; clear n0_ n1_ n2_; (try clear hb)))
    go_ret
    exact ⟨by first | rfl | (simp [errW_none, errW_some] <;> rfl) | (simp [*, errW_none, errW_some] <;> rfl), by repeat (first | (with_reducible first | exact HB.out | apply xA | apply xN | apply xO | refine below_set ?_ GE436.out | refine below_set ?_ GE442.out) | exact HB.out)⟩
  subst c6
  rw [if_pos rfl] at H
  by_cases c7 : (t435 == t441) = true
  rotate_left
  · rw [if_neg c7] at H
    have c7b0 : (t435 == t441) = false := by simpa using c7
    (try (have c7b1 : decide (t435 = t441) = false := by simpa using c7))
    (try (have c7b2 : (t435 == t441) = false := by simpa using c7))
    (try (have c7b3 : ¬ (t435 = t441) := by simpa using c7))
    clear c7
    obtain rfl := Option.some.inj H
    go_enter Try.func3, Try.ntmps3
    go_wp2_with (first | ((with_reducible refine gate_callee (f := 9) rfl ?_); refine goesL_ (some 12) rfl rfl Try.func9 (by kernel_rfl) rfl #[.int .i64 a0, .int .i64 a1] rfl (by (try simp only [List.map_toArray, List.map_cons, List.map_nil]); first | done | rfl | (simp only [List.length_drop, List.length_take]; rfl)) ?_; (with_reducible refine (weave_ShapeOf.calls k a0 a1 t431 t432 t433 t434 t435 _ A3.out).mono ?_); rintro e w18 ⟨rfl, hb⟩; refine ⟨_, rfl, ?_⟩; have n0_ := Aside0.mk (xP (by repeat (first | (with_reducible first | exact HB.out | apply xA | apply xN | apply xO) | exact HB.out)) hb); clear HB; have HB := n0_; clear n0_; (try clear hb); (try clear hi)) | ((with_reducible refine gate_dst (N := 5) rfl ?_); refine box_event ?hg (N := 5) ?hd (cs := #[.int .i64 0, .int .i64 0, .int .i64 0, .int .i64 0]) (t := 23) ?hr ?_; (case hd => rfl); (case hg => rfl); (case hr => first | (go_simp; done) | (go_simp; rfl)); intro gb436 hg w19 hbox hb; have n0_ := Aside0.mk (xP (by repeat (first | (with_reducible first | exact HB.out | apply xA | apply xN | apply xO) | exact HB.out)) hb); have n1_ := Aside0.mk (hbox); have n2_ := Aside0.mk ((by rw [hg]; exact (xZ (by repeat (first | (with_reducible first | exact HB.out | apply xA | apply xN | apply xO) | exact HB.out))) : w.heap.size ≤ gb436)); have n3_ := Aside0.mk ((by rw [hg]; exact (xZ (by repeat (first | (with_reducible first | exact HB.out | apply xA | apply xN | apply xO) | exact HB.out))) : w.heap.size ≤ gb436)); clear HB; have HB := n0_; have BK436 := n1_; have GW436 := n2_; have GE436 := n3_; clear n0_ n1_ n2_ n3_; clear hb hbox hg; have hcz20_0 : w19.cell? ⟨gb436, 0, none⟩ = some (.int .i64 0) := (blk_cell BK436.out 0).trans rfl; have hcz20_1 : w19.cell? ⟨gb436, 1, none⟩ = some (.int .i64 0) := (blk_cell BK436.out 1).trans rfl; have hcz20_2 : w19.cell? ⟨gb436, 2, none⟩ = some (.int .i64 0) := (blk_cell BK436.out 2).trans rfl; have hcz20_3 : w19.cell? ⟨gb436, 3, none⟩ = some (.int .i64 0) := (blk_cell BK436.out 3).trans rfl; have hfz20_0 := blk_frozen BK436.out 0; have hfz20_1 := blk_frozen BK436.out 1; have hfz20_2 := blk_frozen BK436.out 2; have hfz20_3 := blk_frozen BK436.out 3) | ((with_reducible refine gate_callee (f := 10) rfl ?_); refine goesL_ (some 18) rfl rfl Try.func10 (by kernel_rfl) rfl #[.int .i64 a0, .int .i64 a1] rfl (by (try simp only [List.map_toArray, List.map_cons, List.map_nil]); first | done | rfl | (simp only [List.length_drop, List.length_take]; rfl)) ?_; (with_reducible refine (tinderboxref29_Shape.calls k a0 a1 t437 t438 t439 t440 t441 _ A4.out).mono ?_); rintro e w21 ⟨rfl, hb⟩; refine ⟨_, rfl, ?_⟩; have n0_ := Aside0.mk (blk_below (g := gb436) (o := .cells #[.int .i64 t431, .int .i64 t432, .int .i64 t433, .int .i64 t434] 23 (0, 0)) (by (with_reducible repeat (first | refine xB ?_ _ | refine xC ?_ | refine xD ?_ _)); refine blk_put (cs := #[.int .i64 t431, .int .i64 t432, .int .i64 t433, .int .i64 0]) ?_ 3 _ rfl; (with_reducible repeat (first | refine xB ?_ _ | refine xC ?_ | refine xD ?_ _)); refine blk_put (cs := #[.int .i64 t431, .int .i64 t432, .int .i64 0, .int .i64 0]) ?_ 2 _ rfl; (with_reducible repeat (first | refine xB ?_ _ | refine xC ?_ | refine xD ?_ _)); refine blk_put (cs := #[.int .i64 t431, .int .i64 0, .int .i64 0, .int .i64 0]) ?_ 1 _ rfl; (with_reducible repeat (first | refine xB ?_ _ | refine xC ?_ | refine xD ?_ _)); refine blk_put (cs := #[.int .i64 0, .int .i64 0, .int .i64 0, .int .i64 0]) ?_ 0 _ rfl; (with_reducible repeat (first | refine xB ?_ _ | refine xC ?_ | refine xD ?_ _)); exact BK436.out) hb); have n1_ := Aside0.mk (xP (by repeat (first | (with_reducible first | exact HB.out | apply xA | apply xN | apply xO | refine below_set ?_ GE436.out) | exact HB.out)) hb); clear BK436; clear HB; have BK436 := n0_; have HB := n1_; clear n0_ n1_; (try clear hb); (try clear hi)) | ((with_reducible refine gate_dst (N := 7) rfl ?_); refine box_event ?hg (N := 7) ?hd (cs := #[.int .i64 0, .int .i64 0, .int .i64 0, .int .i64 0]) (t := 23) ?hr ?_; (case hd => rfl); (case hg => rfl); (case hr => first | (go_simp; done) | (go_simp; rfl)); intro gb442 hg w22 hbox hb; have n0_ := Aside0.mk (blk_below (g := gb436) (o := .cells #[.int .i64 t431, .int .i64 t432, .int .i64 t433, .int .i64 t434] 23 (0, 0)) (by (with_reducible repeat (first | refine xB ?_ _ | refine xC ?_ | refine xD ?_ _)); exact BK436.out) hb); have n1_ := Aside0.mk (xP (by repeat (first | (with_reducible first | exact HB.out | apply xA | apply xN | apply xO | refine below_set ?_ GE436.out) | exact HB.out)) hb); have n2_ := Aside0.mk (hbox); have n3_ := Aside0.mk ((by rw [hg]; exact (xZ (by repeat (first | (with_reducible first | exact HB.out | apply xA | apply xN | apply xO | refine below_set ?_ GE436.out) | exact HB.out))) : w.heap.size ≤ gb442)); have n4_ := Aside0.mk ((by rw [hg]; exact (xZ (by repeat (first | (with_reducible first | exact HB.out | apply xA | apply xN | apply xO | refine below_set ?_ GE436.out) | exact HB.out))) : w.heap.size ≤ gb442)); have n5_ := Aside0.mk ((by rw [hg]; exact Nat.ne_of_lt (blk_lt (g := gb436) (o := .cells #[.int .i64 t431, .int .i64 t432, .int .i64 t433, .int .i64 t434] 23 (0, 0)) (by (with_reducible repeat (first | refine xB ?_ _ | refine xC ?_ | refine xD ?_ _)); exact BK436.out)) : gb436 ≠ gb442)); have n6_ := Aside0.mk ((by rw [hg]; exact Nat.ne_of_gt (blk_lt (g := gb436) (o := .cells #[.int .i64 t431, .int .i64 t432, .int .i64 t433, .int .i64 t434] 23 (0, 0)) (by (with_reducible repeat (first | refine xB ?_ _ | refine xC ?_ | refine xD ?_ _)); exact BK436.out)) : gb442 ≠ gb436)); clear BK436; clear HB; have BK436 := n0_; have HB := n1_; have BK442 := n2_; have GW442 := n3_; have GE442 := n4_; have NB436_442 := n5_; have NB442_436 := n6_; clear n0_ n1_ n2_ n3_ n4_ n5_ n6_; clear hb hbox hg; have hnb23 := NB442_436.out; have hnc23 := NB436_442.out; have hcz24_0 : w22.cell? ⟨gb442, 0, none⟩ = some (.int .i64 0) := (blk_cell BK442.out 0).trans rfl; have hcz24_1 : w22.cell? ⟨gb442, 1, none⟩ = some (.int .i64 0) := (blk_cell BK442.out 1).trans rfl; have hcz24_2 : w22.cell? ⟨gb442, 2, none⟩ = some (.int .i64 0) := (blk_cell BK442.out 2).trans rfl; have hcz24_3 : w22.cell? ⟨gb442, 3, none⟩ = some (.int .i64 0) := (blk_cell BK442.out 3).trans rfl; have hfz24_0 := blk_frozen BK442.out 0; have hfz24_1 := blk_frozen BK442.out 1; have hfz24_2 := blk_frozen BK442.out 2; have hfz24_3 := blk_frozen BK442.out 3) | ((with_reducible refine gate_callee (f := 11) rfl ?_); refine goesL_ (some 21) rfl rfl Try.func11 (by kernel_rfl) rfl #[] rfl (by (try simp only [List.map_toArray, List.map_cons, List.map_nil]); first | done | rfl | (simp only [List.length_drop, List.length_take]; rfl)) ?_; (with_reducible refine (tinderboxlaw29_awake.calls k  true _ A5.out).mono ?_); rintro e w25 ⟨rfl, hb⟩; refine ⟨_, rfl, ?_⟩; have n0_ := Aside0.mk (blk_below (g := gb436) (o := .cells #[.int .i64 t431, .int .i64 t432, .int .i64 t433, .int .i64 t434] 23 (0, 0)) (by (with_reducible repeat (first | refine xB ?_ _ | refine xC ?_ | refine xD ?_ _)); refine blk_far ?_ NB436_442.out _; (with_reducible repeat (first | refine xB ?_ _ | refine xC ?_ | refine xD ?_ _)); refine blk_far ?_ NB436_442.out _; (with_reducible repeat (first | refine xB ?_ _ | refine xC ?_ | refine xD ?_ _)); refine blk_far ?_ NB436_442.out _; (with_reducible repeat (first | refine xB ?_ _ | refine xC ?_ | refine xD ?_ _)); refine blk_far ?_ NB436_442.out _; (with_reducible repeat (first | refine xB ?_ _ | refine xC ?_ | refine xD ?_ _)); exact BK436.out) hb); have n1_ := Aside0.mk (blk_below (g := gb442) (o := .cells #[.int .i64 t437, .int .i64 t438, .int .i64 t439, .int .i64 t440] 23 (0, 0)) (by (with_reducible repeat (first | refine xB ?_ _ | refine xC ?_ | refine xD ?_ _)); refine blk_put (cs := #[.int .i64 t437, .int .i64 t438, .int .i64 t439, .int .i64 0]) ?_ 3 _ rfl; (with_reducible repeat (first | refine xB ?_ _ | refine xC ?_ | refine xD ?_ _)); refine blk_put (cs := #[.int .i64 t437, .int .i64 t438, .int .i64 0, .int .i64 0]) ?_ 2 _ rfl; (with_reducible repeat (first | refine xB ?_ _ | refine xC ?_ | refine xD ?_ _)); refine blk_put (cs := #[.int .i64 t437, .int .i64 0, .int .i64 0, .int .i64 0]) ?_ 1 _ rfl; (with_reducible repeat (first | refine xB ?_ _ | refine xC ?_ | refine xD ?_ _)); refine blk_put (cs := #[.int .i64 0, .int .i64 0, .int .i64 0, .int .i64 0]) ?_ 0 _ rfl; (with_reducible repeat (first | refine xB ?_ _ | refine xC ?_ | refine xD ?_ _)); exact BK442.out) hb); have n2_ := Aside0.mk (xP (by repeat (first | (with_reducible first | exact HB.out | apply xA | apply xN | apply xO | refine below_set ?_ GE436.out | refine below_set ?_ GE442.out) | exact HB.out)) hb); clear BK436; clear BK442; clear HB; have BK436 := n0_; have BK442 := n1_; have HB := n2_; clear n0_ n1_ n2_; (try clear hb)))
    go_ret
    exact ⟨by first | rfl | (simp [errW_none, errW_some] <;> rfl) | (simp [*, errW_none, errW_some] <;> rfl), by repeat (first | (with_reducible first | exact HB.out | apply xA | apply xN | apply xO | refine below_set ?_ GE436.out | refine below_set ?_ GE442.out) | exact HB.out)⟩
  rw [if_pos c7] at H
  have c7b0 : (t435 == t441) = true := c7
  (try (have c7b1 : decide (t435 = t441) = true := by simpa using c7))
  (try (have c7b2 : (t435 == t441) = true := by simpa using c7))
  clear c7
  obtain rfl := Option.some.inj H
  go_enter Try.func3, Try.ntmps3
  go_wp2_with (first | ((with_reducible refine gate_callee (f := 9) rfl ?_); refine goesL_ (some 12) rfl rfl Try.func9 (by kernel_rfl) rfl #[.int .i64 a0, .int .i64 a1] rfl (by (try simp only [List.map_toArray, List.map_cons, List.map_nil]); first | done | rfl | (simp only [List.length_drop, List.length_take]; rfl)) ?_; (with_reducible refine (weave_ShapeOf.calls k a0 a1 t431 t432 t433 t434 t435 _ A3.out).mono ?_); rintro e w8 ⟨rfl, hb⟩; refine ⟨_, rfl, ?_⟩; have n0_ := Aside0.mk (xP (by repeat (first | (with_reducible first | exact HB.out | apply xA | apply xN | apply xO) | exact HB.out)) hb); clear HB; have HB := n0_; clear n0_; (try clear hb); (try clear hi)) | ((with_reducible refine gate_dst (N := 5) rfl ?_); refine box_event ?hg (N := 5) ?hd (cs := #[.int .i64 0, .int .i64 0, .int .i64 0, .int .i64 0]) (t := 23) ?hr ?_; (case hd => rfl); (case hg => rfl); (case hr => first | (go_simp; done) | (go_simp; rfl)); intro gb436 hg w9 hbox hb; have n0_ := Aside0.mk (xP (by repeat (first | (with_reducible first | exact HB.out | apply xA | apply xN | apply xO) | exact HB.out)) hb); have n1_ := Aside0.mk (hbox); have n2_ := Aside0.mk ((by rw [hg]; exact (xZ (by repeat (first | (with_reducible first | exact HB.out | apply xA | apply xN | apply xO) | exact HB.out))) : w.heap.size ≤ gb436)); have n3_ := Aside0.mk ((by rw [hg]; exact (xZ (by repeat (first | (with_reducible first | exact HB.out | apply xA | apply xN | apply xO) | exact HB.out))) : w.heap.size ≤ gb436)); clear HB; have HB := n0_; have BK436 := n1_; have GW436 := n2_; have GE436 := n3_; clear n0_ n1_ n2_ n3_; clear hb hbox hg; have hcz10_0 : w9.cell? ⟨gb436, 0, none⟩ = some (.int .i64 0) := (blk_cell BK436.out 0).trans rfl; have hcz10_1 : w9.cell? ⟨gb436, 1, none⟩ = some (.int .i64 0) := (blk_cell BK436.out 1).trans rfl; have hcz10_2 : w9.cell? ⟨gb436, 2, none⟩ = some (.int .i64 0) := (blk_cell BK436.out 2).trans rfl; have hcz10_3 : w9.cell? ⟨gb436, 3, none⟩ = some (.int .i64 0) := (blk_cell BK436.out 3).trans rfl; have hfz10_0 := blk_frozen BK436.out 0; have hfz10_1 := blk_frozen BK436.out 1; have hfz10_2 := blk_frozen BK436.out 2; have hfz10_3 := blk_frozen BK436.out 3) | ((with_reducible refine gate_callee (f := 10) rfl ?_); refine goesL_ (some 18) rfl rfl Try.func10 (by kernel_rfl) rfl #[.int .i64 a0, .int .i64 a1] rfl (by (try simp only [List.map_toArray, List.map_cons, List.map_nil]); first | done | rfl | (simp only [List.length_drop, List.length_take]; rfl)) ?_; (with_reducible refine (tinderboxref29_Shape.calls k a0 a1 t437 t438 t439 t440 t441 _ A4.out).mono ?_); rintro e w11 ⟨rfl, hb⟩; refine ⟨_, rfl, ?_⟩; have n0_ := Aside0.mk (blk_below (g := gb436) (o := .cells #[.int .i64 t431, .int .i64 t432, .int .i64 t433, .int .i64 t434] 23 (0, 0)) (by (with_reducible repeat (first | refine xB ?_ _ | refine xC ?_ | refine xD ?_ _)); refine blk_put (cs := #[.int .i64 t431, .int .i64 t432, .int .i64 t433, .int .i64 0]) ?_ 3 _ rfl; (with_reducible repeat (first | refine xB ?_ _ | refine xC ?_ | refine xD ?_ _)); refine blk_put (cs := #[.int .i64 t431, .int .i64 t432, .int .i64 0, .int .i64 0]) ?_ 2 _ rfl; (with_reducible repeat (first | refine xB ?_ _ | refine xC ?_ | refine xD ?_ _)); refine blk_put (cs := #[.int .i64 t431, .int .i64 0, .int .i64 0, .int .i64 0]) ?_ 1 _ rfl; (with_reducible repeat (first | refine xB ?_ _ | refine xC ?_ | refine xD ?_ _)); refine blk_put (cs := #[.int .i64 0, .int .i64 0, .int .i64 0, .int .i64 0]) ?_ 0 _ rfl; (with_reducible repeat (first | refine xB ?_ _ | refine xC ?_ | refine xD ?_ _)); exact BK436.out) hb); have n1_ := Aside0.mk (xP (by repeat (first | (with_reducible first | exact HB.out | apply xA | apply xN | apply xO | refine below_set ?_ GE436.out) | exact HB.out)) hb); clear BK436; clear HB; have BK436 := n0_; have HB := n1_; clear n0_ n1_; (try clear hb); (try clear hi)) | ((with_reducible refine gate_dst (N := 7) rfl ?_); refine box_event ?hg (N := 7) ?hd (cs := #[.int .i64 0, .int .i64 0, .int .i64 0, .int .i64 0]) (t := 23) ?hr ?_; (case hd => rfl); (case hg => rfl); (case hr => first | (go_simp; done) | (go_simp; rfl)); intro gb442 hg w12 hbox hb; have n0_ := Aside0.mk (blk_below (g := gb436) (o := .cells #[.int .i64 t431, .int .i64 t432, .int .i64 t433, .int .i64 t434] 23 (0, 0)) (by (with_reducible repeat (first | refine xB ?_ _ | refine xC ?_ | refine xD ?_ _)); exact BK436.out) hb); have n1_ := Aside0.mk (xP (by repeat (first | (with_reducible first | exact HB.out | apply xA | apply xN | apply xO | refine below_set ?_ GE436.out) | exact HB.out)) hb); have n2_ := Aside0.mk (hbox); have n3_ := Aside0.mk ((by rw [hg]; exact (xZ (by repeat (first | (with_reducible first | exact HB.out | apply xA | apply xN | apply xO | refine below_set ?_ GE436.out) | exact HB.out))) : w.heap.size ≤ gb442)); have n4_ := Aside0.mk ((by rw [hg]; exact (xZ (by repeat (first | (with_reducible first | exact HB.out | apply xA | apply xN | apply xO | refine below_set ?_ GE436.out) | exact HB.out))) : w.heap.size ≤ gb442)); have n5_ := Aside0.mk ((by rw [hg]; exact Nat.ne_of_lt (blk_lt (g := gb436) (o := .cells #[.int .i64 t431, .int .i64 t432, .int .i64 t433, .int .i64 t434] 23 (0, 0)) (by (with_reducible repeat (first | refine xB ?_ _ | refine xC ?_ | refine xD ?_ _)); exact BK436.out)) : gb436 ≠ gb442)); have n6_ := Aside0.mk ((by rw [hg]; exact Nat.ne_of_gt (blk_lt (g := gb436) (o := .cells #[.int .i64 t431, .int .i64 t432, .int .i64 t433, .int .i64 t434] 23 (0, 0)) (by (with_reducible repeat (first | refine xB ?_ _ | refine xC ?_ | refine xD ?_ _)); exact BK436.out)) : gb442 ≠ gb436)); clear BK436; clear HB; have BK436 := n0_; have HB := n1_; have BK442 := n2_; have GW442 := n3_; have GE442 := n4_; have NB436_442 := n5_; have NB442_436 := n6_; clear n0_ n1_ n2_ n3_ n4_ n5_ n6_; clear hb hbox hg; have hnb13 := NB442_436.out; have hnc13 := NB436_442.out; have hcz14_0 : w12.cell? ⟨gb442, 0, none⟩ = some (.int .i64 0) := (blk_cell BK442.out 0).trans rfl; have hcz14_1 : w12.cell? ⟨gb442, 1, none⟩ = some (.int .i64 0) := (blk_cell BK442.out 1).trans rfl; have hcz14_2 : w12.cell? ⟨gb442, 2, none⟩ = some (.int .i64 0) := (blk_cell BK442.out 2).trans rfl; have hcz14_3 : w12.cell? ⟨gb442, 3, none⟩ = some (.int .i64 0) := (blk_cell BK442.out 3).trans rfl; have hfz14_0 := blk_frozen BK442.out 0; have hfz14_1 := blk_frozen BK442.out 1; have hfz14_2 := blk_frozen BK442.out 2; have hfz14_3 := blk_frozen BK442.out 3) | ((with_reducible refine gate_callee (f := 11) rfl ?_); refine goesL_ (some 21) rfl rfl Try.func11 (by kernel_rfl) rfl #[] rfl (by (try simp only [List.map_toArray, List.map_cons, List.map_nil]); first | done | rfl | (simp only [List.length_drop, List.length_take]; rfl)) ?_; (with_reducible refine (tinderboxlaw29_awake.calls k  true _ A5.out).mono ?_); rintro e w15 ⟨rfl, hb⟩; refine ⟨_, rfl, ?_⟩; have n0_ := Aside0.mk (blk_below (g := gb436) (o := .cells #[.int .i64 t431, .int .i64 t432, .int .i64 t433, .int .i64 t434] 23 (0, 0)) (by (with_reducible repeat (first | refine xB ?_ _ | refine xC ?_ | refine xD ?_ _)); refine blk_far ?_ NB436_442.out _; (with_reducible repeat (first | refine xB ?_ _ | refine xC ?_ | refine xD ?_ _)); refine blk_far ?_ NB436_442.out _; (with_reducible repeat (first | refine xB ?_ _ | refine xC ?_ | refine xD ?_ _)); refine blk_far ?_ NB436_442.out _; (with_reducible repeat (first | refine xB ?_ _ | refine xC ?_ | refine xD ?_ _)); refine blk_far ?_ NB436_442.out _; (with_reducible repeat (first | refine xB ?_ _ | refine xC ?_ | refine xD ?_ _)); exact BK436.out) hb); have n1_ := Aside0.mk (blk_below (g := gb442) (o := .cells #[.int .i64 t437, .int .i64 t438, .int .i64 t439, .int .i64 t440] 23 (0, 0)) (by (with_reducible repeat (first | refine xB ?_ _ | refine xC ?_ | refine xD ?_ _)); refine blk_put (cs := #[.int .i64 t437, .int .i64 t438, .int .i64 t439, .int .i64 0]) ?_ 3 _ rfl; (with_reducible repeat (first | refine xB ?_ _ | refine xC ?_ | refine xD ?_ _)); refine blk_put (cs := #[.int .i64 t437, .int .i64 t438, .int .i64 0, .int .i64 0]) ?_ 2 _ rfl; (with_reducible repeat (first | refine xB ?_ _ | refine xC ?_ | refine xD ?_ _)); refine blk_put (cs := #[.int .i64 t437, .int .i64 0, .int .i64 0, .int .i64 0]) ?_ 1 _ rfl; (with_reducible repeat (first | refine xB ?_ _ | refine xC ?_ | refine xD ?_ _)); refine blk_put (cs := #[.int .i64 0, .int .i64 0, .int .i64 0, .int .i64 0]) ?_ 0 _ rfl; (with_reducible repeat (first | refine xB ?_ _ | refine xC ?_ | refine xD ?_ _)); exact BK442.out) hb); have n2_ := Aside0.mk (xP (by repeat (first | (with_reducible first | exact HB.out | apply xA | apply xN | apply xO | refine below_set ?_ GE436.out | refine below_set ?_ GE442.out) | exact HB.out)) hb); clear BK436; clear BK442; clear HB; have BK436 := n0_; have BK442 := n1_; have HB := n2_; clear n0_ n1_ n2_; (try clear hb); have hcz16_0 : w15.cell? ⟨gb436, 0, none⟩ = some (.int .i64 t431) := (blk_cell BK436.out 0).trans rfl; have hcz16_1 : w15.cell? ⟨gb436, 1, none⟩ = some (.int .i64 t432) := (blk_cell BK436.out 1).trans rfl; have hcz16_2 : w15.cell? ⟨gb436, 2, none⟩ = some (.int .i64 t433) := (blk_cell BK436.out 2).trans rfl; have hcz16_3 : w15.cell? ⟨gb436, 3, none⟩ = some (.int .i64 t434) := (blk_cell BK436.out 3).trans rfl; have hfz16_0 := blk_frozen BK436.out 0; have hfz16_1 := blk_frozen BK436.out 1; have hfz16_2 := blk_frozen BK436.out 2; have hfz16_3 := blk_frozen BK436.out 3; have hcz17_0 : w15.cell? ⟨gb442, 0, none⟩ = some (.int .i64 t437) := (blk_cell BK442.out 0).trans rfl; have hcz17_1 : w15.cell? ⟨gb442, 1, none⟩ = some (.int .i64 t438) := (blk_cell BK442.out 1).trans rfl; have hcz17_2 : w15.cell? ⟨gb442, 2, none⟩ = some (.int .i64 t439) := (blk_cell BK442.out 2).trans rfl; have hcz17_3 : w15.cell? ⟨gb442, 3, none⟩ = some (.int .i64 t440) := (blk_cell BK442.out 3).trans rfl; have hfz17_0 := blk_frozen BK442.out 0; have hfz17_1 := blk_frozen BK442.out 1; have hfz17_2 := blk_frozen BK442.out 2; have hfz17_3 := blk_frozen BK442.out 3))
  go_ret
  exact ⟨by first | rfl | (simp [errW_none, errW_some] <;> rfl) | (simp [*, errW_none, errW_some] <;> rfl), by repeat (first | (with_reducible first | exact HB.out | apply xA | apply xN | apply xO | refine below_set ?_ GE436.out | refine below_set ?_ GE442.out) | exact HB.out)⟩
def tinderboxlaw29_WeaveShapes.Pure : Prop := ∀ (a0 : Int) (a1 : Int), (Lit.int .i64 a0).wf = true → (Lit.int .i64 a1).wf = true → ∃ k, tinderboxlaw29_WeaveShapes.f k a0 a1 = some true
theorem tinderboxlaw29_WeaveShapes.walk (P : tinderboxlaw29_WeaveShapes.Pure) (a0 : Int) (a1 : Int) (w : World) (w0 : (Lit.int .i64 a0).wf = true) (w1 : (Lit.int .i64 a1).wf = true) :
    Calls Try.prog 3 #[.int .i64 a0, .int .i64 a1] w fun e w' => e = .returned (.bool true) ∧ Below w.heap.size w w' := by
  obtain ⟨k, h⟩ := P a0 a1 w0 w1
  refine (tinderboxlaw29_WeaveShapes.calls k a0 a1 true w h).mono ?_
  rintro e w' ⟨rfl, hd⟩
  exact ⟨rfl, hd⟩
mutual
def tinderboxref29_Mask.j0 : Nat → Int → Int → Option (ByteArray)
  | 0, _, _ => none
  | k + 1, x1, x5 => tinderboxref29_Mask.l0 k x1 x5 (([] : List Int)) 0
def tinderboxref29_Mask.l0 : Nat → Int → Int → List Int → Int → Option (ByteArray)
  | 0, _, _, _, _ => none
  | k + 1, x1, x5, x6, x7 => if x7 < x1 then (tinderboxref29_Mask.l1 k x1 x5 x6 x7 0) else (some (strOfNums x6))
def tinderboxref29_Mask.l1 : Nat → Int → Int → List Int → Int → Int → Option (ByteArray)
  | 0, _, _, _, _, _ => none
  | k + 1, x1, x5, x6, x7, x8 => if x8 < 8 then (if (Int.tmod x5 2) = 1 then (tinderboxref29_Mask.l1 k x1 (Go.bits .xor .u64 (IntKind.u64.wrap (Int.tdiv x5 2)) 46080) x6 x7 (wrap64 (x8 + 1))) else (tinderboxref29_Mask.l1 k x1 (IntKind.u64.wrap (Int.tdiv x5 2)) x6 x7 (wrap64 (x8 + 1)))) else (if x6.length < 140737488355328 then (tinderboxref29_Mask.l0 k x1 x5 (x6 ++ [(Int.tmod x5 256) % 256]) (wrap64 (x7 + 1))) else (none))
end
def tinderboxref29_Mask.f (k : Nat) (a0 : Int) (a1 : Int) : Option (ByteArray) := if (Go.bits .xor .u64 (Int.tmod (IntKind.u64.wrap ((IntKind.u64.wrap (IntKind.u16.wrap (a0))) * 40503)) 65536) 44257) = 0 then (tinderboxref29_Mask.j0 k a1 44257) else (tinderboxref29_Mask.j0 k a1 (Go.bits .xor .u64 (Int.tmod (IntKind.u64.wrap ((IntKind.u64.wrap (IntKind.u16.wrap (a0))) * 40503)) 65536) 44257))
theorem tinderboxref29_Mask.mono_l : ∀ k, (∀ y0 y1, LeO (tinderboxref29_Mask.j0 k y0 y1) (tinderboxref29_Mask.j0 (k + 1) y0 y1)) ∧ (∀ y0 y1 y2 y3, LeO (tinderboxref29_Mask.l0 k y0 y1 y2 y3) (tinderboxref29_Mask.l0 (k + 1) y0 y1 y2 y3)) ∧ (∀ y0 y1 y2 y3 y4, LeO (tinderboxref29_Mask.l1 k y0 y1 y2 y3 y4) (tinderboxref29_Mask.l1 (k + 1) y0 y1 y2 y3 y4))
  | 0 => ⟨fun _ _ r h => by simp [tinderboxref29_Mask.j0] at h, fun _ _ _ _ r h => by simp [tinderboxref29_Mask.l0] at h, fun _ _ _ _ _ r h => by simp [tinderboxref29_Mask.l1] at h⟩
  | k + 1 => by
    obtain ⟨ih0, ih1, ih2⟩ := tinderboxref29_Mask.mono_l k
    refine ⟨?_, ?_, ?_⟩
    · intro y0 y1
      unfold tinderboxref29_Mask.j0
      repeat' first
      | (with_reducible exact ih0 _ _)
      | (with_reducible exact ih1 _ _ _ _)
      | (with_reducible exact ih2 _ _ _ _ _)
      | (with_reducible exact LeO.refl _)
      | (with_reducible exact LeO.none _)
      | (with_reducible refine LeO.ite ?_ ?_)
      | (with_reducible refine LeO.bind ?_ (fun _ => ?_))
      | exact ih0 _ _
      | exact ih1 _ _ _ _
      | exact ih2 _ _ _ _ _
    · intro y0 y1 y2 y3
      unfold tinderboxref29_Mask.l0
      repeat' first
      | (with_reducible exact ih0 _ _)
      | (with_reducible exact ih1 _ _ _ _)
      | (with_reducible exact ih2 _ _ _ _ _)
      | (with_reducible exact LeO.refl _)
      | (with_reducible exact LeO.none _)
      | (with_reducible refine LeO.ite ?_ ?_)
      | (with_reducible refine LeO.bind ?_ (fun _ => ?_))
      | exact ih0 _ _
      | exact ih1 _ _ _ _
      | exact ih2 _ _ _ _ _
    · intro y0 y1 y2 y3 y4
      unfold tinderboxref29_Mask.l1
      repeat' first
      | (with_reducible exact ih0 _ _)
      | (with_reducible exact ih1 _ _ _ _)
      | (with_reducible exact ih2 _ _ _ _ _)
      | (with_reducible exact LeO.refl _)
      | (with_reducible exact LeO.none _)
      | (with_reducible refine LeO.ite ?_ ?_)
      | (with_reducible refine LeO.bind ?_ (fun _ => ?_))
      | exact ih0 _ _
      | exact ih1 _ _ _ _
      | exact ih2 _ _ _ _ _
theorem tinderboxref29_Mask.mono : ∀ a0 a1 k, LeO (tinderboxref29_Mask.f k a0 a1) (tinderboxref29_Mask.f (k + 1) a0 a1) := by
  intro a0 a1 k
  obtain ⟨ih0, ih1, ih2⟩ := tinderboxref29_Mask.mono_l k
  unfold tinderboxref29_Mask.f
  repeat' first
      | (with_reducible exact ih0 _ _)
      | (with_reducible exact ih1 _ _ _ _)
      | (with_reducible exact ih2 _ _ _ _ _)
      | (with_reducible exact LeO.refl _)
      | (with_reducible exact LeO.none _)
      | (with_reducible refine LeO.ite ?_ ?_)
      | (with_reducible refine LeO.bind ?_ (fun _ => ?_))
      | exact ih0 _ _
      | exact ih1 _ _ _ _
      | exact ih2 _ _ _ _ _
set_option maxHeartbeats 8000000 in
set_option maxRecDepth 100000 in
theorem tinderboxref29_Mask.calls (k : Nat) (a0 : Int) (a1 : Int) (r : ByteArray) (w : World) (h : tinderboxref29_Mask.f k a0 a1 = some r) :
    Calls Try.prog 13 #[.int .i64 a0, .int .i64 a1] w fun e w' => e = .returned (.string r) ∧ Below w.heap.size w w' := by
  have HB := Aside0.mk (Below.refl w.heap.size w)
  have H : (if (Go.bits .xor .u64 (Int.tmod (IntKind.u64.wrap ((IntKind.u64.wrap (IntKind.u16.wrap (a0))) * 40503)) 65536) 44257) = 0 then (tinderboxref29_Mask.j0 k a1 44257) else (tinderboxref29_Mask.j0 k a1 (Go.bits .xor .u64 (Int.tmod (IntKind.u64.wrap ((IntKind.u64.wrap (IntKind.u16.wrap (a0))) * 40503)) 65536) 44257))) = some r := h
  clear h
  have HC3 := Aside0.mk H
  clear H
  go_enter Try.func13, Try.ntmps13
  go_upto_if 17 with (fail)
  go_cut [5] (fun v5 wc => ∃ (kq : Nat) (x5_2 : Int), v5 = .int .u64 x5_2 ∧ Aside0 (tinderboxref29_Mask.j0 kq a1 x5_2 = some r) ∧ Aside0 (kq ≤ k) ∧ Aside0 (Below w.heap.size w wc))
  case first =>
    have H := HC3.out
    clear HC3
    by_cases c4 : (Go.bits .xor .u64 (Int.tmod (IntKind.u64.wrap ((IntKind.u64.wrap (IntKind.u16.wrap (a0))) * 40503)) 65536) 44257) = 0
    · rw [if_pos c4] at H
      have c4b0 : ((Go.bits .xor .u64 (Int.tmod (IntKind.u64.wrap ((IntKind.u64.wrap (IntKind.u16.wrap (a0))) * 40503)) 65536) 44257) == 0) = true := beq_iff_eq.mpr c4
      have c4b1 : ((Go.bits .xor .u64 (Int.tmod (IntKind.u64.wrap ((IntKind.u64.wrap (IntKind.u16.wrap (a0))) * 40503)) 65536) 44257) != 0) = false := bne_eq_false_iff_eq.mpr c4
      clear c4
      (first | rw [c4b0] | (simp only [i64_w, i32_w]; rw [c4b0]) | skip)
      have H' := Aside0.mk H
      clear H
      go_wp2
      go_meet
      case rel => exact ⟨_, (44257), (by first | rfl | (simp; done) | (simp [*]; done)), H', ⟨by first | omega | exact Nat.le_refl _⟩, ⟨by repeat (first | (with_reducible first | exact HB.out | apply xA | apply xN | apply xO) | exact HB.out)⟩⟩
    rw [if_neg c4] at H
    have c4b0 : ((Go.bits .xor .u64 (Int.tmod (IntKind.u64.wrap ((IntKind.u64.wrap (IntKind.u16.wrap (a0))) * 40503)) 65536) 44257) == 0) = false := beq_eq_false_iff_ne.mpr c4
    have c4b1 : ((Go.bits .xor .u64 (Int.tmod (IntKind.u64.wrap ((IntKind.u64.wrap (IntKind.u16.wrap (a0))) * 40503)) 65536) 44257) != 0) = true := bne_iff_ne.mpr c4
    (first | rw [c4b0] | (simp only [i64_w, i32_w]; rw [c4b0]) | skip)
    have H' := Aside0.mk H
    clear H
    go_wp2
    go_meet
    case rel => exact ⟨_, (Go.bits .xor .u64 (Int.tmod (IntKind.u64.wrap ((IntKind.u64.wrap (IntKind.u16.wrap (a0))) * 40503)) 65536) 44257), (by first | rfl | (simp; done) | (simp [*]; done)), H', ⟨by first | omega | exact Nat.le_refl _⟩, ⟨by repeat (first | (with_reducible first | exact HB.out | apply xA | apply xN | apply xO) | exact HB.out)⟩⟩
  case rest =>
    clear HC3
    try clear c1
    try clear p2
    try clear c4
    try clear c4b0
    try clear c4b1
    obtain ⟨kq, x5_2, rfl, HA, HJ2, HB⟩ := hcut
    cases kq with
    | zero => exact absurd HA.out (by simp [tinderboxref29_Mask.j0])
    | succ kj2 =>
      have H := HA.out
      clear HA
      simp only [tinderboxref29_Mask.j0] at H
      obtain ⟨y444, hy444⟩ : ∃ y_ : List Int, y_ = (([] : List Int)) := ⟨_, rfl⟩
      replace H : (tinderboxref29_Mask.l0 kj2 a1 x5_2 y444 0) = some r := by first | (have H2_ := (Option.bind_some _ _).symm.trans H; rw [hy444]; with_reducible exact H2_) | (rw [hy444]; exact H) | exact H
      have Ny444 := Aside0.mk hy444
      clear hy444
      have H' := Aside0.mk H
      clear H
      go_wp2_with (first | ((with_reducible refine gate_dst (N := 18) rfl ?_); refine Kd.R_lit (Kd.int .u8) _ 5 ?hg (N := 18) ?hd (xs := ([] : List Int)) (inner := []) (ok := fun _ => True) (okp := fun _ => True) ?hr ?hp (fun _ hk => hk) trivial (Below.refl _ _) (Nat.le_refl _) (by simp) ?_; (case hd => rfl); (case hg => rfl); (case hr => first | (go_simp; done) | (go_simp; rfl)); (case hp => exact (Reps.none _ _)); intro v445 w5 ho6 hb hg_ hnew_; clear hg_ hnew_; (first | rw [← Ny444.out] at ho6 | (simp only [Int.reduceToNat] at ho6; rw [← Ny444.out] at ho6)); have n0_ := Aside0.mk (Kd.R_lower ho6 (xZ (by repeat (first | (with_reducible first | exact HB.out | apply xA | apply xN | apply xO) | exact HB.out)))); have n1_ := Aside0.mk (xP (by repeat (first | (with_reducible first | exact HB.out | apply xA | apply xN | apply xO) | exact HB.out)) hb); clear HB; have HO446 := n0_; have HB := n1_; clear n0_ n1_; clear hb ho6))
      go_loopg [5, 6, 7] kj2 (fun kq v5 v6 v7 w' => ∃ (x5_2 : Int) (x6_2 : List Int) (x7_2 : Int), v5 = .int .u64 x5_2 ∧ v7 = .int .i64 x7_2 ∧ Aside0 (tinderboxref29_Mask.l0 kq a1 x5_2 x6_2 x7_2 = some r) ∧ Aside0 (kq ≤ kj2) ∧ Aside0 (Kd.R (Kd.int .u8) 5 w' w.heap.size (fun _ => True) v6 x6_2) ∧ Aside0 (Below w.heap.size w w'))
      case atStart => exact ⟨(x5_2), (y444), (0), (by first | rfl | (simp; done) | (simp [*]; done)), (by first | rfl | (simp; done) | (simp [*]; done)), H', ⟨Nat.le_refl _⟩, ⟨by (with_reducible repeat (first | apply xR | apply xS | apply xT)); exact HO446.out⟩, ⟨by repeat (first | (with_reducible first | exact HB.out | apply xA | apply xN | apply xO) | exact HB.out)⟩⟩
      case round =>
        clear H'
        try clear c1
        try clear p2
        try clear c4
        try clear c4b0
        try clear c4b1
        try clear p2
        obtain ⟨x5_2, x6_2, x7_2, rfl, rfl, HA, HK2, HO_6, HB⟩ := hrel
        cases gk with
        | zero => exact absurd HA.out (by simp [tinderboxref29_Mask.l0])
        | succ k2 =>
          have H := HA.out
          clear HA
          simp only [tinderboxref29_Mask.l0] at H
          by_cases c7 : x7_2 < a1
          rotate_left
          · rw [if_neg c7] at H
            have c7b0 : decide (x7_2 < a1) = false := decide_eq_false c7
            clear c7
            obtain rfl := Option.some.inj H
            have hcv12 := own_string (P := Try.prog) Try.underlying40 Try.underlying5 Try.underlying9 (Kd.own_of_R HO_6.out)
            go_wp2
            go_ret
            exact ⟨by first | rfl | (simp [errW_none, errW_some] <;> rfl) | (simp [*, errW_none, errW_some] <;> rfl), by repeat (first | (with_reducible first | exact HB.out | apply xA | apply xN | apply xO) | exact HB.out)⟩
          rw [if_pos c7] at H
          have c7b0 : decide (x7_2 < a1) = true := decide_eq_true c7
          clear c7
          have H' := Aside0.mk H
          clear H
          go_wp2
          go_loopg [5, 8] k2 (fun kq v5 v8 w' => ∃ (x5_3 : Int) (x8_3 : Int), v5 = .int .u64 x5_3 ∧ v8 = .int .i64 x8_3 ∧ Aside0 (tinderboxref29_Mask.l1 kq a1 x5_3 x6_2 x7_2 x8_3 = some r) ∧ Aside0 (kq ≤ k2) ∧ Aside0 (Kd.R (Kd.int .u8) 5 w' w.heap.size (fun _ => True) u6 x6_2) ∧ Aside0 (Below w.heap.size w w'))
          case atStart => exact ⟨(x5_2), (0), (by first | rfl | (simp; done) | (simp [*]; done)), (by first | rfl | (simp; done) | (simp [*]; done)), H', ⟨Nat.le_refl _⟩, ⟨by (with_reducible repeat (first | apply xR | apply xS | apply xT)); exact HO_6.out⟩, ⟨by repeat (first | (with_reducible first | exact HB.out | apply xA | apply xN | apply xO) | exact HB.out)⟩⟩
          case round =>
            clear H'
            try clear c1
            try clear p2
            try clear c4
            try clear c4b0
            try clear c4b1
            try clear c7
            try clear c7b0
            try clear p2
            obtain ⟨x5_3, x8_3, rfl, rfl, HA, HK3, HO_6, HB⟩ := hrel
            cases gk with
            | zero => exact absurd HA.out (by simp [tinderboxref29_Mask.l1])
            | succ k3 =>
              have H := HA.out
              clear HA
              simp only [tinderboxref29_Mask.l1] at H
              by_cases c8 : x8_3 < 8
              · rw [if_pos c8] at H
                have c8b0 : decide (x8_3 < 8) = true := decide_eq_true c8
                clear c8
                by_cases c9 : (Int.tmod x5_3 2) = 1
                rotate_left
                · rw [if_neg c9] at H
                  have c9b0 : ((Int.tmod x5_3 2) == 1) = false := beq_eq_false_iff_ne.mpr c9
                  have c9b1 : ((Int.tmod x5_3 2) != 1) = true := bne_iff_ne.mpr c9
                  have H' := Aside0.mk H
                  clear H
                  go_wp2
                  go_roundg k3
                  case measure => have := HJ2.out; have := HK2.out; have := HK3.out; omega
                  case rel => exact ⟨(IntKind.u64.wrap (Int.tdiv x5_3 2)), (wrap64 (x8_3 + 1)), (by first | rfl | (simp; done) | (simp [*]; done)), (by first | rfl | (simp; done) | (simp [*]; done)), H', ⟨by have := HJ2.out; have := HK2.out; have := HK3.out; omega⟩, ⟨by (with_reducible repeat (first | apply xR | apply xS | apply xT)); exact HO_6.out⟩, ⟨by repeat (first | (with_reducible first | exact HB.out | apply xA | apply xN | apply xO) | exact HB.out)⟩⟩
                rw [if_pos c9] at H
                have c9b0 : ((Int.tmod x5_3 2) == 1) = true := beq_iff_eq.mpr c9
                have c9b1 : ((Int.tmod x5_3 2) != 1) = false := bne_eq_false_iff_eq.mpr c9
                clear c9
                have H' := Aside0.mk H
                clear H
                go_wp2
                go_roundg k3
                case measure => have := HJ2.out; have := HK2.out; have := HK3.out; omega
                case rel => exact ⟨(Go.bits .xor .u64 (IntKind.u64.wrap (Int.tdiv x5_3 2)) 46080), (wrap64 (x8_3 + 1)), (by first | rfl | (simp; done) | (simp [*]; done)), (by first | rfl | (simp; done) | (simp [*]; done)), H', ⟨by have := HJ2.out; have := HK2.out; have := HK3.out; omega⟩, ⟨by (with_reducible repeat (first | apply xR | apply xS | apply xT)); exact HO_6.out⟩, ⟨by repeat (first | (with_reducible first | exact HB.out | apply xA | apply xN | apply xO) | exact HB.out)⟩⟩
              rw [if_neg c8] at H
              have c8b0 : decide (x8_3 < 8) = false := decide_eq_false c8
              clear c8
              by_cases c10 : x6_2.length < 140737488355328
              rotate_left
              · rw [if_neg c10] at H
                exact absurd H (by simp)
              rw [if_pos c10] at H
              have LMc10 := Aside0.mk c10
              clear c10
              obtain ⟨y447, hy447⟩ : ∃ y_ : List Int, y_ = (x6_2 ++ [(Int.tmod x5_3 256) % 256]) := ⟨_, rfl⟩
              replace H : (tinderboxref29_Mask.l0 k3 a1 x5_3 y447 (wrap64 (x7_2 + 1))) = some r := by first | (have H2_ := (Option.bind_some _ _).symm.trans H; rw [hy447]; with_reducible exact H2_) | (rw [hy447]; exact H) | exact H
              have Ny447 := Aside0.mk hy447
              clear hy447
              have H' := Aside0.mk H
              clear H
              go_wp2_with (first | ((with_reducible refine gate_builtin (b := .append) (xs := #[.tmp 36, .tmp 40]) rfl ?_); at_builtin; refine Kd.R_append (Kd.int .u8) (w0 := w) w.heap.size rfl (.tmp 36) (.tmp 40) 40 5 (.int .u8 0) 1 rfl Try.underlying40 info5 rfl (by decide) (by omega) u6 x6_2 ((Int.tmod x5_3 256) % 256) [.int .u8 ((Int.tmod x5_3 256) % 256)] (fun _ => True) (fun _ => False) rfl rfl ?aP (fun _ hk => hk.elim) ?aF ?aO ?aB ?aS ?aL ?_; (case aP => exact rfl); (case aB => exact (by repeat (first | (with_reducible first | exact HB.out | apply xA | apply xN | apply xO) | exact HB.out))); (case aF => exact (fun _ _ => trivial)); (case aO => exact (by (with_reducible repeat (first | apply xR | apply xS | apply xT)); exact HO_6.out)); (case aS => exact (xZ (by repeat (first | (with_reducible first | exact HB.out | apply xA | apply xN | apply xO) | exact HB.out)))); (case aL => have := LMc10.out; omega); intro v448 w11 ho hb hg hat; rw [← Ny447.out] at ho; have n0_ := Aside0.mk (hb); have n1_ := Aside0.mk (ho); clear HB; clear HO_6; have HB := n0_; have HO449 := n1_; clear n0_ n1_; clear ho hb hg hat))
              go_roundg k3
              case measure => have := HJ2.out; have := HK2.out; have := HK3.out; omega
              case rel => exact ⟨(x5_3), (y447), (wrap64 (x7_2 + 1)), (by first | rfl | (simp; done) | (simp [*]; done)), (by first | rfl | (simp; done) | (simp [*]; done)), H', ⟨by have := HJ2.out; have := HK2.out; have := HK3.out; omega⟩, ⟨by (with_reducible repeat (first | apply xR | apply xS | apply xT)); exact HO449.out⟩, ⟨by repeat (first | (with_reducible first | exact HB.out | apply xA | apply xN | apply xO) | exact HB.out)⟩⟩
def tinderboxlaw29_WeaveMasks.f (k : Nat) (a0 : Int) (a1 : Int) (a2 : ByteArray) : Option (Bool) := if 0 ≤ (mn (a2.size : Int) 100) then (if (mn (a2.size : Int) 100) ≤ (a2.size : Int) then ((weave_Mask.f k a0 (Int.tmod a1 300)).bind fun t450 => ((weave_Mask.f k a0 ((a2.extract 0 ((mn (a2.size : Int) 100) : Int).toNat).size : Int)).bind fun t451 => ((tinderboxlaw29_awake.f k).bind fun t452 => (if t452 = true then ((tinderboxref29_Mask.f k a0 (Int.tmod a1 300)).bind fun t453 => (if t450.toList = t453.toList then ((weave_Mix.f k (a2.extract 0 ((mn (a2.size : Int) 100) : Int).toNat) t451).bind fun t454 => ((weave_Mix.f k t454 t451).bind fun t455 => (if t455.toList = (a2.extract 0 ((mn (a2.size : Int) 100) : Int).toNat).toList then ((weave_Mix.f k (a2.extract 0 ((mn (a2.size : Int) 100) : Int).toNat) (⟨#[97, 98]⟩ : ByteArray)).bind fun t456 => (some ((t456.size : Int) == (mn ((a2.extract 0 ((mn (a2.size : Int) 100) : Int).toNat).size : Int) 2)))) else (some false)))) else (some false))) else (some false))))) else (none)) else (none)
theorem tinderboxlaw29_WeaveMasks.mono : ∀ a0 a1 a2 k, LeO (tinderboxlaw29_WeaveMasks.f k a0 a1 a2) (tinderboxlaw29_WeaveMasks.f (k + 1) a0 a1 a2) := by
  intro a0 a1 a2 k
  unfold tinderboxlaw29_WeaveMasks.f
  repeat' first
      | (with_reducible exact tinderboxlaw29_awake.mono _)
      | (with_reducible exact tinderboxref29_Mask.mono _ _ _)
      | (with_reducible exact weave_Mask.mono _ _ _)
      | (with_reducible exact weave_Mix.mono _ _ _)
      | (with_reducible exact LeO.refl _)
      | (with_reducible exact LeO.none _)
      | (with_reducible refine LeO.ite ?_ ?_)
      | (with_reducible refine LeO.bind ?_ (fun _ => ?_))
set_option maxHeartbeats 8000000 in
set_option maxRecDepth 100000 in
theorem tinderboxlaw29_WeaveMasks.calls (k : Nat) (a0 : Int) (a1 : Int) (a2 : ByteArray) (r : Bool) (w : World) (h : tinderboxlaw29_WeaveMasks.f k a0 a1 a2 = some r) :
    Calls Try.prog 4 #[.int .i64 a0, .int .i64 a1, .string a2] w fun e w' => e = .returned (.bool r) ∧ Below w.heap.size w w' := by
  have HB := Aside0.mk (Below.refl w.heap.size w)
  have H : (if 0 ≤ (mn (a2.size : Int) 100) then (if (mn (a2.size : Int) 100) ≤ (a2.size : Int) then ((weave_Mask.f k a0 (Int.tmod a1 300)).bind fun t450 => ((weave_Mask.f k a0 ((a2.extract 0 ((mn (a2.size : Int) 100) : Int).toNat).size : Int)).bind fun t451 => ((tinderboxlaw29_awake.f k).bind fun t452 => (if t452 = true then ((tinderboxref29_Mask.f k a0 (Int.tmod a1 300)).bind fun t453 => (if t450.toList = t453.toList then ((weave_Mix.f k (a2.extract 0 ((mn (a2.size : Int) 100) : Int).toNat) t451).bind fun t454 => ((weave_Mix.f k t454 t451).bind fun t455 => (if t455.toList = (a2.extract 0 ((mn (a2.size : Int) 100) : Int).toNat).toList then ((weave_Mix.f k (a2.extract 0 ((mn (a2.size : Int) 100) : Int).toNat) (⟨#[97, 98]⟩ : ByteArray)).bind fun t456 => (some ((t456.size : Int) == (mn ((a2.extract 0 ((mn (a2.size : Int) 100) : Int).toNat).size : Int) 2)))) else (some false)))) else (some false))) else (some false))))) else (none)) else (none)) = some r := h
  clear h
  obtain ⟨ji4, hji4⟩ : ∃ j_ : Int, (mn (a2.size : Int) 100) = j_ := ⟨_, rfl⟩
  first | rw [hji4] at H | simp only [hji4] at H
  (try (have hji4h : ji4 ≤ 100 := by (rw [← hji4]; unfold mn; (repeat' split) <;> omega)))
  (try (have hji4g : ji4 ≤ 64 := by omega))
  (try (have hji4l : 0 ≤ ji4 := by (rw [← hji4]; unfold mn; (repeat' split) <;> omega)))
  (try (have hji4m : 0 ≤ ji4 := by omega))
  have hji4_ : (if 100 < (a2.size : Int) then 100 else (a2.size : Int)) = ji4 := hji4
  by_cases c5 : 0 ≤ (ji4)
  rotate_left
  · rw [if_neg c5] at H
    exact absurd H (by simp)
  rw [if_pos c5] at H
  have c5b0 := eq_true c5
  have c5b1 : decide (0 ≤ (ji4)) = true := decide_eq_true c5
  clear c5
  by_cases c6 : (ji4) ≤ (a2.size : Int)
  rotate_left
  · rw [if_neg c6] at H
    exact absurd H (by simp)
  rw [if_pos c6] at H
  have c6b0 := eq_true c6
  have c6b1 : decide ((ji4) ≤ (a2.size : Int)) = true := decide_eq_true c6
  clear c6
  obtain ⟨js7, hjs7⟩ : ∃ j_ : ByteArray, (a2.extract 0 ((ji4) : Int).toNat) = j_ := ⟨_, rfl⟩
  first | rw [hjs7] at H | simp only [hjs7] at H
  replace H := Option.bind_eq_some_iff.mp H
  obtain ⟨t450, A80, H⟩ := H
  have A8 := Aside0.mk A80
  clear A80
  replace H := Option.bind_eq_some_iff.mp H
  obtain ⟨t451, A90, H⟩ := H
  have A9 := Aside0.mk A90
  clear A90
  replace H := Option.bind_eq_some_iff.mp H
  obtain ⟨t452, A100, H⟩ := H
  have A10 := Aside0.mk A100
  clear A100
  by_cases c11 : t452 = true
  rotate_left
  · replace c11 := Bool.eq_false_iff.mpr c11
    subst c11
    rw [if_neg (show ¬ (false = true) by decide)] at H
    obtain rfl := Option.some.inj H
    go_enter Try.func4, Try.ntmps4
    go_wp2_with (first | ((with_reducible refine gate_callee (f := 12) rfl ?_); refine goesL_ (some 20) rfl rfl Try.func12 (by kernel_rfl) rfl #[.int .i64 a0, .int .i64 (Int.tmod a1 300)] rfl (by (try simp only [List.map_toArray, List.map_cons, List.map_nil]); first | done | rfl | (simp only [List.length_drop, List.length_take]; rfl)) ?_; (with_reducible refine (weave_Mask.calls k a0 (Int.tmod a1 300) t450 _ A8.out).mono ?_); rintro e w36 ⟨rfl, hb⟩; refine ⟨_, rfl, ?_⟩; have n0_ := Aside0.mk (xP (by repeat (first | (with_reducible first | exact HB.out | apply xA | apply xN | apply xO) | exact HB.out)) hb); clear HB; have HB := n0_; clear n0_; (try clear hb); (try clear hi)) | ((with_reducible refine gate_callee (f := 12) rfl ?_); refine goesL_ (some 24) rfl rfl Try.func12 (by kernel_rfl) rfl #[.int .i64 a0, .int .i64 (js7.size : Int)] rfl (by (try simp only [List.map_toArray, List.map_cons, List.map_nil]); first | done | rfl | (simp only [List.length_drop, List.length_take]; rfl)) ?_; (with_reducible refine (weave_Mask.calls k a0 (js7.size : Int) t451 _ A9.out).mono ?_); rintro e w37 ⟨rfl, hb⟩; refine ⟨_, rfl, ?_⟩; have n0_ := Aside0.mk (xP (by repeat (first | (with_reducible first | exact HB.out | apply xA | apply xN | apply xO) | exact HB.out)) hb); clear HB; have HB := n0_; clear n0_; (try clear hb); (try clear hi)) | ((with_reducible refine gate_callee (f := 11) rfl ?_); refine goesL_ (some 25) rfl rfl Try.func11 (by kernel_rfl) rfl #[] rfl (by (try simp only [List.map_toArray, List.map_cons, List.map_nil]); first | done | rfl | (simp only [List.length_drop, List.length_take]; rfl)) ?_; (with_reducible refine (tinderboxlaw29_awake.calls k  false _ A10.out).mono ?_); rintro e w38 ⟨rfl, hb⟩; refine ⟨_, rfl, ?_⟩; have n0_ := Aside0.mk (xP (by repeat (first | (with_reducible first | exact HB.out | apply xA | apply xN | apply xO) | exact HB.out)) hb); clear HB; have HB := n0_; clear n0_; (try clear hb)))
    go_ret
    exact ⟨by first | rfl | (simp [errW_none, errW_some] <;> rfl) | (simp only [← hji4, ← hjs7]; first | rfl | (simp [errW_none, errW_some] <;> rfl)) | (simp [*, errW_none, errW_some] <;> rfl), by repeat (first | (with_reducible first | exact HB.out | apply xA | apply xN | apply xO) | exact HB.out)⟩
  subst c11
  rw [if_pos rfl] at H
  replace H := Option.bind_eq_some_iff.mp H
  obtain ⟨t453, A120, H⟩ := H
  have A12 := Aside0.mk A120
  clear A120
  by_cases c13 : t450.toList = t453.toList
  rotate_left
  · rw [if_neg c13] at H
    have c13b0 : (t450.toList == t453.toList) = false := beq_eq_false_iff_ne.mpr c13
    have c13b1 : (t450.toList != t453.toList) = true := bne_iff_ne.mpr c13
    obtain rfl := Option.some.inj H
    go_enter Try.func4, Try.ntmps4
    go_wp2_with (first | ((with_reducible refine gate_callee (f := 12) rfl ?_); refine goesL_ (some 20) rfl rfl Try.func12 (by kernel_rfl) rfl #[.int .i64 a0, .int .i64 (Int.tmod a1 300)] rfl (by (try simp only [List.map_toArray, List.map_cons, List.map_nil]); first | done | rfl | (simp only [List.length_drop, List.length_take]; rfl)) ?_; (with_reducible refine (weave_Mask.calls k a0 (Int.tmod a1 300) t450 _ A8.out).mono ?_); rintro e w32 ⟨rfl, hb⟩; refine ⟨_, rfl, ?_⟩; have n0_ := Aside0.mk (xP (by repeat (first | (with_reducible first | exact HB.out | apply xA | apply xN | apply xO) | exact HB.out)) hb); clear HB; have HB := n0_; clear n0_; (try clear hb); (try clear hi)) | ((with_reducible refine gate_callee (f := 12) rfl ?_); refine goesL_ (some 24) rfl rfl Try.func12 (by kernel_rfl) rfl #[.int .i64 a0, .int .i64 (js7.size : Int)] rfl (by (try simp only [List.map_toArray, List.map_cons, List.map_nil]); first | done | rfl | (simp only [List.length_drop, List.length_take]; rfl)) ?_; (with_reducible refine (weave_Mask.calls k a0 (js7.size : Int) t451 _ A9.out).mono ?_); rintro e w33 ⟨rfl, hb⟩; refine ⟨_, rfl, ?_⟩; have n0_ := Aside0.mk (xP (by repeat (first | (with_reducible first | exact HB.out | apply xA | apply xN | apply xO) | exact HB.out)) hb); clear HB; have HB := n0_; clear n0_; (try clear hb); (try clear hi)) | ((with_reducible refine gate_callee (f := 11) rfl ?_); refine goesL_ (some 25) rfl rfl Try.func11 (by kernel_rfl) rfl #[] rfl (by (try simp only [List.map_toArray, List.map_cons, List.map_nil]); first | done | rfl | (simp only [List.length_drop, List.length_take]; rfl)) ?_; (with_reducible refine (tinderboxlaw29_awake.calls k  true _ A10.out).mono ?_); rintro e w34 ⟨rfl, hb⟩; refine ⟨_, rfl, ?_⟩; have n0_ := Aside0.mk (xP (by repeat (first | (with_reducible first | exact HB.out | apply xA | apply xN | apply xO) | exact HB.out)) hb); clear HB; have HB := n0_; clear n0_; (try clear hb); (try clear hi)) | (go_at_call 13; (with_reducible refine (tinderboxref29_Mask.calls k a0 (Int.tmod a1 300) t453 _ A12.out).mono ?_); rintro e w35 ⟨rfl, hb⟩; have n0_ := Aside0.mk (xP (by repeat (first | (with_reducible first | exact HB.out | apply xA | apply xN | apply xO) | exact HB.out)) hb); clear HB; have HB := n0_; clear n0_; (try clear hb)))
    go_ret
    exact ⟨by first | rfl | (simp [errW_none, errW_some] <;> rfl) | (simp only [← hji4, ← hjs7]; first | rfl | (simp [errW_none, errW_some] <;> rfl)) | (simp [*, errW_none, errW_some] <;> rfl), by repeat (first | (with_reducible first | exact HB.out | apply xA | apply xN | apply xO) | exact HB.out)⟩
  rw [if_pos c13] at H
  have c13b0 : (t450.toList == t453.toList) = true := beq_iff_eq.mpr c13
  have c13b1 : (t450.toList != t453.toList) = false := bne_eq_false_iff_eq.mpr c13
  clear c13
  replace H := Option.bind_eq_some_iff.mp H
  obtain ⟨t454, A140, H⟩ := H
  have A14 := Aside0.mk A140
  clear A140
  replace H := Option.bind_eq_some_iff.mp H
  obtain ⟨t455, A150, H⟩ := H
  have A15 := Aside0.mk A150
  clear A150
  by_cases c16 : t455.toList = js7.toList
  rotate_left
  · rw [if_neg c16] at H
    have c16b0 : (t455.toList == js7.toList) = false := beq_eq_false_iff_ne.mpr c16
    have c16b1 : (t455.toList != js7.toList) = true := bne_iff_ne.mpr c16
    obtain rfl := Option.some.inj H
    go_enter Try.func4, Try.ntmps4
    go_wp2_with (first | ((with_reducible refine gate_callee (f := 12) rfl ?_); refine goesL_ (some 20) rfl rfl Try.func12 (by kernel_rfl) rfl #[.int .i64 a0, .int .i64 (Int.tmod a1 300)] rfl (by (try simp only [List.map_toArray, List.map_cons, List.map_nil]); first | done | rfl | (simp only [List.length_drop, List.length_take]; rfl)) ?_; (with_reducible refine (weave_Mask.calls k a0 (Int.tmod a1 300) t450 _ A8.out).mono ?_); rintro e w26 ⟨rfl, hb⟩; refine ⟨_, rfl, ?_⟩; have n0_ := Aside0.mk (xP (by repeat (first | (with_reducible first | exact HB.out | apply xA | apply xN | apply xO) | exact HB.out)) hb); clear HB; have HB := n0_; clear n0_; (try clear hb); (try clear hi)) | ((with_reducible refine gate_callee (f := 12) rfl ?_); refine goesL_ (some 24) rfl rfl Try.func12 (by kernel_rfl) rfl #[.int .i64 a0, .int .i64 (js7.size : Int)] rfl (by (try simp only [List.map_toArray, List.map_cons, List.map_nil]); first | done | rfl | (simp only [List.length_drop, List.length_take]; rfl)) ?_; (with_reducible refine (weave_Mask.calls k a0 (js7.size : Int) t451 _ A9.out).mono ?_); rintro e w27 ⟨rfl, hb⟩; refine ⟨_, rfl, ?_⟩; have n0_ := Aside0.mk (xP (by repeat (first | (with_reducible first | exact HB.out | apply xA | apply xN | apply xO) | exact HB.out)) hb); clear HB; have HB := n0_; clear n0_; (try clear hb); (try clear hi)) | ((with_reducible refine gate_callee (f := 11) rfl ?_); refine goesL_ (some 25) rfl rfl Try.func11 (by kernel_rfl) rfl #[] rfl (by (try simp only [List.map_toArray, List.map_cons, List.map_nil]); first | done | rfl | (simp only [List.length_drop, List.length_take]; rfl)) ?_; (with_reducible refine (tinderboxlaw29_awake.calls k  true _ A10.out).mono ?_); rintro e w28 ⟨rfl, hb⟩; refine ⟨_, rfl, ?_⟩; have n0_ := Aside0.mk (xP (by repeat (first | (with_reducible first | exact HB.out | apply xA | apply xN | apply xO) | exact HB.out)) hb); clear HB; have HB := n0_; clear n0_; (try clear hb); (try clear hi)) | (go_at_call 13; (with_reducible refine (tinderboxref29_Mask.calls k a0 (Int.tmod a1 300) t453 _ A12.out).mono ?_); rintro e w29 ⟨rfl, hb⟩; have n0_ := Aside0.mk (xP (by repeat (first | (with_reducible first | exact HB.out | apply xA | apply xN | apply xO) | exact HB.out)) hb); clear HB; have HB := n0_; clear n0_; (try clear hb); (try clear hi)) | (go_at_call 14; (with_reducible refine (weave_Mix.calls k js7 t451 t454 _ A14.out).mono ?_); rintro e w30 ⟨rfl, hb⟩; have n0_ := Aside0.mk (xP (by repeat (first | (with_reducible first | exact HB.out | apply xA | apply xN | apply xO) | exact HB.out)) hb); clear HB; have HB := n0_; clear n0_; (try clear hb); (try clear hi)) | (go_at_call 14; (with_reducible refine (weave_Mix.calls k t454 t451 t455 _ A15.out).mono ?_); rintro e w31 ⟨rfl, hb⟩; have n0_ := Aside0.mk (xP (by repeat (first | (with_reducible first | exact HB.out | apply xA | apply xN | apply xO) | exact HB.out)) hb); clear HB; have HB := n0_; clear n0_; (try clear hb)))
    go_ret
    exact ⟨by first | rfl | (simp [errW_none, errW_some] <;> rfl) | (simp only [← hji4, ← hjs7]; first | rfl | (simp [errW_none, errW_some] <;> rfl)) | (simp [*, errW_none, errW_some] <;> rfl), by repeat (first | (with_reducible first | exact HB.out | apply xA | apply xN | apply xO) | exact HB.out)⟩
  rw [if_pos c16] at H
  have c16b0 : (t455.toList == js7.toList) = true := beq_iff_eq.mpr c16
  have c16b1 : (t455.toList != js7.toList) = false := bne_eq_false_iff_eq.mpr c16
  clear c16
  replace H := Option.bind_eq_some_iff.mp H
  obtain ⟨t456, A170, H⟩ := H
  have A17 := Aside0.mk A170
  clear A170
  obtain ⟨ji18, hji18⟩ : ∃ j_ : Int, (mn (js7.size : Int) 2) = j_ := ⟨_, rfl⟩
  first | rw [hji18] at H | simp only [hji18] at H
  (try rw [hji18] at A8)
  (try rw [hji18] at A9)
  (try rw [hji18] at A10)
  (try rw [hji18] at A12)
  (try rw [hji18] at A14)
  (try rw [hji18] at A15)
  (try rw [hji18] at A17)
  have hji18_ : (if 2 < (js7.size : Int) then 2 else (js7.size : Int)) = ji18 := hji18
  obtain rfl := Option.some.inj H
  go_enter Try.func4, Try.ntmps4
  go_wp2_with (first | ((with_reducible refine gate_callee (f := 12) rfl ?_); refine goesL_ (some 20) rfl rfl Try.func12 (by kernel_rfl) rfl #[.int .i64 a0, .int .i64 (Int.tmod a1 300)] rfl (by (try simp only [List.map_toArray, List.map_cons, List.map_nil]); first | done | rfl | (simp only [List.length_drop, List.length_take]; rfl)) ?_; (with_reducible refine (weave_Mask.calls k a0 (Int.tmod a1 300) t450 _ A8.out).mono ?_); rintro e w19 ⟨rfl, hb⟩; refine ⟨_, rfl, ?_⟩; have n0_ := Aside0.mk (xP (by repeat (first | (with_reducible first | exact HB.out | apply xA | apply xN | apply xO) | exact HB.out)) hb); clear HB; have HB := n0_; clear n0_; (try clear hb); (try clear hi)) | ((with_reducible refine gate_callee (f := 12) rfl ?_); refine goesL_ (some 24) rfl rfl Try.func12 (by kernel_rfl) rfl #[.int .i64 a0, .int .i64 (js7.size : Int)] rfl (by (try simp only [List.map_toArray, List.map_cons, List.map_nil]); first | done | rfl | (simp only [List.length_drop, List.length_take]; rfl)) ?_; (with_reducible refine (weave_Mask.calls k a0 (js7.size : Int) t451 _ A9.out).mono ?_); rintro e w20 ⟨rfl, hb⟩; refine ⟨_, rfl, ?_⟩; have n0_ := Aside0.mk (xP (by repeat (first | (with_reducible first | exact HB.out | apply xA | apply xN | apply xO) | exact HB.out)) hb); clear HB; have HB := n0_; clear n0_; (try clear hb); (try clear hi)) | ((with_reducible refine gate_callee (f := 11) rfl ?_); refine goesL_ (some 25) rfl rfl Try.func11 (by kernel_rfl) rfl #[] rfl (by (try simp only [List.map_toArray, List.map_cons, List.map_nil]); first | done | rfl | (simp only [List.length_drop, List.length_take]; rfl)) ?_; (with_reducible refine (tinderboxlaw29_awake.calls k  true _ A10.out).mono ?_); rintro e w21 ⟨rfl, hb⟩; refine ⟨_, rfl, ?_⟩; have n0_ := Aside0.mk (xP (by repeat (first | (with_reducible first | exact HB.out | apply xA | apply xN | apply xO) | exact HB.out)) hb); clear HB; have HB := n0_; clear n0_; (try clear hb); (try clear hi)) | (go_at_call 13; (with_reducible refine (tinderboxref29_Mask.calls k a0 (Int.tmod a1 300) t453 _ A12.out).mono ?_); rintro e w22 ⟨rfl, hb⟩; have n0_ := Aside0.mk (xP (by repeat (first | (with_reducible first | exact HB.out | apply xA | apply xN | apply xO) | exact HB.out)) hb); clear HB; have HB := n0_; clear n0_; (try clear hb); (try clear hi)) | (go_at_call 14; (with_reducible refine (weave_Mix.calls k js7 t451 t454 _ A14.out).mono ?_); rintro e w23 ⟨rfl, hb⟩; have n0_ := Aside0.mk (xP (by repeat (first | (with_reducible first | exact HB.out | apply xA | apply xN | apply xO) | exact HB.out)) hb); clear HB; have HB := n0_; clear n0_; (try clear hb); (try clear hi)) | (go_at_call 14; (with_reducible refine (weave_Mix.calls k t454 t451 t455 _ A15.out).mono ?_); rintro e w24 ⟨rfl, hb⟩; have n0_ := Aside0.mk (xP (by repeat (first | (with_reducible first | exact HB.out | apply xA | apply xN | apply xO) | exact HB.out)) hb); clear HB; have HB := n0_; clear n0_; (try clear hb); (try clear hi)) | (go_at_call 14; (with_reducible refine (weave_Mix.calls k js7 (⟨#[97, 98]⟩ : ByteArray) t456 _ A17.out).mono ?_); rintro e w25 ⟨rfl, hb⟩; have n0_ := Aside0.mk (xP (by repeat (first | (with_reducible first | exact HB.out | apply xA | apply xN | apply xO) | exact HB.out)) hb); clear HB; have HB := n0_; clear n0_; (try clear hb)))
  go_ret
  exact ⟨by first | rfl | (simp [errW_none, errW_some] <;> rfl) | (simp only [← hji4, ← hjs7, ← hji18]; first | rfl | (simp [errW_none, errW_some] <;> rfl)) | (simp [*, errW_none, errW_some] <;> rfl), by repeat (first | (with_reducible first | exact HB.out | apply xA | apply xN | apply xO) | exact HB.out)⟩
def tinderboxlaw29_WeaveMasks.Pure : Prop := ∀ (a0 : Int) (a1 : Int) (a2 : ByteArray), (Lit.int .i64 a0).wf = true → (Lit.int .i64 a1).wf = true → a2.size ≤ 140737488351232 → ∃ k, tinderboxlaw29_WeaveMasks.f k a0 a1 a2 = some true
theorem tinderboxlaw29_WeaveMasks.walk (P : tinderboxlaw29_WeaveMasks.Pure) (a0 : Int) (a1 : Int) (a2 : ByteArray) (w : World) (w0 : (Lit.int .i64 a0).wf = true) (w1 : (Lit.int .i64 a1).wf = true) (w2 : a2.size ≤ 140737488351232) :
    Calls Try.prog 4 #[.int .i64 a0, .int .i64 a1, .string a2] w fun e w' => e = .returned (.bool true) ∧ Below w.heap.size w w' := by
  obtain ⟨k, h⟩ := P a0 a1 a2 w0 w1 w2
  refine (tinderboxlaw29_WeaveMasks.calls k a0 a1 a2 true w h).mono ?_
  rintro e w' ⟨rfl, hd⟩
  exact ⟨rfl, hd⟩
def tinderboxlaw29_page.l0 : Nat → Int → List Int → Option (ByteArray)
  | 0, _, _ => none
  | k + 1, x1, x5 => if (x5.length : Int) < x1 then (if x5.length < 140737488355328 then (tinderboxlaw29_page.l0 k x1 (x5 ++ [((x5.length : Int)) % 256])) else (none)) else (some (strOfNums x5))
def tinderboxlaw29_page.f (k : Nat) (a0 : ByteArray) (a1 : Int) : Option (ByteArray) := if 0 ≤ (mn (a0.size : Int) a1) then (if (mn (a0.size : Int) a1) ≤ (a0.size : Int) then (if (a0.extract 0 ((mn (a0.size : Int) a1) : Int).toNat).size ≤ 9223372036854775807 then (tinderboxlaw29_page.l0 k a1 (bytesOf (a0.extract 0 ((mn (a0.size : Int) a1) : Int).toNat))) else (none)) else (none)) else (none)
theorem tinderboxlaw29_page.mono_l : ∀ k, (∀ y0 y1, LeO (tinderboxlaw29_page.l0 k y0 y1) (tinderboxlaw29_page.l0 (k + 1) y0 y1))
  | 0 => fun _ _ r h => by simp [tinderboxlaw29_page.l0] at h
  | k + 1 => by
    have ih0 := tinderboxlaw29_page.mono_l k
    · intro y0 y1
      unfold tinderboxlaw29_page.l0
      repeat' first
      | (with_reducible exact ih0 _ _)
      | (with_reducible exact LeO.refl _)
      | (with_reducible exact LeO.none _)
      | (with_reducible refine LeO.ite ?_ ?_)
      | (with_reducible refine LeO.bind ?_ (fun _ => ?_))
      | exact ih0 _ _
theorem tinderboxlaw29_page.mono : ∀ a0 a1 k, LeO (tinderboxlaw29_page.f k a0 a1) (tinderboxlaw29_page.f (k + 1) a0 a1) := by
  intro a0 a1 k
  have ih0 := tinderboxlaw29_page.mono_l k
  unfold tinderboxlaw29_page.f
  repeat' first
      | (with_reducible exact ih0 _ _)
      | (with_reducible exact LeO.refl _)
      | (with_reducible exact LeO.none _)
      | (with_reducible refine LeO.ite ?_ ?_)
      | (with_reducible refine LeO.bind ?_ (fun _ => ?_))
      | exact ih0 _ _
set_option maxHeartbeats 8000000 in
set_option maxRecDepth 100000 in
theorem tinderboxlaw29_page.calls (k : Nat) (a0 : ByteArray) (a1 : Int) (r : ByteArray) (w : World) (h : tinderboxlaw29_page.f k a0 a1 = some r) :
    Calls Try.prog 15 #[.string a0, .int .i64 a1] w fun e w' => e = .returned (.string r) ∧ Below w.heap.size w w' := by
  have HB := Aside0.mk (Below.refl w.heap.size w)
  have H : (if 0 ≤ (mn (a0.size : Int) a1) then (if (mn (a0.size : Int) a1) ≤ (a0.size : Int) then (if (a0.extract 0 ((mn (a0.size : Int) a1) : Int).toNat).size ≤ 9223372036854775807 then (tinderboxlaw29_page.l0 k a1 (bytesOf (a0.extract 0 ((mn (a0.size : Int) a1) : Int).toNat))) else (none)) else (none)) else (none)) = some r := h
  clear h
  obtain ⟨ji3, hji3⟩ : ∃ j_ : Int, (mn (a0.size : Int) a1) = j_ := ⟨_, rfl⟩
  first | rw [hji3] at H | simp only [hji3] at H
  have hji3_ : (if a1 < (a0.size : Int) then a1 else (a0.size : Int)) = ji3 := hji3
  by_cases c4 : 0 ≤ (ji3)
  rotate_left
  · rw [if_neg c4] at H
    exact absurd H (by simp)
  rw [if_pos c4] at H
  have c4b0 := eq_true c4
  have c4b1 : decide (0 ≤ (ji3)) = true := decide_eq_true c4
  clear c4
  by_cases c5 : (ji3) ≤ (a0.size : Int)
  rotate_left
  · rw [if_neg c5] at H
    exact absurd H (by simp)
  rw [if_pos c5] at H
  have c5b0 := eq_true c5
  have c5b1 : decide ((ji3) ≤ (a0.size : Int)) = true := decide_eq_true c5
  clear c5
  by_cases c6 : (a0.extract 0 ((ji3) : Int).toNat).size ≤ 9223372036854775807
  rotate_left
  · rw [if_neg c6] at H
    exact absurd H (by simp)
  rw [if_pos c6] at H
  have c6b0 := eq_true c6
  have c6b1 : decide ((a0.extract 0 ((ji3) : Int).toNat).size ≤ 9223372036854775807) = true := decide_eq_true c6
  try have c6b2 : (9223372036854775807 < (a0.extract 0 ((ji3) : Int).toNat).size) = False := eq_false (Nat.not_lt.2 c6)
  (try (have c6e := c6; simp only [ByteArray.size_extract, Nat.min_self, ByteArray.size_append] at c6e; have c6b3 := eq_false (Nat.not_lt.2 c6e); clear c6e))
  clear c6
  obtain ⟨y457, hy457⟩ : ∃ y_ : List Int, y_ = (bytesOf (a0.extract 0 ((ji3) : Int).toNat)) := ⟨_, rfl⟩
  replace H : (tinderboxlaw29_page.l0 k a1 y457) = some r := by first | (have H2_ := (Option.bind_some _ _).symm.trans H; rw [hy457]; with_reducible exact H2_) | (rw [hy457]; exact H) | exact H
  have Ny457 := Aside0.mk hy457
  clear hy457
  have H' := Aside0.mk H
  clear H
  go_enter Try.func15, Try.ntmps15
  go_wp2_with (first | ((with_reducible refine gate_dst (N := 12) rfl ?_); refine Kd.Q_bytes 5 rfl (N := 12) rfl 9 40 _ rfl (a0.extract 0 ((ji3) : Int).toNat) rfl Try.underlying9 Try.underlying40 Try.underlying5 (ok := fun _ => True) trivial (of_decide_eq_true (by first | (with_reducible assumption) | assumption)) (Below.refl _ _) (Nat.le_refl _) ?_; intro v458 w7 ho8 hb hg_ hnew_; clear hg_ hnew_; (first | rw [← Ny457.out] at ho8 | (simp only [Int.reduceToNat] at ho8; rw [← Ny457.out] at ho8)); have n0_ := Aside0.mk (Kd.Q_lower ho8 (xZ (by repeat (first | (with_reducible first | exact HB.out | apply xA | apply xN | apply xO) | exact HB.out)))); have n1_ := Aside0.mk (xP (by repeat (first | (with_reducible first | exact HB.out | apply xA | apply xN | apply xO) | exact HB.out)) hb); clear HB; have HO459 := n0_; have HB := n1_; clear n0_ n1_; clear hb ho8))
  go_loopg [5] k (fun kq v5 w' => ∃ (x5_1 : List Int), Aside0 (tinderboxlaw29_page.l0 kq a1 x5_1 = some r) ∧ Aside0 (kq ≤ k) ∧ Aside0 (Kd.Q (Kd.int .u8) 5 w' w.heap.size (fun _ => True) v5 x5_1) ∧ Aside0 (Below w.heap.size w w'))
  case atStart => exact ⟨(y457), H', ⟨Nat.le_refl _⟩, ⟨by (with_reducible repeat (first | apply Kd.Q_alloc | apply Kd.Q_drewN | apply Kd.Q_drew)); exact HO459.out⟩, ⟨by repeat (first | (with_reducible first | exact HB.out | apply xA | apply xN | apply xO) | exact HB.out)⟩⟩
  case round =>
    clear H'
    try clear c1
    try clear p2
    try clear c4
    try clear c4b0
    try clear c4b1
    try clear c5
    try clear c5b0
    try clear c5b1
    try clear c6
    try clear c6b0
    try clear c6b1
    try clear c6b2
    obtain ⟨x5_1, HA, HK1, HO_5, HB⟩ := hrel
    cases gk with
    | zero => exact absurd HA.out (by simp [tinderboxlaw29_page.l0])
    | succ k1 =>
      have H := HA.out
      clear HA
      simp only [tinderboxlaw29_page.l0] at H
      by_cases c9 : (x5_1.length : Int) < a1
      rotate_left
      · rw [if_neg c9] at H
        have c9b0 : decide ((x5_1.length : Int) < a1) = false := decide_eq_false c9
        clear c9
        obtain rfl := Option.some.inj H
        obtain ⟨Ao13, co13, eo13, _⟩ := Kd.Q_slice HO_5.out
        subst eo13
        have hcv14 := Kd.Q_string (P := Try.prog) Try.underlying40 Try.underlying5 Try.underlying9 HO_5.out
        go_wp2
        go_ret
        exact ⟨by first | rfl | (simp [errW_none, errW_some] <;> rfl) | (simp only [← hji3]; first | rfl | (simp [errW_none, errW_some] <;> rfl)) | (simp [*, errW_none, errW_some] <;> rfl), by repeat (first | (with_reducible first | exact HB.out | apply xA | apply xN | apply xO) | exact HB.out)⟩
      rw [if_pos c9] at H
      have c9b0 : decide ((x5_1.length : Int) < a1) = true := decide_eq_true c9
      clear c9
      by_cases c10 : x5_1.length < 140737488355328
      rotate_left
      · rw [if_neg c10] at H
        exact absurd H (by simp)
      rw [if_pos c10] at H
      have LMc10 := Aside0.mk c10
      clear c10
      obtain ⟨y460, hy460⟩ : ∃ y_ : List Int, y_ = (x5_1 ++ [((x5_1.length : Int)) % 256]) := ⟨_, rfl⟩
      replace H : (tinderboxlaw29_page.l0 k1 a1 y460) = some r := by first | (have H2_ := (Option.bind_some _ _).symm.trans H; rw [hy460]; with_reducible exact H2_) | (rw [hy460]; exact H) | exact H
      have Ny460 := Aside0.mk hy460
      clear hy460
      have H' := Aside0.mk H
      clear H
      obtain ⟨Ao11, co11, eo11, _⟩ := Kd.Q_slice HO_5.out
      subst eo11
      go_wp2_with (first | ((with_reducible refine gate_builtin (b := .append) (xs := #[.tmp 17, .tmp 21]) rfl ?_); at_builtin; refine Kd.Q_append (Kd.int .u8) (w0 := w) w.heap.size rfl (.tmp 17) (.tmp 21) 40 5 (.int .u8 0) 1 rfl Try.underlying40 info5 rfl (by decide) (by omega) (.slice Ao11 x5_1.length co11) x5_1 (((x5_1.length : Int)) % 256) [.int .u8 (((x5_1.length : Int)) % 256)] (fun _ => True) (fun _ => False) rfl rfl ?aP (fun _ hk => hk.elim) ?aF ?aO ?aB ?aS ?aL ?_; (case aP => exact rfl); (case aB => exact (by repeat (first | (with_reducible first | exact HB.out | apply xA | apply xN | apply xO) | exact HB.out))); (case aF => exact (fun _ _ => trivial)); (case aO => exact (by (with_reducible repeat (first | apply Kd.Q_alloc | apply Kd.Q_drewN | apply Kd.Q_drew)); exact HO_5.out)); (case aS => exact (xZ (by repeat (first | (with_reducible first | exact HB.out | apply xA | apply xN | apply xO) | exact HB.out)))); (case aL => have := LMc10.out; omega); intro v461 w12 ho hb hg hat; rw [← Ny460.out] at ho; have n0_ := Aside0.mk (hb); have n1_ := Aside0.mk (ho); clear HB; clear HO_5; have HB := n0_; have HO462 := n1_; clear n0_ n1_; clear ho hb hg hat))
      go_roundg k1
      case measure => have := HK1.out; omega
      case rel => exact ⟨(y460), H', ⟨by have := HK1.out; omega⟩, ⟨by (with_reducible repeat (first | apply Kd.Q_alloc | apply Kd.Q_drewN | apply Kd.Q_drew)); exact HO462.out⟩, ⟨by repeat (first | (with_reducible first | exact HB.out | apply xA | apply xN | apply xO) | exact HB.out)⟩⟩
end Go.Proofs.Ytpleeckbakllpaa.XWv
