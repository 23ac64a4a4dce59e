import Derived.Test.YtpleeckbakllpaaXWvx0
import Derived.Test.YtpleeckbakllpaaXWvx3
import Derived.Test.YtpleeckbakllpaaXWvx4
import Derived.Test.YtpleeckbakllpaaXWvx5
import Derived.Test.YtpleeckbakllpaaXWvx7
import Derived.Test.YtpleeckbakllpaaXWvx8
namespace Go.Proofs.Ytpleeckbakllpaa.XWv
open Go.RowKit Go.Proofs.YtpleeckbakllpaaX.PrintWords Go.Proofs.YtpleeckbakllpaaX.PrintLast Go.Proofs.YtpleeckbakllpaaX.PrintMore
attribute [local go_sem] max2_int min2_int max_two min_two max_three min_three max_four min_four
set_option linter.unusedVariables false
set_option linter.unusedSimpArgs false
mutual
def rs_Decode.j0 : Nat → ByteArray → Int → List Int → List Int → List Int → Bool → Option (ByteArray × Int × Int)
  | 0, _, _, _, _, _, _ => none
  | k + 1, x0, x1, x14, x15, x16, x90 => if x90 = true then (some ((⟨#[]⟩ : ByteArray), 0, 280)) else (if x0.size ≤ 9223372036854775807 then ((gf_Poly_Slope.f k x15).bind fun t377 => (rs_Decode.l0 k x1 x14 (bytesOf x0) 0 t377 x16 (x16.length : Int) 0)) else (none))
def rs_Decode.l0 : Nat → Int → List Int → List Int → Int → List Int → List Int → Int → Int → Option (ByteArray × Int × Int)
  | 0, _, _, _, _, _, _, _, _ => none
  | k + 1, x1, x14, x17, x18, x19, x95, x96, x97 => if x97 < x96 then (if 0 ≤ x97 then (if x97 < (x95.length : Int) then ((gf_Root.f k (wrap64 (-(rd x95 x97)))).bind fun t382 => ((gf_Poly_At.f k x19 t382).bind fun t383 => (if t383 = 0 then (some ((⟨#[]⟩ : ByteArray), 0, 280)) else ((gf_Root.f k (rd x95 x97)).bind fun t384 => ((gf_Poly_At.f k x14 t382).bind fun t385 => ((gf_Inv.f k t383).bind fun t386 => ((gf_Mul.f k t385 t386).bind fun t387 => ((gf_Mul.f k t384 t387).bind fun t388 => (if t388 = 0 then (if 0 ≤ (wrap64 ((wrap64 ((x17.length : Int) - 1)) - (rd x95 x97))) then (if (wrap64 ((wrap64 ((x17.length : Int) - 1)) - (rd x95 x97))) < (x17.length : Int) then (rs_Decode.l0 k x1 x14 (x17.set ((wrap64 ((wrap64 ((x17.length : Int) - 1)) - (rd x95 x97))) : Int).toNat (Go.bits .xor .u8 (rd x17 (wrap64 ((wrap64 ((x17.length : Int) - 1)) - (rd x95 x97)))) t388)) x18 x19 x95 x96 (wrap64 (x97 + 1))) else (none)) else (none)) else (if 0 ≤ (wrap64 ((wrap64 ((x17.length : Int) - 1)) - (rd x95 x97))) then (if (wrap64 ((wrap64 ((x17.length : Int) - 1)) - (rd x95 x97))) < (x17.length : Int) then (rs_Decode.l0 k x1 x14 (x17.set ((wrap64 ((wrap64 ((x17.length : Int) - 1)) - (rd x95 x97))) : Int).toNat (Go.bits .xor .u8 (rd x17 (wrap64 ((wrap64 ((x17.length : Int) - 1)) - (rd x95 x97)))) t388)) (wrap64 (x18 + 1)) x19 x95 x96 (wrap64 (x97 + 1))) else (none)) else (none))))))))))) else (none)) else (none)) else ((rs_Right.f k (strOfNums x17) x1).bind fun t380 => (if t380 = true then (some (strOfNums x17, x18, 0)) else (some ((⟨#[]⟩ : ByteArray), 0, 280))))
end
def rs_Decode.f (k : Nat) (a0 : ByteArray) (a1 : Int) (l2 : List Int) : Option (ByteArray × Int × Int) := (rs_lostOf.f k l2 (a0.size : Int) a1).bind fun bt342 => ((rs_Check.f (a0.size : Int) a1).bind fun t346 => (if t346 = true then (if bt342.2 = true then ((rs_Right.f k a0 a1).bind fun t347 => (if t347 = true then (some (a0, 0, 0)) else ((rs_places.f k bt342.1).bind fun t348 => ((rs_Signs.f k a0 a1).bind fun t351 => ((gf_Poly_Mul.f k t351 t348).bind fun t354 => ((gf_Poly_Cut.f k t354 a1).bind fun t357 => ((rs_solve.f k t357 a1 (bt342.1.length : Int)).bind fun bt360 => ((gf_Poly_Mul.f k bt360.1 t348).bind fun t366 => ((rs_roots.f k t366 (a0.size : Int)).bind fun t369 => (if (t369.length : Int) = 0 then (rs_Decode.j0 k a0 a1 bt360.2 t366 t369 true) else ((gf_Poly_Degree.f k t366).bind fun t372 => (if (t369.length : Int) = t372 then ((gf_Poly_Degree.f k bt360.1).bind fun t373 => (rs_Decode.j0 k a0 a1 bt360.2 t366 t369 (decide ((wrap64 ((wrap64 (2 * t373)) + (bt342.1.length : Int))) > a1)))) else (rs_Decode.j0 k a0 a1 bt360.2 t366 t369 true))))))))))))) else (some ((⟨#[]⟩ : ByteArray), 0, 280))) else (some ((⟨#[]⟩ : ByteArray), 0, 1))))
theorem rs_Decode.mono_l : ∀ k, (∀ y0 y1 y2 y3 y4 y5, LeO (rs_Decode.j0 k y0 y1 y2 y3 y4 y5) (rs_Decode.j0 (k + 1) y0 y1 y2 y3 y4 y5)) ∧ (∀ y0 y1 y2 y3 y4 y5 y6 y7, LeO (rs_Decode.l0 k y0 y1 y2 y3 y4 y5 y6 y7) (rs_Decode.l0 (k + 1) y0 y1 y2 y3 y4 y5 y6 y7))
  | 0 => ⟨fun _ _ _ _ _ _ r h => by simp [rs_Decode.j0] at h, fun _ _ _ _ _ _ _ _ r h => by simp [rs_Decode.l0] at h⟩
  | k + 1 => by
    obtain ⟨ih0, ih1⟩ := rs_Decode.mono_l k
    refine ⟨?_, ?_⟩
    · intro y0 y1 y2 y3 y4 y5
      unfold rs_Decode.j0
      repeat' first
      | (with_reducible exact ih0 _ _ _ _ _ _)
      | (with_reducible exact ih1 _ _ _ _ _ _ _ _)
      | (with_reducible exact gf_Inv.mono _ _)
      | (with_reducible exact gf_Mul.mono _ _ _)
      | (with_reducible exact gf_Poly_At.mono _ _ _)
      | (with_reducible exact gf_Poly_Cut.mono _ _ _)
      | (with_reducible exact gf_Poly_Degree.mono _ _)
      | (with_reducible exact gf_Poly_Mul.mono _ _ _)
      | (with_reducible exact gf_Poly_Slope.mono _ _)
      | (with_reducible exact gf_Root.mono _ _)
      | (with_reducible exact rs_Right.mono _ _ _)
      | (with_reducible exact rs_Signs.mono _ _ _)
      | (with_reducible exact rs_lostOf.mono _ _ _ _)
      | (with_reducible exact rs_places.mono _ _)
      | (with_reducible exact rs_roots.mono _ _ _)
      | (with_reducible exact rs_solve.mono _ _ _ _)
      | (with_reducible exact LeO.refl _)
      | (with_reducible exact LeO.none _)
      | (with_reducible refine LeO.ite ?_ ?_)
      | (with_reducible refine LeO.bind ?_ (fun _ => ?_))
      | exact ih0 _ _ _ _ _ _
      | exact ih1 _ _ _ _ _ _ _ _
    · intro y0 y1 y2 y3 y4 y5 y6 y7
      unfold rs_Decode.l0
      repeat' first
      | (with_reducible exact ih0 _ _ _ _ _ _)
      | (with_reducible exact ih1 _ _ _ _ _ _ _ _)
      | (with_reducible exact gf_Inv.mono _ _)
      | (with_reducible exact gf_Mul.mono _ _ _)
      | (with_reducible exact gf_Poly_At.mono _ _ _)
      | (with_reducible exact gf_Poly_Cut.mono _ _ _)
      | (with_reducible exact gf_Poly_Degree.mono _ _)
      | (with_reducible exact gf_Poly_Mul.mono _ _ _)
      | (with_reducible exact gf_Poly_Slope.mono _ _)
      | (with_reducible exact gf_Root.mono _ _)
      | (with_reducible exact rs_Right.mono _ _ _)
      | (with_reducible exact rs_Signs.mono _ _ _)
      | (with_reducible exact rs_lostOf.mono _ _ _ _)
      | (with_reducible exact rs_places.mono _ _)
      | (with_reducible exact rs_roots.mono _ _ _)
      | (with_reducible exact rs_solve.mono _ _ _ _)
      | (with_reducible exact LeO.refl _)
      | (with_reducible exact LeO.none _)
      | (with_reducible refine LeO.ite ?_ ?_)
      | (with_reducible refine LeO.bind ?_ (fun _ => ?_))
      | exact ih0 _ _ _ _ _ _
      | exact ih1 _ _ _ _ _ _ _ _
theorem rs_Decode.mono : ∀ a0 a1 a2 k, LeO (rs_Decode.f k a0 a1 a2) (rs_Decode.f (k + 1) a0 a1 a2) := by
  intro a0 a1 a2 k
  obtain ⟨ih0, ih1⟩ := rs_Decode.mono_l k
  unfold rs_Decode.f
  repeat' first
      | (with_reducible exact ih0 _ _ _ _ _ _)
      | (with_reducible exact ih1 _ _ _ _ _ _ _ _)
      | (with_reducible exact gf_Inv.mono _ _)
      | (with_reducible exact gf_Mul.mono _ _ _)
      | (with_reducible exact gf_Poly_At.mono _ _ _)
      | (with_reducible exact gf_Poly_Cut.mono _ _ _)
      | (with_reducible exact gf_Poly_Degree.mono _ _)
      | (with_reducible exact gf_Poly_Mul.mono _ _ _)
      | (with_reducible exact gf_Poly_Slope.mono _ _)
      | (with_reducible exact gf_Root.mono _ _)
      | (with_reducible exact rs_Right.mono _ _ _)
      | (with_reducible exact rs_Signs.mono _ _ _)
      | (with_reducible exact rs_lostOf.mono _ _ _ _)
      | (with_reducible exact rs_places.mono _ _)
      | (with_reducible exact rs_roots.mono _ _ _)
      | (with_reducible exact rs_solve.mono _ _ _ _)
      | (with_reducible exact LeO.refl _)
      | (with_reducible exact LeO.none _)
      | (with_reducible refine LeO.ite ?_ ?_)
      | (with_reducible refine LeO.bind ?_ (fun _ => ?_))
      | exact ih0 _ _ _ _ _ _
      | exact ih1 _ _ _ _ _ _ _ _
set_option maxHeartbeats 8000000 in
set_option maxRecDepth 100000 in
theorem rs_Decode.calls (k : Nat) (a0 : ByteArray) (a1 : Int) (A2 : Option Addr) (c2 : Nat) (l2 : List Int) (r1 : ByteArray) (r2 : Int) (r3 : Int) (w : World) (hr2 : Kd.C (Kd.int .i64) w A2 l2.length l2) (hc2 : l2.length ≤ c2) (h : rs_Decode.f k a0 a1 l2 = some (r1, r2, r3)) :
    Calls Try.prog 23 #[.string a0, .int .i64 a1, .slice A2 l2.length c2] w fun e w' => e = .returned (.tuple #[.string r1, .int .i64 r2, .int .i64 r3]) ∧ Below w.heap.size w w' := by
  have HR2 := Aside0.mk hr2
  have HC2 := Aside0.mk hc2
  clear hr2 hc2
  have HB := Aside0.mk (Below.refl w.heap.size w)
  have H : ((rs_lostOf.f k l2 (a0.size : Int) a1).bind fun bt342 => ((rs_Check.f (a0.size : Int) a1).bind fun t346 => (if t346 = true then (if bt342.2 = true then ((rs_Right.f k a0 a1).bind fun t347 => (if t347 = true then (some (a0, 0, 0)) else ((rs_places.f k bt342.1).bind fun t348 => ((rs_Signs.f k a0 a1).bind fun t351 => ((gf_Poly_Mul.f k t351 t348).bind fun t354 => ((gf_Poly_Cut.f k t354 a1).bind fun t357 => ((rs_solve.f k t357 a1 (bt342.1.length : Int)).bind fun bt360 => ((gf_Poly_Mul.f k bt360.1 t348).bind fun t366 => ((rs_roots.f k t366 (a0.size : Int)).bind fun t369 => (if (t369.length : Int) = 0 then (rs_Decode.j0 k a0 a1 bt360.2 t366 t369 true) else ((gf_Poly_Degree.f k t366).bind fun t372 => (if (t369.length : Int) = t372 then ((gf_Poly_Degree.f k bt360.1).bind fun t373 => (rs_Decode.j0 k a0 a1 bt360.2 t366 t369 (decide ((wrap64 ((wrap64 (2 * t373)) + (bt342.1.length : Int))) > a1)))) else (rs_Decode.j0 k a0 a1 bt360.2 t366 t369 true))))))))))))) else (some ((⟨#[]⟩ : ByteArray), 0, 280))) else (some ((⟨#[]⟩ : ByteArray), 0, 1))))) = some (r1, r2, r3) := h
  clear h
  replace H := Option.bind_eq_some_iff.mp H
  obtain ⟨⟨t342, t343⟩, A40, H⟩ := H
  replace H : ((rs_Check.f (a0.size : Int) a1).bind fun t346 => (if t346 = true then (if t343 = true then ((rs_Right.f k a0 a1).bind fun t347 => (if t347 = true then (some (a0, 0, 0)) else ((rs_places.f k t342).bind fun t348 => ((rs_Signs.f k a0 a1).bind fun t351 => ((gf_Poly_Mul.f k t351 t348).bind fun t354 => ((gf_Poly_Cut.f k t354 a1).bind fun t357 => ((rs_solve.f k t357 a1 (t342.length : Int)).bind fun bt360 => ((gf_Poly_Mul.f k bt360.1 t348).bind fun t366 => ((rs_roots.f k t366 (a0.size : Int)).bind fun t369 => (if (t369.length : Int) = 0 then (rs_Decode.j0 k a0 a1 bt360.2 t366 t369 true) else ((gf_Poly_Degree.f k t366).bind fun t372 => (if (t369.length : Int) = t372 then ((gf_Poly_Degree.f k bt360.1).bind fun t373 => (rs_Decode.j0 k a0 a1 bt360.2 t366 t369 (decide ((wrap64 ((wrap64 (2 * t373)) + (t342.length : Int))) > a1)))) else (rs_Decode.j0 k a0 a1 bt360.2 t366 t369 true))))))))))))) else (some ((⟨#[]⟩ : ByteArray), 0, 280))) else (some ((⟨#[]⟩ : ByteArray), 0, 1)))) = some (r1, r2, r3) := H
  have A4 := Aside0.mk A40
  clear A40
  replace H := Option.bind_eq_some_iff.mp H
  obtain ⟨t346, A50, H⟩ := H
  have A5 := Aside0.mk A50
  clear A50
  by_cases c6 : t346 = true
  rotate_left
  · replace c6 := Bool.eq_false_iff.mpr c6
    subst c6
    rw [if_neg (show ¬ (false = true) by decide)] at H
    simp only [Option.some.injEq, Prod.mk.injEq] at H
    obtain ⟨rfl, rfl, rfl⟩ := H
    go_enter Try.func23, Try.ntmps23
    go_wp2_with (first | ((with_reducible refine gate_callee (f := 34) rfl ?_); refine goesL_ (some 30) rfl rfl Try.func34 (by kernel_rfl) rfl #[.slice A2 l2.length c2, .int .i64 (a0.size : Int), .int .i64 a1] rfl (by (try simp only [List.map_toArray, List.map_cons, List.map_nil]); first | done | rfl | (simp only [List.length_drop, List.length_take]; rfl)) ?_; (with_reducible refine (rs_lostOf.calls k _ _ l2 (a0.size : Int) a1 t342 t343 _ ?side1 ?side2 A4.out).mono ?_); (case side1 => repeat (first | exact HR2.out | (with_reducible refine Kd.C_alloc ?_ _) | (with_reducible refine Kd.C_drewN ?_ _) | (with_reducible refine Kd.C_drew ?_))); (case side2 => exact HC2.out); rintro e w89 ⟨v344, rfl, ho0, hb⟩; refine ⟨_, rfl, ?_⟩; have n0_ := Aside0.mk (Kd.R_lower ho0 (xZ (by repeat (first | (with_reducible first | exact HB.out | apply xA | apply xN | apply xO) | exact HB.out)))); have n1_ := Aside0.mk (xP (by repeat (first | (with_reducible first | exact HB.out | apply xA | apply xN | apply xO) | exact HB.out)) hb); clear HB; have HO345 := n0_; have HB := n1_; clear n0_ n1_; (try clear hb); (try clear ho0)) | ((with_reducible refine gate_callee (f := 27) rfl ?_); refine goesL_ (some 37) rfl rfl Try.func27 (by kernel_rfl) rfl #[.int .i64 (a0.size : Int), .int .i64 a1] rfl (by (try simp only [List.map_toArray, List.map_cons, List.map_nil]); first | done | rfl | (simp only [List.length_drop, List.length_take]; rfl)) ?_; (with_reducible refine (rs_Check.calls (a0.size : Int) a1 false _ A5.out).mono ?_); rintro e w' ⟨rfl, ⟨nd, rfl⟩⟩; refine ⟨_, rfl, ?_⟩))
    go_ret3
    exact ⟨by first | rfl | (simp [errW_none, errW_some] <;> rfl) | (simp [*, errW_none, errW_some] <;> rfl), by repeat (first | (with_reducible first | exact HB.out | apply xA | apply xN | apply xO) | exact HB.out)⟩
  subst c6
  rw [if_pos rfl] at H
  by_cases c7 : t343 = true
  rotate_left
  · replace c7 := Bool.eq_false_iff.mpr c7
    subst c7
    rw [if_neg (show ¬ (false = true) by decide)] at H
    simp only [Option.some.injEq, Prod.mk.injEq] at H
    obtain ⟨rfl, rfl, rfl⟩ := H
    go_enter Try.func23, Try.ntmps23
    go_wp2_with (first | ((with_reducible refine gate_callee (f := 34) rfl ?_); refine goesL_ (some 30) rfl rfl Try.func34 (by kernel_rfl) rfl #[.slice A2 l2.length c2, .int .i64 (a0.size : Int), .int .i64 a1] rfl (by (try simp only [List.map_toArray, List.map_cons, List.map_nil]); first | done | rfl | (simp only [List.length_drop, List.length_take]; rfl)) ?_; (with_reducible refine (rs_lostOf.calls k _ _ l2 (a0.size : Int) a1 t342 false _ ?side1 ?side2 A4.out).mono ?_); (case side1 => repeat (first | exact HR2.out | (with_reducible refine Kd.C_alloc ?_ _) | (with_reducible refine Kd.C_drewN ?_ _) | (with_reducible refine Kd.C_drew ?_))); (case side2 => exact HC2.out); rintro e w88 ⟨v344, rfl, ho0, hb⟩; refine ⟨_, rfl, ?_⟩; have n0_ := Aside0.mk (Kd.R_lower ho0 (xZ (by repeat (first | (with_reducible first | exact HB.out | apply xA | apply xN | apply xO) | exact HB.out)))); have n1_ := Aside0.mk (xP (by repeat (first | (with_reducible first | exact HB.out | apply xA | apply xN | apply xO) | exact HB.out)) hb); clear HB; have HO345 := n0_; have HB := n1_; clear n0_ n1_; (try clear hb); (try clear ho0)) | ((with_reducible refine gate_callee (f := 27) rfl ?_); refine goesL_ (some 37) rfl rfl Try.func27 (by kernel_rfl) rfl #[.int .i64 (a0.size : Int), .int .i64 a1] rfl (by (try simp only [List.map_toArray, List.map_cons, List.map_nil]); first | done | rfl | (simp only [List.length_drop, List.length_take]; rfl)) ?_; (with_reducible refine (rs_Check.calls (a0.size : Int) a1 true _ A5.out).mono ?_); rintro e w' ⟨rfl, ⟨nd, rfl⟩⟩; refine ⟨_, rfl, ?_⟩))
    go_ret3
    exact ⟨by first | rfl | (simp [errW_none, errW_some] <;> rfl) | (simp [*, errW_none, errW_some] <;> rfl), by repeat (first | (with_reducible first | exact HB.out | apply xA | apply xN | apply xO) | exact HB.out)⟩
  subst c7
  rw [if_pos rfl] at H
  replace H := Option.bind_eq_some_iff.mp H
  obtain ⟨t347, A80, H⟩ := H
  have A8 := Aside0.mk A80
  clear A80
  by_cases c9 : t347 = true
  · subst c9
    rw [if_pos rfl] at H
    simp only [Option.some.injEq, Prod.mk.injEq] at H
    obtain ⟨rfl, rfl, rfl⟩ := H
    go_enter Try.func23, Try.ntmps23
    go_wp2_with (first | ((with_reducible refine gate_callee (f := 34) rfl ?_); refine goesL_ (some 30) rfl rfl Try.func34 (by kernel_rfl) rfl #[.slice A2 l2.length c2, .int .i64 (a0.size : Int), .int .i64 a1] rfl (by (try simp only [List.map_toArray, List.map_cons, List.map_nil]); first | done | rfl | (simp only [List.length_drop, List.length_take]; rfl)) ?_; (with_reducible refine (rs_lostOf.calls k _ _ l2 (a0.size : Int) a1 t342 true _ ?side1 ?side2 A4.out).mono ?_); (case side1 => repeat (first | exact HR2.out | (with_reducible refine Kd.C_alloc ?_ _) | (with_reducible refine Kd.C_drewN ?_ _) | (with_reducible refine Kd.C_drew ?_))); (case side2 => exact HC2.out); rintro e w10 ⟨v344, rfl, ho0, hb⟩; refine ⟨_, rfl, ?_⟩; have n0_ := Aside0.mk (Kd.R_lower ho0 (xZ (by repeat (first | (with_reducible first | exact HB.out | apply xA | apply xN | apply xO) | exact HB.out)))); have n1_ := Aside0.mk (xP (by repeat (first | (with_reducible first | exact HB.out | apply xA | apply xN | apply xO) | exact HB.out)) hb); clear HB; have HO345 := n0_; have HB := n1_; clear n0_ n1_; (try clear hb); (try clear ho0)) | ((with_reducible refine gate_callee (f := 27) rfl ?_); refine goesL_ (some 37) rfl rfl Try.func27 (by kernel_rfl) rfl #[.int .i64 (a0.size : Int), .int .i64 a1] rfl (by (try simp only [List.map_toArray, List.map_cons, List.map_nil]); first | done | rfl | (simp only [List.length_drop, List.length_take]; rfl)) ?_; (with_reducible refine (rs_Check.calls (a0.size : Int) a1 true _ A5.out).mono ?_); rintro e w' ⟨rfl, ⟨nd, rfl⟩⟩; refine ⟨_, rfl, ?_⟩) | ((with_reducible refine gate_callee (f := 35) rfl ?_); refine goesL_ (some 45) rfl rfl Try.func35 (by kernel_rfl) rfl #[.string a0, .int .i64 a1] rfl (by (try simp only [List.map_toArray, List.map_cons, List.map_nil]); first | done | rfl | (simp only [List.length_drop, List.length_take]; rfl)) ?_; (with_reducible refine (rs_Right.calls k a0 a1 true _ A8.out).mono ?_); rintro e w11 ⟨rfl, hb⟩; refine ⟨_, rfl, ?_⟩; have n0_ := Aside0.mk (Kd.R_below (by (with_reducible repeat (first | apply xR | apply xS | apply xT)); exact HO345.out) hb); have n1_ := Aside0.mk (xP (by repeat (first | (with_reducible first | exact HB.out | apply xA | apply xN | apply xO) | exact HB.out)) hb); clear HO345; clear HB; have HO345 := n0_; have HB := n1_; clear n0_ n1_; (try clear hb)))
    go_ret3
    exact ⟨by first | rfl | (simp [errW_none, errW_some] <;> rfl) | (simp [*, errW_none, errW_some] <;> rfl), by repeat (first | (with_reducible first | exact HB.out | apply xA | apply xN | apply xO) | exact HB.out)⟩
  replace c9 := Bool.eq_false_iff.mpr c9
  subst c9
  rw [if_neg (show ¬ (false = true) by decide)] at H
  replace H := Option.bind_eq_some_iff.mp H
  obtain ⟨t348, A120, H⟩ := H
  have A12 := Aside0.mk A120
  clear A120
  replace H := Option.bind_eq_some_iff.mp H
  obtain ⟨t351, A130, H⟩ := H
  have A13 := Aside0.mk A130
  clear A130
  replace H := Option.bind_eq_some_iff.mp H
  obtain ⟨t354, A140, H⟩ := H
  have A14 := Aside0.mk A140
  clear A140
  replace H := Option.bind_eq_some_iff.mp H
  obtain ⟨t357, A150, H⟩ := H
  have A15 := Aside0.mk A150
  clear A150
  replace H := Option.bind_eq_some_iff.mp H
  obtain ⟨⟨t360, t363⟩, A160, H⟩ := H
  replace H : ((gf_Poly_Mul.f k t360 t348).bind fun t366 => ((rs_roots.f k t366 (a0.size : Int)).bind fun t369 => (if (t369.length : Int) = 0 then (rs_Decode.j0 k a0 a1 t363 t366 t369 true) else ((gf_Poly_Degree.f k t366).bind fun t372 => (if (t369.length : Int) = t372 then ((gf_Poly_Degree.f k t360).bind fun t373 => (rs_Decode.j0 k a0 a1 t363 t366 t369 (decide ((wrap64 ((wrap64 (2 * t373)) + (t342.length : Int))) > a1)))) else (rs_Decode.j0 k a0 a1 t363 t366 t369 true)))))) = some (r1, r2, r3) := H
  have A16 := Aside0.mk A160
  clear A160
  replace H := Option.bind_eq_some_iff.mp H
  obtain ⟨t366, A170, H⟩ := H
  have A17 := Aside0.mk A170
  clear A170
  replace H := Option.bind_eq_some_iff.mp H
  obtain ⟨t369, A180, H⟩ := H
  have A18 := Aside0.mk A180
  clear A180
  have HC19 := Aside0.mk H
  clear H
  go_enter Try.func23, Try.ntmps23
  go_upto_region 13 with (first | ((with_reducible refine gate_callee (f := 34) rfl ?_); refine goesL_ (some 30) rfl rfl Try.func34 (by kernel_rfl) rfl #[.slice A2 l2.length c2, .int .i64 (a0.size : Int), .int .i64 a1] rfl (by (try simp only [List.map_toArray, List.map_cons, List.map_nil]); first | done | rfl | (simp only [List.length_drop, List.length_take]; rfl)) ?_; (with_reducible refine (rs_lostOf.calls k _ _ l2 (a0.size : Int) a1 t342 true _ ?side1 ?side2 A4.out).mono ?_); (case side1 => repeat (first | exact HR2.out | (with_reducible refine Kd.C_alloc ?_ _) | (with_reducible refine Kd.C_drewN ?_ _) | (with_reducible refine Kd.C_drew ?_))); (case side2 => exact HC2.out); rintro e w20 ⟨v344, rfl, ho0, hb⟩; refine ⟨_, rfl, ?_⟩; have n0_ := Aside0.mk (Kd.R_lower ho0 (xZ (by repeat (first | (with_reducible first | exact HB.out | apply xA | apply xN | apply xO) | exact HB.out)))); have n1_ := Aside0.mk (xP (by repeat (first | (with_reducible first | exact HB.out | apply xA | apply xN | apply xO) | exact HB.out)) hb); clear HB; have HO345 := n0_; have HB := n1_; clear n0_ n1_; (try clear hb); (try clear ho0)) | ((with_reducible refine gate_callee (f := 27) rfl ?_); refine goesL_ (some 37) rfl rfl Try.func27 (by kernel_rfl) rfl #[.int .i64 (a0.size : Int), .int .i64 a1] rfl (by (try simp only [List.map_toArray, List.map_cons, List.map_nil]); first | done | rfl | (simp only [List.length_drop, List.length_take]; rfl)) ?_; (with_reducible refine (rs_Check.calls (a0.size : Int) a1 true _ A5.out).mono ?_); rintro e w' ⟨rfl, ⟨nd, rfl⟩⟩; refine ⟨_, rfl, ?_⟩) | ((with_reducible refine gate_callee (f := 35) rfl ?_); refine goesL_ (some 45) rfl rfl Try.func35 (by kernel_rfl) rfl #[.string a0, .int .i64 a1] rfl (by (try simp only [List.map_toArray, List.map_cons, List.map_nil]); first | done | rfl | (simp only [List.length_drop, List.length_take]; rfl)) ?_; (with_reducible refine (rs_Right.calls k a0 a1 false _ A8.out).mono ?_); rintro e w21 ⟨rfl, hb⟩; refine ⟨_, rfl, ?_⟩; have n0_ := Aside0.mk (Kd.R_below (by (with_reducible repeat (first | apply xR | apply xS | apply xT)); exact HO345.out) hb); have n1_ := Aside0.mk (xP (by repeat (first | (with_reducible first | exact HB.out | apply xA | apply xN | apply xO) | exact HB.out)) hb); clear HO345; clear HB; have HO345 := n0_; have HB := n1_; clear n0_ n1_; (try clear hb); obtain ⟨Ao22, co22, eo22⟩ := Kd.R_slice HO345.out; subst eo22) | ((with_reducible refine gate_callee (f := 36) rfl ?_); refine goesL_ (some 48) rfl rfl Try.func36 (by kernel_rfl) rfl #[.slice Ao22 t342.length co22] rfl (by (try simp only [List.map_toArray, List.map_cons, List.map_nil]); first | done | rfl | (simp only [List.length_drop, List.length_take]; rfl)) ?_; (with_reducible refine (rs_places.calls k _ _ t342 t348 _ ?side1 ?side2 A12.out).mono ?_); (case side1 => repeat (first | exact (Kd.R_reads' HO345.out).2.2 | (with_reducible refine Kd.C_alloc ?_ _) | (with_reducible refine Kd.C_drewN ?_ _) | (with_reducible refine Kd.C_drew ?_))); (case side2 => exact (Kd.R_reads' HO345.out).2.1); rintro e w23 ⟨v349, rfl, ho0, hb⟩; refine ⟨_, rfl, ?_⟩; have n0_ := Aside0.mk (Kd.R_below (by (with_reducible repeat (first | apply xR | apply xS | apply xT)); exact HO345.out) hb); have n1_ := Aside0.mk (Kd.R_lower ho0 (xZ (by repeat (first | (with_reducible first | exact HB.out | apply xA | apply xN | apply xO) | exact HB.out)))); have n2_ := Aside0.mk (xP (by repeat (first | (with_reducible first | exact HB.out | apply xA | apply xN | apply xO) | exact HB.out)) hb); clear HO345; clear HB; have HO345 := n0_; have HO350 := n1_; have HB := n2_; clear n0_ n1_ n2_; (try clear hb); (try clear ho0)) | ((with_reducible refine gate_callee (f := 37) rfl ?_); refine goesL_ (some 51) rfl rfl Try.func37 (by kernel_rfl) rfl #[.string a0, .int .i64 a1] rfl (by (try simp only [List.map_toArray, List.map_cons, List.map_nil]); first | done | rfl | (simp only [List.length_drop, List.length_take]; rfl)) ?_; (with_reducible refine (rs_Signs.calls k a0 a1 t351 _ A13.out).mono ?_); rintro e w24 ⟨v352, rfl, ho0, hb⟩; refine ⟨_, rfl, ?_⟩; have n0_ := Aside0.mk (Kd.R_below (by (with_reducible repeat (first | apply xR | apply xS | apply xT)); exact HO345.out) hb); have n1_ := Aside0.mk (Kd.R_elder' (by (with_reducible repeat (first | apply xR | apply xS | apply xT)); exact HO350.out) (Kd.R_base ho0) hb); have n2_ := Aside0.mk (Kd.R_lower (Kd.R_new' ho0 (Kd.R_lt (by (with_reducible repeat (first | apply xR | apply xS | apply xT)); exact HO350.out))) (xZ (by repeat (first | (with_reducible first | exact HB.out | apply xA | apply xN | apply xO) | exact HB.out)))); have n3_ := Aside0.mk (xP (by repeat (first | (with_reducible first | exact HB.out | apply xA | apply xN | apply xO) | exact HB.out)) hb); clear HO345; clear HO350; clear HB; have HO345 := n0_; have HO350 := n1_; have HO353 := n2_; have HB := n3_; clear n0_ n1_ n2_ n3_; (try clear hb); (try clear ho0); obtain ⟨Ao25, co25, eo25⟩ := Kd.R_slice HO353.out; subst eo25; obtain ⟨Ao26, co26, eo26⟩ := Kd.R_slice HO350.out; subst eo26) | ((with_reducible refine gate_callee (f := 38) rfl ?_); refine goesL_ (some 53) rfl rfl Try.func38 (by kernel_rfl) rfl #[.slice Ao25 t351.length co25, .slice Ao26 t348.length co26] rfl (by (try simp only [List.map_toArray, List.map_cons, List.map_nil]); first | done | rfl | (simp only [List.length_drop, List.length_take]; rfl)) ?_; (with_reducible refine (gf_Poly_Mul.calls k _ _ t351 _ _ t348 t354 _ ?side1 ?side2 ?side3 ?side4 A14.out).mono ?_); (case side1 => repeat (first | exact (Kd.R_reads' HO353.out).2.2 | (with_reducible refine Kd.C_alloc ?_ _) | (with_reducible refine Kd.C_drewN ?_ _) | (with_reducible refine Kd.C_drew ?_))); (case side2 => exact (Kd.R_reads' HO353.out).2.1); (case side3 => repeat (first | exact (Kd.R_reads' HO350.out).2.2 | (with_reducible refine Kd.C_alloc ?_ _) | (with_reducible refine Kd.C_drewN ?_ _) | (with_reducible refine Kd.C_drew ?_))); (case side4 => exact (Kd.R_reads' HO350.out).2.1); rintro e w27 ⟨v355, rfl, ho0, hb⟩; refine ⟨_, rfl, ?_⟩; have n0_ := Aside0.mk (Kd.R_below (by (with_reducible repeat (first | apply xR | apply xS | apply xT)); exact HO345.out) hb); have n1_ := Aside0.mk (Kd.R_elder' (by (with_reducible repeat (first | apply xR | apply xS | apply xT)); exact HO350.out) (Kd.R_base ho0) hb); have n2_ := Aside0.mk (Kd.R_elder' (by (with_reducible repeat (first | apply xR | apply xS | apply xT)); exact HO353.out) (Kd.R_base ho0) hb); have n3_ := Aside0.mk (Kd.R_lower (Kd.R_new' (Kd.R_new' ho0 (Kd.R_lt (by (with_reducible repeat (first | apply xR | apply xS | apply xT)); exact HO350.out))) (Kd.R_lt (by (with_reducible repeat (first | apply xR | apply xS | apply xT)); exact HO353.out))) (xZ (by repeat (first | (with_reducible first | exact HB.out | apply xA | apply xN | apply xO) | exact HB.out)))); have n4_ := Aside0.mk (xP (by repeat (first | (with_reducible first | exact HB.out | apply xA | apply xN | apply xO) | exact HB.out)) hb); clear HO345; clear HO350; clear HO353; clear HB; have HO345 := n0_; have HO350 := n1_; have HO353 := n2_; have HO356 := n3_; have HB := n4_; clear n0_ n1_ n2_ n3_ n4_; (try clear hb); (try clear ho0); obtain ⟨Ao28, co28, eo28⟩ := Kd.R_slice HO356.out; subst eo28) | ((with_reducible refine gate_callee (f := 39) rfl ?_); refine goesL_ (some 55) rfl rfl Try.func39 (by kernel_rfl) rfl #[.slice Ao28 t354.length co28, .int .i64 a1] rfl (by (try simp only [List.map_toArray, List.map_cons, List.map_nil]); first | done | rfl | (simp only [List.length_drop, List.length_take]; rfl)) ?_; (with_reducible refine (gf_Poly_Cut.calls k _ _ t354 a1 t357 _ ?side1 ?side2 A15.out).mono ?_); (case side1 => repeat (first | exact (Kd.R_reads' HO356.out).2.2 | (with_reducible refine Kd.C_alloc ?_ _) | (with_reducible refine Kd.C_drewN ?_ _) | (with_reducible refine Kd.C_drew ?_))); (case side2 => exact (Kd.R_reads' HO356.out).2.1); rintro e w29 ⟨v358, rfl, ho0, hb⟩; refine ⟨_, rfl, ?_⟩; have n0_ := Aside0.mk (Kd.R_below (by (with_reducible repeat (first | apply xR | apply xS | apply xT)); exact HO345.out) hb); have n1_ := Aside0.mk (Kd.R_elder' (by (with_reducible repeat (first | apply xR | apply xS | apply xT)); exact HO350.out) (Kd.R_base ho0) hb); have n2_ := Aside0.mk (Kd.R_elder' (by (with_reducible repeat (first | apply xR | apply xS | apply xT)); exact HO353.out) (Kd.R_base ho0) hb); have n3_ := Aside0.mk (Kd.R_elder' (by (with_reducible repeat (first | apply xR | apply xS | apply xT)); exact HO356.out) (Kd.R_base ho0) hb); have n4_ := Aside0.mk (Kd.R_lower (Kd.R_new' (Kd.R_new' (Kd.R_new' ho0 (Kd.R_lt (by (with_reducible repeat (first | apply xR | apply xS | apply xT)); exact HO350.out))) (Kd.R_lt (by (with_reducible repeat (first | apply xR | apply xS | apply xT)); exact HO353.out))) (Kd.R_lt (by (with_reducible repeat (first | apply xR | apply xS | apply xT)); exact HO356.out))) (xZ (by repeat (first | (with_reducible first | exact HB.out | apply xA | apply xN | apply xO) | exact HB.out)))); have n5_ := Aside0.mk (xP (by repeat (first | (with_reducible first | exact HB.out | apply xA | apply xN | apply xO) | exact HB.out)) hb); clear HO345; clear HO350; clear HO353; clear HO356; clear HB; have HO345 := n0_; have HO350 := n1_; have HO353 := n2_; have HO356 := n3_; have HO359 := n4_; have HB := n5_; clear n0_ n1_ n2_ n3_ n4_ n5_; (try clear hb); (try clear ho0); obtain ⟨Ao30, co30, eo30⟩ := Kd.R_slice HO359.out; subst eo30) | ((with_reducible refine gate_callee (f := 40) rfl ?_); refine goesL_ (some 61) rfl rfl Try.func40 (by kernel_rfl) rfl #[.slice Ao30 t357.length co30, .int .i64 a1, .int .i64 (t342.length : Int)] rfl (by (try simp only [List.map_toArray, List.map_cons, List.map_nil]); first | done | rfl | (simp only [List.length_drop, List.length_take]; rfl)) ?_; (with_reducible refine (rs_solve.calls k (fun k_ => some k_ = (.slice Ao30 t357.length co30 : Value).ownBlock) _ _ t357 a1 (t342.length : Int) t360 t363 _ ?side1 A16.out).mono ?_); (case side1 => exact Kd.R_V (Kd.R_tight rfl (Kd.R_apart' (HO359.out) (Kd.R_typed HO345.out) (by decide)))); rintro e w31 ⟨v361, v364, rfl, ho0, ho1, hb⟩; refine ⟨_, rfl, ?_⟩; have n0_ := Aside0.mk (Kd.R_below (by (with_reducible repeat (first | apply xR | apply xS | apply xT)); exact HO345.out) hb); have n1_ := Aside0.mk (Kd.R_elder' (by (with_reducible repeat (first | apply xR | apply xS | apply xT)); exact HO350.out) (Kd.R_base ho0) hb); have n2_ := Aside0.mk (Kd.R_elder' (by (with_reducible repeat (first | apply xR | apply xS | apply xT)); exact HO353.out) (Kd.R_base ho0) hb); have n3_ := Aside0.mk (Kd.R_elder' (by (with_reducible repeat (first | apply xR | apply xS | apply xT)); exact HO356.out) (Kd.R_base ho0) hb); have n4_ := Aside0.mk (Kd.R_elder' (by (with_reducible repeat (first | apply xR | apply xS | apply xT)); exact HO359.out) (Kd.R_base ho0) hb); have n5_ := Aside0.mk (Kd.R_lower (Kd.R_new' (Kd.R_new' (Kd.R_new' (Kd.R_new' (Kd.R_mono (ok' := fun k_ => True) ho0 (fun _ hk_ => trivial)) (Kd.R_lt (by (with_reducible repeat (first | apply xR | apply xS | apply xT)); exact HO350.out))) (Kd.R_lt (by (with_reducible repeat (first | apply xR | apply xS | apply xT)); exact HO353.out))) (Kd.R_lt (by (with_reducible repeat (first | apply xR | apply xS | apply xT)); exact HO356.out))) (Kd.R_lt (by (with_reducible repeat (first | apply xR | apply xS | apply xT)); exact HO359.out))) (xZ (by repeat (first | (with_reducible first | exact HB.out | apply xA | apply xN | apply xO) | exact HB.out)))); have n6_ := Aside0.mk (Kd.V_lower (Kd.V_mono (ok' := fun k_ => some k_ ≠ (v361 : Value).ownBlock ∧ some k_ ≠ (.slice Ao22 t342.length co22 : Value).ownBlock ∧ some k_ ≠ (.slice Ao26 t348.length co26 : Value).ownBlock ∧ some k_ ≠ (.slice Ao25 t351.length co25 : Value).ownBlock ∧ some k_ ≠ (.slice Ao28 t354.length co28 : Value).ownBlock) ho1 (fun k_ hk_ => ⟨hk_.2, Or.elim hk_.1 (fun hs_ => ((Kd.R_apart' (HO359.out) (Kd.R_typed HO345.out) (by decide)).1 k_ hs_.symm).2) (fun hn_ => (Kd.fresh' (Kd.R_lt (by (with_reducible repeat (first | apply xR | apply xS | apply xT)); exact HO345.out)) k_ hn_)), Or.elim hk_.1 (fun hs_ => ((Kd.R_apart' (HO359.out) (Kd.R_typed HO345.out) (by decide)).1 k_ hs_.symm).1.1.1.2) (fun hn_ => (Kd.fresh' (Kd.R_lt (by (with_reducible repeat (first | apply xR | apply xS | apply xT)); exact HO350.out)) k_ hn_)), Or.elim hk_.1 (fun hs_ => ((Kd.R_apart' (HO359.out) (Kd.R_typed HO345.out) (by decide)).1 k_ hs_.symm).1.1.2) (fun hn_ => (Kd.fresh' (Kd.R_lt (by (with_reducible repeat (first | apply xR | apply xS | apply xT)); exact HO353.out)) k_ hn_)), Or.elim hk_.1 (fun hs_ => ((Kd.R_apart' (HO359.out) (Kd.R_typed HO345.out) (by decide)).1 k_ hs_.symm).1.2) (fun hn_ => (Kd.fresh' (Kd.R_lt (by (with_reducible repeat (first | apply xR | apply xS | apply xT)); exact HO356.out)) k_ hn_))⟩)) (xZ (by repeat (first | (with_reducible first | exact HB.out | apply xA | apply xN | apply xO) | exact HB.out)))); have n7_ := Aside0.mk (xP (by repeat (first | (with_reducible first | exact HB.out | apply xA | apply xN | apply xO) | exact HB.out)) hb); clear HO345; clear HO350; clear HO353; clear HO356; clear HO359; clear HB; have HO345 := n0_; have HO350 := n1_; have HO353 := n2_; have HO356 := n3_; have HO359 := n4_; have HO362 := n5_; have HO365 := n6_; have HB := n7_; clear n0_ n1_ n2_ n3_ n4_ n5_ n6_ n7_; (try clear hb); (try clear ho0); (try clear ho1); obtain ⟨Ao32, co32, eo32⟩ := Kd.R_slice HO362.out; subst eo32) | ((with_reducible refine gate_callee (f := 38) rfl ?_); refine goesL_ (some 66) rfl rfl Try.func38 (by kernel_rfl) rfl #[.slice Ao32 t360.length co32, .slice Ao26 t348.length co26] rfl (by (try simp only [List.map_toArray, List.map_cons, List.map_nil]); first | done | rfl | (simp only [List.length_drop, List.length_take]; rfl)) ?_; (with_reducible refine (gf_Poly_Mul.calls k _ _ t360 _ _ t348 t366 _ ?side1 ?side2 ?side3 ?side4 A17.out).mono ?_); (case side1 => repeat (first | exact (Kd.R_reads' HO362.out).2.2 | (with_reducible refine Kd.C_alloc ?_ _) | (with_reducible refine Kd.C_drewN ?_ _) | (with_reducible refine Kd.C_drew ?_))); (case side2 => exact (Kd.R_reads' HO362.out).2.1); (case side3 => repeat (first | exact (Kd.R_reads' HO350.out).2.2 | (with_reducible refine Kd.C_alloc ?_ _) | (with_reducible refine Kd.C_drewN ?_ _) | (with_reducible refine Kd.C_drew ?_))); (case side4 => exact (Kd.R_reads' HO350.out).2.1); rintro e w33 ⟨v367, rfl, ho0, hb⟩; refine ⟨_, rfl, ?_⟩; have n0_ := Aside0.mk (Kd.R_below (by (with_reducible repeat (first | apply xR | apply xS | apply xT)); exact HO345.out) hb); have n1_ := Aside0.mk (Kd.R_elder' (by (with_reducible repeat (first | apply xR | apply xS | apply xT)); exact HO350.out) (Kd.R_base ho0) hb); have n2_ := Aside0.mk (Kd.R_elder' (by (with_reducible repeat (first | apply xR | apply xS | apply xT)); exact HO353.out) (Kd.R_base ho0) hb); have n3_ := Aside0.mk (Kd.R_elder' (by (with_reducible repeat (first | apply xR | apply xS | apply xT)); exact HO356.out) (Kd.R_base ho0) hb); have n4_ := Aside0.mk (Kd.R_elder' (by (with_reducible repeat (first | apply xR | apply xS | apply xT)); exact HO359.out) (Kd.R_base ho0) hb); have n5_ := Aside0.mk (Kd.R_elder' (by (with_reducible repeat (first | apply xR | apply xS | apply xT)); exact HO362.out) (Kd.R_base ho0) hb); have n6_ := Aside0.mk (Kd.V_elder' (by (with_reducible repeat (first | apply Kd.V_alloc | apply Kd.V_drewN | apply Kd.V_drew)); exact HO365.out) (Kd.R_base ho0) hb); have n7_ := Aside0.mk (Kd.R_lower (Kd.R_new' (Kd.R_new' (Kd.R_new' (Kd.R_new' (Kd.R_new' ho0 (Kd.R_lt (by (with_reducible repeat (first | apply xR | apply xS | apply xT)); exact HO350.out))) (Kd.R_lt (by (with_reducible repeat (first | apply xR | apply xS | apply xT)); exact HO353.out))) (Kd.R_lt (by (with_reducible repeat (first | apply xR | apply xS | apply xT)); exact HO356.out))) (Kd.R_lt (by (with_reducible repeat (first | apply xR | apply xS | apply xT)); exact HO359.out))) (Kd.R_lt (by (with_reducible repeat (first | apply xR | apply xS | apply xT)); exact HO362.out))) (xZ (by repeat (first | (with_reducible first | exact HB.out | apply xA | apply xN | apply xO) | exact HB.out)))); have n8_ := Aside0.mk (xP (by repeat (first | (with_reducible first | exact HB.out | apply xA | apply xN | apply xO) | exact HB.out)) hb); clear HO345; clear HO350; clear HO353; clear HO356; clear HO359; clear HO362; clear HO365; clear HB; have HO345 := n0_; have HO350 := n1_; have HO353 := n2_; have HO356 := n3_; have HO359 := n4_; have HO362 := n5_; have HO365 := n6_; have HO368 := n7_; have HB := n8_; clear n0_ n1_ n2_ n3_ n4_ n5_ n6_ n7_ n8_; (try clear hb); (try clear ho0); obtain ⟨Ao34, co34, eo34⟩ := Kd.R_slice HO368.out; subst eo34) | ((with_reducible refine gate_callee (f := 41) rfl ?_); refine goesL_ (some 70) rfl rfl Try.func41 (by kernel_rfl) rfl #[.slice Ao34 t366.length co34, .int .i64 (a0.size : Int)] rfl (by (try simp only [List.map_toArray, List.map_cons, List.map_nil]); first | done | rfl | (simp only [List.length_drop, List.length_take]; rfl)) ?_; (with_reducible refine (rs_roots.calls k _ _ t366 (a0.size : Int) t369 _ ?side1 ?side2 A18.out).mono ?_); (case side1 => repeat (first | exact (Kd.R_reads' HO368.out).2.2 | (with_reducible refine Kd.C_alloc ?_ _) | (with_reducible refine Kd.C_drewN ?_ _) | (with_reducible refine Kd.C_drew ?_))); (case side2 => exact (Kd.R_reads' HO368.out).2.1); rintro e w35 ⟨v370, rfl, ho0, hb⟩; refine ⟨_, rfl, ?_⟩; have n0_ := Aside0.mk (Kd.R_elder' (by (with_reducible repeat (first | apply xR | apply xS | apply xT)); exact HO345.out) (Kd.R_base ho0) hb); have n1_ := Aside0.mk (Kd.R_below (by (with_reducible repeat (first | apply xR | apply xS | apply xT)); exact HO350.out) hb); have n2_ := Aside0.mk (Kd.R_below (by (with_reducible repeat (first | apply xR | apply xS | apply xT)); exact HO353.out) hb); have n3_ := Aside0.mk (Kd.R_below (by (with_reducible repeat (first | apply xR | apply xS | apply xT)); exact HO356.out) hb); have n4_ := Aside0.mk (Kd.R_below (by (with_reducible repeat (first | apply xR | apply xS | apply xT)); exact HO359.out) hb); have n5_ := Aside0.mk (Kd.R_below (by (with_reducible repeat (first | apply xR | apply xS | apply xT)); exact HO362.out) hb); have n6_ := Aside0.mk (Kd.V_elder' (by (with_reducible repeat (first | apply Kd.V_alloc | apply Kd.V_drewN | apply Kd.V_drew)); exact HO365.out) (Kd.R_base ho0) hb); have n7_ := Aside0.mk (Kd.R_below (by (with_reducible repeat (first | apply xR | apply xS | apply xT)); exact HO368.out) hb); have n8_ := Aside0.mk (Kd.R_lower (Kd.R_new' ho0 (Kd.R_lt (by (with_reducible repeat (first | apply xR | apply xS | apply xT)); exact HO345.out))) (xZ (by repeat (first | (with_reducible first | exact HB.out | apply xA | apply xN | apply xO) | exact HB.out)))); have n9_ := Aside0.mk (xP (by repeat (first | (with_reducible first | exact HB.out | apply xA | apply xN | apply xO) | exact HB.out)) hb); clear HO345; clear HO350; clear HO353; clear HO356; clear HO359; clear HO362; clear HO365; clear HO368; clear HB; have HO345 := n0_; have HO350 := n1_; have HO353 := n2_; have HO356 := n3_; have HO359 := n4_; have HO362 := n5_; have HO365 := n6_; have HO368 := n7_; have HO371 := n8_; have HB := n9_; clear n0_ n1_ n2_ n3_ n4_ n5_ n6_ n7_ n8_ n9_; (try clear hb); (try clear ho0)))
  (try simp only [Act.put, List.setIfInBounds_toArray, List.set_cons_zero, List.set_cons_succ])
  go_cut [90] (fun v90 wc => ∃ (kq : Nat) (x90_18 : Bool), v90 = .bool x90_18 ∧ Aside0 (rs_Decode.j0 kq a0 a1 t363 t366 t369 x90_18 = some (r1, r2, r3)) ∧ Aside0 (kq ≤ k) ∧ Aside0 (Kd.V (Kd.int .u8) 5 wc w.heap.size (fun k_ => some k_ ≠ ((.slice Ao34 t366.length co34) : Value).ownBlock ∧ some k_ ≠ (v370 : Value).ownBlock) v364 t363) ∧ Aside0 (Kd.R (Kd.int .u8) 5 wc w.heap.size (fun _ => True) (.slice Ao34 t366.length co34) t366) ∧ Aside0 (Kd.R (Kd.int .i64) 3 wc w.heap.size (fun _ => True) v370 t369) ∧ Aside0 (Below w.heap.size w wc))
  case first =>
    have H := HC19.out
    clear HC19
    by_cases c36 : (t369.length : Int) = 0
    · rw [if_pos c36] at H
      have c36b0 : ((t369.length : Int) == 0) = true := beq_iff_eq.mpr c36
      have c36b1 : ((t369.length : Int) != 0) = false := bne_eq_false_iff_eq.mpr c36
      clear c36
      (first | rw [c36b0] | (simp only [i64_w, i32_w]; rw [c36b0]) | skip)
      have H' := Aside0.mk H
      clear H
      obtain ⟨Ao37, co37, eo37⟩ := Kd.R_slice HO371.out
      subst eo37
      go_wp2
      go_meet
      case rel => exact ⟨_, (true), (by first | rfl | (simp; done) | (simp [*]; done)), H', ⟨by first | omega | exact Nat.le_refl _⟩, ⟨by (with_reducible repeat (first | apply Kd.V_alloc | apply Kd.V_drewN | apply Kd.V_drew)); exact Kd.V_mono HO365.out (fun _ hk => ⟨hk.1.2, hk.2⟩)⟩, ⟨by (with_reducible repeat (first | apply xR | apply xS | apply xT)); exact Kd.R_mono HO368.out (fun _ hk => trivial)⟩, ⟨by (with_reducible repeat (first | apply xR | apply xS | apply xT)); exact Kd.R_mono HO371.out (fun _ hk => trivial)⟩, ⟨by repeat (first | (with_reducible first | exact HB.out | apply xA | apply xN | apply xO) | exact HB.out)⟩⟩
    rw [if_neg c36] at H
    have c36b0 : ((t369.length : Int) == 0) = false := beq_eq_false_iff_ne.mpr c36
    have c36b1 : ((t369.length : Int) != 0) = true := bne_iff_ne.mpr c36
    have c36b2 : ¬ (t369 = []) := fun h_ => c36 (by rw [h_]; rfl)
    (first | rw [c36b0] | (simp only [i64_w, i32_w]; rw [c36b0]) | skip)
    replace H := Option.bind_eq_some_iff.mp H
    obtain ⟨t372, A380, H⟩ := H
    have A38 := Aside0.mk A380
    clear A380
    by_cases c39 : (t369.length : Int) = t372
    rotate_left
    · rw [if_neg c39] at H
      have c39b0 : ((t369.length : Int) == t372) = false := beq_eq_false_iff_ne.mpr c39
      have c39b1 : ((t369.length : Int) != t372) = true := bne_iff_ne.mpr c39
      have H' := Aside0.mk H
      clear H
      obtain ⟨Ao42, co42, eo42⟩ := Kd.R_slice HO371.out
      subst eo42
      go_wp2_with (first | (go_at_call 42; (with_reducible refine (gf_Poly_Degree.calls k _ _ t366 t372 _ ?side1 ?side2 A38.out).mono ?_); (case side1 => repeat (first | exact (Kd.R_reads' HO368.out).2.2 | (with_reducible refine Kd.C_alloc ?_ _) | (with_reducible refine Kd.C_drewN ?_ _) | (with_reducible refine Kd.C_drew ?_))); (case side2 => exact (Kd.R_reads' HO368.out).2.1); rintro e w' ⟨rfl, ⟨nd, rfl⟩⟩))
      go_meet
      case rel => exact ⟨_, (true), (by first | rfl | (simp; done) | (simp [*]; done)), H', ⟨by first | omega | exact Nat.le_refl _⟩, ⟨by (with_reducible repeat (first | apply Kd.V_alloc | apply Kd.V_drewN | apply Kd.V_drew)); exact Kd.V_mono HO365.out (fun _ hk => ⟨hk.1.2, hk.2⟩)⟩, ⟨by (with_reducible repeat (first | apply xR | apply xS | apply xT)); exact Kd.R_mono HO368.out (fun _ hk => trivial)⟩, ⟨by (with_reducible repeat (first | apply xR | apply xS | apply xT)); exact Kd.R_mono HO371.out (fun _ hk => trivial)⟩, ⟨by repeat (first | (with_reducible first | exact HB.out | apply xA | apply xN | apply xO) | exact HB.out)⟩⟩
    rw [if_pos c39] at H
    have c39b0 : ((t369.length : Int) == t372) = true := beq_iff_eq.mpr c39
    have c39b1 : ((t369.length : Int) != t372) = false := bne_eq_false_iff_eq.mpr c39
    clear c39
    replace H := Option.bind_eq_some_iff.mp H
    obtain ⟨t373, A400, H⟩ := H
    have A40 := Aside0.mk A400
    clear A400
    have H' := Aside0.mk H
    clear H
    obtain ⟨Ao41, co41, eo41⟩ := Kd.R_slice HO371.out
    subst eo41
    go_wp2_with (first | (go_at_call 42; (with_reducible refine (gf_Poly_Degree.calls k _ _ t366 t372 _ ?side1 ?side2 A38.out).mono ?_); (case side1 => repeat (first | exact (Kd.R_reads' HO368.out).2.2 | (with_reducible refine Kd.C_alloc ?_ _) | (with_reducible refine Kd.C_drewN ?_ _) | (with_reducible refine Kd.C_drew ?_))); (case side2 => exact (Kd.R_reads' HO368.out).2.1); rintro e w' ⟨rfl, ⟨nd, rfl⟩⟩) | (go_at_call 42; (with_reducible refine (gf_Poly_Degree.calls k _ _ t360 t373 _ ?side1 ?side2 A40.out).mono ?_); (case side1 => repeat (first | exact (Kd.R_reads' HO362.out).2.2 | (with_reducible refine Kd.C_alloc ?_ _) | (with_reducible refine Kd.C_drewN ?_ _) | (with_reducible refine Kd.C_drew ?_))); (case side2 => exact (Kd.R_reads' HO362.out).2.1); rintro e w' ⟨rfl, ⟨nd, rfl⟩⟩))
    go_meet
    case rel => exact ⟨_, (decide ((wrap64 ((wrap64 (2 * t373)) + (t342.length : Int))) > a1)), (by first | rfl | (simp; done) | (simp [*]; done)), H', ⟨by first | omega | exact Nat.le_refl _⟩, ⟨by (with_reducible repeat (first | apply Kd.V_alloc | apply Kd.V_drewN | apply Kd.V_drew)); exact Kd.V_mono HO365.out (fun _ hk => ⟨hk.1.2, hk.2⟩)⟩, ⟨by (with_reducible repeat (first | apply xR | apply xS | apply xT)); exact Kd.R_mono HO368.out (fun _ hk => trivial)⟩, ⟨by (with_reducible repeat (first | apply xR | apply xS | apply xT)); exact Kd.R_mono HO371.out (fun _ hk => trivial)⟩, ⟨by repeat (first | (with_reducible first | exact HB.out | apply xA | apply xN | apply xO) | exact HB.out)⟩⟩
  case rest =>
    clear HC19
    try clear c2
    try clear p2
    try clear c3
    try clear c4
    try clear c6
    try clear p6
    try clear c7
    try clear c9
    try clear c23
    try clear c27
    try clear c34
    try clear c35
    try clear c36
    try clear c36b0
    try clear c36b1
    try clear c36b2
    try clear c37
    try clear c38
    try clear c39
    try clear c39b0
    try clear c39b1
    try clear c40
    try clear c41
    obtain ⟨kq, x90_18, rfl, HA, HJ18, HO_14, HO_15, HO_16, HB⟩ := hcut
    cases kq with
    | zero => exact absurd HA.out (by simp [rs_Decode.j0])
    | succ kj18 =>
      have H := HA.out
      clear HA
      simp only [rs_Decode.j0] at H
      by_cases c43 : x90_18 = true
      · subst c43
        rw [if_pos rfl] at H
        simp only [Option.some.injEq, Prod.mk.injEq] at H
        obtain ⟨rfl, rfl, rfl⟩ := H
        go_wp2
        go_ret3
        exact ⟨by first | rfl | (simp [errW_none, errW_some] <;> rfl) | (simp [*, errW_none, errW_some] <;> rfl), by repeat (first | (with_reducible first | exact HB.out | apply xA | apply xN | apply xO) | exact HB.out)⟩
      replace c43 := Bool.eq_false_iff.mpr c43
      subst c43
      rw [if_neg (show ¬ (false = true) by decide)] at H
      by_cases c44 : a0.size ≤ 9223372036854775807
      rotate_left
      · rw [if_neg c44] at H
        exact absurd H (by simp)
      rw [if_pos c44] at H
      have c44b0 := eq_true c44
      have c44b1 : decide (a0.size ≤ 9223372036854775807) = true := decide_eq_true c44
      try have c44b2 : (9223372036854775807 < a0.size) = False := eq_false (Nat.not_lt.2 c44)
      clear c44
      obtain ⟨y374, hy374⟩ : ∃ y_ : List Int, y_ = (bytesOf a0) := ⟨_, rfl⟩
      replace H : ((gf_Poly_Slope.f kj18 t366).bind fun t377 => (rs_Decode.l0 kj18 a1 t363 y374 0 t377 t369 (t369.length : Int) 0)) = some (r1, r2, r3) := by first | (have H2_ := (Option.bind_some _ _).symm.trans H; rw [hy374]; with_reducible exact H2_) | (rw [hy374]; exact H) | exact H
      have Ny374 := Aside0.mk hy374
      clear hy374
      replace H := Option.bind_eq_some_iff.mp H
      obtain ⟨t377, A450, H⟩ := H
      have A45 := Aside0.mk A450
      clear A450
      have H' := Aside0.mk H
      clear H
      go_wp2_with (first | ((with_reducible refine gate_dst (N := 92) rfl ?_); refine Kd.Q_bytes 5 rfl (N := 92) rfl 9 40 _ rfl a0 rfl Try.underlying9 Try.underlying40 Try.underlying5 (ok := fun _ => True) trivial (of_decide_eq_true (by first | (with_reducible assumption) | assumption)) (Below.refl _ _) (Nat.le_refl _) ?_; intro v375 w46 ho47 hb hg_ hnew_; clear hg_ hnew_; (first | rw [← Ny374.out] at ho47 | (simp only [Int.reduceToNat] at ho47; rw [← Ny374.out] at ho47)); have n0_ := Aside0.mk (Kd.V_elder' (by (with_reducible repeat (first | apply Kd.V_alloc | apply Kd.V_drewN | apply Kd.V_drew)); exact HO_14.out) (Kd.Q_base ho47) hb); have n1_ := Aside0.mk (Kd.R_elder' (by (with_reducible repeat (first | apply xR | apply xS | apply xT)); exact HO_15.out) (Kd.Q_base ho47) hb); have n2_ := Aside0.mk (Kd.R_below (by (with_reducible repeat (first | apply xR | apply xS | apply xT)); exact HO_16.out) hb); have n3_ := Aside0.mk (Kd.Q_lower (Kd.Q_new' ho47 (Kd.R_lt (by (with_reducible repeat (first | apply xR | apply xS | apply xT)); exact HO_15.out))) (xZ (by repeat (first | (with_reducible first | exact HB.out | apply xA | apply xN | apply xO) | exact HB.out)))); have n4_ := Aside0.mk (xP (by repeat (first | (with_reducible first | exact HB.out | apply xA | apply xN | apply xO) | exact HB.out)) hb); clear HO_14; clear HO_15; clear HO_16; clear HB; have HO_14 := n0_; have HO_15 := n1_; have HO_16 := n2_; have HO376 := n3_; have HB := n4_; clear n0_ n1_ n2_ n3_ n4_; clear hb ho47) | ((with_reducible refine gate_callee (f := 43) rfl ?_); refine goesL_ (some 94) rfl rfl Try.func43 (by kernel_rfl) rfl #[.slice Ao34 t366.length co34] rfl (by (try simp only [List.map_toArray, List.map_cons, List.map_nil]); first | done | rfl | (simp only [List.length_drop, List.length_take]; rfl)) ?_; (with_reducible refine (gf_Poly_Slope.calls kj18 _ _ t366 t377 _ ?side1 ?side2 A45.out).mono ?_); (case side1 => repeat (first | exact (Kd.R_reads' HO_15.out).2.2 | (with_reducible refine Kd.C_alloc ?_ _) | (with_reducible refine Kd.C_drewN ?_ _) | (with_reducible refine Kd.C_drew ?_))); (case side2 => exact (Kd.R_reads' HO_15.out).2.1); rintro e w48 ⟨v378, rfl, ho0, hb⟩; refine ⟨_, rfl, ?_⟩; have n0_ := Aside0.mk (Kd.V_elder' (by (with_reducible repeat (first | apply Kd.V_alloc | apply Kd.V_drewN | apply Kd.V_drew)); exact HO_14.out) (Kd.R_base ho0) hb); have n1_ := Aside0.mk (Kd.R_elder' (by (with_reducible repeat (first | apply xR | apply xS | apply xT)); exact HO_15.out) (Kd.R_base ho0) hb); have n2_ := Aside0.mk (Kd.R_below (by (with_reducible repeat (first | apply xR | apply xS | apply xT)); exact HO_16.out) hb); have n3_ := Aside0.mk (Kd.Q_elder' (by (with_reducible repeat (first | apply Kd.Q_alloc | apply Kd.Q_drewN | apply Kd.Q_drew)); exact HO376.out) (Kd.R_base ho0) hb); have n4_ := Aside0.mk (Kd.R_lower (Kd.R_new' (Kd.R_new' ho0 (Kd.R_lt (by (with_reducible repeat (first | apply xR | apply xS | apply xT)); exact HO_15.out))) (Kd.Q_lt (by (with_reducible repeat (first | apply Kd.Q_alloc | apply Kd.Q_drewN | apply Kd.Q_drew)); exact HO376.out))) (xZ (by repeat (first | (with_reducible first | exact HB.out | apply xA | apply xN | apply xO) | exact HB.out)))); have n5_ := Aside0.mk (xP (by repeat (first | (with_reducible first | exact HB.out | apply xA | apply xN | apply xO) | exact HB.out)) hb); clear HO_14; clear HO_15; clear HO_16; clear HO376; clear HB; have HO_14 := n0_; have HO_15 := n1_; have HO_16 := n2_; have HO376 := n3_; have HO379 := n4_; have HB := n5_; clear n0_ n1_ n2_ n3_ n4_ n5_; (try clear hb); (try clear ho0); obtain ⟨Ao49, co49, eo49⟩ := Kd.R_slice HO_16.out; subst eo49))
      go_loopg [18, 97] kj18 (fun kq v18 v97 w' => ∃ (x17_2 : List Int) (x18_2 : Int) (x97_2 : Int), v18 = .int .i64 x18_2 ∧ v97 = .int .i64 x97_2 ∧ Aside0 (rs_Decode.l0 kq a1 t363 x17_2 x18_2 t377 t369 (t369.length : Int) x97_2 = some (r1, r2, r3)) ∧ Aside0 (kq ≤ kj18) ∧ Aside0 (Kd.V (Kd.int .u8) 5 w' w.heap.size (fun k_ => some k_ ≠ (v375 : Value).ownBlock ∧ some k_ ≠ (v378 : Value).ownBlock ∧ some k_ ≠ ((.slice Ao49 t369.length co49) : Value).ownBlock) v364 t363) ∧ Aside0 (Kd.Q (Kd.int .u8) 5 w' w.heap.size (fun k_ => some k_ ≠ (v378 : Value).ownBlock) v375 x17_2) ∧ Aside0 (Kd.R (Kd.int .u8) 5 w' w.heap.size (fun k_ => some k_ ≠ (v375 : Value).ownBlock) v378 t377) ∧ Aside0 (Kd.R (Kd.int .i64) 3 w' w.heap.size (fun _ => True) (.slice Ao49 t369.length co49) t369) ∧ Aside0 (Below w.heap.size w w'))
      case atStart => exact ⟨(y374), (0), (0), (by first | rfl | (simp; done) | (simp [*]; done)), (by first | rfl | (simp; done) | (simp [*]; done)), H', ⟨Nat.le_refl _⟩, ⟨by (with_reducible repeat (first | apply Kd.V_alloc | apply Kd.V_drewN | apply Kd.V_drew)); exact Kd.V_mono HO_14.out (fun _ hk => ⟨hk.1.2, ⟨hk.2, hk.1.1.2⟩⟩)⟩, ⟨by (with_reducible repeat (first | apply Kd.Q_alloc | apply Kd.Q_drewN | apply Kd.Q_drew)); exact Kd.Q_mono HO376.out (fun _ hk => hk.2)⟩, ⟨by (with_reducible repeat (first | apply xR | apply xS | apply xT)); exact Kd.R_mono HO379.out (fun _ hk => hk.2)⟩, ⟨by (with_reducible repeat (first | apply xR | apply xS | apply xT)); exact HO_16.out⟩, ⟨by repeat (first | (with_reducible first | exact HB.out | apply xA | apply xN | apply xO) | exact HB.out)⟩⟩
      case round =>
        clear H'
        try clear c2
        try clear p2
        try clear c3
        try clear c4
        try clear c6
        try clear p6
        try clear c7
        try clear c9
        try clear c23
        try clear c27
        try clear c34
        try clear c35
        try clear c36
        try clear c36b0
        try clear c36b1
        try clear c36b2
        try clear c37
        try clear c38
        try clear c39
        try clear c39b0
        try clear c39b1
        try clear c40
        try clear c41
        try clear c43
        try clear c44
        try clear c44b0
        try clear c44b1
        try clear c44b2
        try clear p2
        try clear p6
        obtain ⟨x17_2, x18_2, x97_2, rfl, rfl, HA, HK2, HO_14, HO_17, HO_19, HO_95, HB⟩ := hrel
        cases gk with
        | zero => exact absurd HA.out (by simp [rs_Decode.l0])
        | succ k2 =>
          have H := HA.out
          clear HA
          simp only [rs_Decode.l0] at H
          by_cases c50 : x97_2 < (t369.length : Int)
          rotate_left
          · rw [if_neg c50] at H
            have c50b0 : decide (x97_2 < (t369.length : Int)) = false := decide_eq_false c50
            clear c50
            replace H := Option.bind_eq_some_iff.mp H
            obtain ⟨t380, A810, H⟩ := H
            have A81 := Aside0.mk A810
            clear A810
            by_cases c82 : t380 = true
            rotate_left
            · replace c82 := Bool.eq_false_iff.mpr c82
              subst c82
              rw [if_neg (show ¬ (false = true) by decide)] at H
              simp only [Option.some.injEq, Prod.mk.injEq] at H
              obtain ⟨rfl, rfl, rfl⟩ := H
              have hcv86 := Kd.Q_string (P := Try.prog) Try.underlying40 Try.underlying5 Try.underlying9 HO_17.out
              go_wp2_with (first | ((with_reducible refine gate_callee (f := 35) rfl ?_); refine goesL_ (some 137) rfl rfl Try.func35 (by kernel_rfl) rfl #[.string (strOfNums x17_2), .int .i64 a1] rfl (by (try simp only [List.map_toArray, List.map_cons, List.map_nil]); first | done | rfl | (simp only [List.length_drop, List.length_take]; rfl)) ?_; (with_reducible refine (rs_Right.calls k2 (strOfNums x17_2) a1 false _ A81.out).mono ?_); rintro e w87 ⟨rfl, hb⟩; refine ⟨_, rfl, ?_⟩; have n0_ := Aside0.mk (Kd.V_below (by (with_reducible repeat (first | apply Kd.V_alloc | apply Kd.V_drewN | apply Kd.V_drew)); exact HO_14.out) hb); have n1_ := Aside0.mk (Kd.Q_below (by (with_reducible repeat (first | apply Kd.Q_alloc | apply Kd.Q_drewN | apply Kd.Q_drew)); exact HO_17.out) hb); have n2_ := Aside0.mk (Kd.R_below (by (with_reducible repeat (first | apply xR | apply xS | apply xT)); exact HO_19.out) hb); have n3_ := Aside0.mk (Kd.R_below (by (with_reducible repeat (first | apply xR | apply xS | apply xT)); exact HO_95.out) hb); have n4_ := Aside0.mk (xP (by repeat (first | (with_reducible first | exact HB.out | apply xA | apply xN | apply xO) | exact HB.out)) hb); clear HO_14; clear HO_17; clear HO_19; clear HO_95; clear HB; have HO_14 := n0_; have HO_17 := n1_; have HO_19 := n2_; have HO_95 := n3_; have HB := n4_; clear n0_ n1_ n2_ n3_ n4_; (try clear hb)))
              go_ret3
              exact ⟨by first | rfl | (simp [errW_none, errW_some] <;> rfl) | (simp [*, errW_none, errW_some] <;> rfl), by repeat (first | (with_reducible first | exact HB.out | apply xA | apply xN | apply xO) | exact HB.out)⟩
            subst c82
            rw [if_pos rfl] at H
            simp only [Option.some.injEq, Prod.mk.injEq] at H
            obtain ⟨rfl, rfl, rfl⟩ := H
            have hcv83 := Kd.Q_string (P := Try.prog) Try.underlying40 Try.underlying5 Try.underlying9 HO_17.out
            go_wp2_with (first | ((with_reducible refine gate_callee (f := 35) rfl ?_); refine goesL_ (some 137) rfl rfl Try.func35 (by kernel_rfl) rfl #[.string (strOfNums x17_2), .int .i64 a1] rfl (by (try simp only [List.map_toArray, List.map_cons, List.map_nil]); first | done | rfl | (simp only [List.length_drop, List.length_take]; rfl)) ?_; (with_reducible refine (rs_Right.calls k2 (strOfNums x17_2) a1 true _ A81.out).mono ?_); rintro e w84 ⟨rfl, hb⟩; refine ⟨_, rfl, ?_⟩; have n0_ := Aside0.mk (Kd.V_below (by (with_reducible repeat (first | apply Kd.V_alloc | apply Kd.V_drewN | apply Kd.V_drew)); exact HO_14.out) hb); have n1_ := Aside0.mk (Kd.Q_below (by (with_reducible repeat (first | apply Kd.Q_alloc | apply Kd.Q_drewN | apply Kd.Q_drew)); exact HO_17.out) hb); have n2_ := Aside0.mk (Kd.R_below (by (with_reducible repeat (first | apply xR | apply xS | apply xT)); exact HO_19.out) hb); have n3_ := Aside0.mk (Kd.R_below (by (with_reducible repeat (first | apply xR | apply xS | apply xT)); exact HO_95.out) hb); have n4_ := Aside0.mk (xP (by repeat (first | (with_reducible first | exact HB.out | apply xA | apply xN | apply xO) | exact HB.out)) hb); clear HO_14; clear HO_17; clear HO_19; clear HO_95; clear HB; have HO_14 := n0_; have HO_17 := n1_; have HO_19 := n2_; have HO_95 := n3_; have HB := n4_; clear n0_ n1_ n2_ n3_ n4_; (try clear hb); have hcv85 := Kd.Q_string (P := Try.prog) Try.underlying40 Try.underlying5 Try.underlying9 HO_17.out))
            go_ret3
            exact ⟨by first | rfl | (simp [errW_none, errW_some] <;> rfl) | (simp [*, errW_none, errW_some] <;> rfl), by repeat (first | (with_reducible first | exact HB.out | apply xA | apply xN | apply xO) | exact HB.out)⟩
          rw [if_pos c50] at H
          have c50b0 : decide (x97_2 < (t369.length : Int)) = true := decide_eq_true c50
          clear c50
          by_cases c51 : 0 ≤ x97_2
          rotate_left
          · rw [if_neg c51] at H
            exact absurd H (by simp)
          rw [if_pos c51] at H
          have c51b0 : decide (0 ≤ x97_2) = true := decide_eq_true c51
          clear c51
          by_cases c52 : x97_2 < (t369.length : Int)
          rotate_left
          · rw [if_neg c52] at H
            exact absurd H (by simp)
          rw [if_pos c52] at H
          have c52b0 : decide (x97_2 < (t369.length : Int)) = true := decide_eq_true c52
          clear c52
          replace H := Option.bind_eq_some_iff.mp H
          obtain ⟨t382, A530, H⟩ := H
          have A53 := Aside0.mk A530
          clear A530
          replace H := Option.bind_eq_some_iff.mp H
          obtain ⟨t383, A540, H⟩ := H
          have A54 := Aside0.mk A540
          clear A540
          by_cases c55 : t383 = 0
          · rw [if_pos c55] at H
            have c55b0 : (t383 == 0) = true := beq_iff_eq.mpr c55
            have c55b1 : (t383 != 0) = false := bne_eq_false_iff_eq.mpr c55
            clear c55
            simp only [Option.some.injEq, Prod.mk.injEq] at H
            obtain ⟨rfl, rfl, rfl⟩ := H
            have p381 : 0 ≤ (x97_2 : Int) := of_decide_eq_true (by first | (with_reducible assumption) | assumption)
            have q381 : x97_2 < (t369.length : Int) := of_decide_eq_true (by first | (with_reducible assumption) | assumption)
            obtain ⟨ad381, e381, hx381_0⟩ := Kd.at_int (Kd.R_reads' HO_95.out).2.2 x97_2 p381 q381
            cases e381
            replace p381 := eq_true p381
            replace q381 := eq_true q381
            go_wp2_with (first | ((with_reducible refine gate_callee (f := 44) rfl ?_); refine goesL_ (some 103) rfl rfl Try.func44 (by kernel_rfl) rfl #[.int .i64 (wrap64 (-(rd t369 x97_2)))] rfl (by (try simp only [List.map_toArray, List.map_cons, List.map_nil]); first | done | rfl | (simp only [List.length_drop, List.length_take]; rfl)) ?_; (with_reducible refine (gf_Root.calls k2 (wrap64 (-(rd t369 x97_2))) t382 _ A53.out).mono ?_); rintro e w' ⟨rfl, ⟨nd, rfl⟩⟩; refine ⟨_, rfl, ?_⟩; obtain ⟨Ao56, co56, eo56⟩ := Kd.R_slice HO_19.out; subst eo56) | ((with_reducible refine gate_callee (f := 45) rfl ?_); refine goesL_ (some 106) rfl rfl Try.func45 (by kernel_rfl) rfl #[.slice Ao56 t377.length co56, .int .u8 t382] rfl (by (try simp only [List.map_toArray, List.map_cons, List.map_nil]); first | done | rfl | (simp only [List.length_drop, List.length_take]; rfl)) ?_; (with_reducible refine (gf_Poly_At.calls k2 _ _ t377 t382 t383 _ ?side1 ?side2 A54.out).mono ?_); (case side1 => repeat (first | exact (Kd.R_reads' HO_19.out).2.2 | (with_reducible refine Kd.C_alloc ?_ _) | (with_reducible refine Kd.C_drewN ?_ _) | (with_reducible refine Kd.C_drew ?_))); (case side2 => exact (Kd.R_reads' HO_19.out).2.1); rintro e w' ⟨rfl, ⟨nd, rfl⟩⟩; refine ⟨_, rfl, ?_⟩))
            go_ret3
            exact ⟨by first | rfl | (simp [errW_none, errW_some] <;> rfl) | (simp [*, errW_none, errW_some] <;> rfl), by repeat (first | (with_reducible first | exact HB.out | apply xA | apply xN | apply xO) | exact HB.out)⟩
          rw [if_neg c55] at H
          have c55b0 : (t383 == 0) = false := beq_eq_false_iff_ne.mpr c55
          have c55b1 : (t383 != 0) = true := bne_iff_ne.mpr c55
          replace H := Option.bind_eq_some_iff.mp H
          obtain ⟨t384, A570, H⟩ := H
          have A57 := Aside0.mk A570
          clear A570
          replace H := Option.bind_eq_some_iff.mp H
          obtain ⟨t385, A580, H⟩ := H
          have A58 := Aside0.mk A580
          clear A580
          replace H := Option.bind_eq_some_iff.mp H
          obtain ⟨t386, A590, H⟩ := H
          have A59 := Aside0.mk A590
          clear A590
          replace H := Option.bind_eq_some_iff.mp H
          obtain ⟨t387, A600, H⟩ := H
          have A60 := Aside0.mk A600
          clear A600
          replace H := Option.bind_eq_some_iff.mp H
          obtain ⟨t388, A610, H⟩ := H
          have A61 := Aside0.mk A610
          clear A610
          by_cases c62 : t388 = 0
          · rw [if_pos c62] at H
            have c62b0 : (t388 == 0) = true := beq_iff_eq.mpr c62
            have c62b1 : (t388 != 0) = false := bne_eq_false_iff_eq.mpr c62
            clear c62
            obtain ⟨ji63, hji63⟩ : ∃ j_ : Int, (wrap64 ((wrap64 ((x17_2.length : Int) - 1)) - (rd t369 x97_2))) = j_ := ⟨_, rfl⟩
            first | rw [hji63] at H | simp only [hji63] at H
            (try rw [hji63] at A53)
            (try rw [hji63] at A54)
            (try rw [hji63] at A57)
            (try rw [hji63] at A58)
            (try rw [hji63] at A59)
            (try rw [hji63] at A60)
            (try rw [hji63] at A61)
            have hji63w : (IntKind.i64.wrap ((wrap64 ((x17_2.length : Int) - 1)) - (rd t369 x97_2))) = ji63 := (i64_w _).trans hji63
            by_cases c64 : 0 ≤ (ji63)
            rotate_left
            · rw [if_neg c64] at H
              exact absurd H (by simp)
            rw [if_pos c64] at H
            have c64b0 : decide (0 ≤ (ji63)) = true := decide_eq_true c64
            clear c64
            by_cases c65 : (ji63) < (x17_2.length : Int)
            rotate_left
            · rw [if_neg c65] at H
              exact absurd H (by simp)
            rw [if_pos c65] at H
            have c65b0 : decide ((ji63) < (x17_2.length : Int)) = true := decide_eq_true c65
            clear c65
            obtain ⟨y390, hy390⟩ : ∃ y_ : List Int, y_ = (x17_2.set ((ji63) : Int).toNat (Go.bits .xor .u8 (rd x17_2 (ji63)) t388)) := ⟨_, rfl⟩
            replace H : (rs_Decode.l0 k2 a1 t363 y390 x18_2 t377 t369 (t369.length : Int) (wrap64 (x97_2 + 1))) = some (r1, r2, r3) := by first | (have H2_ := (Option.bind_some _ _).symm.trans H; rw [hy390]; with_reducible exact H2_) | (rw [hy390]; exact H) | exact H
            have Ny390 := Aside0.mk hy390
            clear hy390
            have H' := Aside0.mk H
            clear H
            have p381 : 0 ≤ (x97_2 : Int) := of_decide_eq_true (by first | (with_reducible assumption) | assumption)
            have q381 : x97_2 < (t369.length : Int) := of_decide_eq_true (by first | (with_reducible assumption) | assumption)
            obtain ⟨ad381, e381, hx381_0⟩ := Kd.at_int (Kd.R_reads' HO_95.out).2.2 x97_2 p381 q381
            cases e381
            replace p381 := eq_true p381
            replace q381 := eq_true q381
            go_wp2_with (first | ((with_reducible refine gate_callee (f := 44) rfl ?_); refine goesL_ (some 103) rfl rfl Try.func44 (by kernel_rfl) rfl #[.int .i64 (wrap64 (-(rd t369 x97_2)))] rfl (by (try simp only [List.map_toArray, List.map_cons, List.map_nil]); first | done | rfl | (simp only [List.length_drop, List.length_take]; rfl)) ?_; (with_reducible refine (gf_Root.calls k2 (wrap64 (-(rd t369 x97_2))) t382 _ A53.out).mono ?_); rintro e w' ⟨rfl, ⟨nd, rfl⟩⟩; refine ⟨_, rfl, ?_⟩; (try (rw [drewN_self wr]; generalize hq_ : World.drewN wr _ = wr; have n0_ : Aside0 (Kd.V (Kd.int .u8) 5 wr w.heap.size (fun k_ => some k_ ≠ (v375 : Value).ownBlock ∧ some k_ ≠ (v378 : Value).ownBlock ∧ some k_ ≠ (.slice (some ad381) t369.length co49 : Value).ownBlock) v364 t363) := ⟨by rw [← hq_]; exact (by (with_reducible repeat (first | apply Kd.V_alloc | apply Kd.V_drewN | apply Kd.V_drew)); exact HO_14.out)⟩; have n1_ : Aside0 (Kd.Q (Kd.int .u8) 5 wr w.heap.size (fun k_ => some k_ ≠ (v378 : Value).ownBlock) v375 x17_2) := ⟨by rw [← hq_]; exact (by (with_reducible repeat (first | apply Kd.Q_alloc | apply Kd.Q_drewN | apply Kd.Q_drew)); exact HO_17.out)⟩; have n2_ : Aside0 (Kd.R (Kd.int .u8) 5 wr w.heap.size (fun k_ => some k_ ≠ (v375 : Value).ownBlock) v378 t377) := ⟨by rw [← hq_]; exact (by (with_reducible repeat (first | apply xR | apply xS | apply xT)); exact HO_19.out)⟩; have n3_ : Aside0 (Kd.R (Kd.int .i64) 3 wr w.heap.size (fun _ => True) (.slice (some ad381) t369.length co49) t369) := ⟨by rw [← hq_]; exact (by (with_reducible repeat (first | apply xR | apply xS | apply xT)); exact HO_95.out)⟩; have n4_ : Aside0 (Below w.heap.size w wr) := ⟨by rw [← hq_]; exact (by repeat (first | (with_reducible first | exact HB.out | apply xA | apply xN | apply xO) | exact HB.out))⟩; clear HO_14 HO_17 HO_19 HO_95 HB hq_; have HO_14 := n0_; have HO_17 := n1_; have HO_19 := n2_; have HO_95 := n3_; have HB := n4_; clear n0_ n1_ n2_ n3_ n4_)); obtain ⟨Ao67, co67, eo67⟩ := Kd.R_slice HO_19.out; subst eo67) | ((with_reducible refine gate_callee (f := 45) rfl ?_); refine goesL_ (some 106) rfl rfl Try.func45 (by kernel_rfl) rfl #[.slice Ao67 t377.length co67, .int .u8 t382] rfl (by (try simp only [List.map_toArray, List.map_cons, List.map_nil]); first | done | rfl | (simp only [List.length_drop, List.length_take]; rfl)) ?_; (with_reducible refine (gf_Poly_At.calls k2 _ _ t377 t382 t383 _ ?side1 ?side2 A54.out).mono ?_); (case side1 => repeat (first | exact (Kd.R_reads' HO_19.out).2.2 | (with_reducible refine Kd.C_alloc ?_ _) | (with_reducible refine Kd.C_drewN ?_ _) | (with_reducible refine Kd.C_drew ?_))); (case side2 => exact (Kd.R_reads' HO_19.out).2.1); rintro e w' ⟨rfl, ⟨nd, rfl⟩⟩; refine ⟨_, rfl, ?_⟩; (try (rw [drewN_self wr]; generalize hq_ : World.drewN wr _ = wr; have n0_ : Aside0 (Kd.V (Kd.int .u8) 5 wr w.heap.size (fun k_ => some k_ ≠ (v375 : Value).ownBlock ∧ some k_ ≠ (.slice Ao67 t377.length co67 : Value).ownBlock ∧ some k_ ≠ (.slice (some ad381) t369.length co49 : Value).ownBlock) v364 t363) := ⟨by rw [← hq_]; exact (by (with_reducible repeat (first | apply Kd.V_alloc | apply Kd.V_drewN | apply Kd.V_drew)); exact HO_14.out)⟩; have n1_ : Aside0 (Kd.Q (Kd.int .u8) 5 wr w.heap.size (fun k_ => some k_ ≠ (.slice Ao67 t377.length co67 : Value).ownBlock) v375 x17_2) := ⟨by rw [← hq_]; exact (by (with_reducible repeat (first | apply Kd.Q_alloc | apply Kd.Q_drewN | apply Kd.Q_drew)); exact HO_17.out)⟩; have n2_ : Aside0 (Kd.R (Kd.int .u8) 5 wr w.heap.size (fun k_ => some k_ ≠ (v375 : Value).ownBlock) (.slice Ao67 t377.length co67) t377) := ⟨by rw [← hq_]; exact (by (with_reducible repeat (first | apply xR | apply xS | apply xT)); exact HO_19.out)⟩; have n3_ : Aside0 (Kd.R (Kd.int .i64) 3 wr w.heap.size (fun _ => True) (.slice (some ad381) t369.length co49) t369) := ⟨by rw [← hq_]; exact (by (with_reducible repeat (first | apply xR | apply xS | apply xT)); exact HO_95.out)⟩; have n4_ : Aside0 (Below w.heap.size w wr) := ⟨by rw [← hq_]; exact (by repeat (first | (with_reducible first | exact HB.out | apply xA | apply xN | apply xO) | exact HB.out))⟩; clear HO_14 HO_17 HO_19 HO_95 HB hq_; have HO_14 := n0_; have HO_17 := n1_; have HO_19 := n2_; have HO_95 := n3_; have HB := n4_; clear n0_ n1_ n2_ n3_ n4_))) | ((with_reducible refine gate_callee (f := 44) rfl ?_); refine goesL_ (some 110) rfl rfl Try.func44 (by kernel_rfl) rfl #[.int .i64 (rd t369 x97_2)] rfl (by (try simp only [List.map_toArray, List.map_cons, List.map_nil]); first | done | rfl | (simp only [List.length_drop, List.length_take]; rfl)) ?_; (with_reducible refine (gf_Root.calls k2 (rd t369 x97_2) t384 _ A57.out).mono ?_); rintro e w' ⟨rfl, ⟨nd, rfl⟩⟩; refine ⟨_, rfl, ?_⟩; (try (rw [drewN_self wr]; generalize hq_ : World.drewN wr _ = wr; have n0_ : Aside0 (Kd.V (Kd.int .u8) 5 wr w.heap.size (fun k_ => some k_ ≠ (v375 : Value).ownBlock ∧ some k_ ≠ (.slice Ao67 t377.length co67 : Value).ownBlock ∧ some k_ ≠ (.slice (some ad381) t369.length co49 : Value).ownBlock) v364 t363) := ⟨by rw [← hq_]; exact (by (with_reducible repeat (first | apply Kd.V_alloc | apply Kd.V_drewN | apply Kd.V_drew)); exact HO_14.out)⟩; have n1_ : Aside0 (Kd.Q (Kd.int .u8) 5 wr w.heap.size (fun k_ => some k_ ≠ (.slice Ao67 t377.length co67 : Value).ownBlock) v375 x17_2) := ⟨by rw [← hq_]; exact (by (with_reducible repeat (first | apply Kd.Q_alloc | apply Kd.Q_drewN | apply Kd.Q_drew)); exact HO_17.out)⟩; have n2_ : Aside0 (Kd.R (Kd.int .u8) 5 wr w.heap.size (fun k_ => some k_ ≠ (v375 : Value).ownBlock) (.slice Ao67 t377.length co67) t377) := ⟨by rw [← hq_]; exact (by (with_reducible repeat (first | apply xR | apply xS | apply xT)); exact HO_19.out)⟩; have n3_ : Aside0 (Kd.R (Kd.int .i64) 3 wr w.heap.size (fun _ => True) (.slice (some ad381) t369.length co49) t369) := ⟨by rw [← hq_]; exact (by (with_reducible repeat (first | apply xR | apply xS | apply xT)); exact HO_95.out)⟩; have n4_ : Aside0 (Below w.heap.size w wr) := ⟨by rw [← hq_]; exact (by repeat (first | (with_reducible first | exact HB.out | apply xA | apply xN | apply xO) | exact HB.out))⟩; clear HO_14 HO_17 HO_19 HO_95 HB hq_; have HO_14 := n0_; have HO_17 := n1_; have HO_19 := n2_; have HO_95 := n3_; have HB := n4_; clear n0_ n1_ n2_ n3_ n4_)); obtain ⟨Ao68, co68, eo68⟩ := Kd.V_slice HO_14.out; subst eo68) | ((with_reducible refine gate_callee (f := 45) rfl ?_); refine goesL_ (some 113) rfl rfl Try.func45 (by kernel_rfl) rfl #[.slice Ao68 t363.length co68, .int .u8 t382] rfl (by (try simp only [List.map_toArray, List.map_cons, List.map_nil]); first | done | rfl | (simp only [List.length_drop, List.length_take]; rfl)) ?_; (with_reducible refine (gf_Poly_At.calls k2 _ _ t363 t382 t385 _ ?side1 ?side2 A58.out).mono ?_); (case side1 => repeat (first | exact (Kd.V_reads' HO_14.out).2.2 | (with_reducible refine Kd.C_alloc ?_ _) | (with_reducible refine Kd.C_drewN ?_ _) | (with_reducible refine Kd.C_drew ?_))); (case side2 => exact (Kd.V_reads' HO_14.out).2.1); rintro e w' ⟨rfl, ⟨nd, rfl⟩⟩; refine ⟨_, rfl, ?_⟩; (try (rw [drewN_self wr]; generalize hq_ : World.drewN wr _ = wr; have n0_ : Aside0 (Kd.V (Kd.int .u8) 5 wr w.heap.size (fun k_ => some k_ ≠ (v375 : Value).ownBlock ∧ some k_ ≠ (.slice Ao67 t377.length co67 : Value).ownBlock ∧ some k_ ≠ (.slice (some ad381) t369.length co49 : Value).ownBlock) (.slice Ao68 t363.length co68) t363) := ⟨by rw [← hq_]; exact (by (with_reducible repeat (first | apply Kd.V_alloc | apply Kd.V_drewN | apply Kd.V_drew)); exact HO_14.out)⟩; have n1_ : Aside0 (Kd.Q (Kd.int .u8) 5 wr w.heap.size (fun k_ => some k_ ≠ (.slice Ao67 t377.length co67 : Value).ownBlock) v375 x17_2) := ⟨by rw [← hq_]; exact (by (with_reducible repeat (first | apply Kd.Q_alloc | apply Kd.Q_drewN | apply Kd.Q_drew)); exact HO_17.out)⟩; have n2_ : Aside0 (Kd.R (Kd.int .u8) 5 wr w.heap.size (fun k_ => some k_ ≠ (v375 : Value).ownBlock) (.slice Ao67 t377.length co67) t377) := ⟨by rw [← hq_]; exact (by (with_reducible repeat (first | apply xR | apply xS | apply xT)); exact HO_19.out)⟩; have n3_ : Aside0 (Kd.R (Kd.int .i64) 3 wr w.heap.size (fun _ => True) (.slice (some ad381) t369.length co49) t369) := ⟨by rw [← hq_]; exact (by (with_reducible repeat (first | apply xR | apply xS | apply xT)); exact HO_95.out)⟩; have n4_ : Aside0 (Below w.heap.size w wr) := ⟨by rw [← hq_]; exact (by repeat (first | (with_reducible first | exact HB.out | apply xA | apply xN | apply xO) | exact HB.out))⟩; clear HO_14 HO_17 HO_19 HO_95 HB hq_; have HO_14 := n0_; have HO_17 := n1_; have HO_19 := n2_; have HO_95 := n3_; have HB := n4_; clear n0_ n1_ n2_ n3_ n4_))) | ((with_reducible refine gate_callee (f := 47) rfl ?_); refine goesL_ (some 115) rfl rfl Try.func47 (by kernel_rfl) rfl #[.int .u8 t383] rfl (by (try simp only [List.map_toArray, List.map_cons, List.map_nil]); first | done | rfl | (simp only [List.length_drop, List.length_take]; rfl)) ?_; (with_reducible refine (gf_Inv.calls k2 t383 t386 _ A59.out).mono ?_); rintro e w' ⟨rfl, ⟨nd, rfl⟩⟩; refine ⟨_, rfl, ?_⟩; (try (rw [drewN_self wr]; generalize hq_ : World.drewN wr _ = wr; have n0_ : Aside0 (Kd.V (Kd.int .u8) 5 wr w.heap.size (fun k_ => some k_ ≠ (v375 : Value).ownBlock ∧ some k_ ≠ (.slice Ao67 t377.length co67 : Value).ownBlock ∧ some k_ ≠ (.slice (some ad381) t369.length co49 : Value).ownBlock) (.slice Ao68 t363.length co68) t363) := ⟨by rw [← hq_]; exact (by (with_reducible repeat (first | apply Kd.V_alloc | apply Kd.V_drewN | apply Kd.V_drew)); exact HO_14.out)⟩; have n1_ : Aside0 (Kd.Q (Kd.int .u8) 5 wr w.heap.size (fun k_ => some k_ ≠ (.slice Ao67 t377.length co67 : Value).ownBlock) v375 x17_2) := ⟨by rw [← hq_]; exact (by (with_reducible repeat (first | apply Kd.Q_alloc | apply Kd.Q_drewN | apply Kd.Q_drew)); exact HO_17.out)⟩; have n2_ : Aside0 (Kd.R (Kd.int .u8) 5 wr w.heap.size (fun k_ => some k_ ≠ (v375 : Value).ownBlock) (.slice Ao67 t377.length co67) t377) := ⟨by rw [← hq_]; exact (by (with_reducible repeat (first | apply xR | apply xS | apply xT)); exact HO_19.out)⟩; have n3_ : Aside0 (Kd.R (Kd.int .i64) 3 wr w.heap.size (fun _ => True) (.slice (some ad381) t369.length co49) t369) := ⟨by rw [← hq_]; exact (by (with_reducible repeat (first | apply xR | apply xS | apply xT)); exact HO_95.out)⟩; have n4_ : Aside0 (Below w.heap.size w wr) := ⟨by rw [← hq_]; exact (by repeat (first | (with_reducible first | exact HB.out | apply xA | apply xN | apply xO) | exact HB.out))⟩; clear HO_14 HO_17 HO_19 HO_95 HB hq_; have HO_14 := n0_; have HO_17 := n1_; have HO_19 := n2_; have HO_95 := n3_; have HB := n4_; clear n0_ n1_ n2_ n3_ n4_))) | ((with_reducible refine gate_callee (f := 46) rfl ?_); refine goesL_ (some 116) rfl rfl Try.func46 (by kernel_rfl) rfl #[.int .u8 t385, .int .u8 t386] rfl (by (try simp only [List.map_toArray, List.map_cons, List.map_nil]); first | done | rfl | (simp only [List.length_drop, List.length_take]; rfl)) ?_; (with_reducible refine (gf_Mul.calls k2 t385 t386 t387 _ A60.out).mono ?_); rintro e w' ⟨rfl, ⟨nd, rfl⟩⟩; refine ⟨_, rfl, ?_⟩; (try (rw [drewN_self wr]; generalize hq_ : World.drewN wr _ = wr; have n0_ : Aside0 (Kd.V (Kd.int .u8) 5 wr w.heap.size (fun k_ => some k_ ≠ (v375 : Value).ownBlock ∧ some k_ ≠ (.slice Ao67 t377.length co67 : Value).ownBlock ∧ some k_ ≠ (.slice (some ad381) t369.length co49 : Value).ownBlock) (.slice Ao68 t363.length co68) t363) := ⟨by rw [← hq_]; exact (by (with_reducible repeat (first | apply Kd.V_alloc | apply Kd.V_drewN | apply Kd.V_drew)); exact HO_14.out)⟩; have n1_ : Aside0 (Kd.Q (Kd.int .u8) 5 wr w.heap.size (fun k_ => some k_ ≠ (.slice Ao67 t377.length co67 : Value).ownBlock) v375 x17_2) := ⟨by rw [← hq_]; exact (by (with_reducible repeat (first | apply Kd.Q_alloc | apply Kd.Q_drewN | apply Kd.Q_drew)); exact HO_17.out)⟩; have n2_ : Aside0 (Kd.R (Kd.int .u8) 5 wr w.heap.size (fun k_ => some k_ ≠ (v375 : Value).ownBlock) (.slice Ao67 t377.length co67) t377) := ⟨by rw [← hq_]; exact (by (with_reducible repeat (first | apply xR | apply xS | apply xT)); exact HO_19.out)⟩; have n3_ : Aside0 (Kd.R (Kd.int .i64) 3 wr w.heap.size (fun _ => True) (.slice (some ad381) t369.length co49) t369) := ⟨by rw [← hq_]; exact (by (with_reducible repeat (first | apply xR | apply xS | apply xT)); exact HO_95.out)⟩; have n4_ : Aside0 (Below w.heap.size w wr) := ⟨by rw [← hq_]; exact (by repeat (first | (with_reducible first | exact HB.out | apply xA | apply xN | apply xO) | exact HB.out))⟩; clear HO_14 HO_17 HO_19 HO_95 HB hq_; have HO_14 := n0_; have HO_17 := n1_; have HO_19 := n2_; have HO_95 := n3_; have HB := n4_; clear n0_ n1_ n2_ n3_ n4_))) | ((with_reducible refine gate_callee (f := 46) rfl ?_); refine goesL_ (some 117) rfl rfl Try.func46 (by kernel_rfl) rfl #[.int .u8 t384, .int .u8 t387] rfl (by (try simp only [List.map_toArray, List.map_cons, List.map_nil]); first | done | rfl | (simp only [List.length_drop, List.length_take]; rfl)) ?_; (with_reducible refine (gf_Mul.calls k2 t384 t387 t388 _ A61.out).mono ?_); rintro e w' ⟨rfl, ⟨nd, rfl⟩⟩; refine ⟨_, rfl, ?_⟩; (try (rw [drewN_self wr]; generalize hq_ : World.drewN wr _ = wr; have n0_ : Aside0 (Kd.V (Kd.int .u8) 5 wr w.heap.size (fun k_ => some k_ ≠ (v375 : Value).ownBlock ∧ some k_ ≠ (.slice Ao67 t377.length co67 : Value).ownBlock ∧ some k_ ≠ (.slice (some ad381) t369.length co49 : Value).ownBlock) (.slice Ao68 t363.length co68) t363) := ⟨by rw [← hq_]; exact (by (with_reducible repeat (first | apply Kd.V_alloc | apply Kd.V_drewN | apply Kd.V_drew)); exact HO_14.out)⟩; have n1_ : Aside0 (Kd.Q (Kd.int .u8) 5 wr w.heap.size (fun k_ => some k_ ≠ (.slice Ao67 t377.length co67 : Value).ownBlock) v375 x17_2) := ⟨by rw [← hq_]; exact (by (with_reducible repeat (first | apply Kd.Q_alloc | apply Kd.Q_drewN | apply Kd.Q_drew)); exact HO_17.out)⟩; have n2_ : Aside0 (Kd.R (Kd.int .u8) 5 wr w.heap.size (fun k_ => some k_ ≠ (v375 : Value).ownBlock) (.slice Ao67 t377.length co67) t377) := ⟨by rw [← hq_]; exact (by (with_reducible repeat (first | apply xR | apply xS | apply xT)); exact HO_19.out)⟩; have n3_ : Aside0 (Kd.R (Kd.int .i64) 3 wr w.heap.size (fun _ => True) (.slice (some ad381) t369.length co49) t369) := ⟨by rw [← hq_]; exact (by (with_reducible repeat (first | apply xR | apply xS | apply xT)); exact HO_95.out)⟩; have n4_ : Aside0 (Below w.heap.size w wr) := ⟨by rw [← hq_]; exact (by repeat (first | (with_reducible first | exact HB.out | apply xA | apply xN | apply xO) | exact HB.out))⟩; clear HO_14 HO_17 HO_19 HO_95 HB hq_; have HO_14 := n0_; have HO_17 := n1_; have HO_19 := n2_; have HO_95 := n3_; have HB := n4_; clear n0_ n1_ n2_ n3_ n4_)); obtain ⟨Ao69, co69, eo69, _⟩ := Kd.Q_slice HO_17.out; subst eo69; have p389 : 0 ≤ ((ji63) : Int) := of_decide_eq_true (by first | (with_reducible assumption) | assumption); have q389 : (ji63) < (x17_2.length : Int) := of_decide_eq_true (by first | (with_reducible assumption) | assumption); obtain ⟨ad389, e389, hx389_0⟩ := Kd.at_int (Kd.Q_reads' HO_17.out).2.2 (ji63) p389 q389; cases e389; replace p389 := eq_true p389; replace q389 := eq_true q389; have p66 : 0 ≤ ((ji63) : Int) := of_decide_eq_true (by first | (with_reducible assumption) | assumption); have q66 : ((ji63) : Int) < ((x17_2.length : Int) : Int) := of_decide_eq_true (by first | (with_reducible assumption) | assumption); obtain ⟨go66, oo66, co66, eo66, gb66, gl66, cl66, HG66⟩ := Kd.Q_form HO_17.out (by omega); (first | cases eo66 | (injection eo66 with ea_ en_ ec_; (first | subst ea_ | (injection ea_ with ea_; subst ea_)); subst ec_; clear en_)); have GB66 := Aside0.mk gb66; have GG66 := Aside0.mk HG66; clear gb66 gl66 HG66; (first | simp only [add_at] at hx389_0 | skip); obtain ⟨hx66_0, hf66_0⟩ := Kd.Q_cell 0 HO_17.out ((ji63) : Int) p66 q66; replace p66 := eq_true p66; replace q66 := eq_true q66; obtain ⟨hy70_, hz70_⟩ := Kd.Q_cell 0 HO_17.out ((ji63) : Int) (of_decide_eq_true (by first | (with_reducible assumption) | assumption)) (of_decide_eq_true (by first | (with_reducible assumption) | assumption)); have HP70 := Kd.Q_putg HO_17.out ((ji63) : Int) (of_decide_eq_true (by first | (with_reducible assumption) | assumption)) (by have h_ : ((ji63) : Int) < ((x17_2.length : Int) : Int) := of_decide_eq_true (by first | (with_reducible assumption) | assumption); first | exact h_ | (have e_ := (Kd.Q_reads' HO_17.out).1; omega) | simpa using h_) (Go.bits .xor .u8 (rd x17_2 (ji63)) t388)) | ((with_reducible refine gate_store (t := 5) (p := 132) rfl ?_); refine store_event (t := 5) (p := 132) (v := ?vo_w71) (w1 := (wr.setCell ⟨go66, oo66 + ((ji63) : Int).toNat, none⟩ (.int .u8 (Go.bits .xor .u8 (rd x17_2 (ji63)) t388)))) ?hg ?ho ?hn ?hr ?_; (case ho => rfl); (case hg => rfl); (case hn => rfl); (case hr => first | (go_simp; done) | (go_simp; rfl)); intro w71 hw; have hg : wr.grownBy w71 (some go66) := (by rw [hw]; exact HP70.2); have hp_ : Kd.Q (Kd.int .u8) 5 w71 w.heap.size (fun k_ => some k_ ≠ (.slice Ao67 t377.length co67 : Value).ownBlock) (.slice (some ⟨go66, oo66, none⟩) x17_2.length co69) y390 := (by rw [hw, Ny390.out]; exact HP70.1); clear HP70; have n0_ := Aside0.mk (Kd.V_afterv (v := (.slice (some ⟨go66, oo66, none⟩) x17_2.length co69)) (v1 := (.slice (some ⟨go66, oo66, none⟩) x17_2.length co69)) (ok := (fun k_ => some k_ ≠ (.slice Ao67 t377.length co67 : Value).ownBlock ∧ some k_ ≠ (.slice (some ad381) t369.length co49 : Value).ownBlock)) (by (with_reducible repeat (first | apply Kd.V_alloc | apply Kd.V_drewN | apply Kd.V_drew)); exact Kd.V_mono HO_14.out (fun _ hk => ⟨⟨hk.2.1, hk.2.2⟩, hk.1⟩)) hg (.inl rfl)); have n1_ := Aside0.mk (hp_); have n2_ := Aside0.mk (Kd.R_after (v := (.slice (some ⟨go66, oo66, none⟩) x17_2.length co69)) (v1 := (.slice (some ⟨go66, oo66, none⟩) x17_2.length co69)) (ok := (fun _ => True)) (by (with_reducible repeat (first | apply xR | apply xS | apply xT)); exact Kd.R_mono HO_19.out (fun _ hk => ⟨trivial, hk⟩)) hg (.inl rfl)); have n3_ := Aside0.mk (Kd.R_over' (v := (.slice (some ⟨go66, oo66, none⟩) x17_2.length co69)) (by (with_reducible repeat (first | apply xR | apply xS | apply xT)); exact HO_95.out) (Kd.Q_typed HO_17.out) (by decide) hg); have n4_ := Aside0.mk ((by rw [hw]; exact below_set (HB.out) GB66.out : Below w.heap.size w w71)); clear HO_14; clear HO_17; clear HO_19; clear HO_95; clear HB; have HO_14 := n0_; have HO_17 := n1_; have HO_19 := n2_; have HO_95 := n3_; have HB := n4_; clear n0_ n1_ n2_ n3_ n4_; clear hg hw hp_))
            go_roundg k2
            case measure => have := HJ18.out; have := HK2.out; omega
            case rel => exact ⟨(y390), (x18_2), (wrap64 (x97_2 + 1)), (by first | rfl | (simp; done) | (simp [*]; done)), (by first | rfl | (simp; done) | (simp [*]; done)), H', ⟨by have := HJ18.out; have := HK2.out; omega⟩, ⟨by (with_reducible repeat (first | apply Kd.V_alloc | apply Kd.V_drewN | apply Kd.V_drew)); exact Kd.V_mono HO_14.out (fun _ hk => ⟨hk.2, ⟨hk.1.1, hk.1.2⟩⟩)⟩, ⟨by (with_reducible repeat (first | apply Kd.Q_alloc | apply Kd.Q_drewN | apply Kd.Q_drew)); exact HO_17.out⟩, ⟨by (with_reducible repeat (first | apply xR | apply xS | apply xT)); exact Kd.R_mono HO_19.out (fun _ hk => hk.2)⟩, ⟨by (with_reducible repeat (first | apply xR | apply xS | apply xT)); exact HO_95.out⟩, ⟨by repeat (first | (with_reducible first | exact HB.out | apply xA | apply xN | apply xO) | exact HB.out)⟩⟩
          rw [if_neg c62] at H
          have c62b0 : (t388 == 0) = false := beq_eq_false_iff_ne.mpr c62
          have c62b1 : (t388 != 0) = true := bne_iff_ne.mpr c62
          obtain ⟨ji72, hji72⟩ : ∃ j_ : Int, (wrap64 ((wrap64 ((x17_2.length : Int) - 1)) - (rd t369 x97_2))) = j_ := ⟨_, rfl⟩
          first | rw [hji72] at H | simp only [hji72] at H
          (try rw [hji72] at A53)
          (try rw [hji72] at A54)
          (try rw [hji72] at A57)
          (try rw [hji72] at A58)
          (try rw [hji72] at A59)
          (try rw [hji72] at A60)
          (try rw [hji72] at A61)
          have hji72w : (IntKind.i64.wrap ((wrap64 ((x17_2.length : Int) - 1)) - (rd t369 x97_2))) = ji72 := (i64_w _).trans hji72
          by_cases c73 : 0 ≤ (ji72)
          rotate_left
          · rw [if_neg c73] at H
            exact absurd H (by simp)
          rw [if_pos c73] at H
          have c73b0 : decide (0 ≤ (ji72)) = true := decide_eq_true c73
          clear c73
          by_cases c74 : (ji72) < (x17_2.length : Int)
          rotate_left
          · rw [if_neg c74] at H
            exact absurd H (by simp)
          rw [if_pos c74] at H
          have c74b0 : decide ((ji72) < (x17_2.length : Int)) = true := decide_eq_true c74
          clear c74
          obtain ⟨y392, hy392⟩ : ∃ y_ : List Int, y_ = (x17_2.set ((ji72) : Int).toNat (Go.bits .xor .u8 (rd x17_2 (ji72)) t388)) := ⟨_, rfl⟩
          replace H : (rs_Decode.l0 k2 a1 t363 y392 (wrap64 (x18_2 + 1)) t377 t369 (t369.length : Int) (wrap64 (x97_2 + 1))) = some (r1, r2, r3) := by first | (have H2_ := (Option.bind_some _ _).symm.trans H; rw [hy392]; with_reducible exact H2_) | (rw [hy392]; exact H) | exact H
          have Ny392 := Aside0.mk hy392
          clear hy392
          have H' := Aside0.mk H
          clear H
          have p381 : 0 ≤ (x97_2 : Int) := of_decide_eq_true (by first | (with_reducible assumption) | assumption)
          have q381 : x97_2 < (t369.length : Int) := of_decide_eq_true (by first | (with_reducible assumption) | assumption)
          obtain ⟨ad381, e381, hx381_0⟩ := Kd.at_int (Kd.R_reads' HO_95.out).2.2 x97_2 p381 q381
          cases e381
          replace p381 := eq_true p381
          replace q381 := eq_true q381
          go_wp2_with (first | ((with_reducible refine gate_callee (f := 44) rfl ?_); refine goesL_ (some 103) rfl rfl Try.func44 (by kernel_rfl) rfl #[.int .i64 (wrap64 (-(rd t369 x97_2)))] rfl (by (try simp only [List.map_toArray, List.map_cons, List.map_nil]); first | done | rfl | (simp only [List.length_drop, List.length_take]; rfl)) ?_; (with_reducible refine (gf_Root.calls k2 (wrap64 (-(rd t369 x97_2))) t382 _ A53.out).mono ?_); rintro e w' ⟨rfl, ⟨nd, rfl⟩⟩; refine ⟨_, rfl, ?_⟩; (try (rw [drewN_self wr]; generalize hq_ : World.drewN wr _ = wr; have n0_ : Aside0 (Kd.V (Kd.int .u8) 5 wr w.heap.size (fun k_ => some k_ ≠ (v375 : Value).ownBlock ∧ some k_ ≠ (v378 : Value).ownBlock ∧ some k_ ≠ (.slice (some ad381) t369.length co49 : Value).ownBlock) v364 t363) := ⟨by rw [← hq_]; exact (by (with_reducible repeat (first | apply Kd.V_alloc | apply Kd.V_drewN | apply Kd.V_drew)); exact HO_14.out)⟩; have n1_ : Aside0 (Kd.Q (Kd.int .u8) 5 wr w.heap.size (fun k_ => some k_ ≠ (v378 : Value).ownBlock) v375 x17_2) := ⟨by rw [← hq_]; exact (by (with_reducible repeat (first | apply Kd.Q_alloc | apply Kd.Q_drewN | apply Kd.Q_drew)); exact HO_17.out)⟩; have n2_ : Aside0 (Kd.R (Kd.int .u8) 5 wr w.heap.size (fun k_ => some k_ ≠ (v375 : Value).ownBlock) v378 t377) := ⟨by rw [← hq_]; exact (by (with_reducible repeat (first | apply xR | apply xS | apply xT)); exact HO_19.out)⟩; have n3_ : Aside0 (Kd.R (Kd.int .i64) 3 wr w.heap.size (fun _ => True) (.slice (some ad381) t369.length co49) t369) := ⟨by rw [← hq_]; exact (by (with_reducible repeat (first | apply xR | apply xS | apply xT)); exact HO_95.out)⟩; have n4_ : Aside0 (Below w.heap.size w wr) := ⟨by rw [← hq_]; exact (by repeat (first | (with_reducible first | exact HB.out | apply xA | apply xN | apply xO) | exact HB.out))⟩; clear HO_14 HO_17 HO_19 HO_95 HB hq_; have HO_14 := n0_; have HO_17 := n1_; have HO_19 := n2_; have HO_95 := n3_; have HB := n4_; clear n0_ n1_ n2_ n3_ n4_)); obtain ⟨Ao76, co76, eo76⟩ := Kd.R_slice HO_19.out; subst eo76) | ((with_reducible refine gate_callee (f := 45) rfl ?_); refine goesL_ (some 106) rfl rfl Try.func45 (by kernel_rfl) rfl #[.slice Ao76 t377.length co76, .int .u8 t382] rfl (by (try simp only [List.map_toArray, List.map_cons, List.map_nil]); first | done | rfl | (simp only [List.length_drop, List.length_take]; rfl)) ?_; (with_reducible refine (gf_Poly_At.calls k2 _ _ t377 t382 t383 _ ?side1 ?side2 A54.out).mono ?_); (case side1 => repeat (first | exact (Kd.R_reads' HO_19.out).2.2 | (with_reducible refine Kd.C_alloc ?_ _) | (with_reducible refine Kd.C_drewN ?_ _) | (with_reducible refine Kd.C_drew ?_))); (case side2 => exact (Kd.R_reads' HO_19.out).2.1); rintro e w' ⟨rfl, ⟨nd, rfl⟩⟩; refine ⟨_, rfl, ?_⟩; (try (rw [drewN_self wr]; generalize hq_ : World.drewN wr _ = wr; have n0_ : Aside0 (Kd.V (Kd.int .u8) 5 wr w.heap.size (fun k_ => some k_ ≠ (v375 : Value).ownBlock ∧ some k_ ≠ (.slice Ao76 t377.length co76 : Value).ownBlock ∧ some k_ ≠ (.slice (some ad381) t369.length co49 : Value).ownBlock) v364 t363) := ⟨by rw [← hq_]; exact (by (with_reducible repeat (first | apply Kd.V_alloc | apply Kd.V_drewN | apply Kd.V_drew)); exact HO_14.out)⟩; have n1_ : Aside0 (Kd.Q (Kd.int .u8) 5 wr w.heap.size (fun k_ => some k_ ≠ (.slice Ao76 t377.length co76 : Value).ownBlock) v375 x17_2) := ⟨by rw [← hq_]; exact (by (with_reducible repeat (first | apply Kd.Q_alloc | apply Kd.Q_drewN | apply Kd.Q_drew)); exact HO_17.out)⟩; have n2_ : Aside0 (Kd.R (Kd.int .u8) 5 wr w.heap.size (fun k_ => some k_ ≠ (v375 : Value).ownBlock) (.slice Ao76 t377.length co76) t377) := ⟨by rw [← hq_]; exact (by (with_reducible repeat (first | apply xR | apply xS | apply xT)); exact HO_19.out)⟩; have n3_ : Aside0 (Kd.R (Kd.int .i64) 3 wr w.heap.size (fun _ => True) (.slice (some ad381) t369.length co49) t369) := ⟨by rw [← hq_]; exact (by (with_reducible repeat (first | apply xR | apply xS | apply xT)); exact HO_95.out)⟩; have n4_ : Aside0 (Below w.heap.size w wr) := ⟨by rw [← hq_]; exact (by repeat (first | (with_reducible first | exact HB.out | apply xA | apply xN | apply xO) | exact HB.out))⟩; clear HO_14 HO_17 HO_19 HO_95 HB hq_; have HO_14 := n0_; have HO_17 := n1_; have HO_19 := n2_; have HO_95 := n3_; have HB := n4_; clear n0_ n1_ n2_ n3_ n4_))) | ((with_reducible refine gate_callee (f := 44) rfl ?_); refine goesL_ (some 110) rfl rfl Try.func44 (by kernel_rfl) rfl #[.int .i64 (rd t369 x97_2)] rfl (by (try simp only [List.map_toArray, List.map_cons, List.map_nil]); first | done | rfl | (simp only [List.length_drop, List.length_take]; rfl)) ?_; (with_reducible refine (gf_Root.calls k2 (rd t369 x97_2) t384 _ A57.out).mono ?_); rintro e w' ⟨rfl, ⟨nd, rfl⟩⟩; refine ⟨_, rfl, ?_⟩; (try (rw [drewN_self wr]; generalize hq_ : World.drewN wr _ = wr; have n0_ : Aside0 (Kd.V (Kd.int .u8) 5 wr w.heap.size (fun k_ => some k_ ≠ (v375 : Value).ownBlock ∧ some k_ ≠ (.slice Ao76 t377.length co76 : Value).ownBlock ∧ some k_ ≠ (.slice (some ad381) t369.length co49 : Value).ownBlock) v364 t363) := ⟨by rw [← hq_]; exact (by (with_reducible repeat (first | apply Kd.V_alloc | apply Kd.V_drewN | apply Kd.V_drew)); exact HO_14.out)⟩; have n1_ : Aside0 (Kd.Q (Kd.int .u8) 5 wr w.heap.size (fun k_ => some k_ ≠ (.slice Ao76 t377.length co76 : Value).ownBlock) v375 x17_2) := ⟨by rw [← hq_]; exact (by (with_reducible repeat (first | apply Kd.Q_alloc | apply Kd.Q_drewN | apply Kd.Q_drew)); exact HO_17.out)⟩; have n2_ : Aside0 (Kd.R (Kd.int .u8) 5 wr w.heap.size (fun k_ => some k_ ≠ (v375 : Value).ownBlock) (.slice Ao76 t377.length co76) t377) := ⟨by rw [← hq_]; exact (by (with_reducible repeat (first | apply xR | apply xS | apply xT)); exact HO_19.out)⟩; have n3_ : Aside0 (Kd.R (Kd.int .i64) 3 wr w.heap.size (fun _ => True) (.slice (some ad381) t369.length co49) t369) := ⟨by rw [← hq_]; exact (by (with_reducible repeat (first | apply xR | apply xS | apply xT)); exact HO_95.out)⟩; have n4_ : Aside0 (Below w.heap.size w wr) := ⟨by rw [← hq_]; exact (by repeat (first | (with_reducible first | exact HB.out | apply xA | apply xN | apply xO) | exact HB.out))⟩; clear HO_14 HO_17 HO_19 HO_95 HB hq_; have HO_14 := n0_; have HO_17 := n1_; have HO_19 := n2_; have HO_95 := n3_; have HB := n4_; clear n0_ n1_ n2_ n3_ n4_)); obtain ⟨Ao77, co77, eo77⟩ := Kd.V_slice HO_14.out; subst eo77) | ((with_reducible refine gate_callee (f := 45) rfl ?_); refine goesL_ (some 113) rfl rfl Try.func45 (by kernel_rfl) rfl #[.slice Ao77 t363.length co77, .int .u8 t382] rfl (by (try simp only [List.map_toArray, List.map_cons, List.map_nil]); first | done | rfl | (simp only [List.length_drop, List.length_take]; rfl)) ?_; (with_reducible refine (gf_Poly_At.calls k2 _ _ t363 t382 t385 _ ?side1 ?side2 A58.out).mono ?_); (case side1 => repeat (first | exact (Kd.V_reads' HO_14.out).2.2 | (with_reducible refine Kd.C_alloc ?_ _) | (with_reducible refine Kd.C_drewN ?_ _) | (with_reducible refine Kd.C_drew ?_))); (case side2 => exact (Kd.V_reads' HO_14.out).2.1); rintro e w' ⟨rfl, ⟨nd, rfl⟩⟩; refine ⟨_, rfl, ?_⟩; (try (rw [drewN_self wr]; generalize hq_ : World.drewN wr _ = wr; have n0_ : Aside0 (Kd.V (Kd.int .u8) 5 wr w.heap.size (fun k_ => some k_ ≠ (v375 : Value).ownBlock ∧ some k_ ≠ (.slice Ao76 t377.length co76 : Value).ownBlock ∧ some k_ ≠ (.slice (some ad381) t369.length co49 : Value).ownBlock) (.slice Ao77 t363.length co77) t363) := ⟨by rw [← hq_]; exact (by (with_reducible repeat (first | apply Kd.V_alloc | apply Kd.V_drewN | apply Kd.V_drew)); exact HO_14.out)⟩; have n1_ : Aside0 (Kd.Q (Kd.int .u8) 5 wr w.heap.size (fun k_ => some k_ ≠ (.slice Ao76 t377.length co76 : Value).ownBlock) v375 x17_2) := ⟨by rw [← hq_]; exact (by (with_reducible repeat (first | apply Kd.Q_alloc | apply Kd.Q_drewN | apply Kd.Q_drew)); exact HO_17.out)⟩; have n2_ : Aside0 (Kd.R (Kd.int .u8) 5 wr w.heap.size (fun k_ => some k_ ≠ (v375 : Value).ownBlock) (.slice Ao76 t377.length co76) t377) := ⟨by rw [← hq_]; exact (by (with_reducible repeat (first | apply xR | apply xS | apply xT)); exact HO_19.out)⟩; have n3_ : Aside0 (Kd.R (Kd.int .i64) 3 wr w.heap.size (fun _ => True) (.slice (some ad381) t369.length co49) t369) := ⟨by rw [← hq_]; exact (by (with_reducible repeat (first | apply xR | apply xS | apply xT)); exact HO_95.out)⟩; have n4_ : Aside0 (Below w.heap.size w wr) := ⟨by rw [← hq_]; exact (by repeat (first | (with_reducible first | exact HB.out | apply xA | apply xN | apply xO) | exact HB.out))⟩; clear HO_14 HO_17 HO_19 HO_95 HB hq_; have HO_14 := n0_; have HO_17 := n1_; have HO_19 := n2_; have HO_95 := n3_; have HB := n4_; clear n0_ n1_ n2_ n3_ n4_))) | ((with_reducible refine gate_callee (f := 47) rfl ?_); refine goesL_ (some 115) rfl rfl Try.func47 (by kernel_rfl) rfl #[.int .u8 t383] rfl (by (try simp only [List.map_toArray, List.map_cons, List.map_nil]); first | done | rfl | (simp only [List.length_drop, List.length_take]; rfl)) ?_; (with_reducible refine (gf_Inv.calls k2 t383 t386 _ A59.out).mono ?_); rintro e w' ⟨rfl, ⟨nd, rfl⟩⟩; refine ⟨_, rfl, ?_⟩; (try (rw [drewN_self wr]; generalize hq_ : World.drewN wr _ = wr; have n0_ : Aside0 (Kd.V (Kd.int .u8) 5 wr w.heap.size (fun k_ => some k_ ≠ (v375 : Value).ownBlock ∧ some k_ ≠ (.slice Ao76 t377.length co76 : Value).ownBlock ∧ some k_ ≠ (.slice (some ad381) t369.length co49 : Value).ownBlock) (.slice Ao77 t363.length co77) t363) := ⟨by rw [← hq_]; exact (by (with_reducible repeat (first | apply Kd.V_alloc | apply Kd.V_drewN | apply Kd.V_drew)); exact HO_14.out)⟩; have n1_ : Aside0 (Kd.Q (Kd.int .u8) 5 wr w.heap.size (fun k_ => some k_ ≠ (.slice Ao76 t377.length co76 : Value).ownBlock) v375 x17_2) := ⟨by rw [← hq_]; exact (by (with_reducible repeat (first | apply Kd.Q_alloc | apply Kd.Q_drewN | apply Kd.Q_drew)); exact HO_17.out)⟩; have n2_ : Aside0 (Kd.R (Kd.int .u8) 5 wr w.heap.size (fun k_ => some k_ ≠ (v375 : Value).ownBlock) (.slice Ao76 t377.length co76) t377) := ⟨by rw [← hq_]; exact (by (with_reducible repeat (first | apply xR | apply xS | apply xT)); exact HO_19.out)⟩; have n3_ : Aside0 (Kd.R (Kd.int .i64) 3 wr w.heap.size (fun _ => True) (.slice (some ad381) t369.length co49) t369) := ⟨by rw [← hq_]; exact (by (with_reducible repeat (first | apply xR | apply xS | apply xT)); exact HO_95.out)⟩; have n4_ : Aside0 (Below w.heap.size w wr) := ⟨by rw [← hq_]; exact (by repeat (first | (with_reducible first | exact HB.out | apply xA | apply xN | apply xO) | exact HB.out))⟩; clear HO_14 HO_17 HO_19 HO_95 HB hq_; have HO_14 := n0_; have HO_17 := n1_; have HO_19 := n2_; have HO_95 := n3_; have HB := n4_; clear n0_ n1_ n2_ n3_ n4_))) | ((with_reducible refine gate_callee (f := 46) rfl ?_); refine goesL_ (some 116) rfl rfl Try.func46 (by kernel_rfl) rfl #[.int .u8 t385, .int .u8 t386] rfl (by (try simp only [List.map_toArray, List.map_cons, List.map_nil]); first | done | rfl | (simp only [List.length_drop, List.length_take]; rfl)) ?_; (with_reducible refine (gf_Mul.calls k2 t385 t386 t387 _ A60.out).mono ?_); rintro e w' ⟨rfl, ⟨nd, rfl⟩⟩; refine ⟨_, rfl, ?_⟩; (try (rw [drewN_self wr]; generalize hq_ : World.drewN wr _ = wr; have n0_ : Aside0 (Kd.V (Kd.int .u8) 5 wr w.heap.size (fun k_ => some k_ ≠ (v375 : Value).ownBlock ∧ some k_ ≠ (.slice Ao76 t377.length co76 : Value).ownBlock ∧ some k_ ≠ (.slice (some ad381) t369.length co49 : Value).ownBlock) (.slice Ao77 t363.length co77) t363) := ⟨by rw [← hq_]; exact (by (with_reducible repeat (first | apply Kd.V_alloc | apply Kd.V_drewN | apply Kd.V_drew)); exact HO_14.out)⟩; have n1_ : Aside0 (Kd.Q (Kd.int .u8) 5 wr w.heap.size (fun k_ => some k_ ≠ (.slice Ao76 t377.length co76 : Value).ownBlock) v375 x17_2) := ⟨by rw [← hq_]; exact (by (with_reducible repeat (first | apply Kd.Q_alloc | apply Kd.Q_drewN | apply Kd.Q_drew)); exact HO_17.out)⟩; have n2_ : Aside0 (Kd.R (Kd.int .u8) 5 wr w.heap.size (fun k_ => some k_ ≠ (v375 : Value).ownBlock) (.slice Ao76 t377.length co76) t377) := ⟨by rw [← hq_]; exact (by (with_reducible repeat (first | apply xR | apply xS | apply xT)); exact HO_19.out)⟩; have n3_ : Aside0 (Kd.R (Kd.int .i64) 3 wr w.heap.size (fun _ => True) (.slice (some ad381) t369.length co49) t369) := ⟨by rw [← hq_]; exact (by (with_reducible repeat (first | apply xR | apply xS | apply xT)); exact HO_95.out)⟩; have n4_ : Aside0 (Below w.heap.size w wr) := ⟨by rw [← hq_]; exact (by repeat (first | (with_reducible first | exact HB.out | apply xA | apply xN | apply xO) | exact HB.out))⟩; clear HO_14 HO_17 HO_19 HO_95 HB hq_; have HO_14 := n0_; have HO_17 := n1_; have HO_19 := n2_; have HO_95 := n3_; have HB := n4_; clear n0_ n1_ n2_ n3_ n4_))) | ((with_reducible refine gate_callee (f := 46) rfl ?_); refine goesL_ (some 117) rfl rfl Try.func46 (by kernel_rfl) rfl #[.int .u8 t384, .int .u8 t387] rfl (by (try simp only [List.map_toArray, List.map_cons, List.map_nil]); first | done | rfl | (simp only [List.length_drop, List.length_take]; rfl)) ?_; (with_reducible refine (gf_Mul.calls k2 t384 t387 t388 _ A61.out).mono ?_); rintro e w' ⟨rfl, ⟨nd, rfl⟩⟩; refine ⟨_, rfl, ?_⟩; (try (rw [drewN_self wr]; generalize hq_ : World.drewN wr _ = wr; have n0_ : Aside0 (Kd.V (Kd.int .u8) 5 wr w.heap.size (fun k_ => some k_ ≠ (v375 : Value).ownBlock ∧ some k_ ≠ (.slice Ao76 t377.length co76 : Value).ownBlock ∧ some k_ ≠ (.slice (some ad381) t369.length co49 : Value).ownBlock) (.slice Ao77 t363.length co77) t363) := ⟨by rw [← hq_]; exact (by (with_reducible repeat (first | apply Kd.V_alloc | apply Kd.V_drewN | apply Kd.V_drew)); exact HO_14.out)⟩; have n1_ : Aside0 (Kd.Q (Kd.int .u8) 5 wr w.heap.size (fun k_ => some k_ ≠ (.slice Ao76 t377.length co76 : Value).ownBlock) v375 x17_2) := ⟨by rw [← hq_]; exact (by (with_reducible repeat (first | apply Kd.Q_alloc | apply Kd.Q_drewN | apply Kd.Q_drew)); exact HO_17.out)⟩; have n2_ : Aside0 (Kd.R (Kd.int .u8) 5 wr w.heap.size (fun k_ => some k_ ≠ (v375 : Value).ownBlock) (.slice Ao76 t377.length co76) t377) := ⟨by rw [← hq_]; exact (by (with_reducible repeat (first | apply xR | apply xS | apply xT)); exact HO_19.out)⟩; have n3_ : Aside0 (Kd.R (Kd.int .i64) 3 wr w.heap.size (fun _ => True) (.slice (some ad381) t369.length co49) t369) := ⟨by rw [← hq_]; exact (by (with_reducible repeat (first | apply xR | apply xS | apply xT)); exact HO_95.out)⟩; have n4_ : Aside0 (Below w.heap.size w wr) := ⟨by rw [← hq_]; exact (by repeat (first | (with_reducible first | exact HB.out | apply xA | apply xN | apply xO) | exact HB.out))⟩; clear HO_14 HO_17 HO_19 HO_95 HB hq_; have HO_14 := n0_; have HO_17 := n1_; have HO_19 := n2_; have HO_95 := n3_; have HB := n4_; clear n0_ n1_ n2_ n3_ n4_)); obtain ⟨Ao78, co78, eo78, _⟩ := Kd.Q_slice HO_17.out; subst eo78; have p391 : 0 ≤ ((ji72) : Int) := of_decide_eq_true (by first | (with_reducible assumption) | assumption); have q391 : (ji72) < (x17_2.length : Int) := of_decide_eq_true (by first | (with_reducible assumption) | assumption); obtain ⟨ad391, e391, hx391_0⟩ := Kd.at_int (Kd.Q_reads' HO_17.out).2.2 (ji72) p391 q391; cases e391; replace p391 := eq_true p391; replace q391 := eq_true q391; have p75 : 0 ≤ ((ji72) : Int) := of_decide_eq_true (by first | (with_reducible assumption) | assumption); have q75 : ((ji72) : Int) < ((x17_2.length : Int) : Int) := of_decide_eq_true (by first | (with_reducible assumption) | assumption); obtain ⟨go75, oo75, co75, eo75, gb75, gl75, cl75, HG75⟩ := Kd.Q_form HO_17.out (by omega); (first | cases eo75 | (injection eo75 with ea_ en_ ec_; (first | subst ea_ | (injection ea_ with ea_; subst ea_)); subst ec_; clear en_)); have GB75 := Aside0.mk gb75; have GG75 := Aside0.mk HG75; clear gb75 gl75 HG75; (first | simp only [add_at] at hx391_0 | skip); obtain ⟨hx75_0, hf75_0⟩ := Kd.Q_cell 0 HO_17.out ((ji72) : Int) p75 q75; replace p75 := eq_true p75; replace q75 := eq_true q75; obtain ⟨hy79_, hz79_⟩ := Kd.Q_cell 0 HO_17.out ((ji72) : Int) (of_decide_eq_true (by first | (with_reducible assumption) | assumption)) (of_decide_eq_true (by first | (with_reducible assumption) | assumption)); have HP79 := Kd.Q_putg HO_17.out ((ji72) : Int) (of_decide_eq_true (by first | (with_reducible assumption) | assumption)) (by have h_ : ((ji72) : Int) < ((x17_2.length : Int) : Int) := of_decide_eq_true (by first | (with_reducible assumption) | assumption); first | exact h_ | (have e_ := (Kd.Q_reads' HO_17.out).1; omega) | simpa using h_) (Go.bits .xor .u8 (rd x17_2 (ji72)) t388)) | ((with_reducible refine gate_store (t := 5) (p := 132) rfl ?_); refine store_event (t := 5) (p := 132) (v := ?vo_w80) (w1 := (wr.setCell ⟨go75, oo75 + ((ji72) : Int).toNat, none⟩ (.int .u8 (Go.bits .xor .u8 (rd x17_2 (ji72)) t388)))) ?hg ?ho ?hn ?hr ?_; (case ho => rfl); (case hg => rfl); (case hn => rfl); (case hr => first | (go_simp; done) | (go_simp; rfl)); intro w80 hw; have hg : wr.grownBy w80 (some go75) := (by rw [hw]; exact HP79.2); have hp_ : Kd.Q (Kd.int .u8) 5 w80 w.heap.size (fun k_ => some k_ ≠ (.slice Ao76 t377.length co76 : Value).ownBlock) (.slice (some ⟨go75, oo75, none⟩) x17_2.length co78) y392 := (by rw [hw, Ny392.out]; exact HP79.1); clear HP79; have n0_ := Aside0.mk (Kd.V_afterv (v := (.slice (some ⟨go75, oo75, none⟩) x17_2.length co78)) (v1 := (.slice (some ⟨go75, oo75, none⟩) x17_2.length co78)) (ok := (fun k_ => some k_ ≠ (.slice Ao76 t377.length co76 : Value).ownBlock ∧ some k_ ≠ (.slice (some ad381) t369.length co49 : Value).ownBlock)) (by (with_reducible repeat (first | apply Kd.V_alloc | apply Kd.V_drewN | apply Kd.V_drew)); exact Kd.V_mono HO_14.out (fun _ hk => ⟨⟨hk.2.1, hk.2.2⟩, hk.1⟩)) hg (.inl rfl)); have n1_ := Aside0.mk (hp_); have n2_ := Aside0.mk (Kd.R_after (v := (.slice (some ⟨go75, oo75, none⟩) x17_2.length co78)) (v1 := (.slice (some ⟨go75, oo75, none⟩) x17_2.length co78)) (ok := (fun _ => True)) (by (with_reducible repeat (first | apply xR | apply xS | apply xT)); exact Kd.R_mono HO_19.out (fun _ hk => ⟨trivial, hk⟩)) hg (.inl rfl)); have n3_ := Aside0.mk (Kd.R_over' (v := (.slice (some ⟨go75, oo75, none⟩) x17_2.length co78)) (by (with_reducible repeat (first | apply xR | apply xS | apply xT)); exact HO_95.out) (Kd.Q_typed HO_17.out) (by decide) hg); have n4_ := Aside0.mk ((by rw [hw]; exact below_set (HB.out) GB75.out : Below w.heap.size w w80)); clear HO_14; clear HO_17; clear HO_19; clear HO_95; clear HB; have HO_14 := n0_; have HO_17 := n1_; have HO_19 := n2_; have HO_95 := n3_; have HB := n4_; clear n0_ n1_ n2_ n3_ n4_; clear hg hw hp_))
          go_roundg k2
          case measure => have := HJ18.out; have := HK2.out; omega
          case rel => exact ⟨(y392), (wrap64 (x18_2 + 1)), (wrap64 (x97_2 + 1)), (by first | rfl | (simp; done) | (simp [*]; done)), (by first | rfl | (simp; done) | (simp [*]; done)), H', ⟨by have := HJ18.out; have := HK2.out; omega⟩, ⟨by (with_reducible repeat (first | apply Kd.V_alloc | apply Kd.V_drewN | apply Kd.V_drew)); exact Kd.V_mono HO_14.out (fun _ hk => ⟨hk.2, ⟨hk.1.1, hk.1.2⟩⟩)⟩, ⟨by (with_reducible repeat (first | apply Kd.Q_alloc | apply Kd.Q_drewN | apply Kd.Q_drew)); exact HO_17.out⟩, ⟨by (with_reducible repeat (first | apply xR | apply xS | apply xT)); exact Kd.R_mono HO_19.out (fun _ hk => hk.2)⟩, ⟨by (with_reducible repeat (first | apply xR | apply xS | apply xT)); exact HO_95.out⟩, ⟨by repeat (first | (with_reducible first | exact HB.out | apply xA | apply xN | apply xO) | exact HB.out)⟩⟩
def weave_holes.l0 : Nat → Int → List Int → List Int → Int → Int → Int → Int → Int → Int → Option (List Int)
  | 0, _, _, _, _, _, _, _, _, _ => none
  | k + 1, x2, x7, x10, x11, x12, x394000, x394001, x394002, x394003 => if x12 < x11 then (if 0 ≤ x12 then (if x12 < (x10.length : Int) then (if (rd x10 x12) ≥ 0 then (if (rd x10 x12) < x394003 then (if x394000 = 0 then (none) else (if (Int.tmod (rd x10 x12) x394000) = x2 then (if x7.length < 17592186044416 then (weave_holes.l0 k x2 (x7 ++ [wrap64 (Int.tdiv (rd x10 x12) x394000)]) x10 x11 (wrap64 (x12 + 1)) x394000 x394001 x394002 x394003) else (none)) else (weave_holes.l0 k x2 x7 x10 x11 (wrap64 (x12 + 1)) x394000 x394001 x394002 x394003))) else (weave_holes.l0 k x2 x7 x10 x11 (wrap64 (x12 + 1)) x394000 x394001 x394002 x394003)) else (weave_holes.l0 k x2 x7 x10 x11 (wrap64 (x12 + 1)) x394000 x394001 x394002 x394003)) else (none)) else (none)) else (some x7)
def weave_holes.f (k : Nat) (l0 : List Int) (a1_0 : Int) (a1_1 : Int) (a1_2 : Int) (a1_3 : Int) (a2 : Int) : Option (List Int) := weave_holes.l0 k a2 ([] : List Int) l0 (l0.length : Int) 0 a1_0 a1_1 a1_2 a1_3
theorem weave_holes.mono_l : ∀ k, (∀ y0 y1 y2 y3 y4 y5 y6 y7 y8, LeO (weave_holes.l0 k y0 y1 y2 y3 y4 y5 y6 y7 y8) (weave_holes.l0 (k + 1) y0 y1 y2 y3 y4 y5 y6 y7 y8))
  | 0 => fun _ _ _ _ _ _ _ _ _ r h => by simp [weave_holes.l0] at h
  | k + 1 => by
    have ih0 := weave_holes.mono_l k
    · intro y0 y1 y2 y3 y4 y5 y6 y7 y8
      unfold weave_holes.l0
      repeat' first
      | (with_reducible exact ih0 _ _ _ _ _ _ _ _ _)
      | (with_reducible exact LeO.refl _)
      | (with_reducible exact LeO.none _)
      | (with_reducible refine LeO.ite ?_ ?_)
      | (with_reducible refine LeO.bind ?_ (fun _ => ?_))
      | exact ih0 _ _ _ _ _ _ _ _ _
theorem weave_holes.mono : ∀ a0 a1 a2 a3 a4 a5 k, LeO (weave_holes.f k a0 a1 a2 a3 a4 a5) (weave_holes.f (k + 1) a0 a1 a2 a3 a4 a5) := by
  intro a0 a1 a2 a3 a4 a5 k
  have ih0 := weave_holes.mono_l k
  unfold weave_holes.f
  repeat' first
      | (with_reducible exact ih0 _ _ _ _ _ _ _ _ _)
      | (with_reducible exact LeO.refl _)
      | (with_reducible exact LeO.none _)
      | (with_reducible refine LeO.ite ?_ ?_)
      | (with_reducible refine LeO.bind ?_ (fun _ => ?_))
      | exact ih0 _ _ _ _ _ _ _ _ _
set_option maxHeartbeats 8000000 in
set_option maxRecDepth 100000 in
theorem weave_holes.calls (k : Nat) (A0 : Option Addr) (c0 : Nat) (l0 : List Int) (a1_0 : Int) (a1_1 : Int) (a1_2 : Int) (a1_3 : Int) (a2 : Int) (r : List Int) (w : World) (hr0 : Kd.C (Kd.int .i64) w A0 l0.length l0) (hc0 : l0.length ≤ c0) (h : weave_holes.f k l0 a1_0 a1_1 a1_2 a1_3 a2 = some r) :
    Calls Try.prog 24 #[.slice A0 l0.length c0, .agg #[.int .i64 a1_0, .int .i64 a1_1, .int .i64 a1_2, .int .i64 a1_3], .int .i64 a2] w fun e w' => ∃ v0_ : Value, e = .returned (v0_) ∧ Kd.R (Kd.int .i64) 3 w' w.heap.size (fun _ => True) v0_ r ∧ Below w.heap.size w w' := by
  have hu23 := Try.underlying23
  have HR0 := Aside0.mk hr0
  have HC0 := Aside0.mk hc0
  clear hr0 hc0
  have HB := Aside0.mk (Below.refl w.heap.size w)
  have H : (weave_holes.l0 k a2 ([] : List Int) l0 (l0.length : Int) 0 a1_0 a1_1 a1_2 a1_3) = some r := h
  clear h
  have H' := Aside0.mk H
  clear H
  go_enter Try.func24, Try.ntmps24
  go_wp2_with (first | ((with_reducible refine gate_dst (N := 4) rfl ?_); refine box_event ?hg (N := 4) ?hd (cs := #[.int .i64 a1_0, .int .i64 a1_1, .int .i64 a1_2, .int .i64 a1_3]) (t := 23) ?hr ?_; (case hd => rfl); (case hg => rfl); (case hr => first | (go_simp; done) | (go_simp; rfl)); intro gb393 hg w4 hbox hb; have n0_ := Aside0.mk (xP (by repeat (first | (with_reducible first | exact HB.out | apply xA | apply xN | apply xO) | exact HB.out)) hb); have n1_ := Aside0.mk (hbox); have n2_ := Aside0.mk ((by rw [hg]; exact (xZ (by repeat (first | (with_reducible first | exact HB.out | apply xA | apply xN | apply xO) | exact HB.out))) : w.heap.size ≤ gb393)); have n3_ := Aside0.mk ((by rw [hg]; exact (xZ (by repeat (first | (with_reducible first | exact HB.out | apply xA | apply xN | apply xO) | exact HB.out))) : w.heap.size ≤ gb393)); clear HB; have HB := n0_; have BK393 := n1_; have GW393 := n2_; have GE393 := n3_; clear n0_ n1_ n2_ n3_; clear hb hbox hg))
  go_loopg [7, 12] k (fun kq v7 v12 w' => ∃ (x7_1 : List Int) (x12_1 : Int), v12 = .int .i64 x12_1 ∧ Aside0 (weave_holes.l0 kq a2 x7_1 l0 (l0.length : Int) x12_1 a1_0 a1_1 a1_2 a1_3 = some r) ∧ Aside0 (kq ≤ k) ∧ Aside0 (Kd.R (Kd.int .i64) 3 w' w.heap.size (fun _ => True) v7 x7_1) ∧ Aside0 (w'.heap[gb393]? = some (.cells #[.int .i64 a1_0, .int .i64 a1_1, .int .i64 a1_2, .int .i64 a1_3] 23 (0, 0))) ∧ Aside0 (Below w.heap.size w w'))
  case atStart => exact ⟨(([] : List Int)), (0), (by first | rfl | (simp; done) | (simp [*]; done)), H', ⟨Nat.le_refl _⟩, ⟨by first | exact Kd.R_nil _ _ _ _ _ | exact Kd.N_nil _ _ _ _ _ | exact Kd.V_nil _ _ _ _ _ | exact Kd.Q_nil _ _ _ _ _ | exact Kd.S_nil _ _ _ _ _⟩, ⟨by (with_reducible repeat (first | refine xB ?_ _ | refine xC ?_ | refine xD ?_ _)); exact BK393.out⟩, ⟨by repeat (first | (with_reducible first | exact HB.out | apply xA | apply xN | apply xO | refine below_set ?_ GE393.out) | exact HB.out)⟩⟩
  case round =>
    clear H'
    try clear c2
    try clear p2
    obtain ⟨x7_1, x12_1, rfl, HA, HK1, HO_7, BK393, HB⟩ := hrel
    cases gk with
    | zero => exact absurd HA.out (by simp [weave_holes.l0])
    | succ k1 =>
      have H := HA.out
      clear HA
      simp only [weave_holes.l0] at H
      by_cases c5 : x12_1 < (l0.length : Int)
      rotate_left
      · rw [if_neg c5] at H
        have c5b0 : decide (x12_1 < (l0.length : Int)) = false := decide_eq_false c5
        clear c5
        obtain rfl := Option.some.inj H
        go_wp2
        go_ret
        exact ⟨_, by first | rfl | (simp [errW_none, errW_some] <;> rfl) | (simp [*, errW_none, errW_some] <;> rfl), by (with_reducible repeat (first | apply xR | apply xS | apply xT)); exact HO_7.out, by repeat (first | (with_reducible first | exact HB.out | apply xA | apply xN | apply xO | refine below_set ?_ GE393.out) | exact HB.out)⟩
      rw [if_pos c5] at H
      have c5b0 : decide (x12_1 < (l0.length : Int)) = true := decide_eq_true c5
      clear c5
      by_cases c6 : 0 ≤ x12_1
      rotate_left
      · rw [if_neg c6] at H
        exact absurd H (by simp)
      rw [if_pos c6] at H
      have c6b0 : decide (0 ≤ x12_1) = true := decide_eq_true c6
      clear c6
      by_cases c7 : x12_1 < (l0.length : Int)
      rotate_left
      · rw [if_neg c7] at H
        exact absurd H (by simp)
      rw [if_pos c7] at H
      have c7b0 : decide (x12_1 < (l0.length : Int)) = true := decide_eq_true c7
      clear c7
      by_cases c8 : (rd l0 x12_1) ≥ 0
      rotate_left
      · rw [if_neg c8] at H
        have c8b0 : decide (0 ≤ (rd l0 x12_1)) = false := decide_eq_false c8
        clear c8
        have H' := Aside0.mk H
        clear H
        have p394 : 0 ≤ (x12_1 : Int) := of_decide_eq_true (by first | (with_reducible assumption) | assumption)
        have q394 : x12_1 < (l0.length : Int) := of_decide_eq_true (by first | (with_reducible assumption) | assumption)
        obtain ⟨ad394, e394, hx394_0⟩ := Kd.at_int HR0.out x12_1 p394 q394
        cases e394
        replace hx394_0 := (HB.out.cell (World.block_lt_of_cell? w _ hx394_0)).trans hx394_0
        replace p394 := eq_true p394
        replace q394 := eq_true q394
        go_wp2
        go_roundg k1
        case measure => have := HK1.out; omega
        case rel => exact ⟨(x7_1), (wrap64 (x12_1 + 1)), (by first | rfl | (simp; done) | (simp [*]; done)), H', ⟨by have := HK1.out; omega⟩, ⟨by (with_reducible repeat (first | apply xR | apply xS | apply xT)); exact HO_7.out⟩, ⟨by (with_reducible repeat (first | refine xB ?_ _ | refine xC ?_ | refine xD ?_ _)); exact BK393.out⟩, ⟨by repeat (first | (with_reducible first | exact HB.out | apply xA | apply xN | apply xO | refine below_set ?_ GE393.out) | exact HB.out)⟩⟩
      rw [if_pos c8] at H
      have c8b0 : decide (0 ≤ (rd l0 x12_1)) = true := decide_eq_true c8
      clear c8
      by_cases c9 : (rd l0 x12_1) < a1_3
      rotate_left
      · rw [if_neg c9] at H
        have c9b0 : decide ((rd l0 x12_1) < a1_3) = false := decide_eq_false c9
        clear c9
        have H' := Aside0.mk H
        clear H
        have p394 : 0 ≤ (x12_1 : Int) := of_decide_eq_true (by first | (with_reducible assumption) | assumption)
        have q394 : x12_1 < (l0.length : Int) := of_decide_eq_true (by first | (with_reducible assumption) | assumption)
        obtain ⟨ad394, e394, hx394_0⟩ := Kd.at_int HR0.out x12_1 p394 q394
        cases e394
        replace hx394_0 := (HB.out.cell (World.block_lt_of_cell? w _ hx394_0)).trans hx394_0
        replace p394 := eq_true p394
        replace q394 := eq_true q394
        have hcz16_0 : wr.cell? ⟨gb393, 0, none⟩ = some (.int .i64 a1_0) := (blk_cell BK393.out 0).trans rfl
        have hcz16_1 : wr.cell? ⟨gb393, 1, none⟩ = some (.int .i64 a1_1) := (blk_cell BK393.out 1).trans rfl
        have hcz16_2 : wr.cell? ⟨gb393, 2, none⟩ = some (.int .i64 a1_2) := (blk_cell BK393.out 2).trans rfl
        have hcz16_3 : wr.cell? ⟨gb393, 3, none⟩ = some (.int .i64 a1_3) := (blk_cell BK393.out 3).trans rfl
        have hfz16_0 := blk_frozen BK393.out 0
        have hfz16_1 := blk_frozen BK393.out 1
        have hfz16_2 := blk_frozen BK393.out 2
        have hfz16_3 := blk_frozen BK393.out 3
        go_wp2
        go_roundg k1
        case measure => have := HK1.out; omega
        case rel => exact ⟨(x7_1), (wrap64 (x12_1 + 1)), (by first | rfl | (simp; done) | (simp [*]; done)), H', ⟨by have := HK1.out; omega⟩, ⟨by (with_reducible repeat (first | apply xR | apply xS | apply xT)); exact HO_7.out⟩, ⟨by (with_reducible repeat (first | refine xB ?_ _ | refine xC ?_ | refine xD ?_ _)); exact BK393.out⟩, ⟨by repeat (first | (with_reducible first | exact HB.out | apply xA | apply xN | apply xO | refine below_set ?_ GE393.out) | exact HB.out)⟩⟩
      rw [if_pos c9] at H
      have c9b0 : decide ((rd l0 x12_1) < a1_3) = true := decide_eq_true c9
      clear c9
      by_cases c10 : a1_0 = 0
      · rw [if_pos c10] at H
        exact absurd H (by simp)
      rw [if_neg c10] at H
      have c10b0 : (a1_0 == 0) = false := beq_eq_false_iff_ne.mpr c10
      have c10b1 : (a1_0 != 0) = true := bne_iff_ne.mpr c10
      by_cases c11 : (Int.tmod (rd l0 x12_1) a1_0) = a2
      rotate_left
      · rw [if_neg c11] at H
        have c11b0 : ((Int.tmod (rd l0 x12_1) a1_0) == a2) = false := beq_eq_false_iff_ne.mpr c11
        have c11b1 : ((Int.tmod (rd l0 x12_1) a1_0) != a2) = true := bne_iff_ne.mpr c11
        have H' := Aside0.mk H
        clear H
        have p394 : 0 ≤ (x12_1 : Int) := of_decide_eq_true (by first | (with_reducible assumption) | assumption)
        have q394 : x12_1 < (l0.length : Int) := of_decide_eq_true (by first | (with_reducible assumption) | assumption)
        obtain ⟨ad394, e394, hx394_0⟩ := Kd.at_int HR0.out x12_1 p394 q394
        cases e394
        replace hx394_0 := (HB.out.cell (World.block_lt_of_cell? w _ hx394_0)).trans hx394_0
        replace p394 := eq_true p394
        replace q394 := eq_true q394
        have hcz15_0 : wr.cell? ⟨gb393, 0, none⟩ = some (.int .i64 a1_0) := (blk_cell BK393.out 0).trans rfl
        have hcz15_1 : wr.cell? ⟨gb393, 1, none⟩ = some (.int .i64 a1_1) := (blk_cell BK393.out 1).trans rfl
        have hcz15_2 : wr.cell? ⟨gb393, 2, none⟩ = some (.int .i64 a1_2) := (blk_cell BK393.out 2).trans rfl
        have hcz15_3 : wr.cell? ⟨gb393, 3, none⟩ = some (.int .i64 a1_3) := (blk_cell BK393.out 3).trans rfl
        have hfz15_0 := blk_frozen BK393.out 0
        have hfz15_1 := blk_frozen BK393.out 1
        have hfz15_2 := blk_frozen BK393.out 2
        have hfz15_3 := blk_frozen BK393.out 3
        go_wp2
        go_roundg k1
        case measure => have := HK1.out; omega
        case rel => exact ⟨(x7_1), (wrap64 (x12_1 + 1)), (by first | rfl | (simp; done) | (simp [*]; done)), H', ⟨by have := HK1.out; omega⟩, ⟨by (with_reducible repeat (first | apply xR | apply xS | apply xT)); exact HO_7.out⟩, ⟨by (with_reducible repeat (first | refine xB ?_ _ | refine xC ?_ | refine xD ?_ _)); exact BK393.out⟩, ⟨by repeat (first | (with_reducible first | exact HB.out | apply xA | apply xN | apply xO | refine below_set ?_ GE393.out) | exact HB.out)⟩⟩
      rw [if_pos c11] at H
      have c11b0 : ((Int.tmod (rd l0 x12_1) a1_0) == a2) = true := beq_iff_eq.mpr c11
      have c11b1 : ((Int.tmod (rd l0 x12_1) a1_0) != a2) = false := bne_eq_false_iff_eq.mpr c11
      clear c11
      by_cases c12 : x7_1.length < 17592186044416
      rotate_left
      · rw [if_neg c12] at H
        exact absurd H (by simp)
      rw [if_pos c12] at H
      have LMc12 := Aside0.mk c12
      clear c12
      obtain ⟨y395, hy395⟩ : ∃ y_ : List Int, y_ = (x7_1 ++ [wrap64 (Int.tdiv (rd l0 x12_1) a1_0)]) := ⟨_, rfl⟩
      replace H : (weave_holes.l0 k1 a2 y395 l0 (l0.length : Int) (wrap64 (x12_1 + 1)) a1_0 a1_1 a1_2 a1_3) = some r := by first | (have H2_ := (Option.bind_some _ _).symm.trans H; rw [hy395]; with_reducible exact H2_) | (rw [hy395]; exact H) | exact H
      have Ny395 := Aside0.mk hy395
      clear hy395
      have H' := Aside0.mk H
      clear H
      have p394 : 0 ≤ (x12_1 : Int) := of_decide_eq_true (by first | (with_reducible assumption) | assumption)
      have q394 : x12_1 < (l0.length : Int) := of_decide_eq_true (by first | (with_reducible assumption) | assumption)
      obtain ⟨ad394, e394, hx394_0⟩ := Kd.at_int HR0.out x12_1 p394 q394
      cases e394
      replace hx394_0 := (HB.out.cell (World.block_lt_of_cell? w _ hx394_0)).trans hx394_0
      replace p394 := eq_true p394
      replace q394 := eq_true q394
      have hcz13_0 : wr.cell? ⟨gb393, 0, none⟩ = some (.int .i64 a1_0) := (blk_cell BK393.out 0).trans rfl
      have hcz13_1 : wr.cell? ⟨gb393, 1, none⟩ = some (.int .i64 a1_1) := (blk_cell BK393.out 1).trans rfl
      have hcz13_2 : wr.cell? ⟨gb393, 2, none⟩ = some (.int .i64 a1_2) := (blk_cell BK393.out 2).trans rfl
      have hcz13_3 : wr.cell? ⟨gb393, 3, none⟩ = some (.int .i64 a1_3) := (blk_cell BK393.out 3).trans rfl
      have hfz13_0 := blk_frozen BK393.out 0
      have hfz13_1 := blk_frozen BK393.out 1
      have hfz13_2 := blk_frozen BK393.out 2
      have hfz13_3 := blk_frozen BK393.out 3
      go_wp2_with (first | ((with_reducible refine gate_builtin (b := .append) (xs := #[.tmp 32, .tmp 37]) rfl ?_); at_builtin; refine Kd.R_append (Kd.int .i64) (w0 := w) w.heap.size rfl (.tmp 32) (.tmp 37) 42 3 (.int .i64 0) 8 rfl Try.underlying42 info3 rfl (by decide) (by omega) u7 x7_1 (wrap64 (Int.tdiv (rd l0 x12_1) a1_0)) [.int .i64 (wrap64 (Int.tdiv (rd l0 x12_1) a1_0))] (fun _ => True) (fun _ => False) rfl rfl ?aP (fun _ hk => hk.elim) ?aF ?aO ?aB ?aS ?aL ?_; (case aP => exact rfl); (case aB => exact (by repeat (first | (with_reducible first | exact HB.out | apply xA | apply xN | apply xO | refine below_set ?_ GE393.out) | exact HB.out))); (case aF => exact (fun _ _ => trivial)); (case aO => exact (by (with_reducible repeat (first | apply xR | apply xS | apply xT)); exact HO_7.out)); (case aS => exact (xZ (by repeat (first | (with_reducible first | exact HB.out | apply xA | apply xN | apply xO | refine below_set ?_ GE393.out) | exact HB.out)))); (case aL => have := LMc12.out; omega); intro v396 w14 ho hb hg hat; rw [← Ny395.out] at ho; have n0_ := Aside0.mk (blk_grown (g := gb393) (o := .cells #[.int .i64 a1_0, .int .i64 a1_1, .int .i64 a1_2, .int .i64 a1_3] 23 (0, 0)) (by (with_reducible repeat (first | refine xB ?_ _ | refine xC ?_ | refine xD ?_ _)); exact BK393.out) hg (Kd.R_ne HO_7.out BK393.out (by decide))); have n1_ := Aside0.mk (hb); have n2_ := Aside0.mk (ho); clear BK393; clear HB; clear HO_7; have BK393 := n0_; have HB := n1_; have HO397 := n2_; clear n0_ n1_ n2_; clear ho hb hg hat))
      go_roundg k1
      case measure => have := HK1.out; omega
      case rel => exact ⟨(y395), (wrap64 (x12_1 + 1)), (by first | rfl | (simp; done) | (simp [*]; done)), H', ⟨by have := HK1.out; omega⟩, ⟨by (with_reducible repeat (first | apply xR | apply xS | apply xT)); exact HO397.out⟩, ⟨by (with_reducible repeat (first | refine xB ?_ _ | refine xC ?_ | refine xD ?_ _)); exact BK393.out⟩, ⟨by repeat (first | (with_reducible first | exact HB.out | apply xA | apply xN | apply xO | refine below_set ?_ GE393.out) | exact HB.out)⟩⟩
def weave_size.f (a0_0 : Int) (a0_1 : Int) (a0_2 : Int) (a0_3 : Int) (a1 : Int) : Option (Int) := if a0_0 = 0 then (none) else (some (wrap64 (Int.tdiv (wrap64 ((wrap64 ((wrap64 ((wrap64 (a0_3 - (wrap64 (a0_0 * a0_2)))) - a1)) + a0_0)) - 1)) a0_0)))
set_option maxHeartbeats 8000000 in
set_option maxRecDepth 100000 in
theorem weave_size.calls (a0_0 : Int) (a0_1 : Int) (a0_2 : Int) (a0_3 : Int) (a1 : Int) (r : Int) (w : World) (h : weave_size.f a0_0 a0_1 a0_2 a0_3 a1 = some r) :
    Calls Try.prog 25 #[.agg #[.int .i64 a0_0, .int .i64 a0_1, .int .i64 a0_2, .int .i64 a0_3], .int .i64 a1] w fun e w' => e = .returned (.int .i64 r) ∧ Below w.heap.size w w' := by
  have hu23 := Try.underlying23
  have HB := Aside0.mk (Below.refl w.heap.size w)
  have H : (if a0_0 = 0 then (none) else (some (wrap64 (Int.tdiv (wrap64 ((wrap64 ((wrap64 ((wrap64 (a0_3 - (wrap64 (a0_0 * a0_2)))) - a1)) + a0_0)) - 1)) a0_0)))) = some r := h
  clear h
  by_cases c3 : a0_0 = 0
  · rw [if_pos c3] at H
    exact absurd H (by simp)
  rw [if_neg c3] at H
  have c3b0 : (a0_0 == 0) = false := beq_eq_false_iff_ne.mpr c3
  have c3b1 : (a0_0 != 0) = true := bne_iff_ne.mpr c3
  obtain rfl := Option.some.inj H
  go_enter Try.func25, Try.ntmps25
  go_wp2_with (first | ((with_reducible refine gate_dst (N := 2) rfl ?_); refine box_event ?hg (N := 2) ?hd (cs := #[.int .i64 a0_0, .int .i64 a0_1, .int .i64 a0_2, .int .i64 a0_3]) (t := 23) ?hr ?_; (case hd => rfl); (case hg => rfl); (case hr => first | (go_simp; done) | (go_simp; rfl)); intro gb398 hg w4 hbox hb; have n0_ := Aside0.mk (xP (by repeat (first | (with_reducible first | exact HB.out | apply xA | apply xN | apply xO) | exact HB.out)) hb); have n1_ := Aside0.mk (hbox); have n2_ := Aside0.mk ((by rw [hg]; exact (xZ (by repeat (first | (with_reducible first | exact HB.out | apply xA | apply xN | apply xO) | exact HB.out))) : w.heap.size ≤ gb398)); have n3_ := Aside0.mk ((by rw [hg]; exact (xZ (by repeat (first | (with_reducible first | exact HB.out | apply xA | apply xN | apply xO) | exact HB.out))) : w.heap.size ≤ gb398)); clear HB; have HB := n0_; have BK398 := n1_; have GW398 := n2_; have GE398 := n3_; clear n0_ n1_ n2_ n3_; clear hb hbox hg; have hcz5_0 : w4.cell? ⟨gb398, 0, none⟩ = some (.int .i64 a0_0) := (blk_cell BK398.out 0).trans rfl; have hcz5_1 : w4.cell? ⟨gb398, 1, none⟩ = some (.int .i64 a0_1) := (blk_cell BK398.out 1).trans rfl; have hcz5_2 : w4.cell? ⟨gb398, 2, none⟩ = some (.int .i64 a0_2) := (blk_cell BK398.out 2).trans rfl; have hcz5_3 : w4.cell? ⟨gb398, 3, none⟩ = some (.int .i64 a0_3) := (blk_cell BK398.out 3).trans rfl; have hfz5_0 := blk_frozen BK398.out 0; have hfz5_1 := blk_frozen BK398.out 1; have hfz5_2 := blk_frozen BK398.out 2; have hfz5_3 := blk_frozen BK398.out 3))
  go_ret
  exact ⟨by first | rfl | (simp [errW_none, errW_some] <;> rfl) | (simp [*, errW_none, errW_some] <;> rfl), by repeat (first | (with_reducible first | exact HB.out | apply xA | apply xN | apply xO | refine below_set ?_ GE398.out) | exact HB.out)⟩
end Go.Proofs.Ytpleeckbakllpaa.XWv
