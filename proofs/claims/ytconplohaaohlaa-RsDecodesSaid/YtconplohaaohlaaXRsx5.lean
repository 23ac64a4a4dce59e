import Derived.Test.YtconplohaaohlaaXRsx0
import Derived.Test.YtconplohaaohlaaXRsx1
import Derived.Test.YtconplohaaohlaaXRsx2
import Derived.Test.YtconplohaaohlaaXRsx3
import Derived.Test.YtconplohaaohlaaXRsx4
namespace Go.Proofs.Ytconplohaaohlaa.XRs
open Go.RowKit Go.Proofs.YtconplohaaohlaaX.PrintWords Go.Proofs.YtconplohaaohlaaX.PrintLast Go.Proofs.YtconplohaaohlaaX.PrintMore
attribute [local go_sem] max2_int min2_int max_two min_two max_three min_three max_four min_four
set_option linter.unusedVariables false
set_option linter.unusedSimpArgs false
mutual
def rs_Decode.j0 : Nat → ByteArray → Int → List Int → List Int → List Int → Bool → Option (ByteArray × Int × Int)
  | 0, _, _, _, _, _, _ => none
  | k + 1, x0, x1, x14, x15, x16, x90 => if x90 = true then (some ((⟨#[]⟩ : ByteArray), 0, 280)) else (if x0.size ≤ 9223372036854775807 then ((gf_Poly_Slope.f k x15).bind fun t339 => (rs_Decode.l0 k x1 x14 (bytesOf x0) 0 t339 x16 (x16.length : Int) 0)) else (none))
def rs_Decode.l0 : Nat → Int → List Int → List Int → Int → List Int → List Int → Int → Int → Option (ByteArray × Int × Int)
  | 0, _, _, _, _, _, _, _, _ => none
  | k + 1, x1, x14, x17, x18, x19, x95, x96, x97 => if x97 < x96 then (if 0 ≤ x97 then (if x97 < (x95.length : Int) then ((gf_Root.f k (wrap64 (-(rd x95 x97)))).bind fun t344 => ((gf_Poly_At.f k x19 t344).bind fun t345 => (if t345 = 0 then (some ((⟨#[]⟩ : ByteArray), 0, 280)) else ((gf_Root.f k (rd x95 x97)).bind fun t346 => ((gf_Poly_At.f k x14 t344).bind fun t347 => ((gf_Inv.f k t345).bind fun t348 => ((gf_Mul.f k t347 t348).bind fun t349 => ((gf_Mul.f k t346 t349).bind fun t350 => (if t350 = 0 then (if 0 ≤ (wrap64 ((wrap64 ((x17.length : Int) - 1)) - (rd x95 x97))) then (if (wrap64 ((wrap64 ((x17.length : Int) - 1)) - (rd x95 x97))) < (x17.length : Int) then (rs_Decode.l0 k x1 x14 (x17.set ((wrap64 ((wrap64 ((x17.length : Int) - 1)) - (rd x95 x97))) : Int).toNat (Go.bits .xor .u8 (rd x17 (wrap64 ((wrap64 ((x17.length : Int) - 1)) - (rd x95 x97)))) t350)) x18 x19 x95 x96 (wrap64 (x97 + 1))) else (none)) else (none)) else (if 0 ≤ (wrap64 ((wrap64 ((x17.length : Int) - 1)) - (rd x95 x97))) then (if (wrap64 ((wrap64 ((x17.length : Int) - 1)) - (rd x95 x97))) < (x17.length : Int) then (rs_Decode.l0 k x1 x14 (x17.set ((wrap64 ((wrap64 ((x17.length : Int) - 1)) - (rd x95 x97))) : Int).toNat (Go.bits .xor .u8 (rd x17 (wrap64 ((wrap64 ((x17.length : Int) - 1)) - (rd x95 x97)))) t350)) (wrap64 (x18 + 1)) x19 x95 x96 (wrap64 (x97 + 1))) else (none)) else (none))))))))))) else (none)) else (none)) else ((rs_Right.f k (strOfNums x17) x1).bind fun t342 => (if t342 = true then (some (strOfNums x17, x18, 0)) else (some ((⟨#[]⟩ : ByteArray), 0, 280))))
end
def rs_Decode.f (k : Nat) (a0 : ByteArray) (a1 : Int) (l2 : List Int) : Option (ByteArray × Int × Int) := (rs_lostOf.f k l2 (a0.size : Int) a1).bind fun bt304 => ((rs_Check.f (a0.size : Int) a1).bind fun t308 => (if t308 = true then (if bt304.2 = true then ((rs_Right.f k a0 a1).bind fun t309 => (if t309 = true then (some (a0, 0, 0)) else ((rs_places.f k bt304.1).bind fun t310 => ((rs_Signs.f k a0 a1).bind fun t313 => ((gf_Poly_Mul.f k t313 t310).bind fun t316 => ((gf_Poly_Cut.f k t316 a1).bind fun t319 => ((rs_solve.f k t319 a1 (bt304.1.length : Int)).bind fun bt322 => ((gf_Poly_Mul.f k bt322.1 t310).bind fun t328 => ((rs_roots.f k t328 (a0.size : Int)).bind fun t331 => (if (t331.length : Int) = 0 then (rs_Decode.j0 k a0 a1 bt322.2 t328 t331 true) else ((gf_Poly_Degree.f k t328).bind fun t334 => (if (t331.length : Int) = t334 then ((gf_Poly_Degree.f k bt322.1).bind fun t335 => (rs_Decode.j0 k a0 a1 bt322.2 t328 t331 (decide ((wrap64 ((wrap64 (2 * t335)) + (bt304.1.length : Int))) > a1)))) else (rs_Decode.j0 k a0 a1 bt322.2 t328 t331 true))))))))))))) else (some ((⟨#[]⟩ : ByteArray), 0, 280))) else (some ((⟨#[]⟩ : ByteArray), 0, 1))))
theorem rs_Decode.mono_l : ∀ k, (∀ y0 y1 y2 y3 y4 y5, LeO (rs_Decode.j0 k y0 y1 y2 y3 y4 y5) (rs_Decode.j0 (k + 1) y0 y1 y2 y3 y4 y5)) ∧ (∀ y0 y1 y2 y3 y4 y5 y6 y7, LeO (rs_Decode.l0 k y0 y1 y2 y3 y4 y5 y6 y7) (rs_Decode.l0 (k + 1) y0 y1 y2 y3 y4 y5 y6 y7))
  | 0 => ⟨fun _ _ _ _ _ _ r h => by simp [rs_Decode.j0] at h, fun _ _ _ _ _ _ _ _ r h => by simp [rs_Decode.l0] at h⟩
  | k + 1 => by
    obtain ⟨ih0, ih1⟩ := rs_Decode.mono_l k
    refine ⟨?_, ?_⟩
    · intro y0 y1 y2 y3 y4 y5
      unfold rs_Decode.j0
      repeat' first
      | (with_reducible exact ih0 _ _ _ _ _ _)
      | (with_reducible exact ih1 _ _ _ _ _ _ _ _)
      | (with_reducible exact gf_Inv.mono _ _)
      | (with_reducible exact gf_Mul.mono _ _ _)
      | (with_reducible exact gf_Poly_At.mono _ _ _)
      | (with_reducible exact gf_Poly_Cut.mono _ _ _)
      | (with_reducible exact gf_Poly_Degree.mono _ _)
      | (with_reducible exact gf_Poly_Mul.mono _ _ _)
      | (with_reducible exact gf_Poly_Slope.mono _ _)
      | (with_reducible exact gf_Root.mono _ _)
      | (with_reducible exact rs_Right.mono _ _ _)
      | (with_reducible exact rs_Signs.mono _ _ _)
      | (with_reducible exact rs_lostOf.mono _ _ _ _)
      | (with_reducible exact rs_places.mono _ _)
      | (with_reducible exact rs_roots.mono _ _ _)
      | (with_reducible exact rs_solve.mono _ _ _ _)
      | (with_reducible exact LeO.refl _)
      | (with_reducible exact LeO.none _)
      | (with_reducible refine LeO.ite ?_ ?_)
      | (with_reducible refine LeO.bind ?_ (fun _ => ?_))
      | exact ih0 _ _ _ _ _ _
      | exact ih1 _ _ _ _ _ _ _ _
      | exact gf_Inv.mono _ _
      | exact gf_Mul.mono _ _ _
      | exact gf_Poly_At.mono _ _ _
      | exact gf_Poly_Cut.mono _ _ _
      | exact gf_Poly_Degree.mono _ _
      | exact gf_Poly_Mul.mono _ _ _
      | exact gf_Poly_Slope.mono _ _
      | exact gf_Root.mono _ _
      | exact rs_Right.mono _ _ _
      | exact rs_Signs.mono _ _ _
      | exact rs_lostOf.mono _ _ _ _
      | exact rs_places.mono _ _
      | exact rs_roots.mono _ _ _
      | exact rs_solve.mono _ _ _ _
      | exact LeO.none _
      | refine LeO.ite ?_ ?_
      | refine LeO.bind ?_ (fun _ => ?_)
    · intro y0 y1 y2 y3 y4 y5 y6 y7
      unfold rs_Decode.l0
      repeat' first
      | (with_reducible exact ih0 _ _ _ _ _ _)
      | (with_reducible exact ih1 _ _ _ _ _ _ _ _)
      | (with_reducible exact gf_Inv.mono _ _)
      | (with_reducible exact gf_Mul.mono _ _ _)
      | (with_reducible exact gf_Poly_At.mono _ _ _)
      | (with_reducible exact gf_Poly_Cut.mono _ _ _)
      | (with_reducible exact gf_Poly_Degree.mono _ _)
      | (with_reducible exact gf_Poly_Mul.mono _ _ _)
      | (with_reducible exact gf_Poly_Slope.mono _ _)
      | (with_reducible exact gf_Root.mono _ _)
      | (with_reducible exact rs_Right.mono _ _ _)
      | (with_reducible exact rs_Signs.mono _ _ _)
      | (with_reducible exact rs_lostOf.mono _ _ _ _)
      | (with_reducible exact rs_places.mono _ _)
      | (with_reducible exact rs_roots.mono _ _ _)
      | (with_reducible exact rs_solve.mono _ _ _ _)
      | (with_reducible exact LeO.refl _)
      | (with_reducible exact LeO.none _)
      | (with_reducible refine LeO.ite ?_ ?_)
      | (with_reducible refine LeO.bind ?_ (fun _ => ?_))
      | exact ih0 _ _ _ _ _ _
      | exact ih1 _ _ _ _ _ _ _ _
      | exact gf_Inv.mono _ _
      | exact gf_Mul.mono _ _ _
      | exact gf_Poly_At.mono _ _ _
      | exact gf_Poly_Cut.mono _ _ _
      | exact gf_Poly_Degree.mono _ _
      | exact gf_Poly_Mul.mono _ _ _
      | exact gf_Poly_Slope.mono _ _
      | exact gf_Root.mono _ _
      | exact rs_Right.mono _ _ _
      | exact rs_Signs.mono _ _ _
      | exact rs_lostOf.mono _ _ _ _
      | exact rs_places.mono _ _
      | exact rs_roots.mono _ _ _
      | exact rs_solve.mono _ _ _ _
      | exact LeO.none _
      | refine LeO.ite ?_ ?_
      | refine LeO.bind ?_ (fun _ => ?_)
theorem rs_Decode.mono : ∀ a0 a1 a2 k, LeO (rs_Decode.f k a0 a1 a2) (rs_Decode.f (k + 1) a0 a1 a2) := by
  intro a0 a1 a2 k
  obtain ⟨ih0, ih1⟩ := rs_Decode.mono_l k
  unfold rs_Decode.f
  repeat' first
      | (with_reducible exact ih0 _ _ _ _ _ _)
      | (with_reducible exact ih1 _ _ _ _ _ _ _ _)
      | (with_reducible exact gf_Inv.mono _ _)
      | (with_reducible exact gf_Mul.mono _ _ _)
      | (with_reducible exact gf_Poly_At.mono _ _ _)
      | (with_reducible exact gf_Poly_Cut.mono _ _ _)
      | (with_reducible exact gf_Poly_Degree.mono _ _)
      | (with_reducible exact gf_Poly_Mul.mono _ _ _)
      | (with_reducible exact gf_Poly_Slope.mono _ _)
      | (with_reducible exact gf_Root.mono _ _)
      | (with_reducible exact rs_Right.mono _ _ _)
      | (with_reducible exact rs_Signs.mono _ _ _)
      | (with_reducible exact rs_lostOf.mono _ _ _ _)
      | (with_reducible exact rs_places.mono _ _)
      | (with_reducible exact rs_roots.mono _ _ _)
      | (with_reducible exact rs_solve.mono _ _ _ _)
      | (with_reducible exact LeO.refl _)
      | (with_reducible exact LeO.none _)
      | (with_reducible refine LeO.ite ?_ ?_)
      | (with_reducible refine LeO.bind ?_ (fun _ => ?_))
      | exact ih0 _ _ _ _ _ _
      | exact ih1 _ _ _ _ _ _ _ _
      | exact gf_Inv.mono _ _
      | exact gf_Mul.mono _ _ _
      | exact gf_Poly_At.mono _ _ _
      | exact gf_Poly_Cut.mono _ _ _
      | exact gf_Poly_Degree.mono _ _
      | exact gf_Poly_Mul.mono _ _ _
      | exact gf_Poly_Slope.mono _ _
      | exact gf_Root.mono _ _
      | exact rs_Right.mono _ _ _
      | exact rs_Signs.mono _ _ _
      | exact rs_lostOf.mono _ _ _ _
      | exact rs_places.mono _ _
      | exact rs_roots.mono _ _ _
      | exact rs_solve.mono _ _ _ _
      | exact LeO.none _
      | refine LeO.ite ?_ ?_
      | refine LeO.bind ?_ (fun _ => ?_)
set_option maxHeartbeats 8000000 in
set_option maxRecDepth 100000 in
theorem rs_Decode.calls (k : Nat) (a0 : ByteArray) (a1 : Int) (A2 : Option Addr) (c2 : Nat) (l2 : List Int) (r1 : ByteArray) (r2 : Int) (r3 : Int) (w : World) (hr2 : Kd.C (Kd.int .i64) w A2 l2.length l2) (hc2 : l2.length ≤ c2) (h : rs_Decode.f k a0 a1 l2 = some (r1, r2, r3)) :
    Calls Try.prog 17 #[.string a0, .int .i64 a1, .slice A2 l2.length c2] w fun e w' => e = .returned (.tuple #[.string r1, .int .i64 r2, .int .i64 r3]) ∧ Below w.heap.size w w' := by
  have HR2 := Aside0.mk hr2
  have HC2 := Aside0.mk hc2
  clear hr2 hc2
  have HB := Aside0.mk (Below.refl w.heap.size w)
  have H : ((rs_lostOf.f k l2 (a0.size : Int) a1).bind fun bt304 => ((rs_Check.f (a0.size : Int) a1).bind fun t308 => (if t308 = true then (if bt304.2 = true then ((rs_Right.f k a0 a1).bind fun t309 => (if t309 = true then (some (a0, 0, 0)) else ((rs_places.f k bt304.1).bind fun t310 => ((rs_Signs.f k a0 a1).bind fun t313 => ((gf_Poly_Mul.f k t313 t310).bind fun t316 => ((gf_Poly_Cut.f k t316 a1).bind fun t319 => ((rs_solve.f k t319 a1 (bt304.1.length : Int)).bind fun bt322 => ((gf_Poly_Mul.f k bt322.1 t310).bind fun t328 => ((rs_roots.f k t328 (a0.size : Int)).bind fun t331 => (if (t331.length : Int) = 0 then (rs_Decode.j0 k a0 a1 bt322.2 t328 t331 true) else ((gf_Poly_Degree.f k t328).bind fun t334 => (if (t331.length : Int) = t334 then ((gf_Poly_Degree.f k bt322.1).bind fun t335 => (rs_Decode.j0 k a0 a1 bt322.2 t328 t331 (decide ((wrap64 ((wrap64 (2 * t335)) + (bt304.1.length : Int))) > a1)))) else (rs_Decode.j0 k a0 a1 bt322.2 t328 t331 true))))))))))))) else (some ((⟨#[]⟩ : ByteArray), 0, 280))) else (some ((⟨#[]⟩ : ByteArray), 0, 1))))) = some (r1, r2, r3) := h
  clear h
  replace H := Option.bind_eq_some_iff.mp H
  obtain ⟨⟨t304, t305⟩, A40, H⟩ := H
  replace H : ((rs_Check.f (a0.size : Int) a1).bind fun t308 => (if t308 = true then (if t305 = true then ((rs_Right.f k a0 a1).bind fun t309 => (if t309 = true then (some (a0, 0, 0)) else ((rs_places.f k t304).bind fun t310 => ((rs_Signs.f k a0 a1).bind fun t313 => ((gf_Poly_Mul.f k t313 t310).bind fun t316 => ((gf_Poly_Cut.f k t316 a1).bind fun t319 => ((rs_solve.f k t319 a1 (t304.length : Int)).bind fun bt322 => ((gf_Poly_Mul.f k bt322.1 t310).bind fun t328 => ((rs_roots.f k t328 (a0.size : Int)).bind fun t331 => (if (t331.length : Int) = 0 then (rs_Decode.j0 k a0 a1 bt322.2 t328 t331 true) else ((gf_Poly_Degree.f k t328).bind fun t334 => (if (t331.length : Int) = t334 then ((gf_Poly_Degree.f k bt322.1).bind fun t335 => (rs_Decode.j0 k a0 a1 bt322.2 t328 t331 (decide ((wrap64 ((wrap64 (2 * t335)) + (t304.length : Int))) > a1)))) else (rs_Decode.j0 k a0 a1 bt322.2 t328 t331 true))))))))))))) else (some ((⟨#[]⟩ : ByteArray), 0, 280))) else (some ((⟨#[]⟩ : ByteArray), 0, 1)))) = some (r1, r2, r3) := H
  have A4 := Aside0.mk A40
  clear A40
  replace H := Option.bind_eq_some_iff.mp H
  obtain ⟨t308, A50, H⟩ := H
  replace H : (if t308 = true then (if t305 = true then ((rs_Right.f k a0 a1).bind fun t309 => (if t309 = true then (some (a0, 0, 0)) else ((rs_places.f k t304).bind fun t310 => ((rs_Signs.f k a0 a1).bind fun t313 => ((gf_Poly_Mul.f k t313 t310).bind fun t316 => ((gf_Poly_Cut.f k t316 a1).bind fun t319 => ((rs_solve.f k t319 a1 (t304.length : Int)).bind fun bt322 => ((gf_Poly_Mul.f k bt322.1 t310).bind fun t328 => ((rs_roots.f k t328 (a0.size : Int)).bind fun t331 => (if (t331.length : Int) = 0 then (rs_Decode.j0 k a0 a1 bt322.2 t328 t331 true) else ((gf_Poly_Degree.f k t328).bind fun t334 => (if (t331.length : Int) = t334 then ((gf_Poly_Degree.f k bt322.1).bind fun t335 => (rs_Decode.j0 k a0 a1 bt322.2 t328 t331 (decide ((wrap64 ((wrap64 (2 * t335)) + (t304.length : Int))) > a1)))) else (rs_Decode.j0 k a0 a1 bt322.2 t328 t331 true))))))))))))) else (some ((⟨#[]⟩ : ByteArray), 0, 280))) else (some ((⟨#[]⟩ : ByteArray), 0, 1))) = some (r1, r2, r3) := H
  have A5 := Aside0.mk A50
  clear A50
  by_cases c6 : t308 = true
  · subst c6
    have H1 : (if t305 = true then ((rs_Right.f k a0 a1).bind fun t309 => (if t309 = true then (some (a0, 0, 0)) else ((rs_places.f k t304).bind fun t310 => ((rs_Signs.f k a0 a1).bind fun t313 => ((gf_Poly_Mul.f k t313 t310).bind fun t316 => ((gf_Poly_Cut.f k t316 a1).bind fun t319 => ((rs_solve.f k t319 a1 (t304.length : Int)).bind fun bt322 => ((gf_Poly_Mul.f k bt322.1 t310).bind fun t328 => ((rs_roots.f k t328 (a0.size : Int)).bind fun t331 => (if (t331.length : Int) = 0 then (rs_Decode.j0 k a0 a1 bt322.2 t328 t331 true) else ((gf_Poly_Degree.f k t328).bind fun t334 => (if (t331.length : Int) = t334 then ((gf_Poly_Degree.f k bt322.1).bind fun t335 => (rs_Decode.j0 k a0 a1 bt322.2 t328 t331 (decide ((wrap64 ((wrap64 (2 * t335)) + (t304.length : Int))) > a1)))) else (rs_Decode.j0 k a0 a1 bt322.2 t328 t331 true))))))))))))) else (some ((⟨#[]⟩ : ByteArray), 0, 280))) = some (r1, r2, r3) := by rw [if_pos rfl] at H; exact H
    clear H
    have H := H1
    clear H1
    by_cases c7 : t305 = true
    · subst c7
      have H1 : ((rs_Right.f k a0 a1).bind fun t309 => (if t309 = true then (some (a0, 0, 0)) else ((rs_places.f k t304).bind fun t310 => ((rs_Signs.f k a0 a1).bind fun t313 => ((gf_Poly_Mul.f k t313 t310).bind fun t316 => ((gf_Poly_Cut.f k t316 a1).bind fun t319 => ((rs_solve.f k t319 a1 (t304.length : Int)).bind fun bt322 => ((gf_Poly_Mul.f k bt322.1 t310).bind fun t328 => ((rs_roots.f k t328 (a0.size : Int)).bind fun t331 => (if (t331.length : Int) = 0 then (rs_Decode.j0 k a0 a1 bt322.2 t328 t331 true) else ((gf_Poly_Degree.f k t328).bind fun t334 => (if (t331.length : Int) = t334 then ((gf_Poly_Degree.f k bt322.1).bind fun t335 => (rs_Decode.j0 k a0 a1 bt322.2 t328 t331 (decide ((wrap64 ((wrap64 (2 * t335)) + (t304.length : Int))) > a1)))) else (rs_Decode.j0 k a0 a1 bt322.2 t328 t331 true))))))))))))) = some (r1, r2, r3) := by rw [if_pos rfl] at H; exact H
      clear H
      have H := H1
      clear H1
      replace H := Option.bind_eq_some_iff.mp H
      obtain ⟨t309, A80, H⟩ := H
      replace H : (if t309 = true then (some (a0, 0, 0)) else ((rs_places.f k t304).bind fun t310 => ((rs_Signs.f k a0 a1).bind fun t313 => ((gf_Poly_Mul.f k t313 t310).bind fun t316 => ((gf_Poly_Cut.f k t316 a1).bind fun t319 => ((rs_solve.f k t319 a1 (t304.length : Int)).bind fun bt322 => ((gf_Poly_Mul.f k bt322.1 t310).bind fun t328 => ((rs_roots.f k t328 (a0.size : Int)).bind fun t331 => (if (t331.length : Int) = 0 then (rs_Decode.j0 k a0 a1 bt322.2 t328 t331 true) else ((gf_Poly_Degree.f k t328).bind fun t334 => (if (t331.length : Int) = t334 then ((gf_Poly_Degree.f k bt322.1).bind fun t335 => (rs_Decode.j0 k a0 a1 bt322.2 t328 t331 (decide ((wrap64 ((wrap64 (2 * t335)) + (t304.length : Int))) > a1)))) else (rs_Decode.j0 k a0 a1 bt322.2 t328 t331 true)))))))))))) = some (r1, r2, r3) := H
      have A8 := Aside0.mk A80
      clear A80
      by_cases c9 : t309 = true
      · subst c9
        have H1 : (some (a0, 0, 0)) = some (r1, r2, r3) := by rw [if_pos rfl] at H; exact H
        clear H
        have H := H1
        clear H1
        simp only [Option.some.injEq, Prod.mk.injEq] at H
        obtain ⟨rfl, rfl, rfl⟩ := H
        go_enter Try.func17, Try.ntmps17
        go_wp2_with (first | ((with_reducible refine gate_callee (f := 28) rfl ?_); refine goesL_ (some 30) rfl rfl Try.func28 (by kernel_rfl) rfl #[.slice A2 l2.length c2, .int .i64 (a0.size : Int), .int .i64 a1] rfl (by (try simp only [List.map_toArray, List.map_cons, List.map_nil]); first | done | rfl | (simp only [List.length_drop, List.length_take]; rfl)) ?_; (with_reducible refine (rs_lostOf.calls k _ _ l2 (a0.size : Int) a1 t304 true _ ?side1 ?side2 A4.out).mono ?_); (case side1 => repeat (first | exact HR2.out | (with_reducible refine Kd.C_alloc ?_ _) | (with_reducible refine Kd.C_drewN ?_ _) | (with_reducible refine Kd.C_drew ?_))); (case side2 => exact HC2.out); rintro e w10 ⟨v306, rfl, ho0, hb⟩; refine ⟨_, rfl, ?_⟩; have n0_ := Aside0.mk (Kd.R_lower ho0 (below_size (by repeat (first | (with_reducible first | exact HB.out | apply below_alloc | apply pw_below_drewN | apply below_drew1) | exact HB.out)))); have n1_ := Aside0.mk (below_step (by repeat (first | (with_reducible first | exact HB.out | apply below_alloc | apply pw_below_drewN | apply below_drew1) | exact HB.out)) hb); clear HB; have HO307 := n0_; have HB := n1_; clear n0_ n1_; (try clear hb); (try clear hb2); (try clear hk); (try clear hi); (try clear ho0)) | ((with_reducible refine gate_callee (f := 15) rfl ?_); refine goesL_ (some 37) rfl rfl Try.func15 (by kernel_rfl) rfl #[.int .i64 (a0.size : Int), .int .i64 a1] rfl (by (try simp only [List.map_toArray, List.map_cons, List.map_nil]); first | done | rfl | (simp only [List.length_drop, List.length_take]; rfl)) ?_; (with_reducible refine (rs_Check.calls (a0.size : Int) a1 true _ A5.out).mono ?_); rintro e w' ⟨rfl, ⟨nd, rfl⟩⟩; refine ⟨_, rfl, ?_⟩) | ((with_reducible refine gate_callee (f := 13) rfl ?_); refine goesL_ (some 45) rfl rfl Try.func13 (by kernel_rfl) rfl #[.string a0, .int .i64 a1] rfl (by (try simp only [List.map_toArray, List.map_cons, List.map_nil]); first | done | rfl | (simp only [List.length_drop, List.length_take]; rfl)) ?_; (with_reducible refine (rs_Right.calls k a0 a1 true _ A8.out).mono ?_); rintro e w11 ⟨rfl, hb⟩; refine ⟨_, rfl, ?_⟩; have n0_ := Aside0.mk (Kd.R_below (by (with_reducible repeat (first | apply Kd.R_alloc | apply Kd.R_drewN | apply Kd.R_drew)); exact HO307.out) hb); have n1_ := Aside0.mk (below_step (by repeat (first | (with_reducible first | exact HB.out | apply below_alloc | apply pw_below_drewN | apply below_drew1) | exact HB.out)) hb); clear HO307; clear HB; have HO307 := n0_; have HB := n1_; clear n0_ n1_; (try clear hb); (try clear hb2); (try clear hk); (try clear hi)))
        go_ret3
        exact ⟨by first | rfl | (simp [errW_none, errW_some] <;> rfl) | (simp [*, errW_none, errW_some] <;> rfl), by repeat (first | (with_reducible first | exact HB.out | apply below_alloc | apply pw_below_drewN | apply below_drew1) | exact HB.out)⟩
      · replace c9 := Bool.eq_false_iff.mpr c9
        subst c9
        have H1 : ((rs_places.f k t304).bind fun t310 => ((rs_Signs.f k a0 a1).bind fun t313 => ((gf_Poly_Mul.f k t313 t310).bind fun t316 => ((gf_Poly_Cut.f k t316 a1).bind fun t319 => ((rs_solve.f k t319 a1 (t304.length : Int)).bind fun bt322 => ((gf_Poly_Mul.f k bt322.1 t310).bind fun t328 => ((rs_roots.f k t328 (a0.size : Int)).bind fun t331 => (if (t331.length : Int) = 0 then (rs_Decode.j0 k a0 a1 bt322.2 t328 t331 true) else ((gf_Poly_Degree.f k t328).bind fun t334 => (if (t331.length : Int) = t334 then ((gf_Poly_Degree.f k bt322.1).bind fun t335 => (rs_Decode.j0 k a0 a1 bt322.2 t328 t331 (decide ((wrap64 ((wrap64 (2 * t335)) + (t304.length : Int))) > a1)))) else (rs_Decode.j0 k a0 a1 bt322.2 t328 t331 true))))))))))) = some (r1, r2, r3) := by rw [if_neg (show ¬ (false = true) by decide)] at H; exact H
        clear H
        have H := H1
        clear H1
        replace H := Option.bind_eq_some_iff.mp H
        obtain ⟨t310, A120, H⟩ := H
        replace H : ((rs_Signs.f k a0 a1).bind fun t313 => ((gf_Poly_Mul.f k t313 t310).bind fun t316 => ((gf_Poly_Cut.f k t316 a1).bind fun t319 => ((rs_solve.f k t319 a1 (t304.length : Int)).bind fun bt322 => ((gf_Poly_Mul.f k bt322.1 t310).bind fun t328 => ((rs_roots.f k t328 (a0.size : Int)).bind fun t331 => (if (t331.length : Int) = 0 then (rs_Decode.j0 k a0 a1 bt322.2 t328 t331 true) else ((gf_Poly_Degree.f k t328).bind fun t334 => (if (t331.length : Int) = t334 then ((gf_Poly_Degree.f k bt322.1).bind fun t335 => (rs_Decode.j0 k a0 a1 bt322.2 t328 t331 (decide ((wrap64 ((wrap64 (2 * t335)) + (t304.length : Int))) > a1)))) else (rs_Decode.j0 k a0 a1 bt322.2 t328 t331 true)))))))))) = some (r1, r2, r3) := H
        have A12 := Aside0.mk A120
        clear A120
        replace H := Option.bind_eq_some_iff.mp H
        obtain ⟨t313, A130, H⟩ := H
        replace H : ((gf_Poly_Mul.f k t313 t310).bind fun t316 => ((gf_Poly_Cut.f k t316 a1).bind fun t319 => ((rs_solve.f k t319 a1 (t304.length : Int)).bind fun bt322 => ((gf_Poly_Mul.f k bt322.1 t310).bind fun t328 => ((rs_roots.f k t328 (a0.size : Int)).bind fun t331 => (if (t331.length : Int) = 0 then (rs_Decode.j0 k a0 a1 bt322.2 t328 t331 true) else ((gf_Poly_Degree.f k t328).bind fun t334 => (if (t331.length : Int) = t334 then ((gf_Poly_Degree.f k bt322.1).bind fun t335 => (rs_Decode.j0 k a0 a1 bt322.2 t328 t331 (decide ((wrap64 ((wrap64 (2 * t335)) + (t304.length : Int))) > a1)))) else (rs_Decode.j0 k a0 a1 bt322.2 t328 t331 true))))))))) = some (r1, r2, r3) := H
        have A13 := Aside0.mk A130
        clear A130
        replace H := Option.bind_eq_some_iff.mp H
        obtain ⟨t316, A140, H⟩ := H
        replace H : ((gf_Poly_Cut.f k t316 a1).bind fun t319 => ((rs_solve.f k t319 a1 (t304.length : Int)).bind fun bt322 => ((gf_Poly_Mul.f k bt322.1 t310).bind fun t328 => ((rs_roots.f k t328 (a0.size : Int)).bind fun t331 => (if (t331.length : Int) = 0 then (rs_Decode.j0 k a0 a1 bt322.2 t328 t331 true) else ((gf_Poly_Degree.f k t328).bind fun t334 => (if (t331.length : Int) = t334 then ((gf_Poly_Degree.f k bt322.1).bind fun t335 => (rs_Decode.j0 k a0 a1 bt322.2 t328 t331 (decide ((wrap64 ((wrap64 (2 * t335)) + (t304.length : Int))) > a1)))) else (rs_Decode.j0 k a0 a1 bt322.2 t328 t331 true)))))))) = some (r1, r2, r3) := H
        have A14 := Aside0.mk A140
        clear A140
        replace H := Option.bind_eq_some_iff.mp H
        obtain ⟨t319, A150, H⟩ := H
        replace H : ((rs_solve.f k t319 a1 (t304.length : Int)).bind fun bt322 => ((gf_Poly_Mul.f k bt322.1 t310).bind fun t328 => ((rs_roots.f k t328 (a0.size : Int)).bind fun t331 => (if (t331.length : Int) = 0 then (rs_Decode.j0 k a0 a1 bt322.2 t328 t331 true) else ((gf_Poly_Degree.f k t328).bind fun t334 => (if (t331.length : Int) = t334 then ((gf_Poly_Degree.f k bt322.1).bind fun t335 => (rs_Decode.j0 k a0 a1 bt322.2 t328 t331 (decide ((wrap64 ((wrap64 (2 * t335)) + (t304.length : Int))) > a1)))) else (rs_Decode.j0 k a0 a1 bt322.2 t328 t331 true))))))) = some (r1, r2, r3) := H
        have A15 := Aside0.mk A150
        clear A150
        replace H := Option.bind_eq_some_iff.mp H
        obtain ⟨⟨t322, t325⟩, A160, H⟩ := H
        replace H : ((gf_Poly_Mul.f k t322 t310).bind fun t328 => ((rs_roots.f k t328 (a0.size : Int)).bind fun t331 => (if (t331.length : Int) = 0 then (rs_Decode.j0 k a0 a1 t325 t328 t331 true) else ((gf_Poly_Degree.f k t328).bind fun t334 => (if (t331.length : Int) = t334 then ((gf_Poly_Degree.f k t322).bind fun t335 => (rs_Decode.j0 k a0 a1 t325 t328 t331 (decide ((wrap64 ((wrap64 (2 * t335)) + (t304.length : Int))) > a1)))) else (rs_Decode.j0 k a0 a1 t325 t328 t331 true)))))) = some (r1, r2, r3) := H
        have A16 := Aside0.mk A160
        clear A160
        replace H := Option.bind_eq_some_iff.mp H
        obtain ⟨t328, A170, H⟩ := H
        replace H : ((rs_roots.f k t328 (a0.size : Int)).bind fun t331 => (if (t331.length : Int) = 0 then (rs_Decode.j0 k a0 a1 t325 t328 t331 true) else ((gf_Poly_Degree.f k t328).bind fun t334 => (if (t331.length : Int) = t334 then ((gf_Poly_Degree.f k t322).bind fun t335 => (rs_Decode.j0 k a0 a1 t325 t328 t331 (decide ((wrap64 ((wrap64 (2 * t335)) + (t304.length : Int))) > a1)))) else (rs_Decode.j0 k a0 a1 t325 t328 t331 true))))) = some (r1, r2, r3) := H
        have A17 := Aside0.mk A170
        clear A170
        replace H := Option.bind_eq_some_iff.mp H
        obtain ⟨t331, A180, H⟩ := H
        replace H : (if (t331.length : Int) = 0 then (rs_Decode.j0 k a0 a1 t325 t328 t331 true) else ((gf_Poly_Degree.f k t328).bind fun t334 => (if (t331.length : Int) = t334 then ((gf_Poly_Degree.f k t322).bind fun t335 => (rs_Decode.j0 k a0 a1 t325 t328 t331 (decide ((wrap64 ((wrap64 (2 * t335)) + (t304.length : Int))) > a1)))) else (rs_Decode.j0 k a0 a1 t325 t328 t331 true)))) = some (r1, r2, r3) := H
        have A18 := Aside0.mk A180
        clear A180
        have HC19 := Aside0.mk H
        clear H
        go_enter Try.func17, Try.ntmps17
        go_upto_region 13 with (first | ((with_reducible refine gate_callee (f := 28) rfl ?_); refine goesL_ (some 30) rfl rfl Try.func28 (by kernel_rfl) rfl #[.slice A2 l2.length c2, .int .i64 (a0.size : Int), .int .i64 a1] rfl (by (try simp only [List.map_toArray, List.map_cons, List.map_nil]); first | done | rfl | (simp only [List.length_drop, List.length_take]; rfl)) ?_; (with_reducible refine (rs_lostOf.calls k _ _ l2 (a0.size : Int) a1 t304 true _ ?side1 ?side2 A4.out).mono ?_); (case side1 => repeat (first | exact HR2.out | (with_reducible refine Kd.C_alloc ?_ _) | (with_reducible refine Kd.C_drewN ?_ _) | (with_reducible refine Kd.C_drew ?_))); (case side2 => exact HC2.out); rintro e w20 ⟨v306, rfl, ho0, hb⟩; refine ⟨_, rfl, ?_⟩; have n0_ := Aside0.mk (Kd.R_lower ho0 (below_size (by repeat (first | (with_reducible first | exact HB.out | apply below_alloc | apply pw_below_drewN | apply below_drew1) | exact HB.out)))); have n1_ := Aside0.mk (below_step (by repeat (first | (with_reducible first | exact HB.out | apply below_alloc | apply pw_below_drewN | apply below_drew1) | exact HB.out)) hb); clear HB; have HO307 := n0_; have HB := n1_; clear n0_ n1_; (try clear hb); (try clear hb2); (try clear hk); (try clear hi); (try clear ho0)) | ((with_reducible refine gate_callee (f := 15) rfl ?_); refine goesL_ (some 37) rfl rfl Try.func15 (by kernel_rfl) rfl #[.int .i64 (a0.size : Int), .int .i64 a1] rfl (by (try simp only [List.map_toArray, List.map_cons, List.map_nil]); first | done | rfl | (simp only [List.length_drop, List.length_take]; rfl)) ?_; (with_reducible refine (rs_Check.calls (a0.size : Int) a1 true _ A5.out).mono ?_); rintro e w' ⟨rfl, ⟨nd, rfl⟩⟩; refine ⟨_, rfl, ?_⟩) | ((with_reducible refine gate_callee (f := 13) rfl ?_); refine goesL_ (some 45) rfl rfl Try.func13 (by kernel_rfl) rfl #[.string a0, .int .i64 a1] rfl (by (try simp only [List.map_toArray, List.map_cons, List.map_nil]); first | done | rfl | (simp only [List.length_drop, List.length_take]; rfl)) ?_; (with_reducible refine (rs_Right.calls k a0 a1 false _ A8.out).mono ?_); rintro e w21 ⟨rfl, hb⟩; refine ⟨_, rfl, ?_⟩; have n0_ := Aside0.mk (Kd.R_below (by (with_reducible repeat (first | apply Kd.R_alloc | apply Kd.R_drewN | apply Kd.R_drew)); exact HO307.out) hb); have n1_ := Aside0.mk (below_step (by repeat (first | (with_reducible first | exact HB.out | apply below_alloc | apply pw_below_drewN | apply below_drew1) | exact HB.out)) hb); clear HO307; clear HB; have HO307 := n0_; have HB := n1_; clear n0_ n1_; (try clear hb); (try clear hb2); (try clear hk); (try clear hi); obtain ⟨Ao22, co22, eo22⟩ := Kd.R_slice HO307.out; subst eo22) | ((with_reducible refine gate_callee (f := 29) rfl ?_); refine goesL_ (some 48) rfl rfl Try.func29 (by kernel_rfl) rfl #[.slice Ao22 t304.length co22] rfl (by (try simp only [List.map_toArray, List.map_cons, List.map_nil]); first | done | rfl | (simp only [List.length_drop, List.length_take]; rfl)) ?_; (with_reducible refine (rs_places.calls k _ _ t304 t310 _ ?side1 ?side2 A12.out).mono ?_); (case side1 => repeat (first | exact (Kd.R_reads' HO307.out).2.2 | (with_reducible refine Kd.C_alloc ?_ _) | (with_reducible refine Kd.C_drewN ?_ _) | (with_reducible refine Kd.C_drew ?_))); (case side2 => exact (Kd.R_reads' HO307.out).2.1); rintro e w23 ⟨v311, rfl, ho0, hb⟩; refine ⟨_, rfl, ?_⟩; have n0_ := Aside0.mk (Kd.R_below (by (with_reducible repeat (first | apply Kd.R_alloc | apply Kd.R_drewN | apply Kd.R_drew)); exact HO307.out) hb); have n1_ := Aside0.mk (Kd.R_lower ho0 (below_size (by repeat (first | (with_reducible first | exact HB.out | apply below_alloc | apply pw_below_drewN | apply below_drew1) | exact HB.out)))); have n2_ := Aside0.mk (below_step (by repeat (first | (with_reducible first | exact HB.out | apply below_alloc | apply pw_below_drewN | apply below_drew1) | exact HB.out)) hb); clear HO307; clear HB; have HO307 := n0_; have HO312 := n1_; have HB := n2_; clear n0_ n1_ n2_; (try clear hb); (try clear hb2); (try clear hk); (try clear hi); (try clear ho0)) | ((with_reducible refine gate_callee (f := 14) rfl ?_); refine goesL_ (some 51) rfl rfl Try.func14 (by kernel_rfl) rfl #[.string a0, .int .i64 a1] rfl (by (try simp only [List.map_toArray, List.map_cons, List.map_nil]); first | done | rfl | (simp only [List.length_drop, List.length_take]; rfl)) ?_; (with_reducible refine (rs_Signs.calls k a0 a1 t313 _ A13.out).mono ?_); rintro e w24 ⟨v314, rfl, ho0, hb⟩; refine ⟨_, rfl, ?_⟩; have n0_ := Aside0.mk (Kd.R_below (by (with_reducible repeat (first | apply Kd.R_alloc | apply Kd.R_drewN | apply Kd.R_drew)); exact HO307.out) hb); have n1_ := Aside0.mk (Kd.R_elder' (by (with_reducible repeat (first | apply Kd.R_alloc | apply Kd.R_drewN | apply Kd.R_drew)); exact HO312.out) (Kd.R_base ho0) hb); have n2_ := Aside0.mk (Kd.R_lower (Kd.R_new' ho0 (Kd.R_lt (by (with_reducible repeat (first | apply Kd.R_alloc | apply Kd.R_drewN | apply Kd.R_drew)); exact HO312.out))) (below_size (by repeat (first | (with_reducible first | exact HB.out | apply below_alloc | apply pw_below_drewN | apply below_drew1) | exact HB.out)))); have n3_ := Aside0.mk (below_step (by repeat (first | (with_reducible first | exact HB.out | apply below_alloc | apply pw_below_drewN | apply below_drew1) | exact HB.out)) hb); clear HO307; clear HO312; clear HB; have HO307 := n0_; have HO312 := n1_; have HO315 := n2_; have HB := n3_; clear n0_ n1_ n2_ n3_; (try clear hb); (try clear hb2); (try clear hk); (try clear hi); (try clear ho0); obtain ⟨Ao25, co25, eo25⟩ := Kd.R_slice HO315.out; subst eo25; obtain ⟨Ao26, co26, eo26⟩ := Kd.R_slice HO312.out; subst eo26) | ((with_reducible refine gate_callee (f := 30) rfl ?_); refine goesL_ (some 53) rfl rfl Try.func30 (by kernel_rfl) rfl #[.slice Ao25 t313.length co25, .slice Ao26 t310.length co26] rfl (by (try simp only [List.map_toArray, List.map_cons, List.map_nil]); first | done | rfl | (simp only [List.length_drop, List.length_take]; rfl)) ?_; (with_reducible refine (gf_Poly_Mul.calls k _ _ t313 _ _ t310 t316 _ ?side1 ?side2 ?side3 ?side4 A14.out).mono ?_); (case side1 => repeat (first | exact (Kd.R_reads' HO315.out).2.2 | (with_reducible refine Kd.C_alloc ?_ _) | (with_reducible refine Kd.C_drewN ?_ _) | (with_reducible refine Kd.C_drew ?_))); (case side2 => exact (Kd.R_reads' HO315.out).2.1); (case side3 => repeat (first | exact (Kd.R_reads' HO312.out).2.2 | (with_reducible refine Kd.C_alloc ?_ _) | (with_reducible refine Kd.C_drewN ?_ _) | (with_reducible refine Kd.C_drew ?_))); (case side4 => exact (Kd.R_reads' HO312.out).2.1); rintro e w27 ⟨v317, rfl, ho0, hb⟩; refine ⟨_, rfl, ?_⟩; have n0_ := Aside0.mk (Kd.R_below (by (with_reducible repeat (first | apply Kd.R_alloc | apply Kd.R_drewN | apply Kd.R_drew)); exact HO307.out) hb); have n1_ := Aside0.mk (Kd.R_elder' (by (with_reducible repeat (first | apply Kd.R_alloc | apply Kd.R_drewN | apply Kd.R_drew)); exact HO312.out) (Kd.R_base ho0) hb); have n2_ := Aside0.mk (Kd.R_elder' (by (with_reducible repeat (first | apply Kd.R_alloc | apply Kd.R_drewN | apply Kd.R_drew)); exact HO315.out) (Kd.R_base ho0) hb); have n3_ := Aside0.mk (Kd.R_lower (Kd.R_new' (Kd.R_new' ho0 (Kd.R_lt (by (with_reducible repeat (first | apply Kd.R_alloc | apply Kd.R_drewN | apply Kd.R_drew)); exact HO312.out))) (Kd.R_lt (by (with_reducible repeat (first | apply Kd.R_alloc | apply Kd.R_drewN | apply Kd.R_drew)); exact HO315.out))) (below_size (by repeat (first | (with_reducible first | exact HB.out | apply below_alloc | apply pw_below_drewN | apply below_drew1) | exact HB.out)))); have n4_ := Aside0.mk (below_step (by repeat (first | (with_reducible first | exact HB.out | apply below_alloc | apply pw_below_drewN | apply below_drew1) | exact HB.out)) hb); clear HO307; clear HO312; clear HO315; clear HB; have HO307 := n0_; have HO312 := n1_; have HO315 := n2_; have HO318 := n3_; have HB := n4_; clear n0_ n1_ n2_ n3_ n4_; (try clear hb); (try clear hb2); (try clear hk); (try clear hi); (try clear ho0); obtain ⟨Ao28, co28, eo28⟩ := Kd.R_slice HO318.out; subst eo28) | ((with_reducible refine gate_callee (f := 31) rfl ?_); refine goesL_ (some 55) rfl rfl Try.func31 (by kernel_rfl) rfl #[.slice Ao28 t316.length co28, .int .i64 a1] rfl (by (try simp only [List.map_toArray, List.map_cons, List.map_nil]); first | done | rfl | (simp only [List.length_drop, List.length_take]; rfl)) ?_; (with_reducible refine (gf_Poly_Cut.calls k _ _ t316 a1 t319 _ ?side1 ?side2 A15.out).mono ?_); (case side1 => repeat (first | exact (Kd.R_reads' HO318.out).2.2 | (with_reducible refine Kd.C_alloc ?_ _) | (with_reducible refine Kd.C_drewN ?_ _) | (with_reducible refine Kd.C_drew ?_))); (case side2 => exact (Kd.R_reads' HO318.out).2.1); rintro e w29 ⟨v320, rfl, ho0, hb⟩; refine ⟨_, rfl, ?_⟩; have n0_ := Aside0.mk (Kd.R_below (by (with_reducible repeat (first | apply Kd.R_alloc | apply Kd.R_drewN | apply Kd.R_drew)); exact HO307.out) hb); have n1_ := Aside0.mk (Kd.R_elder' (by (with_reducible repeat (first | apply Kd.R_alloc | apply Kd.R_drewN | apply Kd.R_drew)); exact HO312.out) (Kd.R_base ho0) hb); have n2_ := Aside0.mk (Kd.R_elder' (by (with_reducible repeat (first | apply Kd.R_alloc | apply Kd.R_drewN | apply Kd.R_drew)); exact HO315.out) (Kd.R_base ho0) hb); have n3_ := Aside0.mk (Kd.R_elder' (by (with_reducible repeat (first | apply Kd.R_alloc | apply Kd.R_drewN | apply Kd.R_drew)); exact HO318.out) (Kd.R_base ho0) hb); have n4_ := Aside0.mk (Kd.R_lower (Kd.R_new' (Kd.R_new' (Kd.R_new' ho0 (Kd.R_lt (by (with_reducible repeat (first | apply Kd.R_alloc | apply Kd.R_drewN | apply Kd.R_drew)); exact HO312.out))) (Kd.R_lt (by (with_reducible repeat (first | apply Kd.R_alloc | apply Kd.R_drewN | apply Kd.R_drew)); exact HO315.out))) (Kd.R_lt (by (with_reducible repeat (first | apply Kd.R_alloc | apply Kd.R_drewN | apply Kd.R_drew)); exact HO318.out))) (below_size (by repeat (first | (with_reducible first | exact HB.out | apply below_alloc | apply pw_below_drewN | apply below_drew1) | exact HB.out)))); have n5_ := Aside0.mk (below_step (by repeat (first | (with_reducible first | exact HB.out | apply below_alloc | apply pw_below_drewN | apply below_drew1) | exact HB.out)) hb); clear HO307; clear HO312; clear HO315; clear HO318; clear HB; have HO307 := n0_; have HO312 := n1_; have HO315 := n2_; have HO318 := n3_; have HO321 := n4_; have HB := n5_; clear n0_ n1_ n2_ n3_ n4_ n5_; (try clear hb); (try clear hb2); (try clear hk); (try clear hi); (try clear ho0); obtain ⟨Ao30, co30, eo30⟩ := Kd.R_slice HO321.out; subst eo30) | ((with_reducible refine gate_callee (f := 32) rfl ?_); refine goesL_ (some 61) rfl rfl Try.func32 (by kernel_rfl) rfl #[.slice Ao30 t319.length co30, .int .i64 a1, .int .i64 (t304.length : Int)] rfl (by (try simp only [List.map_toArray, List.map_cons, List.map_nil]); first | done | rfl | (simp only [List.length_drop, List.length_take]; rfl)) ?_; (with_reducible refine (rs_solve.calls k (fun k_ => some k_ = (.slice Ao30 t319.length co30 : Value).ownBlock) _ _ t319 a1 (t304.length : Int) t322 t325 _ ?side1 A16.out).mono ?_); (case side1 => exact Kd.R_V (Kd.R_tight rfl (Kd.R_apart' (HO321.out) (Kd.R_typed HO307.out) (by decide)))); rintro e w31 ⟨v323, v326, rfl, ho0, ho1, hb⟩; refine ⟨_, rfl, ?_⟩; have n0_ := Aside0.mk (Kd.R_below (by (with_reducible repeat (first | apply Kd.R_alloc | apply Kd.R_drewN | apply Kd.R_drew)); exact HO307.out) hb); have n1_ := Aside0.mk (Kd.R_elder' (by (with_reducible repeat (first | apply Kd.R_alloc | apply Kd.R_drewN | apply Kd.R_drew)); exact HO312.out) (Kd.R_base ho0) hb); have n2_ := Aside0.mk (Kd.R_elder' (by (with_reducible repeat (first | apply Kd.R_alloc | apply Kd.R_drewN | apply Kd.R_drew)); exact HO315.out) (Kd.R_base ho0) hb); have n3_ := Aside0.mk (Kd.R_elder' (by (with_reducible repeat (first | apply Kd.R_alloc | apply Kd.R_drewN | apply Kd.R_drew)); exact HO318.out) (Kd.R_base ho0) hb); have n4_ := Aside0.mk (Kd.R_elder' (by (with_reducible repeat (first | apply Kd.R_alloc | apply Kd.R_drewN | apply Kd.R_drew)); exact HO321.out) (Kd.R_base ho0) hb); have n5_ := Aside0.mk (Kd.R_lower (Kd.R_new' (Kd.R_new' (Kd.R_new' (Kd.R_new' (Kd.R_mono (ok' := fun k_ => True) ho0 (fun _ hk_ => trivial)) (Kd.R_lt (by (with_reducible repeat (first | apply Kd.R_alloc | apply Kd.R_drewN | apply Kd.R_drew)); exact HO312.out))) (Kd.R_lt (by (with_reducible repeat (first | apply Kd.R_alloc | apply Kd.R_drewN | apply Kd.R_drew)); exact HO315.out))) (Kd.R_lt (by (with_reducible repeat (first | apply Kd.R_alloc | apply Kd.R_drewN | apply Kd.R_drew)); exact HO318.out))) (Kd.R_lt (by (with_reducible repeat (first | apply Kd.R_alloc | apply Kd.R_drewN | apply Kd.R_drew)); exact HO321.out))) (below_size (by repeat (first | (with_reducible first | exact HB.out | apply below_alloc | apply pw_below_drewN | apply below_drew1) | exact HB.out)))); have n6_ := Aside0.mk (Kd.V_lower (Kd.V_mono (ok' := fun k_ => some k_ ≠ (v323 : Value).ownBlock ∧ some k_ ≠ (.slice Ao22 t304.length co22 : Value).ownBlock ∧ some k_ ≠ (.slice Ao26 t310.length co26 : Value).ownBlock ∧ some k_ ≠ (.slice Ao25 t313.length co25 : Value).ownBlock ∧ some k_ ≠ (.slice Ao28 t316.length co28 : Value).ownBlock) ho1 (fun k_ hk_ => ⟨hk_.2, Or.elim hk_.1 (fun hs_ => ((Kd.R_apart' (HO321.out) (Kd.R_typed HO307.out) (by decide)).1 k_ hs_.symm).2) (fun hn_ => (Kd.fresh' (Kd.R_lt (by (with_reducible repeat (first | apply Kd.R_alloc | apply Kd.R_drewN | apply Kd.R_drew)); exact HO307.out)) k_ hn_)), Or.elim hk_.1 (fun hs_ => ((Kd.R_apart' (HO321.out) (Kd.R_typed HO307.out) (by decide)).1 k_ hs_.symm).1.1.1.2) (fun hn_ => (Kd.fresh' (Kd.R_lt (by (with_reducible repeat (first | apply Kd.R_alloc | apply Kd.R_drewN | apply Kd.R_drew)); exact HO312.out)) k_ hn_)), Or.elim hk_.1 (fun hs_ => ((Kd.R_apart' (HO321.out) (Kd.R_typed HO307.out) (by decide)).1 k_ hs_.symm).1.1.2) (fun hn_ => (Kd.fresh' (Kd.R_lt (by (with_reducible repeat (first | apply Kd.R_alloc | apply Kd.R_drewN | apply Kd.R_drew)); exact HO315.out)) k_ hn_)), Or.elim hk_.1 (fun hs_ => ((Kd.R_apart' (HO321.out) (Kd.R_typed HO307.out) (by decide)).1 k_ hs_.symm).1.2) (fun hn_ => (Kd.fresh' (Kd.R_lt (by (with_reducible repeat (first | apply Kd.R_alloc | apply Kd.R_drewN | apply Kd.R_drew)); exact HO318.out)) k_ hn_))⟩)) (below_size (by repeat (first | (with_reducible first | exact HB.out | apply below_alloc | apply pw_below_drewN | apply below_drew1) | exact HB.out)))); have n7_ := Aside0.mk (below_step (by repeat (first | (with_reducible first | exact HB.out | apply below_alloc | apply pw_below_drewN | apply below_drew1) | exact HB.out)) hb); clear HO307; clear HO312; clear HO315; clear HO318; clear HO321; clear HB; have HO307 := n0_; have HO312 := n1_; have HO315 := n2_; have HO318 := n3_; have HO321 := n4_; have HO324 := n5_; have HO327 := n6_; have HB := n7_; clear n0_ n1_ n2_ n3_ n4_ n5_ n6_ n7_; (try clear hb); (try clear hb2); (try clear hk); (try clear hi); (try clear ho0); (try clear ho1); obtain ⟨Ao32, co32, eo32⟩ := Kd.R_slice HO324.out; subst eo32) | ((with_reducible refine gate_callee (f := 30) rfl ?_); refine goesL_ (some 66) rfl rfl Try.func30 (by kernel_rfl) rfl #[.slice Ao32 t322.length co32, .slice Ao26 t310.length co26] rfl (by (try simp only [List.map_toArray, List.map_cons, List.map_nil]); first | done | rfl | (simp only [List.length_drop, List.length_take]; rfl)) ?_; (with_reducible refine (gf_Poly_Mul.calls k _ _ t322 _ _ t310 t328 _ ?side1 ?side2 ?side3 ?side4 A17.out).mono ?_); (case side1 => repeat (first | exact (Kd.R_reads' HO324.out).2.2 | (with_reducible refine Kd.C_alloc ?_ _) | (with_reducible refine Kd.C_drewN ?_ _) | (with_reducible refine Kd.C_drew ?_))); (case side2 => exact (Kd.R_reads' HO324.out).2.1); (case side3 => repeat (first | exact (Kd.R_reads' HO312.out).2.2 | (with_reducible refine Kd.C_alloc ?_ _) | (with_reducible refine Kd.C_drewN ?_ _) | (with_reducible refine Kd.C_drew ?_))); (case side4 => exact (Kd.R_reads' HO312.out).2.1); rintro e w33 ⟨v329, rfl, ho0, hb⟩; refine ⟨_, rfl, ?_⟩; have n0_ := Aside0.mk (Kd.R_below (by (with_reducible repeat (first | apply Kd.R_alloc | apply Kd.R_drewN | apply Kd.R_drew)); exact HO307.out) hb); have n1_ := Aside0.mk (Kd.R_elder' (by (with_reducible repeat (first | apply Kd.R_alloc | apply Kd.R_drewN | apply Kd.R_drew)); exact HO312.out) (Kd.R_base ho0) hb); have n2_ := Aside0.mk (Kd.R_elder' (by (with_reducible repeat (first | apply Kd.R_alloc | apply Kd.R_drewN | apply Kd.R_drew)); exact HO315.out) (Kd.R_base ho0) hb); have n3_ := Aside0.mk (Kd.R_elder' (by (with_reducible repeat (first | apply Kd.R_alloc | apply Kd.R_drewN | apply Kd.R_drew)); exact HO318.out) (Kd.R_base ho0) hb); have n4_ := Aside0.mk (Kd.R_elder' (by (with_reducible repeat (first | apply Kd.R_alloc | apply Kd.R_drewN | apply Kd.R_drew)); exact HO321.out) (Kd.R_base ho0) hb); have n5_ := Aside0.mk (Kd.R_elder' (by (with_reducible repeat (first | apply Kd.R_alloc | apply Kd.R_drewN | apply Kd.R_drew)); exact HO324.out) (Kd.R_base ho0) hb); have n6_ := Aside0.mk (Kd.V_elder' (by (with_reducible repeat (first | apply Kd.V_alloc | apply Kd.V_drewN | apply Kd.V_drew)); exact HO327.out) (Kd.R_base ho0) hb); have n7_ := Aside0.mk (Kd.R_lower (Kd.R_new' (Kd.R_new' (Kd.R_new' (Kd.R_new' (Kd.R_new' ho0 (Kd.R_lt (by (with_reducible repeat (first | apply Kd.R_alloc | apply Kd.R_drewN | apply Kd.R_drew)); exact HO312.out))) (Kd.R_lt (by (with_reducible repeat (first | apply Kd.R_alloc | apply Kd.R_drewN | apply Kd.R_drew)); exact HO315.out))) (Kd.R_lt (by (with_reducible repeat (first | apply Kd.R_alloc | apply Kd.R_drewN | apply Kd.R_drew)); exact HO318.out))) (Kd.R_lt (by (with_reducible repeat (first | apply Kd.R_alloc | apply Kd.R_drewN | apply Kd.R_drew)); exact HO321.out))) (Kd.R_lt (by (with_reducible repeat (first | apply Kd.R_alloc | apply Kd.R_drewN | apply Kd.R_drew)); exact HO324.out))) (below_size (by repeat (first | (with_reducible first | exact HB.out | apply below_alloc | apply pw_below_drewN | apply below_drew1) | exact HB.out)))); have n8_ := Aside0.mk (below_step (by repeat (first | (with_reducible first | exact HB.out | apply below_alloc | apply pw_below_drewN | apply below_drew1) | exact HB.out)) hb); clear HO307; clear HO312; clear HO315; clear HO318; clear HO321; clear HO324; clear HO327; clear HB; have HO307 := n0_; have HO312 := n1_; have HO315 := n2_; have HO318 := n3_; have HO321 := n4_; have HO324 := n5_; have HO327 := n6_; have HO330 := n7_; have HB := n8_; clear n0_ n1_ n2_ n3_ n4_ n5_ n6_ n7_ n8_; (try clear hb); (try clear hb2); (try clear hk); (try clear hi); (try clear ho0); obtain ⟨Ao34, co34, eo34⟩ := Kd.R_slice HO330.out; subst eo34) | ((with_reducible refine gate_callee (f := 33) rfl ?_); refine goesL_ (some 70) rfl rfl Try.func33 (by kernel_rfl) rfl #[.slice Ao34 t328.length co34, .int .i64 (a0.size : Int)] rfl (by (try simp only [List.map_toArray, List.map_cons, List.map_nil]); first | done | rfl | (simp only [List.length_drop, List.length_take]; rfl)) ?_; (with_reducible refine (rs_roots.calls k _ _ t328 (a0.size : Int) t331 _ ?side1 ?side2 A18.out).mono ?_); (case side1 => repeat (first | exact (Kd.R_reads' HO330.out).2.2 | (with_reducible refine Kd.C_alloc ?_ _) | (with_reducible refine Kd.C_drewN ?_ _) | (with_reducible refine Kd.C_drew ?_))); (case side2 => exact (Kd.R_reads' HO330.out).2.1); rintro e w35 ⟨v332, rfl, ho0, hb⟩; refine ⟨_, rfl, ?_⟩; have n0_ := Aside0.mk (Kd.R_elder' (by (with_reducible repeat (first | apply Kd.R_alloc | apply Kd.R_drewN | apply Kd.R_drew)); exact HO307.out) (Kd.R_base ho0) hb); have n1_ := Aside0.mk (Kd.R_below (by (with_reducible repeat (first | apply Kd.R_alloc | apply Kd.R_drewN | apply Kd.R_drew)); exact HO312.out) hb); have n2_ := Aside0.mk (Kd.R_below (by (with_reducible repeat (first | apply Kd.R_alloc | apply Kd.R_drewN | apply Kd.R_drew)); exact HO315.out) hb); have n3_ := Aside0.mk (Kd.R_below (by (with_reducible repeat (first | apply Kd.R_alloc | apply Kd.R_drewN | apply Kd.R_drew)); exact HO318.out) hb); have n4_ := Aside0.mk (Kd.R_below (by (with_reducible repeat (first | apply Kd.R_alloc | apply Kd.R_drewN | apply Kd.R_drew)); exact HO321.out) hb); have n5_ := Aside0.mk (Kd.R_below (by (with_reducible repeat (first | apply Kd.R_alloc | apply Kd.R_drewN | apply Kd.R_drew)); exact HO324.out) hb); have n6_ := Aside0.mk (Kd.V_elder' (by (with_reducible repeat (first | apply Kd.V_alloc | apply Kd.V_drewN | apply Kd.V_drew)); exact HO327.out) (Kd.R_base ho0) hb); have n7_ := Aside0.mk (Kd.R_below (by (with_reducible repeat (first | apply Kd.R_alloc | apply Kd.R_drewN | apply Kd.R_drew)); exact HO330.out) hb); have n8_ := Aside0.mk (Kd.R_lower (Kd.R_new' ho0 (Kd.R_lt (by (with_reducible repeat (first | apply Kd.R_alloc | apply Kd.R_drewN | apply Kd.R_drew)); exact HO307.out))) (below_size (by repeat (first | (with_reducible first | exact HB.out | apply below_alloc | apply pw_below_drewN | apply below_drew1) | exact HB.out)))); have n9_ := Aside0.mk (below_step (by repeat (first | (with_reducible first | exact HB.out | apply below_alloc | apply pw_below_drewN | apply below_drew1) | exact HB.out)) hb); clear HO307; clear HO312; clear HO315; clear HO318; clear HO321; clear HO324; clear HO327; clear HO330; clear HB; have HO307 := n0_; have HO312 := n1_; have HO315 := n2_; have HO318 := n3_; have HO321 := n4_; have HO324 := n5_; have HO327 := n6_; have HO330 := n7_; have HO333 := n8_; have HB := n9_; clear n0_ n1_ n2_ n3_ n4_ n5_ n6_ n7_ n8_ n9_; (try clear hb); (try clear hb2); (try clear hk); (try clear hi); (try clear ho0)))
        (try simp only [Act.put, List.setIfInBounds_toArray, List.set_cons_zero, List.set_cons_succ])
        go_cut [90] (fun v90 wc => ∃ (kq : Nat) (x90_18 : Bool), v90 = .bool x90_18 ∧ Aside0 (rs_Decode.j0 kq a0 a1 t325 t328 t331 x90_18 = some (r1, r2, r3)) ∧ Aside0 (kq ≤ k) ∧ Aside0 (Kd.V (Kd.int .u8) 5 wc w.heap.size (fun k_ => some k_ ≠ ((.slice Ao34 t328.length co34) : Value).ownBlock ∧ some k_ ≠ (v332 : Value).ownBlock) v326 t325) ∧ Aside0 (Kd.R (Kd.int .u8) 5 wc w.heap.size (fun _ => True) (.slice Ao34 t328.length co34) t328) ∧ Aside0 (Kd.R (Kd.int .i64) 3 wc w.heap.size (fun _ => True) v332 t331) ∧ Aside0 (Below w.heap.size w wc))
        case first =>
          have H := HC19.out
          clear HC19
          by_cases c36 : (t331.length : Int) = 0
          · rw [if_pos c36] at H
            have c36b0 : ((t331.length : Int) == 0) = true := beq_iff_eq.mpr c36
            have c36b1 : ((t331.length : Int) != 0) = false := bne_eq_false_iff_eq.mpr c36
            clear c36
            (first | rw [c36b0] | (simp only [i64_w, i32_w]; rw [c36b0]) | skip)
            have H' := Aside0.mk H
            clear H
            obtain ⟨Ao37, co37, eo37⟩ := Kd.R_slice HO333.out
            subst eo37
            go_wp2
            go_meet
            case rel => exact ⟨_, (true), (by first | rfl | (simp; done) | (simp [*]; done)), H', ⟨by first | omega | exact Nat.le_refl _⟩, ⟨by (with_reducible repeat (first | apply Kd.V_alloc | apply Kd.V_drewN | apply Kd.V_drew)); exact Kd.V_mono HO327.out (fun _ hk => ⟨hk.1.2, hk.2⟩)⟩, ⟨by (with_reducible repeat (first | apply Kd.R_alloc | apply Kd.R_drewN | apply Kd.R_drew)); exact Kd.R_mono HO330.out (fun _ hk => trivial)⟩, ⟨by (with_reducible repeat (first | apply Kd.R_alloc | apply Kd.R_drewN | apply Kd.R_drew)); exact Kd.R_mono HO333.out (fun _ hk => trivial)⟩, ⟨by repeat (first | (with_reducible first | exact HB.out | apply below_alloc | apply pw_below_drewN | apply below_drew1) | exact HB.out)⟩⟩
          · rw [if_neg c36] at H
            have c36b0 : ((t331.length : Int) == 0) = false := beq_eq_false_iff_ne.mpr c36
            have c36b1 : ((t331.length : Int) != 0) = true := bne_iff_ne.mpr c36
            have c36b2 : ¬ (t331 = []) := fun h_ => c36 (by rw [h_]; rfl)
            (first | rw [c36b0] | (simp only [i64_w, i32_w]; rw [c36b0]) | skip)
            replace H := Option.bind_eq_some_iff.mp H
            obtain ⟨t334, A380, H⟩ := H
            replace H : (if (t331.length : Int) = t334 then ((gf_Poly_Degree.f k t322).bind fun t335 => (rs_Decode.j0 k a0 a1 t325 t328 t331 (decide ((wrap64 ((wrap64 (2 * t335)) + (t304.length : Int))) > a1)))) else (rs_Decode.j0 k a0 a1 t325 t328 t331 true)) = some (r1, r2, r3) := H
            have A38 := Aside0.mk A380
            clear A380
            by_cases c39 : (t331.length : Int) = t334
            · rw [if_pos c39] at H
              have c39b0 : ((t331.length : Int) == t334) = true := beq_iff_eq.mpr c39
              have c39b1 : ((t331.length : Int) != t334) = false := bne_eq_false_iff_eq.mpr c39
              clear c39
              replace H := Option.bind_eq_some_iff.mp H
              obtain ⟨t335, A400, H⟩ := H
              replace H : (rs_Decode.j0 k a0 a1 t325 t328 t331 (decide ((wrap64 ((wrap64 (2 * t335)) + (t304.length : Int))) > a1))) = some (r1, r2, r3) := H
              have A40 := Aside0.mk A400
              clear A400
              have H' := Aside0.mk H
              clear H
              obtain ⟨Ao41, co41, eo41⟩ := Kd.R_slice HO333.out
              subst eo41
              go_wp2_with (first | (go_at_call 34; (with_reducible refine (gf_Poly_Degree.calls k _ _ t328 t334 _ ?side1 ?side2 A38.out).mono ?_); (case side1 => repeat (first | exact (Kd.R_reads' HO330.out).2.2 | (with_reducible refine Kd.C_alloc ?_ _) | (with_reducible refine Kd.C_drewN ?_ _) | (with_reducible refine Kd.C_drew ?_))); (case side2 => exact (Kd.R_reads' HO330.out).2.1); rintro e w' ⟨rfl, ⟨nd, rfl⟩⟩) | (go_at_call 34; (with_reducible refine (gf_Poly_Degree.calls k _ _ t322 t335 _ ?side1 ?side2 A40.out).mono ?_); (case side1 => repeat (first | exact (Kd.R_reads' HO324.out).2.2 | (with_reducible refine Kd.C_alloc ?_ _) | (with_reducible refine Kd.C_drewN ?_ _) | (with_reducible refine Kd.C_drew ?_))); (case side2 => exact (Kd.R_reads' HO324.out).2.1); rintro e w' ⟨rfl, ⟨nd, rfl⟩⟩))
              go_meet
              case rel => exact ⟨_, (decide ((wrap64 ((wrap64 (2 * t335)) + (t304.length : Int))) > a1)), (by first | rfl | (simp; done) | (simp [*]; done)), H', ⟨by first | omega | exact Nat.le_refl _⟩, ⟨by (with_reducible repeat (first | apply Kd.V_alloc | apply Kd.V_drewN | apply Kd.V_drew)); exact Kd.V_mono HO327.out (fun _ hk => ⟨hk.1.2, hk.2⟩)⟩, ⟨by (with_reducible repeat (first | apply Kd.R_alloc | apply Kd.R_drewN | apply Kd.R_drew)); exact Kd.R_mono HO330.out (fun _ hk => trivial)⟩, ⟨by (with_reducible repeat (first | apply Kd.R_alloc | apply Kd.R_drewN | apply Kd.R_drew)); exact Kd.R_mono HO333.out (fun _ hk => trivial)⟩, ⟨by repeat (first | (with_reducible first | exact HB.out | apply below_alloc | apply pw_below_drewN | apply below_drew1) | exact HB.out)⟩⟩
            · rw [if_neg c39] at H
              have c39b0 : ((t331.length : Int) == t334) = false := beq_eq_false_iff_ne.mpr c39
              have c39b1 : ((t331.length : Int) != t334) = true := bne_iff_ne.mpr c39
              have H' := Aside0.mk H
              clear H
              obtain ⟨Ao42, co42, eo42⟩ := Kd.R_slice HO333.out
              subst eo42
              go_wp2_with (first | (go_at_call 34; (with_reducible refine (gf_Poly_Degree.calls k _ _ t328 t334 _ ?side1 ?side2 A38.out).mono ?_); (case side1 => repeat (first | exact (Kd.R_reads' HO330.out).2.2 | (with_reducible refine Kd.C_alloc ?_ _) | (with_reducible refine Kd.C_drewN ?_ _) | (with_reducible refine Kd.C_drew ?_))); (case side2 => exact (Kd.R_reads' HO330.out).2.1); rintro e w' ⟨rfl, ⟨nd, rfl⟩⟩))
              go_meet
              case rel => exact ⟨_, (true), (by first | rfl | (simp; done) | (simp [*]; done)), H', ⟨by first | omega | exact Nat.le_refl _⟩, ⟨by (with_reducible repeat (first | apply Kd.V_alloc | apply Kd.V_drewN | apply Kd.V_drew)); exact Kd.V_mono HO327.out (fun _ hk => ⟨hk.1.2, hk.2⟩)⟩, ⟨by (with_reducible repeat (first | apply Kd.R_alloc | apply Kd.R_drewN | apply Kd.R_drew)); exact Kd.R_mono HO330.out (fun _ hk => trivial)⟩, ⟨by (with_reducible repeat (first | apply Kd.R_alloc | apply Kd.R_drewN | apply Kd.R_drew)); exact Kd.R_mono HO333.out (fun _ hk => trivial)⟩, ⟨by repeat (first | (with_reducible first | exact HB.out | apply below_alloc | apply pw_below_drewN | apply below_drew1) | exact HB.out)⟩⟩
        case rest =>
          clear HC19
          try clear c1
          try clear c2
          try clear p2
          try clear c3
          try clear c6
          try clear p6
          try clear c7
          try clear c9
          try clear c13
          try clear c14
          try clear c15
          try clear c17
          try clear c28
          try clear c29
          try clear c30
          try clear c31
          try clear c32
          try clear c33
          try clear c36
          try clear c36b0
          try clear c36b1
          try clear c36b2
          try clear c39
          try clear c39b0
          try clear c39b1
          obtain ⟨kq, x90_18, rfl, HA, HJ18, HO_14, HO_15, HO_16, HB⟩ := hcut
          cases kq with
          | zero => exact absurd HA.out (by simp [rs_Decode.j0])
          | succ kj18 =>
            have H := HA.out
            clear HA
            simp only [rs_Decode.j0] at H
            by_cases c43 : x90_18 = true
            · subst c43
              have H1 : (some ((⟨#[]⟩ : ByteArray), 0, 280)) = some (r1, r2, r3) := by rw [if_pos rfl] at H; exact H
              clear H
              have H := H1
              clear H1
              simp only [Option.some.injEq, Prod.mk.injEq] at H
              obtain ⟨rfl, rfl, rfl⟩ := H
              go_wp2
              go_ret3
              exact ⟨by first | rfl | (simp [errW_none, errW_some] <;> rfl) | (simp [*, errW_none, errW_some] <;> rfl), by repeat (first | (with_reducible first | exact HB.out | apply below_alloc | apply pw_below_drewN | apply below_drew1) | exact HB.out)⟩
            · replace c43 := Bool.eq_false_iff.mpr c43
              subst c43
              have H1 : (if a0.size ≤ 9223372036854775807 then ((gf_Poly_Slope.f kj18 t328).bind fun t339 => (rs_Decode.l0 kj18 a1 t325 (bytesOf a0) 0 t339 t331 (t331.length : Int) 0)) else (none)) = some (r1, r2, r3) := by rw [if_neg (show ¬ (false = true) by decide)] at H; exact H
              clear H
              have H := H1
              clear H1
              by_cases c44 : a0.size ≤ 9223372036854775807
              · rw [if_pos c44] at H
                have c44b0 := eq_true c44
                have c44b1 : decide (a0.size ≤ 9223372036854775807) = true := decide_eq_true c44
                try have c44b2 : (9223372036854775807 < a0.size) = False := eq_false (Nat.not_lt.2 c44)
                clear c44
                obtain ⟨y336, hy336⟩ : ∃ y_ : List Int, y_ = (bytesOf a0) := ⟨_, rfl⟩
                replace H : ((gf_Poly_Slope.f kj18 t328).bind fun t339 => (rs_Decode.l0 kj18 a1 t325 y336 0 t339 t331 (t331.length : Int) 0)) = some (r1, r2, r3) := by first | (rw [hy336]; with_reducible exact H) | (have H2_ := (Option.bind_some _ _).symm.trans H; rw [hy336]; with_reducible exact H2_) | (have H2_ := (Option.bind_some _ _).symm.trans H; with_reducible exact H2_) | with_reducible exact H | (rw [hy336]; exact H) | exact H
                have Ny336 := Aside0.mk hy336
                clear hy336
                replace H := Option.bind_eq_some_iff.mp H
                obtain ⟨t339, A450, H⟩ := H
                replace H : (rs_Decode.l0 kj18 a1 t325 y336 0 t339 t331 (t331.length : Int) 0) = some (r1, r2, r3) := H
                have A45 := Aside0.mk A450
                clear A450
                have H' := Aside0.mk H
                clear H
                go_wp2_with (first | ((with_reducible refine gate_dst (N := 92) rfl ?_); refine Kd.Q_bytes 5 rfl (N := 92) rfl 9 28 _ rfl a0 rfl Try.underlying9 Try.underlying28 Try.underlying5 (ok := fun _ => True) trivial (of_decide_eq_true (by first | (with_reducible assumption) | assumption)) (Below.refl _ _) (Nat.le_refl _) ?_; intro v337 w46 ho47 hb hg_ hnew_; clear hg_ hnew_; (first | rw [← Ny336.out] at ho47 | (simp only [Int.reduceToNat] at ho47; rw [← Ny336.out] at ho47)); have n0_ := Aside0.mk (Kd.V_elder' (by (with_reducible repeat (first | apply Kd.V_alloc | apply Kd.V_drewN | apply Kd.V_drew)); exact HO_14.out) (Kd.Q_base ho47) hb); have n1_ := Aside0.mk (Kd.R_elder' (by (with_reducible repeat (first | apply Kd.R_alloc | apply Kd.R_drewN | apply Kd.R_drew)); exact HO_15.out) (Kd.Q_base ho47) hb); have n2_ := Aside0.mk (Kd.R_below (by (with_reducible repeat (first | apply Kd.R_alloc | apply Kd.R_drewN | apply Kd.R_drew)); exact HO_16.out) hb); have n3_ := Aside0.mk (Kd.Q_lower (Kd.Q_new' ho47 (Kd.R_lt (by (with_reducible repeat (first | apply Kd.R_alloc | apply Kd.R_drewN | apply Kd.R_drew)); exact HO_15.out))) (below_size (by repeat (first | (with_reducible first | exact HB.out | apply below_alloc | apply pw_below_drewN | apply below_drew1) | exact HB.out)))); have n4_ := Aside0.mk (below_step (by repeat (first | (with_reducible first | exact HB.out | apply below_alloc | apply pw_below_drewN | apply below_drew1) | exact HB.out)) hb); clear HO_14; clear HO_15; clear HO_16; clear HB; have HO_14 := n0_; have HO_15 := n1_; have HO_16 := n2_; have HO338 := n3_; have HB := n4_; clear n0_ n1_ n2_ n3_ n4_; clear hb ho47) | ((with_reducible refine gate_callee (f := 35) rfl ?_); refine goesL_ (some 94) rfl rfl Try.func35 (by kernel_rfl) rfl #[.slice Ao34 t328.length co34] rfl (by (try simp only [List.map_toArray, List.map_cons, List.map_nil]); first | done | rfl | (simp only [List.length_drop, List.length_take]; rfl)) ?_; (with_reducible refine (gf_Poly_Slope.calls kj18 _ _ t328 t339 _ ?side1 ?side2 A45.out).mono ?_); (case side1 => repeat (first | exact (Kd.R_reads' HO_15.out).2.2 | (with_reducible refine Kd.C_alloc ?_ _) | (with_reducible refine Kd.C_drewN ?_ _) | (with_reducible refine Kd.C_drew ?_))); (case side2 => exact (Kd.R_reads' HO_15.out).2.1); rintro e w48 ⟨v340, rfl, ho0, hb⟩; refine ⟨_, rfl, ?_⟩; have n0_ := Aside0.mk (Kd.V_elder' (by (with_reducible repeat (first | apply Kd.V_alloc | apply Kd.V_drewN | apply Kd.V_drew)); exact HO_14.out) (Kd.R_base ho0) hb); have n1_ := Aside0.mk (Kd.R_elder' (by (with_reducible repeat (first | apply Kd.R_alloc | apply Kd.R_drewN | apply Kd.R_drew)); exact HO_15.out) (Kd.R_base ho0) hb); have n2_ := Aside0.mk (Kd.R_below (by (with_reducible repeat (first | apply Kd.R_alloc | apply Kd.R_drewN | apply Kd.R_drew)); exact HO_16.out) hb); have n3_ := Aside0.mk (Kd.Q_elder' (by (with_reducible repeat (first | apply Kd.Q_alloc | apply Kd.Q_drewN | apply Kd.Q_drew)); exact HO338.out) (Kd.R_base ho0) hb); have n4_ := Aside0.mk (Kd.R_lower (Kd.R_new' (Kd.R_new' ho0 (Kd.R_lt (by (with_reducible repeat (first | apply Kd.R_alloc | apply Kd.R_drewN | apply Kd.R_drew)); exact HO_15.out))) (Kd.Q_lt (by (with_reducible repeat (first | apply Kd.Q_alloc | apply Kd.Q_drewN | apply Kd.Q_drew)); exact HO338.out))) (below_size (by repeat (first | (with_reducible first | exact HB.out | apply below_alloc | apply pw_below_drewN | apply below_drew1) | exact HB.out)))); have n5_ := Aside0.mk (below_step (by repeat (first | (with_reducible first | exact HB.out | apply below_alloc | apply pw_below_drewN | apply below_drew1) | exact HB.out)) hb); clear HO_14; clear HO_15; clear HO_16; clear HO338; clear HB; have HO_14 := n0_; have HO_15 := n1_; have HO_16 := n2_; have HO338 := n3_; have HO341 := n4_; have HB := n5_; clear n0_ n1_ n2_ n3_ n4_ n5_; (try clear hb); (try clear hb2); (try clear hk); (try clear hi); (try clear ho0); obtain ⟨Ao49, co49, eo49⟩ := Kd.R_slice HO_16.out; subst eo49))
                go_loopg [18, 97] kj18 (fun kq v18 v97 w' => ∃ (x17_2 : List Int) (x18_2 : Int) (x97_2 : Int), v18 = .int .i64 x18_2 ∧ v97 = .int .i64 x97_2 ∧ Aside0 (rs_Decode.l0 kq a1 t325 x17_2 x18_2 t339 t331 (t331.length : Int) x97_2 = some (r1, r2, r3)) ∧ Aside0 (kq ≤ kj18) ∧ Aside0 (Kd.V (Kd.int .u8) 5 w' w.heap.size (fun k_ => some k_ ≠ (v337 : Value).ownBlock ∧ some k_ ≠ (v340 : Value).ownBlock ∧ some k_ ≠ ((.slice Ao49 t331.length co49) : Value).ownBlock) v326 t325) ∧ Aside0 (Kd.Q (Kd.int .u8) 5 w' w.heap.size (fun k_ => some k_ ≠ (v340 : Value).ownBlock) v337 x17_2) ∧ Aside0 (Kd.R (Kd.int .u8) 5 w' w.heap.size (fun k_ => some k_ ≠ (v337 : Value).ownBlock) v340 t339) ∧ Aside0 (Kd.R (Kd.int .i64) 3 w' w.heap.size (fun _ => True) (.slice Ao49 t331.length co49) t331) ∧ Aside0 (Below w.heap.size w w'))
                case atStart => exact ⟨(y336), (0), (0), (by first | rfl | (simp; done) | (simp [*]; done)), (by first | rfl | (simp; done) | (simp [*]; done)), H', ⟨Nat.le_refl _⟩, ⟨by (with_reducible repeat (first | apply Kd.V_alloc | apply Kd.V_drewN | apply Kd.V_drew)); exact Kd.V_mono HO_14.out (fun _ hk => ⟨hk.1.2, ⟨hk.2, hk.1.1.2⟩⟩)⟩, ⟨by (with_reducible repeat (first | apply Kd.Q_alloc | apply Kd.Q_drewN | apply Kd.Q_drew)); exact Kd.Q_mono HO338.out (fun _ hk => hk.2)⟩, ⟨by (with_reducible repeat (first | apply Kd.R_alloc | apply Kd.R_drewN | apply Kd.R_drew)); exact Kd.R_mono HO341.out (fun _ hk => hk.2)⟩, ⟨by (with_reducible repeat (first | apply Kd.R_alloc | apply Kd.R_drewN | apply Kd.R_drew)); exact HO_16.out⟩, ⟨by repeat (first | (with_reducible first | exact HB.out | apply below_alloc | apply pw_below_drewN | apply below_drew1) | exact HB.out)⟩⟩
                case round =>
                  clear H'
                  try clear c1
                  try clear c2
                  try clear p2
                  try clear c3
                  try clear c4
                  try clear c6
                  try clear p6
                  try clear c7
                  try clear c9
                  try clear c13
                  try clear c14
                  try clear c15
                  try clear c17
                  try clear c28
                  try clear c29
                  try clear c30
                  try clear c31
                  try clear c32
                  try clear c33
                  try clear c35
                  try clear c36
                  try clear c36b0
                  try clear c36b1
                  try clear c36b2
                  try clear c39
                  try clear c39b0
                  try clear c39b1
                  try clear c43
                  try clear c44
                  try clear c44b0
                  try clear c44b1
                  try clear c44b2
                  try clear p2
                  try clear p6
                  obtain ⟨x17_2, x18_2, x97_2, rfl, rfl, HA, HK2, HO_14, HO_17, HO_19, HO_95, HB⟩ := hrel
                  cases gk with
                  | zero => exact absurd HA.out (by simp [rs_Decode.l0])
                  | succ k2 =>
                    have H := HA.out
                    clear HA
                    simp only [rs_Decode.l0] at H
                    by_cases c50 : x97_2 < (t331.length : Int)
                    · rw [if_pos c50] at H
                      have c50b0 : decide (x97_2 < (t331.length : Int)) = true := decide_eq_true c50
                      clear c50
                      by_cases c51 : 0 ≤ x97_2
                      · rw [if_pos c51] at H
                        have c51b0 : decide (0 ≤ x97_2) = true := decide_eq_true c51
                        clear c51
                        by_cases c52 : x97_2 < (t331.length : Int)
                        · rw [if_pos c52] at H
                          have c52b0 : decide (x97_2 < (t331.length : Int)) = true := decide_eq_true c52
                          clear c52
                          replace H := Option.bind_eq_some_iff.mp H
                          obtain ⟨t344, A530, H⟩ := H
                          replace H : ((gf_Poly_At.f k2 t339 t344).bind fun t345 => (if t345 = 0 then (some ((⟨#[]⟩ : ByteArray), 0, 280)) else ((gf_Root.f k2 (rd t331 x97_2)).bind fun t346 => ((gf_Poly_At.f k2 t325 t344).bind fun t347 => ((gf_Inv.f k2 t345).bind fun t348 => ((gf_Mul.f k2 t347 t348).bind fun t349 => ((gf_Mul.f k2 t346 t349).bind fun t350 => (if t350 = 0 then (if 0 ≤ (wrap64 ((wrap64 ((x17_2.length : Int) - 1)) - (rd t331 x97_2))) then (if (wrap64 ((wrap64 ((x17_2.length : Int) - 1)) - (rd t331 x97_2))) < (x17_2.length : Int) then (rs_Decode.l0 k2 a1 t325 (x17_2.set ((wrap64 ((wrap64 ((x17_2.length : Int) - 1)) - (rd t331 x97_2))) : Int).toNat (Go.bits .xor .u8 (rd x17_2 (wrap64 ((wrap64 ((x17_2.length : Int) - 1)) - (rd t331 x97_2)))) t350)) x18_2 t339 t331 (t331.length : Int) (wrap64 (x97_2 + 1))) else (none)) else (none)) else (if 0 ≤ (wrap64 ((wrap64 ((x17_2.length : Int) - 1)) - (rd t331 x97_2))) then (if (wrap64 ((wrap64 ((x17_2.length : Int) - 1)) - (rd t331 x97_2))) < (x17_2.length : Int) then (rs_Decode.l0 k2 a1 t325 (x17_2.set ((wrap64 ((wrap64 ((x17_2.length : Int) - 1)) - (rd t331 x97_2))) : Int).toNat (Go.bits .xor .u8 (rd x17_2 (wrap64 ((wrap64 ((x17_2.length : Int) - 1)) - (rd t331 x97_2)))) t350)) (wrap64 (x18_2 + 1)) t339 t331 (t331.length : Int) (wrap64 (x97_2 + 1))) else (none)) else (none)))))))))) = some (r1, r2, r3) := H
                          have A53 := Aside0.mk A530
                          clear A530
                          replace H := Option.bind_eq_some_iff.mp H
                          obtain ⟨t345, A540, H⟩ := H
                          replace H : (if t345 = 0 then (some ((⟨#[]⟩ : ByteArray), 0, 280)) else ((gf_Root.f k2 (rd t331 x97_2)).bind fun t346 => ((gf_Poly_At.f k2 t325 t344).bind fun t347 => ((gf_Inv.f k2 t345).bind fun t348 => ((gf_Mul.f k2 t347 t348).bind fun t349 => ((gf_Mul.f k2 t346 t349).bind fun t350 => (if t350 = 0 then (if 0 ≤ (wrap64 ((wrap64 ((x17_2.length : Int) - 1)) - (rd t331 x97_2))) then (if (wrap64 ((wrap64 ((x17_2.length : Int) - 1)) - (rd t331 x97_2))) < (x17_2.length : Int) then (rs_Decode.l0 k2 a1 t325 (x17_2.set ((wrap64 ((wrap64 ((x17_2.length : Int) - 1)) - (rd t331 x97_2))) : Int).toNat (Go.bits .xor .u8 (rd x17_2 (wrap64 ((wrap64 ((x17_2.length : Int) - 1)) - (rd t331 x97_2)))) t350)) x18_2 t339 t331 (t331.length : Int) (wrap64 (x97_2 + 1))) else (none)) else (none)) else (if 0 ≤ (wrap64 ((wrap64 ((x17_2.length : Int) - 1)) - (rd t331 x97_2))) then (if (wrap64 ((wrap64 ((x17_2.length : Int) - 1)) - (rd t331 x97_2))) < (x17_2.length : Int) then (rs_Decode.l0 k2 a1 t325 (x17_2.set ((wrap64 ((wrap64 ((x17_2.length : Int) - 1)) - (rd t331 x97_2))) : Int).toNat (Go.bits .xor .u8 (rd x17_2 (wrap64 ((wrap64 ((x17_2.length : Int) - 1)) - (rd t331 x97_2)))) t350)) (wrap64 (x18_2 + 1)) t339 t331 (t331.length : Int) (wrap64 (x97_2 + 1))) else (none)) else (none))))))))) = some (r1, r2, r3) := H
                          have A54 := Aside0.mk A540
                          clear A540
                          by_cases c55 : t345 = 0
                          · rw [if_pos c55] at H
                            have c55b0 : (t345 == 0) = true := beq_iff_eq.mpr c55
                            have c55b1 : (t345 != 0) = false := bne_eq_false_iff_eq.mpr c55
                            clear c55
                            simp only [Option.some.injEq, Prod.mk.injEq] at H
                            obtain ⟨rfl, rfl, rfl⟩ := H
                            have p343 : 0 ≤ (x97_2 : Int) := of_decide_eq_true (by first | (with_reducible assumption) | assumption)
                            have q343 : x97_2 < (t331.length : Int) := of_decide_eq_true (by first | (with_reducible assumption) | assumption)
                            obtain ⟨ad343, e343, hx343_0⟩ := Kd.at_int (Kd.R_reads' HO_95.out).2.2 x97_2 p343 q343
                            cases e343
                            replace p343 := eq_true p343
                            replace q343 := eq_true q343
                            go_wp2_with (first | ((with_reducible refine gate_callee (f := 25) rfl ?_); refine goesL_ (some 103) rfl rfl Try.func25 (by kernel_rfl) rfl #[.int .i64 (wrap64 (-(rd t331 x97_2)))] rfl (by (try simp only [List.map_toArray, List.map_cons, List.map_nil]); first | done | rfl | (simp only [List.length_drop, List.length_take]; rfl)) ?_; (with_reducible refine (gf_Root.calls k2 (wrap64 (-(rd t331 x97_2))) t344 _ A53.out).mono ?_); rintro e w' ⟨rfl, ⟨nd, rfl⟩⟩; refine ⟨_, rfl, ?_⟩; obtain ⟨Ao56, co56, eo56⟩ := Kd.R_slice HO_19.out; subst eo56) | ((with_reducible refine gate_callee (f := 24) rfl ?_); refine goesL_ (some 106) rfl rfl Try.func24 (by kernel_rfl) rfl #[.slice Ao56 t339.length co56, .int .u8 t344] rfl (by (try simp only [List.map_toArray, List.map_cons, List.map_nil]); first | done | rfl | (simp only [List.length_drop, List.length_take]; rfl)) ?_; (with_reducible refine (gf_Poly_At.calls k2 _ _ t339 t344 t345 _ ?side1 ?side2 A54.out).mono ?_); (case side1 => repeat (first | exact (Kd.R_reads' HO_19.out).2.2 | (with_reducible refine Kd.C_alloc ?_ _) | (with_reducible refine Kd.C_drewN ?_ _) | (with_reducible refine Kd.C_drew ?_))); (case side2 => exact (Kd.R_reads' HO_19.out).2.1); rintro e w' ⟨rfl, ⟨nd, rfl⟩⟩; refine ⟨_, rfl, ?_⟩))
                            go_ret3
                            exact ⟨by first | rfl | (simp [errW_none, errW_some] <;> rfl) | (simp [*, errW_none, errW_some] <;> rfl), by repeat (first | (with_reducible first | exact HB.out | apply below_alloc | apply pw_below_drewN | apply below_drew1) | exact HB.out)⟩
                          · rw [if_neg c55] at H
                            have c55b0 : (t345 == 0) = false := beq_eq_false_iff_ne.mpr c55
                            have c55b1 : (t345 != 0) = true := bne_iff_ne.mpr c55
                            replace H := Option.bind_eq_some_iff.mp H
                            obtain ⟨t346, A570, H⟩ := H
                            replace H : ((gf_Poly_At.f k2 t325 t344).bind fun t347 => ((gf_Inv.f k2 t345).bind fun t348 => ((gf_Mul.f k2 t347 t348).bind fun t349 => ((gf_Mul.f k2 t346 t349).bind fun t350 => (if t350 = 0 then (if 0 ≤ (wrap64 ((wrap64 ((x17_2.length : Int) - 1)) - (rd t331 x97_2))) then (if (wrap64 ((wrap64 ((x17_2.length : Int) - 1)) - (rd t331 x97_2))) < (x17_2.length : Int) then (rs_Decode.l0 k2 a1 t325 (x17_2.set ((wrap64 ((wrap64 ((x17_2.length : Int) - 1)) - (rd t331 x97_2))) : Int).toNat (Go.bits .xor .u8 (rd x17_2 (wrap64 ((wrap64 ((x17_2.length : Int) - 1)) - (rd t331 x97_2)))) t350)) x18_2 t339 t331 (t331.length : Int) (wrap64 (x97_2 + 1))) else (none)) else (none)) else (if 0 ≤ (wrap64 ((wrap64 ((x17_2.length : Int) - 1)) - (rd t331 x97_2))) then (if (wrap64 ((wrap64 ((x17_2.length : Int) - 1)) - (rd t331 x97_2))) < (x17_2.length : Int) then (rs_Decode.l0 k2 a1 t325 (x17_2.set ((wrap64 ((wrap64 ((x17_2.length : Int) - 1)) - (rd t331 x97_2))) : Int).toNat (Go.bits .xor .u8 (rd x17_2 (wrap64 ((wrap64 ((x17_2.length : Int) - 1)) - (rd t331 x97_2)))) t350)) (wrap64 (x18_2 + 1)) t339 t331 (t331.length : Int) (wrap64 (x97_2 + 1))) else (none)) else (none))))))) = some (r1, r2, r3) := H
                            have A57 := Aside0.mk A570
                            clear A570
                            replace H := Option.bind_eq_some_iff.mp H
                            obtain ⟨t347, A580, H⟩ := H
                            replace H : ((gf_Inv.f k2 t345).bind fun t348 => ((gf_Mul.f k2 t347 t348).bind fun t349 => ((gf_Mul.f k2 t346 t349).bind fun t350 => (if t350 = 0 then (if 0 ≤ (wrap64 ((wrap64 ((x17_2.length : Int) - 1)) - (rd t331 x97_2))) then (if (wrap64 ((wrap64 ((x17_2.length : Int) - 1)) - (rd t331 x97_2))) < (x17_2.length : Int) then (rs_Decode.l0 k2 a1 t325 (x17_2.set ((wrap64 ((wrap64 ((x17_2.length : Int) - 1)) - (rd t331 x97_2))) : Int).toNat (Go.bits .xor .u8 (rd x17_2 (wrap64 ((wrap64 ((x17_2.length : Int) - 1)) - (rd t331 x97_2)))) t350)) x18_2 t339 t331 (t331.length : Int) (wrap64 (x97_2 + 1))) else (none)) else (none)) else (if 0 ≤ (wrap64 ((wrap64 ((x17_2.length : Int) - 1)) - (rd t331 x97_2))) then (if (wrap64 ((wrap64 ((x17_2.length : Int) - 1)) - (rd t331 x97_2))) < (x17_2.length : Int) then (rs_Decode.l0 k2 a1 t325 (x17_2.set ((wrap64 ((wrap64 ((x17_2.length : Int) - 1)) - (rd t331 x97_2))) : Int).toNat (Go.bits .xor .u8 (rd x17_2 (wrap64 ((wrap64 ((x17_2.length : Int) - 1)) - (rd t331 x97_2)))) t350)) (wrap64 (x18_2 + 1)) t339 t331 (t331.length : Int) (wrap64 (x97_2 + 1))) else (none)) else (none)))))) = some (r1, r2, r3) := H
                            have A58 := Aside0.mk A580
                            clear A580
                            replace H := Option.bind_eq_some_iff.mp H
                            obtain ⟨t348, A590, H⟩ := H
                            replace H : ((gf_Mul.f k2 t347 t348).bind fun t349 => ((gf_Mul.f k2 t346 t349).bind fun t350 => (if t350 = 0 then (if 0 ≤ (wrap64 ((wrap64 ((x17_2.length : Int) - 1)) - (rd t331 x97_2))) then (if (wrap64 ((wrap64 ((x17_2.length : Int) - 1)) - (rd t331 x97_2))) < (x17_2.length : Int) then (rs_Decode.l0 k2 a1 t325 (x17_2.set ((wrap64 ((wrap64 ((x17_2.length : Int) - 1)) - (rd t331 x97_2))) : Int).toNat (Go.bits .xor .u8 (rd x17_2 (wrap64 ((wrap64 ((x17_2.length : Int) - 1)) - (rd t331 x97_2)))) t350)) x18_2 t339 t331 (t331.length : Int) (wrap64 (x97_2 + 1))) else (none)) else (none)) else (if 0 ≤ (wrap64 ((wrap64 ((x17_2.length : Int) - 1)) - (rd t331 x97_2))) then (if (wrap64 ((wrap64 ((x17_2.length : Int) - 1)) - (rd t331 x97_2))) < (x17_2.length : Int) then (rs_Decode.l0 k2 a1 t325 (x17_2.set ((wrap64 ((wrap64 ((x17_2.length : Int) - 1)) - (rd t331 x97_2))) : Int).toNat (Go.bits .xor .u8 (rd x17_2 (wrap64 ((wrap64 ((x17_2.length : Int) - 1)) - (rd t331 x97_2)))) t350)) (wrap64 (x18_2 + 1)) t339 t331 (t331.length : Int) (wrap64 (x97_2 + 1))) else (none)) else (none))))) = some (r1, r2, r3) := H
                            have A59 := Aside0.mk A590
                            clear A590
                            replace H := Option.bind_eq_some_iff.mp H
                            obtain ⟨t349, A600, H⟩ := H
                            replace H : ((gf_Mul.f k2 t346 t349).bind fun t350 => (if t350 = 0 then (if 0 ≤ (wrap64 ((wrap64 ((x17_2.length : Int) - 1)) - (rd t331 x97_2))) then (if (wrap64 ((wrap64 ((x17_2.length : Int) - 1)) - (rd t331 x97_2))) < (x17_2.length : Int) then (rs_Decode.l0 k2 a1 t325 (x17_2.set ((wrap64 ((wrap64 ((x17_2.length : Int) - 1)) - (rd t331 x97_2))) : Int).toNat (Go.bits .xor .u8 (rd x17_2 (wrap64 ((wrap64 ((x17_2.length : Int) - 1)) - (rd t331 x97_2)))) t350)) x18_2 t339 t331 (t331.length : Int) (wrap64 (x97_2 + 1))) else (none)) else (none)) else (if 0 ≤ (wrap64 ((wrap64 ((x17_2.length : Int) - 1)) - (rd t331 x97_2))) then (if (wrap64 ((wrap64 ((x17_2.length : Int) - 1)) - (rd t331 x97_2))) < (x17_2.length : Int) then (rs_Decode.l0 k2 a1 t325 (x17_2.set ((wrap64 ((wrap64 ((x17_2.length : Int) - 1)) - (rd t331 x97_2))) : Int).toNat (Go.bits .xor .u8 (rd x17_2 (wrap64 ((wrap64 ((x17_2.length : Int) - 1)) - (rd t331 x97_2)))) t350)) (wrap64 (x18_2 + 1)) t339 t331 (t331.length : Int) (wrap64 (x97_2 + 1))) else (none)) else (none)))) = some (r1, r2, r3) := H
                            have A60 := Aside0.mk A600
                            clear A600
                            replace H := Option.bind_eq_some_iff.mp H
                            obtain ⟨t350, A610, H⟩ := H
                            replace H : (if t350 = 0 then (if 0 ≤ (wrap64 ((wrap64 ((x17_2.length : Int) - 1)) - (rd t331 x97_2))) then (if (wrap64 ((wrap64 ((x17_2.length : Int) - 1)) - (rd t331 x97_2))) < (x17_2.length : Int) then (rs_Decode.l0 k2 a1 t325 (x17_2.set ((wrap64 ((wrap64 ((x17_2.length : Int) - 1)) - (rd t331 x97_2))) : Int).toNat (Go.bits .xor .u8 (rd x17_2 (wrap64 ((wrap64 ((x17_2.length : Int) - 1)) - (rd t331 x97_2)))) t350)) x18_2 t339 t331 (t331.length : Int) (wrap64 (x97_2 + 1))) else (none)) else (none)) else (if 0 ≤ (wrap64 ((wrap64 ((x17_2.length : Int) - 1)) - (rd t331 x97_2))) then (if (wrap64 ((wrap64 ((x17_2.length : Int) - 1)) - (rd t331 x97_2))) < (x17_2.length : Int) then (rs_Decode.l0 k2 a1 t325 (x17_2.set ((wrap64 ((wrap64 ((x17_2.length : Int) - 1)) - (rd t331 x97_2))) : Int).toNat (Go.bits .xor .u8 (rd x17_2 (wrap64 ((wrap64 ((x17_2.length : Int) - 1)) - (rd t331 x97_2)))) t350)) (wrap64 (x18_2 + 1)) t339 t331 (t331.length : Int) (wrap64 (x97_2 + 1))) else (none)) else (none))) = some (r1, r2, r3) := H
                            have A61 := Aside0.mk A610
                            clear A610
                            by_cases c62 : t350 = 0
                            · rw [if_pos c62] at H
                              have c62b0 : (t350 == 0) = true := beq_iff_eq.mpr c62
                              have c62b1 : (t350 != 0) = false := bne_eq_false_iff_eq.mpr c62
                              clear c62
                              obtain ⟨ji63, hji63⟩ : ∃ j_ : Int, (wrap64 ((wrap64 ((x17_2.length : Int) - 1)) - (rd t331 x97_2))) = j_ := ⟨_, rfl⟩
                              replace H : (if 0 ≤ (ji63) then (if (ji63) < (x17_2.length : Int) then (rs_Decode.l0 k2 a1 t325 (x17_2.set ((ji63) : Int).toNat (Go.bits .xor .u8 (rd x17_2 (ji63)) t350)) x18_2 t339 t331 (t331.length : Int) (wrap64 (x97_2 + 1))) else (none)) else (none)) = some (r1, r2, r3) := by first | (rw [hji63] at H; exact H) | (simp only [hji63] at H ⊢; exact H)
                              (try rw [hji63] at A53)
                              (try rw [hji63] at A54)
                              (try rw [hji63] at A57)
                              (try rw [hji63] at A58)
                              (try rw [hji63] at A59)
                              (try rw [hji63] at A60)
                              (try rw [hji63] at A61)
                              have hji63w : (IntKind.i64.wrap ((wrap64 ((x17_2.length : Int) - 1)) - (rd t331 x97_2))) = ji63 := (i64_w _).trans hji63
                              by_cases c64 : 0 ≤ (ji63)
                              · rw [if_pos c64] at H
                                have c64b0 : decide (0 ≤ (ji63)) = true := decide_eq_true c64
                                clear c64
                                by_cases c65 : (ji63) < (x17_2.length : Int)
                                · rw [if_pos c65] at H
                                  have c65b0 : decide ((ji63) < (x17_2.length : Int)) = true := decide_eq_true c65
                                  clear c65
                                  obtain ⟨y352, hy352⟩ : ∃ y_ : List Int, y_ = (x17_2.set ((ji63) : Int).toNat (Go.bits .xor .u8 (rd x17_2 (ji63)) t350)) := ⟨_, rfl⟩
                                  replace H : (rs_Decode.l0 k2 a1 t325 y352 x18_2 t339 t331 (t331.length : Int) (wrap64 (x97_2 + 1))) = some (r1, r2, r3) := by first | (rw [hy352]; with_reducible exact H) | (have H2_ := (Option.bind_some _ _).symm.trans H; rw [hy352]; with_reducible exact H2_) | (have H2_ := (Option.bind_some _ _).symm.trans H; with_reducible exact H2_) | with_reducible exact H | (rw [hy352]; exact H) | exact H
                                  have Ny352 := Aside0.mk hy352
                                  clear hy352
                                  have H' := Aside0.mk H
                                  clear H
                                  have p343 : 0 ≤ (x97_2 : Int) := of_decide_eq_true (by first | (with_reducible assumption) | assumption)
                                  have q343 : x97_2 < (t331.length : Int) := of_decide_eq_true (by first | (with_reducible assumption) | assumption)
                                  obtain ⟨ad343, e343, hx343_0⟩ := Kd.at_int (Kd.R_reads' HO_95.out).2.2 x97_2 p343 q343
                                  cases e343
                                  replace p343 := eq_true p343
                                  replace q343 := eq_true q343
                                  go_wp2_with (first | ((with_reducible refine gate_callee (f := 25) rfl ?_); refine goesL_ (some 103) rfl rfl Try.func25 (by kernel_rfl) rfl #[.int .i64 (wrap64 (-(rd t331 x97_2)))] rfl (by (try simp only [List.map_toArray, List.map_cons, List.map_nil]); first | done | rfl | (simp only [List.length_drop, List.length_take]; rfl)) ?_; (with_reducible refine (gf_Root.calls k2 (wrap64 (-(rd t331 x97_2))) t344 _ A53.out).mono ?_); rintro e w' ⟨rfl, ⟨nd, rfl⟩⟩; refine ⟨_, rfl, ?_⟩; (try (rw [drewN_self wr]; generalize hq_ : World.drewN wr _ = wr; have n0_ : Aside0 (Kd.V (Kd.int .u8) 5 wr w.heap.size (fun k_ => some k_ ≠ (v337 : Value).ownBlock ∧ some k_ ≠ (v340 : Value).ownBlock ∧ some k_ ≠ (.slice (some ad343) t331.length co49 : Value).ownBlock) v326 t325) := ⟨by rw [← hq_]; exact (by (with_reducible repeat (first | apply Kd.V_alloc | apply Kd.V_drewN | apply Kd.V_drew)); exact HO_14.out)⟩; have n1_ : Aside0 (Kd.Q (Kd.int .u8) 5 wr w.heap.size (fun k_ => some k_ ≠ (v340 : Value).ownBlock) v337 x17_2) := ⟨by rw [← hq_]; exact (by (with_reducible repeat (first | apply Kd.Q_alloc | apply Kd.Q_drewN | apply Kd.Q_drew)); exact HO_17.out)⟩; have n2_ : Aside0 (Kd.R (Kd.int .u8) 5 wr w.heap.size (fun k_ => some k_ ≠ (v337 : Value).ownBlock) v340 t339) := ⟨by rw [← hq_]; exact (by (with_reducible repeat (first | apply Kd.R_alloc | apply Kd.R_drewN | apply Kd.R_drew)); exact HO_19.out)⟩; have n3_ : Aside0 (Kd.R (Kd.int .i64) 3 wr w.heap.size (fun _ => True) (.slice (some ad343) t331.length co49) t331) := ⟨by rw [← hq_]; exact (by (with_reducible repeat (first | apply Kd.R_alloc | apply Kd.R_drewN | apply Kd.R_drew)); exact HO_95.out)⟩; have n4_ : Aside0 (Below w.heap.size w wr) := ⟨by rw [← hq_]; exact (by repeat (first | (with_reducible first | exact HB.out | apply below_alloc | apply pw_below_drewN | apply below_drew1) | exact HB.out))⟩; clear HO_14 HO_17 HO_19 HO_95 HB hq_; have HO_14 := n0_; have HO_17 := n1_; have HO_19 := n2_; have HO_95 := n3_; have HB := n4_; clear n0_ n1_ n2_ n3_ n4_)); obtain ⟨Ao67, co67, eo67⟩ := Kd.R_slice HO_19.out; subst eo67) | ((with_reducible refine gate_callee (f := 24) rfl ?_); refine goesL_ (some 106) rfl rfl Try.func24 (by kernel_rfl) rfl #[.slice Ao67 t339.length co67, .int .u8 t344] rfl (by (try simp only [List.map_toArray, List.map_cons, List.map_nil]); first | done | rfl | (simp only [List.length_drop, List.length_take]; rfl)) ?_; (with_reducible refine (gf_Poly_At.calls k2 _ _ t339 t344 t345 _ ?side1 ?side2 A54.out).mono ?_); (case side1 => repeat (first | exact (Kd.R_reads' HO_19.out).2.2 | (with_reducible refine Kd.C_alloc ?_ _) | (with_reducible refine Kd.C_drewN ?_ _) | (with_reducible refine Kd.C_drew ?_))); (case side2 => exact (Kd.R_reads' HO_19.out).2.1); rintro e w' ⟨rfl, ⟨nd, rfl⟩⟩; refine ⟨_, rfl, ?_⟩; (try (rw [drewN_self wr]; generalize hq_ : World.drewN wr _ = wr; have n0_ : Aside0 (Kd.V (Kd.int .u8) 5 wr w.heap.size (fun k_ => some k_ ≠ (v337 : Value).ownBlock ∧ some k_ ≠ (.slice Ao67 t339.length co67 : Value).ownBlock ∧ some k_ ≠ (.slice (some ad343) t331.length co49 : Value).ownBlock) v326 t325) := ⟨by rw [← hq_]; exact (by (with_reducible repeat (first | apply Kd.V_alloc | apply Kd.V_drewN | apply Kd.V_drew)); exact HO_14.out)⟩; have n1_ : Aside0 (Kd.Q (Kd.int .u8) 5 wr w.heap.size (fun k_ => some k_ ≠ (.slice Ao67 t339.length co67 : Value).ownBlock) v337 x17_2) := ⟨by rw [← hq_]; exact (by (with_reducible repeat (first | apply Kd.Q_alloc | apply Kd.Q_drewN | apply Kd.Q_drew)); exact HO_17.out)⟩; have n2_ : Aside0 (Kd.R (Kd.int .u8) 5 wr w.heap.size (fun k_ => some k_ ≠ (v337 : Value).ownBlock) (.slice Ao67 t339.length co67) t339) := ⟨by rw [← hq_]; exact (by (with_reducible repeat (first | apply Kd.R_alloc | apply Kd.R_drewN | apply Kd.R_drew)); exact HO_19.out)⟩; have n3_ : Aside0 (Kd.R (Kd.int .i64) 3 wr w.heap.size (fun _ => True) (.slice (some ad343) t331.length co49) t331) := ⟨by rw [← hq_]; exact (by (with_reducible repeat (first | apply Kd.R_alloc | apply Kd.R_drewN | apply Kd.R_drew)); exact HO_95.out)⟩; have n4_ : Aside0 (Below w.heap.size w wr) := ⟨by rw [← hq_]; exact (by repeat (first | (with_reducible first | exact HB.out | apply below_alloc | apply pw_below_drewN | apply below_drew1) | exact HB.out))⟩; clear HO_14 HO_17 HO_19 HO_95 HB hq_; have HO_14 := n0_; have HO_17 := n1_; have HO_19 := n2_; have HO_95 := n3_; have HB := n4_; clear n0_ n1_ n2_ n3_ n4_))) | ((with_reducible refine gate_callee (f := 25) rfl ?_); refine goesL_ (some 110) rfl rfl Try.func25 (by kernel_rfl) rfl #[.int .i64 (rd t331 x97_2)] rfl (by (try simp only [List.map_toArray, List.map_cons, List.map_nil]); first | done | rfl | (simp only [List.length_drop, List.length_take]; rfl)) ?_; (with_reducible refine (gf_Root.calls k2 (rd t331 x97_2) t346 _ A57.out).mono ?_); rintro e w' ⟨rfl, ⟨nd, rfl⟩⟩; refine ⟨_, rfl, ?_⟩; (try (rw [drewN_self wr]; generalize hq_ : World.drewN wr _ = wr; have n0_ : Aside0 (Kd.V (Kd.int .u8) 5 wr w.heap.size (fun k_ => some k_ ≠ (v337 : Value).ownBlock ∧ some k_ ≠ (.slice Ao67 t339.length co67 : Value).ownBlock ∧ some k_ ≠ (.slice (some ad343) t331.length co49 : Value).ownBlock) v326 t325) := ⟨by rw [← hq_]; exact (by (with_reducible repeat (first | apply Kd.V_alloc | apply Kd.V_drewN | apply Kd.V_drew)); exact HO_14.out)⟩; have n1_ : Aside0 (Kd.Q (Kd.int .u8) 5 wr w.heap.size (fun k_ => some k_ ≠ (.slice Ao67 t339.length co67 : Value).ownBlock) v337 x17_2) := ⟨by rw [← hq_]; exact (by (with_reducible repeat (first | apply Kd.Q_alloc | apply Kd.Q_drewN | apply Kd.Q_drew)); exact HO_17.out)⟩; have n2_ : Aside0 (Kd.R (Kd.int .u8) 5 wr w.heap.size (fun k_ => some k_ ≠ (v337 : Value).ownBlock) (.slice Ao67 t339.length co67) t339) := ⟨by rw [← hq_]; exact (by (with_reducible repeat (first | apply Kd.R_alloc | apply Kd.R_drewN | apply Kd.R_drew)); exact HO_19.out)⟩; have n3_ : Aside0 (Kd.R (Kd.int .i64) 3 wr w.heap.size (fun _ => True) (.slice (some ad343) t331.length co49) t331) := ⟨by rw [← hq_]; exact (by (with_reducible repeat (first | apply Kd.R_alloc | apply Kd.R_drewN | apply Kd.R_drew)); exact HO_95.out)⟩; have n4_ : Aside0 (Below w.heap.size w wr) := ⟨by rw [← hq_]; exact (by repeat (first | (with_reducible first | exact HB.out | apply below_alloc | apply pw_below_drewN | apply below_drew1) | exact HB.out))⟩; clear HO_14 HO_17 HO_19 HO_95 HB hq_; have HO_14 := n0_; have HO_17 := n1_; have HO_19 := n2_; have HO_95 := n3_; have HB := n4_; clear n0_ n1_ n2_ n3_ n4_)); obtain ⟨Ao68, co68, eo68⟩ := Kd.V_slice HO_14.out; subst eo68) | ((with_reducible refine gate_callee (f := 24) rfl ?_); refine goesL_ (some 113) rfl rfl Try.func24 (by kernel_rfl) rfl #[.slice Ao68 t325.length co68, .int .u8 t344] rfl (by (try simp only [List.map_toArray, List.map_cons, List.map_nil]); first | done | rfl | (simp only [List.length_drop, List.length_take]; rfl)) ?_; (with_reducible refine (gf_Poly_At.calls k2 _ _ t325 t344 t347 _ ?side1 ?side2 A58.out).mono ?_); (case side1 => repeat (first | exact (Kd.V_reads' HO_14.out).2.2 | (with_reducible refine Kd.C_alloc ?_ _) | (with_reducible refine Kd.C_drewN ?_ _) | (with_reducible refine Kd.C_drew ?_))); (case side2 => exact (Kd.V_reads' HO_14.out).2.1); rintro e w' ⟨rfl, ⟨nd, rfl⟩⟩; refine ⟨_, rfl, ?_⟩; (try (rw [drewN_self wr]; generalize hq_ : World.drewN wr _ = wr; have n0_ : Aside0 (Kd.V (Kd.int .u8) 5 wr w.heap.size (fun k_ => some k_ ≠ (v337 : Value).ownBlock ∧ some k_ ≠ (.slice Ao67 t339.length co67 : Value).ownBlock ∧ some k_ ≠ (.slice (some ad343) t331.length co49 : Value).ownBlock) (.slice Ao68 t325.length co68) t325) := ⟨by rw [← hq_]; exact (by (with_reducible repeat (first | apply Kd.V_alloc | apply Kd.V_drewN | apply Kd.V_drew)); exact HO_14.out)⟩; have n1_ : Aside0 (Kd.Q (Kd.int .u8) 5 wr w.heap.size (fun k_ => some k_ ≠ (.slice Ao67 t339.length co67 : Value).ownBlock) v337 x17_2) := ⟨by rw [← hq_]; exact (by (with_reducible repeat (first | apply Kd.Q_alloc | apply Kd.Q_drewN | apply Kd.Q_drew)); exact HO_17.out)⟩; have n2_ : Aside0 (Kd.R (Kd.int .u8) 5 wr w.heap.size (fun k_ => some k_ ≠ (v337 : Value).ownBlock) (.slice Ao67 t339.length co67) t339) := ⟨by rw [← hq_]; exact (by (with_reducible repeat (first | apply Kd.R_alloc | apply Kd.R_drewN | apply Kd.R_drew)); exact HO_19.out)⟩; have n3_ : Aside0 (Kd.R (Kd.int .i64) 3 wr w.heap.size (fun _ => True) (.slice (some ad343) t331.length co49) t331) := ⟨by rw [← hq_]; exact (by (with_reducible repeat (first | apply Kd.R_alloc | apply Kd.R_drewN | apply Kd.R_drew)); exact HO_95.out)⟩; have n4_ : Aside0 (Below w.heap.size w wr) := ⟨by rw [← hq_]; exact (by repeat (first | (with_reducible first | exact HB.out | apply below_alloc | apply pw_below_drewN | apply below_drew1) | exact HB.out))⟩; clear HO_14 HO_17 HO_19 HO_95 HB hq_; have HO_14 := n0_; have HO_17 := n1_; have HO_19 := n2_; have HO_95 := n3_; have HB := n4_; clear n0_ n1_ n2_ n3_ n4_))) | ((with_reducible refine gate_callee (f := 37) rfl ?_); refine goesL_ (some 115) rfl rfl Try.func37 (by kernel_rfl) rfl #[.int .u8 t345] rfl (by (try simp only [List.map_toArray, List.map_cons, List.map_nil]); first | done | rfl | (simp only [List.length_drop, List.length_take]; rfl)) ?_; (with_reducible refine (gf_Inv.calls k2 t345 t348 _ A59.out).mono ?_); rintro e w' ⟨rfl, ⟨nd, rfl⟩⟩; refine ⟨_, rfl, ?_⟩; (try (rw [drewN_self wr]; generalize hq_ : World.drewN wr _ = wr; have n0_ : Aside0 (Kd.V (Kd.int .u8) 5 wr w.heap.size (fun k_ => some k_ ≠ (v337 : Value).ownBlock ∧ some k_ ≠ (.slice Ao67 t339.length co67 : Value).ownBlock ∧ some k_ ≠ (.slice (some ad343) t331.length co49 : Value).ownBlock) (.slice Ao68 t325.length co68) t325) := ⟨by rw [← hq_]; exact (by (with_reducible repeat (first | apply Kd.V_alloc | apply Kd.V_drewN | apply Kd.V_drew)); exact HO_14.out)⟩; have n1_ : Aside0 (Kd.Q (Kd.int .u8) 5 wr w.heap.size (fun k_ => some k_ ≠ (.slice Ao67 t339.length co67 : Value).ownBlock) v337 x17_2) := ⟨by rw [← hq_]; exact (by (with_reducible repeat (first | apply Kd.Q_alloc | apply Kd.Q_drewN | apply Kd.Q_drew)); exact HO_17.out)⟩; have n2_ : Aside0 (Kd.R (Kd.int .u8) 5 wr w.heap.size (fun k_ => some k_ ≠ (v337 : Value).ownBlock) (.slice Ao67 t339.length co67) t339) := ⟨by rw [← hq_]; exact (by (with_reducible repeat (first | apply Kd.R_alloc | apply Kd.R_drewN | apply Kd.R_drew)); exact HO_19.out)⟩; have n3_ : Aside0 (Kd.R (Kd.int .i64) 3 wr w.heap.size (fun _ => True) (.slice (some ad343) t331.length co49) t331) := ⟨by rw [← hq_]; exact (by (with_reducible repeat (first | apply Kd.R_alloc | apply Kd.R_drewN | apply Kd.R_drew)); exact HO_95.out)⟩; have n4_ : Aside0 (Below w.heap.size w wr) := ⟨by rw [← hq_]; exact (by repeat (first | (with_reducible first | exact HB.out | apply below_alloc | apply pw_below_drewN | apply below_drew1) | exact HB.out))⟩; clear HO_14 HO_17 HO_19 HO_95 HB hq_; have HO_14 := n0_; have HO_17 := n1_; have HO_19 := n2_; have HO_95 := n3_; have HB := n4_; clear n0_ n1_ n2_ n3_ n4_))) | ((with_reducible refine gate_callee (f := 36) rfl ?_); refine goesL_ (some 116) rfl rfl Try.func36 (by kernel_rfl) rfl #[.int .u8 t347, .int .u8 t348] rfl (by (try simp only [List.map_toArray, List.map_cons, List.map_nil]); first | done | rfl | (simp only [List.length_drop, List.length_take]; rfl)) ?_; (with_reducible refine (gf_Mul.calls k2 t347 t348 t349 _ A60.out).mono ?_); rintro e w' ⟨rfl, ⟨nd, rfl⟩⟩; refine ⟨_, rfl, ?_⟩; (try (rw [drewN_self wr]; generalize hq_ : World.drewN wr _ = wr; have n0_ : Aside0 (Kd.V (Kd.int .u8) 5 wr w.heap.size (fun k_ => some k_ ≠ (v337 : Value).ownBlock ∧ some k_ ≠ (.slice Ao67 t339.length co67 : Value).ownBlock ∧ some k_ ≠ (.slice (some ad343) t331.length co49 : Value).ownBlock) (.slice Ao68 t325.length co68) t325) := ⟨by rw [← hq_]; exact (by (with_reducible repeat (first | apply Kd.V_alloc | apply Kd.V_drewN | apply Kd.V_drew)); exact HO_14.out)⟩; have n1_ : Aside0 (Kd.Q (Kd.int .u8) 5 wr w.heap.size (fun k_ => some k_ ≠ (.slice Ao67 t339.length co67 : Value).ownBlock) v337 x17_2) := ⟨by rw [← hq_]; exact (by (with_reducible repeat (first | apply Kd.Q_alloc | apply Kd.Q_drewN | apply Kd.Q_drew)); exact HO_17.out)⟩; have n2_ : Aside0 (Kd.R (Kd.int .u8) 5 wr w.heap.size (fun k_ => some k_ ≠ (v337 : Value).ownBlock) (.slice Ao67 t339.length co67) t339) := ⟨by rw [← hq_]; exact (by (with_reducible repeat (first | apply Kd.R_alloc | apply Kd.R_drewN | apply Kd.R_drew)); exact HO_19.out)⟩; have n3_ : Aside0 (Kd.R (Kd.int .i64) 3 wr w.heap.size (fun _ => True) (.slice (some ad343) t331.length co49) t331) := ⟨by rw [← hq_]; exact (by (with_reducible repeat (first | apply Kd.R_alloc | apply Kd.R_drewN | apply Kd.R_drew)); exact HO_95.out)⟩; have n4_ : Aside0 (Below w.heap.size w wr) := ⟨by rw [← hq_]; exact (by repeat (first | (with_reducible first | exact HB.out | apply below_alloc | apply pw_below_drewN | apply below_drew1) | exact HB.out))⟩; clear HO_14 HO_17 HO_19 HO_95 HB hq_; have HO_14 := n0_; have HO_17 := n1_; have HO_19 := n2_; have HO_95 := n3_; have HB := n4_; clear n0_ n1_ n2_ n3_ n4_))) | ((with_reducible refine gate_callee (f := 36) rfl ?_); refine goesL_ (some 117) rfl rfl Try.func36 (by kernel_rfl) rfl #[.int .u8 t346, .int .u8 t349] rfl (by (try simp only [List.map_toArray, List.map_cons, List.map_nil]); first | done | rfl | (simp only [List.length_drop, List.length_take]; rfl)) ?_; (with_reducible refine (gf_Mul.calls k2 t346 t349 t350 _ A61.out).mono ?_); rintro e w' ⟨rfl, ⟨nd, rfl⟩⟩; refine ⟨_, rfl, ?_⟩; (try (rw [drewN_self wr]; generalize hq_ : World.drewN wr _ = wr; have n0_ : Aside0 (Kd.V (Kd.int .u8) 5 wr w.heap.size (fun k_ => some k_ ≠ (v337 : Value).ownBlock ∧ some k_ ≠ (.slice Ao67 t339.length co67 : Value).ownBlock ∧ some k_ ≠ (.slice (some ad343) t331.length co49 : Value).ownBlock) (.slice Ao68 t325.length co68) t325) := ⟨by rw [← hq_]; exact (by (with_reducible repeat (first | apply Kd.V_alloc | apply Kd.V_drewN | apply Kd.V_drew)); exact HO_14.out)⟩; have n1_ : Aside0 (Kd.Q (Kd.int .u8) 5 wr w.heap.size (fun k_ => some k_ ≠ (.slice Ao67 t339.length co67 : Value).ownBlock) v337 x17_2) := ⟨by rw [← hq_]; exact (by (with_reducible repeat (first | apply Kd.Q_alloc | apply Kd.Q_drewN | apply Kd.Q_drew)); exact HO_17.out)⟩; have n2_ : Aside0 (Kd.R (Kd.int .u8) 5 wr w.heap.size (fun k_ => some k_ ≠ (v337 : Value).ownBlock) (.slice Ao67 t339.length co67) t339) := ⟨by rw [← hq_]; exact (by (with_reducible repeat (first | apply Kd.R_alloc | apply Kd.R_drewN | apply Kd.R_drew)); exact HO_19.out)⟩; have n3_ : Aside0 (Kd.R (Kd.int .i64) 3 wr w.heap.size (fun _ => True) (.slice (some ad343) t331.length co49) t331) := ⟨by rw [← hq_]; exact (by (with_reducible repeat (first | apply Kd.R_alloc | apply Kd.R_drewN | apply Kd.R_drew)); exact HO_95.out)⟩; have n4_ : Aside0 (Below w.heap.size w wr) := ⟨by rw [← hq_]; exact (by repeat (first | (with_reducible first | exact HB.out | apply below_alloc | apply pw_below_drewN | apply below_drew1) | exact HB.out))⟩; clear HO_14 HO_17 HO_19 HO_95 HB hq_; have HO_14 := n0_; have HO_17 := n1_; have HO_19 := n2_; have HO_95 := n3_; have HB := n4_; clear n0_ n1_ n2_ n3_ n4_)); obtain ⟨Ao69, co69, eo69, _⟩ := Kd.Q_slice HO_17.out; subst eo69; have p351 : 0 ≤ ((ji63) : Int) := of_decide_eq_true (by first | (with_reducible assumption) | assumption); have q351 : (ji63) < (x17_2.length : Int) := of_decide_eq_true (by first | (with_reducible assumption) | assumption); obtain ⟨ad351, e351, hx351_0⟩ := Kd.at_int (Kd.Q_reads' HO_17.out).2.2 (ji63) p351 q351; cases e351; replace p351 := eq_true p351; replace q351 := eq_true q351; have p66 : 0 ≤ ((ji63) : Int) := of_decide_eq_true (by first | (with_reducible assumption) | assumption); have q66 : ((ji63) : Int) < ((x17_2.length : Int) : Int) := of_decide_eq_true (by first | (with_reducible assumption) | assumption); obtain ⟨go66, oo66, co66, eo66, gb66, gl66, cl66, HG66⟩ := Kd.Q_form HO_17.out (by omega); (first | cases eo66 | (injection eo66 with ea_ en_ ec_; (first | subst ea_ | (injection ea_ with ea_; subst ea_)); subst ec_; clear en_)); have GB66 := Aside0.mk gb66; have GG66 := Aside0.mk HG66; clear gb66 gl66 HG66; (first | simp only [add_at] at hx351_0 | skip); obtain ⟨hx66_0, hf66_0⟩ := Kd.Q_cell 0 HO_17.out ((ji63) : Int) p66 q66; replace p66 := eq_true p66; replace q66 := eq_true q66; obtain ⟨hy70_, hz70_⟩ := Kd.Q_cell 0 HO_17.out ((ji63) : Int) (of_decide_eq_true (by first | (with_reducible assumption) | assumption)) (of_decide_eq_true (by first | (with_reducible assumption) | assumption)); have HP70 := Kd.Q_putg HO_17.out ((ji63) : Int) (of_decide_eq_true (by first | (with_reducible assumption) | assumption)) (by have h_ : ((ji63) : Int) < ((x17_2.length : Int) : Int) := of_decide_eq_true (by first | (with_reducible assumption) | assumption); first | exact h_ | (have e_ := (Kd.Q_reads' HO_17.out).1; omega) | simpa using h_) (Go.bits .xor .u8 (rd x17_2 (ji63)) t350)) | ((with_reducible refine gate_store (t := 5) (p := 132) rfl ?_); refine store_event (t := 5) (p := 132) (v := ?vo_w71) (w1 := (wr.setCell ⟨go66, oo66 + ((ji63) : Int).toNat, none⟩ (.int .u8 (Go.bits .xor .u8 (rd x17_2 (ji63)) t350)))) ?hg ?ho ?hn ?hr ?_; (case ho => rfl); (case hg => rfl); (case hn => rfl); (case hr => first | (go_simp; done) | (go_simp; rfl)); intro w71 hw; have hg : wr.grownBy w71 (some go66) := (by rw [hw]; exact HP70.2); have hp_ : Kd.Q (Kd.int .u8) 5 w71 w.heap.size (fun k_ => some k_ ≠ (.slice Ao67 t339.length co67 : Value).ownBlock) (.slice (some ⟨go66, oo66, none⟩) x17_2.length co69) y352 := (by rw [hw, Ny352.out]; exact HP70.1); clear HP70; have n0_ := Aside0.mk (Kd.V_afterv (v := (.slice (some ⟨go66, oo66, none⟩) x17_2.length co69)) (v1 := (.slice (some ⟨go66, oo66, none⟩) x17_2.length co69)) (ok := (fun k_ => some k_ ≠ (.slice Ao67 t339.length co67 : Value).ownBlock ∧ some k_ ≠ (.slice (some ad343) t331.length co49 : Value).ownBlock)) (by (with_reducible repeat (first | apply Kd.V_alloc | apply Kd.V_drewN | apply Kd.V_drew)); exact Kd.V_mono HO_14.out (fun _ hk => ⟨⟨hk.2.1, hk.2.2⟩, hk.1⟩)) hg (.inl rfl)); have n1_ := Aside0.mk (hp_); have n2_ := Aside0.mk (Kd.R_after (v := (.slice (some ⟨go66, oo66, none⟩) x17_2.length co69)) (v1 := (.slice (some ⟨go66, oo66, none⟩) x17_2.length co69)) (ok := (fun _ => True)) (by (with_reducible repeat (first | apply Kd.R_alloc | apply Kd.R_drewN | apply Kd.R_drew)); exact Kd.R_mono HO_19.out (fun _ hk => ⟨trivial, hk⟩)) hg (.inl rfl)); have n3_ := Aside0.mk (Kd.R_over' (v := (.slice (some ⟨go66, oo66, none⟩) x17_2.length co69)) (by (with_reducible repeat (first | apply Kd.R_alloc | apply Kd.R_drewN | apply Kd.R_drew)); exact HO_95.out) (Kd.Q_typed HO_17.out) (by decide) hg); have n4_ := Aside0.mk ((by rw [hw]; exact below_set (HB.out) GB66.out : Below w.heap.size w w71)); clear HO_14; clear HO_17; clear HO_19; clear HO_95; clear HB; have HO_14 := n0_; have HO_17 := n1_; have HO_19 := n2_; have HO_95 := n3_; have HB := n4_; clear n0_ n1_ n2_ n3_ n4_; clear hg hw hp_))
                                  go_roundg k2
                                  case measure => have := HJ18.out; have := HK2.out; omega
                                  case rel => exact ⟨(y352), (x18_2), (wrap64 (x97_2 + 1)), (by first | rfl | (simp; done) | (simp [*]; done)), (by first | rfl | (simp; done) | (simp [*]; done)), H', ⟨by have := HJ18.out; have := HK2.out; omega⟩, ⟨by (with_reducible repeat (first | apply Kd.V_alloc | apply Kd.V_drewN | apply Kd.V_drew)); exact Kd.V_mono HO_14.out (fun _ hk => ⟨hk.2, ⟨hk.1.1, hk.1.2⟩⟩)⟩, ⟨by (with_reducible repeat (first | apply Kd.Q_alloc | apply Kd.Q_drewN | apply Kd.Q_drew)); exact HO_17.out⟩, ⟨by (with_reducible repeat (first | apply Kd.R_alloc | apply Kd.R_drewN | apply Kd.R_drew)); exact Kd.R_mono HO_19.out (fun _ hk => hk.2)⟩, ⟨by (with_reducible repeat (first | apply Kd.R_alloc | apply Kd.R_drewN | apply Kd.R_drew)); exact HO_95.out⟩, ⟨by repeat (first | (with_reducible first | exact HB.out | apply below_alloc | apply pw_below_drewN | apply below_drew1) | exact HB.out)⟩⟩
                                · rw [if_neg c65] at H
                                  exact absurd H (by simp)
                              · rw [if_neg c64] at H
                                exact absurd H (by simp)
                            · rw [if_neg c62] at H
                              have c62b0 : (t350 == 0) = false := beq_eq_false_iff_ne.mpr c62
                              have c62b1 : (t350 != 0) = true := bne_iff_ne.mpr c62
                              obtain ⟨ji72, hji72⟩ : ∃ j_ : Int, (wrap64 ((wrap64 ((x17_2.length : Int) - 1)) - (rd t331 x97_2))) = j_ := ⟨_, rfl⟩
                              replace H : (if 0 ≤ (ji72) then (if (ji72) < (x17_2.length : Int) then (rs_Decode.l0 k2 a1 t325 (x17_2.set ((ji72) : Int).toNat (Go.bits .xor .u8 (rd x17_2 (ji72)) t350)) (wrap64 (x18_2 + 1)) t339 t331 (t331.length : Int) (wrap64 (x97_2 + 1))) else (none)) else (none)) = some (r1, r2, r3) := by first | (rw [hji72] at H; exact H) | (simp only [hji72] at H ⊢; exact H)
                              (try rw [hji72] at A53)
                              (try rw [hji72] at A54)
                              (try rw [hji72] at A57)
                              (try rw [hji72] at A58)
                              (try rw [hji72] at A59)
                              (try rw [hji72] at A60)
                              (try rw [hji72] at A61)
                              have hji72w : (IntKind.i64.wrap ((wrap64 ((x17_2.length : Int) - 1)) - (rd t331 x97_2))) = ji72 := (i64_w _).trans hji72
                              by_cases c73 : 0 ≤ (ji72)
                              · rw [if_pos c73] at H
                                have c73b0 : decide (0 ≤ (ji72)) = true := decide_eq_true c73
                                clear c73
                                by_cases c74 : (ji72) < (x17_2.length : Int)
                                · rw [if_pos c74] at H
                                  have c74b0 : decide ((ji72) < (x17_2.length : Int)) = true := decide_eq_true c74
                                  clear c74
                                  obtain ⟨y354, hy354⟩ : ∃ y_ : List Int, y_ = (x17_2.set ((ji72) : Int).toNat (Go.bits .xor .u8 (rd x17_2 (ji72)) t350)) := ⟨_, rfl⟩
                                  replace H : (rs_Decode.l0 k2 a1 t325 y354 (wrap64 (x18_2 + 1)) t339 t331 (t331.length : Int) (wrap64 (x97_2 + 1))) = some (r1, r2, r3) := by first | (rw [hy354]; with_reducible exact H) | (have H2_ := (Option.bind_some _ _).symm.trans H; rw [hy354]; with_reducible exact H2_) | (have H2_ := (Option.bind_some _ _).symm.trans H; with_reducible exact H2_) | with_reducible exact H | (rw [hy354]; exact H) | exact H
                                  have Ny354 := Aside0.mk hy354
                                  clear hy354
                                  have H' := Aside0.mk H
                                  clear H
                                  have p343 : 0 ≤ (x97_2 : Int) := of_decide_eq_true (by first | (with_reducible assumption) | assumption)
                                  have q343 : x97_2 < (t331.length : Int) := of_decide_eq_true (by first | (with_reducible assumption) | assumption)
                                  obtain ⟨ad343, e343, hx343_0⟩ := Kd.at_int (Kd.R_reads' HO_95.out).2.2 x97_2 p343 q343
                                  cases e343
                                  replace p343 := eq_true p343
                                  replace q343 := eq_true q343
                                  go_wp2_with (first | ((with_reducible refine gate_callee (f := 25) rfl ?_); refine goesL_ (some 103) rfl rfl Try.func25 (by kernel_rfl) rfl #[.int .i64 (wrap64 (-(rd t331 x97_2)))] rfl (by (try simp only [List.map_toArray, List.map_cons, List.map_nil]); first | done | rfl | (simp only [List.length_drop, List.length_take]; rfl)) ?_; (with_reducible refine (gf_Root.calls k2 (wrap64 (-(rd t331 x97_2))) t344 _ A53.out).mono ?_); rintro e w' ⟨rfl, ⟨nd, rfl⟩⟩; refine ⟨_, rfl, ?_⟩; (try (rw [drewN_self wr]; generalize hq_ : World.drewN wr _ = wr; have n0_ : Aside0 (Kd.V (Kd.int .u8) 5 wr w.heap.size (fun k_ => some k_ ≠ (v337 : Value).ownBlock ∧ some k_ ≠ (v340 : Value).ownBlock ∧ some k_ ≠ (.slice (some ad343) t331.length co49 : Value).ownBlock) v326 t325) := ⟨by rw [← hq_]; exact (by (with_reducible repeat (first | apply Kd.V_alloc | apply Kd.V_drewN | apply Kd.V_drew)); exact HO_14.out)⟩; have n1_ : Aside0 (Kd.Q (Kd.int .u8) 5 wr w.heap.size (fun k_ => some k_ ≠ (v340 : Value).ownBlock) v337 x17_2) := ⟨by rw [← hq_]; exact (by (with_reducible repeat (first | apply Kd.Q_alloc | apply Kd.Q_drewN | apply Kd.Q_drew)); exact HO_17.out)⟩; have n2_ : Aside0 (Kd.R (Kd.int .u8) 5 wr w.heap.size (fun k_ => some k_ ≠ (v337 : Value).ownBlock) v340 t339) := ⟨by rw [← hq_]; exact (by (with_reducible repeat (first | apply Kd.R_alloc | apply Kd.R_drewN | apply Kd.R_drew)); exact HO_19.out)⟩; have n3_ : Aside0 (Kd.R (Kd.int .i64) 3 wr w.heap.size (fun _ => True) (.slice (some ad343) t331.length co49) t331) := ⟨by rw [← hq_]; exact (by (with_reducible repeat (first | apply Kd.R_alloc | apply Kd.R_drewN | apply Kd.R_drew)); exact HO_95.out)⟩; have n4_ : Aside0 (Below w.heap.size w wr) := ⟨by rw [← hq_]; exact (by repeat (first | (with_reducible first | exact HB.out | apply below_alloc | apply pw_below_drewN | apply below_drew1) | exact HB.out))⟩; clear HO_14 HO_17 HO_19 HO_95 HB hq_; have HO_14 := n0_; have HO_17 := n1_; have HO_19 := n2_; have HO_95 := n3_; have HB := n4_; clear n0_ n1_ n2_ n3_ n4_)); obtain ⟨Ao76, co76, eo76⟩ := Kd.R_slice HO_19.out; subst eo76) | ((with_reducible refine gate_callee (f := 24) rfl ?_); refine goesL_ (some 106) rfl rfl Try.func24 (by kernel_rfl) rfl #[.slice Ao76 t339.length co76, .int .u8 t344] rfl (by (try simp only [List.map_toArray, List.map_cons, List.map_nil]); first | done | rfl | (simp only [List.length_drop, List.length_take]; rfl)) ?_; (with_reducible refine (gf_Poly_At.calls k2 _ _ t339 t344 t345 _ ?side1 ?side2 A54.out).mono ?_); (case side1 => repeat (first | exact (Kd.R_reads' HO_19.out).2.2 | (with_reducible refine Kd.C_alloc ?_ _) | (with_reducible refine Kd.C_drewN ?_ _) | (with_reducible refine Kd.C_drew ?_))); (case side2 => exact (Kd.R_reads' HO_19.out).2.1); rintro e w' ⟨rfl, ⟨nd, rfl⟩⟩; refine ⟨_, rfl, ?_⟩; (try (rw [drewN_self wr]; generalize hq_ : World.drewN wr _ = wr; have n0_ : Aside0 (Kd.V (Kd.int .u8) 5 wr w.heap.size (fun k_ => some k_ ≠ (v337 : Value).ownBlock ∧ some k_ ≠ (.slice Ao76 t339.length co76 : Value).ownBlock ∧ some k_ ≠ (.slice (some ad343) t331.length co49 : Value).ownBlock) v326 t325) := ⟨by rw [← hq_]; exact (by (with_reducible repeat (first | apply Kd.V_alloc | apply Kd.V_drewN | apply Kd.V_drew)); exact HO_14.out)⟩; have n1_ : Aside0 (Kd.Q (Kd.int .u8) 5 wr w.heap.size (fun k_ => some k_ ≠ (.slice Ao76 t339.length co76 : Value).ownBlock) v337 x17_2) := ⟨by rw [← hq_]; exact (by (with_reducible repeat (first | apply Kd.Q_alloc | apply Kd.Q_drewN | apply Kd.Q_drew)); exact HO_17.out)⟩; have n2_ : Aside0 (Kd.R (Kd.int .u8) 5 wr w.heap.size (fun k_ => some k_ ≠ (v337 : Value).ownBlock) (.slice Ao76 t339.length co76) t339) := ⟨by rw [← hq_]; exact (by (with_reducible repeat (first | apply Kd.R_alloc | apply Kd.R_drewN | apply Kd.R_drew)); exact HO_19.out)⟩; have n3_ : Aside0 (Kd.R (Kd.int .i64) 3 wr w.heap.size (fun _ => True) (.slice (some ad343) t331.length co49) t331) := ⟨by rw [← hq_]; exact (by (with_reducible repeat (first | apply Kd.R_alloc | apply Kd.R_drewN | apply Kd.R_drew)); exact HO_95.out)⟩; have n4_ : Aside0 (Below w.heap.size w wr) := ⟨by rw [← hq_]; exact (by repeat (first | (with_reducible first | exact HB.out | apply below_alloc | apply pw_below_drewN | apply below_drew1) | exact HB.out))⟩; clear HO_14 HO_17 HO_19 HO_95 HB hq_; have HO_14 := n0_; have HO_17 := n1_; have HO_19 := n2_; have HO_95 := n3_; have HB := n4_; clear n0_ n1_ n2_ n3_ n4_))) | ((with_reducible refine gate_callee (f := 25) rfl ?_); refine goesL_ (some 110) rfl rfl Try.func25 (by kernel_rfl) rfl #[.int .i64 (rd t331 x97_2)] rfl (by (try simp only [List.map_toArray, List.map_cons, List.map_nil]); first | done | rfl | (simp only [List.length_drop, List.length_take]; rfl)) ?_; (with_reducible refine (gf_Root.calls k2 (rd t331 x97_2) t346 _ A57.out).mono ?_); rintro e w' ⟨rfl, ⟨nd, rfl⟩⟩; refine ⟨_, rfl, ?_⟩; (try (rw [drewN_self wr]; generalize hq_ : World.drewN wr _ = wr; have n0_ : Aside0 (Kd.V (Kd.int .u8) 5 wr w.heap.size (fun k_ => some k_ ≠ (v337 : Value).ownBlock ∧ some k_ ≠ (.slice Ao76 t339.length co76 : Value).ownBlock ∧ some k_ ≠ (.slice (some ad343) t331.length co49 : Value).ownBlock) v326 t325) := ⟨by rw [← hq_]; exact (by (with_reducible repeat (first | apply Kd.V_alloc | apply Kd.V_drewN | apply Kd.V_drew)); exact HO_14.out)⟩; have n1_ : Aside0 (Kd.Q (Kd.int .u8) 5 wr w.heap.size (fun k_ => some k_ ≠ (.slice Ao76 t339.length co76 : Value).ownBlock) v337 x17_2) := ⟨by rw [← hq_]; exact (by (with_reducible repeat (first | apply Kd.Q_alloc | apply Kd.Q_drewN | apply Kd.Q_drew)); exact HO_17.out)⟩; have n2_ : Aside0 (Kd.R (Kd.int .u8) 5 wr w.heap.size (fun k_ => some k_ ≠ (v337 : Value).ownBlock) (.slice Ao76 t339.length co76) t339) := ⟨by rw [← hq_]; exact (by (with_reducible repeat (first | apply Kd.R_alloc | apply Kd.R_drewN | apply Kd.R_drew)); exact HO_19.out)⟩; have n3_ : Aside0 (Kd.R (Kd.int .i64) 3 wr w.heap.size (fun _ => True) (.slice (some ad343) t331.length co49) t331) := ⟨by rw [← hq_]; exact (by (with_reducible repeat (first | apply Kd.R_alloc | apply Kd.R_drewN | apply Kd.R_drew)); exact HO_95.out)⟩; have n4_ : Aside0 (Below w.heap.size w wr) := ⟨by rw [← hq_]; exact (by repeat (first | (with_reducible first | exact HB.out | apply below_alloc | apply pw_below_drewN | apply below_drew1) | exact HB.out))⟩; clear HO_14 HO_17 HO_19 HO_95 HB hq_; have HO_14 := n0_; have HO_17 := n1_; have HO_19 := n2_; have HO_95 := n3_; have HB := n4_; clear n0_ n1_ n2_ n3_ n4_)); obtain ⟨Ao77, co77, eo77⟩ := Kd.V_slice HO_14.out; subst eo77) | ((with_reducible refine gate_callee (f := 24) rfl ?_); refine goesL_ (some 113) rfl rfl Try.func24 (by kernel_rfl) rfl #[.slice Ao77 t325.length co77, .int .u8 t344] rfl (by (try simp only [List.map_toArray, List.map_cons, List.map_nil]); first | done | rfl | (simp only [List.length_drop, List.length_take]; rfl)) ?_; (with_reducible refine (gf_Poly_At.calls k2 _ _ t325 t344 t347 _ ?side1 ?side2 A58.out).mono ?_); (case side1 => repeat (first | exact (Kd.V_reads' HO_14.out).2.2 | (with_reducible refine Kd.C_alloc ?_ _) | (with_reducible refine Kd.C_drewN ?_ _) | (with_reducible refine Kd.C_drew ?_))); (case side2 => exact (Kd.V_reads' HO_14.out).2.1); rintro e w' ⟨rfl, ⟨nd, rfl⟩⟩; refine ⟨_, rfl, ?_⟩; (try (rw [drewN_self wr]; generalize hq_ : World.drewN wr _ = wr; have n0_ : Aside0 (Kd.V (Kd.int .u8) 5 wr w.heap.size (fun k_ => some k_ ≠ (v337 : Value).ownBlock ∧ some k_ ≠ (.slice Ao76 t339.length co76 : Value).ownBlock ∧ some k_ ≠ (.slice (some ad343) t331.length co49 : Value).ownBlock) (.slice Ao77 t325.length co77) t325) := ⟨by rw [← hq_]; exact (by (with_reducible repeat (first | apply Kd.V_alloc | apply Kd.V_drewN | apply Kd.V_drew)); exact HO_14.out)⟩; have n1_ : Aside0 (Kd.Q (Kd.int .u8) 5 wr w.heap.size (fun k_ => some k_ ≠ (.slice Ao76 t339.length co76 : Value).ownBlock) v337 x17_2) := ⟨by rw [← hq_]; exact (by (with_reducible repeat (first | apply Kd.Q_alloc | apply Kd.Q_drewN | apply Kd.Q_drew)); exact HO_17.out)⟩; have n2_ : Aside0 (Kd.R (Kd.int .u8) 5 wr w.heap.size (fun k_ => some k_ ≠ (v337 : Value).ownBlock) (.slice Ao76 t339.length co76) t339) := ⟨by rw [← hq_]; exact (by (with_reducible repeat (first | apply Kd.R_alloc | apply Kd.R_drewN | apply Kd.R_drew)); exact HO_19.out)⟩; have n3_ : Aside0 (Kd.R (Kd.int .i64) 3 wr w.heap.size (fun _ => True) (.slice (some ad343) t331.length co49) t331) := ⟨by rw [← hq_]; exact (by (with_reducible repeat (first | apply Kd.R_alloc | apply Kd.R_drewN | apply Kd.R_drew)); exact HO_95.out)⟩; have n4_ : Aside0 (Below w.heap.size w wr) := ⟨by rw [← hq_]; exact (by repeat (first | (with_reducible first | exact HB.out | apply below_alloc | apply pw_below_drewN | apply below_drew1) | exact HB.out))⟩; clear HO_14 HO_17 HO_19 HO_95 HB hq_; have HO_14 := n0_; have HO_17 := n1_; have HO_19 := n2_; have HO_95 := n3_; have HB := n4_; clear n0_ n1_ n2_ n3_ n4_))) | ((with_reducible refine gate_callee (f := 37) rfl ?_); refine goesL_ (some 115) rfl rfl Try.func37 (by kernel_rfl) rfl #[.int .u8 t345] rfl (by (try simp only [List.map_toArray, List.map_cons, List.map_nil]); first | done | rfl | (simp only [List.length_drop, List.length_take]; rfl)) ?_; (with_reducible refine (gf_Inv.calls k2 t345 t348 _ A59.out).mono ?_); rintro e w' ⟨rfl, ⟨nd, rfl⟩⟩; refine ⟨_, rfl, ?_⟩; (try (rw [drewN_self wr]; generalize hq_ : World.drewN wr _ = wr; have n0_ : Aside0 (Kd.V (Kd.int .u8) 5 wr w.heap.size (fun k_ => some k_ ≠ (v337 : Value).ownBlock ∧ some k_ ≠ (.slice Ao76 t339.length co76 : Value).ownBlock ∧ some k_ ≠ (.slice (some ad343) t331.length co49 : Value).ownBlock) (.slice Ao77 t325.length co77) t325) := ⟨by rw [← hq_]; exact (by (with_reducible repeat (first | apply Kd.V_alloc | apply Kd.V_drewN | apply Kd.V_drew)); exact HO_14.out)⟩; have n1_ : Aside0 (Kd.Q (Kd.int .u8) 5 wr w.heap.size (fun k_ => some k_ ≠ (.slice Ao76 t339.length co76 : Value).ownBlock) v337 x17_2) := ⟨by rw [← hq_]; exact (by (with_reducible repeat (first | apply Kd.Q_alloc | apply Kd.Q_drewN | apply Kd.Q_drew)); exact HO_17.out)⟩; have n2_ : Aside0 (Kd.R (Kd.int .u8) 5 wr w.heap.size (fun k_ => some k_ ≠ (v337 : Value).ownBlock) (.slice Ao76 t339.length co76) t339) := ⟨by rw [← hq_]; exact (by (with_reducible repeat (first | apply Kd.R_alloc | apply Kd.R_drewN | apply Kd.R_drew)); exact HO_19.out)⟩; have n3_ : Aside0 (Kd.R (Kd.int .i64) 3 wr w.heap.size (fun _ => True) (.slice (some ad343) t331.length co49) t331) := ⟨by rw [← hq_]; exact (by (with_reducible repeat (first | apply Kd.R_alloc | apply Kd.R_drewN | apply Kd.R_drew)); exact HO_95.out)⟩; have n4_ : Aside0 (Below w.heap.size w wr) := ⟨by rw [← hq_]; exact (by repeat (first | (with_reducible first | exact HB.out | apply below_alloc | apply pw_below_drewN | apply below_drew1) | exact HB.out))⟩; clear HO_14 HO_17 HO_19 HO_95 HB hq_; have HO_14 := n0_; have HO_17 := n1_; have HO_19 := n2_; have HO_95 := n3_; have HB := n4_; clear n0_ n1_ n2_ n3_ n4_))) | ((with_reducible refine gate_callee (f := 36) rfl ?_); refine goesL_ (some 116) rfl rfl Try.func36 (by kernel_rfl) rfl #[.int .u8 t347, .int .u8 t348] rfl (by (try simp only [List.map_toArray, List.map_cons, List.map_nil]); first | done | rfl | (simp only [List.length_drop, List.length_take]; rfl)) ?_; (with_reducible refine (gf_Mul.calls k2 t347 t348 t349 _ A60.out).mono ?_); rintro e w' ⟨rfl, ⟨nd, rfl⟩⟩; refine ⟨_, rfl, ?_⟩; (try (rw [drewN_self wr]; generalize hq_ : World.drewN wr _ = wr; have n0_ : Aside0 (Kd.V (Kd.int .u8) 5 wr w.heap.size (fun k_ => some k_ ≠ (v337 : Value).ownBlock ∧ some k_ ≠ (.slice Ao76 t339.length co76 : Value).ownBlock ∧ some k_ ≠ (.slice (some ad343) t331.length co49 : Value).ownBlock) (.slice Ao77 t325.length co77) t325) := ⟨by rw [← hq_]; exact (by (with_reducible repeat (first | apply Kd.V_alloc | apply Kd.V_drewN | apply Kd.V_drew)); exact HO_14.out)⟩; have n1_ : Aside0 (Kd.Q (Kd.int .u8) 5 wr w.heap.size (fun k_ => some k_ ≠ (.slice Ao76 t339.length co76 : Value).ownBlock) v337 x17_2) := ⟨by rw [← hq_]; exact (by (with_reducible repeat (first | apply Kd.Q_alloc | apply Kd.Q_drewN | apply Kd.Q_drew)); exact HO_17.out)⟩; have n2_ : Aside0 (Kd.R (Kd.int .u8) 5 wr w.heap.size (fun k_ => some k_ ≠ (v337 : Value).ownBlock) (.slice Ao76 t339.length co76) t339) := ⟨by rw [← hq_]; exact (by (with_reducible repeat (first | apply Kd.R_alloc | apply Kd.R_drewN | apply Kd.R_drew)); exact HO_19.out)⟩; have n3_ : Aside0 (Kd.R (Kd.int .i64) 3 wr w.heap.size (fun _ => True) (.slice (some ad343) t331.length co49) t331) := ⟨by rw [← hq_]; exact (by (with_reducible repeat (first | apply Kd.R_alloc | apply Kd.R_drewN | apply Kd.R_drew)); exact HO_95.out)⟩; have n4_ : Aside0 (Below w.heap.size w wr) := ⟨by rw [← hq_]; exact (by repeat (first | (with_reducible first | exact HB.out | apply below_alloc | apply pw_below_drewN | apply below_drew1) | exact HB.out))⟩; clear HO_14 HO_17 HO_19 HO_95 HB hq_; have HO_14 := n0_; have HO_17 := n1_; have HO_19 := n2_; have HO_95 := n3_; have HB := n4_; clear n0_ n1_ n2_ n3_ n4_))) | ((with_reducible refine gate_callee (f := 36) rfl ?_); refine goesL_ (some 117) rfl rfl Try.func36 (by kernel_rfl) rfl #[.int .u8 t346, .int .u8 t349] rfl (by (try simp only [List.map_toArray, List.map_cons, List.map_nil]); first | done | rfl | (simp only [List.length_drop, List.length_take]; rfl)) ?_; (with_reducible refine (gf_Mul.calls k2 t346 t349 t350 _ A61.out).mono ?_); rintro e w' ⟨rfl, ⟨nd, rfl⟩⟩; refine ⟨_, rfl, ?_⟩; (try (rw [drewN_self wr]; generalize hq_ : World.drewN wr _ = wr; have n0_ : Aside0 (Kd.V (Kd.int .u8) 5 wr w.heap.size (fun k_ => some k_ ≠ (v337 : Value).ownBlock ∧ some k_ ≠ (.slice Ao76 t339.length co76 : Value).ownBlock ∧ some k_ ≠ (.slice (some ad343) t331.length co49 : Value).ownBlock) (.slice Ao77 t325.length co77) t325) := ⟨by rw [← hq_]; exact (by (with_reducible repeat (first | apply Kd.V_alloc | apply Kd.V_drewN | apply Kd.V_drew)); exact HO_14.out)⟩; have n1_ : Aside0 (Kd.Q (Kd.int .u8) 5 wr w.heap.size (fun k_ => some k_ ≠ (.slice Ao76 t339.length co76 : Value).ownBlock) v337 x17_2) := ⟨by rw [← hq_]; exact (by (with_reducible repeat (first | apply Kd.Q_alloc | apply Kd.Q_drewN | apply Kd.Q_drew)); exact HO_17.out)⟩; have n2_ : Aside0 (Kd.R (Kd.int .u8) 5 wr w.heap.size (fun k_ => some k_ ≠ (v337 : Value).ownBlock) (.slice Ao76 t339.length co76) t339) := ⟨by rw [← hq_]; exact (by (with_reducible repeat (first | apply Kd.R_alloc | apply Kd.R_drewN | apply Kd.R_drew)); exact HO_19.out)⟩; have n3_ : Aside0 (Kd.R (Kd.int .i64) 3 wr w.heap.size (fun _ => True) (.slice (some ad343) t331.length co49) t331) := ⟨by rw [← hq_]; exact (by (with_reducible repeat (first | apply Kd.R_alloc | apply Kd.R_drewN | apply Kd.R_drew)); exact HO_95.out)⟩; have n4_ : Aside0 (Below w.heap.size w wr) := ⟨by rw [← hq_]; exact (by repeat (first | (with_reducible first | exact HB.out | apply below_alloc | apply pw_below_drewN | apply below_drew1) | exact HB.out))⟩; clear HO_14 HO_17 HO_19 HO_95 HB hq_; have HO_14 := n0_; have HO_17 := n1_; have HO_19 := n2_; have HO_95 := n3_; have HB := n4_; clear n0_ n1_ n2_ n3_ n4_)); obtain ⟨Ao78, co78, eo78, _⟩ := Kd.Q_slice HO_17.out; subst eo78; have p353 : 0 ≤ ((ji72) : Int) := of_decide_eq_true (by first | (with_reducible assumption) | assumption); have q353 : (ji72) < (x17_2.length : Int) := of_decide_eq_true (by first | (with_reducible assumption) | assumption); obtain ⟨ad353, e353, hx353_0⟩ := Kd.at_int (Kd.Q_reads' HO_17.out).2.2 (ji72) p353 q353; cases e353; replace p353 := eq_true p353; replace q353 := eq_true q353; have p75 : 0 ≤ ((ji72) : Int) := of_decide_eq_true (by first | (with_reducible assumption) | assumption); have q75 : ((ji72) : Int) < ((x17_2.length : Int) : Int) := of_decide_eq_true (by first | (with_reducible assumption) | assumption); obtain ⟨go75, oo75, co75, eo75, gb75, gl75, cl75, HG75⟩ := Kd.Q_form HO_17.out (by omega); (first | cases eo75 | (injection eo75 with ea_ en_ ec_; (first | subst ea_ | (injection ea_ with ea_; subst ea_)); subst ec_; clear en_)); have GB75 := Aside0.mk gb75; have GG75 := Aside0.mk HG75; clear gb75 gl75 HG75; (first | simp only [add_at] at hx353_0 | skip); obtain ⟨hx75_0, hf75_0⟩ := Kd.Q_cell 0 HO_17.out ((ji72) : Int) p75 q75; replace p75 := eq_true p75; replace q75 := eq_true q75; obtain ⟨hy79_, hz79_⟩ := Kd.Q_cell 0 HO_17.out ((ji72) : Int) (of_decide_eq_true (by first | (with_reducible assumption) | assumption)) (of_decide_eq_true (by first | (with_reducible assumption) | assumption)); have HP79 := Kd.Q_putg HO_17.out ((ji72) : Int) (of_decide_eq_true (by first | (with_reducible assumption) | assumption)) (by have h_ : ((ji72) : Int) < ((x17_2.length : Int) : Int) := of_decide_eq_true (by first | (with_reducible assumption) | assumption); first | exact h_ | (have e_ := (Kd.Q_reads' HO_17.out).1; omega) | simpa using h_) (Go.bits .xor .u8 (rd x17_2 (ji72)) t350)) | ((with_reducible refine gate_store (t := 5) (p := 132) rfl ?_); refine store_event (t := 5) (p := 132) (v := ?vo_w80) (w1 := (wr.setCell ⟨go75, oo75 + ((ji72) : Int).toNat, none⟩ (.int .u8 (Go.bits .xor .u8 (rd x17_2 (ji72)) t350)))) ?hg ?ho ?hn ?hr ?_; (case ho => rfl); (case hg => rfl); (case hn => rfl); (case hr => first | (go_simp; done) | (go_simp; rfl)); intro w80 hw; have hg : wr.grownBy w80 (some go75) := (by rw [hw]; exact HP79.2); have hp_ : Kd.Q (Kd.int .u8) 5 w80 w.heap.size (fun k_ => some k_ ≠ (.slice Ao76 t339.length co76 : Value).ownBlock) (.slice (some ⟨go75, oo75, none⟩) x17_2.length co78) y354 := (by rw [hw, Ny354.out]; exact HP79.1); clear HP79; have n0_ := Aside0.mk (Kd.V_afterv (v := (.slice (some ⟨go75, oo75, none⟩) x17_2.length co78)) (v1 := (.slice (some ⟨go75, oo75, none⟩) x17_2.length co78)) (ok := (fun k_ => some k_ ≠ (.slice Ao76 t339.length co76 : Value).ownBlock ∧ some k_ ≠ (.slice (some ad343) t331.length co49 : Value).ownBlock)) (by (with_reducible repeat (first | apply Kd.V_alloc | apply Kd.V_drewN | apply Kd.V_drew)); exact Kd.V_mono HO_14.out (fun _ hk => ⟨⟨hk.2.1, hk.2.2⟩, hk.1⟩)) hg (.inl rfl)); have n1_ := Aside0.mk (hp_); have n2_ := Aside0.mk (Kd.R_after (v := (.slice (some ⟨go75, oo75, none⟩) x17_2.length co78)) (v1 := (.slice (some ⟨go75, oo75, none⟩) x17_2.length co78)) (ok := (fun _ => True)) (by (with_reducible repeat (first | apply Kd.R_alloc | apply Kd.R_drewN | apply Kd.R_drew)); exact Kd.R_mono HO_19.out (fun _ hk => ⟨trivial, hk⟩)) hg (.inl rfl)); have n3_ := Aside0.mk (Kd.R_over' (v := (.slice (some ⟨go75, oo75, none⟩) x17_2.length co78)) (by (with_reducible repeat (first | apply Kd.R_alloc | apply Kd.R_drewN | apply Kd.R_drew)); exact HO_95.out) (Kd.Q_typed HO_17.out) (by decide) hg); have n4_ := Aside0.mk ((by rw [hw]; exact below_set (HB.out) GB75.out : Below w.heap.size w w80)); clear HO_14; clear HO_17; clear HO_19; clear HO_95; clear HB; have HO_14 := n0_; have HO_17 := n1_; have HO_19 := n2_; have HO_95 := n3_; have HB := n4_; clear n0_ n1_ n2_ n3_ n4_; clear hg hw hp_))
                                  go_roundg k2
                                  case measure => have := HJ18.out; have := HK2.out; omega
                                  case rel => exact ⟨(y354), (wrap64 (x18_2 + 1)), (wrap64 (x97_2 + 1)), (by first | rfl | (simp; done) | (simp [*]; done)), (by first | rfl | (simp; done) | (simp [*]; done)), H', ⟨by have := HJ18.out; have := HK2.out; omega⟩, ⟨by (with_reducible repeat (first | apply Kd.V_alloc | apply Kd.V_drewN | apply Kd.V_drew)); exact Kd.V_mono HO_14.out (fun _ hk => ⟨hk.2, ⟨hk.1.1, hk.1.2⟩⟩)⟩, ⟨by (with_reducible repeat (first | apply Kd.Q_alloc | apply Kd.Q_drewN | apply Kd.Q_drew)); exact HO_17.out⟩, ⟨by (with_reducible repeat (first | apply Kd.R_alloc | apply Kd.R_drewN | apply Kd.R_drew)); exact Kd.R_mono HO_19.out (fun _ hk => hk.2)⟩, ⟨by (with_reducible repeat (first | apply Kd.R_alloc | apply Kd.R_drewN | apply Kd.R_drew)); exact HO_95.out⟩, ⟨by repeat (first | (with_reducible first | exact HB.out | apply below_alloc | apply pw_below_drewN | apply below_drew1) | exact HB.out)⟩⟩
                                · rw [if_neg c74] at H
                                  exact absurd H (by simp)
                              · rw [if_neg c73] at H
                                exact absurd H (by simp)
                        · rw [if_neg c52] at H
                          exact absurd H (by simp)
                      · rw [if_neg c51] at H
                        exact absurd H (by simp)
                    · rw [if_neg c50] at H
                      have c50b0 : decide (x97_2 < (t331.length : Int)) = false := decide_eq_false c50
                      clear c50
                      replace H := Option.bind_eq_some_iff.mp H
                      obtain ⟨t342, A810, H⟩ := H
                      replace H : (if t342 = true then (some (strOfNums x17_2, x18_2, 0)) else (some ((⟨#[]⟩ : ByteArray), 0, 280))) = some (r1, r2, r3) := H
                      have A81 := Aside0.mk A810
                      clear A810
                      by_cases c82 : t342 = true
                      · subst c82
                        have H1 : (some (strOfNums x17_2, x18_2, 0)) = some (r1, r2, r3) := by rw [if_pos rfl] at H; exact H
                        clear H
                        have H := H1
                        clear H1
                        simp only [Option.some.injEq, Prod.mk.injEq] at H
                        obtain ⟨rfl, rfl, rfl⟩ := H
                        have hcv83 := Kd.Q_string (P := Try.prog) Try.underlying28 Try.underlying5 Try.underlying9 HO_17.out
                        go_wp2_with (first | ((with_reducible refine gate_callee (f := 13) rfl ?_); refine goesL_ (some 137) rfl rfl Try.func13 (by kernel_rfl) rfl #[.string (strOfNums x17_2), .int .i64 a1] rfl (by (try simp only [List.map_toArray, List.map_cons, List.map_nil]); first | done | rfl | (simp only [List.length_drop, List.length_take]; rfl)) ?_; (with_reducible refine (rs_Right.calls k2 (strOfNums x17_2) a1 true _ A81.out).mono ?_); rintro e w84 ⟨rfl, hb⟩; refine ⟨_, rfl, ?_⟩; have n0_ := Aside0.mk (Kd.V_below (by (with_reducible repeat (first | apply Kd.V_alloc | apply Kd.V_drewN | apply Kd.V_drew)); exact HO_14.out) hb); have n1_ := Aside0.mk (Kd.Q_below (by (with_reducible repeat (first | apply Kd.Q_alloc | apply Kd.Q_drewN | apply Kd.Q_drew)); exact HO_17.out) hb); have n2_ := Aside0.mk (Kd.R_below (by (with_reducible repeat (first | apply Kd.R_alloc | apply Kd.R_drewN | apply Kd.R_drew)); exact HO_19.out) hb); have n3_ := Aside0.mk (Kd.R_below (by (with_reducible repeat (first | apply Kd.R_alloc | apply Kd.R_drewN | apply Kd.R_drew)); exact HO_95.out) hb); have n4_ := Aside0.mk (below_step (by repeat (first | (with_reducible first | exact HB.out | apply below_alloc | apply pw_below_drewN | apply below_drew1) | exact HB.out)) hb); clear HO_14; clear HO_17; clear HO_19; clear HO_95; clear HB; have HO_14 := n0_; have HO_17 := n1_; have HO_19 := n2_; have HO_95 := n3_; have HB := n4_; clear n0_ n1_ n2_ n3_ n4_; (try clear hb); (try clear hb2); (try clear hk); (try clear hi); have hcv85 := Kd.Q_string (P := Try.prog) Try.underlying28 Try.underlying5 Try.underlying9 HO_17.out))
                        go_ret3
                        exact ⟨by first | rfl | (simp [errW_none, errW_some] <;> rfl) | (simp [*, errW_none, errW_some] <;> rfl), by repeat (first | (with_reducible first | exact HB.out | apply below_alloc | apply pw_below_drewN | apply below_drew1) | exact HB.out)⟩
                      · replace c82 := Bool.eq_false_iff.mpr c82
                        subst c82
                        have H1 : (some ((⟨#[]⟩ : ByteArray), 0, 280)) = some (r1, r2, r3) := by rw [if_neg (show ¬ (false = true) by decide)] at H; exact H
                        clear H
                        have H := H1
                        clear H1
                        simp only [Option.some.injEq, Prod.mk.injEq] at H
                        obtain ⟨rfl, rfl, rfl⟩ := H
                        have hcv86 := Kd.Q_string (P := Try.prog) Try.underlying28 Try.underlying5 Try.underlying9 HO_17.out
                        go_wp2_with (first | ((with_reducible refine gate_callee (f := 13) rfl ?_); refine goesL_ (some 137) rfl rfl Try.func13 (by kernel_rfl) rfl #[.string (strOfNums x17_2), .int .i64 a1] rfl (by (try simp only [List.map_toArray, List.map_cons, List.map_nil]); first | done | rfl | (simp only [List.length_drop, List.length_take]; rfl)) ?_; (with_reducible refine (rs_Right.calls k2 (strOfNums x17_2) a1 false _ A81.out).mono ?_); rintro e w87 ⟨rfl, hb⟩; refine ⟨_, rfl, ?_⟩; have n0_ := Aside0.mk (Kd.V_below (by (with_reducible repeat (first | apply Kd.V_alloc | apply Kd.V_drewN | apply Kd.V_drew)); exact HO_14.out) hb); have n1_ := Aside0.mk (Kd.Q_below (by (with_reducible repeat (first | apply Kd.Q_alloc | apply Kd.Q_drewN | apply Kd.Q_drew)); exact HO_17.out) hb); have n2_ := Aside0.mk (Kd.R_below (by (with_reducible repeat (first | apply Kd.R_alloc | apply Kd.R_drewN | apply Kd.R_drew)); exact HO_19.out) hb); have n3_ := Aside0.mk (Kd.R_below (by (with_reducible repeat (first | apply Kd.R_alloc | apply Kd.R_drewN | apply Kd.R_drew)); exact HO_95.out) hb); have n4_ := Aside0.mk (below_step (by repeat (first | (with_reducible first | exact HB.out | apply below_alloc | apply pw_below_drewN | apply below_drew1) | exact HB.out)) hb); clear HO_14; clear HO_17; clear HO_19; clear HO_95; clear HB; have HO_14 := n0_; have HO_17 := n1_; have HO_19 := n2_; have HO_95 := n3_; have HB := n4_; clear n0_ n1_ n2_ n3_ n4_; (try clear hb); (try clear hb2); (try clear hk); (try clear hi)))
                        go_ret3
                        exact ⟨by first | rfl | (simp [errW_none, errW_some] <;> rfl) | (simp [*, errW_none, errW_some] <;> rfl), by repeat (first | (with_reducible first | exact HB.out | apply below_alloc | apply pw_below_drewN | apply below_drew1) | exact HB.out)⟩
              · rw [if_neg c44] at H
                exact absurd H (by simp)
    · replace c7 := Bool.eq_false_iff.mpr c7
      subst c7
      have H1 : (some ((⟨#[]⟩ : ByteArray), 0, 280)) = some (r1, r2, r3) := by rw [if_neg (show ¬ (false = true) by decide)] at H; exact H
      clear H
      have H := H1
      clear H1
      simp only [Option.some.injEq, Prod.mk.injEq] at H
      obtain ⟨rfl, rfl, rfl⟩ := H
      go_enter Try.func17, Try.ntmps17
      go_wp2_with (first | ((with_reducible refine gate_callee (f := 28) rfl ?_); refine goesL_ (some 30) rfl rfl Try.func28 (by kernel_rfl) rfl #[.slice A2 l2.length c2, .int .i64 (a0.size : Int), .int .i64 a1] rfl (by (try simp only [List.map_toArray, List.map_cons, List.map_nil]); first | done | rfl | (simp only [List.length_drop, List.length_take]; rfl)) ?_; (with_reducible refine (rs_lostOf.calls k _ _ l2 (a0.size : Int) a1 t304 false _ ?side1 ?side2 A4.out).mono ?_); (case side1 => repeat (first | exact HR2.out | (with_reducible refine Kd.C_alloc ?_ _) | (with_reducible refine Kd.C_drewN ?_ _) | (with_reducible refine Kd.C_drew ?_))); (case side2 => exact HC2.out); rintro e w88 ⟨v306, rfl, ho0, hb⟩; refine ⟨_, rfl, ?_⟩; have n0_ := Aside0.mk (Kd.R_lower ho0 (below_size (by repeat (first | (with_reducible first | exact HB.out | apply below_alloc | apply pw_below_drewN | apply below_drew1) | exact HB.out)))); have n1_ := Aside0.mk (below_step (by repeat (first | (with_reducible first | exact HB.out | apply below_alloc | apply pw_below_drewN | apply below_drew1) | exact HB.out)) hb); clear HB; have HO307 := n0_; have HB := n1_; clear n0_ n1_; (try clear hb); (try clear hb2); (try clear hk); (try clear hi); (try clear ho0)) | ((with_reducible refine gate_callee (f := 15) rfl ?_); refine goesL_ (some 37) rfl rfl Try.func15 (by kernel_rfl) rfl #[.int .i64 (a0.size : Int), .int .i64 a1] rfl (by (try simp only [List.map_toArray, List.map_cons, List.map_nil]); first | done | rfl | (simp only [List.length_drop, List.length_take]; rfl)) ?_; (with_reducible refine (rs_Check.calls (a0.size : Int) a1 true _ A5.out).mono ?_); rintro e w' ⟨rfl, ⟨nd, rfl⟩⟩; refine ⟨_, rfl, ?_⟩))
      go_ret3
      exact ⟨by first | rfl | (simp [errW_none, errW_some] <;> rfl) | (simp [*, errW_none, errW_some] <;> rfl), by repeat (first | (with_reducible first | exact HB.out | apply below_alloc | apply pw_below_drewN | apply below_drew1) | exact HB.out)⟩
  · replace c6 := Bool.eq_false_iff.mpr c6
    subst c6
    have H1 : (some ((⟨#[]⟩ : ByteArray), 0, 1)) = some (r1, r2, r3) := by rw [if_neg (show ¬ (false = true) by decide)] at H; exact H
    clear H
    have H := H1
    clear H1
    simp only [Option.some.injEq, Prod.mk.injEq] at H
    obtain ⟨rfl, rfl, rfl⟩ := H
    go_enter Try.func17, Try.ntmps17
    go_wp2_with (first | ((with_reducible refine gate_callee (f := 28) rfl ?_); refine goesL_ (some 30) rfl rfl Try.func28 (by kernel_rfl) rfl #[.slice A2 l2.length c2, .int .i64 (a0.size : Int), .int .i64 a1] rfl (by (try simp only [List.map_toArray, List.map_cons, List.map_nil]); first | done | rfl | (simp only [List.length_drop, List.length_take]; rfl)) ?_; (with_reducible refine (rs_lostOf.calls k _ _ l2 (a0.size : Int) a1 t304 t305 _ ?side1 ?side2 A4.out).mono ?_); (case side1 => repeat (first | exact HR2.out | (with_reducible refine Kd.C_alloc ?_ _) | (with_reducible refine Kd.C_drewN ?_ _) | (with_reducible refine Kd.C_drew ?_))); (case side2 => exact HC2.out); rintro e w89 ⟨v306, rfl, ho0, hb⟩; refine ⟨_, rfl, ?_⟩; have n0_ := Aside0.mk (Kd.R_lower ho0 (below_size (by repeat (first | (with_reducible first | exact HB.out | apply below_alloc | apply pw_below_drewN | apply below_drew1) | exact HB.out)))); have n1_ := Aside0.mk (below_step (by repeat (first | (with_reducible first | exact HB.out | apply below_alloc | apply pw_below_drewN | apply below_drew1) | exact HB.out)) hb); clear HB; have HO307 := n0_; have HB := n1_; clear n0_ n1_; (try clear hb); (try clear hb2); (try clear hk); (try clear hi); (try clear ho0)) | ((with_reducible refine gate_callee (f := 15) rfl ?_); refine goesL_ (some 37) rfl rfl Try.func15 (by kernel_rfl) rfl #[.int .i64 (a0.size : Int), .int .i64 a1] rfl (by (try simp only [List.map_toArray, List.map_cons, List.map_nil]); first | done | rfl | (simp only [List.length_drop, List.length_take]; rfl)) ?_; (with_reducible refine (rs_Check.calls (a0.size : Int) a1 false _ A5.out).mono ?_); rintro e w' ⟨rfl, ⟨nd, rfl⟩⟩; refine ⟨_, rfl, ?_⟩))
    go_ret3
    exact ⟨by first | rfl | (simp [errW_none, errW_some] <;> rfl) | (simp [*, errW_none, errW_some] <;> rfl), by repeat (first | (with_reducible first | exact HB.out | apply below_alloc | apply pw_below_drewN | apply below_drew1) | exact HB.out)⟩
def tinderboxlaw28_awake.j0 : Nat → ByteArray → Bool → Option (Bool)
  | 0, _, _ => none
  | k + 1, x1, x16 => if x16 = true then (some false) else (if 4 ≤ (x1.size : Int) then (if 4 + (x1.extract 4 x1.size).size ≤ 9223372036854775807 then ((rs_Decode.f k ((⟨#[116, 105, 120, 116]⟩ : ByteArray) ++ (x1.extract 4 x1.size)) 4 ([] : List Int)).bind fun bt357 => (if bt357.2.2 = 0 then (if bt357.1.toList = x1.toList then (if bt357.2.1 = 1 then ((rs_Right.f k x1 4).bind fun t360 => (some t360)) else (some false)) else (some false)) else (some false))) else (none)) else (none))
def tinderboxlaw28_awake.f (k : Nat)  : Option (Bool) := (rs_Encode.f k (⟨#[116, 101, 120, 116]⟩ : ByteArray) 4).bind fun bt355 => (if bt355.2 = 0 then (tinderboxlaw28_awake.j0 k bt355.1 ((bt355.1.size : Int) != 8)) else (tinderboxlaw28_awake.j0 k bt355.1 true))
theorem tinderboxlaw28_awake.mono_l : ∀ k, (∀ y0 y1, LeO (tinderboxlaw28_awake.j0 k y0 y1) (tinderboxlaw28_awake.j0 (k + 1) y0 y1))
  | 0 => fun _ _ r h => by simp [tinderboxlaw28_awake.j0] at h
  | k + 1 => by
    have ih0 := tinderboxlaw28_awake.mono_l k
    · intro y0 y1
      unfold tinderboxlaw28_awake.j0
      repeat' first
      | (with_reducible exact ih0 _ _)
      | (with_reducible exact rs_Decode.mono _ _ _ _)
      | (with_reducible exact rs_Encode.mono _ _ _)
      | (with_reducible exact rs_Right.mono _ _ _)
      | (with_reducible exact LeO.refl _)
      | (with_reducible exact LeO.none _)
      | (with_reducible refine LeO.ite ?_ ?_)
      | (with_reducible refine LeO.bind ?_ (fun _ => ?_))
      | exact ih0 _ _
      | exact rs_Decode.mono _ _ _ _
      | exact rs_Encode.mono _ _ _
      | exact rs_Right.mono _ _ _
      | exact LeO.none _
      | refine LeO.ite ?_ ?_
      | refine LeO.bind ?_ (fun _ => ?_)
theorem tinderboxlaw28_awake.mono : ∀ k, LeO (tinderboxlaw28_awake.f k ) (tinderboxlaw28_awake.f (k + 1) ) := by
  intro  k
  have ih0 := tinderboxlaw28_awake.mono_l k
  unfold tinderboxlaw28_awake.f
  repeat' first
      | (with_reducible exact ih0 _ _)
      | (with_reducible exact rs_Decode.mono _ _ _ _)
      | (with_reducible exact rs_Encode.mono _ _ _)
      | (with_reducible exact rs_Right.mono _ _ _)
      | (with_reducible exact LeO.refl _)
      | (with_reducible exact LeO.none _)
      | (with_reducible refine LeO.ite ?_ ?_)
      | (with_reducible refine LeO.bind ?_ (fun _ => ?_))
      | exact ih0 _ _
      | exact rs_Decode.mono _ _ _ _
      | exact rs_Encode.mono _ _ _
      | exact rs_Right.mono _ _ _
      | exact LeO.none _
      | refine LeO.ite ?_ ?_
      | refine LeO.bind ?_ (fun _ => ?_)
set_option maxHeartbeats 8000000 in
set_option maxRecDepth 100000 in
theorem tinderboxlaw28_awake.calls (k : Nat)  (r : Bool) (w : World) (h : tinderboxlaw28_awake.f k  = some r) :
    Calls Try.prog 11 #[] w fun e w' => e = .returned (.bool r) ∧ Below w.heap.size w w' := by
  have HB := Aside0.mk (Below.refl w.heap.size w)
  have H : ((rs_Encode.f k (⟨#[116, 101, 120, 116]⟩ : ByteArray) 4).bind fun bt355 => (if bt355.2 = 0 then (tinderboxlaw28_awake.j0 k bt355.1 ((bt355.1.size : Int) != 8)) else (tinderboxlaw28_awake.j0 k bt355.1 true))) = some r := h
  clear h
  replace H := Option.bind_eq_some_iff.mp H
  obtain ⟨⟨t355, t356⟩, A10, H⟩ := H
  replace H : (if t356 = 0 then (tinderboxlaw28_awake.j0 k t355 ((t355.size : Int) != 8)) else (tinderboxlaw28_awake.j0 k t355 true)) = some r := H
  have A1 := Aside0.mk A10
  clear A10
  have HC2 := Aside0.mk H
  clear H
  go_enter Try.func11, Try.ntmps11
  go_upto_region 2 with (first | ((with_reducible refine gate_callee (f := 10) rfl ?_); refine goesL_ (some 7) rfl rfl Try.func10 (by kernel_rfl) rfl #[.string (⟨#[116, 101, 120, 116]⟩ : ByteArray), .int .i64 4] rfl (by (try simp only [List.map_toArray, List.map_cons, List.map_nil]); first | done | rfl | (simp only [List.length_drop, List.length_take]; rfl)) ?_; (with_reducible refine (rs_Encode.calls k (⟨#[116, 101, 120, 116]⟩ : ByteArray) 4 t355 t356 _ A1.out).mono ?_); rintro e w3 ⟨rfl, hb⟩; refine ⟨_, rfl, ?_⟩; have n0_ := Aside0.mk (below_step (by repeat (first | (with_reducible first | exact HB.out | apply below_alloc | apply pw_below_drewN | apply below_drew1) | exact HB.out)) hb); clear HB; have HB := n0_; clear n0_; (try clear hb); (try clear hb2); (try clear hk); (try clear hi)))
  (try simp only [Act.put, List.setIfInBounds_toArray, List.set_cons_zero, List.set_cons_succ])
  go_cut [16] (fun v16 wc => ∃ (kq : Nat) (x16_1 : Bool), v16 = .bool x16_1 ∧ Aside0 (tinderboxlaw28_awake.j0 kq t355 x16_1 = some r) ∧ Aside0 (kq ≤ k) ∧ Aside0 (Below w.heap.size w wc))
  case first =>
    have H := HC2.out
    clear HC2
    by_cases c4 : t356 = 0
    · rw [if_pos c4] at H
      have c4b0 : (t356 == 0) = true := beq_iff_eq.mpr c4
      have c4b1 : (t356 != 0) = false := bne_eq_false_iff_eq.mpr c4
      clear c4
      (first | rw [c4b0] | (simp only [i64_w, i32_w]; rw [c4b0]) | skip)
      have H' := Aside0.mk H
      clear H
      go_wp2
      go_meet
      case rel => exact ⟨_, (((t355.size : Int) != 8)), (by first | rfl | (simp; done) | (simp [*]; done)), H', ⟨by first | omega | exact Nat.le_refl _⟩, ⟨by repeat (first | (with_reducible first | exact HB.out | apply below_alloc | apply pw_below_drewN | apply below_drew1) | exact HB.out)⟩⟩
    · rw [if_neg c4] at H
      have c4b0 : (t356 == 0) = false := beq_eq_false_iff_ne.mpr c4
      have c4b1 : (t356 != 0) = true := bne_iff_ne.mpr c4
      (first | rw [c4b0] | (simp only [i64_w, i32_w]; rw [c4b0]) | skip)
      have H' := Aside0.mk H
      clear H
      go_wp2
      go_meet
      case rel => exact ⟨_, (true), (by first | rfl | (simp; done) | (simp [*]; done)), H', ⟨by first | omega | exact Nat.le_refl _⟩, ⟨by repeat (first | (with_reducible first | exact HB.out | apply below_alloc | apply pw_below_drewN | apply below_drew1) | exact HB.out)⟩⟩
  case rest =>
    clear HC2
    try clear c1
    try clear p2
    try clear c4
    try clear c4b0
    try clear c4b1
    obtain ⟨kq, x16_1, rfl, HA, HJ1, HB⟩ := hcut
    cases kq with
    | zero => exact absurd HA.out (by simp [tinderboxlaw28_awake.j0])
    | succ kj1 =>
      have H := HA.out
      clear HA
      simp only [tinderboxlaw28_awake.j0] at H
      by_cases c5 : x16_1 = true
      · subst c5
        have H1 : (some false) = some r := by rw [if_pos rfl] at H; exact H
        clear H
        have H := H1
        clear H1
        obtain rfl := Option.some.inj H
        go_wp2
        go_ret
        exact ⟨by first | rfl | (simp [errW_none, errW_some] <;> rfl) | (simp [*, errW_none, errW_some] <;> rfl), by repeat (first | (with_reducible first | exact HB.out | apply below_alloc | apply pw_below_drewN | apply below_drew1) | exact HB.out)⟩
      · replace c5 := Bool.eq_false_iff.mpr c5
        subst c5
        have H1 : (if 4 ≤ (t355.size : Int) then (if 4 + (t355.extract 4 t355.size).size ≤ 9223372036854775807 then ((rs_Decode.f kj1 ((⟨#[116, 105, 120, 116]⟩ : ByteArray) ++ (t355.extract 4 t355.size)) 4 ([] : List Int)).bind fun bt357 => (if bt357.2.2 = 0 then (if bt357.1.toList = t355.toList then (if bt357.2.1 = 1 then ((rs_Right.f kj1 t355 4).bind fun t360 => (some t360)) else (some false)) else (some false)) else (some false))) else (none)) else (none)) = some r := by rw [if_neg (show ¬ (false = true) by decide)] at H; exact H
        clear H
        have H := H1
        clear H1
        by_cases c6 : 4 ≤ (t355.size : Int)
        · rw [if_pos c6] at H
          have c6b0 := eq_true c6
          have c6b1 : decide (4 ≤ (t355.size : Int)) = true := decide_eq_true c6
          clear c6
          by_cases c7 : 4 + (t355.extract 4 t355.size).size ≤ 9223372036854775807
          · rw [if_pos c7] at H
            have c7b0 := eq_true c7
            have c7b1 : decide (4 + (t355.extract 4 t355.size).size ≤ 9223372036854775807) = true := decide_eq_true c7
            try have c7b2 : (9223372036854775807 < 4 + (t355.extract 4 t355.size).size) = False := eq_false (Nat.not_lt.2 c7)
            (try (have c7e := c7; simp only [ByteArray.size_extract, Nat.min_self, ByteArray.size_append] at c7e; have c7b3 := eq_false (Nat.not_lt.2 c7e); clear c7e))
            replace H := Option.bind_eq_some_iff.mp H
            obtain ⟨⟨t357, t358, t359⟩, A80, H⟩ := H
            replace H : (if t359 = 0 then (if t357.toList = t355.toList then (if t358 = 1 then ((rs_Right.f kj1 t355 4).bind fun t360 => (some t360)) else (some false)) else (some false)) else (some false)) = some r := H
            have A8 := Aside0.mk A80
            clear A80
            by_cases c9 : t359 = 0
            · rw [if_pos c9] at H
              have c9b0 : (t359 == 0) = true := beq_iff_eq.mpr c9
              have c9b1 : (t359 != 0) = false := bne_eq_false_iff_eq.mpr c9
              clear c9
              by_cases c10 : t357.toList = t355.toList
              · rw [if_pos c10] at H
                have c10b0 : (t357.toList == t355.toList) = true := beq_iff_eq.mpr c10
                have c10b1 : (t357.toList != t355.toList) = false := bne_eq_false_iff_eq.mpr c10
                clear c10
                by_cases c11 : t358 = 1
                · rw [if_pos c11] at H
                  have c11b0 : (t358 == 1) = true := beq_iff_eq.mpr c11
                  have c11b1 : (t358 != 1) = false := bne_eq_false_iff_eq.mpr c11
                  clear c11
                  replace H := Option.bind_eq_some_iff.mp H
                  obtain ⟨t360, A120, H⟩ := H
                  replace H : (some t360) = some r := H
                  have A12 := Aside0.mk A120
                  clear A120
                  obtain rfl := Option.some.inj H
                  go_wp2_with (first | ((with_reducible refine gate_callee (f := 17) rfl ?_); refine goesL_ (some 21) rfl rfl Try.func17 (by kernel_rfl) rfl #[.string ((⟨#[116, 105, 120, 116]⟩ : ByteArray) ++ (t355.extract 4 t355.size)), .int .i64 4, .slice none 0 0] rfl (by (try simp only [List.map_toArray, List.map_cons, List.map_nil]); first | done | rfl | (simp only [List.length_drop, List.length_take]; rfl)) ?_; (refine (rs_Decode.calls kj1 ((⟨#[116, 105, 120, 116]⟩ : ByteArray) ++ (t355.extract 4 t355.size)) 4 _ _ ([] : List Int) t357 t358 t359 _ ?side1 ?side2 A8.out).mono ?_); (case side1 => exact Kd.C_nil _ _); (case side2 => exact Nat.le_refl _); rintro e w13 ⟨rfl, hb⟩; refine ⟨_, rfl, ?_⟩; have n0_ := Aside0.mk (below_step (by repeat (first | (with_reducible first | exact HB.out | apply below_alloc | apply pw_below_drewN | apply below_drew1) | exact HB.out)) hb); clear HB; have HB := n0_; clear n0_; (try clear hb); (try clear hb2); (try clear hk); (try clear hi)) | (go_at_call 13; (with_reducible refine (rs_Right.calls kj1 t355 4 t360 _ A12.out).mono ?_); rintro e w14 ⟨rfl, hb⟩; have n0_ := Aside0.mk (below_step (by repeat (first | (with_reducible first | exact HB.out | apply below_alloc | apply pw_below_drewN | apply below_drew1) | exact HB.out)) hb); clear HB; have HB := n0_; clear n0_; (try clear hb); (try clear hb2); (try clear hk); (try clear hi)))
                  go_ret
                  exact ⟨by first | rfl | (simp [errW_none, errW_some] <;> rfl) | (simp [*, errW_none, errW_some] <;> rfl), by repeat (first | (with_reducible first | exact HB.out | apply below_alloc | apply pw_below_drewN | apply below_drew1) | exact HB.out)⟩
                · rw [if_neg c11] at H
                  have c11b0 : (t358 == 1) = false := beq_eq_false_iff_ne.mpr c11
                  have c11b1 : (t358 != 1) = true := bne_iff_ne.mpr c11
                  obtain rfl := Option.some.inj H
                  go_wp2_with (first | ((with_reducible refine gate_callee (f := 17) rfl ?_); refine goesL_ (some 21) rfl rfl Try.func17 (by kernel_rfl) rfl #[.string ((⟨#[116, 105, 120, 116]⟩ : ByteArray) ++ (t355.extract 4 t355.size)), .int .i64 4, .slice none 0 0] rfl (by (try simp only [List.map_toArray, List.map_cons, List.map_nil]); first | done | rfl | (simp only [List.length_drop, List.length_take]; rfl)) ?_; (refine (rs_Decode.calls kj1 ((⟨#[116, 105, 120, 116]⟩ : ByteArray) ++ (t355.extract 4 t355.size)) 4 _ _ ([] : List Int) t357 t358 t359 _ ?side1 ?side2 A8.out).mono ?_); (case side1 => exact Kd.C_nil _ _); (case side2 => exact Nat.le_refl _); rintro e w15 ⟨rfl, hb⟩; refine ⟨_, rfl, ?_⟩; have n0_ := Aside0.mk (below_step (by repeat (first | (with_reducible first | exact HB.out | apply below_alloc | apply pw_below_drewN | apply below_drew1) | exact HB.out)) hb); clear HB; have HB := n0_; clear n0_; (try clear hb); (try clear hb2); (try clear hk); (try clear hi)))
                  go_ret
                  exact ⟨by first | rfl | (simp [errW_none, errW_some] <;> rfl) | (simp [*, errW_none, errW_some] <;> rfl), by repeat (first | (with_reducible first | exact HB.out | apply below_alloc | apply pw_below_drewN | apply below_drew1) | exact HB.out)⟩
              · rw [if_neg c10] at H
                have c10b0 : (t357.toList == t355.toList) = false := beq_eq_false_iff_ne.mpr c10
                have c10b1 : (t357.toList != t355.toList) = true := bne_iff_ne.mpr c10
                obtain rfl := Option.some.inj H
                go_wp2_with (first | ((with_reducible refine gate_callee (f := 17) rfl ?_); refine goesL_ (some 21) rfl rfl Try.func17 (by kernel_rfl) rfl #[.string ((⟨#[116, 105, 120, 116]⟩ : ByteArray) ++ (t355.extract 4 t355.size)), .int .i64 4, .slice none 0 0] rfl (by (try simp only [List.map_toArray, List.map_cons, List.map_nil]); first | done | rfl | (simp only [List.length_drop, List.length_take]; rfl)) ?_; (refine (rs_Decode.calls kj1 ((⟨#[116, 105, 120, 116]⟩ : ByteArray) ++ (t355.extract 4 t355.size)) 4 _ _ ([] : List Int) t357 t358 t359 _ ?side1 ?side2 A8.out).mono ?_); (case side1 => exact Kd.C_nil _ _); (case side2 => exact Nat.le_refl _); rintro e w16 ⟨rfl, hb⟩; refine ⟨_, rfl, ?_⟩; have n0_ := Aside0.mk (below_step (by repeat (first | (with_reducible first | exact HB.out | apply below_alloc | apply pw_below_drewN | apply below_drew1) | exact HB.out)) hb); clear HB; have HB := n0_; clear n0_; (try clear hb); (try clear hb2); (try clear hk); (try clear hi)))
                go_ret
                exact ⟨by first | rfl | (simp [errW_none, errW_some] <;> rfl) | (simp [*, errW_none, errW_some] <;> rfl), by repeat (first | (with_reducible first | exact HB.out | apply below_alloc | apply pw_below_drewN | apply below_drew1) | exact HB.out)⟩
            · rw [if_neg c9] at H
              have c9b0 : (t359 == 0) = false := beq_eq_false_iff_ne.mpr c9
              have c9b1 : (t359 != 0) = true := bne_iff_ne.mpr c9
              obtain rfl := Option.some.inj H
              go_wp2_with (first | ((with_reducible refine gate_callee (f := 17) rfl ?_); refine goesL_ (some 21) rfl rfl Try.func17 (by kernel_rfl) rfl #[.string ((⟨#[116, 105, 120, 116]⟩ : ByteArray) ++ (t355.extract 4 t355.size)), .int .i64 4, .slice none 0 0] rfl (by (try simp only [List.map_toArray, List.map_cons, List.map_nil]); first | done | rfl | (simp only [List.length_drop, List.length_take]; rfl)) ?_; (refine (rs_Decode.calls kj1 ((⟨#[116, 105, 120, 116]⟩ : ByteArray) ++ (t355.extract 4 t355.size)) 4 _ _ ([] : List Int) t357 t358 t359 _ ?side1 ?side2 A8.out).mono ?_); (case side1 => exact Kd.C_nil _ _); (case side2 => exact Nat.le_refl _); rintro e w17 ⟨rfl, hb⟩; refine ⟨_, rfl, ?_⟩; have n0_ := Aside0.mk (below_step (by repeat (first | (with_reducible first | exact HB.out | apply below_alloc | apply pw_below_drewN | apply below_drew1) | exact HB.out)) hb); clear HB; have HB := n0_; clear n0_; (try clear hb); (try clear hb2); (try clear hk); (try clear hi)))
              go_ret
              exact ⟨by first | rfl | (simp [errW_none, errW_some] <;> rfl) | (simp [*, errW_none, errW_some] <;> rfl), by repeat (first | (with_reducible first | exact HB.out | apply below_alloc | apply pw_below_drewN | apply below_drew1) | exact HB.out)⟩
          · rw [if_neg c7] at H
            exact absurd H (by simp)
        · rw [if_neg c6] at H
          exact absurd H (by simp)
end Go.Proofs.Ytconplohaaohlaa.XRs
