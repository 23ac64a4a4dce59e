import Derived.Test.YtconplohaaohlaaXRsx0
import Derived.Test.YtconplohaaohlaaXRsx1
import Derived.Test.YtconplohaaohlaaXRsx3
import Derived.Test.YtconplohaaohlaaXRsx5
namespace Go.Proofs.Ytconplohaaohlaa.XRs
open Go.RowKit Go.Proofs.YtconplohaaohlaaX.PrintWords Go.Proofs.YtconplohaaohlaaX.PrintLast Go.Proofs.YtconplohaaohlaaX.PrintMore
attribute [local go_sem] max2_int min2_int max_two min_two max_three min_three max_four min_four
set_option linter.unusedVariables false
set_option linter.unusedSimpArgs false
mutual
def tinderboxlaw28_RsDecodes.j0 : Nat → List (S36) → Int → ByteArray → Bool → Option (Bool)
  | 0, _, _, _, _ => none
  | k + 1, x2, x8, x9, x38 => if x38 = true then (some false) else (if x9.size ≤ 9223372036854775807 then ((some (bytesOf x9 : List Int)).bind fun y385 => (if 0 ≤ (y385.length : Int) then (if ((y385.length : Int) : Int).toNat ≤ 281474976710656 then (tinderboxlaw28_RsDecodes.l0 k x2 x8 x9 y385 (([] : List Int)) 0 0 (List.replicate ((y385.length : Int) : Int).toNat false) 0) else (none)) else (none))) else (none))
def tinderboxlaw28_RsDecodes.l0 : Nat → List (S36) → Int → ByteArray → List Int → List Int → Int → Int → List Bool → Int → Option (Bool)
  | 0, _, _, _, _, _, _, _, _, _ => none
  | k + 1, x2, x8, x9, x11, x12, x13, x14, x15, x16 => if x16 < (x2.length : Int) then (tinderboxlaw28_RsDecodes.j2 k x2 x8 x9 x11 x12 x13 x14 x15 x16 (decide (x16 < 40))) else (tinderboxlaw28_RsDecodes.j2 k x2 x8 x9 x11 x12 x13 x14 x15 x16 false)
def tinderboxlaw28_RsDecodes.j2 : Nat → List (S36) → Int → ByteArray → List Int → List Int → Int → Int → List Bool → Int → Bool → Option (Bool)
  | 0, _, _, _, _, _, _, _, _, _, _ => none
  | k + 1, x2, x8, x9, x11, x12, x13, x14, x15, x16, x52 => if x52 = true then (if 0 ≤ x16 then (if x16 < (x2.length : Int) then (if (x11.length : Int) = 0 then (none) else (if (rd_T36 x2 x16).f2 = true then (tinderboxlaw28_RsDecodes.j3 k x2 x8 x9 x11 x12 x13 x14 x15 x16 (Int.tmod (wrap64 ((Int.tmod ((rd_T36 x2 x16).f0) (x11.length : Int)) + (x11.length : Int))) (x11.length : Int)) 1) else (tinderboxlaw28_RsDecodes.j3 k x2 x8 x9 x11 x12 x13 x14 x15 x16 (Int.tmod (wrap64 ((Int.tmod ((rd_T36 x2 x16).f0) (x11.length : Int)) + (x11.length : Int))) (x11.length : Int)) 2))) else (none)) else (none)) else ((rs_Decode.f k (strOfNums x11) x8 x12).bind fun bt394 => (if bt394.2.2 = 0 then (if bt394.1.toList = x9.toList then (some (bt394.2.1 == x14)) else (some false)) else (some false)))
def tinderboxlaw28_RsDecodes.j3 : Nat → List (S36) → Int → ByteArray → List Int → List Int → Int → Int → List Bool → Int → Int → Int → Option (Bool)
  | 0, _, _, _, _, _, _, _, _, _, _, _ => none
  | k + 1, x2, x8, x9, x11, x12, x13, x14, x15, x16, x17, x18 => if 0 ≤ x17 then (if x17 < (x15.length : Int) then (if rdOf false x15 x17 = true then (tinderboxlaw28_RsDecodes.j4 k x2 x8 x9 x11 x12 x13 x14 x15 x16 x17 x18 true) else (if (wrap64 (x13 + x18)) > x8 then (tinderboxlaw28_RsDecodes.j4 k x2 x8 x9 x11 x12 x13 x14 x15 x16 x17 x18 true) else (if 0 ≤ x16 then (if x16 < (x2.length : Int) then (if ((rd_T36 x2 x16).f2 = true) then (tinderboxlaw28_RsDecodes.j4 k x2 x8 x9 x11 x12 x13 x14 x15 x16 x17 x18 false) else (tinderboxlaw28_RsDecodes.j4 k x2 x8 x9 x11 x12 x13 x14 x15 x16 x17 x18 (((rd_T36 x2 x16).f1) == 0))) else (none)) else (none)))) else (none)) else (none)
def tinderboxlaw28_RsDecodes.j4 : Nat → List (S36) → Int → ByteArray → List Int → List Int → Int → Int → List Bool → Int → Int → Int → Bool → Option (Bool)
  | 0, _, _, _, _, _, _, _, _, _, _, _, _ => none
  | k + 1, x2, x8, x9, x11, x12, x13, x14, x15, x16, x17, x18, x100 => if x100 = true then (tinderboxlaw28_RsDecodes.l0 k x2 x8 x9 x11 x12 x13 x14 x15 (wrap64 (x16 + 1))) else (if 0 ≤ x17 then (if x17 < (x15.length : Int) then ((some (x15.set (x17 : Int).toNat true : List Bool)).bind fun y402 => (if x17 < (x11.length : Int) then (if 0 ≤ x16 then (if x16 < (x2.length : Int) then ((some (x11.set (x17 : Int).toNat (Go.bits .xor .u8 (rd x11 x17) ((rd_T36 x2 x16).f1)) : List Int)).bind fun y405 => (if ((rd_T36 x2 x16).f1) = 0 then (if (rd_T36 x2 x16).f2 = true then (if x12.length < 17592186044416 then (tinderboxlaw28_RsDecodes.l0 k x2 x8 x9 y405 (x12 ++ [x17]) (wrap64 (x13 + x18)) x14 y402 (wrap64 (x16 + 1))) else (none)) else (tinderboxlaw28_RsDecodes.l0 k x2 x8 x9 y405 x12 (wrap64 (x13 + x18)) x14 y402 (wrap64 (x16 + 1)))) else (if (rd_T36 x2 x16).f2 = true then (if x12.length < 17592186044416 then (tinderboxlaw28_RsDecodes.l0 k x2 x8 x9 y405 (x12 ++ [x17]) (wrap64 (x13 + x18)) (wrap64 (x14 + 1)) y402 (wrap64 (x16 + 1))) else (none)) else (tinderboxlaw28_RsDecodes.l0 k x2 x8 x9 y405 x12 (wrap64 (x13 + x18)) (wrap64 (x14 + 1)) y402 (wrap64 (x16 + 1)))))) else (none)) else (none)) else (none))) else (none)) else (none))
end
def tinderboxlaw28_RsDecodes.f (k : Nat) (a0 : ByteArray) (a1 : Int) (l2 : List (S36)) : Option (Bool) := (tinderboxlaw28_few.f a0).bind fun t381 => ((rs_Encode.f k t381 (wrap64 (1 + (Go.bits .and .i64 a1 15)))).bind fun bt382 => ((tinderboxlaw28_awake.f k).bind fun t384 => (if t384 = true then (tinderboxlaw28_RsDecodes.j0 k l2 (wrap64 (1 + (Go.bits .and .i64 a1 15))) bt382.1 (bt382.2 != 0)) else (tinderboxlaw28_RsDecodes.j0 k l2 (wrap64 (1 + (Go.bits .and .i64 a1 15))) bt382.1 true))))
theorem tinderboxlaw28_RsDecodes.mono_l : ∀ k, (∀ y0 y1 y2 y3, LeO (tinderboxlaw28_RsDecodes.j0 k y0 y1 y2 y3) (tinderboxlaw28_RsDecodes.j0 (k + 1) y0 y1 y2 y3)) ∧ (∀ y0 y1 y2 y3 y4 y5 y6 y7 y8, LeO (tinderboxlaw28_RsDecodes.l0 k y0 y1 y2 y3 y4 y5 y6 y7 y8) (tinderboxlaw28_RsDecodes.l0 (k + 1) y0 y1 y2 y3 y4 y5 y6 y7 y8)) ∧ (∀ y0 y1 y2 y3 y4 y5 y6 y7 y8 y9, LeO (tinderboxlaw28_RsDecodes.j2 k y0 y1 y2 y3 y4 y5 y6 y7 y8 y9) (tinderboxlaw28_RsDecodes.j2 (k + 1) y0 y1 y2 y3 y4 y5 y6 y7 y8 y9)) ∧ (∀ y0 y1 y2 y3 y4 y5 y6 y7 y8 y9 y10, LeO (tinderboxlaw28_RsDecodes.j3 k y0 y1 y2 y3 y4 y5 y6 y7 y8 y9 y10) (tinderboxlaw28_RsDecodes.j3 (k + 1) y0 y1 y2 y3 y4 y5 y6 y7 y8 y9 y10)) ∧ (∀ y0 y1 y2 y3 y4 y5 y6 y7 y8 y9 y10 y11, LeO (tinderboxlaw28_RsDecodes.j4 k y0 y1 y2 y3 y4 y5 y6 y7 y8 y9 y10 y11) (tinderboxlaw28_RsDecodes.j4 (k + 1) y0 y1 y2 y3 y4 y5 y6 y7 y8 y9 y10 y11))
  | 0 => ⟨fun _ _ _ _ r h => by simp [tinderboxlaw28_RsDecodes.j0] at h, fun _ _ _ _ _ _ _ _ _ r h => by simp [tinderboxlaw28_RsDecodes.l0] at h, fun _ _ _ _ _ _ _ _ _ _ r h => by simp [tinderboxlaw28_RsDecodes.j2] at h, fun _ _ _ _ _ _ _ _ _ _ _ r h => by simp [tinderboxlaw28_RsDecodes.j3] at h, fun _ _ _ _ _ _ _ _ _ _ _ _ r h => by simp [tinderboxlaw28_RsDecodes.j4] at h⟩
  | k + 1 => by
    obtain ⟨ih0, ih1, ih2, ih3, ih4⟩ := tinderboxlaw28_RsDecodes.mono_l k
    refine ⟨?_, ?_, ?_, ?_, ?_⟩
    · intro y0 y1 y2 y3
      unfold tinderboxlaw28_RsDecodes.j0
      repeat' first
      | (with_reducible exact ih0 _ _ _ _)
      | (with_reducible exact ih1 _ _ _ _ _ _ _ _ _)
      | (with_reducible exact ih2 _ _ _ _ _ _ _ _ _ _)
      | (with_reducible exact ih3 _ _ _ _ _ _ _ _ _ _ _)
      | (with_reducible exact ih4 _ _ _ _ _ _ _ _ _ _ _ _)
      | (with_reducible exact rs_Decode.mono _ _ _ _)
      | (with_reducible exact rs_Encode.mono _ _ _)
      | (with_reducible exact tinderboxlaw28_awake.mono _)
      | (with_reducible exact LeO.refl _)
      | (with_reducible exact LeO.none _)
      | (with_reducible refine LeO.ite ?_ ?_)
      | (with_reducible refine LeO.bind ?_ (fun _ => ?_))
      | exact ih0 _ _ _ _
      | exact ih1 _ _ _ _ _ _ _ _ _
      | exact ih2 _ _ _ _ _ _ _ _ _ _
      | exact ih3 _ _ _ _ _ _ _ _ _ _ _
      | exact ih4 _ _ _ _ _ _ _ _ _ _ _ _
      | exact rs_Decode.mono _ _ _ _
      | exact rs_Encode.mono _ _ _
      | exact tinderboxlaw28_awake.mono _
      | exact LeO.none _
      | refine LeO.ite ?_ ?_
      | refine LeO.bind ?_ (fun _ => ?_)
    · intro y0 y1 y2 y3 y4 y5 y6 y7 y8
      unfold tinderboxlaw28_RsDecodes.l0
      repeat' first
      | (with_reducible exact ih0 _ _ _ _)
      | (with_reducible exact ih1 _ _ _ _ _ _ _ _ _)
      | (with_reducible exact ih2 _ _ _ _ _ _ _ _ _ _)
      | (with_reducible exact ih3 _ _ _ _ _ _ _ _ _ _ _)
      | (with_reducible exact ih4 _ _ _ _ _ _ _ _ _ _ _ _)
      | (with_reducible exact rs_Decode.mono _ _ _ _)
      | (with_reducible exact rs_Encode.mono _ _ _)
      | (with_reducible exact tinderboxlaw28_awake.mono _)
      | (with_reducible exact LeO.refl _)
      | (with_reducible exact LeO.none _)
      | (with_reducible refine LeO.ite ?_ ?_)
      | (with_reducible refine LeO.bind ?_ (fun _ => ?_))
      | exact ih0 _ _ _ _
      | exact ih1 _ _ _ _ _ _ _ _ _
      | exact ih2 _ _ _ _ _ _ _ _ _ _
      | exact ih3 _ _ _ _ _ _ _ _ _ _ _
      | exact ih4 _ _ _ _ _ _ _ _ _ _ _ _
      | exact rs_Decode.mono _ _ _ _
      | exact rs_Encode.mono _ _ _
      | exact tinderboxlaw28_awake.mono _
      | exact LeO.none _
      | refine LeO.ite ?_ ?_
      | refine LeO.bind ?_ (fun _ => ?_)
    · intro y0 y1 y2 y3 y4 y5 y6 y7 y8 y9
      unfold tinderboxlaw28_RsDecodes.j2
      repeat' first
      | (with_reducible exact ih0 _ _ _ _)
      | (with_reducible exact ih1 _ _ _ _ _ _ _ _ _)
      | (with_reducible exact ih2 _ _ _ _ _ _ _ _ _ _)
      | (with_reducible exact ih3 _ _ _ _ _ _ _ _ _ _ _)
      | (with_reducible exact ih4 _ _ _ _ _ _ _ _ _ _ _ _)
      | (with_reducible exact rs_Decode.mono _ _ _ _)
      | (with_reducible exact rs_Encode.mono _ _ _)
      | (with_reducible exact tinderboxlaw28_awake.mono _)
      | (with_reducible exact LeO.refl _)
      | (with_reducible exact LeO.none _)
      | (with_reducible refine LeO.ite ?_ ?_)
      | (with_reducible refine LeO.bind ?_ (fun _ => ?_))
      | exact ih0 _ _ _ _
      | exact ih1 _ _ _ _ _ _ _ _ _
      | exact ih2 _ _ _ _ _ _ _ _ _ _
      | exact ih3 _ _ _ _ _ _ _ _ _ _ _
      | exact ih4 _ _ _ _ _ _ _ _ _ _ _ _
      | exact rs_Decode.mono _ _ _ _
      | exact rs_Encode.mono _ _ _
      | exact tinderboxlaw28_awake.mono _
      | exact LeO.none _
      | refine LeO.ite ?_ ?_
      | refine LeO.bind ?_ (fun _ => ?_)
    · intro y0 y1 y2 y3 y4 y5 y6 y7 y8 y9 y10
      unfold tinderboxlaw28_RsDecodes.j3
      repeat' first
      | (with_reducible exact ih0 _ _ _ _)
      | (with_reducible exact ih1 _ _ _ _ _ _ _ _ _)
      | (with_reducible exact ih2 _ _ _ _ _ _ _ _ _ _)
      | (with_reducible exact ih3 _ _ _ _ _ _ _ _ _ _ _)
      | (with_reducible exact ih4 _ _ _ _ _ _ _ _ _ _ _ _)
      | (with_reducible exact rs_Decode.mono _ _ _ _)
      | (with_reducible exact rs_Encode.mono _ _ _)
      | (with_reducible exact tinderboxlaw28_awake.mono _)
      | (with_reducible exact LeO.refl _)
      | (with_reducible exact LeO.none _)
      | (with_reducible refine LeO.ite ?_ ?_)
      | (with_reducible refine LeO.bind ?_ (fun _ => ?_))
      | exact ih0 _ _ _ _
      | exact ih1 _ _ _ _ _ _ _ _ _
      | exact ih2 _ _ _ _ _ _ _ _ _ _
      | exact ih3 _ _ _ _ _ _ _ _ _ _ _
      | exact ih4 _ _ _ _ _ _ _ _ _ _ _ _
      | exact rs_Decode.mono _ _ _ _
      | exact rs_Encode.mono _ _ _
      | exact tinderboxlaw28_awake.mono _
      | exact LeO.none _
      | refine LeO.ite ?_ ?_
      | refine LeO.bind ?_ (fun _ => ?_)
    · intro y0 y1 y2 y3 y4 y5 y6 y7 y8 y9 y10 y11
      unfold tinderboxlaw28_RsDecodes.j4
      repeat' first
      | (with_reducible exact ih0 _ _ _ _)
      | (with_reducible exact ih1 _ _ _ _ _ _ _ _ _)
      | (with_reducible exact ih2 _ _ _ _ _ _ _ _ _ _)
      | (with_reducible exact ih3 _ _ _ _ _ _ _ _ _ _ _)
      | (with_reducible exact ih4 _ _ _ _ _ _ _ _ _ _ _ _)
      | (with_reducible exact rs_Decode.mono _ _ _ _)
      | (with_reducible exact rs_Encode.mono _ _ _)
      | (with_reducible exact tinderboxlaw28_awake.mono _)
      | (with_reducible exact LeO.refl _)
      | (with_reducible exact LeO.none _)
      | (with_reducible refine LeO.ite ?_ ?_)
      | (with_reducible refine LeO.bind ?_ (fun _ => ?_))
      | exact ih0 _ _ _ _
      | exact ih1 _ _ _ _ _ _ _ _ _
      | exact ih2 _ _ _ _ _ _ _ _ _ _
      | exact ih3 _ _ _ _ _ _ _ _ _ _ _
      | exact ih4 _ _ _ _ _ _ _ _ _ _ _ _
      | exact rs_Decode.mono _ _ _ _
      | exact rs_Encode.mono _ _ _
      | exact tinderboxlaw28_awake.mono _
      | exact LeO.none _
      | refine LeO.ite ?_ ?_
      | refine LeO.bind ?_ (fun _ => ?_)
theorem tinderboxlaw28_RsDecodes.mono : ∀ a0 a1 a2 k, LeO (tinderboxlaw28_RsDecodes.f k a0 a1 a2) (tinderboxlaw28_RsDecodes.f (k + 1) a0 a1 a2) := by
  intro a0 a1 a2 k
  obtain ⟨ih0, ih1, ih2, ih3, ih4⟩ := tinderboxlaw28_RsDecodes.mono_l k
  unfold tinderboxlaw28_RsDecodes.f
  repeat' first
      | (with_reducible exact ih0 _ _ _ _)
      | (with_reducible exact ih1 _ _ _ _ _ _ _ _ _)
      | (with_reducible exact ih2 _ _ _ _ _ _ _ _ _ _)
      | (with_reducible exact ih3 _ _ _ _ _ _ _ _ _ _ _)
      | (with_reducible exact ih4 _ _ _ _ _ _ _ _ _ _ _ _)
      | (with_reducible exact rs_Decode.mono _ _ _ _)
      | (with_reducible exact rs_Encode.mono _ _ _)
      | (with_reducible exact tinderboxlaw28_awake.mono _)
      | (with_reducible exact LeO.refl _)
      | (with_reducible exact LeO.none _)
      | (with_reducible refine LeO.ite ?_ ?_)
      | (with_reducible refine LeO.bind ?_ (fun _ => ?_))
      | exact ih0 _ _ _ _
      | exact ih1 _ _ _ _ _ _ _ _ _
      | exact ih2 _ _ _ _ _ _ _ _ _ _
      | exact ih3 _ _ _ _ _ _ _ _ _ _ _
      | exact ih4 _ _ _ _ _ _ _ _ _ _ _ _
      | exact rs_Decode.mono _ _ _ _
      | exact rs_Encode.mono _ _ _
      | exact tinderboxlaw28_awake.mono _
      | exact LeO.none _
      | refine LeO.ite ?_ ?_
      | refine LeO.bind ?_ (fun _ => ?_)
def tinderboxlaw28_RsDecodes.T17 : Bool × List (List Nat × List Nat) := (true, [([], []), ([], []), ([0, 1], [0, 1]), ([2], [2]), ([], []), ([], []), ([4, 5], [4, 5]), ([6], [6]), ([7], [7]), ([3, 8], [3, 8]), ([0, 1, 0, 1, 2, 3, 4, 5, 6, 7, 8, 9], [0, 1]), ([10, 9, 0, 1, 2, 3, 4, 5, 6, 7, 8, 9], [9, 10])])
def tinderboxlaw28_RsDecodes.B17 : List Nat := [0, 0, 3, 7, 0, 0, 48, 112, 240, 511, 1023, 2047]
theorem tinderboxlaw28_RsDecodes.tab17 : rtab .any (opsOf Try.f5 17) = tinderboxlaw28_RsDecodes.T17 := by kernel_rfl
theorem tinderboxlaw28_RsDecodes.bits17 : waitsOk tinderboxlaw28_RsDecodes.T17.2 tinderboxlaw28_RsDecodes.B17 = true := by kernel_rfl
set_option maxHeartbeats 8000000 in
set_option maxRecDepth 100000 in
theorem tinderboxlaw28_RsDecodes.calls (k : Nat) (a0 : ByteArray) (a1 : Int) (A2 : Option Addr) (c2 : Nat) (l2 : List (S36)) (r : Bool) (w : World) (hr2 : Kd.C k36 w A2 l2.length l2) (hc2 : l2.length ≤ c2) (h : tinderboxlaw28_RsDecodes.f k a0 a1 l2 = some r) :
    Calls Try.prog 5 #[.string a0, .int .i64 a1, .slice A2 l2.length c2] w fun e w' => e = .returned (.bool r) ∧ Below w.heap.size w w' := by
  have HR2 := Aside0.mk hr2
  have HC2 := Aside0.mk hc2
  clear hr2 hc2
  have HB := Aside0.mk (Below.refl w.heap.size w)
  have H : ((tinderboxlaw28_few.f a0).bind fun t381 => ((rs_Encode.f k t381 (wrap64 (1 + (Go.bits .and .i64 a1 15)))).bind fun bt382 => ((tinderboxlaw28_awake.f k).bind fun t384 => (if t384 = true then (tinderboxlaw28_RsDecodes.j0 k l2 (wrap64 (1 + (Go.bits .and .i64 a1 15))) bt382.1 (bt382.2 != 0)) else (tinderboxlaw28_RsDecodes.j0 k l2 (wrap64 (1 + (Go.bits .and .i64 a1 15))) bt382.1 true))))) = some r := h
  clear h
  replace H := Option.bind_eq_some_iff.mp H
  obtain ⟨t381, A40, H⟩ := H
  replace H : ((rs_Encode.f k t381 (wrap64 (1 + (Go.bits .and .i64 a1 15)))).bind fun bt382 => ((tinderboxlaw28_awake.f k).bind fun t384 => (if t384 = true then (tinderboxlaw28_RsDecodes.j0 k l2 (wrap64 (1 + (Go.bits .and .i64 a1 15))) bt382.1 (bt382.2 != 0)) else (tinderboxlaw28_RsDecodes.j0 k l2 (wrap64 (1 + (Go.bits .and .i64 a1 15))) bt382.1 true)))) = some r := H
  have A4 := Aside0.mk A40
  clear A40
  replace H := Option.bind_eq_some_iff.mp H
  obtain ⟨⟨t382, t383⟩, A50, H⟩ := H
  replace H : ((tinderboxlaw28_awake.f k).bind fun t384 => (if t384 = true then (tinderboxlaw28_RsDecodes.j0 k l2 (wrap64 (1 + (Go.bits .and .i64 a1 15))) t382 (t383 != 0)) else (tinderboxlaw28_RsDecodes.j0 k l2 (wrap64 (1 + (Go.bits .and .i64 a1 15))) t382 true))) = some r := H
  have A5 := Aside0.mk A50
  clear A50
  have HC6 := Aside0.mk H
  clear H
  go_enter Try.func5, Try.ntmps5
  go_upto_region 3 with (first | ((with_reducible refine gate_callee (f := 9) rfl ?_); refine goesL_ (some 23) rfl rfl Try.func9 (by kernel_rfl) rfl #[.string a0] rfl (by (try simp only [List.map_toArray, List.map_cons, List.map_nil]); first | done | rfl | (simp only [List.length_drop, List.length_take]; rfl)) ?_; (with_reducible refine (tinderboxlaw28_few.calls a0 t381 _ A4.out).mono ?_); rintro e w' ⟨rfl, ⟨nd, rfl⟩⟩; refine ⟨_, rfl, ?_⟩) | ((with_reducible refine gate_callee (f := 10) rfl ?_); refine goesL_ (some 30) rfl rfl Try.func10 (by kernel_rfl) rfl #[.string t381, .int .i64 (wrap64 (1 + (Go.bits .and .i64 a1 15)))] rfl (by (try simp only [List.map_toArray, List.map_cons, List.map_nil]); first | done | rfl | (simp only [List.length_drop, List.length_take]; rfl)) ?_; (with_reducible refine (rs_Encode.calls k t381 (wrap64 (1 + (Go.bits .and .i64 a1 15))) t382 t383 _ A5.out).mono ?_); rintro e w7 ⟨rfl, hb⟩; refine ⟨_, rfl, ?_⟩; have n0_ := Aside0.mk (below_step (by repeat (first | (with_reducible first | exact HB.out | apply below_alloc | apply pw_below_drewN | apply below_drew1) | exact HB.out)) hb); clear HB; have HB := n0_; clear n0_; (try clear hb); (try clear hb2); (try clear hk); (try clear hi)))
  (try simp only [Act.put, List.setIfInBounds_toArray, List.set_cons_zero, List.set_cons_succ])
  go_cut [38] (fun v38 wc => ∃ (kq : Nat) (x38_5 : Bool), v38 = .bool x38_5 ∧ Aside0 (tinderboxlaw28_RsDecodes.j0 kq l2 (wrap64 (1 + (Go.bits .and .i64 a1 15))) t382 x38_5 = some r) ∧ Aside0 (kq ≤ k) ∧ Aside0 (Below w.heap.size w wc))
  case first =>
    have H := HC6.out
    clear HC6
    replace H := Option.bind_eq_some_iff.mp H
    obtain ⟨t384, A80, H⟩ := H
    replace H : (if t384 = true then (tinderboxlaw28_RsDecodes.j0 k l2 (wrap64 (1 + (Go.bits .and .i64 a1 15))) t382 (t383 != 0)) else (tinderboxlaw28_RsDecodes.j0 k l2 (wrap64 (1 + (Go.bits .and .i64 a1 15))) t382 true)) = some r := H
    have A8 := Aside0.mk A80
    clear A80
    by_cases c9 : t384 = true
    · subst c9
      have H1 : (tinderboxlaw28_RsDecodes.j0 k l2 (wrap64 (1 + (Go.bits .and .i64 a1 15))) t382 (t383 != 0)) = some r := by rw [if_pos rfl] at H; exact H
      clear H
      have H := H1
      clear H1
      have H' := Aside0.mk H
      clear H
      go_wp2_with (first | ((with_reducible refine gate_callee (f := 11) rfl ?_); refine goesL_ (some 33) rfl rfl Try.func11 (by kernel_rfl) rfl #[] rfl (by (try simp only [List.map_toArray, List.map_cons, List.map_nil]); first | done | rfl | (simp only [List.length_drop, List.length_take]; rfl)) ?_; (with_reducible refine (tinderboxlaw28_awake.calls k  true _ A8.out).mono ?_); rintro e w10 ⟨rfl, hb⟩; refine ⟨_, rfl, ?_⟩; have n0_ := Aside0.mk (below_step (by repeat (first | (with_reducible first | exact HB.out | apply below_alloc | apply pw_below_drewN | apply below_drew1) | exact HB.out)) hb); clear HB; have HB := n0_; clear n0_; (try clear hb); (try clear hb2); (try clear hk); (try clear hi)))
      go_meet
      case rel => exact ⟨_, ((t383 != 0)), (by first | rfl | (simp; done) | (simp [*]; done)), H', ⟨by first | omega | exact Nat.le_refl _⟩, ⟨by repeat (first | (with_reducible first | exact HB.out | apply below_alloc | apply pw_below_drewN | apply below_drew1) | exact HB.out)⟩⟩
    · replace c9 := Bool.eq_false_iff.mpr c9
      subst c9
      have H1 : (tinderboxlaw28_RsDecodes.j0 k l2 (wrap64 (1 + (Go.bits .and .i64 a1 15))) t382 true) = some r := by rw [if_neg (show ¬ (false = true) by decide)] at H; exact H
      clear H
      have H := H1
      clear H1
      have H' := Aside0.mk H
      clear H
      go_wp2_with (first | ((with_reducible refine gate_callee (f := 11) rfl ?_); refine goesL_ (some 33) rfl rfl Try.func11 (by kernel_rfl) rfl #[] rfl (by (try simp only [List.map_toArray, List.map_cons, List.map_nil]); first | done | rfl | (simp only [List.length_drop, List.length_take]; rfl)) ?_; (with_reducible refine (tinderboxlaw28_awake.calls k  false _ A8.out).mono ?_); rintro e w11 ⟨rfl, hb⟩; refine ⟨_, rfl, ?_⟩; have n0_ := Aside0.mk (below_step (by repeat (first | (with_reducible first | exact HB.out | apply below_alloc | apply pw_below_drewN | apply below_drew1) | exact HB.out)) hb); clear HB; have HB := n0_; clear n0_; (try clear hb); (try clear hb2); (try clear hk); (try clear hi)))
      go_meet
      case rel => exact ⟨_, (true), (by first | rfl | (simp; done) | (simp [*]; done)), H', ⟨by first | omega | exact Nat.le_refl _⟩, ⟨by repeat (first | (with_reducible first | exact HB.out | apply below_alloc | apply pw_below_drewN | apply below_drew1) | exact HB.out)⟩⟩
  case rest =>
    clear HC6
    try clear c1
    try clear c2
    try clear p2
    try clear c5
    try clear p6
    try clear c9
    try clear c10
    try clear c11
    obtain ⟨kq, x38_5, rfl, HA, HJ5, HB⟩ := hcut
    cases kq with
    | zero => exact absurd HA.out (by simp [tinderboxlaw28_RsDecodes.j0])
    | succ kj5 =>
      have H := HA.out
      clear HA
      simp only [tinderboxlaw28_RsDecodes.j0] at H
      by_cases c12 : x38_5 = true
      · subst c12
        have H1 : (some false) = some r := by rw [if_pos rfl] at H; exact H
        clear H
        have H := H1
        clear H1
        obtain rfl := Option.some.inj H
        go_wp2
        go_ret
        exact ⟨by first | rfl | (simp [errW_none, errW_some] <;> rfl) | (simp [*, errW_none, errW_some] <;> rfl), by repeat (first | (with_reducible first | exact HB.out | apply below_alloc | apply pw_below_drewN | apply below_drew1) | exact HB.out)⟩
      · replace c12 := Bool.eq_false_iff.mpr c12
        subst c12
        have H1 : (if t382.size ≤ 9223372036854775807 then ((some (bytesOf t382 : List Int)).bind fun y385 => (if 0 ≤ (y385.length : Int) then (if ((y385.length : Int) : Int).toNat ≤ 281474976710656 then (tinderboxlaw28_RsDecodes.l0 kj5 l2 (wrap64 (1 + (Go.bits .and .i64 a1 15))) t382 y385 (([] : List Int)) 0 0 (List.replicate ((y385.length : Int) : Int).toNat false) 0) else (none)) else (none))) else (none)) = some r := by rw [if_neg (show ¬ (false = true) by decide)] at H; exact H
        clear H
        have H := H1
        clear H1
        by_cases c13 : t382.size ≤ 9223372036854775807
        · rw [if_pos c13] at H
          have c13b0 := eq_true c13
          have c13b1 : decide (t382.size ≤ 9223372036854775807) = true := decide_eq_true c13
          try have c13b2 : (9223372036854775807 < t382.size) = False := eq_false (Nat.not_lt.2 c13)
          clear c13
          obtain ⟨y385, hy385⟩ : ∃ y_ : List Int, y_ = (bytesOf t382) := ⟨_, rfl⟩
          replace H : (if 0 ≤ (y385.length : Int) then (if ((y385.length : Int) : Int).toNat ≤ 281474976710656 then (tinderboxlaw28_RsDecodes.l0 kj5 l2 (wrap64 (1 + (Go.bits .and .i64 a1 15))) t382 y385 (([] : List Int)) 0 0 (List.replicate ((y385.length : Int) : Int).toNat false) 0) else (none)) else (none)) = some r := by first | (rw [hy385]; with_reducible exact H) | (have H2_ := (Option.bind_some _ _).symm.trans H; rw [hy385]; with_reducible exact H2_) | (have H2_ := (Option.bind_some _ _).symm.trans H; with_reducible exact H2_) | with_reducible exact H | (rw [hy385]; exact H) | exact H
          have Ny385 := Aside0.mk hy385
          clear hy385
          obtain ⟨y388, hy388⟩ : ∃ y_ : List Int, y_ = (([] : List Int)) := ⟨_, rfl⟩
          replace H : (if 0 ≤ (y385.length : Int) then (if ((y385.length : Int) : Int).toNat ≤ 281474976710656 then (tinderboxlaw28_RsDecodes.l0 kj5 l2 (wrap64 (1 + (Go.bits .and .i64 a1 15))) t382 y385 y388 0 0 (List.replicate ((y385.length : Int) : Int).toNat false) 0) else (none)) else (none)) = some r := by first | (rw [hy388]; with_reducible exact H) | (have H2_ := (Option.bind_some _ _).symm.trans H; rw [hy388]; with_reducible exact H2_) | (have H2_ := (Option.bind_some _ _).symm.trans H; with_reducible exact H2_) | with_reducible exact H | (rw [hy388]; exact H) | exact H
          have Ny388 := Aside0.mk hy388
          clear hy388
          by_cases c14 : 0 ≤ (y385.length : Int)
          · rw [if_pos c14] at H
            have c14b0 := eq_true c14
            have c14b1 : decide (0 ≤ (y385.length : Int)) = true := decide_eq_true c14
            clear c14
            by_cases c15 : ((y385.length : Int) : Int).toNat ≤ 281474976710656
            · rw [if_pos c15] at H
              have c15b0 := eq_true c15
              have c15b1 : decide (((y385.length : Int) : Int).toNat ≤ 281474976710656) = true := decide_eq_true c15
              clear c15
              obtain ⟨y391, hy391⟩ : ∃ y_ : List Bool, y_ = (List.replicate ((y385.length : Int) : Int).toNat false) := ⟨_, rfl⟩
              replace H : (tinderboxlaw28_RsDecodes.l0 kj5 l2 (wrap64 (1 + (Go.bits .and .i64 a1 15))) t382 y385 y388 0 0 y391 0) = some r := by first | (rw [hy391]; with_reducible exact H) | (have H2_ := (Option.bind_some _ _).symm.trans H; rw [hy391]; with_reducible exact H2_) | (have H2_ := (Option.bind_some _ _).symm.trans H; with_reducible exact H2_) | with_reducible exact H | (rw [hy391]; exact H) | exact H
              have Ny391 := Aside0.mk hy391
              clear hy391
              have H' := Aside0.mk H
              clear H
              go_wp2_with (first | ((with_reducible refine gate_dst (N := 40) rfl ?_); refine Kd.Q_bytes 5 rfl (N := 40) rfl 9 28 _ rfl t382 rfl Try.underlying9 Try.underlying28 Try.underlying5 (ok := fun _ => True) trivial (of_decide_eq_true (by first | (with_reducible assumption) | assumption)) (Below.refl _ _) (Nat.le_refl _) ?_; intro v386 w16 ho17 hb hg_ hnew_; clear hg_ hnew_; (first | rw [← Ny385.out] at ho17 | (simp only [Int.reduceToNat] at ho17; rw [← Ny385.out] at ho17)); have n0_ := Aside0.mk (Kd.Q_lower ho17 (below_size (by repeat (first | (with_reducible first | exact HB.out | apply below_alloc | apply pw_below_drewN | apply below_drew1) | exact HB.out)))); have n1_ := Aside0.mk (below_step (by repeat (first | (with_reducible first | exact HB.out | apply below_alloc | apply pw_below_drewN | apply below_drew1) | exact HB.out)) hb); clear HB; have HO387 := n0_; have HB := n1_; clear n0_ n1_; clear hb ho17) | ((with_reducible refine gate_dst (N := 41) rfl ?_); refine Kd.R_lit (Kd.int .i64) _ 3 ?hg (N := 41) ?hd (xs := ([] : List Int)) (inner := []) (ok := fun _ => True) (okp := fun _ => True) ?hr ?hp (fun _ hk => hk) trivial (Below.refl _ _) (Nat.le_refl _) (by simp) ?_; (case hd => rfl); (case hg => rfl); (case hr => first | (go_simp; done) | (go_simp; rfl)); (case hp => exact (Reps.none _ _)); intro v389 w18 ho19 hb hg_ hnew_; clear hg_ hnew_; (first | rw [← Ny388.out] at ho19 | (simp only [Int.reduceToNat] at ho19; rw [← Ny388.out] at ho19)); have n0_ := Aside0.mk (Kd.Q_below (by (with_reducible repeat (first | apply Kd.Q_alloc | apply Kd.Q_drewN | apply Kd.Q_drew)); exact HO387.out) hb); have n1_ := Aside0.mk (Kd.R_lower ho19 (below_size (by repeat (first | (with_reducible first | exact HB.out | apply below_alloc | apply pw_below_drewN | apply below_drew1) | exact HB.out)))); have n2_ := Aside0.mk (below_step (by repeat (first | (with_reducible first | exact HB.out | apply below_alloc | apply pw_below_drewN | apply below_drew1) | exact HB.out)) hb); clear HO387; clear HB; have HO387 := n0_; have HO390 := n1_; have HB := n2_; clear n0_ n1_ n2_; clear hb ho19; obtain ⟨Ao20, co20, eo20, _⟩ := Kd.Q_slice HO387.out; subst eo20) | ((with_reducible refine gate_dst (N := 44) rfl ?_); refine Kd.R_make Kd.bool _ 4 rfl (N := 44) rfl 34 _ _ rfl (y385.length : Int) rfl rfl Try.underlying34 (.bool false) 1 info4 rfl (by decide) (by omega) false (ok := fun _ => True) (okp := fun _ => True) rfl (fun _ hk => hk) trivial (of_decide_eq_true (by first | (with_reducible assumption) | assumption)) (Nat.le_trans (Nat.mul_le_mul_right _ (of_decide_eq_true (by first | (with_reducible assumption) | assumption) : (y385.length : Int).toNat ≤ 281474976710656)) (by omega)) (Below.refl _ _) (Nat.le_refl _) ?_; intro v392 w21 ho22 hb hg_ hnew_; clear hg_ hnew_; (first | rw [← Ny391.out] at ho22 | (simp only [Int.reduceToNat] at ho22; rw [← Ny391.out] at ho22)); have n0_ := Aside0.mk (Kd.Q_below (by (with_reducible repeat (first | apply Kd.Q_alloc | apply Kd.Q_drewN | apply Kd.Q_drew)); exact HO387.out) hb); have n1_ := Aside0.mk (Kd.R_below (by (with_reducible repeat (first | apply Kd.R_alloc | apply Kd.R_drewN | apply Kd.R_drew)); exact HO390.out) hb); have n2_ := Aside0.mk (Kd.R_lower ho22 (below_size (by repeat (first | (with_reducible first | exact HB.out | apply below_alloc | apply pw_below_drewN | apply below_drew1) | exact HB.out)))); have n3_ := Aside0.mk (below_step (by repeat (first | (with_reducible first | exact HB.out | apply below_alloc | apply pw_below_drewN | apply below_drew1) | exact HB.out)) hb); clear HO387; clear HO390; clear HB; have HO387 := n0_; have HO390 := n1_; have HO393 := n2_; have HB := n3_; clear n0_ n1_ n2_ n3_; clear hb ho22))
              go_loopg [12, 13, 14, 16] kj5 (fun kq v12 v13 v14 v16 w' => ∃ (x11_2 : List Int) (x12_2 : List Int) (x13_2 : Int) (x14_2 : Int) (x15_2 : List Bool) (x16_2 : Int), v13 = .int .i64 x13_2 ∧ v14 = .int .i64 x14_2 ∧ v16 = .int .i64 x16_2 ∧ Aside0 (tinderboxlaw28_RsDecodes.l0 kq l2 (wrap64 (1 + (Go.bits .and .i64 a1 15))) t382 x11_2 x12_2 x13_2 x14_2 x15_2 x16_2 = some r) ∧ Aside0 (kq ≤ kj5) ∧ Aside0 (Kd.Q (Kd.int .u8) 5 w' w.heap.size (fun _ => True) (.slice Ao20 y385.length co20) x11_2) ∧ Aside0 (Kd.R (Kd.int .i64) 3 w' w.heap.size (fun _ => True) v12 x12_2) ∧ Aside0 (Kd.R Kd.bool 4 w' w.heap.size (fun _ => True) v392 x15_2) ∧ Aside0 (Below w.heap.size w w'))
              case atStart => exact ⟨(y385), (y388), (0), (0), (y391), (0), (by first | rfl | (simp; done) | (simp [*]; done)), (by first | rfl | (simp; done) | (simp [*]; done)), (by first | rfl | (simp; done) | (simp [*]; done)), H', ⟨Nat.le_refl _⟩, ⟨by (with_reducible repeat (first | apply Kd.Q_alloc | apply Kd.Q_drewN | apply Kd.Q_drew)); exact HO387.out⟩, ⟨by (with_reducible repeat (first | apply Kd.R_alloc | apply Kd.R_drewN | apply Kd.R_drew)); exact HO390.out⟩, ⟨by (with_reducible repeat (first | apply Kd.R_alloc | apply Kd.R_drewN | apply Kd.R_drew)); exact HO393.out⟩, ⟨by repeat (first | (with_reducible first | exact HB.out | apply below_alloc | apply pw_below_drewN | apply below_drew1) | exact HB.out)⟩⟩
              case round =>
                clear H'
                try clear c1
                try clear c2
                try clear p2
                try clear c5
                try clear p6
                try clear c9
                try clear c10
                try clear c11
                try clear c12
                try clear c13
                try clear c13b0
                try clear c13b1
                try clear c13b2
                try clear c14
                try clear c14b0
                try clear c14b1
                try clear c15
                try clear c15b0
                try clear c15b1
                try clear p2
                try clear p6
                obtain ⟨x11_2, x12_2, x13_2, x14_2, x15_2, x16_2, rfl, rfl, rfl, HA, HK2, HO_11, HO_12, HO_15, HB⟩ := hrel
                have hl11_2 := (Kd.Q_reads' HO_11.out).1
                rw [hl11_2] at HO_11
                (try simp only [hl11_2])
                (try simp only [hl11_2] at HO_12)
                (try simp only [hl11_2] at HO_15)
                cases gk with
                | zero => exact absurd HA.out (by simp [tinderboxlaw28_RsDecodes.l0])
                | succ k2 =>
                  have H := HA.out
                  clear HA
                  simp only [tinderboxlaw28_RsDecodes.l0] at H
                  have HC23 := Aside0.mk H
                  clear H
                  go_upto_region 8 with (fail)
                  go_cut [52] (fun v52 wc => ∃ (kq : Nat) (x52_22 : Bool), v52 = .bool x52_22 ∧ Aside0 (tinderboxlaw28_RsDecodes.j2 kq l2 (wrap64 (1 + (Go.bits .and .i64 a1 15))) t382 x11_2 x12_2 x13_2 x14_2 x15_2 x16_2 x52_22 = some r) ∧ Aside0 (kq ≤ k2) ∧ Aside0 (Kd.Q (Kd.int .u8) 5 wc w.heap.size (fun _ => True) (.slice Ao20 x11_2.length co20) x11_2) ∧ Aside0 (Kd.R (Kd.int .i64) 3 wc w.heap.size (fun _ => True) u12 x12_2) ∧ Aside0 (Kd.R Kd.bool 4 wc w.heap.size (fun _ => True) v392 x15_2) ∧ Aside0 (Below w.heap.size w wc))
                  case first =>
                    have H := HC23.out
                    clear HC23
                    by_cases c24 : x16_2 < (l2.length : Int)
                    · rw [if_pos c24] at H
                      have c24b0 : decide (x16_2 < (l2.length : Int)) = true := decide_eq_true c24
                      clear c24
                      (first | rw [c24b0] | (simp only [i64_w, i32_w]; rw [c24b0]) | skip)
                      have H' := Aside0.mk H
                      clear H
                      go_wp2
                      go_meet
                      case rel => exact ⟨_, (decide (x16_2 < 40)), (by first | rfl | (simp; done) | (simp [*]; done)), H', ⟨by have := HJ5.out; have := HK2.out; first | omega | exact Nat.le_refl _⟩, ⟨by (try simp only [hl11_2]); (with_reducible repeat (first | apply Kd.Q_alloc | apply Kd.Q_drewN | apply Kd.Q_drew)); exact HO_11.out⟩, ⟨by (try simp only [hl11_2]); (with_reducible repeat (first | apply Kd.R_alloc | apply Kd.R_drewN | apply Kd.R_drew)); exact HO_12.out⟩, ⟨by (try simp only [hl11_2]); (with_reducible repeat (first | apply Kd.R_alloc | apply Kd.R_drewN | apply Kd.R_drew)); exact HO_15.out⟩, ⟨by repeat (first | (with_reducible first | exact HB.out | apply below_alloc | apply pw_below_drewN | apply below_drew1) | exact HB.out)⟩⟩
                    · rw [if_neg c24] at H
                      have c24b0 : decide (x16_2 < (l2.length : Int)) = false := decide_eq_false c24
                      clear c24
                      (first | rw [c24b0] | (simp only [i64_w, i32_w]; rw [c24b0]) | skip)
                      have H' := Aside0.mk H
                      clear H
                      go_wp2
                      go_meet
                      case rel => exact ⟨_, (false), (by first | rfl | (simp; done) | (simp [*]; done)), H', ⟨by have := HJ5.out; have := HK2.out; first | omega | exact Nat.le_refl _⟩, ⟨by (try simp only [hl11_2]); (with_reducible repeat (first | apply Kd.Q_alloc | apply Kd.Q_drewN | apply Kd.Q_drew)); exact HO_11.out⟩, ⟨by (try simp only [hl11_2]); (with_reducible repeat (first | apply Kd.R_alloc | apply Kd.R_drewN | apply Kd.R_drew)); exact HO_12.out⟩, ⟨by (try simp only [hl11_2]); (with_reducible repeat (first | apply Kd.R_alloc | apply Kd.R_drewN | apply Kd.R_drew)); exact HO_15.out⟩, ⟨by repeat (first | (with_reducible first | exact HB.out | apply below_alloc | apply pw_below_drewN | apply below_drew1) | exact HB.out)⟩⟩
                  case rest =>
                    clear HC23
                    try clear c1
                    try clear c2
                    try clear p2
                    try clear c5
                    try clear p6
                    try clear c9
                    try clear c10
                    try clear c11
                    try clear c12
                    try clear c13
                    try clear c13b0
                    try clear c13b1
                    try clear c13b2
                    try clear c14
                    try clear c14b0
                    try clear c14b1
                    try clear c15
                    try clear c15b0
                    try clear c15b1
                    try clear c24
                    try clear c24b0
                    try clear p2
                    try clear p6
                    obtain ⟨kq, x52_22, rfl, HA, HJ22, HO_11, HO_12, HO_15, HB⟩ := hcut
                    cases kq with
                    | zero => exact absurd HA.out (by simp [tinderboxlaw28_RsDecodes.j2])
                    | succ kj22 =>
                      have H := HA.out
                      clear HA
                      simp only [tinderboxlaw28_RsDecodes.j2] at H
                      by_cases c25 : x52_22 = true
                      · subst c25
                        have H1 : (if 0 ≤ x16_2 then (if x16_2 < (l2.length : Int) then (if (x11_2.length : Int) = 0 then (none) else (if (rd_T36 l2 x16_2).f2 = true then (tinderboxlaw28_RsDecodes.j3 kj22 l2 (wrap64 (1 + (Go.bits .and .i64 a1 15))) t382 x11_2 x12_2 x13_2 x14_2 x15_2 x16_2 (Int.tmod (wrap64 ((Int.tmod ((rd_T36 l2 x16_2).f0) (x11_2.length : Int)) + (x11_2.length : Int))) (x11_2.length : Int)) 1) else (tinderboxlaw28_RsDecodes.j3 kj22 l2 (wrap64 (1 + (Go.bits .and .i64 a1 15))) t382 x11_2 x12_2 x13_2 x14_2 x15_2 x16_2 (Int.tmod (wrap64 ((Int.tmod ((rd_T36 l2 x16_2).f0) (x11_2.length : Int)) + (x11_2.length : Int))) (x11_2.length : Int)) 2))) else (none)) else (none)) = some r := by rw [if_pos rfl] at H; exact H
                        clear H
                        have H := H1
                        clear H1
                        by_cases c26 : 0 ≤ x16_2
                        · rw [if_pos c26] at H
                          have c26b0 : decide (0 ≤ x16_2) = true := decide_eq_true c26
                          clear c26
                          by_cases c27 : x16_2 < (l2.length : Int)
                          · rw [if_pos c27] at H
                            have c27b0 : decide (x16_2 < (l2.length : Int)) = true := decide_eq_true c27
                            clear c27
                            by_cases c28 : (x11_2.length : Int) = 0
                            · rw [if_pos c28] at H
                              exact absurd H (by simp)
                            · rw [if_neg c28] at H
                              have c28b0 : ((x11_2.length : Int) == 0) = false := beq_eq_false_iff_ne.mpr c28
                              have c28b1 : ((x11_2.length : Int) != 0) = true := bne_iff_ne.mpr c28
                              have c28b2 : ¬ (x11_2 = []) := fun h_ => c28 (by rw [h_]; rfl)
                              have HC29 := Aside0.mk H
                              clear H
                              have p397 : 0 ≤ (x16_2 : Int) := of_decide_eq_true (by first | (with_reducible assumption) | assumption)
                              have q397 : x16_2 < (l2.length : Int) := of_decide_eq_true (by first | (with_reducible assumption) | assumption)
                              obtain ⟨ad397, e397, hx397_0, hx397_1, hx397_2⟩ := at_T36 HR2.out x16_2 p397 q397
                              cases e397
                              replace hx397_0 := (HB.out.cell (World.block_lt_of_cell? w _ hx397_0)).trans hx397_0
                              replace hx397_1 := (HB.out.cell (World.block_lt_of_cell? w _ hx397_1)).trans hx397_1
                              replace hx397_2 := (HB.out.cell (World.block_lt_of_cell? w _ hx397_2)).trans hx397_2
                              replace p397 := eq_true p397
                              replace q397 := eq_true q397
                              have p398 : 0 ≤ (x16_2 : Int) := of_decide_eq_true (by first | (with_reducible assumption) | assumption)
                              have q398 : x16_2 < (l2.length : Int) := of_decide_eq_true (by first | (with_reducible assumption) | assumption)
                              obtain ⟨ad398, e398, hx398_0, hx398_1, hx398_2⟩ := at_T36 HR2.out x16_2 p398 q398
                              obtain rfl : ad397 = ad398 := (by injection e398)
                              replace hx398_0 := (HB.out.cell (World.block_lt_of_cell? w _ hx398_0)).trans hx398_0
                              replace hx398_1 := (HB.out.cell (World.block_lt_of_cell? w _ hx398_1)).trans hx398_1
                              replace hx398_2 := (HB.out.cell (World.block_lt_of_cell? w _ hx398_2)).trans hx398_2
                              replace p398 := eq_true p398
                              replace q398 := eq_true q398
                              go_upto_if 73 with (fail)
                              go_cut [18] (fun v18 wc => ∃ (kq : Nat) (x18_28 : Int), v18 = .int .i64 x18_28 ∧ Aside0 (tinderboxlaw28_RsDecodes.j3 kq l2 (wrap64 (1 + (Go.bits .and .i64 a1 15))) t382 x11_2 x12_2 x13_2 x14_2 x15_2 x16_2 (Int.tmod (wrap64 ((Int.tmod ((rd_T36 l2 x16_2).f0) (x11_2.length : Int)) + (x11_2.length : Int))) (x11_2.length : Int)) x18_28 = some r) ∧ Aside0 (kq ≤ kj22) ∧ Aside0 (Kd.Q (Kd.int .u8) 5 wc w.heap.size (fun _ => True) (.slice Ao20 x11_2.length co20) x11_2) ∧ Aside0 (Kd.R (Kd.int .i64) 3 wc w.heap.size (fun _ => True) u12 x12_2) ∧ Aside0 (Kd.R Kd.bool 4 wc w.heap.size (fun _ => True) v392 x15_2) ∧ Aside0 (Below w.heap.size w wc))
                              case first =>
                                have H := HC29.out
                                clear HC29
                                obtain ⟨bq30, hbq30⟩ : ∃ b_ : Bool, b_ = ((rd_T36 l2 x16_2).f2) := ⟨_, rfl⟩
                                replace H : (if bq30 = true then (tinderboxlaw28_RsDecodes.j3 kj22 l2 (wrap64 (1 + (Go.bits .and .i64 a1 15))) t382 x11_2 x12_2 x13_2 x14_2 x15_2 x16_2 (Int.tmod (wrap64 ((Int.tmod ((rd_T36 l2 x16_2).f0) (x11_2.length : Int)) + (x11_2.length : Int))) (x11_2.length : Int)) 1) else (tinderboxlaw28_RsDecodes.j3 kj22 l2 (wrap64 (1 + (Go.bits .and .i64 a1 15))) t382 x11_2 x12_2 x13_2 x14_2 x15_2 x16_2 (Int.tmod (wrap64 ((Int.tmod ((rd_T36 l2 x16_2).f0) (x11_2.length : Int)) + (x11_2.length : Int))) (x11_2.length : Int)) 2)) = some r := by rw [← hbq30] at H; exact H
                                have Nbq30 := Aside0.mk hbq30
                                clear hbq30
                                (try rw [← Nbq30.out])
                                by_cases c31 : bq30 = true
                                · subst c31
                                  have H1 : (tinderboxlaw28_RsDecodes.j3 kj22 l2 (wrap64 (1 + (Go.bits .and .i64 a1 15))) t382 x11_2 x12_2 x13_2 x14_2 x15_2 x16_2 (Int.tmod (wrap64 ((Int.tmod ((rd_T36 l2 x16_2).f0) (x11_2.length : Int)) + (x11_2.length : Int))) (x11_2.length : Int)) 1) = some r := by rw [if_pos rfl] at H; exact H
                                  clear H
                                  have H := H1
                                  clear H1
                                  have H' := Aside0.mk H
                                  clear H
                                  go_wp2
                                  go_meet
                                  case rel => exact ⟨_, (1), (by first | rfl | (simp; done) | (simp [*]; done)), H', ⟨by have := HJ5.out; have := HK2.out; have := HJ22.out; first | omega | exact Nat.le_refl _⟩, ⟨by (try simp only [hl11_2]); (with_reducible repeat (first | apply Kd.Q_alloc | apply Kd.Q_drewN | apply Kd.Q_drew)); exact HO_11.out⟩, ⟨by (try simp only [hl11_2]); (with_reducible repeat (first | apply Kd.R_alloc | apply Kd.R_drewN | apply Kd.R_drew)); exact HO_12.out⟩, ⟨by (try simp only [hl11_2]); (with_reducible repeat (first | apply Kd.R_alloc | apply Kd.R_drewN | apply Kd.R_drew)); exact HO_15.out⟩, ⟨by repeat (first | (with_reducible first | exact HB.out | apply below_alloc | apply pw_below_drewN | apply below_drew1) | exact HB.out)⟩⟩
                                · replace c31 := Bool.eq_false_iff.mpr c31
                                  subst c31
                                  have H1 : (tinderboxlaw28_RsDecodes.j3 kj22 l2 (wrap64 (1 + (Go.bits .and .i64 a1 15))) t382 x11_2 x12_2 x13_2 x14_2 x15_2 x16_2 (Int.tmod (wrap64 ((Int.tmod ((rd_T36 l2 x16_2).f0) (x11_2.length : Int)) + (x11_2.length : Int))) (x11_2.length : Int)) 2) = some r := by rw [if_neg (show ¬ (false = true) by decide)] at H; exact H
                                  clear H
                                  have H := H1
                                  clear H1
                                  have H' := Aside0.mk H
                                  clear H
                                  go_wp2
                                  go_meet
                                  case rel => exact ⟨_, (2), (by first | rfl | (simp; done) | (simp [*]; done)), H', ⟨by have := HJ5.out; have := HK2.out; have := HJ22.out; first | omega | exact Nat.le_refl _⟩, ⟨by (try simp only [hl11_2]); (with_reducible repeat (first | apply Kd.Q_alloc | apply Kd.Q_drewN | apply Kd.Q_drew)); exact HO_11.out⟩, ⟨by (try simp only [hl11_2]); (with_reducible repeat (first | apply Kd.R_alloc | apply Kd.R_drewN | apply Kd.R_drew)); exact HO_12.out⟩, ⟨by (try simp only [hl11_2]); (with_reducible repeat (first | apply Kd.R_alloc | apply Kd.R_drewN | apply Kd.R_drew)); exact HO_15.out⟩, ⟨by repeat (first | (with_reducible first | exact HB.out | apply below_alloc | apply pw_below_drewN | apply below_drew1) | exact HB.out)⟩⟩
                              case rest =>
                                clear HC29
                                try clear c1
                                try clear c2
                                try clear p2
                                try clear c3
                                try clear p3
                                try clear q3
                                try clear hx3
                                try clear c5
                                try clear p6
                                try clear c9
                                try clear c10
                                try clear c11
                                try clear c12
                                try clear c13
                                try clear c13b0
                                try clear c13b1
                                try clear c13b2
                                try clear c14
                                try clear c14b0
                                try clear c14b1
                                try clear c15
                                try clear c15b0
                                try clear c15b1
                                try clear c24
                                try clear c24b0
                                try clear c25
                                try clear c26
                                try clear c26b0
                                try clear c27
                                try clear c27b0
                                try clear c28
                                try clear c28b0
                                try clear c28b1
                                try clear c28b2
                                try clear q30
                                try clear c31
                                try clear hx397_0
                                try clear hx397_1
                                try clear hx397_2
                                try clear hx398_0
                                try clear hx398_1
                                try clear hx398_2
                                try clear p2
                                try clear p397
                                try clear p398
                                try clear p6
                                try clear q397
                                try clear q398
                                obtain ⟨kq, x18_28, rfl, HA, HJ28, HO_11, HO_12, HO_15, HB⟩ := hcut
                                cases kq with
                                | zero => exact absurd HA.out (by simp [tinderboxlaw28_RsDecodes.j3])
                                | succ kj28 =>
                                  have H := HA.out
                                  clear HA
                                  simp only [tinderboxlaw28_RsDecodes.j3] at H
                                  have HC32 := Aside0.mk H
                                  clear H
                                  go_upto_region 14 with (fail)
                                  go_cut [100] (fun v100 wc => ∃ (kq : Nat) (x100_31 : Bool), v100 = .bool x100_31 ∧ Aside0 (tinderboxlaw28_RsDecodes.j4 kq l2 (wrap64 (1 + (Go.bits .and .i64 a1 15))) t382 x11_2 x12_2 x13_2 x14_2 x15_2 x16_2 (Int.tmod (wrap64 ((Int.tmod ((rd_T36 l2 x16_2).f0) (x11_2.length : Int)) + (x11_2.length : Int))) (x11_2.length : Int)) x18_28 x100_31 = some r) ∧ Aside0 (kq ≤ kj28) ∧ Aside0 (Kd.Q (Kd.int .u8) 5 wc w.heap.size (fun _ => True) (.slice Ao20 x11_2.length co20) x11_2) ∧ Aside0 (Kd.R (Kd.int .i64) 3 wc w.heap.size (fun _ => True) u12 x12_2) ∧ Aside0 (Kd.R Kd.bool 4 wc w.heap.size (fun _ => True) v392 x15_2) ∧ Aside0 (Below w.heap.size w wc))
                                  case first =>
                                    have H := HC32.out
                                    clear HC32
                                    obtain ⟨ji33, hji33⟩ : ∃ j_ : Int, (Int.tmod (wrap64 ((Int.tmod ((rd_T36 l2 x16_2).f0) (x11_2.length : Int)) + (x11_2.length : Int))) (x11_2.length : Int)) = j_ := ⟨_, rfl⟩
                                    replace H : (if 0 ≤ (ji33) then (if (ji33) < (x15_2.length : Int) then (if rdOf false x15_2 (ji33) = true then (tinderboxlaw28_RsDecodes.j4 kj28 l2 (wrap64 (1 + (Go.bits .and .i64 a1 15))) t382 x11_2 x12_2 x13_2 x14_2 x15_2 x16_2 (ji33) x18_28 true) else (if (wrap64 (x13_2 + x18_28)) > (wrap64 (1 + (Go.bits .and .i64 a1 15))) then (tinderboxlaw28_RsDecodes.j4 kj28 l2 (wrap64 (1 + (Go.bits .and .i64 a1 15))) t382 x11_2 x12_2 x13_2 x14_2 x15_2 x16_2 (ji33) x18_28 true) else (if 0 ≤ x16_2 then (if x16_2 < (l2.length : Int) then (if ((rd_T36 l2 x16_2).f2 = true) then (tinderboxlaw28_RsDecodes.j4 kj28 l2 (wrap64 (1 + (Go.bits .and .i64 a1 15))) t382 x11_2 x12_2 x13_2 x14_2 x15_2 x16_2 (ji33) x18_28 false) else (tinderboxlaw28_RsDecodes.j4 kj28 l2 (wrap64 (1 + (Go.bits .and .i64 a1 15))) t382 x11_2 x12_2 x13_2 x14_2 x15_2 x16_2 (ji33) x18_28 (((rd_T36 l2 x16_2).f1) == 0))) else (none)) else (none)))) else (none)) else (none)) = some r := by first | (rw [hji33] at H; exact H) | (simp only [hji33] at H ⊢; exact H)
                                    by_cases c34 : 0 ≤ (ji33)
                                    · rw [if_pos c34] at H
                                      have c34b0 : decide (0 ≤ (ji33)) = true := decide_eq_true c34
                                      clear c34
                                      (first | rw [c34b0] | (simp only [i64_w, i32_w]; rw [c34b0]) | skip)
                                      by_cases c35 : (ji33) < (x15_2.length : Int)
                                      · rw [if_pos c35] at H
                                        have c35b0 : decide ((ji33) < (x15_2.length : Int)) = true := decide_eq_true c35
                                        clear c35
                                        obtain ⟨bq36, hbq36⟩ : ∃ b_ : Bool, b_ = (rdOf false x15_2 (ji33)) := ⟨_, rfl⟩
                                        replace H : (if bq36 = true then (tinderboxlaw28_RsDecodes.j4 kj28 l2 (wrap64 (1 + (Go.bits .and .i64 a1 15))) t382 x11_2 x12_2 x13_2 x14_2 x15_2 x16_2 (ji33) x18_28 true) else (if (wrap64 (x13_2 + x18_28)) > (wrap64 (1 + (Go.bits .and .i64 a1 15))) then (tinderboxlaw28_RsDecodes.j4 kj28 l2 (wrap64 (1 + (Go.bits .and .i64 a1 15))) t382 x11_2 x12_2 x13_2 x14_2 x15_2 x16_2 (ji33) x18_28 true) else (if 0 ≤ x16_2 then (if x16_2 < (l2.length : Int) then (if ((rd_T36 l2 x16_2).f2 = true) then (tinderboxlaw28_RsDecodes.j4 kj28 l2 (wrap64 (1 + (Go.bits .and .i64 a1 15))) t382 x11_2 x12_2 x13_2 x14_2 x15_2 x16_2 (ji33) x18_28 false) else (tinderboxlaw28_RsDecodes.j4 kj28 l2 (wrap64 (1 + (Go.bits .and .i64 a1 15))) t382 x11_2 x12_2 x13_2 x14_2 x15_2 x16_2 (ji33) x18_28 (((rd_T36 l2 x16_2).f1) == 0))) else (none)) else (none)))) = some r := by rw [← hbq36] at H; exact H
                                        have Nbq36 := Aside0.mk hbq36
                                        clear hbq36
                                        by_cases c37 : bq36 = true
                                        · subst c37
                                          have H1 : (tinderboxlaw28_RsDecodes.j4 kj28 l2 (wrap64 (1 + (Go.bits .and .i64 a1 15))) t382 x11_2 x12_2 x13_2 x14_2 x15_2 x16_2 (ji33) x18_28 true) = some r := by rw [if_pos rfl] at H; exact H
                                          clear H
                                          have H := H1
                                          clear H1
                                          have H' := Aside0.mk H
                                          clear H
                                          obtain ⟨Ao38, co38, eo38⟩ := Kd.R_slice HO_15.out
                                          subst eo38
                                          have p399 : 0 ≤ ((ji33) : Int) := of_decide_eq_true (by first | (with_reducible assumption) | assumption)
                                          have q399 : (ji33) < (x15_2.length : Int) := of_decide_eq_true (by first | (with_reducible assumption) | assumption)
                                          obtain ⟨ad399, e399, hx399_0⟩ := Kd.at_bool (Kd.R_reads' HO_15.out).2.2 (ji33) p399 q399
                                          (try rw [← Nbq36.out] at hx399_0)
                                          cases e399
                                          replace p399 := eq_true p399
                                          replace q399 := eq_true q399
                                          go_wp2
                                          (try simp only [← hji33])
                                          go_meet
                                          case rel => exact ⟨_, (true), (by first | rfl | (simp; done) | (simp [*]; done)), (by first | exact H' | (have h_ := H'; simp only [← hji33] at h_; exact h_)), ⟨by have := HJ5.out; have := HK2.out; have := HJ22.out; have := HJ28.out; first | omega | exact Nat.le_refl _⟩, ⟨by (try simp only [hl11_2]); (with_reducible repeat (first | apply Kd.Q_alloc | apply Kd.Q_drewN | apply Kd.Q_drew)); exact HO_11.out⟩, ⟨by (try simp only [hl11_2]); (with_reducible repeat (first | apply Kd.R_alloc | apply Kd.R_drewN | apply Kd.R_drew)); exact HO_12.out⟩, ⟨by (try simp only [hl11_2]); (with_reducible repeat (first | apply Kd.R_alloc | apply Kd.R_drewN | apply Kd.R_drew)); exact HO_15.out⟩, ⟨by repeat (first | (with_reducible first | exact HB.out | apply below_alloc | apply pw_below_drewN | apply below_drew1) | exact HB.out)⟩⟩
                                        · replace c37 := Bool.eq_false_iff.mpr c37
                                          subst c37
                                          have H1 : (if (wrap64 (x13_2 + x18_28)) > (wrap64 (1 + (Go.bits .and .i64 a1 15))) then (tinderboxlaw28_RsDecodes.j4 kj28 l2 (wrap64 (1 + (Go.bits .and .i64 a1 15))) t382 x11_2 x12_2 x13_2 x14_2 x15_2 x16_2 (ji33) x18_28 true) else (if 0 ≤ x16_2 then (if x16_2 < (l2.length : Int) then (if ((rd_T36 l2 x16_2).f2 = true) then (tinderboxlaw28_RsDecodes.j4 kj28 l2 (wrap64 (1 + (Go.bits .and .i64 a1 15))) t382 x11_2 x12_2 x13_2 x14_2 x15_2 x16_2 (ji33) x18_28 false) else (tinderboxlaw28_RsDecodes.j4 kj28 l2 (wrap64 (1 + (Go.bits .and .i64 a1 15))) t382 x11_2 x12_2 x13_2 x14_2 x15_2 x16_2 (ji33) x18_28 (((rd_T36 l2 x16_2).f1) == 0))) else (none)) else (none))) = some r := by rw [if_neg (show ¬ (false = true) by decide)] at H; exact H
                                          clear H
                                          have H := H1
                                          clear H1
                                          by_cases c39 : (wrap64 (x13_2 + x18_28)) > (wrap64 (1 + (Go.bits .and .i64 a1 15)))
                                          · rw [if_pos c39] at H
                                            have c39b0 : decide ((wrap64 (1 + (Go.bits .and .i64 a1 15))) < (wrap64 (x13_2 + x18_28))) = true := decide_eq_true c39
                                            clear c39
                                            have H' := Aside0.mk H
                                            clear H
                                            obtain ⟨Ao40, co40, eo40⟩ := Kd.R_slice HO_15.out
                                            subst eo40
                                            have p399 : 0 ≤ ((ji33) : Int) := of_decide_eq_true (by first | (with_reducible assumption) | assumption)
                                            have q399 : (ji33) < (x15_2.length : Int) := of_decide_eq_true (by first | (with_reducible assumption) | assumption)
                                            obtain ⟨ad399, e399, hx399_0⟩ := Kd.at_bool (Kd.R_reads' HO_15.out).2.2 (ji33) p399 q399
                                            (try rw [← Nbq36.out] at hx399_0)
                                            cases e399
                                            replace p399 := eq_true p399
                                            replace q399 := eq_true q399
                                            go_wp2
                                            (try simp only [← hji33])
                                            go_meet
                                            case rel => exact ⟨_, (true), (by first | rfl | (simp; done) | (simp [*]; done)), (by first | exact H' | (have h_ := H'; simp only [← hji33] at h_; exact h_)), ⟨by have := HJ5.out; have := HK2.out; have := HJ22.out; have := HJ28.out; first | omega | exact Nat.le_refl _⟩, ⟨by (try simp only [hl11_2]); (with_reducible repeat (first | apply Kd.Q_alloc | apply Kd.Q_drewN | apply Kd.Q_drew)); exact HO_11.out⟩, ⟨by (try simp only [hl11_2]); (with_reducible repeat (first | apply Kd.R_alloc | apply Kd.R_drewN | apply Kd.R_drew)); exact HO_12.out⟩, ⟨by (try simp only [hl11_2]); (with_reducible repeat (first | apply Kd.R_alloc | apply Kd.R_drewN | apply Kd.R_drew)); exact HO_15.out⟩, ⟨by repeat (first | (with_reducible first | exact HB.out | apply below_alloc | apply pw_below_drewN | apply below_drew1) | exact HB.out)⟩⟩
                                          · rw [if_neg c39] at H
                                            have c39b0 : decide ((wrap64 (1 + (Go.bits .and .i64 a1 15))) < (wrap64 (x13_2 + x18_28))) = false := decide_eq_false c39
                                            clear c39
                                            by_cases c41 : 0 ≤ x16_2
                                            · rw [if_pos c41] at H
                                              have c41b0 : decide (0 ≤ x16_2) = true := decide_eq_true c41
                                              clear c41
                                              by_cases c42 : x16_2 < (l2.length : Int)
                                              · rw [if_pos c42] at H
                                                have c42b0 : decide (x16_2 < (l2.length : Int)) = true := decide_eq_true c42
                                                clear c42
                                                obtain ⟨bq43, hbq43⟩ : ∃ b_ : Bool, b_ = ((rd_T36 l2 x16_2).f2) := ⟨_, rfl⟩
                                                replace H : (if (bq43 = true) then (tinderboxlaw28_RsDecodes.j4 kj28 l2 (wrap64 (1 + (Go.bits .and .i64 a1 15))) t382 x11_2 x12_2 x13_2 x14_2 x15_2 x16_2 (ji33) x18_28 false) else (tinderboxlaw28_RsDecodes.j4 kj28 l2 (wrap64 (1 + (Go.bits .and .i64 a1 15))) t382 x11_2 x12_2 x13_2 x14_2 x15_2 x16_2 (ji33) x18_28 (((rd_T36 l2 x16_2).f1) == 0))) = some r := by rw [← hbq43] at H; exact H
                                                have Nbq43 := Aside0.mk hbq43
                                                clear hbq43
                                                by_cases c44 : (bq43 = true)
                                                · subst c44
                                                  have H1 : (tinderboxlaw28_RsDecodes.j4 kj28 l2 (wrap64 (1 + (Go.bits .and .i64 a1 15))) t382 x11_2 x12_2 x13_2 x14_2 x15_2 x16_2 (ji33) x18_28 false) = some r := by rw [if_pos rfl] at H; exact H
                                                  clear H
                                                  have H := H1
                                                  clear H1
                                                  have H' := Aside0.mk H
                                                  clear H
                                                  obtain ⟨Ao45, co45, eo45⟩ := Kd.R_slice HO_15.out
                                                  subst eo45
                                                  have p399 : 0 ≤ ((ji33) : Int) := of_decide_eq_true (by first | (with_reducible assumption) | assumption)
                                                  have q399 : (ji33) < (x15_2.length : Int) := of_decide_eq_true (by first | (with_reducible assumption) | assumption)
                                                  obtain ⟨ad399, e399, hx399_0⟩ := Kd.at_bool (Kd.R_reads' HO_15.out).2.2 (ji33) p399 q399
                                                  (try rw [← Nbq36.out] at hx399_0)
                                                  (try rw [← Nbq43.out] at hx399_0)
                                                  cases e399
                                                  replace p399 := eq_true p399
                                                  replace q399 := eq_true q399
                                                  have p400 : 0 ≤ (x16_2 : Int) := of_decide_eq_true (by first | (with_reducible assumption) | assumption)
                                                  have q400 : x16_2 < (l2.length : Int) := of_decide_eq_true (by first | (with_reducible assumption) | assumption)
                                                  obtain ⟨ad400, e400, hx400_0, hx400_1, hx400_2⟩ := at_T36 HR2.out x16_2 p400 q400
                                                  (try rw [← Nbq36.out] at hx400_2)
                                                  (try rw [← Nbq43.out] at hx400_2)
                                                  obtain rfl : ad397 = ad400 := (by injection e400)
                                                  replace hx400_0 := (HB.out.cell (World.block_lt_of_cell? w _ hx400_0)).trans hx400_0
                                                  replace hx400_1 := (HB.out.cell (World.block_lt_of_cell? w _ hx400_1)).trans hx400_1
                                                  replace hx400_2 := (HB.out.cell (World.block_lt_of_cell? w _ hx400_2)).trans hx400_2
                                                  replace p400 := eq_true p400
                                                  replace q400 := eq_true q400
                                                  go_wp2
                                                  (try simp only [← hji33])
                                                  go_meet
                                                  case rel => exact ⟨_, (false), (by first | rfl | (simp; done) | (simp [*]; done)), (by first | exact H' | (have h_ := H'; simp only [← hji33] at h_; exact h_)), ⟨by have := HJ5.out; have := HK2.out; have := HJ22.out; have := HJ28.out; first | omega | exact Nat.le_refl _⟩, ⟨by (try simp only [hl11_2]); (with_reducible repeat (first | apply Kd.Q_alloc | apply Kd.Q_drewN | apply Kd.Q_drew)); exact HO_11.out⟩, ⟨by (try simp only [hl11_2]); (with_reducible repeat (first | apply Kd.R_alloc | apply Kd.R_drewN | apply Kd.R_drew)); exact HO_12.out⟩, ⟨by (try simp only [hl11_2]); (with_reducible repeat (first | apply Kd.R_alloc | apply Kd.R_drewN | apply Kd.R_drew)); exact HO_15.out⟩, ⟨by repeat (first | (with_reducible first | exact HB.out | apply below_alloc | apply pw_below_drewN | apply below_drew1) | exact HB.out)⟩⟩
                                                · replace c44 := Bool.eq_false_iff.mpr c44
                                                  subst c44
                                                  have H1 : (tinderboxlaw28_RsDecodes.j4 kj28 l2 (wrap64 (1 + (Go.bits .and .i64 a1 15))) t382 x11_2 x12_2 x13_2 x14_2 x15_2 x16_2 (ji33) x18_28 (((rd_T36 l2 x16_2).f1) == 0)) = some r := by rw [if_neg (show ¬ (false = true) by decide)] at H; exact H
                                                  clear H
                                                  have H := H1
                                                  clear H1
                                                  have H' := Aside0.mk H
                                                  clear H
                                                  obtain ⟨Ao46, co46, eo46⟩ := Kd.R_slice HO_15.out
                                                  subst eo46
                                                  have p399 : 0 ≤ ((ji33) : Int) := of_decide_eq_true (by first | (with_reducible assumption) | assumption)
                                                  have q399 : (ji33) < (x15_2.length : Int) := of_decide_eq_true (by first | (with_reducible assumption) | assumption)
                                                  obtain ⟨ad399, e399, hx399_0⟩ := Kd.at_bool (Kd.R_reads' HO_15.out).2.2 (ji33) p399 q399
                                                  (try rw [← Nbq36.out] at hx399_0)
                                                  (try rw [← Nbq43.out] at hx399_0)
                                                  cases e399
                                                  replace p399 := eq_true p399
                                                  replace q399 := eq_true q399
                                                  have p400 : 0 ≤ (x16_2 : Int) := of_decide_eq_true (by first | (with_reducible assumption) | assumption)
                                                  have q400 : x16_2 < (l2.length : Int) := of_decide_eq_true (by first | (with_reducible assumption) | assumption)
                                                  obtain ⟨ad400, e400, hx400_0, hx400_1, hx400_2⟩ := at_T36 HR2.out x16_2 p400 q400
                                                  (try rw [← Nbq36.out] at hx400_2)
                                                  (try rw [← Nbq43.out] at hx400_2)
                                                  obtain rfl : ad397 = ad400 := (by injection e400)
                                                  replace hx400_0 := (HB.out.cell (World.block_lt_of_cell? w _ hx400_0)).trans hx400_0
                                                  replace hx400_1 := (HB.out.cell (World.block_lt_of_cell? w _ hx400_1)).trans hx400_1
                                                  replace hx400_2 := (HB.out.cell (World.block_lt_of_cell? w _ hx400_2)).trans hx400_2
                                                  replace p400 := eq_true p400
                                                  replace q400 := eq_true q400
                                                  have p401 : 0 ≤ (x16_2 : Int) := of_decide_eq_true (by first | (with_reducible assumption) | assumption)
                                                  have q401 : x16_2 < (l2.length : Int) := of_decide_eq_true (by first | (with_reducible assumption) | assumption)
                                                  obtain ⟨ad401, e401, hx401_0, hx401_1, hx401_2⟩ := at_T36 HR2.out x16_2 p401 q401
                                                  (try rw [← Nbq36.out] at hx401_2)
                                                  (try rw [← Nbq43.out] at hx401_2)
                                                  obtain rfl : ad397 = ad401 := (by injection e401)
                                                  replace hx401_0 := (HB.out.cell (World.block_lt_of_cell? w _ hx401_0)).trans hx401_0
                                                  replace hx401_1 := (HB.out.cell (World.block_lt_of_cell? w _ hx401_1)).trans hx401_1
                                                  replace hx401_2 := (HB.out.cell (World.block_lt_of_cell? w _ hx401_2)).trans hx401_2
                                                  replace p401 := eq_true p401
                                                  replace q401 := eq_true q401
                                                  go_wp2
                                                  (try simp only [← hji33])
                                                  go_meet
                                                  case rel => exact ⟨_, ((((rd_T36 l2 x16_2).f1) == 0)), (by first | rfl | (simp; done) | (simp [*]; done)), (by first | exact H' | (have h_ := H'; simp only [← hji33] at h_; exact h_)), ⟨by have := HJ5.out; have := HK2.out; have := HJ22.out; have := HJ28.out; first | omega | exact Nat.le_refl _⟩, ⟨by (try simp only [hl11_2]); (with_reducible repeat (first | apply Kd.Q_alloc | apply Kd.Q_drewN | apply Kd.Q_drew)); exact HO_11.out⟩, ⟨by (try simp only [hl11_2]); (with_reducible repeat (first | apply Kd.R_alloc | apply Kd.R_drewN | apply Kd.R_drew)); exact HO_12.out⟩, ⟨by (try simp only [hl11_2]); (with_reducible repeat (first | apply Kd.R_alloc | apply Kd.R_drewN | apply Kd.R_drew)); exact HO_15.out⟩, ⟨by repeat (first | (with_reducible first | exact HB.out | apply below_alloc | apply pw_below_drewN | apply below_drew1) | exact HB.out)⟩⟩
                                              · rw [if_neg c42] at H
                                                exact absurd H (by simp)
                                            · rw [if_neg c41] at H
                                              exact absurd H (by simp)
                                      · rw [if_neg c35] at H
                                        exact absurd H (by simp)
                                    · rw [if_neg c34] at H
                                      exact absurd H (by simp)
                                  case rest =>
                                    clear HC32
                                    try clear c1
                                    try clear c2
                                    try clear p2
                                    try clear c3
                                    try clear p3
                                    try clear q3
                                    try clear hx3
                                    try clear c4
                                    try clear p4
                                    try clear q4
                                    try clear hx4
                                    try clear c5
                                    try clear p6
                                    try clear c9
                                    try clear c10
                                    try clear c11
                                    try clear c12
                                    try clear c13
                                    try clear c13b0
                                    try clear c13b1
                                    try clear c13b2
                                    try clear c14
                                    try clear c14b0
                                    try clear c14b1
                                    try clear c15
                                    try clear c15b0
                                    try clear c15b1
                                    try clear c24
                                    try clear c24b0
                                    try clear c25
                                    try clear c26
                                    try clear c26b0
                                    try clear c27
                                    try clear c27b0
                                    try clear c28
                                    try clear c28b0
                                    try clear c28b1
                                    try clear c28b2
                                    try clear q30
                                    try clear c31
                                    try clear c34
                                    try clear c34b0
                                    try clear c35
                                    try clear c35b0
                                    try clear q36
                                    try clear c37
                                    try clear c39
                                    try clear c39b0
                                    try clear p39
                                    try clear q39
                                    try clear hx39
                                    try clear p40
                                    try clear q40
                                    try clear hx40
                                    try clear c41
                                    try clear c41b0
                                    try clear c42
                                    try clear c42b0
                                    try clear q43
                                    try clear c44
                                    try clear hx397_0
                                    try clear hx397_1
                                    try clear hx397_2
                                    try clear hx398_0
                                    try clear hx398_1
                                    try clear hx398_2
                                    try clear hx399_0
                                    try clear hx400_0
                                    try clear hx400_1
                                    try clear hx400_2
                                    try clear hx401_0
                                    try clear hx401_1
                                    try clear hx401_2
                                    try clear p2
                                    try clear p3
                                    try clear p397
                                    try clear p398
                                    try clear p399
                                    try clear p400
                                    try clear p401
                                    try clear p6
                                    try clear q3
                                    try clear q30
                                    try clear q397
                                    try clear q398
                                    try clear q399
                                    try clear q400
                                    try clear q401
                                    obtain ⟨kq, x100_31, rfl, HA, HJ31, HO_11, HO_12, HO_15, HB⟩ := hcut
                                    cases kq with
                                    | zero => exact absurd HA.out (by simp [tinderboxlaw28_RsDecodes.j4])
                                    | succ kj31 =>
                                      have H := HA.out
                                      clear HA
                                      simp only [tinderboxlaw28_RsDecodes.j4] at H
                                      by_cases c47 : x100_31 = true
                                      · subst c47
                                        have H1 : (tinderboxlaw28_RsDecodes.l0 kj31 l2 (wrap64 (1 + (Go.bits .and .i64 a1 15))) t382 x11_2 x12_2 x13_2 x14_2 x15_2 (wrap64 (x16_2 + 1))) = some r := by rw [if_pos rfl] at H; exact H
                                        clear H
                                        have H := H1
                                        clear H1
                                        have H' := Aside0.mk H
                                        clear H
                                        go_wp2
                                        (try simp only [← hl11_2])
                                        go_roundg kj31
                                        case measure => have := HJ5.out; have := HK2.out; have := HJ22.out; have := HJ28.out; have := HJ31.out; omega
                                        case rel => exact ⟨(x11_2), (x12_2), (x13_2), (x14_2), (x15_2), (wrap64 (x16_2 + 1)), (by first | rfl | (simp; done) | (simp [*]; done)), (by first | rfl | (simp; done) | (simp [*]; done)), (by first | rfl | (simp; done) | (simp [*]; done)), H', ⟨by have := HJ5.out; have := HK2.out; have := HJ22.out; have := HJ28.out; have := HJ31.out; omega⟩, ⟨by (try simp only [hl11_2]); (with_reducible repeat (first | apply Kd.Q_alloc | apply Kd.Q_drewN | apply Kd.Q_drew)); exact HO_11.out⟩, ⟨by (try simp only [hl11_2]); (with_reducible repeat (first | apply Kd.R_alloc | apply Kd.R_drewN | apply Kd.R_drew)); exact HO_12.out⟩, ⟨by (try simp only [hl11_2]); (with_reducible repeat (first | apply Kd.R_alloc | apply Kd.R_drewN | apply Kd.R_drew)); exact HO_15.out⟩, ⟨by repeat (first | (with_reducible first | exact HB.out | apply below_alloc | apply pw_below_drewN | apply below_drew1) | exact HB.out)⟩⟩
                                      · replace c47 := Bool.eq_false_iff.mpr c47
                                        subst c47
                                        have H1 : (if 0 ≤ (Int.tmod (wrap64 ((Int.tmod ((rd_T36 l2 x16_2).f0) (x11_2.length : Int)) + (x11_2.length : Int))) (x11_2.length : Int)) then (if (Int.tmod (wrap64 ((Int.tmod ((rd_T36 l2 x16_2).f0) (x11_2.length : Int)) + (x11_2.length : Int))) (x11_2.length : Int)) < (x15_2.length : Int) then ((some (x15_2.set ((Int.tmod (wrap64 ((Int.tmod ((rd_T36 l2 x16_2).f0) (x11_2.length : Int)) + (x11_2.length : Int))) (x11_2.length : Int)) : Int).toNat true : List Bool)).bind fun y402 => (if (Int.tmod (wrap64 ((Int.tmod ((rd_T36 l2 x16_2).f0) (x11_2.length : Int)) + (x11_2.length : Int))) (x11_2.length : Int)) < (x11_2.length : Int) then (if 0 ≤ x16_2 then (if x16_2 < (l2.length : Int) then ((some (x11_2.set ((Int.tmod (wrap64 ((Int.tmod ((rd_T36 l2 x16_2).f0) (x11_2.length : Int)) + (x11_2.length : Int))) (x11_2.length : Int)) : Int).toNat (Go.bits .xor .u8 (rd x11_2 (Int.tmod (wrap64 ((Int.tmod ((rd_T36 l2 x16_2).f0) (x11_2.length : Int)) + (x11_2.length : Int))) (x11_2.length : Int))) ((rd_T36 l2 x16_2).f1)) : List Int)).bind fun y405 => (if ((rd_T36 l2 x16_2).f1) = 0 then (if (rd_T36 l2 x16_2).f2 = true then (if x12_2.length < 17592186044416 then (tinderboxlaw28_RsDecodes.l0 kj31 l2 (wrap64 (1 + (Go.bits .and .i64 a1 15))) t382 y405 (x12_2 ++ [(Int.tmod (wrap64 ((Int.tmod ((rd_T36 l2 x16_2).f0) (x11_2.length : Int)) + (x11_2.length : Int))) (x11_2.length : Int))]) (wrap64 (x13_2 + x18_28)) x14_2 y402 (wrap64 (x16_2 + 1))) else (none)) else (tinderboxlaw28_RsDecodes.l0 kj31 l2 (wrap64 (1 + (Go.bits .and .i64 a1 15))) t382 y405 x12_2 (wrap64 (x13_2 + x18_28)) x14_2 y402 (wrap64 (x16_2 + 1)))) else (if (rd_T36 l2 x16_2).f2 = true then (if x12_2.length < 17592186044416 then (tinderboxlaw28_RsDecodes.l0 kj31 l2 (wrap64 (1 + (Go.bits .and .i64 a1 15))) t382 y405 (x12_2 ++ [(Int.tmod (wrap64 ((Int.tmod ((rd_T36 l2 x16_2).f0) (x11_2.length : Int)) + (x11_2.length : Int))) (x11_2.length : Int))]) (wrap64 (x13_2 + x18_28)) (wrap64 (x14_2 + 1)) y402 (wrap64 (x16_2 + 1))) else (none)) else (tinderboxlaw28_RsDecodes.l0 kj31 l2 (wrap64 (1 + (Go.bits .and .i64 a1 15))) t382 y405 x12_2 (wrap64 (x13_2 + x18_28)) (wrap64 (x14_2 + 1)) y402 (wrap64 (x16_2 + 1)))))) else (none)) else (none)) else (none))) else (none)) else (none)) = some r := by rw [if_neg (show ¬ (false = true) by decide)] at H; exact H
                                        clear H
                                        have H := H1
                                        clear H1
                                        obtain ⟨ji48, hji48⟩ : ∃ j_ : Int, (Int.tmod (wrap64 ((Int.tmod ((rd_T36 l2 x16_2).f0) (x11_2.length : Int)) + (x11_2.length : Int))) (x11_2.length : Int)) = j_ := ⟨_, rfl⟩
                                        replace H : (if 0 ≤ (ji48) then (if (ji48) < (x15_2.length : Int) then ((some (x15_2.set ((ji48) : Int).toNat true : List Bool)).bind fun y402 => (if (ji48) < (x11_2.length : Int) then (if 0 ≤ x16_2 then (if x16_2 < (l2.length : Int) then ((some (x11_2.set ((ji48) : Int).toNat (Go.bits .xor .u8 (rd x11_2 (ji48)) ((rd_T36 l2 x16_2).f1)) : List Int)).bind fun y405 => (if ((rd_T36 l2 x16_2).f1) = 0 then (if (rd_T36 l2 x16_2).f2 = true then (if x12_2.length < 17592186044416 then (tinderboxlaw28_RsDecodes.l0 kj31 l2 (wrap64 (1 + (Go.bits .and .i64 a1 15))) t382 y405 (x12_2 ++ [(ji48)]) (wrap64 (x13_2 + x18_28)) x14_2 y402 (wrap64 (x16_2 + 1))) else (none)) else (tinderboxlaw28_RsDecodes.l0 kj31 l2 (wrap64 (1 + (Go.bits .and .i64 a1 15))) t382 y405 x12_2 (wrap64 (x13_2 + x18_28)) x14_2 y402 (wrap64 (x16_2 + 1)))) else (if (rd_T36 l2 x16_2).f2 = true then (if x12_2.length < 17592186044416 then (tinderboxlaw28_RsDecodes.l0 kj31 l2 (wrap64 (1 + (Go.bits .and .i64 a1 15))) t382 y405 (x12_2 ++ [(ji48)]) (wrap64 (x13_2 + x18_28)) (wrap64 (x14_2 + 1)) y402 (wrap64 (x16_2 + 1))) else (none)) else (tinderboxlaw28_RsDecodes.l0 kj31 l2 (wrap64 (1 + (Go.bits .and .i64 a1 15))) t382 y405 x12_2 (wrap64 (x13_2 + x18_28)) (wrap64 (x14_2 + 1)) y402 (wrap64 (x16_2 + 1)))))) else (none)) else (none)) else (none))) else (none)) else (none)) = some r := by first | (rw [hji48] at H; exact H) | (simp only [hji48] at H ⊢; exact H)
                                        by_cases c49 : 0 ≤ (ji48)
                                        · rw [if_pos c49] at H
                                          have c49b0 : decide (0 ≤ (ji48)) = true := decide_eq_true c49
                                          clear c49
                                          by_cases c50 : (ji48) < (x15_2.length : Int)
                                          · rw [if_pos c50] at H
                                            have c50b0 : decide ((ji48) < (x15_2.length : Int)) = true := decide_eq_true c50
                                            clear c50
                                            obtain ⟨y402, hy402⟩ : ∃ y_ : List Bool, y_ = (x15_2.set ((ji48) : Int).toNat true) := ⟨_, rfl⟩
                                            replace H : (if (ji48) < (x11_2.length : Int) then (if 0 ≤ x16_2 then (if x16_2 < (l2.length : Int) then ((some (x11_2.set ((ji48) : Int).toNat (Go.bits .xor .u8 (rd x11_2 (ji48)) ((rd_T36 l2 x16_2).f1)) : List Int)).bind fun y405 => (if ((rd_T36 l2 x16_2).f1) = 0 then (if (rd_T36 l2 x16_2).f2 = true then (if x12_2.length < 17592186044416 then (tinderboxlaw28_RsDecodes.l0 kj31 l2 (wrap64 (1 + (Go.bits .and .i64 a1 15))) t382 y405 (x12_2 ++ [(ji48)]) (wrap64 (x13_2 + x18_28)) x14_2 y402 (wrap64 (x16_2 + 1))) else (none)) else (tinderboxlaw28_RsDecodes.l0 kj31 l2 (wrap64 (1 + (Go.bits .and .i64 a1 15))) t382 y405 x12_2 (wrap64 (x13_2 + x18_28)) x14_2 y402 (wrap64 (x16_2 + 1)))) else (if (rd_T36 l2 x16_2).f2 = true then (if x12_2.length < 17592186044416 then (tinderboxlaw28_RsDecodes.l0 kj31 l2 (wrap64 (1 + (Go.bits .and .i64 a1 15))) t382 y405 (x12_2 ++ [(ji48)]) (wrap64 (x13_2 + x18_28)) (wrap64 (x14_2 + 1)) y402 (wrap64 (x16_2 + 1))) else (none)) else (tinderboxlaw28_RsDecodes.l0 kj31 l2 (wrap64 (1 + (Go.bits .and .i64 a1 15))) t382 y405 x12_2 (wrap64 (x13_2 + x18_28)) (wrap64 (x14_2 + 1)) y402 (wrap64 (x16_2 + 1)))))) else (none)) else (none)) else (none)) = some r := by first | (rw [hy402]; with_reducible exact H) | (have H2_ := (Option.bind_some _ _).symm.trans H; rw [hy402]; with_reducible exact H2_) | (have H2_ := (Option.bind_some _ _).symm.trans H; with_reducible exact H2_) | with_reducible exact H | (rw [hy402]; exact H) | exact H
                                            have Ny402 := Aside0.mk hy402
                                            clear hy402
                                            by_cases c52 : (ji48) < (x11_2.length : Int)
                                            · rw [if_pos c52] at H
                                              have c52b0 : decide ((ji48) < (x11_2.length : Int)) = true := decide_eq_true c52
                                              clear c52
                                              by_cases c53 : 0 ≤ x16_2
                                              · rw [if_pos c53] at H
                                                have c53b0 : decide (0 ≤ x16_2) = true := decide_eq_true c53
                                                clear c53
                                                by_cases c54 : x16_2 < (l2.length : Int)
                                                · rw [if_pos c54] at H
                                                  have c54b0 : decide (x16_2 < (l2.length : Int)) = true := decide_eq_true c54
                                                  clear c54
                                                  obtain ⟨y405, hy405⟩ : ∃ y_ : List Int, y_ = (x11_2.set ((ji48) : Int).toNat (Go.bits .xor .u8 (rd x11_2 (ji48)) ((rd_T36 l2 x16_2).f1))) := ⟨_, rfl⟩
                                                  replace H : (if ((rd_T36 l2 x16_2).f1) = 0 then (if (rd_T36 l2 x16_2).f2 = true then (if x12_2.length < 17592186044416 then (tinderboxlaw28_RsDecodes.l0 kj31 l2 (wrap64 (1 + (Go.bits .and .i64 a1 15))) t382 y405 (x12_2 ++ [(ji48)]) (wrap64 (x13_2 + x18_28)) x14_2 y402 (wrap64 (x16_2 + 1))) else (none)) else (tinderboxlaw28_RsDecodes.l0 kj31 l2 (wrap64 (1 + (Go.bits .and .i64 a1 15))) t382 y405 x12_2 (wrap64 (x13_2 + x18_28)) x14_2 y402 (wrap64 (x16_2 + 1)))) else (if (rd_T36 l2 x16_2).f2 = true then (if x12_2.length < 17592186044416 then (tinderboxlaw28_RsDecodes.l0 kj31 l2 (wrap64 (1 + (Go.bits .and .i64 a1 15))) t382 y405 (x12_2 ++ [(ji48)]) (wrap64 (x13_2 + x18_28)) (wrap64 (x14_2 + 1)) y402 (wrap64 (x16_2 + 1))) else (none)) else (tinderboxlaw28_RsDecodes.l0 kj31 l2 (wrap64 (1 + (Go.bits .and .i64 a1 15))) t382 y405 x12_2 (wrap64 (x13_2 + x18_28)) (wrap64 (x14_2 + 1)) y402 (wrap64 (x16_2 + 1))))) = some r := by first | (rw [hy405]; with_reducible exact H) | (have H2_ := (Option.bind_some _ _).symm.trans H; rw [hy405]; with_reducible exact H2_) | (have H2_ := (Option.bind_some _ _).symm.trans H; with_reducible exact H2_) | with_reducible exact H | (rw [hy405]; exact H) | exact H
                                                  have Ny405 := Aside0.mk hy405
                                                  clear hy405
                                                  by_cases c56 : ((rd_T36 l2 x16_2).f1) = 0
                                                  · rw [if_pos c56] at H
                                                    have c56b0 : (((rd_T36 l2 x16_2).f1) == 0) = true := beq_iff_eq.mpr c56
                                                    have c56b1 : (((rd_T36 l2 x16_2).f1) != 0) = false := bne_eq_false_iff_eq.mpr c56
                                                    clear c56
                                                    obtain ⟨bq57, hbq57⟩ : ∃ b_ : Bool, b_ = ((rd_T36 l2 x16_2).f2) := ⟨_, rfl⟩
                                                    replace H : (if bq57 = true then (if x12_2.length < 17592186044416 then (tinderboxlaw28_RsDecodes.l0 kj31 l2 (wrap64 (1 + (Go.bits .and .i64 a1 15))) t382 y405 (x12_2 ++ [(ji48)]) (wrap64 (x13_2 + x18_28)) x14_2 y402 (wrap64 (x16_2 + 1))) else (none)) else (tinderboxlaw28_RsDecodes.l0 kj31 l2 (wrap64 (1 + (Go.bits .and .i64 a1 15))) t382 y405 x12_2 (wrap64 (x13_2 + x18_28)) x14_2 y402 (wrap64 (x16_2 + 1)))) = some r := by rw [← hbq57] at H; exact H
                                                    have Nbq57 := Aside0.mk hbq57
                                                    clear hbq57
                                                    by_cases c58 : bq57 = true
                                                    · subst c58
                                                      have H1 : (if x12_2.length < 17592186044416 then (tinderboxlaw28_RsDecodes.l0 kj31 l2 (wrap64 (1 + (Go.bits .and .i64 a1 15))) t382 y405 (x12_2 ++ [(ji48)]) (wrap64 (x13_2 + x18_28)) x14_2 y402 (wrap64 (x16_2 + 1))) else (none)) = some r := by rw [if_pos rfl] at H; exact H
                                                      clear H
                                                      have H := H1
                                                      clear H1
                                                      by_cases c59 : x12_2.length < 17592186044416
                                                      · rw [if_pos c59] at H
                                                        have LMc59 := Aside0.mk c59
                                                        clear c59
                                                        obtain ⟨y408, hy408⟩ : ∃ y_ : List Int, y_ = (x12_2 ++ [(ji48)]) := ⟨_, rfl⟩
                                                        replace H : (tinderboxlaw28_RsDecodes.l0 kj31 l2 (wrap64 (1 + (Go.bits .and .i64 a1 15))) t382 y405 y408 (wrap64 (x13_2 + x18_28)) x14_2 y402 (wrap64 (x16_2 + 1))) = some r := by first | (rw [hy408]; with_reducible exact H) | (have H2_ := (Option.bind_some _ _).symm.trans H; rw [hy408]; with_reducible exact H2_) | (have H2_ := (Option.bind_some _ _).symm.trans H; with_reducible exact H2_) | with_reducible exact H | (rw [hy408]; exact H) | exact H
                                                        have Ny408 := Aside0.mk hy408
                                                        clear hy408
                                                        have H' := Aside0.mk H
                                                        clear H
                                                        have p51 : 0 ≤ ((ji48) : Int) := of_decide_eq_true (by first | (with_reducible assumption) | assumption)
                                                        have q51 : ((ji48) : Int) < ((x15_2.length : Int) : Int) := of_decide_eq_true (by first | (with_reducible assumption) | assumption)
                                                        obtain ⟨go51, co51, eo51, gb51, gl51, cl51, HG51⟩ := Kd.R_form HO_15.out (by omega)
                                                        (first | cases eo51 | (injection eo51 with ea_ en_ ec_; (first | subst ea_ | (injection ea_ with ea_; subst ea_)); subst ec_; clear en_))
                                                        have GB51 := Aside0.mk gb51
                                                        have GG51 := Aside0.mk HG51
                                                        clear gb51 gl51 HG51
                                                        obtain ⟨hx51_0, hf51_0⟩ := Kd.R_celln false HO_15.out ((ji48) : Int) p51 q51
                                                        replace p51 := eq_true p51
                                                        replace q51 := eq_true q51
                                                        have HP60 := Kd.R_putg HO_15.out ((ji48) : Int) true
                                                        try go_wp2_with (first | ((with_reducible refine gate_store (t := 4) (p := 106) rfl ?_); refine store_event (t := 4) (p := 106) (v := ?vo_w61) (w1 := (wc.setCell ⟨go51, ((ji48) : Int).toNat, none⟩ (.bool true))) ?hg ?ho ?hn ?hr ?_; (case ho => rfl); (case hg => rfl); (case hn => rfl); (case hr => first | (go_simp; done) | (go_simp; rfl)); intro w61 hw; have hg : wc.grownBy w61 (some go51) := (by rw [hw]; exact HP60.2); have hp_ : Kd.R Kd.bool 4 w61 w.heap.size (fun _ => True) (.slice (some ⟨go51, 0, none⟩) x15_2.length co51) y402 := (by rw [hw, Ny402.out]; exact HP60.1); clear HP60; have n0_ := Aside0.mk (Kd.Q_over' (v := (.slice (some ⟨go51, 0, none⟩) x15_2.length co51)) (by (with_reducible repeat (first | apply Kd.Q_alloc | apply Kd.Q_drewN | apply Kd.Q_drew)); exact HO_11.out) (Kd.R_typed HO_15.out) (by decide) hg); have n1_ := Aside0.mk (Kd.R_over' (v := (.slice (some ⟨go51, 0, none⟩) x15_2.length co51)) (by (with_reducible repeat (first | apply Kd.R_alloc | apply Kd.R_drewN | apply Kd.R_drew)); exact HO_12.out) (Kd.R_typed HO_15.out) (by decide) hg); have n2_ := Aside0.mk (hp_); have n3_ := Aside0.mk ((by rw [hw]; exact below_set (HB.out) GB51.out : Below w.heap.size w w61)); clear HO_11; clear HO_12; clear HO_15; clear HB; have HO_11 := n0_; have HO_12 := n1_; have HO_15 := n2_; have HB := n3_; clear n0_ n1_ n2_ n3_; clear hg hw hp_))
                                                        have n0_ := Aside0.mk (Kd.Q_drew HO_11.out)
                                                        have n1_ := Aside0.mk (Kd.R_drew HO_12.out)
                                                        have n2_ := Aside0.mk (Kd.R_drew HO_15.out)
                                                        have n3_ := Aside0.mk (below_drew1 HB.out)
                                                        clear HO_11
                                                        clear HO_12
                                                        clear HO_15
                                                        clear HB
                                                        have HO_11 := n0_
                                                        have HO_12 := n1_
                                                        have HO_15 := n2_
                                                        have HB := n3_
                                                        clear n0_ n1_ n2_ n3_
                                                        have p403 : 0 ≤ ((ji48) : Int) := of_decide_eq_true (by first | (with_reducible assumption) | assumption)
                                                        have q403 : (ji48) < (x11_2.length : Int) := of_decide_eq_true (by first | (with_reducible assumption) | assumption)
                                                        obtain ⟨ad403, e403, hx403_0⟩ := Kd.at_int (Kd.Q_reads' HO_11.out).2.2 (ji48) p403 q403
                                                        cases e403
                                                        replace p403 := eq_true p403
                                                        replace q403 := eq_true q403
                                                        have p404 : 0 ≤ (x16_2 : Int) := of_decide_eq_true (by first | (with_reducible assumption) | assumption)
                                                        have q404 : x16_2 < (l2.length : Int) := of_decide_eq_true (by first | (with_reducible assumption) | assumption)
                                                        obtain ⟨ad404, e404, hx404_0, hx404_1, hx404_2⟩ := at_T36 HR2.out x16_2 p404 q404
                                                        have hw404_2 := hx404_2
                                                        (try rw [← Nbq57.out] at hw404_2)
                                                        have hw404_1 := hx404_1
                                                        have hw404_0 := hx404_0
                                                        (try rw [← Nbq57.out] at hx404_2)
                                                        obtain rfl : ad397 = ad404 := (by injection e404)
                                                        replace hx404_0 := (HB.out.cell (World.block_lt_of_cell? w _ hx404_0)).trans hx404_0
                                                        replace hx404_1 := (HB.out.cell (World.block_lt_of_cell? w _ hx404_1)).trans hx404_1
                                                        replace hx404_2 := (HB.out.cell (World.block_lt_of_cell? w _ hx404_2)).trans hx404_2
                                                        replace p404 := eq_true p404
                                                        replace q404 := eq_true q404
                                                        have p55 : 0 ≤ ((ji48) : Int) := of_decide_eq_true (by first | (with_reducible assumption) | assumption)
                                                        have q55 : ((ji48) : Int) < ((x11_2.length : Int) : Int) := of_decide_eq_true (by first | (with_reducible assumption) | assumption)
                                                        obtain ⟨go55, oo55, co55, eo55, gb55, gl55, cl55, HG55⟩ := Kd.Q_form HO_11.out (by omega)
                                                        (first | cases eo55 | (injection eo55 with ea_ en_ ec_; (first | subst ea_ | (injection ea_ with ea_; subst ea_)); subst ec_; clear en_))
                                                        have GB55 := Aside0.mk gb55
                                                        have GG55 := Aside0.mk HG55
                                                        clear gb55 gl55 HG55
                                                        (first | simp only [add_at] at hx403_0 | skip)
                                                        obtain ⟨hx55_0, hf55_0⟩ := Kd.Q_cell 0 HO_11.out ((ji48) : Int) p55 q55
                                                        replace p55 := eq_true p55
                                                        replace q55 := eq_true q55
                                                        have HP63 := (Kd.Q_putg HO_11.out ((ji48) : Int) (of_decide_eq_true (by first | (with_reducible assumption) | assumption)) (by have h_ : ((ji48) : Int) < ((x11_2.length : Int) : Int) := of_decide_eq_true (by first | (with_reducible assumption) | assumption); first | exact h_ | (have e_ := (Kd.Q_reads' HO_11.out).1; omega) | simpa using h_) (Go.bits .xor .u8 (rd x11_2 (ji48)) ((rd_T36 l2 x16_2).f1))).1
                                                        rw [← Ny405.out] at HP63
                                                        have HQ63 := Aside0.mk HP63
                                                        clear HP63
                                                        refine start_ (n := 12) (S := fun w' => w'.cell? ⟨go55, oo55 + ((ji48)).toNat, none⟩ = some (.int .u8 (rd x11_2 (ji48))) ∧ w'.cell? (ad397.add ((x16_2).toNat * 3)) = some (.int .i64 ((rd_T36 l2 x16_2).f0)) ∧ w'.cell? ⟨(ad397.add ((x16_2).toNat * 3)).block, (ad397.add ((x16_2).toNat * 3)).off + 1, none⟩ = some (.int .u8 ((rd_T36 l2 x16_2).f1)) ∧ w'.cell? ⟨(ad397.add ((x16_2).toNat * 3)).block, (ad397.add ((x16_2).toNat * 3)).off + 2, none⟩ = some (.bool true)) (ds := [11]) #[false, false, false, false, false, false, false, false, false, false, false, false] (by kernel_rfl) rfl rfl ⟨hx403_0, ((HB.out.cell (World.block_lt_of_cell? w _ hw404_0)).trans hw404_0), ((HB.out.cell (World.block_lt_of_cell? w _ hw404_1)).trans hw404_1), ((HB.out.cell (World.block_lt_of_cell? w _ hw404_2)).trans hw404_2)⟩ (fun hHeld => ?_); refine with_tabW tinderboxlaw28_RsDecodes.tab17 tinderboxlaw28_RsDecodes.bits17 (fun HT_ HW_ => ?_)
                                                        generalize w61.drew = w62 at HO_11 HO_12 HO_15 HB GG55 HQ63 hf55_0 hx403_0 hx404_0 hx404_1 hx404_2 hx55_0 hHeld ⊢
                                                        refine pure_ (i := 0) (N := some 107) (v := ?_) (a' := ?_) #[true, false, false, false, false, false, false, false, false, false, false, false] rfl rfl (any_of HT_.out (by kernel_rfl)) (fun _ _ _ h => h) (Or.inl ⟨by rfl, ?_⟩) ?_ ?_
                                                        rotate_left
                                                        · intro w'
                                                          go_simp
                                                          with_reducible rfl
                                                        rotate_left
                                                        · simp only [Act.put, List.setIfInBounds_toArray, List.set_cons_zero, List.set_cons_succ, i64_w, i32_w]
                                                          rfl
                                                        refine pure_ (i := 1) (N := some 108) (v := ?_) (a' := ?_) #[true, true, false, false, false, false, false, false, false, false, false, false] rfl rfl (any_of HT_.out (by kernel_rfl)) (fun _ _ _ h => h) (Or.inl ⟨by rfl, ?_⟩) ?_ ?_
                                                        rotate_left
                                                        · intro w'
                                                          go_simp
                                                          with_reducible rfl
                                                        rotate_left
                                                        · simp only [Act.put, List.setIfInBounds_toArray, List.set_cons_zero, List.set_cons_succ, i64_w, i32_w]
                                                          rfl
                                                        refine pure_ (i := 2) (N := some 109) (v := ?_) (a' := ?_) #[true, true, true, false, false, false, false, false, false, false, false, false] rfl rfl (any_of HT_.out (by kernel_rfl)) (fun _ _ _ h => h) (Or.inl ⟨by rfl, ?_⟩) ?_ ?_
                                                        rotate_left
                                                        · intro w'
                                                          go_simp
                                                          with_reducible rfl
                                                        rotate_left
                                                        · simp only [Act.put, List.setIfInBounds_toArray, List.set_cons_zero, List.set_cons_succ, i64_w, i32_w]
                                                          rfl
                                                        refine pure_ (i := 4) (N := some 111) (v := ?_) (a' := ?_) #[true, true, true, false, true, false, false, false, false, false, false, false] rfl rfl (any_of HT_.out (by kernel_rfl)) (fun _ _ _ h => h) (Or.inl ⟨by rfl, ?_⟩) ?_ ?_
                                                        rotate_left
                                                        · intro w'
                                                          go_simp
                                                          with_reducible rfl
                                                        rotate_left
                                                        · simp only [Act.put, List.setIfInBounds_toArray, List.set_cons_zero, List.set_cons_succ, i64_w, i32_w]
                                                          rfl
                                                        refine pure_ (i := 5) (N := some 112) (v := ?_) (a' := ?_) #[true, true, true, false, true, true, false, false, false, false, false, false] rfl rfl (any_of HT_.out (by kernel_rfl)) (fun _ _ _ h => h) (Or.inl ⟨by rfl, ?_⟩) ?_ ?_
                                                        rotate_left
                                                        · intro w'
                                                          go_simp
                                                          with_reducible rfl
                                                        rotate_left
                                                        · simp only [Act.put, List.setIfInBounds_toArray, List.set_cons_zero, List.set_cons_succ, i64_w, i32_w]
                                                          rfl
                                                        refine pure_ (i := 6) (N := some 113) (v := ?_) (a' := ?_) #[true, true, true, false, true, true, true, false, false, false, false, false] rfl rfl (any_of HT_.out (by kernel_rfl)) (fun _ _ _ h => h) (Or.inl ⟨by rfl, ?_⟩) ?_ ?_
                                                        rotate_left
                                                        · intro w'
                                                          go_simp
                                                          with_reducible rfl
                                                        rotate_left
                                                        · simp only [Act.put, List.setIfInBounds_toArray, List.set_cons_zero, List.set_cons_succ, i64_w, i32_w]
                                                          rfl
                                                        refine pure_ (i := 7) (N := some 114) (v := ?_) (a' := ?_) #[true, true, true, false, true, true, true, true, false, false, false, false] rfl rfl (any_of HT_.out (by kernel_rfl)) (fun _ _ _ h => h) (Or.inl ⟨by rfl, ?_⟩) ?_ ?_
                                                        rotate_left
                                                        · intro w'
                                                          go_simp
                                                          with_reducible rfl
                                                        rotate_left
                                                        · simp only [Act.put, List.setIfInBounds_toArray, List.set_cons_zero, List.set_cons_succ, i64_w, i32_w]
                                                          rfl
                                                        refine take_ (i := 3) (N := some 110) (v := ?_) (a' := ?_) #[true, true, true, true, true, true, true, true, false, false, false, false] rfl rfl (take_ofW HT_.out HW_.out (by kernel_rfl)) (fun _ _ _ h => h) (Or.inl ⟨by rfl, ?_⟩) hHeld ?_ ?_
                                                        rotate_left
                                                        · rintro w' ⟨s0, s1, s2, s3⟩
                                                          go_simp
                                                          with_reducible rfl
                                                        rotate_left
                                                        · simp only [Act.put, List.setIfInBounds_toArray, List.set_cons_zero, List.set_cons_succ, i64_w, i32_w]
                                                          rfl
                                                        refine take_ (i := 8) (N := some 115) (v := ?_) (a' := ?_) #[true, true, true, true, true, true, true, true, true, false, false, false] rfl rfl (take_ofW HT_.out HW_.out (by kernel_rfl)) (fun _ _ _ h => h) (Or.inl ⟨by rfl, ?_⟩) hHeld ?_ ?_
                                                        rotate_left
                                                        · rintro w' ⟨s0, s1, s2, s3⟩
                                                          go_simp
                                                          with_reducible rfl
                                                        rotate_left
                                                        · simp only [Act.put, List.setIfInBounds_toArray, List.set_cons_zero, List.set_cons_succ, i64_w, i32_w]
                                                          rfl
                                                        refine pure_ (i := 9) (N := some 116) (v := ?_) (a' := ?_) #[true, true, true, true, true, true, true, true, true, true, false, false] rfl rfl (any_of HT_.out (by kernel_rfl)) (fun _ _ _ h => h) (Or.inl ⟨by rfl, ?_⟩) ?_ ?_
                                                        rotate_left
                                                        · intro w'
                                                          go_simp
                                                          with_reducible rfl
                                                        rotate_left
                                                        · simp only [Act.put, List.setIfInBounds_toArray, List.set_cons_zero, List.set_cons_succ, i64_w, i32_w]
                                                          rfl
                                                        refine pure_ (i := 10) (N := some 117) (v := ?_) (a' := ?_) #[true, true, true, true, true, true, true, true, true, true, true, false] rfl rfl (any_of HT_.out (by kernel_rfl)) (fun _ _ _ h => h) (Or.inl ⟨by rfl, ?_⟩) ?_ ?_
                                                        rotate_left
                                                        · intro w'
                                                          go_simp
                                                          with_reducible rfl
                                                        rotate_left
                                                        · simp only [Act.put, List.setIfInBounds_toArray, List.set_cons_zero, List.set_cons_succ, i64_w, i32_w]
                                                          rfl
                                                        refine last_ (i := 11) (N := none) #[true, true, true, true, true, true, true, true, true, true, true, true] rfl rfl (one_of HT_.out (by kernel_rfl)) (by decide) (fun K hK => ?_)
                                                        refine skip_ (w1 := ?_) (by rfl) rfl ?_ ?_
                                                        rotate_left
                                                        · go_simp
                                                          rfl
                                                        refine hK.out _ _ ?_
                                                        clear hK K
                                                        refine done_ (done_of HT_.out (by kernel_rfl)) ?_
                                                        have p406 : 0 ≤ (x16_2 : Int) := of_decide_eq_true (by first | (with_reducible assumption) | assumption)
                                                        have q406 : x16_2 < (l2.length : Int) := of_decide_eq_true (by first | (with_reducible assumption) | assumption)
                                                        obtain ⟨ad406, e406, hx406_0, hx406_1, hx406_2⟩ := at_T36 HR2.out x16_2 p406 q406
                                                        (try rw [← Nbq57.out] at hx406_2)
                                                        obtain rfl : ad397 = ad406 := (by injection e406)
                                                        have hn406_0 : ad397.block ≠ go55 := Nat.ne_of_lt (Nat.lt_of_lt_of_le (by have := World.block_lt_of_cell? _ _ hx406_0; first | rwa [add_block] at this | exact this) GB55.out)
                                                        replace hx406_0 := (HB.out.cell (World.block_lt_of_cell? w _ hx406_0)).trans hx406_0
                                                        replace hx406_1 := (HB.out.cell (World.block_lt_of_cell? w _ hx406_1)).trans hx406_1
                                                        replace hx406_2 := (HB.out.cell (World.block_lt_of_cell? w _ hx406_2)).trans hx406_2
                                                        replace hx406_0 := (cell_far (p := ⟨go55, oo55 + ((ji48) : Int).toNat, none⟩) (by first | (rw [add_block]; exact hn406_0) | (show (Addr.add _ _).block ≠ _; rw [add_block]; exact hn406_0) | exact hn406_0) (.int .u8 (Go.bits .xor .u8 (rd x11_2 (ji48)) ((rd_T36 l2 x16_2).f1)))).trans hx406_0
                                                        replace hx406_1 := (cell_far (p := ⟨go55, oo55 + ((ji48) : Int).toNat, none⟩) (by first | (rw [add_block]; exact hn406_0) | (show (Addr.add _ _).block ≠ _; rw [add_block]; exact hn406_0) | exact hn406_0) (.int .u8 (Go.bits .xor .u8 (rd x11_2 (ji48)) ((rd_T36 l2 x16_2).f1)))).trans hx406_1
                                                        replace hx406_2 := (cell_far (p := ⟨go55, oo55 + ((ji48) : Int).toNat, none⟩) (by first | (rw [add_block]; exact hn406_0) | (show (Addr.add _ _).block ≠ _; rw [add_block]; exact hn406_0) | exact hn406_0) (.int .u8 (Go.bits .xor .u8 (rd x11_2 (ji48)) ((rd_T36 l2 x16_2).f1)))).trans hx406_2
                                                        clear hn406_0
                                                        replace p406 := eq_true p406
                                                        replace q406 := eq_true q406
                                                        have p407 : 0 ≤ (x16_2 : Int) := of_decide_eq_true (by first | (with_reducible assumption) | assumption)
                                                        have q407 : x16_2 < (l2.length : Int) := of_decide_eq_true (by first | (with_reducible assumption) | assumption)
                                                        obtain ⟨ad407, e407, hx407_0, hx407_1, hx407_2⟩ := at_T36 HR2.out x16_2 p407 q407
                                                        (try rw [← Nbq57.out] at hx407_2)
                                                        obtain rfl : ad397 = ad407 := (by injection e407)
                                                        have hn407_0 : ad397.block ≠ go55 := Nat.ne_of_lt (Nat.lt_of_lt_of_le (by have := World.block_lt_of_cell? _ _ hx407_0; first | rwa [add_block] at this | exact this) GB55.out)
                                                        replace hx407_0 := (HB.out.cell (World.block_lt_of_cell? w _ hx407_0)).trans hx407_0
                                                        replace hx407_1 := (HB.out.cell (World.block_lt_of_cell? w _ hx407_1)).trans hx407_1
                                                        replace hx407_2 := (HB.out.cell (World.block_lt_of_cell? w _ hx407_2)).trans hx407_2
                                                        replace hx407_0 := (cell_far (p := ⟨go55, oo55 + ((ji48) : Int).toNat, none⟩) (by first | (rw [add_block]; exact hn407_0) | (show (Addr.add _ _).block ≠ _; rw [add_block]; exact hn407_0) | exact hn407_0) (.int .u8 (Go.bits .xor .u8 (rd x11_2 (ji48)) ((rd_T36 l2 x16_2).f1)))).trans hx407_0
                                                        replace hx407_1 := (cell_far (p := ⟨go55, oo55 + ((ji48) : Int).toNat, none⟩) (by first | (rw [add_block]; exact hn407_0) | (show (Addr.add _ _).block ≠ _; rw [add_block]; exact hn407_0) | exact hn407_0) (.int .u8 (Go.bits .xor .u8 (rd x11_2 (ji48)) ((rd_T36 l2 x16_2).f1)))).trans hx407_1
                                                        replace hx407_2 := (cell_far (p := ⟨go55, oo55 + ((ji48) : Int).toNat, none⟩) (by first | (rw [add_block]; exact hn407_0) | (show (Addr.add _ _).block ≠ _; rw [add_block]; exact hn407_0) | exact hn407_0) (.int .u8 (Go.bits .xor .u8 (rd x11_2 (ji48)) ((rd_T36 l2 x16_2).f1)))).trans hx407_2
                                                        clear hn407_0
                                                        replace p407 := eq_true p407
                                                        replace q407 := eq_true q407
                                                        try go_wp2_with (first | ((with_reducible refine gate_builtin (b := .append) (xs := #[.tmp 131, .tmp 133]) rfl ?_); at_builtin; refine Kd.R_append (Kd.int .i64) (w0 := w) w.heap.size rfl (.tmp 131) (.tmp 133) 33 3 (.int .i64 0) 8 rfl Try.underlying33 info3 rfl (by decide) (by omega) u12 x12_2 (ji48) [.int .i64 (ji48)] (fun _ => True) (fun _ => False) rfl (by first | (go_simp; done) | (go_simp; rfl)) ?aP (fun _ hk => hk.elim) ?aF ?aO ?aB ?aS ?aL ?_; (case aP => exact rfl); (case aB => exact (by repeat (first | (with_reducible first | exact HB.out | apply below_alloc | apply pw_below_drewN | apply below_drew1 | refine below_set ?_ GB55.out) | exact HB.out))); (case aF => exact (fun _ _ => trivial)); (case aO => exact (by (with_reducible repeat (first | apply Kd.R_alloc | apply Kd.R_drewN | apply Kd.R_drew)); exact Kd.R_mono (Kd.R_far (p := ⟨go55, oo55 + ((ji48) : Int).toNat, none⟩) (Kd.R_types HO_12.out GG55.out (by decide)) (fun _ hk => hk.2) (.int .u8 (Go.bits .xor .u8 (rd x11_2 (ji48)) ((rd_T36 l2 x16_2).f1)))) (fun _ hk => trivial))); (case aS => exact (below_size (by repeat (first | (with_reducible first | exact HB.out | apply below_alloc | apply pw_below_drewN | apply below_drew1 | refine below_set ?_ GB55.out) | exact HB.out)))); (case aL => have := LMc59.out; omega); intro v409 w64 ho hb hg hat; rw [← Ny408.out] at ho; have n0_ := Aside0.mk (Kd.Q_over' (by (with_reducible repeat (first | apply Kd.Q_alloc | apply Kd.Q_drewN | apply Kd.Q_drew)); exact HQ63.out) (Kd.R_typed (by (with_reducible repeat (first | apply Kd.R_alloc | apply Kd.R_drewN | apply Kd.R_drew)); exact (Kd.R_mono (Kd.R_far (p := ⟨go55, oo55 + ((ji48) : Int).toNat, none⟩) (Kd.R_types HO_12.out GG55.out (by decide)) (fun _ hk => hk.2) (.int .u8 (Go.bits .xor .u8 (rd x11_2 (ji48)) ((rd_T36 l2 x16_2).f1)))) (fun _ h_ => h_.1)))) (by decide) hg); have n1_ := Aside0.mk (Kd.R_over' (by (with_reducible repeat (first | apply Kd.R_alloc | apply Kd.R_drewN | apply Kd.R_drew)); exact (Kd.R_mono (Kd.R_far (p := ⟨go55, oo55 + ((ji48) : Int).toNat, none⟩) (Kd.R_types HO_15.out GG55.out (by decide)) (fun _ hk => hk.2) (.int .u8 (Go.bits .xor .u8 (rd x11_2 (ji48)) ((rd_T36 l2 x16_2).f1)))) (fun _ h_ => h_.1))) (Kd.R_typed (by (with_reducible repeat (first | apply Kd.R_alloc | apply Kd.R_drewN | apply Kd.R_drew)); exact (Kd.R_mono (Kd.R_far (p := ⟨go55, oo55 + ((ji48) : Int).toNat, none⟩) (Kd.R_types HO_12.out GG55.out (by decide)) (fun _ hk => hk.2) (.int .u8 (Go.bits .xor .u8 (rd x11_2 (ji48)) ((rd_T36 l2 x16_2).f1)))) (fun _ h_ => h_.1)))) (by decide) hg); have n2_ := Aside0.mk (hb); have n3_ := Aside0.mk (ho); clear HO_11; clear HO_15; clear HB; clear HO_12; have HO_11 := n0_; have HO_15 := n1_; have HB := n2_; have HO410 := n3_; clear n0_ n1_ n2_ n3_; clear ho hb hg hat))
                                                        (try simp only [← hl11_2])
                                                        go_roundg kj31
                                                        case measure => have := HJ5.out; have := HK2.out; have := HJ22.out; have := HJ28.out; have := HJ31.out; omega
                                                        case rel => exact ⟨(y405), (y408), (wrap64 (x13_2 + x18_28)), (x14_2), (y402), (wrap64 (x16_2 + 1)), (by first | rfl | (simp; done) | (simp [*]; done)), (by first | rfl | (simp; done) | (simp [*]; done)), (by first | rfl | (simp; done) | (simp [*]; done)), H', ⟨by have := HJ5.out; have := HK2.out; have := HJ22.out; have := HJ28.out; have := HJ31.out; omega⟩, ⟨by (try simp only [hl11_2]); (with_reducible repeat (first | apply Kd.Q_alloc | apply Kd.Q_drewN | apply Kd.Q_drew)); exact HO_11.out⟩, ⟨by (try simp only [hl11_2]); (with_reducible repeat (first | apply Kd.R_alloc | apply Kd.R_drewN | apply Kd.R_drew)); exact HO410.out⟩, ⟨by (try simp only [hl11_2]); (with_reducible repeat (first | apply Kd.R_alloc | apply Kd.R_drewN | apply Kd.R_drew)); exact HO_15.out⟩, ⟨by repeat (first | (with_reducible first | exact HB.out | apply below_alloc | apply pw_below_drewN | apply below_drew1) | exact HB.out)⟩⟩
                                                      · rw [if_neg c59] at H
                                                        exact absurd H (by simp)
                                                    · replace c58 := Bool.eq_false_iff.mpr c58
                                                      subst c58
                                                      have H1 : (tinderboxlaw28_RsDecodes.l0 kj31 l2 (wrap64 (1 + (Go.bits .and .i64 a1 15))) t382 y405 x12_2 (wrap64 (x13_2 + x18_28)) x14_2 y402 (wrap64 (x16_2 + 1))) = some r := by rw [if_neg (show ¬ (false = true) by decide)] at H; exact H
                                                      clear H
                                                      have H := H1
                                                      clear H1
                                                      have H' := Aside0.mk H
                                                      clear H
                                                      have p51 : 0 ≤ ((ji48) : Int) := of_decide_eq_true (by first | (with_reducible assumption) | assumption)
                                                      have q51 : ((ji48) : Int) < ((x15_2.length : Int) : Int) := of_decide_eq_true (by first | (with_reducible assumption) | assumption)
                                                      obtain ⟨go51, co51, eo51, gb51, gl51, cl51, HG51⟩ := Kd.R_form HO_15.out (by omega)
                                                      (first | cases eo51 | (injection eo51 with ea_ en_ ec_; (first | subst ea_ | (injection ea_ with ea_; subst ea_)); subst ec_; clear en_))
                                                      have GB51 := Aside0.mk gb51
                                                      have GG51 := Aside0.mk HG51
                                                      clear gb51 gl51 HG51
                                                      obtain ⟨hx51_0, hf51_0⟩ := Kd.R_celln false HO_15.out ((ji48) : Int) p51 q51
                                                      replace p51 := eq_true p51
                                                      replace q51 := eq_true q51
                                                      have HP65 := Kd.R_putg HO_15.out ((ji48) : Int) true
                                                      try go_wp2_with (first | ((with_reducible refine gate_store (t := 4) (p := 106) rfl ?_); refine store_event (t := 4) (p := 106) (v := ?vo_w66) (w1 := (wc.setCell ⟨go51, ((ji48) : Int).toNat, none⟩ (.bool true))) ?hg ?ho ?hn ?hr ?_; (case ho => rfl); (case hg => rfl); (case hn => rfl); (case hr => first | (go_simp; done) | (go_simp; rfl)); intro w66 hw; have hg : wc.grownBy w66 (some go51) := (by rw [hw]; exact HP65.2); have hp_ : Kd.R Kd.bool 4 w66 w.heap.size (fun _ => True) (.slice (some ⟨go51, 0, none⟩) x15_2.length co51) y402 := (by rw [hw, Ny402.out]; exact HP65.1); clear HP65; have n0_ := Aside0.mk (Kd.Q_over' (v := (.slice (some ⟨go51, 0, none⟩) x15_2.length co51)) (by (with_reducible repeat (first | apply Kd.Q_alloc | apply Kd.Q_drewN | apply Kd.Q_drew)); exact HO_11.out) (Kd.R_typed HO_15.out) (by decide) hg); have n1_ := Aside0.mk (Kd.R_over' (v := (.slice (some ⟨go51, 0, none⟩) x15_2.length co51)) (by (with_reducible repeat (first | apply Kd.R_alloc | apply Kd.R_drewN | apply Kd.R_drew)); exact HO_12.out) (Kd.R_typed HO_15.out) (by decide) hg); have n2_ := Aside0.mk (hp_); have n3_ := Aside0.mk ((by rw [hw]; exact below_set (HB.out) GB51.out : Below w.heap.size w w66)); clear HO_11; clear HO_12; clear HO_15; clear HB; have HO_11 := n0_; have HO_12 := n1_; have HO_15 := n2_; have HB := n3_; clear n0_ n1_ n2_ n3_; clear hg hw hp_))
                                                      have n0_ := Aside0.mk (Kd.Q_drew HO_11.out)
                                                      have n1_ := Aside0.mk (Kd.R_drew HO_12.out)
                                                      have n2_ := Aside0.mk (Kd.R_drew HO_15.out)
                                                      have n3_ := Aside0.mk (below_drew1 HB.out)
                                                      clear HO_11
                                                      clear HO_12
                                                      clear HO_15
                                                      clear HB
                                                      have HO_11 := n0_
                                                      have HO_12 := n1_
                                                      have HO_15 := n2_
                                                      have HB := n3_
                                                      clear n0_ n1_ n2_ n3_
                                                      have p403 : 0 ≤ ((ji48) : Int) := of_decide_eq_true (by first | (with_reducible assumption) | assumption)
                                                      have q403 : (ji48) < (x11_2.length : Int) := of_decide_eq_true (by first | (with_reducible assumption) | assumption)
                                                      obtain ⟨ad403, e403, hx403_0⟩ := Kd.at_int (Kd.Q_reads' HO_11.out).2.2 (ji48) p403 q403
                                                      cases e403
                                                      replace p403 := eq_true p403
                                                      replace q403 := eq_true q403
                                                      have p404 : 0 ≤ (x16_2 : Int) := of_decide_eq_true (by first | (with_reducible assumption) | assumption)
                                                      have q404 : x16_2 < (l2.length : Int) := of_decide_eq_true (by first | (with_reducible assumption) | assumption)
                                                      obtain ⟨ad404, e404, hx404_0, hx404_1, hx404_2⟩ := at_T36 HR2.out x16_2 p404 q404
                                                      have hw404_2 := hx404_2
                                                      (try rw [← Nbq57.out] at hw404_2)
                                                      have hw404_1 := hx404_1
                                                      have hw404_0 := hx404_0
                                                      (try rw [← Nbq57.out] at hx404_2)
                                                      obtain rfl : ad397 = ad404 := (by injection e404)
                                                      replace hx404_0 := (HB.out.cell (World.block_lt_of_cell? w _ hx404_0)).trans hx404_0
                                                      replace hx404_1 := (HB.out.cell (World.block_lt_of_cell? w _ hx404_1)).trans hx404_1
                                                      replace hx404_2 := (HB.out.cell (World.block_lt_of_cell? w _ hx404_2)).trans hx404_2
                                                      replace p404 := eq_true p404
                                                      replace q404 := eq_true q404
                                                      have p55 : 0 ≤ ((ji48) : Int) := of_decide_eq_true (by first | (with_reducible assumption) | assumption)
                                                      have q55 : ((ji48) : Int) < ((x11_2.length : Int) : Int) := of_decide_eq_true (by first | (with_reducible assumption) | assumption)
                                                      obtain ⟨go55, oo55, co55, eo55, gb55, gl55, cl55, HG55⟩ := Kd.Q_form HO_11.out (by omega)
                                                      (first | cases eo55 | (injection eo55 with ea_ en_ ec_; (first | subst ea_ | (injection ea_ with ea_; subst ea_)); subst ec_; clear en_))
                                                      have GB55 := Aside0.mk gb55
                                                      have GG55 := Aside0.mk HG55
                                                      clear gb55 gl55 HG55
                                                      (first | simp only [add_at] at hx403_0 | skip)
                                                      obtain ⟨hx55_0, hf55_0⟩ := Kd.Q_cell 0 HO_11.out ((ji48) : Int) p55 q55
                                                      replace p55 := eq_true p55
                                                      replace q55 := eq_true q55
                                                      have HP68 := (Kd.Q_putg HO_11.out ((ji48) : Int) (of_decide_eq_true (by first | (with_reducible assumption) | assumption)) (by have h_ : ((ji48) : Int) < ((x11_2.length : Int) : Int) := of_decide_eq_true (by first | (with_reducible assumption) | assumption); first | exact h_ | (have e_ := (Kd.Q_reads' HO_11.out).1; omega) | simpa using h_) (Go.bits .xor .u8 (rd x11_2 (ji48)) ((rd_T36 l2 x16_2).f1))).1
                                                      rw [← Ny405.out] at HP68
                                                      have HQ68 := Aside0.mk HP68
                                                      clear HP68
                                                      refine start_ (n := 12) (S := fun w' => w'.cell? ⟨go55, oo55 + ((ji48)).toNat, none⟩ = some (.int .u8 (rd x11_2 (ji48))) ∧ w'.cell? (ad397.add ((x16_2).toNat * 3)) = some (.int .i64 ((rd_T36 l2 x16_2).f0)) ∧ w'.cell? ⟨(ad397.add ((x16_2).toNat * 3)).block, (ad397.add ((x16_2).toNat * 3)).off + 1, none⟩ = some (.int .u8 ((rd_T36 l2 x16_2).f1)) ∧ w'.cell? ⟨(ad397.add ((x16_2).toNat * 3)).block, (ad397.add ((x16_2).toNat * 3)).off + 2, none⟩ = some (.bool false)) (ds := [11]) #[false, false, false, false, false, false, false, false, false, false, false, false] (by kernel_rfl) rfl rfl ⟨hx403_0, ((HB.out.cell (World.block_lt_of_cell? w _ hw404_0)).trans hw404_0), ((HB.out.cell (World.block_lt_of_cell? w _ hw404_1)).trans hw404_1), ((HB.out.cell (World.block_lt_of_cell? w _ hw404_2)).trans hw404_2)⟩ (fun hHeld => ?_); refine with_tabW tinderboxlaw28_RsDecodes.tab17 tinderboxlaw28_RsDecodes.bits17 (fun HT_ HW_ => ?_)
                                                      generalize w66.drew = w67 at HO_11 HO_12 HO_15 HB GG55 HQ68 hf55_0 hx403_0 hx404_0 hx404_1 hx404_2 hx55_0 hHeld ⊢
                                                      refine pure_ (i := 0) (N := some 107) (v := ?_) (a' := ?_) #[true, false, false, false, false, false, false, false, false, false, false, false] rfl rfl (any_of HT_.out (by kernel_rfl)) (fun _ _ _ h => h) (Or.inl ⟨by rfl, ?_⟩) ?_ ?_
                                                      rotate_left
                                                      · intro w'
                                                        go_simp
                                                        with_reducible rfl
                                                      rotate_left
                                                      · simp only [Act.put, List.setIfInBounds_toArray, List.set_cons_zero, List.set_cons_succ, i64_w, i32_w]
                                                        rfl
                                                      refine pure_ (i := 1) (N := some 108) (v := ?_) (a' := ?_) #[true, true, false, false, false, false, false, false, false, false, false, false] rfl rfl (any_of HT_.out (by kernel_rfl)) (fun _ _ _ h => h) (Or.inl ⟨by rfl, ?_⟩) ?_ ?_
                                                      rotate_left
                                                      · intro w'
                                                        go_simp
                                                        with_reducible rfl
                                                      rotate_left
                                                      · simp only [Act.put, List.setIfInBounds_toArray, List.set_cons_zero, List.set_cons_succ, i64_w, i32_w]
                                                        rfl
                                                      refine pure_ (i := 2) (N := some 109) (v := ?_) (a' := ?_) #[true, true, true, false, false, false, false, false, false, false, false, false] rfl rfl (any_of HT_.out (by kernel_rfl)) (fun _ _ _ h => h) (Or.inl ⟨by rfl, ?_⟩) ?_ ?_
                                                      rotate_left
                                                      · intro w'
                                                        go_simp
                                                        with_reducible rfl
                                                      rotate_left
                                                      · simp only [Act.put, List.setIfInBounds_toArray, List.set_cons_zero, List.set_cons_succ, i64_w, i32_w]
                                                        rfl
                                                      refine pure_ (i := 4) (N := some 111) (v := ?_) (a' := ?_) #[true, true, true, false, true, false, false, false, false, false, false, false] rfl rfl (any_of HT_.out (by kernel_rfl)) (fun _ _ _ h => h) (Or.inl ⟨by rfl, ?_⟩) ?_ ?_
                                                      rotate_left
                                                      · intro w'
                                                        go_simp
                                                        with_reducible rfl
                                                      rotate_left
                                                      · simp only [Act.put, List.setIfInBounds_toArray, List.set_cons_zero, List.set_cons_succ, i64_w, i32_w]
                                                        rfl
                                                      refine pure_ (i := 5) (N := some 112) (v := ?_) (a' := ?_) #[true, true, true, false, true, true, false, false, false, false, false, false] rfl rfl (any_of HT_.out (by kernel_rfl)) (fun _ _ _ h => h) (Or.inl ⟨by rfl, ?_⟩) ?_ ?_
                                                      rotate_left
                                                      · intro w'
                                                        go_simp
                                                        with_reducible rfl
                                                      rotate_left
                                                      · simp only [Act.put, List.setIfInBounds_toArray, List.set_cons_zero, List.set_cons_succ, i64_w, i32_w]
                                                        rfl
                                                      refine pure_ (i := 6) (N := some 113) (v := ?_) (a' := ?_) #[true, true, true, false, true, true, true, false, false, false, false, false] rfl rfl (any_of HT_.out (by kernel_rfl)) (fun _ _ _ h => h) (Or.inl ⟨by rfl, ?_⟩) ?_ ?_
                                                      rotate_left
                                                      · intro w'
                                                        go_simp
                                                        with_reducible rfl
                                                      rotate_left
                                                      · simp only [Act.put, List.setIfInBounds_toArray, List.set_cons_zero, List.set_cons_succ, i64_w, i32_w]
                                                        rfl
                                                      refine pure_ (i := 7) (N := some 114) (v := ?_) (a' := ?_) #[true, true, true, false, true, true, true, true, false, false, false, false] rfl rfl (any_of HT_.out (by kernel_rfl)) (fun _ _ _ h => h) (Or.inl ⟨by rfl, ?_⟩) ?_ ?_
                                                      rotate_left
                                                      · intro w'
                                                        go_simp
                                                        with_reducible rfl
                                                      rotate_left
                                                      · simp only [Act.put, List.setIfInBounds_toArray, List.set_cons_zero, List.set_cons_succ, i64_w, i32_w]
                                                        rfl
                                                      refine take_ (i := 3) (N := some 110) (v := ?_) (a' := ?_) #[true, true, true, true, true, true, true, true, false, false, false, false] rfl rfl (take_ofW HT_.out HW_.out (by kernel_rfl)) (fun _ _ _ h => h) (Or.inl ⟨by rfl, ?_⟩) hHeld ?_ ?_
                                                      rotate_left
                                                      · rintro w' ⟨s0, s1, s2, s3⟩
                                                        go_simp
                                                        with_reducible rfl
                                                      rotate_left
                                                      · simp only [Act.put, List.setIfInBounds_toArray, List.set_cons_zero, List.set_cons_succ, i64_w, i32_w]
                                                        rfl
                                                      refine take_ (i := 8) (N := some 115) (v := ?_) (a' := ?_) #[true, true, true, true, true, true, true, true, true, false, false, false] rfl rfl (take_ofW HT_.out HW_.out (by kernel_rfl)) (fun _ _ _ h => h) (Or.inl ⟨by rfl, ?_⟩) hHeld ?_ ?_
                                                      rotate_left
                                                      · rintro w' ⟨s0, s1, s2, s3⟩
                                                        go_simp
                                                        with_reducible rfl
                                                      rotate_left
                                                      · simp only [Act.put, List.setIfInBounds_toArray, List.set_cons_zero, List.set_cons_succ, i64_w, i32_w]
                                                        rfl
                                                      refine pure_ (i := 9) (N := some 116) (v := ?_) (a' := ?_) #[true, true, true, true, true, true, true, true, true, true, false, false] rfl rfl (any_of HT_.out (by kernel_rfl)) (fun _ _ _ h => h) (Or.inl ⟨by rfl, ?_⟩) ?_ ?_
                                                      rotate_left
                                                      · intro w'
                                                        go_simp
                                                        with_reducible rfl
                                                      rotate_left
                                                      · simp only [Act.put, List.setIfInBounds_toArray, List.set_cons_zero, List.set_cons_succ, i64_w, i32_w]
                                                        rfl
                                                      refine pure_ (i := 10) (N := some 117) (v := ?_) (a' := ?_) #[true, true, true, true, true, true, true, true, true, true, true, false] rfl rfl (any_of HT_.out (by kernel_rfl)) (fun _ _ _ h => h) (Or.inl ⟨by rfl, ?_⟩) ?_ ?_
                                                      rotate_left
                                                      · intro w'
                                                        go_simp
                                                        with_reducible rfl
                                                      rotate_left
                                                      · simp only [Act.put, List.setIfInBounds_toArray, List.set_cons_zero, List.set_cons_succ, i64_w, i32_w]
                                                        rfl
                                                      refine last_ (i := 11) (N := none) #[true, true, true, true, true, true, true, true, true, true, true, true] rfl rfl (one_of HT_.out (by kernel_rfl)) (by decide) (fun K hK => ?_)
                                                      refine skip_ (w1 := ?_) (by rfl) rfl ?_ ?_
                                                      rotate_left
                                                      · go_simp
                                                        rfl
                                                      refine hK.out _ _ ?_
                                                      clear hK K
                                                      refine done_ (done_of HT_.out (by kernel_rfl)) ?_
                                                      have p406 : 0 ≤ (x16_2 : Int) := of_decide_eq_true (by first | (with_reducible assumption) | assumption)
                                                      have q406 : x16_2 < (l2.length : Int) := of_decide_eq_true (by first | (with_reducible assumption) | assumption)
                                                      obtain ⟨ad406, e406, hx406_0, hx406_1, hx406_2⟩ := at_T36 HR2.out x16_2 p406 q406
                                                      (try rw [← Nbq57.out] at hx406_2)
                                                      obtain rfl : ad397 = ad406 := (by injection e406)
                                                      have hn406_0 : ad397.block ≠ go55 := Nat.ne_of_lt (Nat.lt_of_lt_of_le (by have := World.block_lt_of_cell? _ _ hx406_0; first | rwa [add_block] at this | exact this) GB55.out)
                                                      replace hx406_0 := (HB.out.cell (World.block_lt_of_cell? w _ hx406_0)).trans hx406_0
                                                      replace hx406_1 := (HB.out.cell (World.block_lt_of_cell? w _ hx406_1)).trans hx406_1
                                                      replace hx406_2 := (HB.out.cell (World.block_lt_of_cell? w _ hx406_2)).trans hx406_2
                                                      replace hx406_0 := (cell_far (p := ⟨go55, oo55 + ((ji48) : Int).toNat, none⟩) (by first | (rw [add_block]; exact hn406_0) | (show (Addr.add _ _).block ≠ _; rw [add_block]; exact hn406_0) | exact hn406_0) (.int .u8 (Go.bits .xor .u8 (rd x11_2 (ji48)) ((rd_T36 l2 x16_2).f1)))).trans hx406_0
                                                      replace hx406_1 := (cell_far (p := ⟨go55, oo55 + ((ji48) : Int).toNat, none⟩) (by first | (rw [add_block]; exact hn406_0) | (show (Addr.add _ _).block ≠ _; rw [add_block]; exact hn406_0) | exact hn406_0) (.int .u8 (Go.bits .xor .u8 (rd x11_2 (ji48)) ((rd_T36 l2 x16_2).f1)))).trans hx406_1
                                                      replace hx406_2 := (cell_far (p := ⟨go55, oo55 + ((ji48) : Int).toNat, none⟩) (by first | (rw [add_block]; exact hn406_0) | (show (Addr.add _ _).block ≠ _; rw [add_block]; exact hn406_0) | exact hn406_0) (.int .u8 (Go.bits .xor .u8 (rd x11_2 (ji48)) ((rd_T36 l2 x16_2).f1)))).trans hx406_2
                                                      clear hn406_0
                                                      replace p406 := eq_true p406
                                                      replace q406 := eq_true q406
                                                      have p407 : 0 ≤ (x16_2 : Int) := of_decide_eq_true (by first | (with_reducible assumption) | assumption)
                                                      have q407 : x16_2 < (l2.length : Int) := of_decide_eq_true (by first | (with_reducible assumption) | assumption)
                                                      obtain ⟨ad407, e407, hx407_0, hx407_1, hx407_2⟩ := at_T36 HR2.out x16_2 p407 q407
                                                      (try rw [← Nbq57.out] at hx407_2)
                                                      obtain rfl : ad397 = ad407 := (by injection e407)
                                                      have hn407_0 : ad397.block ≠ go55 := Nat.ne_of_lt (Nat.lt_of_lt_of_le (by have := World.block_lt_of_cell? _ _ hx407_0; first | rwa [add_block] at this | exact this) GB55.out)
                                                      replace hx407_0 := (HB.out.cell (World.block_lt_of_cell? w _ hx407_0)).trans hx407_0
                                                      replace hx407_1 := (HB.out.cell (World.block_lt_of_cell? w _ hx407_1)).trans hx407_1
                                                      replace hx407_2 := (HB.out.cell (World.block_lt_of_cell? w _ hx407_2)).trans hx407_2
                                                      replace hx407_0 := (cell_far (p := ⟨go55, oo55 + ((ji48) : Int).toNat, none⟩) (by first | (rw [add_block]; exact hn407_0) | (show (Addr.add _ _).block ≠ _; rw [add_block]; exact hn407_0) | exact hn407_0) (.int .u8 (Go.bits .xor .u8 (rd x11_2 (ji48)) ((rd_T36 l2 x16_2).f1)))).trans hx407_0
                                                      replace hx407_1 := (cell_far (p := ⟨go55, oo55 + ((ji48) : Int).toNat, none⟩) (by first | (rw [add_block]; exact hn407_0) | (show (Addr.add _ _).block ≠ _; rw [add_block]; exact hn407_0) | exact hn407_0) (.int .u8 (Go.bits .xor .u8 (rd x11_2 (ji48)) ((rd_T36 l2 x16_2).f1)))).trans hx407_1
                                                      replace hx407_2 := (cell_far (p := ⟨go55, oo55 + ((ji48) : Int).toNat, none⟩) (by first | (rw [add_block]; exact hn407_0) | (show (Addr.add _ _).block ≠ _; rw [add_block]; exact hn407_0) | exact hn407_0) (.int .u8 (Go.bits .xor .u8 (rd x11_2 (ji48)) ((rd_T36 l2 x16_2).f1)))).trans hx407_2
                                                      clear hn407_0
                                                      replace p407 := eq_true p407
                                                      replace q407 := eq_true q407
                                                      try go_wp2
                                                      (try simp only [← hl11_2])
                                                      go_roundg kj31
                                                      case measure => have := HJ5.out; have := HK2.out; have := HJ22.out; have := HJ28.out; have := HJ31.out; omega
                                                      case rel => exact ⟨(y405), (x12_2), (wrap64 (x13_2 + x18_28)), (x14_2), (y402), (wrap64 (x16_2 + 1)), (by first | rfl | (simp; done) | (simp [*]; done)), (by first | rfl | (simp; done) | (simp [*]; done)), (by first | rfl | (simp; done) | (simp [*]; done)), H', ⟨by have := HJ5.out; have := HK2.out; have := HJ22.out; have := HJ28.out; have := HJ31.out; omega⟩, ⟨by (try simp only [hl11_2]); (with_reducible repeat (first | apply Kd.Q_alloc | apply Kd.Q_drewN | apply Kd.Q_drew)); exact HQ68.out⟩, ⟨by (try simp only [hl11_2]); (with_reducible repeat (first | apply Kd.R_alloc | apply Kd.R_drewN | apply Kd.R_drew)); exact Kd.R_mono (Kd.R_far (p := ⟨go55, oo55 + ((ji48) : Int).toNat, none⟩) (Kd.R_types HO_12.out GG55.out (by decide)) (fun _ hk => hk.2) (.int .u8 (Go.bits .xor .u8 (rd x11_2 (ji48)) ((rd_T36 l2 x16_2).f1)))) (fun _ hk => trivial)⟩, ⟨by (try simp only [hl11_2]); (with_reducible repeat (first | apply Kd.R_alloc | apply Kd.R_drewN | apply Kd.R_drew)); exact Kd.R_mono (Kd.R_far (p := ⟨go55, oo55 + ((ji48) : Int).toNat, none⟩) (Kd.R_types HO_15.out GG55.out (by decide)) (fun _ hk => hk.2) (.int .u8 (Go.bits .xor .u8 (rd x11_2 (ji48)) ((rd_T36 l2 x16_2).f1)))) (fun _ hk => trivial)⟩, ⟨by repeat (first | (with_reducible first | exact HB.out | apply below_alloc | apply pw_below_drewN | apply below_drew1 | refine below_set ?_ GB55.out) | exact HB.out)⟩⟩
                                                  · rw [if_neg c56] at H
                                                    have c56b0 : (((rd_T36 l2 x16_2).f1) == 0) = false := beq_eq_false_iff_ne.mpr c56
                                                    have c56b1 : (((rd_T36 l2 x16_2).f1) != 0) = true := bne_iff_ne.mpr c56
                                                    obtain ⟨bq69, hbq69⟩ : ∃ b_ : Bool, b_ = ((rd_T36 l2 x16_2).f2) := ⟨_, rfl⟩
                                                    replace H : (if bq69 = true then (if x12_2.length < 17592186044416 then (tinderboxlaw28_RsDecodes.l0 kj31 l2 (wrap64 (1 + (Go.bits .and .i64 a1 15))) t382 y405 (x12_2 ++ [(ji48)]) (wrap64 (x13_2 + x18_28)) (wrap64 (x14_2 + 1)) y402 (wrap64 (x16_2 + 1))) else (none)) else (tinderboxlaw28_RsDecodes.l0 kj31 l2 (wrap64 (1 + (Go.bits .and .i64 a1 15))) t382 y405 x12_2 (wrap64 (x13_2 + x18_28)) (wrap64 (x14_2 + 1)) y402 (wrap64 (x16_2 + 1)))) = some r := by rw [← hbq69] at H; exact H
                                                    have Nbq69 := Aside0.mk hbq69
                                                    clear hbq69
                                                    by_cases c70 : bq69 = true
                                                    · subst c70
                                                      have H1 : (if x12_2.length < 17592186044416 then (tinderboxlaw28_RsDecodes.l0 kj31 l2 (wrap64 (1 + (Go.bits .and .i64 a1 15))) t382 y405 (x12_2 ++ [(ji48)]) (wrap64 (x13_2 + x18_28)) (wrap64 (x14_2 + 1)) y402 (wrap64 (x16_2 + 1))) else (none)) = some r := by rw [if_pos rfl] at H; exact H
                                                      clear H
                                                      have H := H1
                                                      clear H1
                                                      by_cases c71 : x12_2.length < 17592186044416
                                                      · rw [if_pos c71] at H
                                                        have LMc71 := Aside0.mk c71
                                                        clear c71
                                                        obtain ⟨y412, hy412⟩ : ∃ y_ : List Int, y_ = (x12_2 ++ [(ji48)]) := ⟨_, rfl⟩
                                                        replace H : (tinderboxlaw28_RsDecodes.l0 kj31 l2 (wrap64 (1 + (Go.bits .and .i64 a1 15))) t382 y405 y412 (wrap64 (x13_2 + x18_28)) (wrap64 (x14_2 + 1)) y402 (wrap64 (x16_2 + 1))) = some r := by first | (rw [hy412]; with_reducible exact H) | (have H2_ := (Option.bind_some _ _).symm.trans H; rw [hy412]; with_reducible exact H2_) | (have H2_ := (Option.bind_some _ _).symm.trans H; with_reducible exact H2_) | with_reducible exact H | (rw [hy412]; exact H) | exact H
                                                        have Ny412 := Aside0.mk hy412
                                                        clear hy412
                                                        have H' := Aside0.mk H
                                                        clear H
                                                        have p51 : 0 ≤ ((ji48) : Int) := of_decide_eq_true (by first | (with_reducible assumption) | assumption)
                                                        have q51 : ((ji48) : Int) < ((x15_2.length : Int) : Int) := of_decide_eq_true (by first | (with_reducible assumption) | assumption)
                                                        obtain ⟨go51, co51, eo51, gb51, gl51, cl51, HG51⟩ := Kd.R_form HO_15.out (by omega)
                                                        (first | cases eo51 | (injection eo51 with ea_ en_ ec_; (first | subst ea_ | (injection ea_ with ea_; subst ea_)); subst ec_; clear en_))
                                                        have GB51 := Aside0.mk gb51
                                                        have GG51 := Aside0.mk HG51
                                                        clear gb51 gl51 HG51
                                                        obtain ⟨hx51_0, hf51_0⟩ := Kd.R_celln false HO_15.out ((ji48) : Int) p51 q51
                                                        replace p51 := eq_true p51
                                                        replace q51 := eq_true q51
                                                        have HP72 := Kd.R_putg HO_15.out ((ji48) : Int) true
                                                        try go_wp2_with (first | ((with_reducible refine gate_store (t := 4) (p := 106) rfl ?_); refine store_event (t := 4) (p := 106) (v := ?vo_w73) (w1 := (wc.setCell ⟨go51, ((ji48) : Int).toNat, none⟩ (.bool true))) ?hg ?ho ?hn ?hr ?_; (case ho => rfl); (case hg => rfl); (case hn => rfl); (case hr => first | (go_simp; done) | (go_simp; rfl)); intro w73 hw; have hg : wc.grownBy w73 (some go51) := (by rw [hw]; exact HP72.2); have hp_ : Kd.R Kd.bool 4 w73 w.heap.size (fun _ => True) (.slice (some ⟨go51, 0, none⟩) x15_2.length co51) y402 := (by rw [hw, Ny402.out]; exact HP72.1); clear HP72; have n0_ := Aside0.mk (Kd.Q_over' (v := (.slice (some ⟨go51, 0, none⟩) x15_2.length co51)) (by (with_reducible repeat (first | apply Kd.Q_alloc | apply Kd.Q_drewN | apply Kd.Q_drew)); exact HO_11.out) (Kd.R_typed HO_15.out) (by decide) hg); have n1_ := Aside0.mk (Kd.R_over' (v := (.slice (some ⟨go51, 0, none⟩) x15_2.length co51)) (by (with_reducible repeat (first | apply Kd.R_alloc | apply Kd.R_drewN | apply Kd.R_drew)); exact HO_12.out) (Kd.R_typed HO_15.out) (by decide) hg); have n2_ := Aside0.mk (hp_); have n3_ := Aside0.mk ((by rw [hw]; exact below_set (HB.out) GB51.out : Below w.heap.size w w73)); clear HO_11; clear HO_12; clear HO_15; clear HB; have HO_11 := n0_; have HO_12 := n1_; have HO_15 := n2_; have HB := n3_; clear n0_ n1_ n2_ n3_; clear hg hw hp_))
                                                        have n0_ := Aside0.mk (Kd.Q_drew HO_11.out)
                                                        have n1_ := Aside0.mk (Kd.R_drew HO_12.out)
                                                        have n2_ := Aside0.mk (Kd.R_drew HO_15.out)
                                                        have n3_ := Aside0.mk (below_drew1 HB.out)
                                                        clear HO_11
                                                        clear HO_12
                                                        clear HO_15
                                                        clear HB
                                                        have HO_11 := n0_
                                                        have HO_12 := n1_
                                                        have HO_15 := n2_
                                                        have HB := n3_
                                                        clear n0_ n1_ n2_ n3_
                                                        have p403 : 0 ≤ ((ji48) : Int) := of_decide_eq_true (by first | (with_reducible assumption) | assumption)
                                                        have q403 : (ji48) < (x11_2.length : Int) := of_decide_eq_true (by first | (with_reducible assumption) | assumption)
                                                        obtain ⟨ad403, e403, hx403_0⟩ := Kd.at_int (Kd.Q_reads' HO_11.out).2.2 (ji48) p403 q403
                                                        cases e403
                                                        replace p403 := eq_true p403
                                                        replace q403 := eq_true q403
                                                        have p404 : 0 ≤ (x16_2 : Int) := of_decide_eq_true (by first | (with_reducible assumption) | assumption)
                                                        have q404 : x16_2 < (l2.length : Int) := of_decide_eq_true (by first | (with_reducible assumption) | assumption)
                                                        obtain ⟨ad404, e404, hx404_0, hx404_1, hx404_2⟩ := at_T36 HR2.out x16_2 p404 q404
                                                        have hw404_2 := hx404_2
                                                        (try rw [← Nbq69.out] at hw404_2)
                                                        have hw404_1 := hx404_1
                                                        have hw404_0 := hx404_0
                                                        (try rw [← Nbq69.out] at hx404_2)
                                                        obtain rfl : ad397 = ad404 := (by injection e404)
                                                        replace hx404_0 := (HB.out.cell (World.block_lt_of_cell? w _ hx404_0)).trans hx404_0
                                                        replace hx404_1 := (HB.out.cell (World.block_lt_of_cell? w _ hx404_1)).trans hx404_1
                                                        replace hx404_2 := (HB.out.cell (World.block_lt_of_cell? w _ hx404_2)).trans hx404_2
                                                        replace p404 := eq_true p404
                                                        replace q404 := eq_true q404
                                                        have p55 : 0 ≤ ((ji48) : Int) := of_decide_eq_true (by first | (with_reducible assumption) | assumption)
                                                        have q55 : ((ji48) : Int) < ((x11_2.length : Int) : Int) := of_decide_eq_true (by first | (with_reducible assumption) | assumption)
                                                        obtain ⟨go55, oo55, co55, eo55, gb55, gl55, cl55, HG55⟩ := Kd.Q_form HO_11.out (by omega)
                                                        (first | cases eo55 | (injection eo55 with ea_ en_ ec_; (first | subst ea_ | (injection ea_ with ea_; subst ea_)); subst ec_; clear en_))
                                                        have GB55 := Aside0.mk gb55
                                                        have GG55 := Aside0.mk HG55
                                                        clear gb55 gl55 HG55
                                                        (first | simp only [add_at] at hx403_0 | skip)
                                                        obtain ⟨hx55_0, hf55_0⟩ := Kd.Q_cell 0 HO_11.out ((ji48) : Int) p55 q55
                                                        replace p55 := eq_true p55
                                                        replace q55 := eq_true q55
                                                        have HP75 := (Kd.Q_putg HO_11.out ((ji48) : Int) (of_decide_eq_true (by first | (with_reducible assumption) | assumption)) (by have h_ : ((ji48) : Int) < ((x11_2.length : Int) : Int) := of_decide_eq_true (by first | (with_reducible assumption) | assumption); first | exact h_ | (have e_ := (Kd.Q_reads' HO_11.out).1; omega) | simpa using h_) (Go.bits .xor .u8 (rd x11_2 (ji48)) ((rd_T36 l2 x16_2).f1))).1
                                                        rw [← Ny405.out] at HP75
                                                        have HQ75 := Aside0.mk HP75
                                                        clear HP75
                                                        refine start_ (n := 12) (S := fun w' => w'.cell? ⟨go55, oo55 + ((ji48)).toNat, none⟩ = some (.int .u8 (rd x11_2 (ji48))) ∧ w'.cell? (ad397.add ((x16_2).toNat * 3)) = some (.int .i64 ((rd_T36 l2 x16_2).f0)) ∧ w'.cell? ⟨(ad397.add ((x16_2).toNat * 3)).block, (ad397.add ((x16_2).toNat * 3)).off + 1, none⟩ = some (.int .u8 ((rd_T36 l2 x16_2).f1)) ∧ w'.cell? ⟨(ad397.add ((x16_2).toNat * 3)).block, (ad397.add ((x16_2).toNat * 3)).off + 2, none⟩ = some (.bool true)) (ds := [11]) #[false, false, false, false, false, false, false, false, false, false, false, false] (by kernel_rfl) rfl rfl ⟨hx403_0, ((HB.out.cell (World.block_lt_of_cell? w _ hw404_0)).trans hw404_0), ((HB.out.cell (World.block_lt_of_cell? w _ hw404_1)).trans hw404_1), ((HB.out.cell (World.block_lt_of_cell? w _ hw404_2)).trans hw404_2)⟩ (fun hHeld => ?_); refine with_tabW tinderboxlaw28_RsDecodes.tab17 tinderboxlaw28_RsDecodes.bits17 (fun HT_ HW_ => ?_)
                                                        generalize w73.drew = w74 at HO_11 HO_12 HO_15 HB GG55 HQ75 hf55_0 hx403_0 hx404_0 hx404_1 hx404_2 hx55_0 hHeld ⊢
                                                        refine pure_ (i := 0) (N := some 107) (v := ?_) (a' := ?_) #[true, false, false, false, false, false, false, false, false, false, false, false] rfl rfl (any_of HT_.out (by kernel_rfl)) (fun _ _ _ h => h) (Or.inl ⟨by rfl, ?_⟩) ?_ ?_
                                                        rotate_left
                                                        · intro w'
                                                          go_simp
                                                          with_reducible rfl
                                                        rotate_left
                                                        · simp only [Act.put, List.setIfInBounds_toArray, List.set_cons_zero, List.set_cons_succ, i64_w, i32_w]
                                                          rfl
                                                        refine pure_ (i := 1) (N := some 108) (v := ?_) (a' := ?_) #[true, true, false, false, false, false, false, false, false, false, false, false] rfl rfl (any_of HT_.out (by kernel_rfl)) (fun _ _ _ h => h) (Or.inl ⟨by rfl, ?_⟩) ?_ ?_
                                                        rotate_left
                                                        · intro w'
                                                          go_simp
                                                          with_reducible rfl
                                                        rotate_left
                                                        · simp only [Act.put, List.setIfInBounds_toArray, List.set_cons_zero, List.set_cons_succ, i64_w, i32_w]
                                                          rfl
                                                        refine pure_ (i := 2) (N := some 109) (v := ?_) (a' := ?_) #[true, true, true, false, false, false, false, false, false, false, false, false] rfl rfl (any_of HT_.out (by kernel_rfl)) (fun _ _ _ h => h) (Or.inl ⟨by rfl, ?_⟩) ?_ ?_
                                                        rotate_left
                                                        · intro w'
                                                          go_simp
                                                          with_reducible rfl
                                                        rotate_left
                                                        · simp only [Act.put, List.setIfInBounds_toArray, List.set_cons_zero, List.set_cons_succ, i64_w, i32_w]
                                                          rfl
                                                        refine pure_ (i := 4) (N := some 111) (v := ?_) (a' := ?_) #[true, true, true, false, true, false, false, false, false, false, false, false] rfl rfl (any_of HT_.out (by kernel_rfl)) (fun _ _ _ h => h) (Or.inl ⟨by rfl, ?_⟩) ?_ ?_
                                                        rotate_left
                                                        · intro w'
                                                          go_simp
                                                          with_reducible rfl
                                                        rotate_left
                                                        · simp only [Act.put, List.setIfInBounds_toArray, List.set_cons_zero, List.set_cons_succ, i64_w, i32_w]
                                                          rfl
                                                        refine pure_ (i := 5) (N := some 112) (v := ?_) (a' := ?_) #[true, true, true, false, true, true, false, false, false, false, false, false] rfl rfl (any_of HT_.out (by kernel_rfl)) (fun _ _ _ h => h) (Or.inl ⟨by rfl, ?_⟩) ?_ ?_
                                                        rotate_left
                                                        · intro w'
                                                          go_simp
                                                          with_reducible rfl
                                                        rotate_left
                                                        · simp only [Act.put, List.setIfInBounds_toArray, List.set_cons_zero, List.set_cons_succ, i64_w, i32_w]
                                                          rfl
                                                        refine pure_ (i := 6) (N := some 113) (v := ?_) (a' := ?_) #[true, true, true, false, true, true, true, false, false, false, false, false] rfl rfl (any_of HT_.out (by kernel_rfl)) (fun _ _ _ h => h) (Or.inl ⟨by rfl, ?_⟩) ?_ ?_
                                                        rotate_left
                                                        · intro w'
                                                          go_simp
                                                          with_reducible rfl
                                                        rotate_left
                                                        · simp only [Act.put, List.setIfInBounds_toArray, List.set_cons_zero, List.set_cons_succ, i64_w, i32_w]
                                                          rfl
                                                        refine pure_ (i := 7) (N := some 114) (v := ?_) (a' := ?_) #[true, true, true, false, true, true, true, true, false, false, false, false] rfl rfl (any_of HT_.out (by kernel_rfl)) (fun _ _ _ h => h) (Or.inl ⟨by rfl, ?_⟩) ?_ ?_
                                                        rotate_left
                                                        · intro w'
                                                          go_simp
                                                          with_reducible rfl
                                                        rotate_left
                                                        · simp only [Act.put, List.setIfInBounds_toArray, List.set_cons_zero, List.set_cons_succ, i64_w, i32_w]
                                                          rfl
                                                        refine take_ (i := 3) (N := some 110) (v := ?_) (a' := ?_) #[true, true, true, true, true, true, true, true, false, false, false, false] rfl rfl (take_ofW HT_.out HW_.out (by kernel_rfl)) (fun _ _ _ h => h) (Or.inl ⟨by rfl, ?_⟩) hHeld ?_ ?_
                                                        rotate_left
                                                        · rintro w' ⟨s0, s1, s2, s3⟩
                                                          go_simp
                                                          with_reducible rfl
                                                        rotate_left
                                                        · simp only [Act.put, List.setIfInBounds_toArray, List.set_cons_zero, List.set_cons_succ, i64_w, i32_w]
                                                          rfl
                                                        refine take_ (i := 8) (N := some 115) (v := ?_) (a' := ?_) #[true, true, true, true, true, true, true, true, true, false, false, false] rfl rfl (take_ofW HT_.out HW_.out (by kernel_rfl)) (fun _ _ _ h => h) (Or.inl ⟨by rfl, ?_⟩) hHeld ?_ ?_
                                                        rotate_left
                                                        · rintro w' ⟨s0, s1, s2, s3⟩
                                                          go_simp
                                                          with_reducible rfl
                                                        rotate_left
                                                        · simp only [Act.put, List.setIfInBounds_toArray, List.set_cons_zero, List.set_cons_succ, i64_w, i32_w]
                                                          rfl
                                                        refine pure_ (i := 9) (N := some 116) (v := ?_) (a' := ?_) #[true, true, true, true, true, true, true, true, true, true, false, false] rfl rfl (any_of HT_.out (by kernel_rfl)) (fun _ _ _ h => h) (Or.inl ⟨by rfl, ?_⟩) ?_ ?_
                                                        rotate_left
                                                        · intro w'
                                                          go_simp
                                                          with_reducible rfl
                                                        rotate_left
                                                        · simp only [Act.put, List.setIfInBounds_toArray, List.set_cons_zero, List.set_cons_succ, i64_w, i32_w]
                                                          rfl
                                                        refine pure_ (i := 10) (N := some 117) (v := ?_) (a' := ?_) #[true, true, true, true, true, true, true, true, true, true, true, false] rfl rfl (any_of HT_.out (by kernel_rfl)) (fun _ _ _ h => h) (Or.inl ⟨by rfl, ?_⟩) ?_ ?_
                                                        rotate_left
                                                        · intro w'
                                                          go_simp
                                                          with_reducible rfl
                                                        rotate_left
                                                        · simp only [Act.put, List.setIfInBounds_toArray, List.set_cons_zero, List.set_cons_succ, i64_w, i32_w]
                                                          rfl
                                                        refine last_ (i := 11) (N := none) #[true, true, true, true, true, true, true, true, true, true, true, true] rfl rfl (one_of HT_.out (by kernel_rfl)) (by decide) (fun K hK => ?_)
                                                        refine skip_ (w1 := ?_) (by rfl) rfl ?_ ?_
                                                        rotate_left
                                                        · go_simp
                                                          rfl
                                                        refine hK.out _ _ ?_
                                                        clear hK K
                                                        refine done_ (done_of HT_.out (by kernel_rfl)) ?_
                                                        have p406 : 0 ≤ (x16_2 : Int) := of_decide_eq_true (by first | (with_reducible assumption) | assumption)
                                                        have q406 : x16_2 < (l2.length : Int) := of_decide_eq_true (by first | (with_reducible assumption) | assumption)
                                                        obtain ⟨ad406, e406, hx406_0, hx406_1, hx406_2⟩ := at_T36 HR2.out x16_2 p406 q406
                                                        (try rw [← Nbq69.out] at hx406_2)
                                                        obtain rfl : ad397 = ad406 := (by injection e406)
                                                        have hn406_0 : ad397.block ≠ go55 := Nat.ne_of_lt (Nat.lt_of_lt_of_le (by have := World.block_lt_of_cell? _ _ hx406_0; first | rwa [add_block] at this | exact this) GB55.out)
                                                        replace hx406_0 := (HB.out.cell (World.block_lt_of_cell? w _ hx406_0)).trans hx406_0
                                                        replace hx406_1 := (HB.out.cell (World.block_lt_of_cell? w _ hx406_1)).trans hx406_1
                                                        replace hx406_2 := (HB.out.cell (World.block_lt_of_cell? w _ hx406_2)).trans hx406_2
                                                        replace hx406_0 := (cell_far (p := ⟨go55, oo55 + ((ji48) : Int).toNat, none⟩) (by first | (rw [add_block]; exact hn406_0) | (show (Addr.add _ _).block ≠ _; rw [add_block]; exact hn406_0) | exact hn406_0) (.int .u8 (Go.bits .xor .u8 (rd x11_2 (ji48)) ((rd_T36 l2 x16_2).f1)))).trans hx406_0
                                                        replace hx406_1 := (cell_far (p := ⟨go55, oo55 + ((ji48) : Int).toNat, none⟩) (by first | (rw [add_block]; exact hn406_0) | (show (Addr.add _ _).block ≠ _; rw [add_block]; exact hn406_0) | exact hn406_0) (.int .u8 (Go.bits .xor .u8 (rd x11_2 (ji48)) ((rd_T36 l2 x16_2).f1)))).trans hx406_1
                                                        replace hx406_2 := (cell_far (p := ⟨go55, oo55 + ((ji48) : Int).toNat, none⟩) (by first | (rw [add_block]; exact hn406_0) | (show (Addr.add _ _).block ≠ _; rw [add_block]; exact hn406_0) | exact hn406_0) (.int .u8 (Go.bits .xor .u8 (rd x11_2 (ji48)) ((rd_T36 l2 x16_2).f1)))).trans hx406_2
                                                        clear hn406_0
                                                        replace p406 := eq_true p406
                                                        replace q406 := eq_true q406
                                                        have p411 : 0 ≤ (x16_2 : Int) := of_decide_eq_true (by first | (with_reducible assumption) | assumption)
                                                        have q411 : x16_2 < (l2.length : Int) := of_decide_eq_true (by first | (with_reducible assumption) | assumption)
                                                        obtain ⟨ad411, e411, hx411_0, hx411_1, hx411_2⟩ := at_T36 HR2.out x16_2 p411 q411
                                                        (try rw [← Nbq69.out] at hx411_2)
                                                        obtain rfl : ad397 = ad411 := (by injection e411)
                                                        have hn411_0 : ad397.block ≠ go55 := Nat.ne_of_lt (Nat.lt_of_lt_of_le (by have := World.block_lt_of_cell? _ _ hx411_0; first | rwa [add_block] at this | exact this) GB55.out)
                                                        replace hx411_0 := (HB.out.cell (World.block_lt_of_cell? w _ hx411_0)).trans hx411_0
                                                        replace hx411_1 := (HB.out.cell (World.block_lt_of_cell? w _ hx411_1)).trans hx411_1
                                                        replace hx411_2 := (HB.out.cell (World.block_lt_of_cell? w _ hx411_2)).trans hx411_2
                                                        replace hx411_0 := (cell_far (p := ⟨go55, oo55 + ((ji48) : Int).toNat, none⟩) (by first | (rw [add_block]; exact hn411_0) | (show (Addr.add _ _).block ≠ _; rw [add_block]; exact hn411_0) | exact hn411_0) (.int .u8 (Go.bits .xor .u8 (rd x11_2 (ji48)) ((rd_T36 l2 x16_2).f1)))).trans hx411_0
                                                        replace hx411_1 := (cell_far (p := ⟨go55, oo55 + ((ji48) : Int).toNat, none⟩) (by first | (rw [add_block]; exact hn411_0) | (show (Addr.add _ _).block ≠ _; rw [add_block]; exact hn411_0) | exact hn411_0) (.int .u8 (Go.bits .xor .u8 (rd x11_2 (ji48)) ((rd_T36 l2 x16_2).f1)))).trans hx411_1
                                                        replace hx411_2 := (cell_far (p := ⟨go55, oo55 + ((ji48) : Int).toNat, none⟩) (by first | (rw [add_block]; exact hn411_0) | (show (Addr.add _ _).block ≠ _; rw [add_block]; exact hn411_0) | exact hn411_0) (.int .u8 (Go.bits .xor .u8 (rd x11_2 (ji48)) ((rd_T36 l2 x16_2).f1)))).trans hx411_2
                                                        clear hn411_0
                                                        replace p411 := eq_true p411
                                                        replace q411 := eq_true q411
                                                        try go_wp2_with (first | ((with_reducible refine gate_builtin (b := .append) (xs := #[.tmp 131, .tmp 133]) rfl ?_); at_builtin; refine Kd.R_append (Kd.int .i64) (w0 := w) w.heap.size rfl (.tmp 131) (.tmp 133) 33 3 (.int .i64 0) 8 rfl Try.underlying33 info3 rfl (by decide) (by omega) u12 x12_2 (ji48) [.int .i64 (ji48)] (fun _ => True) (fun _ => False) rfl (by first | (go_simp; done) | (go_simp; rfl)) ?aP (fun _ hk => hk.elim) ?aF ?aO ?aB ?aS ?aL ?_; (case aP => exact rfl); (case aB => exact (by repeat (first | (with_reducible first | exact HB.out | apply below_alloc | apply pw_below_drewN | apply below_drew1 | refine below_set ?_ GB55.out) | exact HB.out))); (case aF => exact (fun _ _ => trivial)); (case aO => exact (by (with_reducible repeat (first | apply Kd.R_alloc | apply Kd.R_drewN | apply Kd.R_drew)); exact Kd.R_mono (Kd.R_far (p := ⟨go55, oo55 + ((ji48) : Int).toNat, none⟩) (Kd.R_types HO_12.out GG55.out (by decide)) (fun _ hk => hk.2) (.int .u8 (Go.bits .xor .u8 (rd x11_2 (ji48)) ((rd_T36 l2 x16_2).f1)))) (fun _ hk => trivial))); (case aS => exact (below_size (by repeat (first | (with_reducible first | exact HB.out | apply below_alloc | apply pw_below_drewN | apply below_drew1 | refine below_set ?_ GB55.out) | exact HB.out)))); (case aL => have := LMc71.out; omega); intro v413 w76 ho hb hg hat; rw [← Ny412.out] at ho; have n0_ := Aside0.mk (Kd.Q_over' (by (with_reducible repeat (first | apply Kd.Q_alloc | apply Kd.Q_drewN | apply Kd.Q_drew)); exact HQ75.out) (Kd.R_typed (by (with_reducible repeat (first | apply Kd.R_alloc | apply Kd.R_drewN | apply Kd.R_drew)); exact (Kd.R_mono (Kd.R_far (p := ⟨go55, oo55 + ((ji48) : Int).toNat, none⟩) (Kd.R_types HO_12.out GG55.out (by decide)) (fun _ hk => hk.2) (.int .u8 (Go.bits .xor .u8 (rd x11_2 (ji48)) ((rd_T36 l2 x16_2).f1)))) (fun _ h_ => h_.1)))) (by decide) hg); have n1_ := Aside0.mk (Kd.R_over' (by (with_reducible repeat (first | apply Kd.R_alloc | apply Kd.R_drewN | apply Kd.R_drew)); exact (Kd.R_mono (Kd.R_far (p := ⟨go55, oo55 + ((ji48) : Int).toNat, none⟩) (Kd.R_types HO_15.out GG55.out (by decide)) (fun _ hk => hk.2) (.int .u8 (Go.bits .xor .u8 (rd x11_2 (ji48)) ((rd_T36 l2 x16_2).f1)))) (fun _ h_ => h_.1))) (Kd.R_typed (by (with_reducible repeat (first | apply Kd.R_alloc | apply Kd.R_drewN | apply Kd.R_drew)); exact (Kd.R_mono (Kd.R_far (p := ⟨go55, oo55 + ((ji48) : Int).toNat, none⟩) (Kd.R_types HO_12.out GG55.out (by decide)) (fun _ hk => hk.2) (.int .u8 (Go.bits .xor .u8 (rd x11_2 (ji48)) ((rd_T36 l2 x16_2).f1)))) (fun _ h_ => h_.1)))) (by decide) hg); have n2_ := Aside0.mk (hb); have n3_ := Aside0.mk (ho); clear HO_11; clear HO_15; clear HB; clear HO_12; have HO_11 := n0_; have HO_15 := n1_; have HB := n2_; have HO414 := n3_; clear n0_ n1_ n2_ n3_; clear ho hb hg hat))
                                                        (try simp only [← hl11_2])
                                                        go_roundg kj31
                                                        case measure => have := HJ5.out; have := HK2.out; have := HJ22.out; have := HJ28.out; have := HJ31.out; omega
                                                        case rel => exact ⟨(y405), (y412), (wrap64 (x13_2 + x18_28)), (wrap64 (x14_2 + 1)), (y402), (wrap64 (x16_2 + 1)), (by first | rfl | (simp; done) | (simp [*]; done)), (by first | rfl | (simp; done) | (simp [*]; done)), (by first | rfl | (simp; done) | (simp [*]; done)), H', ⟨by have := HJ5.out; have := HK2.out; have := HJ22.out; have := HJ28.out; have := HJ31.out; omega⟩, ⟨by (try simp only [hl11_2]); (with_reducible repeat (first | apply Kd.Q_alloc | apply Kd.Q_drewN | apply Kd.Q_drew)); exact HO_11.out⟩, ⟨by (try simp only [hl11_2]); (with_reducible repeat (first | apply Kd.R_alloc | apply Kd.R_drewN | apply Kd.R_drew)); exact HO414.out⟩, ⟨by (try simp only [hl11_2]); (with_reducible repeat (first | apply Kd.R_alloc | apply Kd.R_drewN | apply Kd.R_drew)); exact HO_15.out⟩, ⟨by repeat (first | (with_reducible first | exact HB.out | apply below_alloc | apply pw_below_drewN | apply below_drew1) | exact HB.out)⟩⟩
                                                      · rw [if_neg c71] at H
                                                        exact absurd H (by simp)
                                                    · replace c70 := Bool.eq_false_iff.mpr c70
                                                      subst c70
                                                      have H1 : (tinderboxlaw28_RsDecodes.l0 kj31 l2 (wrap64 (1 + (Go.bits .and .i64 a1 15))) t382 y405 x12_2 (wrap64 (x13_2 + x18_28)) (wrap64 (x14_2 + 1)) y402 (wrap64 (x16_2 + 1))) = some r := by rw [if_neg (show ¬ (false = true) by decide)] at H; exact H
                                                      clear H
                                                      have H := H1
                                                      clear H1
                                                      have H' := Aside0.mk H
                                                      clear H
                                                      have p51 : 0 ≤ ((ji48) : Int) := of_decide_eq_true (by first | (with_reducible assumption) | assumption)
                                                      have q51 : ((ji48) : Int) < ((x15_2.length : Int) : Int) := of_decide_eq_true (by first | (with_reducible assumption) | assumption)
                                                      obtain ⟨go51, co51, eo51, gb51, gl51, cl51, HG51⟩ := Kd.R_form HO_15.out (by omega)
                                                      (first | cases eo51 | (injection eo51 with ea_ en_ ec_; (first | subst ea_ | (injection ea_ with ea_; subst ea_)); subst ec_; clear en_))
                                                      have GB51 := Aside0.mk gb51
                                                      have GG51 := Aside0.mk HG51
                                                      clear gb51 gl51 HG51
                                                      obtain ⟨hx51_0, hf51_0⟩ := Kd.R_celln false HO_15.out ((ji48) : Int) p51 q51
                                                      replace p51 := eq_true p51
                                                      replace q51 := eq_true q51
                                                      have HP77 := Kd.R_putg HO_15.out ((ji48) : Int) true
                                                      try go_wp2_with (first | ((with_reducible refine gate_store (t := 4) (p := 106) rfl ?_); refine store_event (t := 4) (p := 106) (v := ?vo_w78) (w1 := (wc.setCell ⟨go51, ((ji48) : Int).toNat, none⟩ (.bool true))) ?hg ?ho ?hn ?hr ?_; (case ho => rfl); (case hg => rfl); (case hn => rfl); (case hr => first | (go_simp; done) | (go_simp; rfl)); intro w78 hw; have hg : wc.grownBy w78 (some go51) := (by rw [hw]; exact HP77.2); have hp_ : Kd.R Kd.bool 4 w78 w.heap.size (fun _ => True) (.slice (some ⟨go51, 0, none⟩) x15_2.length co51) y402 := (by rw [hw, Ny402.out]; exact HP77.1); clear HP77; have n0_ := Aside0.mk (Kd.Q_over' (v := (.slice (some ⟨go51, 0, none⟩) x15_2.length co51)) (by (with_reducible repeat (first | apply Kd.Q_alloc | apply Kd.Q_drewN | apply Kd.Q_drew)); exact HO_11.out) (Kd.R_typed HO_15.out) (by decide) hg); have n1_ := Aside0.mk (Kd.R_over' (v := (.slice (some ⟨go51, 0, none⟩) x15_2.length co51)) (by (with_reducible repeat (first | apply Kd.R_alloc | apply Kd.R_drewN | apply Kd.R_drew)); exact HO_12.out) (Kd.R_typed HO_15.out) (by decide) hg); have n2_ := Aside0.mk (hp_); have n3_ := Aside0.mk ((by rw [hw]; exact below_set (HB.out) GB51.out : Below w.heap.size w w78)); clear HO_11; clear HO_12; clear HO_15; clear HB; have HO_11 := n0_; have HO_12 := n1_; have HO_15 := n2_; have HB := n3_; clear n0_ n1_ n2_ n3_; clear hg hw hp_))
                                                      have n0_ := Aside0.mk (Kd.Q_drew HO_11.out)
                                                      have n1_ := Aside0.mk (Kd.R_drew HO_12.out)
                                                      have n2_ := Aside0.mk (Kd.R_drew HO_15.out)
                                                      have n3_ := Aside0.mk (below_drew1 HB.out)
                                                      clear HO_11
                                                      clear HO_12
                                                      clear HO_15
                                                      clear HB
                                                      have HO_11 := n0_
                                                      have HO_12 := n1_
                                                      have HO_15 := n2_
                                                      have HB := n3_
                                                      clear n0_ n1_ n2_ n3_
                                                      have p403 : 0 ≤ ((ji48) : Int) := of_decide_eq_true (by first | (with_reducible assumption) | assumption)
                                                      have q403 : (ji48) < (x11_2.length : Int) := of_decide_eq_true (by first | (with_reducible assumption) | assumption)
                                                      obtain ⟨ad403, e403, hx403_0⟩ := Kd.at_int (Kd.Q_reads' HO_11.out).2.2 (ji48) p403 q403
                                                      cases e403
                                                      replace p403 := eq_true p403
                                                      replace q403 := eq_true q403
                                                      have p404 : 0 ≤ (x16_2 : Int) := of_decide_eq_true (by first | (with_reducible assumption) | assumption)
                                                      have q404 : x16_2 < (l2.length : Int) := of_decide_eq_true (by first | (with_reducible assumption) | assumption)
                                                      obtain ⟨ad404, e404, hx404_0, hx404_1, hx404_2⟩ := at_T36 HR2.out x16_2 p404 q404
                                                      have hw404_2 := hx404_2
                                                      (try rw [← Nbq69.out] at hw404_2)
                                                      have hw404_1 := hx404_1
                                                      have hw404_0 := hx404_0
                                                      (try rw [← Nbq69.out] at hx404_2)
                                                      obtain rfl : ad397 = ad404 := (by injection e404)
                                                      replace hx404_0 := (HB.out.cell (World.block_lt_of_cell? w _ hx404_0)).trans hx404_0
                                                      replace hx404_1 := (HB.out.cell (World.block_lt_of_cell? w _ hx404_1)).trans hx404_1
                                                      replace hx404_2 := (HB.out.cell (World.block_lt_of_cell? w _ hx404_2)).trans hx404_2
                                                      replace p404 := eq_true p404
                                                      replace q404 := eq_true q404
                                                      have p55 : 0 ≤ ((ji48) : Int) := of_decide_eq_true (by first | (with_reducible assumption) | assumption)
                                                      have q55 : ((ji48) : Int) < ((x11_2.length : Int) : Int) := of_decide_eq_true (by first | (with_reducible assumption) | assumption)
                                                      obtain ⟨go55, oo55, co55, eo55, gb55, gl55, cl55, HG55⟩ := Kd.Q_form HO_11.out (by omega)
                                                      (first | cases eo55 | (injection eo55 with ea_ en_ ec_; (first | subst ea_ | (injection ea_ with ea_; subst ea_)); subst ec_; clear en_))
                                                      have GB55 := Aside0.mk gb55
                                                      have GG55 := Aside0.mk HG55
                                                      clear gb55 gl55 HG55
                                                      (first | simp only [add_at] at hx403_0 | skip)
                                                      obtain ⟨hx55_0, hf55_0⟩ := Kd.Q_cell 0 HO_11.out ((ji48) : Int) p55 q55
                                                      replace p55 := eq_true p55
                                                      replace q55 := eq_true q55
                                                      have HP80 := (Kd.Q_putg HO_11.out ((ji48) : Int) (of_decide_eq_true (by first | (with_reducible assumption) | assumption)) (by have h_ : ((ji48) : Int) < ((x11_2.length : Int) : Int) := of_decide_eq_true (by first | (with_reducible assumption) | assumption); first | exact h_ | (have e_ := (Kd.Q_reads' HO_11.out).1; omega) | simpa using h_) (Go.bits .xor .u8 (rd x11_2 (ji48)) ((rd_T36 l2 x16_2).f1))).1
                                                      rw [← Ny405.out] at HP80
                                                      have HQ80 := Aside0.mk HP80
                                                      clear HP80
                                                      refine start_ (n := 12) (S := fun w' => w'.cell? ⟨go55, oo55 + ((ji48)).toNat, none⟩ = some (.int .u8 (rd x11_2 (ji48))) ∧ w'.cell? (ad397.add ((x16_2).toNat * 3)) = some (.int .i64 ((rd_T36 l2 x16_2).f0)) ∧ w'.cell? ⟨(ad397.add ((x16_2).toNat * 3)).block, (ad397.add ((x16_2).toNat * 3)).off + 1, none⟩ = some (.int .u8 ((rd_T36 l2 x16_2).f1)) ∧ w'.cell? ⟨(ad397.add ((x16_2).toNat * 3)).block, (ad397.add ((x16_2).toNat * 3)).off + 2, none⟩ = some (.bool false)) (ds := [11]) #[false, false, false, false, false, false, false, false, false, false, false, false] (by kernel_rfl) rfl rfl ⟨hx403_0, ((HB.out.cell (World.block_lt_of_cell? w _ hw404_0)).trans hw404_0), ((HB.out.cell (World.block_lt_of_cell? w _ hw404_1)).trans hw404_1), ((HB.out.cell (World.block_lt_of_cell? w _ hw404_2)).trans hw404_2)⟩ (fun hHeld => ?_); refine with_tabW tinderboxlaw28_RsDecodes.tab17 tinderboxlaw28_RsDecodes.bits17 (fun HT_ HW_ => ?_)
                                                      generalize w78.drew = w79 at HO_11 HO_12 HO_15 HB GG55 HQ80 hf55_0 hx403_0 hx404_0 hx404_1 hx404_2 hx55_0 hHeld ⊢
                                                      refine pure_ (i := 0) (N := some 107) (v := ?_) (a' := ?_) #[true, false, false, false, false, false, false, false, false, false, false, false] rfl rfl (any_of HT_.out (by kernel_rfl)) (fun _ _ _ h => h) (Or.inl ⟨by rfl, ?_⟩) ?_ ?_
                                                      rotate_left
                                                      · intro w'
                                                        go_simp
                                                        with_reducible rfl
                                                      rotate_left
                                                      · simp only [Act.put, List.setIfInBounds_toArray, List.set_cons_zero, List.set_cons_succ, i64_w, i32_w]
                                                        rfl
                                                      refine pure_ (i := 1) (N := some 108) (v := ?_) (a' := ?_) #[true, true, false, false, false, false, false, false, false, false, false, false] rfl rfl (any_of HT_.out (by kernel_rfl)) (fun _ _ _ h => h) (Or.inl ⟨by rfl, ?_⟩) ?_ ?_
                                                      rotate_left
                                                      · intro w'
                                                        go_simp
                                                        with_reducible rfl
                                                      rotate_left
                                                      · simp only [Act.put, List.setIfInBounds_toArray, List.set_cons_zero, List.set_cons_succ, i64_w, i32_w]
                                                        rfl
                                                      refine pure_ (i := 2) (N := some 109) (v := ?_) (a' := ?_) #[true, true, true, false, false, false, false, false, false, false, false, false] rfl rfl (any_of HT_.out (by kernel_rfl)) (fun _ _ _ h => h) (Or.inl ⟨by rfl, ?_⟩) ?_ ?_
                                                      rotate_left
                                                      · intro w'
                                                        go_simp
                                                        with_reducible rfl
                                                      rotate_left
                                                      · simp only [Act.put, List.setIfInBounds_toArray, List.set_cons_zero, List.set_cons_succ, i64_w, i32_w]
                                                        rfl
                                                      refine pure_ (i := 4) (N := some 111) (v := ?_) (a' := ?_) #[true, true, true, false, true, false, false, false, false, false, false, false] rfl rfl (any_of HT_.out (by kernel_rfl)) (fun _ _ _ h => h) (Or.inl ⟨by rfl, ?_⟩) ?_ ?_
                                                      rotate_left
                                                      · intro w'
                                                        go_simp
                                                        with_reducible rfl
                                                      rotate_left
                                                      · simp only [Act.put, List.setIfInBounds_toArray, List.set_cons_zero, List.set_cons_succ, i64_w, i32_w]
                                                        rfl
                                                      refine pure_ (i := 5) (N := some 112) (v := ?_) (a' := ?_) #[true, true, true, false, true, true, false, false, false, false, false, false] rfl rfl (any_of HT_.out (by kernel_rfl)) (fun _ _ _ h => h) (Or.inl ⟨by rfl, ?_⟩) ?_ ?_
                                                      rotate_left
                                                      · intro w'
                                                        go_simp
                                                        with_reducible rfl
                                                      rotate_left
                                                      · simp only [Act.put, List.setIfInBounds_toArray, List.set_cons_zero, List.set_cons_succ, i64_w, i32_w]
                                                        rfl
                                                      refine pure_ (i := 6) (N := some 113) (v := ?_) (a' := ?_) #[true, true, true, false, true, true, true, false, false, false, false, false] rfl rfl (any_of HT_.out (by kernel_rfl)) (fun _ _ _ h => h) (Or.inl ⟨by rfl, ?_⟩) ?_ ?_
                                                      rotate_left
                                                      · intro w'
                                                        go_simp
                                                        with_reducible rfl
                                                      rotate_left
                                                      · simp only [Act.put, List.setIfInBounds_toArray, List.set_cons_zero, List.set_cons_succ, i64_w, i32_w]
                                                        rfl
                                                      refine pure_ (i := 7) (N := some 114) (v := ?_) (a' := ?_) #[true, true, true, false, true, true, true, true, false, false, false, false] rfl rfl (any_of HT_.out (by kernel_rfl)) (fun _ _ _ h => h) (Or.inl ⟨by rfl, ?_⟩) ?_ ?_
                                                      rotate_left
                                                      · intro w'
                                                        go_simp
                                                        with_reducible rfl
                                                      rotate_left
                                                      · simp only [Act.put, List.setIfInBounds_toArray, List.set_cons_zero, List.set_cons_succ, i64_w, i32_w]
                                                        rfl
                                                      refine take_ (i := 3) (N := some 110) (v := ?_) (a' := ?_) #[true, true, true, true, true, true, true, true, false, false, false, false] rfl rfl (take_ofW HT_.out HW_.out (by kernel_rfl)) (fun _ _ _ h => h) (Or.inl ⟨by rfl, ?_⟩) hHeld ?_ ?_
                                                      rotate_left
                                                      · rintro w' ⟨s0, s1, s2, s3⟩
                                                        go_simp
                                                        with_reducible rfl
                                                      rotate_left
                                                      · simp only [Act.put, List.setIfInBounds_toArray, List.set_cons_zero, List.set_cons_succ, i64_w, i32_w]
                                                        rfl
                                                      refine take_ (i := 8) (N := some 115) (v := ?_) (a' := ?_) #[true, true, true, true, true, true, true, true, true, false, false, false] rfl rfl (take_ofW HT_.out HW_.out (by kernel_rfl)) (fun _ _ _ h => h) (Or.inl ⟨by rfl, ?_⟩) hHeld ?_ ?_
                                                      rotate_left
                                                      · rintro w' ⟨s0, s1, s2, s3⟩
                                                        go_simp
                                                        with_reducible rfl
                                                      rotate_left
                                                      · simp only [Act.put, List.setIfInBounds_toArray, List.set_cons_zero, List.set_cons_succ, i64_w, i32_w]
                                                        rfl
                                                      refine pure_ (i := 9) (N := some 116) (v := ?_) (a' := ?_) #[true, true, true, true, true, true, true, true, true, true, false, false] rfl rfl (any_of HT_.out (by kernel_rfl)) (fun _ _ _ h => h) (Or.inl ⟨by rfl, ?_⟩) ?_ ?_
                                                      rotate_left
                                                      · intro w'
                                                        go_simp
                                                        with_reducible rfl
                                                      rotate_left
                                                      · simp only [Act.put, List.setIfInBounds_toArray, List.set_cons_zero, List.set_cons_succ, i64_w, i32_w]
                                                        rfl
                                                      refine pure_ (i := 10) (N := some 117) (v := ?_) (a' := ?_) #[true, true, true, true, true, true, true, true, true, true, true, false] rfl rfl (any_of HT_.out (by kernel_rfl)) (fun _ _ _ h => h) (Or.inl ⟨by rfl, ?_⟩) ?_ ?_
                                                      rotate_left
                                                      · intro w'
                                                        go_simp
                                                        with_reducible rfl
                                                      rotate_left
                                                      · simp only [Act.put, List.setIfInBounds_toArray, List.set_cons_zero, List.set_cons_succ, i64_w, i32_w]
                                                        rfl
                                                      refine last_ (i := 11) (N := none) #[true, true, true, true, true, true, true, true, true, true, true, true] rfl rfl (one_of HT_.out (by kernel_rfl)) (by decide) (fun K hK => ?_)
                                                      refine skip_ (w1 := ?_) (by rfl) rfl ?_ ?_
                                                      rotate_left
                                                      · go_simp
                                                        rfl
                                                      refine hK.out _ _ ?_
                                                      clear hK K
                                                      refine done_ (done_of HT_.out (by kernel_rfl)) ?_
                                                      have p406 : 0 ≤ (x16_2 : Int) := of_decide_eq_true (by first | (with_reducible assumption) | assumption)
                                                      have q406 : x16_2 < (l2.length : Int) := of_decide_eq_true (by first | (with_reducible assumption) | assumption)
                                                      obtain ⟨ad406, e406, hx406_0, hx406_1, hx406_2⟩ := at_T36 HR2.out x16_2 p406 q406
                                                      (try rw [← Nbq69.out] at hx406_2)
                                                      obtain rfl : ad397 = ad406 := (by injection e406)
                                                      have hn406_0 : ad397.block ≠ go55 := Nat.ne_of_lt (Nat.lt_of_lt_of_le (by have := World.block_lt_of_cell? _ _ hx406_0; first | rwa [add_block] at this | exact this) GB55.out)
                                                      replace hx406_0 := (HB.out.cell (World.block_lt_of_cell? w _ hx406_0)).trans hx406_0
                                                      replace hx406_1 := (HB.out.cell (World.block_lt_of_cell? w _ hx406_1)).trans hx406_1
                                                      replace hx406_2 := (HB.out.cell (World.block_lt_of_cell? w _ hx406_2)).trans hx406_2
                                                      replace hx406_0 := (cell_far (p := ⟨go55, oo55 + ((ji48) : Int).toNat, none⟩) (by first | (rw [add_block]; exact hn406_0) | (show (Addr.add _ _).block ≠ _; rw [add_block]; exact hn406_0) | exact hn406_0) (.int .u8 (Go.bits .xor .u8 (rd x11_2 (ji48)) ((rd_T36 l2 x16_2).f1)))).trans hx406_0
                                                      replace hx406_1 := (cell_far (p := ⟨go55, oo55 + ((ji48) : Int).toNat, none⟩) (by first | (rw [add_block]; exact hn406_0) | (show (Addr.add _ _).block ≠ _; rw [add_block]; exact hn406_0) | exact hn406_0) (.int .u8 (Go.bits .xor .u8 (rd x11_2 (ji48)) ((rd_T36 l2 x16_2).f1)))).trans hx406_1
                                                      replace hx406_2 := (cell_far (p := ⟨go55, oo55 + ((ji48) : Int).toNat, none⟩) (by first | (rw [add_block]; exact hn406_0) | (show (Addr.add _ _).block ≠ _; rw [add_block]; exact hn406_0) | exact hn406_0) (.int .u8 (Go.bits .xor .u8 (rd x11_2 (ji48)) ((rd_T36 l2 x16_2).f1)))).trans hx406_2
                                                      clear hn406_0
                                                      replace p406 := eq_true p406
                                                      replace q406 := eq_true q406
                                                      have p411 : 0 ≤ (x16_2 : Int) := of_decide_eq_true (by first | (with_reducible assumption) | assumption)
                                                      have q411 : x16_2 < (l2.length : Int) := of_decide_eq_true (by first | (with_reducible assumption) | assumption)
                                                      obtain ⟨ad411, e411, hx411_0, hx411_1, hx411_2⟩ := at_T36 HR2.out x16_2 p411 q411
                                                      (try rw [← Nbq69.out] at hx411_2)
                                                      obtain rfl : ad397 = ad411 := (by injection e411)
                                                      have hn411_0 : ad397.block ≠ go55 := Nat.ne_of_lt (Nat.lt_of_lt_of_le (by have := World.block_lt_of_cell? _ _ hx411_0; first | rwa [add_block] at this | exact this) GB55.out)
                                                      replace hx411_0 := (HB.out.cell (World.block_lt_of_cell? w _ hx411_0)).trans hx411_0
                                                      replace hx411_1 := (HB.out.cell (World.block_lt_of_cell? w _ hx411_1)).trans hx411_1
                                                      replace hx411_2 := (HB.out.cell (World.block_lt_of_cell? w _ hx411_2)).trans hx411_2
                                                      replace hx411_0 := (cell_far (p := ⟨go55, oo55 + ((ji48) : Int).toNat, none⟩) (by first | (rw [add_block]; exact hn411_0) | (show (Addr.add _ _).block ≠ _; rw [add_block]; exact hn411_0) | exact hn411_0) (.int .u8 (Go.bits .xor .u8 (rd x11_2 (ji48)) ((rd_T36 l2 x16_2).f1)))).trans hx411_0
                                                      replace hx411_1 := (cell_far (p := ⟨go55, oo55 + ((ji48) : Int).toNat, none⟩) (by first | (rw [add_block]; exact hn411_0) | (show (Addr.add _ _).block ≠ _; rw [add_block]; exact hn411_0) | exact hn411_0) (.int .u8 (Go.bits .xor .u8 (rd x11_2 (ji48)) ((rd_T36 l2 x16_2).f1)))).trans hx411_1
                                                      replace hx411_2 := (cell_far (p := ⟨go55, oo55 + ((ji48) : Int).toNat, none⟩) (by first | (rw [add_block]; exact hn411_0) | (show (Addr.add _ _).block ≠ _; rw [add_block]; exact hn411_0) | exact hn411_0) (.int .u8 (Go.bits .xor .u8 (rd x11_2 (ji48)) ((rd_T36 l2 x16_2).f1)))).trans hx411_2
                                                      clear hn411_0
                                                      replace p411 := eq_true p411
                                                      replace q411 := eq_true q411
                                                      try go_wp2
                                                      (try simp only [← hl11_2])
                                                      go_roundg kj31
                                                      case measure => have := HJ5.out; have := HK2.out; have := HJ22.out; have := HJ28.out; have := HJ31.out; omega
                                                      case rel => exact ⟨(y405), (x12_2), (wrap64 (x13_2 + x18_28)), (wrap64 (x14_2 + 1)), (y402), (wrap64 (x16_2 + 1)), (by first | rfl | (simp; done) | (simp [*]; done)), (by first | rfl | (simp; done) | (simp [*]; done)), (by first | rfl | (simp; done) | (simp [*]; done)), H', ⟨by have := HJ5.out; have := HK2.out; have := HJ22.out; have := HJ28.out; have := HJ31.out; omega⟩, ⟨by (try simp only [hl11_2]); (with_reducible repeat (first | apply Kd.Q_alloc | apply Kd.Q_drewN | apply Kd.Q_drew)); exact HQ80.out⟩, ⟨by (try simp only [hl11_2]); (with_reducible repeat (first | apply Kd.R_alloc | apply Kd.R_drewN | apply Kd.R_drew)); exact Kd.R_mono (Kd.R_far (p := ⟨go55, oo55 + ((ji48) : Int).toNat, none⟩) (Kd.R_types HO_12.out GG55.out (by decide)) (fun _ hk => hk.2) (.int .u8 (Go.bits .xor .u8 (rd x11_2 (ji48)) ((rd_T36 l2 x16_2).f1)))) (fun _ hk => trivial)⟩, ⟨by (try simp only [hl11_2]); (with_reducible repeat (first | apply Kd.R_alloc | apply Kd.R_drewN | apply Kd.R_drew)); exact Kd.R_mono (Kd.R_far (p := ⟨go55, oo55 + ((ji48) : Int).toNat, none⟩) (Kd.R_types HO_15.out GG55.out (by decide)) (fun _ hk => hk.2) (.int .u8 (Go.bits .xor .u8 (rd x11_2 (ji48)) ((rd_T36 l2 x16_2).f1)))) (fun _ hk => trivial)⟩, ⟨by repeat (first | (with_reducible first | exact HB.out | apply below_alloc | apply pw_below_drewN | apply below_drew1 | refine below_set ?_ GB55.out) | exact HB.out)⟩⟩
                                                · rw [if_neg c54] at H
                                                  exact absurd H (by simp)
                                              · rw [if_neg c53] at H
                                                exact absurd H (by simp)
                                            · rw [if_neg c52] at H
                                              exact absurd H (by simp)
                                          · rw [if_neg c50] at H
                                            exact absurd H (by simp)
                                        · rw [if_neg c49] at H
                                          exact absurd H (by simp)
                          · rw [if_neg c27] at H
                            exact absurd H (by simp)
                        · rw [if_neg c26] at H
                          exact absurd H (by simp)
                      · replace c25 := Bool.eq_false_iff.mpr c25
                        subst c25
                        have H1 : ((rs_Decode.f kj22 (strOfNums x11_2) (wrap64 (1 + (Go.bits .and .i64 a1 15))) x12_2).bind fun bt394 => (if bt394.2.2 = 0 then (if bt394.1.toList = t382.toList then (some (bt394.2.1 == x14_2)) else (some false)) else (some false))) = some r := by rw [if_neg (show ¬ (false = true) by decide)] at H; exact H
                        clear H
                        have H := H1
                        clear H1
                        replace H := Option.bind_eq_some_iff.mp H
                        obtain ⟨⟨t394, t395, t396⟩, A810, H⟩ := H
                        replace H : (if t396 = 0 then (if t394.toList = t382.toList then (some (t395 == x14_2)) else (some false)) else (some false)) = some r := H
                        have A81 := Aside0.mk A810
                        clear A810
                        by_cases c82 : t396 = 0
                        · rw [if_pos c82] at H
                          have c82b0 : (t396 == 0) = true := beq_iff_eq.mpr c82
                          have c82b1 : (t396 != 0) = false := bne_eq_false_iff_eq.mpr c82
                          clear c82
                          by_cases c83 : t394.toList = t382.toList
                          · rw [if_pos c83] at H
                            have c83b0 : (t394.toList == t382.toList) = true := beq_iff_eq.mpr c83
                            have c83b1 : (t394.toList != t382.toList) = false := bne_eq_false_iff_eq.mpr c83
                            clear c83
                            obtain rfl := Option.some.inj H
                            have hcv84 := Kd.Q_string (P := Try.prog) Try.underlying28 Try.underlying5 Try.underlying9 HO_11.out
                            obtain ⟨Ao85, co85, eo85⟩ := Kd.R_slice HO_12.out
                            subst eo85
                            go_wp2_with (first | ((with_reducible refine gate_callee (f := 17) rfl ?_); refine goesL_ (some 140) rfl rfl Try.func17 (by kernel_rfl) rfl #[.string (strOfNums x11_2), .int .i64 (wrap64 (1 + (Go.bits .and .i64 a1 15))), .slice Ao85 x12_2.length co85] rfl (by (try simp only [List.map_toArray, List.map_cons, List.map_nil]); first | done | rfl | (simp only [List.length_drop, List.length_take]; rfl)) ?_; (with_reducible refine (rs_Decode.calls kj22 (strOfNums x11_2) (wrap64 (1 + (Go.bits .and .i64 a1 15))) _ _ x12_2 t394 t395 t396 _ ?side1 ?side2 A81.out).mono ?_); (case side1 => repeat (first | exact (Kd.R_reads' HO_12.out).2.2 | (with_reducible refine Kd.C_alloc ?_ _) | (with_reducible refine Kd.C_drewN ?_ _) | (with_reducible refine Kd.C_drew ?_))); (case side2 => exact (Kd.R_reads' HO_12.out).2.1); rintro e w86 ⟨rfl, hb⟩; refine ⟨_, rfl, ?_⟩; have n0_ := Aside0.mk (Kd.Q_below (by (with_reducible repeat (first | apply Kd.Q_alloc | apply Kd.Q_drewN | apply Kd.Q_drew)); exact HO_11.out) hb); have n1_ := Aside0.mk (Kd.R_below (by (with_reducible repeat (first | apply Kd.R_alloc | apply Kd.R_drewN | apply Kd.R_drew)); exact HO_12.out) hb); have n2_ := Aside0.mk (Kd.R_below (by (with_reducible repeat (first | apply Kd.R_alloc | apply Kd.R_drewN | apply Kd.R_drew)); exact HO_15.out) hb); have n3_ := Aside0.mk (below_step (by repeat (first | (with_reducible first | exact HB.out | apply below_alloc | apply pw_below_drewN | apply below_drew1) | exact HB.out)) hb); clear HO_11; clear HO_12; clear HO_15; clear HB; have HO_11 := n0_; have HO_12 := n1_; have HO_15 := n2_; have HB := n3_; clear n0_ n1_ n2_ n3_; (try clear hb); (try clear hb2); (try clear hk); (try clear hi)))
                            go_ret
                            exact ⟨by first | rfl | (simp [errW_none, errW_some] <;> rfl) | (simp [*, errW_none, errW_some] <;> rfl), by repeat (first | (with_reducible first | exact HB.out | apply below_alloc | apply pw_below_drewN | apply below_drew1) | exact HB.out)⟩
                          · rw [if_neg c83] at H
                            have c83b0 : (t394.toList == t382.toList) = false := beq_eq_false_iff_ne.mpr c83
                            have c83b1 : (t394.toList != t382.toList) = true := bne_iff_ne.mpr c83
                            obtain rfl := Option.some.inj H
                            have hcv87 := Kd.Q_string (P := Try.prog) Try.underlying28 Try.underlying5 Try.underlying9 HO_11.out
                            obtain ⟨Ao88, co88, eo88⟩ := Kd.R_slice HO_12.out
                            subst eo88
                            go_wp2_with (first | ((with_reducible refine gate_callee (f := 17) rfl ?_); refine goesL_ (some 140) rfl rfl Try.func17 (by kernel_rfl) rfl #[.string (strOfNums x11_2), .int .i64 (wrap64 (1 + (Go.bits .and .i64 a1 15))), .slice Ao88 x12_2.length co88] rfl (by (try simp only [List.map_toArray, List.map_cons, List.map_nil]); first | done | rfl | (simp only [List.length_drop, List.length_take]; rfl)) ?_; (with_reducible refine (rs_Decode.calls kj22 (strOfNums x11_2) (wrap64 (1 + (Go.bits .and .i64 a1 15))) _ _ x12_2 t394 t395 t396 _ ?side1 ?side2 A81.out).mono ?_); (case side1 => repeat (first | exact (Kd.R_reads' HO_12.out).2.2 | (with_reducible refine Kd.C_alloc ?_ _) | (with_reducible refine Kd.C_drewN ?_ _) | (with_reducible refine Kd.C_drew ?_))); (case side2 => exact (Kd.R_reads' HO_12.out).2.1); rintro e w89 ⟨rfl, hb⟩; refine ⟨_, rfl, ?_⟩; have n0_ := Aside0.mk (Kd.Q_below (by (with_reducible repeat (first | apply Kd.Q_alloc | apply Kd.Q_drewN | apply Kd.Q_drew)); exact HO_11.out) hb); have n1_ := Aside0.mk (Kd.R_below (by (with_reducible repeat (first | apply Kd.R_alloc | apply Kd.R_drewN | apply Kd.R_drew)); exact HO_12.out) hb); have n2_ := Aside0.mk (Kd.R_below (by (with_reducible repeat (first | apply Kd.R_alloc | apply Kd.R_drewN | apply Kd.R_drew)); exact HO_15.out) hb); have n3_ := Aside0.mk (below_step (by repeat (first | (with_reducible first | exact HB.out | apply below_alloc | apply pw_below_drewN | apply below_drew1) | exact HB.out)) hb); clear HO_11; clear HO_12; clear HO_15; clear HB; have HO_11 := n0_; have HO_12 := n1_; have HO_15 := n2_; have HB := n3_; clear n0_ n1_ n2_ n3_; (try clear hb); (try clear hb2); (try clear hk); (try clear hi)))
                            go_ret
                            exact ⟨by first | rfl | (simp [errW_none, errW_some] <;> rfl) | (simp [*, errW_none, errW_some] <;> rfl), by repeat (first | (with_reducible first | exact HB.out | apply below_alloc | apply pw_below_drewN | apply below_drew1) | exact HB.out)⟩
                        · rw [if_neg c82] at H
                          have c82b0 : (t396 == 0) = false := beq_eq_false_iff_ne.mpr c82
                          have c82b1 : (t396 != 0) = true := bne_iff_ne.mpr c82
                          obtain rfl := Option.some.inj H
                          have hcv90 := Kd.Q_string (P := Try.prog) Try.underlying28 Try.underlying5 Try.underlying9 HO_11.out
                          obtain ⟨Ao91, co91, eo91⟩ := Kd.R_slice HO_12.out
                          subst eo91
                          go_wp2_with (first | ((with_reducible refine gate_callee (f := 17) rfl ?_); refine goesL_ (some 140) rfl rfl Try.func17 (by kernel_rfl) rfl #[.string (strOfNums x11_2), .int .i64 (wrap64 (1 + (Go.bits .and .i64 a1 15))), .slice Ao91 x12_2.length co91] rfl (by (try simp only [List.map_toArray, List.map_cons, List.map_nil]); first | done | rfl | (simp only [List.length_drop, List.length_take]; rfl)) ?_; (with_reducible refine (rs_Decode.calls kj22 (strOfNums x11_2) (wrap64 (1 + (Go.bits .and .i64 a1 15))) _ _ x12_2 t394 t395 t396 _ ?side1 ?side2 A81.out).mono ?_); (case side1 => repeat (first | exact (Kd.R_reads' HO_12.out).2.2 | (with_reducible refine Kd.C_alloc ?_ _) | (with_reducible refine Kd.C_drewN ?_ _) | (with_reducible refine Kd.C_drew ?_))); (case side2 => exact (Kd.R_reads' HO_12.out).2.1); rintro e w92 ⟨rfl, hb⟩; refine ⟨_, rfl, ?_⟩; have n0_ := Aside0.mk (Kd.Q_below (by (with_reducible repeat (first | apply Kd.Q_alloc | apply Kd.Q_drewN | apply Kd.Q_drew)); exact HO_11.out) hb); have n1_ := Aside0.mk (Kd.R_below (by (with_reducible repeat (first | apply Kd.R_alloc | apply Kd.R_drewN | apply Kd.R_drew)); exact HO_12.out) hb); have n2_ := Aside0.mk (Kd.R_below (by (with_reducible repeat (first | apply Kd.R_alloc | apply Kd.R_drewN | apply Kd.R_drew)); exact HO_15.out) hb); have n3_ := Aside0.mk (below_step (by repeat (first | (with_reducible first | exact HB.out | apply below_alloc | apply pw_below_drewN | apply below_drew1) | exact HB.out)) hb); clear HO_11; clear HO_12; clear HO_15; clear HB; have HO_11 := n0_; have HO_12 := n1_; have HO_15 := n2_; have HB := n3_; clear n0_ n1_ n2_ n3_; (try clear hb); (try clear hb2); (try clear hk); (try clear hi)))
                          go_ret
                          exact ⟨by first | rfl | (simp [errW_none, errW_some] <;> rfl) | (simp [*, errW_none, errW_some] <;> rfl), by repeat (first | (with_reducible first | exact HB.out | apply below_alloc | apply pw_below_drewN | apply below_drew1) | exact HB.out)⟩
            · rw [if_neg c15] at H
              exact absurd H (by simp)
          · rw [if_neg c14] at H
            exact absurd H (by simp)
        · rw [if_neg c13] at H
          exact absurd H (by simp)
end Go.Proofs.Ytconplohaaohlaa.XRs
