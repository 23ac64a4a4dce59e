import Derived.Test.YtconplohaaohlaaXRsx0
import Derived.Test.YtconplohaaohlaaXRsx1
import Derived.Test.YtconplohaaohlaaXRsx5
import Derived.Test.YtconplohaaohlaaXRsx6
namespace Go.Proofs.Ytconplohaaohlaa.XRs
open Go.RowKit Go.Proofs.YtconplohaaohlaaX.PrintWords Go.Proofs.YtconplohaaohlaaX.PrintLast Go.Proofs.YtconplohaaohlaaX.PrintMore
attribute [local go_sem] max2_int min2_int max_two min_two max_three min_three max_four min_four
set_option linter.unusedVariables false
set_option linter.unusedSimpArgs false
mutual
def tinderboxlaw28_RsAny.j0 : Nat → ByteArray → Int → List Int → ByteArray → Int → Int → Bool → Option (Bool)
  | 0, _, _, _, _, _, _, _ => none
  | k + 1, x7, x8, x9, x10, x11, x12, x45 => if x45 = true then ((tinderboxlaw28_awake.f k).bind fun t421 => (if t421 = true then (if x12 = 1 then (some (x10.toList == ([] : List UInt8))) else (some false)) else (some false))) else (if 0 ≤ (x7.size : Int) then (if ((x7.size : Int) : Int).toNat ≤ 281474976710656 then (tinderboxlaw28_RsAny.l0 k x7 x8 x9 x10 x11 x12 (List.replicate ((x7.size : Int) : Int).toNat false) false 0 0) else (none)) else (none))
def tinderboxlaw28_RsAny.l0 : Nat → ByteArray → Int → List Int → ByteArray → Int → Int → List Bool → Bool → Int → Int → Option (Bool)
  | 0, _, _, _, _, _, _, _, _, _, _ => none
  | k + 1, x7, x8, x9, x10, x11, x12, x13, x14, x15, x16 => if x16 < (x9.length : Int) then (if 0 ≤ x16 then (if (rd x9 x16) < 0 then (tinderboxlaw28_RsAny.j2 k x7 x8 x9 x10 x11 x12 x13 x14 x15 x16 true) else (tinderboxlaw28_RsAny.j2 k x7 x8 x9 x10 x11 x12 x13 x14 x15 x16 (decide ((rd x9 x16) ≥ (x7.size : Int))))) else (none)) else (if x14 = true then (tinderboxlaw28_RsAny.j3 k x7 x8 x10 x11 x12 x13 x15 true) else (tinderboxlaw28_RsAny.j3 k x7 x8 x10 x11 x12 x13 x15 (decide (x15 > x8))))
def tinderboxlaw28_RsAny.j2 : Nat → ByteArray → Int → List Int → ByteArray → Int → Int → List Bool → Bool → Int → Int → Bool → Option (Bool)
  | 0, _, _, _, _, _, _, _, _, _, _, _ => none
  | k + 1, x7, x8, x9, x10, x11, x12, x13, x14, x15, x16, x77 => if x77 = true then (tinderboxlaw28_RsAny.l0 k x7 x8 x9 x10 x11 x12 x13 true x15 (wrap64 (x16 + 1))) else (if 0 ≤ x16 then (if x16 < (x9.length : Int) then (if 0 ≤ (rd x9 x16) then (if (rd x9 x16) < (x13.length : Int) then (if (rdOf false x13 (rd x9 x16) = true) then (tinderboxlaw28_RsAny.l0 k x7 x8 x9 x10 x11 x12 (x13.set ((rd x9 x16) : Int).toNat true) x14 x15 (wrap64 (x16 + 1))) else (tinderboxlaw28_RsAny.l0 k x7 x8 x9 x10 x11 x12 (x13.set ((rd x9 x16) : Int).toNat true) x14 (wrap64 (x15 + 1)) (wrap64 (x16 + 1)))) else (none)) else (none)) else (none)) else (none))
def tinderboxlaw28_RsAny.j3 : Nat → ByteArray → Int → ByteArray → Int → Int → List Bool → Int → Bool → Option (Bool)
  | 0, _, _, _, _, _, _, _, _ => none
  | k + 1, x7, x8, x10, x11, x12, x13, x15, x99 => if x99 = true then (if x12 = 280 then (some (x10.toList == ([] : List UInt8))) else (some false)) else (if x12 = 0 then (tinderboxlaw28_RsAny.l1 k x7 x8 x10 x11 x13 x15 0 0 0) else (if x12 = 280 then (if x10.toList = ([] : List UInt8) then (if x11 = 0 then ((tinderboxlaw28_right.f k x7 x8).bind fun t433 => (some (!t433))) else (some false)) else (some false)) else (some false)))
def tinderboxlaw28_RsAny.l1 : Nat → ByteArray → Int → ByteArray → Int → List Bool → Int → Int → Int → Int → Option (Bool)
  | 0, _, _, _, _, _, _, _, _, _ => none
  | k + 1, x7, x8, x10, x11, x13, x15, x17, x18, x19 => if x19 < (x7.size : Int) then (if 0 ≤ x19 then (if x19 < (x10.size : Int) then (if (bt x10 x19) = (bt x7 x19) then (tinderboxlaw28_RsAny.l1 k x7 x8 x10 x11 x13 x15 x17 x18 (wrap64 (x19 + 1))) else (if x19 < (x13.length : Int) then (if rdOf false x13 x19 = true then (tinderboxlaw28_RsAny.l1 k x7 x8 x10 x11 x13 x15 (wrap64 (x17 + 1)) x18 (wrap64 (x19 + 1))) else (tinderboxlaw28_RsAny.l1 k x7 x8 x10 x11 x13 x15 (wrap64 (x17 + 1)) (wrap64 (x18 + 1)) (wrap64 (x19 + 1)))) else (none))) else (none)) else (none)) else (if (x10.size : Int) = (x7.size : Int) then ((tinderboxlaw28_right.f k x10 x8).bind fun t434 => (if t434 = true then (if x11 = x17 then (if (wrap64 ((wrap64 (2 * x18)) + x15)) ≤ x8 then (some true) else (some (x17 == 0))) else (some false)) else (some false))) else (some false))
end
def tinderboxlaw28_RsAny.f (k : Nat) (a0 : ByteArray) (a1 : Int) (l2 : List Int) : Option (Bool) := (tinderboxlaw28_few.f a0).bind fun t415 => (if 0 ≤ (mn (l2.length : Int) 20) then (if (mn (l2.length : Int) 20) ≤ (l2.length : Int) then ((rs_Decode.f k t415 (wrap64 (1 + (Go.bits .and .i64 a1 15))) (l2.take ((mn (l2.length : Int) 20) : Int).toNat)).bind fun bt417 => ((tinderboxlaw28_awake.f k).bind fun t420 => (if t420 = true then (tinderboxlaw28_RsAny.j0 k t415 (wrap64 (1 + (Go.bits .and .i64 a1 15))) (l2.take ((mn (l2.length : Int) 20) : Int).toNat) bt417.1 bt417.2.1 bt417.2.2 (decide ((t415.size : Int) ≤ (wrap64 (1 + (Go.bits .and .i64 a1 15)))))) else (tinderboxlaw28_RsAny.j0 k t415 (wrap64 (1 + (Go.bits .and .i64 a1 15))) (l2.take ((mn (l2.length : Int) 20) : Int).toNat) bt417.1 bt417.2.1 bt417.2.2 true)))) else (none)) else (none))
theorem tinderboxlaw28_RsAny.mono_l : ∀ k, (∀ y0 y1 y2 y3 y4 y5 y6, LeO (tinderboxlaw28_RsAny.j0 k y0 y1 y2 y3 y4 y5 y6) (tinderboxlaw28_RsAny.j0 (k + 1) y0 y1 y2 y3 y4 y5 y6)) ∧ (∀ y0 y1 y2 y3 y4 y5 y6 y7 y8 y9, LeO (tinderboxlaw28_RsAny.l0 k y0 y1 y2 y3 y4 y5 y6 y7 y8 y9) (tinderboxlaw28_RsAny.l0 (k + 1) y0 y1 y2 y3 y4 y5 y6 y7 y8 y9)) ∧ (∀ y0 y1 y2 y3 y4 y5 y6 y7 y8 y9 y10, LeO (tinderboxlaw28_RsAny.j2 k y0 y1 y2 y3 y4 y5 y6 y7 y8 y9 y10) (tinderboxlaw28_RsAny.j2 (k + 1) y0 y1 y2 y3 y4 y5 y6 y7 y8 y9 y10)) ∧ (∀ y0 y1 y2 y3 y4 y5 y6 y7, LeO (tinderboxlaw28_RsAny.j3 k y0 y1 y2 y3 y4 y5 y6 y7) (tinderboxlaw28_RsAny.j3 (k + 1) y0 y1 y2 y3 y4 y5 y6 y7)) ∧ (∀ y0 y1 y2 y3 y4 y5 y6 y7 y8, LeO (tinderboxlaw28_RsAny.l1 k y0 y1 y2 y3 y4 y5 y6 y7 y8) (tinderboxlaw28_RsAny.l1 (k + 1) y0 y1 y2 y3 y4 y5 y6 y7 y8))
  | 0 => ⟨fun _ _ _ _ _ _ _ r h => by simp [tinderboxlaw28_RsAny.j0] at h, fun _ _ _ _ _ _ _ _ _ _ r h => by simp [tinderboxlaw28_RsAny.l0] at h, fun _ _ _ _ _ _ _ _ _ _ _ r h => by simp [tinderboxlaw28_RsAny.j2] at h, fun _ _ _ _ _ _ _ _ r h => by simp [tinderboxlaw28_RsAny.j3] at h, fun _ _ _ _ _ _ _ _ _ r h => by simp [tinderboxlaw28_RsAny.l1] at h⟩
  | k + 1 => by
    obtain ⟨ih0, ih1, ih2, ih3, ih4⟩ := tinderboxlaw28_RsAny.mono_l k
    refine ⟨?_, ?_, ?_, ?_, ?_⟩
    · intro y0 y1 y2 y3 y4 y5 y6
      unfold tinderboxlaw28_RsAny.j0
      repeat' first
      | (with_reducible exact ih0 _ _ _ _ _ _ _)
      | (with_reducible exact ih1 _ _ _ _ _ _ _ _ _ _)
      | (with_reducible exact ih2 _ _ _ _ _ _ _ _ _ _ _)
      | (with_reducible exact ih3 _ _ _ _ _ _ _ _)
      | (with_reducible exact ih4 _ _ _ _ _ _ _ _ _)
      | (with_reducible exact rs_Decode.mono _ _ _ _)
      | (with_reducible exact tinderboxlaw28_awake.mono _)
      | (with_reducible exact tinderboxlaw28_right.mono _ _ _)
      | (with_reducible exact LeO.refl _)
      | (with_reducible exact LeO.none _)
      | (with_reducible refine LeO.ite ?_ ?_)
      | (with_reducible refine LeO.bind ?_ (fun _ => ?_))
      | exact ih0 _ _ _ _ _ _ _
      | exact ih1 _ _ _ _ _ _ _ _ _ _
      | exact ih2 _ _ _ _ _ _ _ _ _ _ _
      | exact ih3 _ _ _ _ _ _ _ _
      | exact ih4 _ _ _ _ _ _ _ _ _
      | exact rs_Decode.mono _ _ _ _
      | exact tinderboxlaw28_awake.mono _
      | exact tinderboxlaw28_right.mono _ _ _
      | exact LeO.none _
      | refine LeO.ite ?_ ?_
      | refine LeO.bind ?_ (fun _ => ?_)
    · intro y0 y1 y2 y3 y4 y5 y6 y7 y8 y9
      unfold tinderboxlaw28_RsAny.l0
      repeat' first
      | (with_reducible exact ih0 _ _ _ _ _ _ _)
      | (with_reducible exact ih1 _ _ _ _ _ _ _ _ _ _)
      | (with_reducible exact ih2 _ _ _ _ _ _ _ _ _ _ _)
      | (with_reducible exact ih3 _ _ _ _ _ _ _ _)
      | (with_reducible exact ih4 _ _ _ _ _ _ _ _ _)
      | (with_reducible exact rs_Decode.mono _ _ _ _)
      | (with_reducible exact tinderboxlaw28_awake.mono _)
      | (with_reducible exact tinderboxlaw28_right.mono _ _ _)
      | (with_reducible exact LeO.refl _)
      | (with_reducible exact LeO.none _)
      | (with_reducible refine LeO.ite ?_ ?_)
      | (with_reducible refine LeO.bind ?_ (fun _ => ?_))
      | exact ih0 _ _ _ _ _ _ _
      | exact ih1 _ _ _ _ _ _ _ _ _ _
      | exact ih2 _ _ _ _ _ _ _ _ _ _ _
      | exact ih3 _ _ _ _ _ _ _ _
      | exact ih4 _ _ _ _ _ _ _ _ _
      | exact rs_Decode.mono _ _ _ _
      | exact tinderboxlaw28_awake.mono _
      | exact tinderboxlaw28_right.mono _ _ _
      | exact LeO.none _
      | refine LeO.ite ?_ ?_
      | refine LeO.bind ?_ (fun _ => ?_)
    · intro y0 y1 y2 y3 y4 y5 y6 y7 y8 y9 y10
      unfold tinderboxlaw28_RsAny.j2
      repeat' first
      | (with_reducible exact ih0 _ _ _ _ _ _ _)
      | (with_reducible exact ih1 _ _ _ _ _ _ _ _ _ _)
      | (with_reducible exact ih2 _ _ _ _ _ _ _ _ _ _ _)
      | (with_reducible exact ih3 _ _ _ _ _ _ _ _)
      | (with_reducible exact ih4 _ _ _ _ _ _ _ _ _)
      | (with_reducible exact rs_Decode.mono _ _ _ _)
      | (with_reducible exact tinderboxlaw28_awake.mono _)
      | (with_reducible exact tinderboxlaw28_right.mono _ _ _)
      | (with_reducible exact LeO.refl _)
      | (with_reducible exact LeO.none _)
      | (with_reducible refine LeO.ite ?_ ?_)
      | (with_reducible refine LeO.bind ?_ (fun _ => ?_))
      | exact ih0 _ _ _ _ _ _ _
      | exact ih1 _ _ _ _ _ _ _ _ _ _
      | exact ih2 _ _ _ _ _ _ _ _ _ _ _
      | exact ih3 _ _ _ _ _ _ _ _
      | exact ih4 _ _ _ _ _ _ _ _ _
      | exact rs_Decode.mono _ _ _ _
      | exact tinderboxlaw28_awake.mono _
      | exact tinderboxlaw28_right.mono _ _ _
      | exact LeO.none _
      | refine LeO.ite ?_ ?_
      | refine LeO.bind ?_ (fun _ => ?_)
    · intro y0 y1 y2 y3 y4 y5 y6 y7
      unfold tinderboxlaw28_RsAny.j3
      repeat' first
      | (with_reducible exact ih0 _ _ _ _ _ _ _)
      | (with_reducible exact ih1 _ _ _ _ _ _ _ _ _ _)
      | (with_reducible exact ih2 _ _ _ _ _ _ _ _ _ _ _)
      | (with_reducible exact ih3 _ _ _ _ _ _ _ _)
      | (with_reducible exact ih4 _ _ _ _ _ _ _ _ _)
      | (with_reducible exact rs_Decode.mono _ _ _ _)
      | (with_reducible exact tinderboxlaw28_awake.mono _)
      | (with_reducible exact tinderboxlaw28_right.mono _ _ _)
      | (with_reducible exact LeO.refl _)
      | (with_reducible exact LeO.none _)
      | (with_reducible refine LeO.ite ?_ ?_)
      | (with_reducible refine LeO.bind ?_ (fun _ => ?_))
      | exact ih0 _ _ _ _ _ _ _
      | exact ih1 _ _ _ _ _ _ _ _ _ _
      | exact ih2 _ _ _ _ _ _ _ _ _ _ _
      | exact ih3 _ _ _ _ _ _ _ _
      | exact ih4 _ _ _ _ _ _ _ _ _
      | exact rs_Decode.mono _ _ _ _
      | exact tinderboxlaw28_awake.mono _
      | exact tinderboxlaw28_right.mono _ _ _
      | exact LeO.none _
      | refine LeO.ite ?_ ?_
      | refine LeO.bind ?_ (fun _ => ?_)
    · intro y0 y1 y2 y3 y4 y5 y6 y7 y8
      unfold tinderboxlaw28_RsAny.l1
      repeat' first
      | (with_reducible exact ih0 _ _ _ _ _ _ _)
      | (with_reducible exact ih1 _ _ _ _ _ _ _ _ _ _)
      | (with_reducible exact ih2 _ _ _ _ _ _ _ _ _ _ _)
      | (with_reducible exact ih3 _ _ _ _ _ _ _ _)
      | (with_reducible exact ih4 _ _ _ _ _ _ _ _ _)
      | (with_reducible exact rs_Decode.mono _ _ _ _)
      | (with_reducible exact tinderboxlaw28_awake.mono _)
      | (with_reducible exact tinderboxlaw28_right.mono _ _ _)
      | (with_reducible exact LeO.refl _)
      | (with_reducible exact LeO.none _)
      | (with_reducible refine LeO.ite ?_ ?_)
      | (with_reducible refine LeO.bind ?_ (fun _ => ?_))
      | exact ih0 _ _ _ _ _ _ _
      | exact ih1 _ _ _ _ _ _ _ _ _ _
      | exact ih2 _ _ _ _ _ _ _ _ _ _ _
      | exact ih3 _ _ _ _ _ _ _ _
      | exact ih4 _ _ _ _ _ _ _ _ _
      | exact rs_Decode.mono _ _ _ _
      | exact tinderboxlaw28_awake.mono _
      | exact tinderboxlaw28_right.mono _ _ _
      | exact LeO.none _
      | refine LeO.ite ?_ ?_
      | refine LeO.bind ?_ (fun _ => ?_)
theorem tinderboxlaw28_RsAny.mono : ∀ a0 a1 a2 k, LeO (tinderboxlaw28_RsAny.f k a0 a1 a2) (tinderboxlaw28_RsAny.f (k + 1) a0 a1 a2) := by
  intro a0 a1 a2 k
  obtain ⟨ih0, ih1, ih2, ih3, ih4⟩ := tinderboxlaw28_RsAny.mono_l k
  unfold tinderboxlaw28_RsAny.f
  repeat' first
      | (with_reducible exact ih0 _ _ _ _ _ _ _)
      | (with_reducible exact ih1 _ _ _ _ _ _ _ _ _ _)
      | (with_reducible exact ih2 _ _ _ _ _ _ _ _ _ _ _)
      | (with_reducible exact ih3 _ _ _ _ _ _ _ _)
      | (with_reducible exact ih4 _ _ _ _ _ _ _ _ _)
      | (with_reducible exact rs_Decode.mono _ _ _ _)
      | (with_reducible exact tinderboxlaw28_awake.mono _)
      | (with_reducible exact tinderboxlaw28_right.mono _ _ _)
      | (with_reducible exact LeO.refl _)
      | (with_reducible exact LeO.none _)
      | (with_reducible refine LeO.ite ?_ ?_)
      | (with_reducible refine LeO.bind ?_ (fun _ => ?_))
      | exact ih0 _ _ _ _ _ _ _
      | exact ih1 _ _ _ _ _ _ _ _ _ _
      | exact ih2 _ _ _ _ _ _ _ _ _ _ _
      | exact ih3 _ _ _ _ _ _ _ _
      | exact ih4 _ _ _ _ _ _ _ _ _
      | exact rs_Decode.mono _ _ _ _
      | exact tinderboxlaw28_awake.mono _
      | exact tinderboxlaw28_right.mono _ _ _
      | exact LeO.none _
      | refine LeO.ite ?_ ?_
      | refine LeO.bind ?_ (fun _ => ?_)
set_option maxHeartbeats 8000000 in
set_option maxRecDepth 100000 in
theorem tinderboxlaw28_RsAny.calls (k : Nat) (a0 : ByteArray) (a1 : Int) (A2 : Option Addr) (c2 : Nat) (l2 : List Int) (r : Bool) (w : World) (hr2 : Kd.C (Kd.int .i64) w A2 l2.length l2) (hc2 : l2.length ≤ c2) (h : tinderboxlaw28_RsAny.f k a0 a1 l2 = some r) :
    Calls Try.prog 6 #[.string a0, .int .i64 a1, .slice A2 l2.length c2] w fun e w' => e = .returned (.bool r) ∧ Below w.heap.size w w' := by
  have HR2 := Aside0.mk hr2
  have HC2 := Aside0.mk hc2
  clear hr2 hc2
  have HB := Aside0.mk (Below.refl w.heap.size w)
  have H : ((tinderboxlaw28_few.f a0).bind fun t415 => (if 0 ≤ (mn (l2.length : Int) 20) then (if (mn (l2.length : Int) 20) ≤ (l2.length : Int) then ((rs_Decode.f k t415 (wrap64 (1 + (Go.bits .and .i64 a1 15))) (l2.take ((mn (l2.length : Int) 20) : Int).toNat)).bind fun bt417 => ((tinderboxlaw28_awake.f k).bind fun t420 => (if t420 = true then (tinderboxlaw28_RsAny.j0 k t415 (wrap64 (1 + (Go.bits .and .i64 a1 15))) (l2.take ((mn (l2.length : Int) 20) : Int).toNat) bt417.1 bt417.2.1 bt417.2.2 (decide ((t415.size : Int) ≤ (wrap64 (1 + (Go.bits .and .i64 a1 15)))))) else (tinderboxlaw28_RsAny.j0 k t415 (wrap64 (1 + (Go.bits .and .i64 a1 15))) (l2.take ((mn (l2.length : Int) 20) : Int).toNat) bt417.1 bt417.2.1 bt417.2.2 true)))) else (none)) else (none))) = some r := h
  clear h
  replace H := Option.bind_eq_some_iff.mp H
  obtain ⟨t415, A40, H⟩ := H
  replace H : (if 0 ≤ (mn (l2.length : Int) 20) then (if (mn (l2.length : Int) 20) ≤ (l2.length : Int) then ((rs_Decode.f k t415 (wrap64 (1 + (Go.bits .and .i64 a1 15))) (l2.take ((mn (l2.length : Int) 20) : Int).toNat)).bind fun bt417 => ((tinderboxlaw28_awake.f k).bind fun t420 => (if t420 = true then (tinderboxlaw28_RsAny.j0 k t415 (wrap64 (1 + (Go.bits .and .i64 a1 15))) (l2.take ((mn (l2.length : Int) 20) : Int).toNat) bt417.1 bt417.2.1 bt417.2.2 (decide ((t415.size : Int) ≤ (wrap64 (1 + (Go.bits .and .i64 a1 15)))))) else (tinderboxlaw28_RsAny.j0 k t415 (wrap64 (1 + (Go.bits .and .i64 a1 15))) (l2.take ((mn (l2.length : Int) 20) : Int).toNat) bt417.1 bt417.2.1 bt417.2.2 true)))) else (none)) else (none)) = some r := H
  have A4 := Aside0.mk A40
  clear A40
  obtain ⟨ji5, hji5⟩ : ∃ j_ : Int, (mn (l2.length : Int) 20) = j_ := ⟨_, rfl⟩
  replace H : (if 0 ≤ (ji5) then (if (ji5) ≤ (l2.length : Int) then ((rs_Decode.f k t415 (wrap64 (1 + (Go.bits .and .i64 a1 15))) (l2.take ((ji5) : Int).toNat)).bind fun bt417 => ((tinderboxlaw28_awake.f k).bind fun t420 => (if t420 = true then (tinderboxlaw28_RsAny.j0 k t415 (wrap64 (1 + (Go.bits .and .i64 a1 15))) (l2.take ((ji5) : Int).toNat) bt417.1 bt417.2.1 bt417.2.2 (decide ((t415.size : Int) ≤ (wrap64 (1 + (Go.bits .and .i64 a1 15)))))) else (tinderboxlaw28_RsAny.j0 k t415 (wrap64 (1 + (Go.bits .and .i64 a1 15))) (l2.take ((ji5) : Int).toNat) bt417.1 bt417.2.1 bt417.2.2 true)))) else (none)) else (none)) = some r := by first | (rw [hji5] at H; exact H) | (simp only [hji5] at H ⊢; exact H)
  (try rw [hji5] at A4)
  (try (have hji5h : ji5 ≤ 20 := by (rw [← hji5]; unfold mn; (repeat' split) <;> omega)))
  (try (have hji5g : ji5 ≤ 64 := by omega))
  (try (have hji5l : 0 ≤ ji5 := by (rw [← hji5]; unfold mn; (repeat' split) <;> omega)))
  (try (have hji5m : 0 ≤ ji5 := by omega))
  have hji5_ : (if 20 < (l2.length : Int) then 20 else (l2.length : Int)) = ji5 := hji5
  by_cases c6 : 0 ≤ (ji5)
  · rw [if_pos c6] at H
    have c6b0 := eq_true c6
    have c6b1 : decide (0 ≤ (ji5)) = true := decide_eq_true c6
    clear c6
    by_cases c7 : (ji5) ≤ (l2.length : Int)
    · rw [if_pos c7] at H
      have c7b0 := eq_true c7
      have c7b1 : decide ((ji5) ≤ (l2.length : Int)) = true := decide_eq_true c7
      clear c7
      replace H := Option.bind_eq_some_iff.mp H
      obtain ⟨⟨t417, t418, t419⟩, A80, H⟩ := H
      replace H : ((tinderboxlaw28_awake.f k).bind fun t420 => (if t420 = true then (tinderboxlaw28_RsAny.j0 k t415 (wrap64 (1 + (Go.bits .and .i64 a1 15))) (l2.take ((ji5) : Int).toNat) t417 t418 t419 (decide ((t415.size : Int) ≤ (wrap64 (1 + (Go.bits .and .i64 a1 15)))))) else (tinderboxlaw28_RsAny.j0 k t415 (wrap64 (1 + (Go.bits .and .i64 a1 15))) (l2.take ((ji5) : Int).toNat) t417 t418 t419 true))) = some r := H
      have A8 := Aside0.mk A80
      clear A80
      have HC9 := Aside0.mk H
      clear H
      obtain ⟨i010, hi010, _, hsz10, _⟩ := info_parts info3
      obtain ⟨hcut10, hA10, hC10⟩ := print_take_of (P := Try.prog) (Value.int .i64) 0 33 3 .i64 Try.underlying33 hi010 hsz10 A2 c2 l2 (ji5) (of_decide_eq_true (by first | (with_reducible assumption) | assumption)) (of_decide_eq_true (by first | (with_reducible assumption) | assumption)) HC2.out
      have HR416 := Aside0.mk (Kd.C_of_reads (h1 := fun _ => rfl) (hA10 _ (Kd.reads_of_C HR2.out)))
      have HC416 := Aside0.mk hC10
      clear hA10 hC10 hi010 hsz10
      have HK416 := Aside0.mk (show (((l2.take ((ji5) : Int).toNat).length : Nat) : Int) = max (ji5) 0 from (by rw [show (l2.take ((ji5) : Int).toNat).length = (ji5).toNat from (by rw [List.length_take]; have h_ : ((ji5) : Int) ≤ (l2.length : Int) := of_decide_eq_true (by first | (with_reducible assumption) | assumption); omega)]; omega))
      go_enter Try.func6, Try.ntmps6
      go_upto_region 4 with (first | (go_at_call 9; (with_reducible refine (tinderboxlaw28_few.calls a0 t415 _ A4.out).mono ?_); rintro e w' ⟨rfl, ⟨nd, rfl⟩⟩; (try first | exact ⟨rfl, _, World.drewN_drewN _ _ _⟩ | exact ⟨rfl, _, Eq.trans (World.drewN_drewN _ _ _) (congrArg (World.drewN _) (Nat.add_assoc _ _ _))⟩)) | (go_at_call 17; refine calls_of_args (args' := #[.string t415, .int .i64 (wrap64 (1 + (Go.bits .and .i64 a1 15))), .slice A2 (l2.take ((ji5) : Int).toNat).length c2]) (by first | (rw [show (l2.take ((ji5) : Int).toNat).length = (ji5).toNat from (by rw [List.length_take]; have h_ : ((ji5) : Int) ≤ (l2.length : Int) := of_decide_eq_true (by first | (with_reducible assumption) | assumption); omega)] <;> rfl) | rfl | (simp only [List.length_drop, List.length_take]; rfl)) ?_; (with_reducible refine (rs_Decode.calls k t415 (wrap64 (1 + (Go.bits .and .i64 a1 15))) _ _ (l2.take ((ji5) : Int).toNat) t417 t418 t419 _ ?side1 ?side2 A8.out).mono ?_); (case side1 => repeat (first | exact HR416.out | (with_reducible refine Kd.C_alloc ?_ _) | (with_reducible refine Kd.C_drewN ?_ _) | (with_reducible refine Kd.C_drew ?_))); (case side2 => exact HC416.out); rintro e w11 ⟨rfl, hb⟩; have n0_ := Aside0.mk (below_step (by repeat (first | (with_reducible first | exact HB.out | apply below_alloc | apply pw_below_drewN | apply below_drew1) | exact HB.out)) hb); clear HB; have HB := n0_; clear n0_; (try clear hb); (try clear hb2); (try clear hk); (try clear hi)))
      repeat (go_quiet (first | (go_at_call 9; (with_reducible refine (tinderboxlaw28_few.calls a0 t415 _ A4.out).mono ?_); rintro e w' ⟨rfl, ⟨nd, rfl⟩⟩; (try first | exact ⟨rfl, _, World.drewN_drewN _ _ _⟩ | exact ⟨rfl, _, Eq.trans (World.drewN_drewN _ _ _) (congrArg (World.drewN _) (Nat.add_assoc _ _ _))⟩)) | (go_at_call 17; refine calls_of_args (args' := #[.string t415, .int .i64 (wrap64 (1 + (Go.bits .and .i64 a1 15))), .slice A2 (l2.take ((ji5) : Int).toNat).length c2]) (by first | (rw [show (l2.take ((ji5) : Int).toNat).length = (ji5).toNat from (by rw [List.length_take]; have h_ : ((ji5) : Int) ≤ (l2.length : Int) := of_decide_eq_true (by first | (with_reducible assumption) | assumption); omega)] <;> rfl) | rfl | (simp only [List.length_drop, List.length_take]; rfl)) ?_; (with_reducible refine (rs_Decode.calls k t415 (wrap64 (1 + (Go.bits .and .i64 a1 15))) _ _ (l2.take ((ji5) : Int).toNat) t417 t418 t419 _ ?side1 ?side2 A8.out).mono ?_); (case side1 => repeat (first | exact HR416.out | (with_reducible refine Kd.C_alloc ?_ _) | (with_reducible refine Kd.C_drewN ?_ _) | (with_reducible refine Kd.C_drew ?_))); (case side2 => exact HC416.out); rintro e w11 ⟨rfl, hb⟩; have n0_ := Aside0.mk (below_step (by repeat (first | (with_reducible first | exact HB.out | apply below_alloc | apply pw_below_drewN | apply below_drew1) | exact HB.out)) hb); clear HB; have HB := n0_; clear n0_; (try clear hb); (try clear hb2); (try clear hk); (try clear hi))); go_upto_region 4 with (first | (go_at_call 9; (with_reducible refine (tinderboxlaw28_few.calls a0 t415 _ A4.out).mono ?_); rintro e w' ⟨rfl, ⟨nd, rfl⟩⟩; (try first | exact ⟨rfl, _, World.drewN_drewN _ _ _⟩ | exact ⟨rfl, _, Eq.trans (World.drewN_drewN _ _ _) (congrArg (World.drewN _) (Nat.add_assoc _ _ _))⟩)) | (go_at_call 17; refine calls_of_args (args' := #[.string t415, .int .i64 (wrap64 (1 + (Go.bits .and .i64 a1 15))), .slice A2 (l2.take ((ji5) : Int).toNat).length c2]) (by first | (rw [show (l2.take ((ji5) : Int).toNat).length = (ji5).toNat from (by rw [List.length_take]; have h_ : ((ji5) : Int) ≤ (l2.length : Int) := of_decide_eq_true (by first | (with_reducible assumption) | assumption); omega)] <;> rfl) | rfl | (simp only [List.length_drop, List.length_take]; rfl)) ?_; (with_reducible refine (rs_Decode.calls k t415 (wrap64 (1 + (Go.bits .and .i64 a1 15))) _ _ (l2.take ((ji5) : Int).toNat) t417 t418 t419 _ ?side1 ?side2 A8.out).mono ?_); (case side1 => repeat (first | exact HR416.out | (with_reducible refine Kd.C_alloc ?_ _) | (with_reducible refine Kd.C_drewN ?_ _) | (with_reducible refine Kd.C_drew ?_))); (case side2 => exact HC416.out); rintro e w11 ⟨rfl, hb⟩; have n0_ := Aside0.mk (below_step (by repeat (first | (with_reducible first | exact HB.out | apply below_alloc | apply pw_below_drewN | apply below_drew1) | exact HB.out)) hb); clear HB; have HB := n0_; clear n0_; (try clear hb); (try clear hb2); (try clear hk); (try clear hi))))
      (try simp only [Act.put, List.setIfInBounds_toArray, List.set_cons_zero, List.set_cons_succ])
      go_cut [45] (fun v45 wc => ∃ (kq : Nat) (x45_8 : Bool), v45 = .bool x45_8 ∧ Aside0 (tinderboxlaw28_RsAny.j0 kq t415 (wrap64 (1 + (Go.bits .and .i64 a1 15))) (l2.take ((ji5) : Int).toNat) t417 t418 t419 x45_8 = some r) ∧ Aside0 (kq ≤ k) ∧ Aside0 (Below w.heap.size w wc))
      case first =>
        have H := HC9.out
        clear HC9
        replace H := Option.bind_eq_some_iff.mp H
        obtain ⟨t420, A120, H⟩ := H
        replace H : (if t420 = true then (tinderboxlaw28_RsAny.j0 k t415 (wrap64 (1 + (Go.bits .and .i64 a1 15))) (l2.take ((ji5) : Int).toNat) t417 t418 t419 (decide ((t415.size : Int) ≤ (wrap64 (1 + (Go.bits .and .i64 a1 15)))))) else (tinderboxlaw28_RsAny.j0 k t415 (wrap64 (1 + (Go.bits .and .i64 a1 15))) (l2.take ((ji5) : Int).toNat) t417 t418 t419 true)) = some r := H
        have A12 := Aside0.mk A120
        clear A120
        by_cases c13 : t420 = true
        · subst c13
          have H1 : (tinderboxlaw28_RsAny.j0 k t415 (wrap64 (1 + (Go.bits .and .i64 a1 15))) (l2.take ((ji5) : Int).toNat) t417 t418 t419 (decide ((t415.size : Int) ≤ (wrap64 (1 + (Go.bits .and .i64 a1 15)))))) = some r := by rw [if_pos rfl] at H; exact H
          clear H
          have H := H1
          clear H1
          have H' := Aside0.mk H
          clear H
          go_wp2_with (first | (go_at_call 11; (with_reducible refine (tinderboxlaw28_awake.calls k  true _ A12.out).mono ?_); rintro e w14 ⟨rfl, hb⟩; have n0_ := Aside0.mk (below_step (by repeat (first | (with_reducible first | exact HB.out | apply below_alloc | apply pw_below_drewN | apply below_drew1) | exact HB.out)) hb); clear HB; have HB := n0_; clear n0_; (try clear hb); (try clear hb2); (try clear hk); (try clear hi)))
          repeat (go_quiet (first | (go_at_call 11; (with_reducible refine (tinderboxlaw28_awake.calls k  true _ A12.out).mono ?_); rintro e w14 ⟨rfl, hb⟩; have n0_ := Aside0.mk (below_step (by repeat (first | (with_reducible first | exact HB.out | apply below_alloc | apply pw_below_drewN | apply below_drew1) | exact HB.out)) hb); clear HB; have HB := n0_; clear n0_; (try clear hb); (try clear hb2); (try clear hk); (try clear hi))); try go_wp2_with (first | (go_at_call 11; (with_reducible refine (tinderboxlaw28_awake.calls k  true _ A12.out).mono ?_); rintro e w14 ⟨rfl, hb⟩; have n0_ := Aside0.mk (below_step (by repeat (first | (with_reducible first | exact HB.out | apply below_alloc | apply pw_below_drewN | apply below_drew1) | exact HB.out)) hb); clear HB; have HB := n0_; clear n0_; (try clear hb); (try clear hb2); (try clear hk); (try clear hi))))
          go_meet
          case rel => exact ⟨_, (decide ((t415.size : Int) ≤ (wrap64 (1 + (Go.bits .and .i64 a1 15))))), (by first | rfl | (simp; done) | (simp [*]; done)), H', ⟨by first | omega | exact Nat.le_refl _⟩, ⟨by repeat (first | (with_reducible first | exact HB.out | apply below_alloc | apply pw_below_drewN | apply below_drew1) | exact HB.out)⟩⟩
        · replace c13 := Bool.eq_false_iff.mpr c13
          subst c13
          have H1 : (tinderboxlaw28_RsAny.j0 k t415 (wrap64 (1 + (Go.bits .and .i64 a1 15))) (l2.take ((ji5) : Int).toNat) t417 t418 t419 true) = some r := by rw [if_neg (show ¬ (false = true) by decide)] at H; exact H
          clear H
          have H := H1
          clear H1
          have H' := Aside0.mk H
          clear H
          go_wp2_with (first | (go_at_call 11; (with_reducible refine (tinderboxlaw28_awake.calls k  false _ A12.out).mono ?_); rintro e w15 ⟨rfl, hb⟩; have n0_ := Aside0.mk (below_step (by repeat (first | (with_reducible first | exact HB.out | apply below_alloc | apply pw_below_drewN | apply below_drew1) | exact HB.out)) hb); clear HB; have HB := n0_; clear n0_; (try clear hb); (try clear hb2); (try clear hk); (try clear hi)))
          repeat (go_quiet (first | (go_at_call 11; (with_reducible refine (tinderboxlaw28_awake.calls k  false _ A12.out).mono ?_); rintro e w15 ⟨rfl, hb⟩; have n0_ := Aside0.mk (below_step (by repeat (first | (with_reducible first | exact HB.out | apply below_alloc | apply pw_below_drewN | apply below_drew1) | exact HB.out)) hb); clear HB; have HB := n0_; clear n0_; (try clear hb); (try clear hb2); (try clear hk); (try clear hi))); try go_wp2_with (first | (go_at_call 11; (with_reducible refine (tinderboxlaw28_awake.calls k  false _ A12.out).mono ?_); rintro e w15 ⟨rfl, hb⟩; have n0_ := Aside0.mk (below_step (by repeat (first | (with_reducible first | exact HB.out | apply below_alloc | apply pw_below_drewN | apply below_drew1) | exact HB.out)) hb); clear HB; have HB := n0_; clear n0_; (try clear hb); (try clear hb2); (try clear hk); (try clear hi))))
          go_meet
          case rel => exact ⟨_, (true), (by first | rfl | (simp; done) | (simp [*]; done)), H', ⟨by first | omega | exact Nat.le_refl _⟩, ⟨by repeat (first | (with_reducible first | exact HB.out | apply below_alloc | apply pw_below_drewN | apply below_drew1) | exact HB.out)⟩⟩
      case rest =>
        clear HC9
        try clear c1
        try clear c2
        try clear p2
        try clear c6
        try clear c6b0
        try clear c6b1
        try clear p6
        try clear c7
        try clear c7b0
        try clear c7b1
        try clear c13
        obtain ⟨kq, x45_8, rfl, HA, HJ8, HB⟩ := hcut
        cases kq with
        | zero => exact absurd HA.out (by simp [tinderboxlaw28_RsAny.j0])
        | succ kj8 =>
          have H := HA.out
          clear HA
          simp only [tinderboxlaw28_RsAny.j0] at H
          by_cases c16 : x45_8 = true
          · subst c16
            have H1 : ((tinderboxlaw28_awake.f kj8).bind fun t421 => (if t421 = true then (if t419 = 1 then (some (t417.toList == ([] : List UInt8))) else (some false)) else (some false))) = some r := by rw [if_pos rfl] at H; exact H
            clear H
            have H := H1
            clear H1
            replace H := Option.bind_eq_some_iff.mp H
            obtain ⟨t421, A170, H⟩ := H
            replace H : (if t421 = true then (if t419 = 1 then (some (t417.toList == ([] : List UInt8))) else (some false)) else (some false)) = some r := H
            have A17 := Aside0.mk A170
            clear A170
            by_cases c18 : t421 = true
            · subst c18
              have H1 : (if t419 = 1 then (some (t417.toList == ([] : List UInt8))) else (some false)) = some r := by rw [if_pos rfl] at H; exact H
              clear H
              have H := H1
              clear H1
              by_cases c19 : t419 = 1
              · rw [if_pos c19] at H
                have c19b0 : (t419 == 1) = true := beq_iff_eq.mpr c19
                have c19b1 : (t419 != 1) = false := bne_eq_false_iff_eq.mpr c19
                clear c19
                obtain rfl := Option.some.inj H
                go_wp2_with (first | (go_at_call 11; (with_reducible refine (tinderboxlaw28_awake.calls kj8  true _ A17.out).mono ?_); rintro e w20 ⟨rfl, hb⟩; have n0_ := Aside0.mk (below_step (by repeat (first | (with_reducible first | exact HB.out | apply below_alloc | apply pw_below_drewN | apply below_drew1) | exact HB.out)) hb); clear HB; have HB := n0_; clear n0_; (try clear hb); (try clear hb2); (try clear hk); (try clear hi)))
                repeat (go_quiet (first | (go_at_call 11; (with_reducible refine (tinderboxlaw28_awake.calls kj8  true _ A17.out).mono ?_); rintro e w20 ⟨rfl, hb⟩; have n0_ := Aside0.mk (below_step (by repeat (first | (with_reducible first | exact HB.out | apply below_alloc | apply pw_below_drewN | apply below_drew1) | exact HB.out)) hb); clear HB; have HB := n0_; clear n0_; (try clear hb); (try clear hb2); (try clear hk); (try clear hi))); try go_wp2_with (first | (go_at_call 11; (with_reducible refine (tinderboxlaw28_awake.calls kj8  true _ A17.out).mono ?_); rintro e w20 ⟨rfl, hb⟩; have n0_ := Aside0.mk (below_step (by repeat (first | (with_reducible first | exact HB.out | apply below_alloc | apply pw_below_drewN | apply below_drew1) | exact HB.out)) hb); clear HB; have HB := n0_; clear n0_; (try clear hb); (try clear hb2); (try clear hk); (try clear hi))))
                go_ret
                exact ⟨by first | rfl | (simp [errW_none, errW_some] <;> rfl) | (simp only [← hji5]; first | rfl | (simp [errW_none, errW_some] <;> rfl)) | (simp [*, errW_none, errW_some] <;> rfl), by repeat (first | (with_reducible first | exact HB.out | apply below_alloc | apply pw_below_drewN | apply below_drew1) | exact HB.out)⟩
              · rw [if_neg c19] at H
                have c19b0 : (t419 == 1) = false := beq_eq_false_iff_ne.mpr c19
                have c19b1 : (t419 != 1) = true := bne_iff_ne.mpr c19
                obtain rfl := Option.some.inj H
                go_wp2_with (first | (go_at_call 11; (with_reducible refine (tinderboxlaw28_awake.calls kj8  true _ A17.out).mono ?_); rintro e w21 ⟨rfl, hb⟩; have n0_ := Aside0.mk (below_step (by repeat (first | (with_reducible first | exact HB.out | apply below_alloc | apply pw_below_drewN | apply below_drew1) | exact HB.out)) hb); clear HB; have HB := n0_; clear n0_; (try clear hb); (try clear hb2); (try clear hk); (try clear hi)))
                repeat (go_quiet (first | (go_at_call 11; (with_reducible refine (tinderboxlaw28_awake.calls kj8  true _ A17.out).mono ?_); rintro e w21 ⟨rfl, hb⟩; have n0_ := Aside0.mk (below_step (by repeat (first | (with_reducible first | exact HB.out | apply below_alloc | apply pw_below_drewN | apply below_drew1) | exact HB.out)) hb); clear HB; have HB := n0_; clear n0_; (try clear hb); (try clear hb2); (try clear hk); (try clear hi))); try go_wp2_with (first | (go_at_call 11; (with_reducible refine (tinderboxlaw28_awake.calls kj8  true _ A17.out).mono ?_); rintro e w21 ⟨rfl, hb⟩; have n0_ := Aside0.mk (below_step (by repeat (first | (with_reducible first | exact HB.out | apply below_alloc | apply pw_below_drewN | apply below_drew1) | exact HB.out)) hb); clear HB; have HB := n0_; clear n0_; (try clear hb); (try clear hb2); (try clear hk); (try clear hi))))
                go_ret
                exact ⟨by first | rfl | (simp [errW_none, errW_some] <;> rfl) | (simp only [← hji5]; first | rfl | (simp [errW_none, errW_some] <;> rfl)) | (simp [*, errW_none, errW_some] <;> rfl), by repeat (first | (with_reducible first | exact HB.out | apply below_alloc | apply pw_below_drewN | apply below_drew1) | exact HB.out)⟩
            · replace c18 := Bool.eq_false_iff.mpr c18
              subst c18
              have H1 : (some false) = some r := by rw [if_neg (show ¬ (false = true) by decide)] at H; exact H
              clear H
              have H := H1
              clear H1
              obtain rfl := Option.some.inj H
              go_wp2_with (first | (go_at_call 11; (with_reducible refine (tinderboxlaw28_awake.calls kj8  false _ A17.out).mono ?_); rintro e w22 ⟨rfl, hb⟩; have n0_ := Aside0.mk (below_step (by repeat (first | (with_reducible first | exact HB.out | apply below_alloc | apply pw_below_drewN | apply below_drew1) | exact HB.out)) hb); clear HB; have HB := n0_; clear n0_; (try clear hb); (try clear hb2); (try clear hk); (try clear hi)))
              repeat (go_quiet (first | (go_at_call 11; (with_reducible refine (tinderboxlaw28_awake.calls kj8  false _ A17.out).mono ?_); rintro e w22 ⟨rfl, hb⟩; have n0_ := Aside0.mk (below_step (by repeat (first | (with_reducible first | exact HB.out | apply below_alloc | apply pw_below_drewN | apply below_drew1) | exact HB.out)) hb); clear HB; have HB := n0_; clear n0_; (try clear hb); (try clear hb2); (try clear hk); (try clear hi))); try go_wp2_with (first | (go_at_call 11; (with_reducible refine (tinderboxlaw28_awake.calls kj8  false _ A17.out).mono ?_); rintro e w22 ⟨rfl, hb⟩; have n0_ := Aside0.mk (below_step (by repeat (first | (with_reducible first | exact HB.out | apply below_alloc | apply pw_below_drewN | apply below_drew1) | exact HB.out)) hb); clear HB; have HB := n0_; clear n0_; (try clear hb); (try clear hb2); (try clear hk); (try clear hi))))
              go_ret
              exact ⟨by first | rfl | (simp [errW_none, errW_some] <;> rfl) | (simp only [← hji5]; first | rfl | (simp [errW_none, errW_some] <;> rfl)) | (simp [*, errW_none, errW_some] <;> rfl), by repeat (first | (with_reducible first | exact HB.out | apply below_alloc | apply pw_below_drewN | apply below_drew1) | exact HB.out)⟩
          · replace c16 := Bool.eq_false_iff.mpr c16
            subst c16
            have H1 : (if 0 ≤ (t415.size : Int) then (if ((t415.size : Int) : Int).toNat ≤ 281474976710656 then (tinderboxlaw28_RsAny.l0 kj8 t415 (wrap64 (1 + (Go.bits .and .i64 a1 15))) (l2.take ((ji5) : Int).toNat) t417 t418 t419 (List.replicate ((t415.size : Int) : Int).toNat false) false 0 0) else (none)) else (none)) = some r := by rw [if_neg (show ¬ (false = true) by decide)] at H; exact H
            clear H
            have H := H1
            clear H1
            by_cases c23 : 0 ≤ (t415.size : Int)
            · rw [if_pos c23] at H
              have c23b0 := eq_true c23
              have c23b1 : decide (0 ≤ (t415.size : Int)) = true := decide_eq_true c23
              clear c23
              by_cases c24 : ((t415.size : Int) : Int).toNat ≤ 281474976710656
              · rw [if_pos c24] at H
                have c24b0 := eq_true c24
                have c24b1 : decide (((t415.size : Int) : Int).toNat ≤ 281474976710656) = true := decide_eq_true c24
                clear c24
                obtain ⟨y422, hy422⟩ : ∃ y_ : List Bool, y_ = (List.replicate ((t415.size : Int) : Int).toNat false) := ⟨_, rfl⟩
                replace H : (tinderboxlaw28_RsAny.l0 kj8 t415 (wrap64 (1 + (Go.bits .and .i64 a1 15))) (l2.take ((ji5) : Int).toNat) t417 t418 t419 y422 false 0 0) = some r := by first | (rw [hy422]; with_reducible exact H) | (have H2_ := (Option.bind_some _ _).symm.trans H; rw [hy422]; with_reducible exact H2_) | (have H2_ := (Option.bind_some _ _).symm.trans H; with_reducible exact H2_) | with_reducible exact H | (rw [hy422]; exact H) | exact H
                have Ny422 := Aside0.mk hy422
                clear hy422
                have H' := Aside0.mk H
                clear H
                go_wp2_with (first | ((with_reducible refine gate_dst (N := 57) rfl ?_); refine Kd.R_make Kd.bool _ 4 rfl (N := 57) rfl 34 _ _ rfl (t415.size : Int) rfl rfl Try.underlying34 (.bool false) 1 info4 rfl (by decide) (by omega) false (ok := fun _ => True) (okp := fun _ => True) rfl (fun _ hk => hk) trivial (of_decide_eq_true (by first | (with_reducible assumption) | assumption)) (Nat.le_trans (Nat.mul_le_mul_right _ (of_decide_eq_true (by first | (with_reducible assumption) | assumption) : (t415.size : Int).toNat ≤ 281474976710656)) (by omega)) (Below.refl _ _) (Nat.le_refl _) ?_; intro v423 w25 ho26 hb hg_ hnew_; clear hg_ hnew_; (first | rw [← Ny422.out] at ho26 | (simp only [Int.reduceToNat] at ho26; rw [← Ny422.out] at ho26)); have n0_ := Aside0.mk (Kd.R_lower ho26 (below_size (by repeat (first | (with_reducible first | exact HB.out | apply below_alloc | apply pw_below_drewN | apply below_drew1) | exact HB.out)))); have n1_ := Aside0.mk (below_step (by repeat (first | (with_reducible first | exact HB.out | apply below_alloc | apply pw_below_drewN | apply below_drew1) | exact HB.out)) hb); clear HB; have HO424 := n0_; have HB := n1_; clear n0_ n1_; clear hb ho26))
                repeat (go_quiet (first | ((with_reducible refine gate_dst (N := 57) rfl ?_); refine Kd.R_make Kd.bool _ 4 rfl (N := 57) rfl 34 _ _ rfl (t415.size : Int) rfl rfl Try.underlying34 (.bool false) 1 info4 rfl (by decide) (by omega) false (ok := fun _ => True) (okp := fun _ => True) rfl (fun _ hk => hk) trivial (of_decide_eq_true (by first | (with_reducible assumption) | assumption)) (Nat.le_trans (Nat.mul_le_mul_right _ (of_decide_eq_true (by first | (with_reducible assumption) | assumption) : (t415.size : Int).toNat ≤ 281474976710656)) (by omega)) (Below.refl _ _) (Nat.le_refl _) ?_; intro v423 w25 ho26 hb hg_ hnew_; clear hg_ hnew_; (first | rw [← Ny422.out] at ho26 | (simp only [Int.reduceToNat] at ho26; rw [← Ny422.out] at ho26)); have n0_ := Aside0.mk (Kd.R_lower ho26 (below_size (by repeat (first | (with_reducible first | exact HB.out | apply below_alloc | apply pw_below_drewN | apply below_drew1) | exact HB.out)))); have n1_ := Aside0.mk (below_step (by repeat (first | (with_reducible first | exact HB.out | apply below_alloc | apply pw_below_drewN | apply below_drew1) | exact HB.out)) hb); clear HB; have HO424 := n0_; have HB := n1_; clear n0_ n1_; clear hb ho26)); try go_wp2_with (first | ((with_reducible refine gate_dst (N := 57) rfl ?_); refine Kd.R_make Kd.bool _ 4 rfl (N := 57) rfl 34 _ _ rfl (t415.size : Int) rfl rfl Try.underlying34 (.bool false) 1 info4 rfl (by decide) (by omega) false (ok := fun _ => True) (okp := fun _ => True) rfl (fun _ hk => hk) trivial (of_decide_eq_true (by first | (with_reducible assumption) | assumption)) (Nat.le_trans (Nat.mul_le_mul_right _ (of_decide_eq_true (by first | (with_reducible assumption) | assumption) : (t415.size : Int).toNat ≤ 281474976710656)) (by omega)) (Below.refl _ _) (Nat.le_refl _) ?_; intro v423 w25 ho26 hb hg_ hnew_; clear hg_ hnew_; (first | rw [← Ny422.out] at ho26 | (simp only [Int.reduceToNat] at ho26; rw [← Ny422.out] at ho26)); have n0_ := Aside0.mk (Kd.R_lower ho26 (below_size (by repeat (first | (with_reducible first | exact HB.out | apply below_alloc | apply pw_below_drewN | apply below_drew1) | exact HB.out)))); have n1_ := Aside0.mk (below_step (by repeat (first | (with_reducible first | exact HB.out | apply below_alloc | apply pw_below_drewN | apply below_drew1) | exact HB.out)) hb); clear HB; have HO424 := n0_; have HB := n1_; clear n0_ n1_; clear hb ho26)))
                go_loopg [14, 15, 16] kj8 (fun kq v14 v15 v16 w' => ∃ (x13_2 : List Bool) (x14_2 : Bool) (x15_2 : Int) (x16_2 : Int), v14 = .bool x14_2 ∧ v15 = .int .i64 x15_2 ∧ v16 = .int .i64 x16_2 ∧ Aside0 (tinderboxlaw28_RsAny.l0 kq t415 (wrap64 (1 + (Go.bits .and .i64 a1 15))) (l2.take ((ji5) : Int).toNat) t417 t418 t419 x13_2 x14_2 x15_2 x16_2 = some r) ∧ Aside0 (kq ≤ kj8) ∧ Aside0 (Kd.R Kd.bool 4 w' w.heap.size (fun _ => True) v423 x13_2) ∧ Aside0 (Below w.heap.size w w'))
                case atStart => exact ⟨(y422), (false), (0), (0), (by first | rfl | (simp; done) | (simp [*]; done)), (by first | rfl | (simp; done) | (simp [*]; done)), (by first | rfl | (simp; done) | (simp [*]; done)), H', ⟨Nat.le_refl _⟩, ⟨by (with_reducible repeat (first | apply Kd.R_alloc | apply Kd.R_drewN | apply Kd.R_drew)); exact HO424.out⟩, ⟨by repeat (first | (with_reducible first | exact HB.out | apply below_alloc | apply pw_below_drewN | apply below_drew1) | exact HB.out)⟩⟩
                case round =>
                  clear H'
                  try clear c1
                  try clear c2
                  try clear p2
                  try clear c6
                  try clear c6b0
                  try clear c6b1
                  try clear p6
                  try clear c7
                  try clear c7b0
                  try clear c7b1
                  try clear c13
                  try clear c16
                  try clear c18
                  try clear c19
                  try clear c19b0
                  try clear c19b1
                  try clear c23
                  try clear c23b0
                  try clear c23b1
                  try clear c24
                  try clear c24b0
                  try clear c24b1
                  try clear p2
                  try clear p6
                  obtain ⟨x13_2, x14_2, x15_2, x16_2, rfl, rfl, rfl, HA, HK2, HO_13, HB⟩ := hrel
                  cases gk with
                  | zero => exact absurd HA.out (by simp [tinderboxlaw28_RsAny.l0])
                  | succ k2 =>
                    have H := HA.out
                    clear HA
                    simp only [tinderboxlaw28_RsAny.l0] at H
                    by_cases c27 : x16_2 < ((l2.take ((ji5) : Int).toNat).length : Int)
                    · rw [if_pos c27] at H
                      have c27b0 : decide (x16_2 < ((l2.take ((ji5) : Int).toNat).length : Int)) = true := decide_eq_true c27
                      (try (have c27b0k := c27b0; rw [HK416.out] at c27b0k))
                      clear c27
                      have HC28 := Aside0.mk H
                      clear H
                      go_upto_region 11 with (fail)
                      repeat (go_quiet (fail); go_upto_region 11 with (fail))
                      go_cut [77] (fun v77 wc => ∃ (kq : Nat) (x77_27 : Bool), v77 = .bool x77_27 ∧ Aside0 (tinderboxlaw28_RsAny.j2 kq t415 (wrap64 (1 + (Go.bits .and .i64 a1 15))) (l2.take ((ji5) : Int).toNat) t417 t418 t419 x13_2 x14_2 x15_2 x16_2 x77_27 = some r) ∧ Aside0 (kq ≤ k2) ∧ Aside0 (Kd.R Kd.bool 4 wc w.heap.size (fun _ => True) v423 x13_2) ∧ Aside0 (Below w.heap.size w wc))
                      case first =>
                        have H := HC28.out
                        clear HC28
                        by_cases c29 : 0 ≤ x16_2
                        · rw [if_pos c29] at H
                          have c29b0 : decide (0 ≤ x16_2) = true := decide_eq_true c29
                          clear c29
                          (first | rw [c29b0] | (simp only [i64_w, i32_w]; rw [c29b0]) | skip)
                          by_cases c30 : (rd (l2.take ((ji5) : Int).toNat) x16_2) < 0
                          · rw [if_pos c30] at H
                            have c30b0 : decide ((rd (l2.take ((ji5) : Int).toNat) x16_2) < 0) = true := decide_eq_true c30
                            clear c30
                            have H' := Aside0.mk H
                            clear H
                            have p425 : 0 ≤ (x16_2 : Int) := of_decide_eq_true (by first | (with_reducible assumption) | assumption)
                            have q425 : x16_2 < ((l2.take ((ji5) : Int).toNat).length : Int) := of_decide_eq_true (by first | (with_reducible assumption) | assumption)
                            obtain ⟨ad425, e425, hx425_0⟩ := Kd.at_int HR416.out x16_2 p425 q425
                            cases e425
                            replace hx425_0 := (HB.out.cell (World.block_lt_of_cell? w _ hx425_0)).trans hx425_0
                            replace p425 := eq_true p425
                            replace q425 := eq_true q425
                            (try (have qk425 := q425; rw [HK416.out] at qk425))
                            go_wp2
                            repeat (go_quiet (fail); try go_wp2)
                            go_meet
                            case rel => exact ⟨_, (true), (by first | rfl | (simp; done) | (simp [*]; done)), H', ⟨by have := HJ8.out; have := HK2.out; first | omega | exact Nat.le_refl _⟩, ⟨by (with_reducible repeat (first | apply Kd.R_alloc | apply Kd.R_drewN | apply Kd.R_drew)); exact HO_13.out⟩, ⟨by repeat (first | (with_reducible first | exact HB.out | apply below_alloc | apply pw_below_drewN | apply below_drew1) | exact HB.out)⟩⟩
                          · rw [if_neg c30] at H
                            have c30b0 : decide ((rd (l2.take ((ji5) : Int).toNat) x16_2) < 0) = false := decide_eq_false c30
                            clear c30
                            have H' := Aside0.mk H
                            clear H
                            have p425 : 0 ≤ (x16_2 : Int) := of_decide_eq_true (by first | (with_reducible assumption) | assumption)
                            have q425 : x16_2 < ((l2.take ((ji5) : Int).toNat).length : Int) := of_decide_eq_true (by first | (with_reducible assumption) | assumption)
                            obtain ⟨ad425, e425, hx425_0⟩ := Kd.at_int HR416.out x16_2 p425 q425
                            cases e425
                            replace hx425_0 := (HB.out.cell (World.block_lt_of_cell? w _ hx425_0)).trans hx425_0
                            replace p425 := eq_true p425
                            replace q425 := eq_true q425
                            (try (have qk425 := q425; rw [HK416.out] at qk425))
                            have p426 : 0 ≤ (x16_2 : Int) := of_decide_eq_true (by first | (with_reducible assumption) | assumption)
                            have q426 : x16_2 < ((l2.take ((ji5) : Int).toNat).length : Int) := of_decide_eq_true (by first | (with_reducible assumption) | assumption)
                            obtain ⟨ad426, e426, hx426_0⟩ := Kd.at_int HR416.out x16_2 p426 q426
                            obtain rfl : ad425 = ad426 := (by injection e426)
                            replace hx426_0 := (HB.out.cell (World.block_lt_of_cell? w _ hx426_0)).trans hx426_0
                            replace p426 := eq_true p426
                            replace q426 := eq_true q426
                            (try (have qk426 := q426; rw [HK416.out] at qk426))
                            go_wp2
                            repeat (go_quiet (fail); try go_wp2)
                            go_meet
                            case rel => exact ⟨_, (decide ((rd (l2.take ((ji5) : Int).toNat) x16_2) ≥ (t415.size : Int))), (by first | rfl | (simp; done) | (simp only [← hji5] <;> (first | rfl | simp)) | (simp [*]; done)), H', ⟨by have := HJ8.out; have := HK2.out; first | omega | exact Nat.le_refl _⟩, ⟨by (with_reducible repeat (first | apply Kd.R_alloc | apply Kd.R_drewN | apply Kd.R_drew)); exact HO_13.out⟩, ⟨by repeat (first | (with_reducible first | exact HB.out | apply below_alloc | apply pw_below_drewN | apply below_drew1) | exact HB.out)⟩⟩
                        · rw [if_neg c29] at H
                          exact absurd H (by simp)
                      case rest =>
                        clear HC28
                        try clear c1
                        try clear c2
                        try clear p2
                        try clear c3
                        try clear p4
                        try clear q4
                        try clear hx4
                        try clear c6
                        try clear c6b0
                        try clear c6b1
                        try clear p6
                        try clear c7
                        try clear c7b0
                        try clear c7b1
                        try clear c13
                        try clear c16
                        try clear c18
                        try clear c19
                        try clear c19b0
                        try clear c19b1
                        try clear c23
                        try clear c23b0
                        try clear c23b1
                        try clear c24
                        try clear c24b0
                        try clear c24b1
                        try clear c27
                        try clear c27b0
                        try clear c29
                        try clear c29b0
                        try clear c30
                        try clear c30b0
                        try clear hx425_0
                        try clear hx426_0
                        try clear p2
                        try clear p425
                        try clear p426
                        try clear p6
                        try clear q425
                        try clear q426
                        obtain ⟨kq, x77_27, rfl, HA, HJ27, HO_13, HB⟩ := hcut
                        cases kq with
                        | zero => exact absurd HA.out (by simp [tinderboxlaw28_RsAny.j2])
                        | succ kj27 =>
                          have H := HA.out
                          clear HA
                          simp only [tinderboxlaw28_RsAny.j2] at H
                          by_cases c31 : x77_27 = true
                          · subst c31
                            have H1 : (tinderboxlaw28_RsAny.l0 kj27 t415 (wrap64 (1 + (Go.bits .and .i64 a1 15))) (l2.take ((ji5) : Int).toNat) t417 t418 t419 x13_2 true x15_2 (wrap64 (x16_2 + 1))) = some r := by rw [if_pos rfl] at H; exact H
                            clear H
                            have H := H1
                            clear H1
                            have H' := Aside0.mk H
                            clear H
                            go_wp2
                            repeat (go_quiet (fail); try go_wp2)
                            go_roundg kj27
                            case measure => have := HJ8.out; have := HK2.out; have := HJ27.out; omega
                            case rel => exact ⟨(x13_2), (true), (x15_2), (wrap64 (x16_2 + 1)), (by first | rfl | (simp; done) | (simp [*]; done)), (by first | rfl | (simp; done) | (simp [*]; done)), (by first | rfl | (simp; done) | (simp [*]; done)), H', ⟨by have := HJ8.out; have := HK2.out; have := HJ27.out; omega⟩, ⟨by (with_reducible repeat (first | apply Kd.R_alloc | apply Kd.R_drewN | apply Kd.R_drew)); exact HO_13.out⟩, ⟨by repeat (first | (with_reducible first | exact HB.out | apply below_alloc | apply pw_below_drewN | apply below_drew1) | exact HB.out)⟩⟩
                          · replace c31 := Bool.eq_false_iff.mpr c31
                            subst c31
                            have H1 : (if 0 ≤ x16_2 then (if x16_2 < ((l2.take ((ji5) : Int).toNat).length : Int) then (if 0 ≤ (rd (l2.take ((ji5) : Int).toNat) x16_2) then (if (rd (l2.take ((ji5) : Int).toNat) x16_2) < (x13_2.length : Int) then (if (rdOf false x13_2 (rd (l2.take ((ji5) : Int).toNat) x16_2) = true) then (tinderboxlaw28_RsAny.l0 kj27 t415 (wrap64 (1 + (Go.bits .and .i64 a1 15))) (l2.take ((ji5) : Int).toNat) t417 t418 t419 (x13_2.set ((rd (l2.take ((ji5) : Int).toNat) x16_2) : Int).toNat true) x14_2 x15_2 (wrap64 (x16_2 + 1))) else (tinderboxlaw28_RsAny.l0 kj27 t415 (wrap64 (1 + (Go.bits .and .i64 a1 15))) (l2.take ((ji5) : Int).toNat) t417 t418 t419 (x13_2.set ((rd (l2.take ((ji5) : Int).toNat) x16_2) : Int).toNat true) x14_2 (wrap64 (x15_2 + 1)) (wrap64 (x16_2 + 1)))) else (none)) else (none)) else (none)) else (none)) = some r := by rw [if_neg (show ¬ (false = true) by decide)] at H; exact H
                            clear H
                            have H := H1
                            clear H1
                            by_cases c32 : 0 ≤ x16_2
                            · rw [if_pos c32] at H
                              have c32b0 : decide (0 ≤ x16_2) = true := decide_eq_true c32
                              clear c32
                              by_cases c33 : x16_2 < ((l2.take ((ji5) : Int).toNat).length : Int)
                              · rw [if_pos c33] at H
                                have c33b0 : decide (x16_2 < ((l2.take ((ji5) : Int).toNat).length : Int)) = true := decide_eq_true c33
                                (try (have c33b0k := c33b0; rw [HK416.out] at c33b0k))
                                clear c33
                                by_cases c34 : 0 ≤ (rd (l2.take ((ji5) : Int).toNat) x16_2)
                                · rw [if_pos c34] at H
                                  have c34b0 : decide (0 ≤ (rd (l2.take ((ji5) : Int).toNat) x16_2)) = true := decide_eq_true c34
                                  clear c34
                                  by_cases c35 : (rd (l2.take ((ji5) : Int).toNat) x16_2) < (x13_2.length : Int)
                                  · rw [if_pos c35] at H
                                    have c35b0 : decide ((rd (l2.take ((ji5) : Int).toNat) x16_2) < (x13_2.length : Int)) = true := decide_eq_true c35
                                    clear c35
                                    obtain ⟨bq36, hbq36⟩ : ∃ b_ : Bool, b_ = (rdOf false x13_2 (rd (l2.take ((ji5) : Int).toNat) x16_2)) := ⟨_, rfl⟩
                                    replace H : (if (bq36 = true) then (tinderboxlaw28_RsAny.l0 kj27 t415 (wrap64 (1 + (Go.bits .and .i64 a1 15))) (l2.take ((ji5) : Int).toNat) t417 t418 t419 (x13_2.set ((rd (l2.take ((ji5) : Int).toNat) x16_2) : Int).toNat true) x14_2 x15_2 (wrap64 (x16_2 + 1))) else (tinderboxlaw28_RsAny.l0 kj27 t415 (wrap64 (1 + (Go.bits .and .i64 a1 15))) (l2.take ((ji5) : Int).toNat) t417 t418 t419 (x13_2.set ((rd (l2.take ((ji5) : Int).toNat) x16_2) : Int).toNat true) x14_2 (wrap64 (x15_2 + 1)) (wrap64 (x16_2 + 1)))) = some r := by rw [← hbq36] at H; exact H
                                    have Nbq36 := Aside0.mk hbq36
                                    clear hbq36
                                    by_cases c37 : (bq36 = true)
                                    · subst c37
                                      have H1 : (tinderboxlaw28_RsAny.l0 kj27 t415 (wrap64 (1 + (Go.bits .and .i64 a1 15))) (l2.take ((ji5) : Int).toNat) t417 t418 t419 (x13_2.set ((rd (l2.take ((ji5) : Int).toNat) x16_2) : Int).toNat true) x14_2 x15_2 (wrap64 (x16_2 + 1))) = some r := by rw [if_pos rfl] at H; exact H
                                      clear H
                                      have H := H1
                                      clear H1
                                      obtain ⟨y430, hy430⟩ : ∃ y_ : List Bool, y_ = (x13_2.set ((rd (l2.take ((ji5) : Int).toNat) x16_2) : Int).toNat true) := ⟨_, rfl⟩
                                      replace H : (tinderboxlaw28_RsAny.l0 kj27 t415 (wrap64 (1 + (Go.bits .and .i64 a1 15))) (l2.take ((ji5) : Int).toNat) t417 t418 t419 y430 x14_2 x15_2 (wrap64 (x16_2 + 1))) = some r := by first | (rw [hy430]; with_reducible exact H) | (have H2_ := (Option.bind_some _ _).symm.trans H; rw [hy430]; with_reducible exact H2_) | (have H2_ := (Option.bind_some _ _).symm.trans H; with_reducible exact H2_) | with_reducible exact H | (rw [hy430]; exact H) | exact H
                                      have Ny430 := Aside0.mk hy430
                                      clear hy430
                                      have H' := Aside0.mk H
                                      clear H
                                      have p427 : 0 ≤ (x16_2 : Int) := of_decide_eq_true (by first | (with_reducible assumption) | assumption)
                                      have q427 : x16_2 < ((l2.take ((ji5) : Int).toNat).length : Int) := of_decide_eq_true (by first | (with_reducible assumption) | assumption)
                                      obtain ⟨ad427, e427, hx427_0⟩ := Kd.at_int HR416.out x16_2 p427 q427
                                      cases e427
                                      replace hx427_0 := (HB.out.cell (World.block_lt_of_cell? w _ hx427_0)).trans hx427_0
                                      replace p427 := eq_true p427
                                      replace q427 := eq_true q427
                                      (try (have qk427 := q427; rw [HK416.out] at qk427))
                                      obtain ⟨Ao39, co39, eo39⟩ := Kd.R_slice HO_13.out
                                      subst eo39
                                      have p428 : 0 ≤ ((rd (l2.take ((ji5) : Int).toNat) x16_2) : Int) := of_decide_eq_true (by first | (with_reducible assumption) | assumption)
                                      have q428 : (rd (l2.take ((ji5) : Int).toNat) x16_2) < (x13_2.length : Int) := of_decide_eq_true (by first | (with_reducible assumption) | assumption)
                                      obtain ⟨ad428, e428, hx428_0⟩ := Kd.at_bool (Kd.R_reads' HO_13.out).2.2 (rd (l2.take ((ji5) : Int).toNat) x16_2) p428 q428
                                      (try rw [← Nbq36.out] at hx428_0)
                                      cases e428
                                      replace p428 := eq_true p428
                                      replace q428 := eq_true q428
                                      have p429 : 0 ≤ (x16_2 : Int) := of_decide_eq_true (by first | (with_reducible assumption) | assumption)
                                      have q429 : x16_2 < ((l2.take ((ji5) : Int).toNat).length : Int) := of_decide_eq_true (by first | (with_reducible assumption) | assumption)
                                      obtain ⟨ad429, e429, hx429_0⟩ := Kd.at_int HR416.out x16_2 p429 q429
                                      obtain rfl : ad427 = ad429 := (by injection e429)
                                      replace hx429_0 := (HB.out.cell (World.block_lt_of_cell? w _ hx429_0)).trans hx429_0
                                      replace p429 := eq_true p429
                                      replace q429 := eq_true q429
                                      (try (have qk429 := q429; rw [HK416.out] at qk429))
                                      have p38 : 0 ≤ ((rd (l2.take ((ji5) : Int).toNat) x16_2) : Int) := of_decide_eq_true (by first | (with_reducible assumption) | assumption)
                                      have q38 : ((rd (l2.take ((ji5) : Int).toNat) x16_2) : Int) < ((x13_2.length : Int) : Int) := of_decide_eq_true (by first | (with_reducible assumption) | assumption)
                                      obtain ⟨go38, co38, eo38, gb38, gl38, cl38, HG38⟩ := Kd.R_form HO_13.out (by omega)
                                      (first | cases eo38 | (injection eo38 with ea_ en_ ec_; (first | subst ea_ | (injection ea_ with ea_; subst ea_)); subst ec_; clear en_))
                                      have GB38 := Aside0.mk gb38
                                      have GG38 := Aside0.mk HG38
                                      clear gb38 gl38 HG38
                                      (first | simp only [add_plain] at hx428_0 | skip)
                                      obtain ⟨hx38_0, hf38_0⟩ := Kd.R_celln false HO_13.out ((rd (l2.take ((ji5) : Int).toNat) x16_2) : Int) p38 q38
                                      replace p38 := eq_true p38
                                      replace q38 := eq_true q38
                                      have HP40 := Kd.R_putg HO_13.out ((rd (l2.take ((ji5) : Int).toNat) x16_2) : Int) true
                                      go_wp2_with (first | ((with_reducible refine gate_store (t := 4) (p := 93) rfl ?_); (try (rw [drewN_self wc]; generalize hq_ : World.drewN wc _ = wc; have n0_ := Aside0.mk (Kd.R_at hq_ HO_13.out); have n1_ := Aside0.mk (below_at hq_ HB.out); clear hq_ HO_13 HB; have HO_13 := n0_; have HB := n1_; clear n0_ n1_; (try (have HP40 := Kd.R_putg HO_13.out ((rd (l2.take ((ji5) : Int).toNat) x16_2) : Int) true)))); refine store_event (t := 4) (p := 93) (v := ?vo_w41) (w1 := (wc.setCell ⟨go38, ((rd (l2.take ((ji5) : Int).toNat) x16_2) : Int).toNat, none⟩ (.bool true))) ?hg ?ho ?hn ?hr ?_; (case ho => rfl); (case hg => rfl); (case hn => rfl); (case hr => first | (go_simp; done) | (go_simp; rfl)); intro w41 hw; have hg : wc.grownBy w41 (some go38) := (by rw [hw]; exact HP40.2); have hp_ : Kd.R Kd.bool 4 w41 w.heap.size (fun _ => True) (.slice (some ⟨go38, 0, none⟩) x13_2.length co39) y430 := (by rw [hw, Ny430.out]; exact HP40.1); clear HP40; have n0_ := Aside0.mk (hp_); have n1_ := Aside0.mk ((by rw [hw]; exact below_set (HB.out) GB38.out : Below w.heap.size w w41)); clear HO_13; clear HB; have HO_13 := n0_; have HB := n1_; clear n0_ n1_; clear hg hw hp_))
                                      repeat (go_quiet (first | ((with_reducible refine gate_store (t := 4) (p := 93) rfl ?_); (try (rw [drewN_self wc]; generalize hq_ : World.drewN wc _ = wc; have n0_ := Aside0.mk (Kd.R_at hq_ HO_13.out); have n1_ := Aside0.mk (below_at hq_ HB.out); clear hq_ HO_13 HB; have HO_13 := n0_; have HB := n1_; clear n0_ n1_; (try (have HP40 := Kd.R_putg HO_13.out ((rd (l2.take ((ji5) : Int).toNat) x16_2) : Int) true)))); refine store_event (t := 4) (p := 93) (v := ?vo_w41) (w1 := (wc.setCell ⟨go38, ((rd (l2.take ((ji5) : Int).toNat) x16_2) : Int).toNat, none⟩ (.bool true))) ?hg ?ho ?hn ?hr ?_; (case ho => rfl); (case hg => rfl); (case hn => rfl); (case hr => first | (go_simp; done) | (go_simp; rfl)); intro w41 hw; have hg : wc.grownBy w41 (some go38) := (by rw [hw]; exact HP40.2); have hp_ : Kd.R Kd.bool 4 w41 w.heap.size (fun _ => True) (.slice (some ⟨go38, 0, none⟩) x13_2.length co39) y430 := (by rw [hw, Ny430.out]; exact HP40.1); clear HP40; have n0_ := Aside0.mk (hp_); have n1_ := Aside0.mk ((by rw [hw]; exact below_set (HB.out) GB38.out : Below w.heap.size w w41)); clear HO_13; clear HB; have HO_13 := n0_; have HB := n1_; clear n0_ n1_; clear hg hw hp_)); try go_wp2_with (first | ((with_reducible refine gate_store (t := 4) (p := 93) rfl ?_); (try (rw [drewN_self wc]; generalize hq_ : World.drewN wc _ = wc; have n0_ := Aside0.mk (Kd.R_at hq_ HO_13.out); have n1_ := Aside0.mk (below_at hq_ HB.out); clear hq_ HO_13 HB; have HO_13 := n0_; have HB := n1_; clear n0_ n1_; (try (have HP40 := Kd.R_putg HO_13.out ((rd (l2.take ((ji5) : Int).toNat) x16_2) : Int) true)))); refine store_event (t := 4) (p := 93) (v := ?vo_w41) (w1 := (wc.setCell ⟨go38, ((rd (l2.take ((ji5) : Int).toNat) x16_2) : Int).toNat, none⟩ (.bool true))) ?hg ?ho ?hn ?hr ?_; (case ho => rfl); (case hg => rfl); (case hn => rfl); (case hr => first | (go_simp; done) | (go_simp; rfl)); intro w41 hw; have hg : wc.grownBy w41 (some go38) := (by rw [hw]; exact HP40.2); have hp_ : Kd.R Kd.bool 4 w41 w.heap.size (fun _ => True) (.slice (some ⟨go38, 0, none⟩) x13_2.length co39) y430 := (by rw [hw, Ny430.out]; exact HP40.1); clear HP40; have n0_ := Aside0.mk (hp_); have n1_ := Aside0.mk ((by rw [hw]; exact below_set (HB.out) GB38.out : Below w.heap.size w w41)); clear HO_13; clear HB; have HO_13 := n0_; have HB := n1_; clear n0_ n1_; clear hg hw hp_)))
                                      go_roundg kj27
                                      case measure => have := HJ8.out; have := HK2.out; have := HJ27.out; omega
                                      case rel => exact ⟨(y430), (x14_2), (x15_2), (wrap64 (x16_2 + 1)), (by first | rfl | (simp; done) | (simp [*]; done)), (by first | rfl | (simp; done) | (simp [*]; done)), (by first | rfl | (simp; done) | (simp [*]; done)), H', ⟨by have := HJ8.out; have := HK2.out; have := HJ27.out; omega⟩, ⟨by (with_reducible repeat (first | apply Kd.R_alloc | apply Kd.R_drewN | apply Kd.R_drew)); exact HO_13.out⟩, ⟨by repeat (first | (with_reducible first | exact HB.out | apply below_alloc | apply pw_below_drewN | apply below_drew1) | exact HB.out)⟩⟩
                                    · replace c37 := Bool.eq_false_iff.mpr c37
                                      subst c37
                                      have H1 : (tinderboxlaw28_RsAny.l0 kj27 t415 (wrap64 (1 + (Go.bits .and .i64 a1 15))) (l2.take ((ji5) : Int).toNat) t417 t418 t419 (x13_2.set ((rd (l2.take ((ji5) : Int).toNat) x16_2) : Int).toNat true) x14_2 (wrap64 (x15_2 + 1)) (wrap64 (x16_2 + 1))) = some r := by rw [if_neg (show ¬ (false = true) by decide)] at H; exact H
                                      clear H
                                      have H := H1
                                      clear H1
                                      obtain ⟨y432, hy432⟩ : ∃ y_ : List Bool, y_ = (x13_2.set ((rd (l2.take ((ji5) : Int).toNat) x16_2) : Int).toNat true) := ⟨_, rfl⟩
                                      replace H : (tinderboxlaw28_RsAny.l0 kj27 t415 (wrap64 (1 + (Go.bits .and .i64 a1 15))) (l2.take ((ji5) : Int).toNat) t417 t418 t419 y432 x14_2 (wrap64 (x15_2 + 1)) (wrap64 (x16_2 + 1))) = some r := by first | (rw [hy432]; with_reducible exact H) | (have H2_ := (Option.bind_some _ _).symm.trans H; rw [hy432]; with_reducible exact H2_) | (have H2_ := (Option.bind_some _ _).symm.trans H; with_reducible exact H2_) | with_reducible exact H | (rw [hy432]; exact H) | exact H
                                      have Ny432 := Aside0.mk hy432
                                      clear hy432
                                      have H' := Aside0.mk H
                                      clear H
                                      have p427 : 0 ≤ (x16_2 : Int) := of_decide_eq_true (by first | (with_reducible assumption) | assumption)
                                      have q427 : x16_2 < ((l2.take ((ji5) : Int).toNat).length : Int) := of_decide_eq_true (by first | (with_reducible assumption) | assumption)
                                      obtain ⟨ad427, e427, hx427_0⟩ := Kd.at_int HR416.out x16_2 p427 q427
                                      cases e427
                                      replace hx427_0 := (HB.out.cell (World.block_lt_of_cell? w _ hx427_0)).trans hx427_0
                                      replace p427 := eq_true p427
                                      replace q427 := eq_true q427
                                      (try (have qk427 := q427; rw [HK416.out] at qk427))
                                      obtain ⟨Ao43, co43, eo43⟩ := Kd.R_slice HO_13.out
                                      subst eo43
                                      have p428 : 0 ≤ ((rd (l2.take ((ji5) : Int).toNat) x16_2) : Int) := of_decide_eq_true (by first | (with_reducible assumption) | assumption)
                                      have q428 : (rd (l2.take ((ji5) : Int).toNat) x16_2) < (x13_2.length : Int) := of_decide_eq_true (by first | (with_reducible assumption) | assumption)
                                      obtain ⟨ad428, e428, hx428_0⟩ := Kd.at_bool (Kd.R_reads' HO_13.out).2.2 (rd (l2.take ((ji5) : Int).toNat) x16_2) p428 q428
                                      (try rw [← Nbq36.out] at hx428_0)
                                      cases e428
                                      replace p428 := eq_true p428
                                      replace q428 := eq_true q428
                                      have p431 : 0 ≤ (x16_2 : Int) := of_decide_eq_true (by first | (with_reducible assumption) | assumption)
                                      have q431 : x16_2 < ((l2.take ((ji5) : Int).toNat).length : Int) := of_decide_eq_true (by first | (with_reducible assumption) | assumption)
                                      obtain ⟨ad431, e431, hx431_0⟩ := Kd.at_int HR416.out x16_2 p431 q431
                                      obtain rfl : ad427 = ad431 := (by injection e431)
                                      replace hx431_0 := (HB.out.cell (World.block_lt_of_cell? w _ hx431_0)).trans hx431_0
                                      replace p431 := eq_true p431
                                      replace q431 := eq_true q431
                                      (try (have qk431 := q431; rw [HK416.out] at qk431))
                                      have p42 : 0 ≤ ((rd (l2.take ((ji5) : Int).toNat) x16_2) : Int) := of_decide_eq_true (by first | (with_reducible assumption) | assumption)
                                      have q42 : ((rd (l2.take ((ji5) : Int).toNat) x16_2) : Int) < ((x13_2.length : Int) : Int) := of_decide_eq_true (by first | (with_reducible assumption) | assumption)
                                      obtain ⟨go42, co42, eo42, gb42, gl42, cl42, HG42⟩ := Kd.R_form HO_13.out (by omega)
                                      (first | cases eo42 | (injection eo42 with ea_ en_ ec_; (first | subst ea_ | (injection ea_ with ea_; subst ea_)); subst ec_; clear en_))
                                      have GB42 := Aside0.mk gb42
                                      have GG42 := Aside0.mk HG42
                                      clear gb42 gl42 HG42
                                      (first | simp only [add_plain] at hx428_0 | skip)
                                      obtain ⟨hx42_0, hf42_0⟩ := Kd.R_celln false HO_13.out ((rd (l2.take ((ji5) : Int).toNat) x16_2) : Int) p42 q42
                                      replace p42 := eq_true p42
                                      replace q42 := eq_true q42
                                      have HP44 := Kd.R_putg HO_13.out ((rd (l2.take ((ji5) : Int).toNat) x16_2) : Int) true
                                      go_wp2_with (first | ((with_reducible refine gate_store (t := 4) (p := 93) rfl ?_); (try (rw [drewN_self wc]; generalize hq_ : World.drewN wc _ = wc; have n0_ := Aside0.mk (Kd.R_at hq_ HO_13.out); have n1_ := Aside0.mk (below_at hq_ HB.out); clear hq_ HO_13 HB; have HO_13 := n0_; have HB := n1_; clear n0_ n1_; (try (have HP44 := Kd.R_putg HO_13.out ((rd (l2.take ((ji5) : Int).toNat) x16_2) : Int) true)))); refine store_event (t := 4) (p := 93) (v := ?vo_w45) (w1 := (wc.setCell ⟨go42, ((rd (l2.take ((ji5) : Int).toNat) x16_2) : Int).toNat, none⟩ (.bool true))) ?hg ?ho ?hn ?hr ?_; (case ho => rfl); (case hg => rfl); (case hn => rfl); (case hr => first | (go_simp; done) | (go_simp; rfl)); intro w45 hw; have hg : wc.grownBy w45 (some go42) := (by rw [hw]; exact HP44.2); have hp_ : Kd.R Kd.bool 4 w45 w.heap.size (fun _ => True) (.slice (some ⟨go42, 0, none⟩) x13_2.length co43) y432 := (by rw [hw, Ny432.out]; exact HP44.1); clear HP44; have n0_ := Aside0.mk (hp_); have n1_ := Aside0.mk ((by rw [hw]; exact below_set (HB.out) GB42.out : Below w.heap.size w w45)); clear HO_13; clear HB; have HO_13 := n0_; have HB := n1_; clear n0_ n1_; clear hg hw hp_))
                                      repeat (go_quiet (first | ((with_reducible refine gate_store (t := 4) (p := 93) rfl ?_); (try (rw [drewN_self wc]; generalize hq_ : World.drewN wc _ = wc; have n0_ := Aside0.mk (Kd.R_at hq_ HO_13.out); have n1_ := Aside0.mk (below_at hq_ HB.out); clear hq_ HO_13 HB; have HO_13 := n0_; have HB := n1_; clear n0_ n1_; (try (have HP44 := Kd.R_putg HO_13.out ((rd (l2.take ((ji5) : Int).toNat) x16_2) : Int) true)))); refine store_event (t := 4) (p := 93) (v := ?vo_w45) (w1 := (wc.setCell ⟨go42, ((rd (l2.take ((ji5) : Int).toNat) x16_2) : Int).toNat, none⟩ (.bool true))) ?hg ?ho ?hn ?hr ?_; (case ho => rfl); (case hg => rfl); (case hn => rfl); (case hr => first | (go_simp; done) | (go_simp; rfl)); intro w45 hw; have hg : wc.grownBy w45 (some go42) := (by rw [hw]; exact HP44.2); have hp_ : Kd.R Kd.bool 4 w45 w.heap.size (fun _ => True) (.slice (some ⟨go42, 0, none⟩) x13_2.length co43) y432 := (by rw [hw, Ny432.out]; exact HP44.1); clear HP44; have n0_ := Aside0.mk (hp_); have n1_ := Aside0.mk ((by rw [hw]; exact below_set (HB.out) GB42.out : Below w.heap.size w w45)); clear HO_13; clear HB; have HO_13 := n0_; have HB := n1_; clear n0_ n1_; clear hg hw hp_)); try go_wp2_with (first | ((with_reducible refine gate_store (t := 4) (p := 93) rfl ?_); (try (rw [drewN_self wc]; generalize hq_ : World.drewN wc _ = wc; have n0_ := Aside0.mk (Kd.R_at hq_ HO_13.out); have n1_ := Aside0.mk (below_at hq_ HB.out); clear hq_ HO_13 HB; have HO_13 := n0_; have HB := n1_; clear n0_ n1_; (try (have HP44 := Kd.R_putg HO_13.out ((rd (l2.take ((ji5) : Int).toNat) x16_2) : Int) true)))); refine store_event (t := 4) (p := 93) (v := ?vo_w45) (w1 := (wc.setCell ⟨go42, ((rd (l2.take ((ji5) : Int).toNat) x16_2) : Int).toNat, none⟩ (.bool true))) ?hg ?ho ?hn ?hr ?_; (case ho => rfl); (case hg => rfl); (case hn => rfl); (case hr => first | (go_simp; done) | (go_simp; rfl)); intro w45 hw; have hg : wc.grownBy w45 (some go42) := (by rw [hw]; exact HP44.2); have hp_ : Kd.R Kd.bool 4 w45 w.heap.size (fun _ => True) (.slice (some ⟨go42, 0, none⟩) x13_2.length co43) y432 := (by rw [hw, Ny432.out]; exact HP44.1); clear HP44; have n0_ := Aside0.mk (hp_); have n1_ := Aside0.mk ((by rw [hw]; exact below_set (HB.out) GB42.out : Below w.heap.size w w45)); clear HO_13; clear HB; have HO_13 := n0_; have HB := n1_; clear n0_ n1_; clear hg hw hp_)))
                                      go_roundg kj27
                                      case measure => have := HJ8.out; have := HK2.out; have := HJ27.out; omega
                                      case rel => exact ⟨(y432), (x14_2), (wrap64 (x15_2 + 1)), (wrap64 (x16_2 + 1)), (by first | rfl | (simp; done) | (simp [*]; done)), (by first | rfl | (simp; done) | (simp [*]; done)), (by first | rfl | (simp; done) | (simp [*]; done)), H', ⟨by have := HJ8.out; have := HK2.out; have := HJ27.out; omega⟩, ⟨by (with_reducible repeat (first | apply Kd.R_alloc | apply Kd.R_drewN | apply Kd.R_drew)); exact HO_13.out⟩, ⟨by repeat (first | (with_reducible first | exact HB.out | apply below_alloc | apply pw_below_drewN | apply below_drew1) | exact HB.out)⟩⟩
                                  · rw [if_neg c35] at H
                                    exact absurd H (by simp)
                                · rw [if_neg c34] at H
                                  exact absurd H (by simp)
                              · rw [if_neg c33] at H
                                exact absurd H (by simp)
                            · rw [if_neg c32] at H
                              exact absurd H (by simp)
                    · rw [if_neg c27] at H
                      have c27b0 : decide (x16_2 < ((l2.take ((ji5) : Int).toNat).length : Int)) = false := decide_eq_false c27
                      (try (have c27b0k := c27b0; rw [HK416.out] at c27b0k))
                      clear c27
                      have HC46 := Aside0.mk H
                      clear H
                      go_upto_region 16 with (fail)
                      repeat (go_quiet (fail); go_upto_region 16 with (fail))
                      go_cut [99] (fun v99 wc => ∃ (kq : Nat) (x99_45 : Bool), v99 = .bool x99_45 ∧ Aside0 (tinderboxlaw28_RsAny.j3 kq t415 (wrap64 (1 + (Go.bits .and .i64 a1 15))) t417 t418 t419 x13_2 x15_2 x99_45 = some r) ∧ Aside0 (kq ≤ k2) ∧ Aside0 (Kd.R Kd.bool 4 wc w.heap.size (fun _ => True) v423 x13_2) ∧ Aside0 (Below w.heap.size w wc))
                      case first =>
                        have H := HC46.out
                        clear HC46
                        by_cases c47 : x14_2 = true
                        · subst c47
                          have H1 : (tinderboxlaw28_RsAny.j3 k2 t415 (wrap64 (1 + (Go.bits .and .i64 a1 15))) t417 t418 t419 x13_2 x15_2 true) = some r := by rw [if_pos rfl] at H; exact H
                          clear H
                          have H := H1
                          clear H1
                          have H' := Aside0.mk H
                          clear H
                          go_wp2
                          repeat (go_quiet (fail); try go_wp2)
                          go_meet
                          case rel => exact ⟨_, (true), (by first | rfl | (simp; done) | (simp [*]; done)), H', ⟨by have := HJ8.out; have := HK2.out; first | omega | exact Nat.le_refl _⟩, ⟨by (with_reducible repeat (first | apply Kd.R_alloc | apply Kd.R_drewN | apply Kd.R_drew)); exact HO_13.out⟩, ⟨by repeat (first | (with_reducible first | exact HB.out | apply below_alloc | apply pw_below_drewN | apply below_drew1) | exact HB.out)⟩⟩
                        · replace c47 := Bool.eq_false_iff.mpr c47
                          subst c47
                          have H1 : (tinderboxlaw28_RsAny.j3 k2 t415 (wrap64 (1 + (Go.bits .and .i64 a1 15))) t417 t418 t419 x13_2 x15_2 (decide (x15_2 > (wrap64 (1 + (Go.bits .and .i64 a1 15)))))) = some r := by rw [if_neg (show ¬ (false = true) by decide)] at H; exact H
                          clear H
                          have H := H1
                          clear H1
                          have H' := Aside0.mk H
                          clear H
                          go_wp2
                          repeat (go_quiet (fail); try go_wp2)
                          go_meet
                          case rel => exact ⟨_, (decide (x15_2 > (wrap64 (1 + (Go.bits .and .i64 a1 15))))), (by first | rfl | (simp; done) | (simp [*]; done)), H', ⟨by have := HJ8.out; have := HK2.out; first | omega | exact Nat.le_refl _⟩, ⟨by (with_reducible repeat (first | apply Kd.R_alloc | apply Kd.R_drewN | apply Kd.R_drew)); exact HO_13.out⟩, ⟨by repeat (first | (with_reducible first | exact HB.out | apply below_alloc | apply pw_below_drewN | apply below_drew1) | exact HB.out)⟩⟩
                      case rest =>
                        clear HC46
                        try clear c1
                        try clear c2
                        try clear p2
                        try clear c3
                        try clear p3
                        try clear q3
                        try clear hx3
                        try clear hf3
                        try clear c4
                        try clear p4
                        try clear q4
                        try clear hx4
                        try clear hf4
                        try clear c6
                        try clear c6b0
                        try clear c6b1
                        try clear p6
                        try clear c7
                        try clear c7b0
                        try clear c7b1
                        try clear c13
                        try clear c16
                        try clear c18
                        try clear c19
                        try clear c19b0
                        try clear c19b1
                        try clear c23
                        try clear c23b0
                        try clear c23b1
                        try clear c24
                        try clear c24b0
                        try clear c24b1
                        try clear c27
                        try clear c27b0
                        try clear c29
                        try clear c29b0
                        try clear c30
                        try clear c30b0
                        try clear c31
                        try clear c32
                        try clear c32b0
                        try clear c33
                        try clear c33b0
                        try clear c34
                        try clear c34b0
                        try clear c35
                        try clear c35b0
                        try clear q36
                        try clear c37
                        try clear p38
                        try clear q38
                        try clear hx38
                        try clear hf38
                        try clear p42
                        try clear q42
                        try clear hx42
                        try clear hf42
                        try clear p43
                        try clear q43
                        try clear hx43
                        try clear c47
                        try clear hx38_0
                        try clear hx425_0
                        try clear hx426_0
                        try clear hx427_0
                        try clear hx428_0
                        try clear hx429_0
                        try clear hx42_0
                        try clear hx431_0
                        try clear p2
                        try clear p38
                        try clear p4
                        try clear p42
                        try clear p425
                        try clear p426
                        try clear p427
                        try clear p428
                        try clear p429
                        try clear p431
                        try clear p6
                        try clear q38
                        try clear q4
                        try clear q42
                        try clear q425
                        try clear q426
                        try clear q427
                        try clear q428
                        try clear q429
                        try clear q431
                        obtain ⟨kq, x99_45, rfl, HA, HJ45, HO_13, HB⟩ := hcut
                        cases kq with
                        | zero => exact absurd HA.out (by simp [tinderboxlaw28_RsAny.j3])
                        | succ kj45 =>
                          have H := HA.out
                          clear HA
                          simp only [tinderboxlaw28_RsAny.j3] at H
                          by_cases c48 : x99_45 = true
                          · subst c48
                            have H1 : (if t419 = 280 then (some (t417.toList == ([] : List UInt8))) else (some false)) = some r := by rw [if_pos rfl] at H; exact H
                            clear H
                            have H := H1
                            clear H1
                            by_cases c49 : t419 = 280
                            · rw [if_pos c49] at H
                              have c49b0 : (t419 == 280) = true := beq_iff_eq.mpr c49
                              have c49b1 : (t419 != 280) = false := bne_eq_false_iff_eq.mpr c49
                              clear c49
                              obtain rfl := Option.some.inj H
                              go_wp2
                              repeat (go_quiet (fail); try go_wp2)
                              go_ret
                              exact ⟨by first | rfl | (simp [errW_none, errW_some] <;> rfl) | (simp only [← hji5]; first | rfl | (simp [errW_none, errW_some] <;> rfl)) | (simp [*, errW_none, errW_some] <;> rfl), by repeat (first | (with_reducible first | exact HB.out | apply below_alloc | apply pw_below_drewN | apply below_drew1) | exact HB.out)⟩
                            · rw [if_neg c49] at H
                              have c49b0 : (t419 == 280) = false := beq_eq_false_iff_ne.mpr c49
                              have c49b1 : (t419 != 280) = true := bne_iff_ne.mpr c49
                              obtain rfl := Option.some.inj H
                              go_wp2
                              repeat (go_quiet (fail); try go_wp2)
                              go_ret
                              exact ⟨by first | rfl | (simp [errW_none, errW_some] <;> rfl) | (simp only [← hji5]; first | rfl | (simp [errW_none, errW_some] <;> rfl)) | (simp [*, errW_none, errW_some] <;> rfl), by repeat (first | (with_reducible first | exact HB.out | apply below_alloc | apply pw_below_drewN | apply below_drew1) | exact HB.out)⟩
                          · replace c48 := Bool.eq_false_iff.mpr c48
                            subst c48
                            have H1 : (if t419 = 0 then (tinderboxlaw28_RsAny.l1 kj45 t415 (wrap64 (1 + (Go.bits .and .i64 a1 15))) t417 t418 x13_2 x15_2 0 0 0) else (if t419 = 280 then (if t417.toList = ([] : List UInt8) then (if t418 = 0 then ((tinderboxlaw28_right.f kj45 t415 (wrap64 (1 + (Go.bits .and .i64 a1 15)))).bind fun t433 => (some (!t433))) else (some false)) else (some false)) else (some false))) = some r := by rw [if_neg (show ¬ (false = true) by decide)] at H; exact H
                            clear H
                            have H := H1
                            clear H1
                            by_cases c50 : t419 = 0
                            · rw [if_pos c50] at H
                              have c50b0 : (t419 == 0) = true := beq_iff_eq.mpr c50
                              have c50b1 : (t419 != 0) = false := bne_eq_false_iff_eq.mpr c50
                              clear c50
                              have H' := Aside0.mk H
                              clear H
                              go_wp2
                              repeat (go_quiet (fail); try go_wp2)
                              go_loopg [17, 18, 19] kj45 (fun kq v17 v18 v19 w' => ∃ (x17_4 : Int) (x18_4 : Int) (x19_4 : Int), v17 = .int .i64 x17_4 ∧ v18 = .int .i64 x18_4 ∧ v19 = .int .i64 x19_4 ∧ Aside0 (tinderboxlaw28_RsAny.l1 kq t415 (wrap64 (1 + (Go.bits .and .i64 a1 15))) t417 t418 x13_2 x15_2 x17_4 x18_4 x19_4 = some r) ∧ Aside0 (kq ≤ kj45) ∧ Aside0 (Kd.R Kd.bool 4 w' w.heap.size (fun _ => True) v423 x13_2) ∧ Aside0 (Below w.heap.size w w'))
                              case atStart => exact ⟨(0), (0), (0), (by first | rfl | (simp; done) | (simp [*]; done)), (by first | rfl | (simp; done) | (simp [*]; done)), (by first | rfl | (simp; done) | (simp [*]; done)), H', ⟨Nat.le_refl _⟩, ⟨by (with_reducible repeat (first | apply Kd.R_alloc | apply Kd.R_drewN | apply Kd.R_drew)); exact HO_13.out⟩, ⟨by repeat (first | (with_reducible first | exact HB.out | apply below_alloc | apply pw_below_drewN | apply below_drew1) | exact HB.out)⟩⟩
                              case round =>
                                clear H'
                                try clear c1
                                try clear c2
                                try clear p2
                                try clear c3
                                try clear p3
                                try clear q3
                                try clear hx3
                                try clear hf3
                                try clear c4
                                try clear p4
                                try clear q4
                                try clear hx4
                                try clear hf4
                                try clear c5
                                try clear c6
                                try clear c6b0
                                try clear c6b1
                                try clear p6
                                try clear c7
                                try clear c7b0
                                try clear c7b1
                                try clear c13
                                try clear c16
                                try clear c18
                                try clear c19
                                try clear c19b0
                                try clear c19b1
                                try clear c23
                                try clear c23b0
                                try clear c23b1
                                try clear c24
                                try clear c24b0
                                try clear c24b1
                                try clear c27
                                try clear c27b0
                                try clear c29
                                try clear c29b0
                                try clear c30
                                try clear c30b0
                                try clear c31
                                try clear c32
                                try clear c32b0
                                try clear c33
                                try clear c33b0
                                try clear c34
                                try clear c34b0
                                try clear c35
                                try clear c35b0
                                try clear q36
                                try clear c37
                                try clear p38
                                try clear q38
                                try clear hx38
                                try clear hf38
                                try clear p42
                                try clear q42
                                try clear hx42
                                try clear hf42
                                try clear p43
                                try clear q43
                                try clear hx43
                                try clear c47
                                try clear c48
                                try clear c49
                                try clear c49b0
                                try clear c49b1
                                try clear c50
                                try clear c50b0
                                try clear c50b1
                                try clear hx38_0
                                try clear hx425_0
                                try clear hx426_0
                                try clear hx427_0
                                try clear hx428_0
                                try clear hx429_0
                                try clear hx42_0
                                try clear hx431_0
                                try clear p2
                                try clear p3
                                try clear p38
                                try clear p4
                                try clear p42
                                try clear p425
                                try clear p426
                                try clear p427
                                try clear p428
                                try clear p429
                                try clear p43
                                try clear p431
                                try clear p6
                                try clear q3
                                try clear q36
                                try clear q38
                                try clear q4
                                try clear q42
                                try clear q425
                                try clear q426
                                try clear q427
                                try clear q428
                                try clear q429
                                try clear q43
                                try clear q431
                                obtain ⟨x17_4, x18_4, x19_4, rfl, rfl, rfl, HA, HK4, HO_13, HB⟩ := hrel
                                cases gk with
                                | zero => exact absurd HA.out (by simp [tinderboxlaw28_RsAny.l1])
                                | succ k4 =>
                                  have H := HA.out
                                  clear HA
                                  simp only [tinderboxlaw28_RsAny.l1] at H
                                  by_cases c51 : x19_4 < (t415.size : Int)
                                  · rw [if_pos c51] at H
                                    have c51b0 : decide (x19_4 < (t415.size : Int)) = true := decide_eq_true c51
                                    clear c51
                                    by_cases c52 : 0 ≤ x19_4
                                    · rw [if_pos c52] at H
                                      have c52b0 : decide (0 ≤ x19_4) = true := decide_eq_true c52
                                      clear c52
                                      by_cases c53 : x19_4 < (t417.size : Int)
                                      · rw [if_pos c53] at H
                                        have c53b0 : decide (x19_4 < (t417.size : Int)) = true := decide_eq_true c53
                                        clear c53
                                        by_cases c56 : (bt t417 x19_4) = (bt t415 x19_4)
                                        · rw [if_pos c56] at H
                                          have c56b0 : ((bt t417 x19_4) == (bt t415 x19_4)) = true := beq_iff_eq.mpr c56
                                          have c56b1 : ((bt t417 x19_4) != (bt t415 x19_4)) = false := bne_eq_false_iff_eq.mpr c56
                                          clear c56
                                          have H' := Aside0.mk H
                                          clear H
                                          have p54 : 0 ≤ (x19_4 : Int) := of_decide_eq_true (by first | (with_reducible assumption) | assumption)
                                          have q54 : x19_4 < (t417.size : Int) := of_decide_eq_true (by first | (with_reducible assumption) | assumption)
                                          have hx54 := bt_at t417 x19_4
                                          replace p54 := eq_true p54
                                          replace q54 := eq_true q54
                                          have p55 : 0 ≤ (x19_4 : Int) := of_decide_eq_true (by first | (with_reducible assumption) | assumption)
                                          have q55 : x19_4 < (t415.size : Int) := of_decide_eq_true (by first | (with_reducible assumption) | assumption)
                                          have hx55 := bt_at t415 x19_4
                                          replace p55 := eq_true p55
                                          replace q55 := eq_true q55
                                          go_wp2
                                          repeat (go_quiet (fail); try go_wp2)
                                          go_roundg k4
                                          case measure => have := HJ8.out; have := HK2.out; have := HJ45.out; have := HK4.out; omega
                                          case rel => exact ⟨(x17_4), (x18_4), (wrap64 (x19_4 + 1)), (by first | rfl | (simp; done) | (simp [*]; done)), (by first | rfl | (simp; done) | (simp [*]; done)), (by first | rfl | (simp; done) | (simp [*]; done)), H', ⟨by have := HJ8.out; have := HK2.out; have := HJ45.out; have := HK4.out; omega⟩, ⟨by (with_reducible repeat (first | apply Kd.R_alloc | apply Kd.R_drewN | apply Kd.R_drew)); exact HO_13.out⟩, ⟨by repeat (first | (with_reducible first | exact HB.out | apply below_alloc | apply pw_below_drewN | apply below_drew1) | exact HB.out)⟩⟩
                                        · rw [if_neg c56] at H
                                          have c56b0 : ((bt t417 x19_4) == (bt t415 x19_4)) = false := beq_eq_false_iff_ne.mpr c56
                                          have c56b1 : ((bt t417 x19_4) != (bt t415 x19_4)) = true := bne_iff_ne.mpr c56
                                          by_cases c57 : x19_4 < (x13_2.length : Int)
                                          · rw [if_pos c57] at H
                                            have c57b0 : decide (x19_4 < (x13_2.length : Int)) = true := decide_eq_true c57
                                            clear c57
                                            obtain ⟨bq58, hbq58⟩ : ∃ b_ : Bool, b_ = (rdOf false x13_2 x19_4) := ⟨_, rfl⟩
                                            replace H : (if bq58 = true then (tinderboxlaw28_RsAny.l1 k4 t415 (wrap64 (1 + (Go.bits .and .i64 a1 15))) t417 t418 x13_2 x15_2 (wrap64 (x17_4 + 1)) x18_4 (wrap64 (x19_4 + 1))) else (tinderboxlaw28_RsAny.l1 k4 t415 (wrap64 (1 + (Go.bits .and .i64 a1 15))) t417 t418 x13_2 x15_2 (wrap64 (x17_4 + 1)) (wrap64 (x18_4 + 1)) (wrap64 (x19_4 + 1)))) = some r := by rw [← hbq58] at H; exact H
                                            have Nbq58 := Aside0.mk hbq58
                                            clear hbq58
                                            by_cases c59 : bq58 = true
                                            · subst c59
                                              have H1 : (tinderboxlaw28_RsAny.l1 k4 t415 (wrap64 (1 + (Go.bits .and .i64 a1 15))) t417 t418 x13_2 x15_2 (wrap64 (x17_4 + 1)) x18_4 (wrap64 (x19_4 + 1))) = some r := by rw [if_pos rfl] at H; exact H
                                              clear H
                                              have H := H1
                                              clear H1
                                              have H' := Aside0.mk H
                                              clear H
                                              have p54 : 0 ≤ (x19_4 : Int) := of_decide_eq_true (by first | (with_reducible assumption) | assumption)
                                              have q54 : x19_4 < (t417.size : Int) := of_decide_eq_true (by first | (with_reducible assumption) | assumption)
                                              have hx54 := bt_at t417 x19_4
                                              replace p54 := eq_true p54
                                              replace q54 := eq_true q54
                                              have p55 : 0 ≤ (x19_4 : Int) := of_decide_eq_true (by first | (with_reducible assumption) | assumption)
                                              have q55 : x19_4 < (t415.size : Int) := of_decide_eq_true (by first | (with_reducible assumption) | assumption)
                                              have hx55 := bt_at t415 x19_4
                                              replace p55 := eq_true p55
                                              replace q55 := eq_true q55
                                              obtain ⟨Ao60, co60, eo60⟩ := Kd.R_slice HO_13.out
                                              subst eo60
                                              have p435 : 0 ≤ (x19_4 : Int) := of_decide_eq_true (by first | (with_reducible assumption) | assumption)
                                              have q435 : x19_4 < (x13_2.length : Int) := of_decide_eq_true (by first | (with_reducible assumption) | assumption)
                                              obtain ⟨ad435, e435, hx435_0⟩ := Kd.at_bool (Kd.R_reads' HO_13.out).2.2 x19_4 p435 q435
                                              (try rw [← Nbq58.out] at hx435_0)
                                              cases e435
                                              replace p435 := eq_true p435
                                              replace q435 := eq_true q435
                                              go_wp2
                                              repeat (go_quiet (fail); try go_wp2)
                                              go_roundg k4
                                              case measure => have := HJ8.out; have := HK2.out; have := HJ45.out; have := HK4.out; omega
                                              case rel => exact ⟨(wrap64 (x17_4 + 1)), (x18_4), (wrap64 (x19_4 + 1)), (by first | rfl | (simp; done) | (simp [*]; done)), (by first | rfl | (simp; done) | (simp [*]; done)), (by first | rfl | (simp; done) | (simp [*]; done)), H', ⟨by have := HJ8.out; have := HK2.out; have := HJ45.out; have := HK4.out; omega⟩, ⟨by (with_reducible repeat (first | apply Kd.R_alloc | apply Kd.R_drewN | apply Kd.R_drew)); exact HO_13.out⟩, ⟨by repeat (first | (with_reducible first | exact HB.out | apply below_alloc | apply pw_below_drewN | apply below_drew1) | exact HB.out)⟩⟩
                                            · replace c59 := Bool.eq_false_iff.mpr c59
                                              subst c59
                                              have H1 : (tinderboxlaw28_RsAny.l1 k4 t415 (wrap64 (1 + (Go.bits .and .i64 a1 15))) t417 t418 x13_2 x15_2 (wrap64 (x17_4 + 1)) (wrap64 (x18_4 + 1)) (wrap64 (x19_4 + 1))) = some r := by rw [if_neg (show ¬ (false = true) by decide)] at H; exact H
                                              clear H
                                              have H := H1
                                              clear H1
                                              have H' := Aside0.mk H
                                              clear H
                                              have p54 : 0 ≤ (x19_4 : Int) := of_decide_eq_true (by first | (with_reducible assumption) | assumption)
                                              have q54 : x19_4 < (t417.size : Int) := of_decide_eq_true (by first | (with_reducible assumption) | assumption)
                                              have hx54 := bt_at t417 x19_4
                                              replace p54 := eq_true p54
                                              replace q54 := eq_true q54
                                              have p55 : 0 ≤ (x19_4 : Int) := of_decide_eq_true (by first | (with_reducible assumption) | assumption)
                                              have q55 : x19_4 < (t415.size : Int) := of_decide_eq_true (by first | (with_reducible assumption) | assumption)
                                              have hx55 := bt_at t415 x19_4
                                              replace p55 := eq_true p55
                                              replace q55 := eq_true q55
                                              obtain ⟨Ao61, co61, eo61⟩ := Kd.R_slice HO_13.out
                                              subst eo61
                                              have p435 : 0 ≤ (x19_4 : Int) := of_decide_eq_true (by first | (with_reducible assumption) | assumption)
                                              have q435 : x19_4 < (x13_2.length : Int) := of_decide_eq_true (by first | (with_reducible assumption) | assumption)
                                              obtain ⟨ad435, e435, hx435_0⟩ := Kd.at_bool (Kd.R_reads' HO_13.out).2.2 x19_4 p435 q435
                                              (try rw [← Nbq58.out] at hx435_0)
                                              cases e435
                                              replace p435 := eq_true p435
                                              replace q435 := eq_true q435
                                              go_wp2
                                              repeat (go_quiet (fail); try go_wp2)
                                              go_roundg k4
                                              case measure => have := HJ8.out; have := HK2.out; have := HJ45.out; have := HK4.out; omega
                                              case rel => exact ⟨(wrap64 (x17_4 + 1)), (wrap64 (x18_4 + 1)), (wrap64 (x19_4 + 1)), (by first | rfl | (simp; done) | (simp [*]; done)), (by first | rfl | (simp; done) | (simp [*]; done)), (by first | rfl | (simp; done) | (simp [*]; done)), H', ⟨by have := HJ8.out; have := HK2.out; have := HJ45.out; have := HK4.out; omega⟩, ⟨by (with_reducible repeat (first | apply Kd.R_alloc | apply Kd.R_drewN | apply Kd.R_drew)); exact HO_13.out⟩, ⟨by repeat (first | (with_reducible first | exact HB.out | apply below_alloc | apply pw_below_drewN | apply below_drew1) | exact HB.out)⟩⟩
                                          · rw [if_neg c57] at H
                                            exact absurd H (by simp)
                                      · rw [if_neg c53] at H
                                        exact absurd H (by simp)
                                    · rw [if_neg c52] at H
                                      exact absurd H (by simp)
                                  · rw [if_neg c51] at H
                                    have c51b0 : decide (x19_4 < (t415.size : Int)) = false := decide_eq_false c51
                                    clear c51
                                    by_cases c62 : (t417.size : Int) = (t415.size : Int)
                                    · rw [if_pos c62] at H
                                      have c62b0 : ((t417.size : Int) == (t415.size : Int)) = true := beq_iff_eq.mpr c62
                                      have c62b1 : ((t417.size : Int) != (t415.size : Int)) = false := bne_eq_false_iff_eq.mpr c62
                                      have c62b2 : (t417.size == t415.size) = true := by first | simpa using c62 | (simp at c62 ⊢; omega)
                                      clear c62
                                      replace H := Option.bind_eq_some_iff.mp H
                                      obtain ⟨t434, A630, H⟩ := H
                                      replace H : (if t434 = true then (if t418 = x17_4 then (if (wrap64 ((wrap64 (2 * x18_4)) + x15_2)) ≤ (wrap64 (1 + (Go.bits .and .i64 a1 15))) then (some true) else (some (x17_4 == 0))) else (some false)) else (some false)) = some r := H
                                      have A63 := Aside0.mk A630
                                      clear A630
                                      by_cases c64 : t434 = true
                                      · subst c64
                                        have H1 : (if t418 = x17_4 then (if (wrap64 ((wrap64 (2 * x18_4)) + x15_2)) ≤ (wrap64 (1 + (Go.bits .and .i64 a1 15))) then (some true) else (some (x17_4 == 0))) else (some false)) = some r := by rw [if_pos rfl] at H; exact H
                                        clear H
                                        have H := H1
                                        clear H1
                                        by_cases c65 : t418 = x17_4
                                        · rw [if_pos c65] at H
                                          have c65b0 : (t418 == x17_4) = true := beq_iff_eq.mpr c65
                                          have c65b1 : (t418 != x17_4) = false := bne_eq_false_iff_eq.mpr c65
                                          clear c65
                                          by_cases c66 : (wrap64 ((wrap64 (2 * x18_4)) + x15_2)) ≤ (wrap64 (1 + (Go.bits .and .i64 a1 15)))
                                          · rw [if_pos c66] at H
                                            have c66b0 : decide ((wrap64 ((wrap64 (2 * x18_4)) + x15_2)) ≤ (wrap64 (1 + (Go.bits .and .i64 a1 15)))) = true := decide_eq_true c66
                                            clear c66
                                            obtain rfl := Option.some.inj H
                                            go_wp2_with (first | (go_at_call 12; (with_reducible refine (tinderboxlaw28_right.calls k4 t417 (wrap64 (1 + (Go.bits .and .i64 a1 15))) true _ A63.out).mono ?_); rintro e w' ⟨rfl, ⟨nd, rfl⟩⟩; (try first | exact ⟨rfl, _, World.drewN_drewN _ _ _⟩ | exact ⟨rfl, _, Eq.trans (World.drewN_drewN _ _ _) (congrArg (World.drewN _) (Nat.add_assoc _ _ _))⟩)))
                                            repeat (go_quiet (first | (go_at_call 12; (with_reducible refine (tinderboxlaw28_right.calls k4 t417 (wrap64 (1 + (Go.bits .and .i64 a1 15))) true _ A63.out).mono ?_); rintro e w' ⟨rfl, ⟨nd, rfl⟩⟩; (try first | exact ⟨rfl, _, World.drewN_drewN _ _ _⟩ | exact ⟨rfl, _, Eq.trans (World.drewN_drewN _ _ _) (congrArg (World.drewN _) (Nat.add_assoc _ _ _))⟩))); try go_wp2_with (first | (go_at_call 12; (with_reducible refine (tinderboxlaw28_right.calls k4 t417 (wrap64 (1 + (Go.bits .and .i64 a1 15))) true _ A63.out).mono ?_); rintro e w' ⟨rfl, ⟨nd, rfl⟩⟩; (try first | exact ⟨rfl, _, World.drewN_drewN _ _ _⟩ | exact ⟨rfl, _, Eq.trans (World.drewN_drewN _ _ _) (congrArg (World.drewN _) (Nat.add_assoc _ _ _))⟩))))
                                            go_ret
                                            exact ⟨by first | rfl | (simp [errW_none, errW_some] <;> rfl) | (simp only [← hji5]; first | rfl | (simp [errW_none, errW_some] <;> rfl)) | (simp [*, errW_none, errW_some] <;> rfl), by repeat (first | (with_reducible first | exact HB.out | apply below_alloc | apply pw_below_drewN | apply below_drew1) | exact HB.out)⟩
                                          · rw [if_neg c66] at H
                                            have c66b0 : decide ((wrap64 ((wrap64 (2 * x18_4)) + x15_2)) ≤ (wrap64 (1 + (Go.bits .and .i64 a1 15)))) = false := decide_eq_false c66
                                            clear c66
                                            obtain rfl := Option.some.inj H
                                            go_wp2_with (first | (go_at_call 12; (with_reducible refine (tinderboxlaw28_right.calls k4 t417 (wrap64 (1 + (Go.bits .and .i64 a1 15))) true _ A63.out).mono ?_); rintro e w' ⟨rfl, ⟨nd, rfl⟩⟩; (try first | exact ⟨rfl, _, World.drewN_drewN _ _ _⟩ | exact ⟨rfl, _, Eq.trans (World.drewN_drewN _ _ _) (congrArg (World.drewN _) (Nat.add_assoc _ _ _))⟩)))
                                            repeat (go_quiet (first | (go_at_call 12; (with_reducible refine (tinderboxlaw28_right.calls k4 t417 (wrap64 (1 + (Go.bits .and .i64 a1 15))) true _ A63.out).mono ?_); rintro e w' ⟨rfl, ⟨nd, rfl⟩⟩; (try first | exact ⟨rfl, _, World.drewN_drewN _ _ _⟩ | exact ⟨rfl, _, Eq.trans (World.drewN_drewN _ _ _) (congrArg (World.drewN _) (Nat.add_assoc _ _ _))⟩))); try go_wp2_with (first | (go_at_call 12; (with_reducible refine (tinderboxlaw28_right.calls k4 t417 (wrap64 (1 + (Go.bits .and .i64 a1 15))) true _ A63.out).mono ?_); rintro e w' ⟨rfl, ⟨nd, rfl⟩⟩; (try first | exact ⟨rfl, _, World.drewN_drewN _ _ _⟩ | exact ⟨rfl, _, Eq.trans (World.drewN_drewN _ _ _) (congrArg (World.drewN _) (Nat.add_assoc _ _ _))⟩))))
                                            go_ret
                                            exact ⟨by first | rfl | (simp [errW_none, errW_some] <;> rfl) | (simp only [← hji5]; first | rfl | (simp [errW_none, errW_some] <;> rfl)) | (simp [*, errW_none, errW_some] <;> rfl), by repeat (first | (with_reducible first | exact HB.out | apply below_alloc | apply pw_below_drewN | apply below_drew1) | exact HB.out)⟩
                                        · rw [if_neg c65] at H
                                          have c65b0 : (t418 == x17_4) = false := beq_eq_false_iff_ne.mpr c65
                                          have c65b1 : (t418 != x17_4) = true := bne_iff_ne.mpr c65
                                          obtain rfl := Option.some.inj H
                                          go_wp2_with (first | (go_at_call 12; (with_reducible refine (tinderboxlaw28_right.calls k4 t417 (wrap64 (1 + (Go.bits .and .i64 a1 15))) true _ A63.out).mono ?_); rintro e w' ⟨rfl, ⟨nd, rfl⟩⟩; (try first | exact ⟨rfl, _, World.drewN_drewN _ _ _⟩ | exact ⟨rfl, _, Eq.trans (World.drewN_drewN _ _ _) (congrArg (World.drewN _) (Nat.add_assoc _ _ _))⟩)))
                                          repeat (go_quiet (first | (go_at_call 12; (with_reducible refine (tinderboxlaw28_right.calls k4 t417 (wrap64 (1 + (Go.bits .and .i64 a1 15))) true _ A63.out).mono ?_); rintro e w' ⟨rfl, ⟨nd, rfl⟩⟩; (try first | exact ⟨rfl, _, World.drewN_drewN _ _ _⟩ | exact ⟨rfl, _, Eq.trans (World.drewN_drewN _ _ _) (congrArg (World.drewN _) (Nat.add_assoc _ _ _))⟩))); try go_wp2_with (first | (go_at_call 12; (with_reducible refine (tinderboxlaw28_right.calls k4 t417 (wrap64 (1 + (Go.bits .and .i64 a1 15))) true _ A63.out).mono ?_); rintro e w' ⟨rfl, ⟨nd, rfl⟩⟩; (try first | exact ⟨rfl, _, World.drewN_drewN _ _ _⟩ | exact ⟨rfl, _, Eq.trans (World.drewN_drewN _ _ _) (congrArg (World.drewN _) (Nat.add_assoc _ _ _))⟩))))
                                          go_ret
                                          exact ⟨by first | rfl | (simp [errW_none, errW_some] <;> rfl) | (simp only [← hji5]; first | rfl | (simp [errW_none, errW_some] <;> rfl)) | (simp [*, errW_none, errW_some] <;> rfl), by repeat (first | (with_reducible first | exact HB.out | apply below_alloc | apply pw_below_drewN | apply below_drew1) | exact HB.out)⟩
                                      · replace c64 := Bool.eq_false_iff.mpr c64
                                        subst c64
                                        have H1 : (some false) = some r := by rw [if_neg (show ¬ (false = true) by decide)] at H; exact H
                                        clear H
                                        have H := H1
                                        clear H1
                                        obtain rfl := Option.some.inj H
                                        go_wp2_with (first | (go_at_call 12; (with_reducible refine (tinderboxlaw28_right.calls k4 t417 (wrap64 (1 + (Go.bits .and .i64 a1 15))) false _ A63.out).mono ?_); rintro e w' ⟨rfl, ⟨nd, rfl⟩⟩; (try first | exact ⟨rfl, _, World.drewN_drewN _ _ _⟩ | exact ⟨rfl, _, Eq.trans (World.drewN_drewN _ _ _) (congrArg (World.drewN _) (Nat.add_assoc _ _ _))⟩)))
                                        repeat (go_quiet (first | (go_at_call 12; (with_reducible refine (tinderboxlaw28_right.calls k4 t417 (wrap64 (1 + (Go.bits .and .i64 a1 15))) false _ A63.out).mono ?_); rintro e w' ⟨rfl, ⟨nd, rfl⟩⟩; (try first | exact ⟨rfl, _, World.drewN_drewN _ _ _⟩ | exact ⟨rfl, _, Eq.trans (World.drewN_drewN _ _ _) (congrArg (World.drewN _) (Nat.add_assoc _ _ _))⟩))); try go_wp2_with (first | (go_at_call 12; (with_reducible refine (tinderboxlaw28_right.calls k4 t417 (wrap64 (1 + (Go.bits .and .i64 a1 15))) false _ A63.out).mono ?_); rintro e w' ⟨rfl, ⟨nd, rfl⟩⟩; (try first | exact ⟨rfl, _, World.drewN_drewN _ _ _⟩ | exact ⟨rfl, _, Eq.trans (World.drewN_drewN _ _ _) (congrArg (World.drewN _) (Nat.add_assoc _ _ _))⟩))))
                                        go_ret
                                        exact ⟨by first | rfl | (simp [errW_none, errW_some] <;> rfl) | (simp only [← hji5]; first | rfl | (simp [errW_none, errW_some] <;> rfl)) | (simp [*, errW_none, errW_some] <;> rfl), by repeat (first | (with_reducible first | exact HB.out | apply below_alloc | apply pw_below_drewN | apply below_drew1) | exact HB.out)⟩
                                    · rw [if_neg c62] at H
                                      have c62b0 : ((t417.size : Int) == (t415.size : Int)) = false := beq_eq_false_iff_ne.mpr c62
                                      have c62b1 : ((t417.size : Int) != (t415.size : Int)) = true := bne_iff_ne.mpr c62
                                      have c62b2 : (t417.size == t415.size) = false := by first | simpa using c62 | (simp at c62 ⊢; omega)
                                      obtain rfl := Option.some.inj H
                                      go_wp2
                                      repeat (go_quiet (fail); try go_wp2)
                                      go_ret
                                      exact ⟨by first | rfl | (simp [errW_none, errW_some] <;> rfl) | (simp only [← hji5]; first | rfl | (simp [errW_none, errW_some] <;> rfl)) | (simp [*, errW_none, errW_some] <;> rfl), by repeat (first | (with_reducible first | exact HB.out | apply below_alloc | apply pw_below_drewN | apply below_drew1) | exact HB.out)⟩
                            · rw [if_neg c50] at H
                              have c50b0 : (t419 == 0) = false := beq_eq_false_iff_ne.mpr c50
                              have c50b1 : (t419 != 0) = true := bne_iff_ne.mpr c50
                              by_cases c67 : t419 = 280
                              · rw [if_pos c67] at H
                                have c67b0 : (t419 == 280) = true := beq_iff_eq.mpr c67
                                have c67b1 : (t419 != 280) = false := bne_eq_false_iff_eq.mpr c67
                                clear c67
                                by_cases c68 : t417.toList = ([] : List UInt8)
                                · rw [if_pos c68] at H
                                  have c68b0 : (t417.toList == ([] : List UInt8)) = true := beq_iff_eq.mpr c68
                                  have c68b1 : (t417.toList != ([] : List UInt8)) = false := bne_eq_false_iff_eq.mpr c68
                                  clear c68
                                  by_cases c69 : t418 = 0
                                  · rw [if_pos c69] at H
                                    have c69b0 : (t418 == 0) = true := beq_iff_eq.mpr c69
                                    have c69b1 : (t418 != 0) = false := bne_eq_false_iff_eq.mpr c69
                                    clear c69
                                    replace H := Option.bind_eq_some_iff.mp H
                                    obtain ⟨t433, A700, H⟩ := H
                                    replace H : (some (!t433)) = some r := H
                                    have A70 := Aside0.mk A700
                                    clear A700
                                    obtain rfl := Option.some.inj H
                                    go_wp2_with (first | (go_at_call 12; (with_reducible refine (tinderboxlaw28_right.calls kj45 t415 (wrap64 (1 + (Go.bits .and .i64 a1 15))) t433 _ A70.out).mono ?_); rintro e w' ⟨rfl, ⟨nd, rfl⟩⟩; (try first | exact ⟨rfl, _, World.drewN_drewN _ _ _⟩ | exact ⟨rfl, _, Eq.trans (World.drewN_drewN _ _ _) (congrArg (World.drewN _) (Nat.add_assoc _ _ _))⟩)))
                                    repeat (go_quiet (first | (go_at_call 12; (with_reducible refine (tinderboxlaw28_right.calls kj45 t415 (wrap64 (1 + (Go.bits .and .i64 a1 15))) t433 _ A70.out).mono ?_); rintro e w' ⟨rfl, ⟨nd, rfl⟩⟩; (try first | exact ⟨rfl, _, World.drewN_drewN _ _ _⟩ | exact ⟨rfl, _, Eq.trans (World.drewN_drewN _ _ _) (congrArg (World.drewN _) (Nat.add_assoc _ _ _))⟩))); try go_wp2_with (first | (go_at_call 12; (with_reducible refine (tinderboxlaw28_right.calls kj45 t415 (wrap64 (1 + (Go.bits .and .i64 a1 15))) t433 _ A70.out).mono ?_); rintro e w' ⟨rfl, ⟨nd, rfl⟩⟩; (try first | exact ⟨rfl, _, World.drewN_drewN _ _ _⟩ | exact ⟨rfl, _, Eq.trans (World.drewN_drewN _ _ _) (congrArg (World.drewN _) (Nat.add_assoc _ _ _))⟩))))
                                    go_ret
                                    exact ⟨by first | rfl | (simp [errW_none, errW_some] <;> rfl) | (simp only [← hji5]; first | rfl | (simp [errW_none, errW_some] <;> rfl)) | (simp [*, errW_none, errW_some] <;> rfl), by repeat (first | (with_reducible first | exact HB.out | apply below_alloc | apply pw_below_drewN | apply below_drew1) | exact HB.out)⟩
                                  · rw [if_neg c69] at H
                                    have c69b0 : (t418 == 0) = false := beq_eq_false_iff_ne.mpr c69
                                    have c69b1 : (t418 != 0) = true := bne_iff_ne.mpr c69
                                    obtain rfl := Option.some.inj H
                                    go_wp2
                                    repeat (go_quiet (fail); try go_wp2)
                                    go_ret
                                    exact ⟨by first | rfl | (simp [errW_none, errW_some] <;> rfl) | (simp only [← hji5]; first | rfl | (simp [errW_none, errW_some] <;> rfl)) | (simp [*, errW_none, errW_some] <;> rfl), by repeat (first | (with_reducible first | exact HB.out | apply below_alloc | apply pw_below_drewN | apply below_drew1) | exact HB.out)⟩
                                · rw [if_neg c68] at H
                                  have c68b0 : (t417.toList == ([] : List UInt8)) = false := beq_eq_false_iff_ne.mpr c68
                                  have c68b1 : (t417.toList != ([] : List UInt8)) = true := bne_iff_ne.mpr c68
                                  obtain rfl := Option.some.inj H
                                  go_wp2
                                  repeat (go_quiet (fail); try go_wp2)
                                  go_ret
                                  exact ⟨by first | rfl | (simp [errW_none, errW_some] <;> rfl) | (simp only [← hji5]; first | rfl | (simp [errW_none, errW_some] <;> rfl)) | (simp [*, errW_none, errW_some] <;> rfl), by repeat (first | (with_reducible first | exact HB.out | apply below_alloc | apply pw_below_drewN | apply below_drew1) | exact HB.out)⟩
                              · rw [if_neg c67] at H
                                have c67b0 : (t419 == 280) = false := beq_eq_false_iff_ne.mpr c67
                                have c67b1 : (t419 != 280) = true := bne_iff_ne.mpr c67
                                obtain rfl := Option.some.inj H
                                go_wp2
                                repeat (go_quiet (fail); try go_wp2)
                                go_ret
                                exact ⟨by first | rfl | (simp [errW_none, errW_some] <;> rfl) | (simp only [← hji5]; first | rfl | (simp [errW_none, errW_some] <;> rfl)) | (simp [*, errW_none, errW_some] <;> rfl), by repeat (first | (with_reducible first | exact HB.out | apply below_alloc | apply pw_below_drewN | apply below_drew1) | exact HB.out)⟩
              · rw [if_neg c24] at H
                exact absurd H (by simp)
            · rw [if_neg c23] at H
              exact absurd H (by simp)
    · rw [if_neg c7] at H
      exact absurd H (by simp)
  · rw [if_neg c6] at H
    exact absurd H (by simp)
def tinderboxlaw28_RsAny.Pure : Prop := ∀ (a0 : ByteArray) (a1 : Int) (l2 : List Int), a0.size ≤ 140737488351232 → (Lit.int .i64 a1).wf = true → l2.length ≤ maxLen → l2.length * 8 ≤ 140737488351232 → (∀ x ∈ l2, (Lit.int .i64 x).wf = true) → ∃ k, tinderboxlaw28_RsAny.f k a0 a1 l2 = some true
theorem tinderboxlaw28_RsAny.walk (P : tinderboxlaw28_RsAny.Pure) (a0 : ByteArray) (a1 : Int) (a2 : Option Addr) (len2 cap2 : Nat) (z2 : List Int) (w : World) (w0 : a0.size ≤ 140737488351232) (w1 : (Lit.int .i64 a1).wf = true) (w2 : (a2 = none ∧ len2 = 0 ∧ cap2 = 0 ∧ z2 = []) ∨ ∃ x, a2 = some x ∧ len2 ≤ cap2 ∧ cap2 ≤ maxLen ∧ z2.length = cap2 ∧ (∀ i, i < z2.length → w.cell? (x.add i) = some (.int .i64 (z2.getD i 0))) ∧ ∀ n ∈ z2, (Lit.int .i64 n).wf = true) (y2 : len2 * 8 ≤ 140737488351232) :
    Calls Try.prog 6 #[.string a0, .int .i64 a1, .slice a2 len2 cap2] w fun e w' => e = .returned (.bool true) ∧ Below w.heap.size w w' := by
  obtain ⟨l2, rfl, hr2, hm2, hw2, hc2⟩ := ReadsInt.ofRowC w2
  obtain ⟨k, h⟩ := P a0 a1 l2 w0 w1 hm2 y2 hw2
  refine (tinderboxlaw28_RsAny.calls k a0 a1 _ _ l2 true w (Kd.C_of_reads (d := (0 : Int)) (h1 := fun _ => rfl) hr2) hc2 h).mono ?_
  rintro e w' ⟨rfl, hd⟩
  exact ⟨rfl, hd⟩
end Go.Proofs.Ytconplohaaohlaa.XRs
