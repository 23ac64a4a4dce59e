/- Which shape a page has, and the first test of the statements: what the program's functions compute; no condition. -/
import Derived.Test.YtpleeckbakllpaaWvA
import Derived.Test.YtpleeckbakllpaaGfF
import Derived.Test.YtpleeckbakllpaaXWvx11
namespace Go.Proofs.Ytpleeckbakllpaa.Gf
open Go.RowKit Go.Proofs.YtpleeckbakllpaaX.PrintWords Go.Proofs.YtpleeckbakllpaaX.PrintLast Go.Proofs.YtpleeckbakllpaaX.PrintMore Go.Proofs.Ytpleeckbakllpaa.XWv
set_option linter.unusedSimpArgs false
set_option linter.unusedVariables false
theorem awake_enc : weave_Encode.f 400 (⟨#[48, 49, 50, 51, 52, 53, 54, 55, 56, 57]⟩ : ByteArray) 1 10 2 12 5 = some (⟨#[219, 30, 161, 43, 85, 64, 8, 226, 71, 29, 233, 3]⟩, 0) := by decide +kernel
theorem awake_dec : weave_Decode.f 400 (strOfNums ((bytesOf (⟨#[219, 30, 161, 43, 85, 64, 8, 226, 71, 29, 233, 3]⟩ : ByteArray)).set (3 : Int).toNat (Go.bits .xor .u8 (rd (bytesOf (⟨#[219, 30, 161, 43, 85, 64, 8, 226, 71, 29, 233, 3]⟩ : ByteArray)) 3) 9))) 1 10 2 12 5 [] = some (⟨#[48, 49, 50, 51, 52, 53, 54, 55, 56, 57]⟩, 1, 0) := by decide +kernel
theorem awake_ev : Ev (fun k => tinderboxlaw29_awake.f k) true := by
  have h0 : Ev (fun k => weave_ShapeOf.f k 10 2) (1, 10, 2, 12, true) := Ev.of (fun k => weave_ShapeOf.mono _ _ k) (k := 10) (by decide +kernel)
  have h1 := Ev.of (fun k => weave_Encode.mono (⟨#[48, 49, 50, 51, 52, 53, 54, 55, 56, 57]⟩ : ByteArray) 1 10 2 12 5 k) awake_enc
  have h2 := Ev.of (fun k => weave_Decode.mono _ 1 10 2 12 5 [] k) awake_dec
  have e : (⟨#[48, 49, 50, 51, 52, 53, 54, 55, 56, 57]⟩ : ByteArray).toList = ([48, 49, 50, 51, 52, 53, 54, 55, 56, 57] : List UInt8) := by rw [ByteArray.toList_eq]
  refine Ev.bind h0 (Ev.bind h1 (ifp rfl (ifp rfl (ifp rfl (ifp (by decide) (Ev.bind (Ev.now _) (ifp (by decide) (Ev.bind h2 (ifp rfl (ifp e (Ev.now _)))))))))))

/-! ### shapes -/
def ceil (N m : Nat) : Nat := (N + m - 1) / m
theorem lt_ceil {N m d : Nat} (hm : 0 < m) : d < ceil N m ↔ d * m < N := by
  unfold ceil
  constructor
  · intro h
    have := (Nat.le_div_iff_mul_le hm).mp h
    rw [Nat.succ_mul] at this
    omega
  · intro h
    exact (Nat.le_div_iff_mul_le hm).mpr (by rw [Nat.succ_mul]; omega)
theorem ceil_self {N : Nat} (h : 0 < N) : ceil N N = 1 := by
  have h1 := (lt_ceil (N := N) (m := N) (d := 0) h).mpr (by omega)
  have h2 := mt (lt_ceil (N := N) (m := N) (d := 1) h).mp (by omega)
  omega
theorem ceil_le {N m : Nat} (h : 0 < m) : ceil N m ≤ N := by
  refine Nat.le_of_not_lt fun q => ?_
  have h1 := (lt_ceil h).mp q
  have h2 := Nat.le_mul_of_pos_right N h
  omega
theorem ref_in (N P m : Nat) (hm : 1 ≤ m) (hmN : m ≤ 1024) (hN : N ≤ 1024) (hP : P ≤ 32) {R : Int × Int × Int × Int × Bool} (r : Nat) : ∀ d, d + r = ceil N m →
    Ev (fun k => if ceil N m + P ≤ 127 then some ((m : Int), (ceil N m : Int), (P : Int), ((N + m * P : Nat) : Int), true) else tinderboxref29_Shape.l0 k (N : Int) (P : Int) ((m + 1 : Nat) : Int)) R →
    Ev (fun k => tinderboxref29_Shape.l1 k (N : Int) (P : Int) (m : Int) (d : Int)) R := by
  have hP2 : m * P ≤ 32768 := Nat.mul_le_mul hmN hP
  have hc := ceil_le (N := N) (m := m) hm
  have eP : (m : Int) * (P : Int) = ((m * P : Nat) : Int) := (Int.natCast_mul m P).symm
  induction r with
  | zero =>
    intro d hd h
    have hdm := mt (lt_ceil (N := N) (m := m) (d := d) hm).mpr
    have hd2 : ¬ d * m < N := fun q => by have := (lt_ceil (N := N) (m := m) (d := d) hm).mpr q; omega
    have hd3 : d * m ≤ 1024 * 1024 := Nat.mul_le_mul (by omega) hmN
    have e1 : wrap64 ((d : Int) * (m : Int)) = ((d * m : Nat) : Int) := by rw [← Int.natCast_mul, w64 (by omega) (by omega)]
    refine Ev.step (fun k => ?_) h
    rw [tinderboxref29_Shape.l1, e1, if_neg (by omega), w64 (n := (d : Int) + (P : Int)) (by omega) (by omega), eP, w64 (n := ((m * P : Nat) : Int)) (by omega) (by omega), w64 (by omega) (by omega), w64 (n := (m : Int) + 1) (by omega) (by omega)]
    by_cases c : ceil N m + P ≤ 127
    · rw [if_pos (by omega), if_pos c, show d = ceil N m by omega]
      rfl
    · rw [if_neg (by omega), if_neg c]
      rfl
  | succ r ih =>
    intro d hd h
    have hd2 : d * m < N := (lt_ceil hm).mp (by omega)
    have e1 : wrap64 ((d : Int) * (m : Int)) = ((d * m : Nat) : Int) := by rw [← Int.natCast_mul, w64 (by omega) (by omega)]
    refine Ev.step (fun k => ?_) (ih (d + 1) (by omega) h)
    rw [tinderboxref29_Shape.l1, e1, if_pos (by omega), w64 (by omega) (by omega)]
    rfl
/-- A shape: so many bytes of a page, so many words, so many bytes that check each. -/
structure Shp (N P W D : Nat) : Prop where
  w1 : 1 ≤ W
  wN : W ≤ N
  d : D = ceil N W
  dp : D + P ≤ 127
theorem shape_loop (N P : Nat) (h1 : 1 ≤ N) (h2 : N ≤ 1024) (hP : P ≤ 32) (r : Nat) : ∀ m, m + r = N → 1 ≤ m → ∃ W D, Shp N P W D ∧
    Ev (fun k => weave_ShapeOf.l0 k (N : Int) (P : Int) (m : Int)) ((W : Int), (D : Int), (P : Int), ((N + W * P : Nat) : Int), true) ∧
    Ev (fun k => tinderboxref29_Shape.l0 k (N : Int) (P : Int) (m : Int)) ((W : Int), (D : Int), (P : Int), ((N + W * P : Nat) : Int), true) := by
  have step : ∀ m, m ≤ N → 1 ≤ m → ∀ k, weave_ShapeOf.l0 (k + 1) (N : Int) (P : Int) (m : Int) = if ceil N m + P ≤ 127 then some ((m : Int), (ceil N m : Int), (P : Int), ((N + m * P : Nat) : Int), true) else weave_ShapeOf.l0 k (N : Int) (P : Int) ((m + 1 : Nat) : Int) := by
    intro m hm h1 k
    have hP2 : m * P ≤ 32768 := Nat.le_trans (Nat.mul_le_mul (show m ≤ 1024 by omega) hP) (by decide)
    have hc := ceil_le (N := N) (m := m) h1
    have eP : (m : Int) * (P : Int) = ((m * P : Nat) : Int) := (Int.natCast_mul m P).symm
    have eD : Int.tdiv (wrap64 (wrap64 ((N : Int) + (m : Int)) - 1)) (m : Int) = (ceil N m : Int) := by
      rw [w64 (n := (N : Int) + (m : Int)) (by omega) (by omega), w64 (by omega) (by omega), show (N : Int) + (m : Int) - 1 = ((N + m - 1 : Nat) : Int) by omega]
      rfl
    rw [weave_ShapeOf.l0, if_neg (by omega), eD, w64 (n := (ceil N m : Int)) (by omega) (by omega), w64 (n := (ceil N m : Int) + (P : Int)) (by omega) (by omega), eP, w64 (n := ((m * P : Nat) : Int)) (by omega) (by omega), w64 (n := (N : Int) + ((m * P : Nat) : Int)) (by omega) (by omega), w64 (n := (m : Int) + 1) (by omega) (by omega)]
    by_cases c : ceil N m + P ≤ 127
    · rw [if_neg (by omega), if_pos c]
      rfl
    · rw [if_pos (by omega), if_neg c]
      rfl
  have now : ∀ m, m ≤ N → 1 ≤ m → ceil N m + P ≤ 127 → ∃ W D, Shp N P W D ∧
      Ev (fun k => weave_ShapeOf.l0 k (N : Int) (P : Int) (m : Int)) ((W : Int), (D : Int), (P : Int), ((N + W * P : Nat) : Int), true) ∧
      Ev (fun k => tinderboxref29_Shape.l0 k (N : Int) (P : Int) (m : Int)) ((W : Int), (D : Int), (P : Int), ((N + W * P : Nat) : Int), true) := fun m hm h1 c =>
    ⟨m, ceil N m, ⟨h1, hm, rfl, c⟩, Ev.step (step m hm h1) (ifp c (Ev.now _)), Ev.step (f := fun k => tinderboxref29_Shape.l1 k (N : Int) (P : Int) (m : Int) 0) (fun k => by rw [tinderboxref29_Shape.l0, if_pos (by omega)]) (ref_in N P m h1 (by omega) h2 hP (ceil N m) 0 (by omega) (ifp c (Ev.now _)))⟩
  induction r with
  | zero =>
    intro m hm h
    obtain rfl : m = N := by omega
    exact now m (by omega) h (by rw [ceil_self h]; omega)
  | succ r ih =>
    intro m hm h
    by_cases c : ceil N m + P ≤ 127
    · exact now m (by omega) h c
    · obtain ⟨W, D, hS, e1, e2⟩ := ih (m + 1) (by omega) (by omega)
      exact ⟨W, D, hS, Ev.step (step m (by omega) h) (ifn c e1), Ev.step (f := fun k => tinderboxref29_Shape.l1 k (N : Int) (P : Int) (m : Int) 0) (fun k => by rw [tinderboxref29_Shape.l0, if_pos (by omega)]) (ref_in N P m h (by omega) h2 hP (ceil N m) 0 (by omega) (ifn c e2))⟩
theorem shape_ev (N P : Nat) (h1 : 1 ≤ N) (h2 : N ≤ 1024) (h3 : 2 ≤ P) (hP : P ≤ 32) : ∃ W D, Shp N P W D ∧
    Ev (fun k => weave_ShapeOf.f k (N : Int) (P : Int)) ((W : Int), (D : Int), (P : Int), ((N + W * P : Nat) : Int), true) ∧
    Ev (fun k => tinderboxref29_Shape.f k (N : Int) (P : Int)) ((W : Int), (D : Int), (P : Int), ((N + W * P : Nat) : Int), true) := by
  obtain ⟨W, D, hS, e1, e2⟩ := shape_loop N P h1 h2 hP (N - 1) 1 (by omega) (by omega)
  refine ⟨W, D, hS, Ev.congr (fun k => ?_) (Ev.step (g := fun k => weave_ShapeOf.j0 k (N : Int) (P : Int) false) (fun k => ?_) e1), Ev.congr (fun k => ?_) (Ev.step (g := fun k => tinderboxref29_Shape.j0 k (N : Int) (P : Int) false) (fun k => ?_) e2)⟩
  · rw [weave_ShapeOf.f, if_neg (by omega), if_neg (by omega), if_neg (by omega), decide_eq_false (by omega)]
  · rw [weave_ShapeOf.j0, if_neg (by decide)]
    rfl
  · rw [tinderboxref29_Shape.f, if_neg (by omega), if_neg (by omega), if_neg (by omega), decide_eq_false (by omega)]
  · rw [tinderboxref29_Shape.j0, if_neg (by decide)]
    rfl
end Go.Proofs.Ytpleeckbakllpaa.Gf
