/- What the program's functions on bytes and polynomials compute: the field's and the polynomials'; no condition. -/
import Derived.Test.YtpleeckbakllpaaGfC
import Derived.Test.YtpleeckbakllpaaXWvx3
import Derived.Test.YtpleeckbakllpaaXWvx4
import Derived.Test.YtpleeckbakllpaaXWvx5
import Derived.Test.YtpleeckbakllpaaXWvx7
namespace Go.Proofs.Ytpleeckbakllpaa.Gf
open Go.RowKit Go.Proofs.YtpleeckbakllpaaX.PrintWords Go.Proofs.YtpleeckbakllpaaX.PrintLast Go.Proofs.YtpleeckbakllpaaX.PrintMore Go.Proofs.Ytpleeckbakllpaa.XWv
set_option linter.unusedSimpArgs false
set_option linter.unusedVariables false

theorem w64 {n : Int} (h : -9223372036854775808 ≤ n) (k : n ≤ 9223372036854775807) : wrap64 n = n := by unfold wrap64; omega
theorem ofInt64 (a : Nat) (ha : a < 65536) : (BitVec.ofInt 64 (a : Int)).toNat = a := by
  rw [BitVec.toNat_ofInt]; omega
theorem xor_i64 (a b : Nat) (ha : a < 65536) (hb : b < 65536) : Go.bits .xor .i64 (a : Int) (b : Int) = ((a ^^^ b : Nat) : Int) := by
  have hx : a ^^^ b < 65536 := Nat.xor_lt_two_pow (n := 16) ha hb
  show IntKind.i64.wrap ((BitVec.ofInt 64 (a : Int) ^^^ BitVec.ofInt 64 (b : Int)).toNat : Int) = _
  rw [BitVec.toNat_xor, ofInt64 a ha, ofInt64 b hb, IntWalk.i64_left, w64 (by omega) (by omega)]
theorem and1_i64 (a : Nat) (ha : a < 65536) : Go.bits .and .i64 (a : Int) 1 = ((a % 2 : Nat) : Int) := by
  show IntKind.i64.wrap ((BitVec.ofInt 64 (a : Int) &&& BitVec.ofInt 64 ((1 : Nat) : Int)).toNat : Int) = _
  rw [BitVec.toNat_and, ofInt64 a ha, ofInt64 1 (by omega), Nat.and_one_is_mod, IntWalk.i64_left, w64 (by omega) (by omega)]
theorem and1_u8 (a : Nat) (ha : a < 256) : Go.bits .and .u8 (a : Int) 1 = ((a % 2 : Nat) : Int) := by
  have := u8_and_nat a 1 ha (by omega)
  rw [Nat.and_one_is_mod] at this
  exact this

/-- A number of the field as the program has it. -/
def I (a : E) : Int := (a.n : Int)
def IL (l : List E) : List Int := l.map I
theorem I_lo (a : E) : 0 ≤ I a := by unfold I; omega
theorem I_hi (a : E) : I a < 256 := by have := a.n_lt; unfold I; omega
theorem I_inj {a b : E} (h : I a = I b) : a = b := E.n_inj (by unfold I at h; omega)
theorem I_zero : I 0 = 0 := rfl
theorem I_one : I 1 = 1 := rfl
theorem I_eq_zero {a : E} : I a = 0 ↔ a = 0 := ⟨fun h => I_inj h, fun h => by rw [h]; rfl⟩
theorem I_xor (a b : E) : Go.bits .xor .u8 (I a) (I b) = I (a + b) := by
  show Go.bits .xor .u8 (a.n : Int) (b.n : Int) = (((a + b).n : Nat) : Int)
  rw [u8_xor_nat _ _ a.n_lt b.n_lt, add_n]
theorem IL_length (l : List E) : (IL l).length = l.length := List.length_map ..
theorem rd_IL (l : List E) (i : Nat) : rd (IL l) (i : Int) = I (l.getD i 0) := by
  show (IL l).getD ((i : Int)).toNat 0 = _
  rw [Int.toNat_natCast, List.getD_eq_getElem?_getD, List.getD_eq_getElem?_getD]
  unfold IL
  rw [List.getElem?_map]
  cases l[i]? with
  | none => rfl
  | some a => rfl
theorem IL_append (p q : List E) : IL (p ++ q) = IL p ++ IL q := List.map_append ..
theorem IL_take (p : List E) (n : Nat) : IL (p.take n) = (IL p).take n := List.map_take ..
theorem IL_set (p : List E) (n : Nat) (a : E) : IL (p.set n a) = (IL p).set n (I a) := List.map_set ..
theorem IL_zeros (n : Nat) : IL (List.replicate n 0) = List.replicate n 0 := List.map_replicate ..
theorem IL_rev (p : List E) : IL p.reverse = (IL p).reverse := List.map_reverse ..
theorem IL_nil : IL [] = [] := rfl

/-! ### the product -/
theorem mulr_zero (j : Nat) : ∀ x, mulr j x 0 = 0 := by
  induction j with
  | zero => intro x; rfl
  | succ j ih => intro x; show (if 0 % 2 = 1 then x else 0) + mulr j (xt x) (0 / 2) = 0; rw [if_neg (by omega), Nat.zero_div, ih, add_zero]
theorem mul_loop (j : Nat) : ∀ (acc x : E) (m : Nat), m < 2 ^ j → m < 256 → Ev (fun k => gf_Mul.l0 k (I acc) (I x) (m : Int)) (I (acc + mulr j x m)) := by
  induction j with
  | zero =>
    intro acc x m hm _
    have : m = 0 := by simpa using hm
    subst this
    refine Ev.step (f := fun _ => some (I acc)) (fun k => ?_) (by rw [mulr_zero, add_zero]; exact Ev.now _)
    rw [gf_Mul.l0, if_neg (by omega)]
    congr 1
    have := I_lo acc; have := I_hi acc; omega
  | succ j ih =>
    intro acc x m hm h8
    by_cases c : m = 0
    · subst c
      refine Ev.step (f := fun _ => some (I acc)) (fun k => ?_) (by rw [mulr_zero, add_zero]; exact Ev.now _)
      rw [gf_Mul.l0, if_neg (by omega)]
      congr 1
      have := I_lo acc; have := I_hi acc; omega
    · have hx := x.n_lt
      have hacc := acc.n_lt
      have hd : ((m : Int) / 2) = ((m / 2 : Nat) : Int) := by omega
      have hxt : (if (wrap64 (I x * 2)) > 255 then (Go.bits .xor .i64 (wrap64 (I x * 2)) 285) else wrap64 (I x * 2)) = I (xt x) := by
        have e : wrap64 (I x * 2) = ((x.n * 2 : Nat) : Int) := by unfold I; rw [w64 (by omega) (by omega)]; omega
        rw [e]
        show _ = (((xt x).n : Nat) : Int)
        rw [xt_n]
        by_cases d : x.n * 2 > 255
        · rw [if_pos (by omega), if_pos d, show (285 : Int) = ((285 : Nat) : Int) from rfl, xor_i64 _ _ (by omega) (by omega)]
        · rw [if_neg (by omega), if_neg d]
      have hacc' : Go.bits .xor .i64 (I acc) (I x) = I (acc + x) := by
        show Go.bits .xor .i64 (acc.n : Int) (x.n : Int) = (((acc + x).n : Nat) : Int)
        rw [xor_i64 _ _ (by omega) (by omega), add_n]
      have hb : (Go.bits .and .u8 (m : Int) 1) = ((m % 2 : Nat) : Int) := and1_u8 m h8
      have e : acc + mulr (j + 1) x m = (if m % 2 = 1 then acc + x else acc) + mulr j (xt x) (m / 2) := by
        show acc + ((if m % 2 = 1 then x else 0) + mulr j (xt x) (m / 2)) = _
        by_cases d : m % 2 = 1
        · rw [if_pos d, if_pos d, add_assoc]
        · rw [if_neg d, if_neg d, zero_add]
      rw [e]
      refine Ev.step (fun k => ?_) (ih (if m % 2 = 1 then acc + x else acc) (xt x) (m / 2) (by rw [Nat.pow_succ] at hm; omega) (by omega))
      rw [gf_Mul.l0, if_pos (by omega), hb, hacc', hd, ← hxt]
      by_cases d : m % 2 = 1
      · rw [if_pos (by omega), if_pos d]
        by_cases g : (wrap64 (I x * 2)) > 255
        · rw [if_pos g, if_pos g]
        · rw [if_neg g, if_neg g]
      · rw [if_neg (by omega), if_neg d]
        by_cases g : (wrap64 (I x * 2)) > 255
        · rw [if_pos g, if_pos g]
        · rw [if_neg g, if_neg g]
theorem mul_ev (a b : E) : Ev (fun k => gf_Mul.f k (I a) (I b)) (I (a * b)) := by
  have := mul_loop 8 0 a b.n (by have := b.n_lt; omega) b.n_lt
  rw [zero_add, I_zero] at this
  refine Ev.congr (fun k => ?_) this
  have := I_lo a; have := I_hi a
  unfold gf_Mul.f
  rw [w64 (by omega) (by omega)]
  rfl

/-! ### powers -/
theorem pow_loop (j : Nat) : ∀ (a o : E) (m : Nat), m < 2 ^ j → m < 256 → Ev (fun k => gf_Pow.l0 k (I a) (I o) (m : Int)) (I (sq j a o m)) := by
  induction j with
  | zero =>
    intro a o m hm _
    have : m = 0 := by simpa using hm
    subst this
    refine Ev.step (f := fun _ => some (I o)) (fun k => ?_) (Ev.now _)
    rw [gf_Pow.l0, if_neg (by omega)]
  | succ j ih =>
    intro a o m hm h8
    have hd : ((m : Int) / 2) = ((m / 2 : Nat) : Int) := by omega
    by_cases c : m = 0
    · subst c
      have z : ∀ j a, sq j a o 0 = o := by
        intro j
        induction j with
        | zero => intro a; rfl
        | succ j ih => intro a; show sq j (a * a) (if 0 % 2 = 1 then o * a else o) (0 / 2) = o; rw [if_neg (by omega), Nat.zero_div, ih]
      rw [z]
      refine Ev.step (f := fun _ => some (I o)) (fun k => ?_) (Ev.now _)
      rw [gf_Pow.l0, if_neg (by omega)]
    · have hb : (Go.bits .and .i64 (m : Int) 1) = ((m % 2 : Nat) : Int) := and1_i64 m (by omega)
      have hm2 : m / 2 < 2 ^ j := by rw [Nat.pow_succ] at hm; omega
      show Ev _ (I (sq j (a * a) (if m % 2 = 1 then o * a else o) (m / 2)))
      by_cases d : m % 2 = 1
      · rw [if_pos d]
        refine Ev.step (f := fun k => (gf_Mul.f k (I o) (I a)).bind fun t => (gf_Mul.f k (I a) (I a)).bind fun s => gf_Pow.l0 k s t ((m / 2 : Nat) : Int)) (fun k => ?_) (Ev.bind (mul_ev o a) (Ev.bind (mul_ev a a) (ih (a * a) (o * a) (m / 2) hm2 (by omega))))
        rw [gf_Pow.l0, if_pos (by omega), hb, if_pos (by omega), hd]
      · rw [if_neg d]
        refine Ev.step (f := fun k => (gf_Mul.f k (I a) (I a)).bind fun s => gf_Pow.l0 k s (I o) ((m / 2 : Nat) : Int)) (fun k => ?_) (Ev.bind (mul_ev a a) (ih (a * a) o (m / 2) hm2 (by omega)))
        rw [gf_Pow.l0, if_pos (by omega), hb, if_neg (by omega), hd]
theorem pow_ev {a : E} (ha : a ≠ 0) (n : Int) (m : Nat) (hn : -9223372036854775808 ≤ n) (hn' : n ≤ 9223372036854775807) (hm : m < 255) (h : n % 255 = (m : Int)) : Ev (fun k => gf_Pow.f k (I a) n) (I (pw a m)) := by
  have := pow_loop 8 a 1 m (by omega) (by omega)
  rw [sq_eq 8 a 1 m (by omega), one_mul] at this
  refine Ev.congr (fun k => ?_) this
  have e : Int.tmod (wrap64 ((Int.tmod n 255) + 255)) 255 = (m : Int) := by
    have h1 : Int.tmod n 255 = if 0 ≤ n ∨ n % 255 = 0 then n % 255 else n % 255 - 255 := by
      rw [Int.tmod_eq_emod]
      by_cases c : 0 ≤ n
      · simp [c]
      · by_cases d : n % 255 = 0
        · simp [d, Int.dvd_of_emod_eq_zero d]
        · have : ¬ (255 : Int) ∣ n := fun q => d (Int.emod_eq_zero_of_dvd q)
          simp [c, d, this]
    rw [h1]
    by_cases c : 0 ≤ n ∨ n % 255 = 0
    · rw [if_pos c, w64 (by omega) (by omega), Int.tmod_eq_emod_of_nonneg (by omega)]; omega
    · rw [if_neg c, w64 (by omega) (by omega), Int.tmod_eq_emod_of_nonneg (by omega)]; omega
  unfold gf_Pow.f
  rw [if_neg (fun h => ha (I_eq_zero.mp h)), e, I_one]
theorem root_ev (j : Nat) (hj : j < 1000000) : Ev (fun k => gf_Root.f k (j : Int)) (I (X j)) := by
  have := pow_ev two_ne (j : Int) (j % 255) (by omega) (by omega) (by omega) (by omega)
  rw [pw_mod two_ne] at this
  exact Ev.bind this (Ev.now _)
theorem inv_ev {a : E} (ha : a ≠ 0) : Ev (fun k => gf_Inv.f k (I a)) (I (inv a)) := by
  have := pow_ev ha (-1) 254 (by omega) (by omega) (by omega) (by omega)
  refine Ev.congr (fun k => ?_) (Ev.bind this (Ev.now _))
  unfold gf_Inv.f
  rw [if_neg (fun h => ha (I_eq_zero.mp h))]

/-! ### polynomials -/
theorem drop_ev (l : List E) (n : Nat) (h : n < l.length) (x : E) : ev (l.drop n) x = l.getD n 0 + x * ev (l.drop (n + 1)) x := by
  rw [List.drop_eq_getElem_cons h, ev_cons, List.getD_eq_getElem?_getD, List.getElem?_eq_getElem h]; rfl
theorem at_loop (l : List E) (x : E) (hl : l.length < 1000000) : ∀ n, n ≤ l.length → Ev (fun k => gf_Poly_At.l0 k (IL l) (I x) (I (ev (l.drop n) x)) ((n : Int) - 1)) (I (ev l x)) := by
  intro n
  induction n with
  | zero =>
    intro _
    refine Ev.step (f := fun _ => some (I (ev l x))) (fun k => ?_) (Ev.now _)
    rw [gf_Poly_At.l0, if_neg (by omega), List.drop_zero]
  | succ n ih =>
    intro hn
    refine Ev.step (fun k => ?_) (Ev.bind (mul_ev (ev (l.drop (n + 1)) x) x) (f := fun k t => gf_Poly_At.l0 k (IL l) (I x) (Go.bits .xor .u8 t (rd (IL l) ((n : Nat) : Int))) ((n : Int) - 1)) ?_)
    · have e : ((n + 1 : Nat) : Int) - 1 = (n : Int) := by omega
      rw [e, gf_Poly_At.l0, if_pos (by omega)]
      congr 1
      funext t
      rw [if_pos (by omega), if_pos (by rw [IL_length]; omega), w64 (by omega) (by omega)]
    · rw [rd_IL, I_xor, add_comm, mul_comm, ← drop_ev l n (by omega)]
      exact ih (by omega)
theorem at_ev (l : List E) (x : E) (hl : l.length < 1000000) : Ev (fun k => gf_Poly_At.f k (IL l) (I x)) (I (ev l x)) := by
  have := at_loop l x hl l.length (Nat.le_refl _)
  rw [List.drop_length] at this
  refine Ev.congr (fun k => ?_) this
  unfold gf_Poly_At.f
  rw [IL_length, w64 (by omega) (by omega)]
  rfl
theorem trim_loop (l : List E) (hl : l.length < 1000000) : ∀ n, n ≤ l.length → Ev (fun k => gf_Poly_Trim.l0 k (IL l) (n : Int)) (IL (l.take (trN l n))) := by
  intro n
  induction n with
  | zero =>
    intro _
    refine Ev.step (f := fun _ => some (IL (l.take 0))) (fun k => ?_) (Ev.now _)
    rw [gf_Poly_Trim.l0, if_neg (by omega)]
    simp [IL_take, IL_length, IL_nil]
  | succ n ih =>
    intro hn
    have e : wrap64 (((n + 1 : Nat) : Int) - 1) = (n : Int) := by rw [w64 (by omega) (by omega)]; omega
    by_cases c : l.getD n 0 = 0
    · have : trN l (n + 1) = trN l n := by show (if l.getD n 0 = 0 then trN l n else n + 1) = _; rw [if_pos c]
      rw [this]
      refine Ev.step (fun k => ?_) (ih (by omega))
      rw [gf_Poly_Trim.l0, if_pos (by omega), e, if_pos (by omega), if_pos (by rw [IL_length]; omega), rd_IL, if_pos (by rw [c]; rfl)]
    · have : trN l (n + 1) = n + 1 := by show (if l.getD n 0 = 0 then trN l n else n + 1) = _; rw [if_neg c]
      rw [this]
      refine Ev.step (f := fun _ => some (IL (l.take (n + 1)))) (fun k => ?_) (Ev.now _)
      rw [gf_Poly_Trim.l0, if_pos (by omega), e, if_pos (by omega), if_pos (by rw [IL_length]; omega), rd_IL, if_neg (fun h => c (I_eq_zero.mp h))]
      rw [Option.bind_some, if_pos (by omega), if_pos (by rw [IL_length]; omega), if_pos (by rw [List.length_take, IL_length]; simp; omega), List.nil_append, IL_take, Int.toNat_natCast]
theorem trim_ev' (l : List E) (hl : l.length < 1000000) : Ev (fun k => gf_Poly_Trim.f k (IL l)) (IL (trim l)) := by
  have := trim_loop l hl l.length (Nat.le_refl _)
  refine Ev.congr (fun k => ?_) this
  unfold gf_Poly_Trim.f
  rw [IL_length]
theorem shift_ev (l : List E) (n : Nat) (hl : l.length + n < 1000000) : Ev (fun k => gf_Poly_Shift.f k (IL l) (n : Int)) (IL (trim (List.replicate n 0 ++ l))) := by
  refine Ev.congr (fun k => ?_) (Ev.bind (trim_ev' (List.replicate n 0 ++ l) (by simp; omega)) (Ev.now _))
  have e : mx (n : Int) 0 = (n : Int) := by unfold mx; rw [if_neg (by omega)]
  unfold gf_Poly_Shift.f
  rw [e, if_pos (by omega), Int.toNat_natCast, if_pos (by omega), Option.bind_some, if_pos (by rw [List.length_replicate, IL_length]; omega), IL_append, IL_zeros]
end Go.Proofs.Ytpleeckbakllpaa.Gf
