/- The bytes are a field: its product, sums, inverses and the powers of two; no condition. -/
import Derived.Test.YtpleeckbakllpaaXWvx0
namespace Go.Proofs.Ytpleeckbakllpaa.Gf
set_option linter.unusedSimpArgs false
set_option linter.unusedVariables false

/-- A byte as a number of the field. -/
def E : Type := BitVec 8
namespace E
def n (a : E) : Nat := BitVec.toNat a
def of (m : Nat) : E := BitVec.ofNat 8 m
theorem n_lt (a : E) : a.n < 256 := BitVec.isLt a
theorem n_inj {a b : E} (h : a.n = b.n) : a = b := BitVec.eq_of_toNat_eq h
theorem of_n (a : E) : of a.n = a := n_inj (by show (BitVec.ofNat 8 a.n).toNat = a.n; rw [BitVec.toNat_ofNat]; exact Nat.mod_eq_of_lt a.n_lt)
theorem n_of {m : Nat} (h : m < 256) : (of m).n = m := by show (BitVec.ofNat 8 m).toNat = m; rw [BitVec.toNat_ofNat]; exact Nat.mod_eq_of_lt h
end E
instance : DecidableEq E := inferInstanceAs (DecidableEq (BitVec 8))
instance : Add E := ⟨fun a b => BitVec.xor a b⟩
instance : OfNat E 0 := ⟨E.of 0⟩
instance : OfNat E 1 := ⟨E.of 1⟩
instance : OfNat E 2 := ⟨E.of 2⟩
theorem add_n (a b : E) : (a + b).n = a.n ^^^ b.n := BitVec.toNat_xor a b
theorem z_n : (0 : E).n = 0 := rfl
theorem add_assoc (a b c : E) : a + b + c = a + (b + c) := BitVec.xor_assoc a b c
theorem add_comm (a b : E) : a + b = b + a := BitVec.xor_comm a b
theorem add_self (a : E) : a + a = 0 := BitVec.xor_self
theorem zero_add (a : E) : 0 + a = a := E.n_inj (by rw [add_n, z_n, Nat.zero_xor])
theorem add_zero (a : E) : a + 0 = a := by rw [add_comm, zero_add]
theorem add_left_comm (a b c : E) : a + (b + c) = b + (a + c) := by rw [← add_assoc, add_comm a, add_assoc]
theorem add_self_left (a b : E) : a + (a + b) = b := by rw [← add_assoc, add_self, zero_add]
theorem eq_of_add {a b : E} (h : a + b = 0) : a = b := by
  have := congrArg (· + b) h
  simpa [add_assoc, add_self, add_zero, zero_add] using this
theorem all_E {p : E → Prop} (h : ∀ m, m < 256 → p (E.of m)) (a : E) : p a := by have := h a.n a.n_lt; rwa [E.of_n] at this

/-- Twice a number. -/
def xt (a : E) : E := E.of (if a.n * 2 > 255 then a.n * 2 ^^^ 285 else a.n * 2)
/-- A number times the bits of another one. -/
def mulr : Nat → E → Nat → E
  | 0, _, _ => 0
  | k + 1, x, m => (if m % 2 = 1 then x else 0) + mulr k (xt x) (m / 2)
instance : Mul E := ⟨fun a b => mulr 8 a b.n⟩
theorem mul_def (a b : E) : a * b = mulr 8 a b.n := rfl

theorem par (a b : Nat) : (a ^^^ b) % 2 = (a + b) % 2 := by
  have := Nat.xor_mod_two_eq_one (a := a) (b := b)
  omega
theorem xt_n (a : E) : (xt a).n = if a.n * 2 > 255 then a.n * 2 ^^^ 285 else a.n * 2 := by
  have h : ∀ m, m < 256 → (if m * 2 > 255 then m * 2 ^^^ 285 else m * 2) < 256 := by decide +kernel
  exact E.n_of (h a.n a.n_lt)

def Add' (f : E → E) : Prop := ∀ a b, f (a + b) = f a + f b
theorem Add'.zero {f : E → E} (h : Add' f) : f 0 = 0 := by
  have := h 0 0
  rw [add_self, add_self] at this
  exact this
/-- The parts of a number. -/
def bit (i m : Nat) : E := if m / 2 ^ i % 2 = 1 then E.of (2 ^ i) else 0
theorem parts (a : E) : a = bit 0 a.n + (bit 1 a.n + (bit 2 a.n + (bit 3 a.n + (bit 4 a.n + (bit 5 a.n + (bit 6 a.n + bit 7 a.n)))))) := by
  refine all_E (p := fun a => a = bit 0 a.n + (bit 1 a.n + (bit 2 a.n + (bit 3 a.n + (bit 4 a.n + (bit 5 a.n + (bit 6 a.n + bit 7 a.n))))))) ?_ a
  decide +kernel
theorem Add'.ext {f g : E → E} (hf : Add' f) (hg : Add' g) (h : ∀ i, i < 8 → f (E.of (2 ^ i)) = g (E.of (2 ^ i))) (a : E) : f a = g a := by
  have hb : ∀ i, i < 8 → f (bit i a.n) = g (bit i a.n) := by
    intro i hi
    unfold bit
    by_cases c : a.n / 2 ^ i % 2 = 1
    · rw [if_pos c]; exact h i hi
    · rw [if_neg c, hf.zero, hg.zero]
  rw [parts a]
  simp only [hf _ _, hg _ _]
  rw [hb 0 (by omega), hb 1 (by omega), hb 2 (by omega), hb 3 (by omega), hb 4 (by omega), hb 5 (by omega), hb 6 (by omega), hb 7 (by omega)]

theorem xt_add : Add' xt := by
  intro a b
  apply E.n_inj
  have ha := a.n_lt
  have hb := b.n_lt
  have e : (a.n ^^^ b.n) * 2 = a.n * 2 ^^^ b.n * 2 := by
    have := Nat.shiftLeft_xor_distrib (a := a.n) (b := b.n) (i := 1)
    simpa [Nat.shiftLeft_eq] using this
  have t : ((a.n ^^^ b.n) * 2 > 255) ↔ ¬ ((a.n * 2 > 255) ↔ (b.n * 2 > 255)) := by
    have q : ∀ m, m < 256 → (m * 2 > 255 ↔ m / 128 % 2 = 1) := by intro m hm; omega
    have hx : a.n ^^^ b.n < 256 := Nat.xor_lt_two_pow (n := 8) ha hb
    rw [q _ hx, q _ ha, q _ hb]
    have : (a.n ^^^ b.n) / 128 = a.n / 128 ^^^ b.n / 128 := by
      have := Nat.shiftRight_xor_distrib (a := a.n) (b := b.n) (i := 7)
      simpa [Nat.shiftRight_eq_div_pow] using this
    rw [this, par]
    omega
  rw [xt_n, add_n, add_n, xt_n, xt_n, e]
  rw [e] at t
  by_cases c1 : a.n * 2 > 255 <;> by_cases c2 : b.n * 2 > 255
  · rw [if_pos c1, if_pos c2, if_neg (by simp [t, c1, c2])]
    rw [Nat.xor_assoc, Nat.xor_comm 285, Nat.xor_assoc, Nat.xor_self, Nat.xor_zero]
  · rw [if_pos c1, if_neg c2, if_pos (by simp [t, c1, c2])]
    rw [Nat.xor_assoc, Nat.xor_assoc, Nat.xor_comm 285]
  · rw [if_neg c1, if_pos c2, if_pos (by simp [t, c1, c2])]
    rw [Nat.xor_assoc]
  · rw [if_neg c1, if_neg c2, if_neg (by simp [t, c1, c2])]

theorem mulr_left (k : Nat) : ∀ m, Add' (fun x => mulr k x m) := by
  induction k with
  | zero => intro m a b; exact (add_self 0).symm
  | succ k ih =>
    intro m a b
    show (if m % 2 = 1 then a + b else 0) + mulr k (xt (a + b)) (m / 2) = ((if m % 2 = 1 then a else 0) + mulr k (xt a) (m / 2)) + ((if m % 2 = 1 then b else 0) + mulr k (xt b) (m / 2))
    rw [xt_add a b, show mulr k (xt a + xt b) (m / 2) = mulr k (xt a) (m / 2) + mulr k (xt b) (m / 2) from ih (m / 2) (xt a) (xt b)]
    by_cases c : m % 2 = 1
    · simp only [if_pos c]; simp only [add_assoc, add_comm, add_left_comm]
    · simp only [if_neg c, zero_add]
theorem mulr_right (k : Nat) : ∀ x m1 m2, mulr k x (m1 ^^^ m2) = mulr k x m1 + mulr k x m2 := by
  induction k with
  | zero => intro x a b; exact (add_self 0).symm
  | succ k ih =>
    intro x a b
    show (if (a ^^^ b) % 2 = 1 then x else 0) + mulr k (xt x) ((a ^^^ b) / 2) = ((if a % 2 = 1 then x else 0) + mulr k (xt x) (a / 2)) + ((if b % 2 = 1 then x else 0) + mulr k (xt x) (b / 2))
    rw [Nat.xor_div_two, ih, par]
    have hp : (if (a + b) % 2 = 1 then x else (0 : E)) = (if a % 2 = 1 then x else 0) + (if b % 2 = 1 then x else 0) := by
      by_cases c : a % 2 = 1 <;> by_cases d : b % 2 = 1
      · rw [if_pos c, if_pos d, if_neg (by omega), add_self]
      · rw [if_pos c, if_neg d, if_pos (by omega), add_zero]
      · rw [if_neg c, if_pos d, if_pos (by omega), zero_add]
      · rw [if_neg c, if_neg d, if_neg (by omega), add_zero]
    rw [hp]
    simp only [add_assoc, add_comm, add_left_comm]
theorem add_mul (a b c : E) : (a + b) * c = a * c + b * c := mulr_left 8 c.n a b
theorem mul_add (a b c : E) : a * (b + c) = a * b + a * c := by rw [mul_def, add_n, mulr_right]; rfl

theorem mul_comm (a b : E) : a * b = b * a := by
  refine Add'.ext (f := fun a => a * b) (g := fun a => b * a) (fun x y => add_mul x y b) (fun x y => mul_add b x y) ?_ a
  intro i hi
  refine Add'.ext (f := fun b => E.of (2 ^ i) * b) (g := fun b => b * E.of (2 ^ i)) (fun x y => mul_add _ x y) (fun x y => add_mul x y _) ?_ b
  revert i hi
  decide +kernel
theorem mul_assoc (a b c : E) : a * b * c = a * (b * c) := by
  refine Add'.ext (f := fun a => a * b * c) (g := fun a => a * (b * c)) (fun x y => by simp only [add_mul]) (fun x y => by simp only [add_mul]) ?_ a
  intro i hi
  refine Add'.ext (f := fun b => E.of (2 ^ i) * b * c) (g := fun b => E.of (2 ^ i) * (b * c)) (fun x y => by simp only [add_mul, mul_add]) (fun x y => by simp only [add_mul, mul_add]) ?_ b
  intro j hj
  refine Add'.ext (f := fun c => E.of (2 ^ i) * E.of (2 ^ j) * c) (g := fun c => E.of (2 ^ i) * (E.of (2 ^ j) * c)) (fun x y => by simp only [mul_add]) (fun x y => by simp only [mul_add]) ?_ c
  revert i hi j hj
  decide +kernel
theorem mul_left_comm (a b c : E) : a * (b * c) = b * (a * c) := by rw [← mul_assoc, mul_comm a, mul_assoc]
theorem mul_one (a : E) : a * 1 = a := by
  refine all_E (p := fun a => a * 1 = a) ?_ a
  decide +kernel
theorem one_mul (a : E) : 1 * a = a := by rw [mul_comm, mul_one]
theorem mul_zero (a : E) : a * 0 = 0 := Add'.zero (f := fun b => a * b) (mul_add a)
theorem zero_mul (a : E) : 0 * a = 0 := by rw [mul_comm, mul_zero]
theorem one_ne : (1 : E) ≠ 0 := by decide
theorem xt_eq (a : E) : xt a = 2 * a := by
  refine all_E (p := fun a => xt a = 2 * a) ?_ a
  decide +kernel

/-! ### powers -/
def pw (a : E) : Nat → E
  | 0 => 1
  | n + 1 => a * pw a n
theorem pw_add (a : E) (m n : Nat) : pw a (m + n) = pw a m * pw a n := by
  induction m with
  | zero => rw [Nat.zero_add]; exact (one_mul _).symm
  | succ m ih => rw [show m + 1 + n = (m + n) + 1 from by omega]; show a * pw a (m + n) = a * pw a m * pw a n; rw [ih, mul_assoc]
theorem pw_one (n : Nat) : pw 1 n = 1 := by
  induction n with
  | zero => rfl
  | succ n ih => show 1 * pw 1 n = 1; rw [ih, mul_one]
theorem pw_mul (a : E) (m n : Nat) : pw a (m * n) = pw (pw a m) n := by
  induction n with
  | zero => rfl
  | succ n ih => rw [Nat.mul_succ, Nat.add_comm, pw_add, ih]; rfl
theorem pw_mul_base (a b : E) (n : Nat) : pw (a * b) n = pw a n * pw b n := by
  induction n with
  | zero => exact (one_mul _).symm
  | succ n ih => show a * b * pw (a * b) n = a * pw a n * (b * pw b n); rw [ih]; simp only [mul_assoc, mul_comm, mul_left_comm]

/-- A power by squaring (eight steps). -/
def sq : Nat → E → E → Nat → E
  | 0, _, o, _ => o
  | k + 1, a, o, m => sq k (a * a) (if m % 2 = 1 then o * a else o) (m / 2)
theorem sq_eq (k : Nat) : ∀ a o m, m < 2 ^ k → sq k a o m = o * pw a m := by
  induction k with
  | zero => intro a o m h; rw [show m = 0 from by simpa using h]; exact (mul_one o).symm
  | succ k ih =>
    intro a o m h
    show sq k (a * a) (if m % 2 = 1 then o * a else o) (m / 2) = o * pw a m
    rw [ih _ _ _ (by rw [Nat.pow_succ] at h; omega)]
    have e : pw (a * a) (m / 2) = pw a (2 * (m / 2)) := by
      rw [pw_mul]; exact congrArg (fun z => pw z (m / 2)) (show a * a = a * (a * 1) by rw [mul_one])
    rw [e]
    by_cases c : m % 2 = 1
    · rw [if_pos c]
      have : m = 1 + 2 * (m / 2) := by omega
      conv => rhs; rw [this, pw_add]
      rw [mul_assoc]
      exact congrArg (fun z => o * (z * pw a (2 * (m / 2)))) (mul_one a).symm
    · rw [if_neg c]
      have : m = 2 * (m / 2) := by omega
      conv => rhs; rw [this]
theorem pw_254 (a : E) (h : a ≠ 0) : a * pw a 254 = 1 := by
  rw [← one_mul (pw a 254), ← sq_eq 8 a 1 254 (by omega)]
  revert h
  refine all_E (p := fun a => a ≠ 0 → a * sq 8 a 1 254 = 1) ?_ a
  decide +kernel
def inv (a : E) : E := pw a 254
theorem mul_inv {a : E} (h : a ≠ 0) : a * inv a = 1 := pw_254 a h
theorem inv_mul {a : E} (h : a ≠ 0) : inv a * a = 1 := by rw [mul_comm, mul_inv h]
theorem pw_255 {a : E} (h : a ≠ 0) : pw a 255 = 1 := pw_254 a h
theorem ne_of_mul {a b : E} (h : a * b = 0) : a = 0 ∨ b = 0 := by
  by_cases c : a = 0
  · exact .inl c
  · right
    have := congrArg (inv a * ·) h
    simpa [← mul_assoc, inv_mul c, one_mul, mul_zero] using this
theorem mul_ne {a b : E} (h : a ≠ 0) (k : b ≠ 0) : a * b ≠ 0 := fun e => (ne_of_mul e).elim h k
theorem cancel {a b c : E} (h : a ≠ 0) (e : a * b = a * c) : b = c := by
  have := congrArg (inv a * ·) e
  simpa [← mul_assoc, inv_mul h, one_mul] using this
theorem pw_ne {a : E} (h : a ≠ 0) (n : Nat) : pw a n ≠ 0 := by
  induction n with
  | zero => exact one_ne
  | succ n ih => exact mul_ne h ih
theorem two_ne : (2 : E) ≠ 0 := by decide +kernel
theorem pw_mod {a : E} (h : a ≠ 0) (n : Nat) : pw a (n % 255) = pw a n := by
  conv => rhs; rw [← Nat.div_add_mod n 255, pw_add, pw_mul, pw_255 h, pw_one, one_mul]

/-- No power of two below the 255th is one again. -/
def chk : Nat → E → Bool
  | 0, _ => true
  | k + 1, x => x != 1 && chk k (xt x)
theorem chk_ok (k : Nat) : ∀ m, chk k (pw 2 m) = true → ∀ i, i < k → pw 2 (m + i) ≠ 1 := by
  induction k with
  | zero => intro m _ i h; omega
  | succ k ih =>
    intro m h i hi
    have h' : (pw 2 m != 1 && chk k (xt (pw 2 m))) = true := h
    rw [Bool.and_eq_true] at h'
    have e : xt (pw 2 m) = pw 2 (m + 1) := xt_eq _
    cases i with
    | zero => simpa using h'.1
    | succ i =>
      rw [show m + (i + 1) = (m + 1) + i from by omega]
      exact ih (m + 1) (e ▸ h'.2) i (by omega)
theorem pw_two_ne {i : Nat} (h : 0 < i) (k : i < 255) : pw 2 i ≠ 1 := by
  have := chk_ok 254 1 (by decide +kernel) (i - 1) (by omega)
  rwa [show 1 + (i - 1) = i from by omega] at this
theorem pw_two_inj {i j : Nat} (hi : i < 255) (hj : j < 255) (h : pw 2 i = pw 2 j) : i = j := by
  have go : ∀ i j : Nat, i < j → j < 255 → pw 2 i = pw 2 j → False := by
    intro i j c hj h
    apply pw_two_ne (i := j - i) (by omega) (by omega)
    rw [show j = i + (j - i) from by omega, pw_add] at h
    exact (cancel (pw_ne two_ne i) (by rw [mul_one]; exact h)).symm
  rcases Nat.lt_trichotomy i j with c | c | c
  · exact (go i j c hj h).elim
  · exact c
  · exact (go j i c hi h.symm).elim
/-- The root of a place, and one over it. -/
def X (j : Nat) : E := pw 2 j
theorem X_ne (j : Nat) : X j ≠ 0 := pw_ne two_ne j
theorem X_inj {i j : Nat} (hi : i < 255) (hj : j < 255) (h : X i = X j) : i = j := pw_two_inj hi hj h
end Go.Proofs.Ytpleeckbakllpaa.Gf
