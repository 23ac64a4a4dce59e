/- The document's product, powers, and words that are right, and that a page is kept as it says; no condition. -/
import Derived.Test.YtpleeckbakllpaaWvM
import Derived.Test.YtpleeckbakllpaaWvB
import Derived.Test.YtpleeckbakllpaaXWvx12
import Derived.Test.YtpleeckbakllpaaXWvx13
namespace Go.Proofs.Ytpleeckbakllpaa.Gf
open Go.RowKit Go.Proofs.YtpleeckbakllpaaX.PrintWords Go.Proofs.YtpleeckbakllpaaX.PrintLast Go.Proofs.YtpleeckbakllpaaX.PrintMore Go.Proofs.Ytpleeckbakllpaa.XWv
set_option linter.unusedSimpArgs false
set_option linter.unusedVariables false

/-! ### the document's product -/
def red (v : Nat) : E := mulr 15 1 v
theorem red_xor (u v : Nat) : red (u ^^^ v) = red u + red v := mulr_right 15 1 u v
theorem red_small (a : E) : red a.n = a := by
  refine all_E (p := fun a => red a.n = a) ?_ a
  decide +kernel
theorem mul2_xor (a b i : Nat) : (a ^^^ b) * 2 ^ i = a * 2 ^ i ^^^ b * 2 ^ i := by
  have := Nat.shiftLeft_xor_distrib (a := a) (b := b) (i := i)
  simpa [Nat.shiftLeft_eq] using this
theorem red_shift (a : E) (i : Nat) (hi : i < 8) : red (a.n * 2 ^ i) = pw 2 i * a := by
  refine Add'.ext (f := fun a => red (a.n * 2 ^ i)) (g := fun a => pw 2 i * a) (fun x y => by show red ((x + y).n * 2 ^ i) = red (x.n * 2 ^ i) + red (y.n * 2 ^ i); rw [add_n, mul2_xor, red_xor]) (fun x y => mul_add _ x y) ?_ a
  intro j hj
  revert i hi j hj
  decide +kernel
theorem red_285 (j : Nat) (hj : j < 7) : red (285 * 2 ^ j) = 0 := by
  revert j hj
  decide +kernel
theorem xtp (a : E) (i : Nat) : xt (pw 2 i * a) = pw 2 (i + 1) * a := by
  rw [xt_eq]; show 2 * (pw 2 i * a) = 2 * pw 2 i * a; rw [mul_assoc]
theorem shl_ok (a i : Nat) (ha : a < 512) (hi : i < 8) : shl .i64 (wrap64 (a : Int)) (IntKind.u64.wrap (i : Int)) = ((a * 2 ^ i : Nat) : Int) := by
  have e : IntKind.u64.wrap (i : Int) = (i : Int) := by rw [IntKind.wrap_u64]; omega
  rw [e, w64 (by omega) (by omega)]
  unfold shl
  rw [Int.toNat_natCast, show min i IntKind.i64.bits = i from Nat.min_eq_left (by show i ≤ 64; omega), IntWalk.i64_left]
  have : a * 2 ^ i ≤ 512 * 2 ^ 7 := Nat.mul_le_mul (by omega) (Nat.pow_le_pow_right (by omega) (by omega))
  rw [show ((a : Int) * 2 ^ i) = ((a * 2 ^ i : Nat) : Int) by simp]
  exact w64 (by omega) (by omega)
theorem shr_ok (a i : Nat) (ha : a < 65536) (hi : i < 16) : shr .i64 (wrap64 (a : Int)) (IntKind.u64.wrap (i : Int)) = ((a / 2 ^ i : Nat) : Int) := by
  have e : IntKind.u64.wrap (i : Int) = (i : Int) := by rw [IntKind.wrap_u64]; omega
  rw [e, w64 (by omega) (by omega)]
  unfold shr
  rw [Int.toNat_natCast, show min i IntKind.i64.bits = i from Nat.min_eq_left (by show i ≤ 64; omega)]
  simp
theorem tmod2 (q : Nat) : Int.tmod (q : Int) 2 = ((q % 2 : Nat) : Int) := by rw [Int.tmod_eq_emod_of_nonneg (by omega)]; omega
theorem ref_one (r : Nat) : ∀ (acc : Nat), acc < 2 ^ (8 + r) → r ≤ 7 → Ev (fun k => tinderboxref27_Mul.l1 k (acc : Int) (((7 + r : Nat) : Int))) (I (red acc)) := by
  induction r with
  | zero =>
    intro acc h _
    refine Ev.step (f := fun _ => some (I (red acc))) (fun k => ?_) (Ev.now _)
    rw [tinderboxref27_Mul.l1, if_neg (by omega)]
    have e : red acc = E.of acc := by rw [show acc = (E.of acc).n from (E.n_of (by simpa using h)).symm, red_small, E.n_of (by simpa using h)]
    rw [e]
    show some ((acc : Int) % 256) = some (((E.of acc).n : Nat) : Int)
    rw [E.n_of (by simpa using h)]
    congr 1
    have : acc < 256 := by simpa using h
    omega
  | succ r ih =>
    intro acc h hr
    have hacc : acc < 65536 := Nat.lt_of_lt_of_le h (by rw [show (65536 : Nat) = 2 ^ 16 from rfl]; exact Nat.pow_le_pow_right (by omega) (by omega))
    have es : shr .i64 (acc : Int) (IntKind.u64.wrap ((7 + (r + 1) : Nat) : Int)) = ((acc / 2 ^ (8 + r) : Nat) : Int) := by
      have := shr_ok acc (7 + (r + 1)) hacc (by omega)
      rw [w64 (by omega) (by omega)] at this
      rw [this, show 7 + (r + 1) = 8 + r by omega]
    have et : Int.tmod ((acc / 2 ^ (8 + r) : Nat) : Int) 2 = ((acc / 2 ^ (8 + r) % 2 : Nat) : Int) := tmod2 _
    have e8 : wrap64 (((7 + (r + 1) : Nat) : Int) - 8) = (r : Int) := by rw [w64 (by omega) (by omega)]; omega
    have e1 : wrap64 (((7 + (r + 1) : Nat) : Int) - 1) = ((7 + r : Nat) : Int) := by rw [w64 (by omega) (by omega)]; omega
    have hu : ∀ i : Nat, i < 100 → 0 ≤ IntKind.u64.wrap (i : Int) := fun i hi => by rw [IntKind.wrap_u64]; omega
    have hd : acc / 2 ^ (8 + r) < 2 := Nat.div_lt_of_lt_mul (by rw [show 8 + (r + 1) = (8 + r) + 1 by omega, Nat.pow_succ] at h; exact h)
    by_cases c : acc / 2 ^ (8 + r) % 2 = 1
    · have e285 := shl_ok 285 r (by omega) (by omega)
      rw [w64 (n := ((285 : Nat) : Int)) (by omega) (by omega)] at e285
      have b285 : 285 * 2 ^ r < 65536 := by
        have : 285 * 2 ^ r ≤ 285 * 2 ^ 6 := Nat.mul_le_mul (Nat.le_refl _) (Nat.pow_le_pow_right (by omega) (by omega))
        omega
      have hx : (acc ^^^ 285 * 2 ^ r) < 2 ^ (8 + r) := by
        have q : (acc ^^^ 285 * 2 ^ r) / 2 ^ (8 + r) = 0 := by
          have q1 : ∀ q : Nat, q < 2 → q % 2 = 1 → q = 1 := by omega
          rw [Nat.xor_div_two_pow, q1 _ hd c, Nat.pow_add, Nat.mul_div_mul_right _ _ (Nat.two_pow_pos r)]
          rfl
        exact (Nat.div_eq_zero_iff.mp q).resolve_left (by have := Nat.two_pow_pos (8 + r); omega)
      have := ih (acc ^^^ 285 * 2 ^ r) hx (by omega)
      rw [red_xor, red_285 r (by omega), add_zero] at this
      refine Ev.step (fun k => ?_) this
      rw [tinderboxref27_Mul.l1, if_pos (by omega), if_pos (hu _ (by omega)), es, et, if_pos (by omega), e8, if_pos (hu _ (by omega)), e1]
      rw [show shl .i64 285 (IntKind.u64.wrap (r : Int)) = ((285 * 2 ^ r : Nat) : Int) from e285, xor_i64 _ _ hacc b285]
    · have := ih acc (Nat.lt_of_not_le fun q => c (by have := (Nat.one_le_div_iff (Nat.two_pow_pos (8 + r))).mpr q; omega)) (by omega)
      refine Ev.step (fun k => ?_) this
      rw [tinderboxref27_Mul.l1, if_pos (by omega), if_pos (hu _ (by omega)), es, et, if_neg (by omega), e1]
theorem small_shift {a i : Nat} (ha : a < 256) (hi : i ≤ 7) : a * 2 ^ i < 2 ^ 15 := by
  have : a * 2 ^ i ≤ 255 * 2 ^ 7 := Nat.mul_le_mul (by omega) (Nat.pow_le_pow_right (by omega) hi)
  omega
theorem ref_two (a b : E) (r : Nat) : ∀ (acc i : Nat), i + r = 8 → acc < 2 ^ 15 → Ev (fun k => tinderboxref27_Mul.l0 k (I a) (I b) (acc : Int) (i : Int)) (I (red acc + mulr r (pw 2 i * a) (b.n / 2 ^ i))) := by
  have hu : ∀ i : Nat, i < 100 → 0 ≤ IntKind.u64.wrap (i : Int) := fun i hi => by rw [IntKind.wrap_u64]; omega
  induction r with
  | zero =>
    intro acc i hi h
    refine Ev.step (fun k => ?_) (?_ : Ev (fun k => tinderboxref27_Mul.l1 k (acc : Int) ((7 + 7 : Nat) : Int)) _)
    · rw [tinderboxref27_Mul.l0, if_neg (by omega)]
      rfl
    · show Ev _ (I (red acc + 0))
      rw [add_zero]
      exact ref_one 7 acc h (by omega)
  | succ r ih =>
    intro acc i hi h
    have hb := b.n_lt
    have ha := a.n_lt
    have hi7 : i ≤ 7 := by omega
    have hi8 : i < 8 := by omega
    have hi1 : i + 1 + r = 8 := by omega
    have hi9 : (i : Int) < 8 := by omega
    have hi100 : i < 100 := by omega
    have es := shr_ok b.n i (by omega) (by omega)
    have es' := shl_ok a.n i (by omega) (by omega)
    have et : Int.tmod ((b.n / 2 ^ i : Nat) : Int) 2 = ((b.n / 2 ^ i % 2 : Nat) : Int) := tmod2 _
    have e1 : wrap64 ((i : Int) + 1) = ((i + 1 : Nat) : Int) := by rw [w64 (by omega) (by omega)]; omega
    show Ev _ (I (red acc + ((if b.n / 2 ^ i % 2 = 1 then pw 2 i * a else 0) + mulr r (xt (pw 2 i * a)) (b.n / 2 ^ i / 2))))
    rw [xtp, Nat.div_div_eq_div_mul, ← Nat.pow_succ, ← add_assoc]
    by_cases c : b.n / 2 ^ i % 2 = 1
    · have hsm : a.n * 2 ^ i < 2 ^ 15 := small_shift ha hi7
      have b1 : acc < 65536 := Nat.lt_of_lt_of_le h (by decide)
      have b2 : a.n * 2 ^ i < 65536 := Nat.lt_of_lt_of_le hsm (by decide)
      have := ih (acc ^^^ a.n * 2 ^ i) (i + 1) hi1 (Nat.xor_lt_two_pow h hsm)
      rw [red_xor, red_shift a i hi8] at this
      have c2 : ((b.n / 2 ^ i % 2 : Nat) : Int) = 1 := by rw [c]; rfl
      rw [if_pos c]
      refine Ev.step (fun k => ?_) this
      rw [tinderboxref27_Mul.l0, if_pos hi9, if_pos (hu _ hi100)]
      rw [show shr .i64 (wrap64 (I b)) (IntKind.u64.wrap (i : Int)) = ((b.n / 2 ^ i : Nat) : Int) from es, et, if_pos c2]
      rw [show shl .i64 (wrap64 (I a)) (IntKind.u64.wrap (i : Int)) = ((a.n * 2 ^ i : Nat) : Int) from es', xor_i64 _ _ b1 b2, e1]
    · rw [if_neg c, add_zero]
      have c2 : ¬ ((b.n / 2 ^ i % 2 : Nat) : Int) = 1 := fun q => c (by exact_mod_cast q)
      refine Ev.step (fun k => ?_) (ih acc (i + 1) hi1 h)
      rw [tinderboxref27_Mul.l0, if_pos hi9, if_pos (hu _ hi100)]
      rw [show shr .i64 (wrap64 (I b)) (IntKind.u64.wrap (i : Int)) = ((b.n / 2 ^ i : Nat) : Int) from es, et, if_neg c2, e1]
theorem ref_mul (a b : E) : Ev (fun k => tinderboxref27_Mul.f k (I a) (I b)) (I (a * b)) := by
  have := ref_two a b 8 0 0 (by omega) (by omega)
  have e : red 0 + mulr 8 (pw 2 0 * a) (b.n / 2 ^ 0) = a * b := by
    rw [show red 0 = 0 from red_small 0, zero_add, Nat.pow_zero, Nat.div_one]
    show mulr 8 (1 * a) b.n = _
    rw [one_mul]
    rfl
  rw [e] at this
  exact this
theorem ref_pow_loop (a : E) (n : Nat) (hn : n < 1000000) (r : Nat) : ∀ (o : E) (i : Nat), i + r = n → Ev (fun k => tinderboxref27_Pow.l0 k (I a) (n : Int) (I o) (i : Int)) (I (o * pw a r)) := by
  induction r with
  | zero =>
    intro o i hi
    refine Ev.step (f := fun _ => some (I o)) (fun k => ?_) (by show Ev _ (I (o * 1)); rw [mul_one]; exact Ev.now _)
    rw [tinderboxref27_Pow.l0, if_neg (by omega)]
  | succ r ih =>
    intro o i hi
    have := ih (o * a) (i + 1) (by omega)
    rw [mul_assoc] at this
    refine Ev.step (f := fun k => (tinderboxref27_Mul.f k (I o) (I a)).bind fun t => tinderboxref27_Pow.l0 k (I a) (n : Int) t ((i + 1 : Nat) : Int)) (fun k => ?_) (Ev.bind (ref_mul o a) this)
    rw [tinderboxref27_Pow.l0, if_pos (by omega), w64 (by omega) (by omega)]
    rfl
theorem ref_pow (a : E) (n : Nat) (hn : n < 1000000) : Ev (fun k => tinderboxref27_Pow.f k (I a) (n : Int)) (I (pw a n)) := by
  have := ref_pow_loop a n hn n 1 0 (by omega)
  rw [one_mul] at this
  exact this


theorem r29_in (s : ByteArray) (x : E) (p i : Nat) (hs : s.size < 1000000) {R : Bool} (hR : Ev (fun k => if I (ev (wd s) x) = 0 then tinderboxref29_right.l0 k s (p : Int) (wrap64 ((i : Int) + 1)) else some false) R) (r : Nat) :
    ∀ j, j + r = s.size → Ev (fun k => tinderboxref29_right.l1 k s (p : Int) (i : Int) (I x) (I (ev ((toE s).take j).reverse x)) (j : Int)) R := by
  induction r with
  | zero =>
    intro j hj
    refine Ev.step (fun k => ?_) hR
    rw [tinderboxref29_right.l1, if_neg (by omega), List.take_of_length_le (by rw [toE_length]; omega)]
    rfl
  | succ r ih =>
    intro j hj
    have hl : j < (toE s).length := by rw [toE_length]; omega
    have e : ev ((toE s).take (j + 1)).reverse x = ev ((toE s).take j).reverse x * x + (toE s).getD j 0 := by
      rw [List.take_succ_eq_append_getElem hl, List.reverse_append, List.reverse_singleton, List.singleton_append, ev_cons, List.getD_eq_getElem?_getD, List.getElem?_eq_getElem hl, add_comm, mul_comm]
      rfl
    have := ih (j + 1) (by omega)
    rw [e, ← I_xor] at this
    refine Ev.step (f := fun k => (tinderboxref27_Mul.f k (I (ev ((toE s).take j).reverse x)) (I x)).bind fun t => tinderboxref29_right.l1 k s (p : Int) (i : Int) (I x) (Go.bits .xor .u8 t (I ((toE s).getD j 0))) ((j + 1 : Nat) : Int)) (fun k => ?_) (Ev.bind (ref_mul _ _) this)
    rw [tinderboxref29_right.l1, if_pos (by omega)]
    congr 1
    funext t
    rw [if_pos (by omega), w64 (by omega) (by omega), bt_toE]
    rfl
theorem r29_loop (s : ByteArray) (p : Nat) (hs : s.size < 1000000) (hp : p < 1000000) (hok : Ok s p) (r : Nat) : ∀ i, i + r = p → Ev (fun k => tinderboxref29_right.l0 k s (p : Int) (i : Int)) true := by
  induction r with
  | zero =>
    intro i hi
    refine Ev.step (f := fun _ => some true) (fun k => ?_) (Ev.now _)
    rw [tinderboxref29_right.l0, if_neg (by omega)]
  | succ r ih =>
    intro i hi
    have e : wrap64 ((i : Int) + 1) = ((i + 1 : Nat) : Int) := by rw [w64 (by omega) (by omega)]; omega
    have h := r29_in s (X i) p i hs (R := true) (ifp (I_eq_zero.mpr (hok i (by omega))) (by rw [e]; exact ih (i + 1) (by omega))) s.size 0 (by omega)
    rw [List.take_zero] at h
    refine Ev.step (f := fun k => (tinderboxref27_Pow.f k (I 2) (i : Int)).bind fun t464 => tinderboxref29_right.l1 k s (p : Int) (i : Int) t464 0 0) (fun k => ?_) (Ev.bind (ref_pow 2 i (by omega)) h)
    rw [tinderboxref29_right.l0, if_pos (by omega)]
    rfl
theorem kept_word (raw : ByteArray) (W P n : Nat) (b Rr : Int) (hW : 0 < W) (hW2 : W ≤ 1024) (hn : n < W) (hr : raw.size < 100000) (hP : P < 1000000) (hok : Ok (partB raw W n) P) {R : Bool} (hR : Ev (fun k => tinderboxref29_Kept.l1 k raw ((n + 1 : Nat) : Int) (W : Int) b (P : Int) Rr) R) (r : Nat) :
    ∀ j, j + r = plen raw.size W n → Ev (fun k => tinderboxref29_Kept.l2 k raw (n : Int) (IL ((List.range j).map fun j => bat raw (n + W * j))) ((n + W * j : Nat) : Int) (W : Int) b (P : Int) Rr) R := by
  have e : wrap64 ((n : Int) + 1) = ((n + 1 : Nat) : Int) := by rw [w64 (by omega) (by omega)]; omega
  have hpl : plen raw.size W n ≤ raw.size - n + W - 1 := Nat.div_le_self _ _
  induction r with
  | zero =>
    intro j hj
    have hnot : ¬ n + W * j < raw.size := fun q => by have := (plen_iff (N := raw.size) (n := n) (j := j) hW).mpr q; omega
    have hright := r29_loop (partB raw W n) P (by rw [partB_size]; omega) hP hok P 0 (by omega)
    refine Ev.step (f := fun k => (tinderboxref29_right.f k (partB raw W n) (P : Int)).bind fun t474 => (if t474 = true then (tinderboxref29_Kept.l1 k raw ((n + 1 : Nat) : Int) (W : Int) b (P : Int) Rr) else (some false))) (fun k => ?_) (Ev.bind hright (ifp rfl hR))
    rw [tinderboxref29_Kept.l2, if_neg (by omega), e]
    unfold partB tabB ofE
    rw [show plen raw.size W n = j by omega]
  | succ r ih =>
    intro j hj
    have hin : n + W * j < raw.size := (plen_iff hW).mp (by omega)
    have hl : j ≤ W * j := Nat.le_mul_of_pos_left j hW
    have h := ih (j + 1) (by omega)
    rw [List.range_succ, List.map_append, List.map_cons, List.map_nil, IL_append] at h
    refine Ev.step (fun k => ?_) h
    rw [tinderboxref29_Kept.l2, if_pos (by omega), if_pos (by omega), if_pos (by rw [IL_length, List.length_map, List.length_range]; omega), bt_bat, w64 (by omega) (by omega), show ((n + W * j : Nat) : Int) + (W : Int) = ((n + W * (j + 1) : Nat) : Int) by rw [Nat.mul_succ]; omega]
    rfl
theorem kept_words (raw : ByteArray) (W P : Nat) (b Rr : Int) (hW : 0 < W) (hW2 : W ≤ 1024) (hr : raw.size < 100000) (hP : P < 1000000) (hok : ∀ n, n < W → Ok (partB raw W n) P) (r : Nat) :
    ∀ n, n + r = W → Ev (fun k => tinderboxref29_Kept.l1 k raw (n : Int) (W : Int) b (P : Int) Rr) true := by
  induction r with
  | zero =>
    intro n hn
    refine Ev.step (f := fun _ => some true) (fun k => ?_) (Ev.now _)
    rw [tinderboxref29_Kept.l1, if_neg (by omega)]
  | succ r ih =>
    intro n hn
    have h := kept_word raw W P n b Rr hW hW2 (by omega) hr hP (hok n (by omega)) (ih (n + 1) (by omega)) (plen raw.size W n) 0 (by omega)
    rw [List.range_zero, List.map_nil, Nat.mul_zero, Nat.add_zero] at h
    refine Ev.step (fun k => ?_) h
    rw [tinderboxref29_Kept.l1, if_pos (by omega)]
    rfl
theorem kept_bytes (s raw m : ByteArray) (N W P : Nat) (b Rr : Int) (hs : s.size = N) (hm : m.size = N) (hr : N ≤ raw.size) (hN : N < 1000000) (hb : ∀ i, i < N → bat raw i = bat s i + bat m i) {R : Bool} (hR : Ev (fun k => tinderboxref29_Kept.l1 k raw 0 (W : Int) b (P : Int) Rr) R) (r : Nat) :
    ∀ i, i + r = N → Ev (fun k => tinderboxref29_Kept.l0 k s raw m (i : Int) (W : Int) b (P : Int) Rr) R := by
  induction r with
  | zero =>
    intro i hi
    refine Ev.step (fun k => ?_) hR
    rw [tinderboxref29_Kept.l0, if_neg (by omega)]
  | succ r ih =>
    intro i hi
    refine Ev.step (fun k => ?_) (ih (i + 1) (by omega))
    rw [tinderboxref29_Kept.l0, if_pos (by omega), if_pos (by omega), if_pos (by omega), if_pos (by omega), bt_bat, bt_bat, bt_bat, I_xor, if_pos (by rw [hb i (by omega)]), w64 (by omega) (by omega)]
    rfl
theorem kept_ev {N P W D : Nat} (h : Pg N P W D) (s raw : ByteArray) (hs : s.size = N) (hr : raw.size = N + W * P) (seed : Int) (hb : ∀ i, i < N → bat raw i = bat (mixB s (maskB seed N)) i) (hok : ∀ n, n < W → Ok (partB raw W n) P) :
    Ev (fun k => tinderboxref29_Kept.f k s raw (W : Int) (D : Int) (P : Int) ((N + W * P : Nat) : Int) seed) true := by
  have hN2 := h.n2
  have hwp := h.wp
  have hp2 := h.p2
  have hW2 : W ≤ 1024 := Nat.le_trans h.s.wN h.n2
  have hmk := rmask_ev seed (N : Int) (by omega)
  rw [Int.toNat_natCast] at hmk
  have h1 := kept_words raw W P (D : Int) ((N + W * P : Nat) : Int) h.s.w1 hW2 (by omega) (by omega) hok W 0 (by omega)
  have h0 := kept_bytes s raw (maskB seed N) N W P (D : Int) ((N + W * P : Nat) : Int) hs (maskB_size _ _) (by omega) (by omega) (fun i hi => by rw [hb i hi, bat_mixB (by omega) (by rw [maskB_size]; exact hi)]) h1 N 0 (by omega)
  have hj : Ev (fun k => tinderboxref29_Kept.j0 k s raw seed false (W : Int) (D : Int) (P : Int) ((N + W * P : Nat) : Int)) true :=
    Ev.step (fun k => by rw [tinderboxref29_Kept.j0, if_neg (by decide), hs]) (Ev.bind hmk h0)
  refine Ev.congr (fun k => ?_) hj
  rw [tinderboxref29_Kept.f, hr, if_pos rfl, page_eq h, hs, show ((N : Int) != (N : Int)) = false by simp]
end Go.Proofs.Ytpleeckbakllpaa.Gf
