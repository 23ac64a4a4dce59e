/- How a page becomes words, bytes that look like chance, each word's bytes: what the program's functions compute; no condition. -/
import Derived.Test.YtpleeckbakllpaaGfG
import Derived.Test.YtpleeckbakllpaaXWvx2
import Derived.Test.YtpleeckbakllpaaXWvx3
namespace Go.Proofs.Ytpleeckbakllpaa.Gf
open Go.RowKit Go.Proofs.YtpleeckbakllpaaX.PrintWords Go.Proofs.YtpleeckbakllpaaX.PrintLast Go.Proofs.YtpleeckbakllpaaX.PrintMore Go.Proofs.Ytpleeckbakllpaa.XWv
set_option linter.unusedSimpArgs false
set_option linter.unusedVariables false
/-- A byte of a string. -/
def bat (s : ByteArray) (i : Nat) : E := (toE s).getD i 0
theorem bt_bat (s : ByteArray) (i : Nat) : bt s (i : Int) = I (bat s i) := bt_toE s i
theorem bat_ofE (l : List E) (i : Nat) : bat (ofE l) i = l.getD i 0 := by unfold bat; rw [toE_ofE]
theorem size_ofE (l : List E) : (ofE l).size = l.length := by rw [← toE_length, toE_ofE]
theorem bat_ext {s t : ByteArray} (h : s.size = t.size) (k : ∀ i, i < s.size → bat s i = bat t i) : s = t :=
  toE_inj (ext_getD (by rw [toE_length, toE_length, h]) fun j hj => k j (by rw [toE_length] at hj; exact hj))
theorem getD_tab (f : Nat → E) (n i : Nat) : ((List.range n).map f).getD i 0 = if i < n then f i else 0 := by
  rw [List.getD_eq_getElem?_getD, List.getElem?_map]
  by_cases c : i < n
  · simp [c]
  · simp [c]
/-- A string by its bytes. -/
def tabB (n : Nat) (f : Nat → E) : ByteArray := ofE ((List.range n).map f)
theorem tabB_size (n : Nat) (f : Nat → E) : (tabB n f).size = n := by unfold tabB; rw [size_ofE, List.length_map, List.length_range]
theorem bat_tabB {n : Nat} {f : Nat → E} {i : Nat} (h : i < n) : bat (tabB n f) i = f i := by unfold tabB; rw [bat_ofE, getD_tab, if_pos h]
theorem ofE_tabB {z : List E} {n : Nat} {f : Nat → E} (h : z.length = n) (k : ∀ j, j < n → z.getD j 0 = f j) : ofE z = tabB n f := by
  apply bat_ext (by rw [size_ofE, tabB_size, h])
  intro i hi
  rw [size_ofE, h] at hi
  rw [bat_ofE, bat_tabB hi, k i hi]

/-! ### exclusive or -/
def mixB (a b : ByteArray) : ByteArray := tabB (min a.size b.size) fun j => bat a j + bat b j
theorem mix_loop (a b : ByteArray) (N : Nat) (ha : N ≤ a.size) (hb : N ≤ b.size) (hN : N < 1000000) (r : Nat) : ∀ (y : List E) (i : Nat), i + r = N → y.length = N → (∀ j, j < i → y.getD j 0 = bat a j + bat b j) →
    Ev (fun k => weave_Mix.l0 k a b (IL y) (N : Int) (i : Int)) (tabB N fun j => bat a j + bat b j) := by
  induction r with
  | zero =>
    intro y i hi hy h
    refine Ev.step (f := fun _ => some (ofE y)) (fun k => ?_) ?_
    · rw [weave_Mix.l0, if_neg (by omega)]; rfl
    · rw [ofE_tabB hy fun j hj => h j (by omega)]; exact Ev.now _
  | succ r ih =>
    intro y i hi hy h
    refine Ev.step (fun k => ?_) (ih (y.set i (bat a i + bat b i)) (i + 1) (by omega) (by rw [List.length_set, hy]) (fun j hj => ?_))
    · rw [weave_Mix.l0, if_pos (by omega), if_pos (by omega), if_pos (by omega), if_pos (by omega), if_pos (by rw [IL_length]; omega), bt_bat, bt_bat, I_xor, Int.toNat_natCast, ← IL_set, w64 (by omega) (by omega)]
      rfl
    · rw [getD_set _ _ _ _ (by omega)]
      by_cases c : i = j
      · rw [if_pos c, c]
      · rw [if_neg c, h j (by omega)]
theorem mix_ev (a b : ByteArray) (ha : a.size < 1000000) : Ev (fun k => weave_Mix.f k a b) (mixB a b) := by
  have em : mn (a.size : Int) (b.size : Int) = ((min a.size b.size : Nat) : Int) := by unfold mn; split <;> omega
  have := mix_loop a b (min a.size b.size) (by omega) (by omega) (by omega) (min a.size b.size) (List.replicate (min a.size b.size) 0) 0 (by omega) (by simp) (fun j hj => by omega)
  refine Ev.congr (fun k => ?_) this
  rw [weave_Mix.f, em, if_pos (by omega), Int.toNat_natCast, if_pos (by omega), Option.bind_some, List.length_replicate, IL_zeros]
  rfl
theorem mixB_size (a b : ByteArray) : (mixB a b).size = min a.size b.size := tabB_size _ _
theorem bat_mixB {a b : ByteArray} {i : Nat} (ha : i < a.size) (hb : i < b.size) : bat (mixB a b) i = bat a i + bat b i := bat_tabB (by omega)
theorem mix_twice (a b : ByteArray) (h : b.size = a.size) : mixB (mixB a b) b = a := by
  apply bat_ext (by rw [mixB_size, mixB_size]; omega)
  intro i hi
  rw [mixB_size, mixB_size] at hi
  rw [bat_mixB (by rw [mixB_size]; omega) (by omega), bat_mixB (by omega) (by omega), add_assoc, add_self, add_zero]

/-! ### bytes that look like chance -/
def stp (x : Nat) : Nat := if x % 2 = 1 then x / 2 ^^^ 46080 else x / 2
theorem stp_lt {x : Nat} (h : x < 65536) : stp x < 65536 := by
  unfold stp
  split
  · exact Nat.xor_lt_two_pow (n := 16) (by omega) (by omega)
  · omega
def stpn : Nat → Nat → Nat
  | 0, x => x
  | k + 1, x => stpn k (stp x)
theorem stpn_lt (k : Nat) : ∀ {x : Nat}, x < 65536 → stpn k x < 65536 := by
  induction k with
  | zero => intro x h; exact h
  | succ k ih => intro x h; exact ih (stp_lt h)
def mk : Nat → Nat → List E
  | _, 0 => []
  | x, n + 1 => E.of (stpn 8 x) :: mk (stpn 8 x) n
theorem mk_length (n : Nat) : ∀ x, (mk x n).length = n := by
  induction n with
  | zero => intro x; rfl
  | succ n ih => intro x; rw [mk, List.length_cons, ih]
theorem I_of (x : Nat) : I (E.of x) = ((x % 256 : Nat) : Int) := by
  show (((BitVec.ofNat 8 x).toNat : Nat) : Int) = _
  rw [BitVec.toNat_ofNat]
theorem o16 (a : Nat) (h : a < 65536) : (BitVec.ofInt 16 (a : Int)).toNat = a := by rw [BitVec.toNat_ofInt]; omega
theorem one16 (x : Nat) (h : x < 65536) : Go.bits .and .u16 (x : Int) 1 = ((x % 2 : Nat) : Int) := by
  show IntKind.u16.wrap ((BitVec.ofInt 16 (x : Int) &&& BitVec.ofInt 16 ((1 : Nat) : Int)).toNat : Int) = _
  rw [BitVec.toNat_and, o16 x h, o16 1 (by omega), Nat.and_one_is_mod, IntKind.wrap_u16]
  omega
theorem xor16 (a b : Nat) (ha : a < 65536) (hb : b < 65536) : Go.bits .xor .u16 (a : Int) (b : Int) = ((a ^^^ b : Nat) : Int) := by
  have hx : a ^^^ b < 65536 := Nat.xor_lt_two_pow (n := 16) ha hb
  show IntKind.u16.wrap ((BitVec.ofInt 16 (a : Int) ^^^ BitVec.ofInt 16 (b : Int)).toNat : Int) = _
  rw [BitVec.toNat_xor, o16 a ha, o16 b hb, IntKind.wrap_u16]
  omega
theorem xor64 (a b : Nat) (ha : a < 65536) (hb : b < 65536) : Go.bits .xor .u64 (a : Int) (b : Int) = ((a ^^^ b : Nat) : Int) := by
  have hx : a ^^^ b < 65536 := Nat.xor_lt_two_pow (n := 16) ha hb
  show IntKind.u64.wrap ((BitVec.ofInt 64 (a : Int) ^^^ BitVec.ofInt 64 (b : Int)).toNat : Int) = _
  rw [BitVec.toNat_xor, ofInt64 a ha, ofInt64 b hb, IntKind.wrap_u64]
  omega
theorem mask_in (y : List E) (N i : Nat) (hN : N < 1000000) (hi : i < N) (hy : y.length = N) {R : ByteArray} (r : Nat) : ∀ (x j : Nat), j + r = 8 → x < 65536 →
    Ev (fun k => weave_Mask.l0 k (stpn r x : Nat) (IL (y.set i (E.of (stpn r x)))) (N : Int) ((i + 1 : Nat) : Int)) R → Ev (fun k => weave_Mask.l1 k (x : Int) (IL y) (i : Int) (N : Int) (i : Int) (j : Int)) R := by
  induction r with
  | zero =>
    intro x j hj hx h
    refine Ev.step (fun k => ?_) h
    rw [weave_Mask.l1, if_neg (by omega), if_pos (by omega), if_pos (by rw [IL_length]; omega), Int.toNat_natCast, w64 (by omega) (by omega), IL_set, I_of]
    rfl
  | succ r ih =>
    intro x j hj hx h
    have ej : wrap64 ((j : Int) + 1) = ((j + 1 : Nat) : Int) := by rw [w64 (by omega) (by omega)]; omega
    have e2 : (x : Int) / 2 = ((x / 2 : Nat) : Int) := by omega
    refine Ev.step (fun k => ?_) (ih (stp x) (j + 1) (by omega) (stp_lt hx) h)
    rw [weave_Mask.l1, if_pos (by omega), one16 x hx, ej, e2]
    unfold stp
    by_cases c : x % 2 = 1
    · rw [if_pos (by omega), if_pos c, show (46080 : Int) = ((46080 : Nat) : Int) from rfl, xor16 _ _ (by omega) (by omega)]
    · rw [if_neg (by omega), if_neg c]
theorem mask_loop (N : Nat) (hN : N < 1000000) (r : Nat) : ∀ (x : Nat) (y : List E) (i : Nat), i + r = N → x < 65536 → y.length = N →
    Ev (fun k => weave_Mask.l0 k (x : Int) (IL y) (N : Int) (i : Int)) (ofE (y.take i ++ mk x r)) := by
  induction r with
  | zero =>
    intro x y i hi hx hy
    refine Ev.step (f := fun _ => some (ofE y)) (fun k => ?_) ?_
    · rw [weave_Mask.l0, if_neg (by omega)]; rfl
    · rw [List.take_of_length_le (by omega), mk, List.append_nil]; exact Ev.now _
  | succ r ih =>
    intro x y i hi hx hy
    have h := ih (stpn 8 x) (y.set i (E.of (stpn 8 x))) (i + 1) (by omega) (stpn_lt 8 hx) (by rw [List.length_set, hy])
    have e : (y.set i (E.of (stpn 8 x))).take (i + 1) ++ mk (stpn 8 x) r = y.take i ++ mk x (r + 1) := by
      rw [mk, List.take_succ_eq_append_getElem (by rw [List.length_set]; omega), List.take_set_of_le (by omega), List.getElem_set_self, List.append_assoc, List.singleton_append]
    rw [e] at h
    refine Ev.step (fun k => ?_) (mask_in y N i hN (by omega) hy 8 x 0 (by omega) hx h)
    rw [weave_Mask.l0, if_pos (by omega)]
    rfl
/-- Where it begins. -/
def mstart (seed : Int) : Nat := if (seed * 40503 % 65536).toNat ^^^ 44257 = 0 then 44257 else (seed * 40503 % 65536).toNat ^^^ 44257
theorem mstart_lt (seed : Int) : mstart seed < 65536 := by
  unfold mstart
  split
  · omega
  · exact Nat.xor_lt_two_pow (n := 16) (by omega) (by omega)
def maskB (seed : Int) (n : Nat) : ByteArray := ofE (mk (mstart seed) n)
theorem maskB_size (seed : Int) (n : Nat) : (maskB seed n).size = n := by unfold maskB; rw [size_ofE, mk_length]
theorem mask_ev (seed n : Int) (hn : n < 1000000) : Ev (fun k => weave_Mask.f k seed n) (maskB seed n.toNat) := by
  have em : mx n 0 = (n.toNat : Int) := by unfold mx; split <;> omega
  have es : IntKind.u16.wrap (IntKind.u64.wrap ((IntKind.u64.wrap seed) * 40503)) = (((seed * 40503 % 65536).toNat : Nat) : Int) := by
    rw [IntKind.wrap_u16, IntKind.wrap_u64, IntKind.wrap_u64]
    omega
  have ex : Go.bits .xor .u16 44257 (((seed * 40503 % 65536).toNat : Nat) : Int) = (((seed * 40503 % 65536).toNat ^^^ 44257 : Nat) : Int) := by
    rw [show (44257 : Int) = ((44257 : Nat) : Int) from rfl, xor16 _ _ (by omega) (by omega), Nat.xor_comm]
  have h := mask_loop n.toNat (by omega) n.toNat (mstart seed) (List.replicate n.toNat 0) 0 (by omega) (mstart_lt seed) (by simp)
  rw [List.take_zero, List.nil_append] at h
  have j0 : Ev (fun k => weave_Mask.j0 k n (mstart seed : Nat)) (maskB seed n.toNat) := by
    refine Ev.step (fun k => ?_) h
    rw [weave_Mask.j0, em, if_pos (by omega), Int.toNat_natCast, if_pos (by omega), Option.bind_some, List.length_replicate, IL_zeros]
    rfl
  refine Ev.congr (fun k => ?_) j0
  rw [weave_Mask.f, es, ex]
  unfold mstart
  by_cases c : (seed * 40503 % 65536).toNat ^^^ 44257 = 0
  · rw [if_pos (by omega), if_pos c]
    rfl
  · rw [if_neg (by omega), if_neg c]

/-! ### a word's bytes -/
/-- How many of so many bytes a word has. -/
def plen (N W n : Nat) : Nat := (N - n + W - 1) / W
theorem plen_lt {N W n j : Nat} (hW : 0 < W) : j < plen N W n ↔ n + W * j < N ∨ (N < n ∧ False) := by
  unfold plen
  constructor
  · intro h
    have h2 : (j + 1) * W ≤ N - n + W - 1 := (Nat.le_div_iff_mul_le hW).mp h
    rw [Nat.add_mul, Nat.one_mul, Nat.mul_comm] at h2
    left; omega
  · rintro (h | ⟨_, h⟩)
    · have : (j + 1) * W ≤ N - n + W - 1 := by rw [Nat.add_mul, Nat.one_mul, Nat.mul_comm]; omega
      exact (Nat.le_div_iff_mul_le hW).mpr this
    · exact h.elim
def partB (s : ByteArray) (W n : Nat) : ByteArray := tabB (plen s.size W n) fun j => bat s (n + W * j)
theorem part_loop (s : ByteArray) (W n : Nat) (hW : 0 < W) (hW2 : W < 1000000) (hn : n < 1000000) (hs : s.size < 1000000) (r : Nat) : ∀ i, i + r = plen s.size W n →
    Ev (fun k => weave_part.l0 k s ((List.range i).map fun j => UInt8.ofNat (bat s (n + W * j)).n) ((n + W * i : Nat) : Int) (W : Int)) (partB s W n) := by
  induction r with
  | zero =>
    intro i hi
    have hnot : ¬ n + W * i < s.size := fun q => by have := (plen_lt (N := s.size) (n := n) (j := i) hW).mpr (.inl q); omega
    refine Ev.step (f := fun _ => some (partB s W n)) (fun k => ?_) (Ev.now _)
    rw [weave_part.l0, if_neg (by omega)]
    unfold partB tabB ofE strOfNums IL
    rw [← hi, Nat.add_zero, List.map_map, List.map_map]
    rfl
  | succ r ih =>
    intro i hi
    have hin : n + W * i < s.size := ((plen_lt (N := s.size) (n := n) (j := i) hW).mp (by omega)).elim id fun q => q.2.elim
    have hl : i < s.size := Nat.lt_of_le_of_lt (by have := Nat.le_mul_of_pos_left i hW; omega) hin
    have h := ih (i + 1) (by omega)
    rw [List.range_succ, List.map_append, List.map_cons, List.map_nil] at h
    refine Ev.step (fun k => ?_) h
    rw [weave_part.l0, if_pos (by omega), if_pos (by omega), if_pos (by rw [List.length_map, List.length_range]; omega), bt_bat, w64 (by omega) (by omega)]
    show weave_part.l0 k s _ _ _ = _
    rw [show ((n + W * i : Nat) : Int) + (W : Int) = ((n + W * (i + 1) : Nat) : Int) by rw [Nat.mul_succ]; omega]
    rfl
theorem part_ev (s : ByteArray) (W n : Nat) (b c d : Int) (hW : 0 < W) (hW2 : W < 1000000) (hn : n < 1000000) (hs : s.size < 1000000) : Ev (fun k => weave_part.f k s (W : Int) b c d (n : Int)) (partB s W n) := by
  have := part_loop s W n hW hW2 hn hs (plen s.size W n) 0 (by omega)
  rw [Nat.mul_zero, Nat.add_zero] at this
  exact this
theorem partB_size (s : ByteArray) (W n : Nat) : (partB s W n).size = plen s.size W n := tabB_size _ _
theorem bat_partB {s : ByteArray} {W n j : Nat} (h : j < plen s.size W n) : bat (partB s W n) j = bat s (n + W * j) := bat_tabB h
end Go.Proofs.Ytpleeckbakllpaa.Gf
