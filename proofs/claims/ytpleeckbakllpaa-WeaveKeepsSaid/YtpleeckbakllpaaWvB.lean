/- A page is kept by right words: what the program's encoding computes; no condition. -/
import Derived.Test.YtpleeckbakllpaaWvS
import Derived.Test.YtpleeckbakllpaaGfH
import Derived.Test.YtpleeckbakllpaaXWvx6
namespace Go.Proofs.Ytpleeckbakllpaa.Gf
open Go.RowKit Go.Proofs.YtpleeckbakllpaaX.PrintWords Go.Proofs.YtpleeckbakllpaaX.PrintLast Go.Proofs.YtpleeckbakllpaaX.PrintMore Go.Proofs.Ytpleeckbakllpaa.XWv
set_option linter.unusedSimpArgs false
set_option linter.unusedVariables false
theorem plen_iff {N W n j : Nat} (hW : 0 < W) : j < plen N W n ↔ n + W * j < N := by rw [plen_lt hW]; simp
theorem plen_add {N P W n : Nat} (hW : 0 < W) (hn : n ≤ N) : plen (N + W * P) W n = plen N W n + P := by
  unfold plen
  rw [show N + W * P - n + W - 1 = (N - n + W - 1) + W * P by omega, Nat.add_mul_div_left _ _ hW]
theorem plen_pos {N W n : Nat} (hW : 0 < W) (h : n < N) : 1 ≤ plen N W n := (plen_iff hW).mpr (by omega)
theorem plen_le (N W n : Nat) : plen N W n ≤ ceil N W := Nat.div_le_div_right (by omega)
theorem plen_edge {N W n : Nat} (hW : 0 < W) (hn : n < W) : N ≤ n + W * plen N W n ∧ n + W * plen N W n < N + W := by
  constructor
  · exact Nat.le_of_not_lt fun q => Nat.lt_irrefl _ ((plen_iff hW).mpr q)
  · rcases Nat.eq_zero_or_pos (plen N W n) with h | h
    · rw [h]; omega
    · have := (plen_iff (N := N) (n := n) (j := plen N W n - 1) hW).mp (by omega)
      have e : W * plen N W n = W * (plen N W n - 1) + W := by
        rw [← Nat.mul_succ, show (plen N W n - 1).succ = plen N W n by omega]
      omega
theorem bat_append (a b : ByteArray) (j : Nat) : bat (a ++ b) j = if j < a.size then bat a j else bat b (j - a.size) := by
  unfold bat
  rw [toE_append, List.getD_eq_getElem?_getD, List.getElem?_append, toE_length]
  split
  · rw [List.getD_eq_getElem?_getD]
  · rw [List.getD_eq_getElem?_getD]
theorem toE_extract (t : ByteArray) (i j : Nat) : toE (t.extract i j) = ((toE t).take j).drop i := by
  unfold toE
  rw [ByteArray.data_extract, Array.toList_extract, List.extract_eq_drop_take', List.map_drop, List.map_take]
theorem tail_extract (a b : ByteArray) : (a ++ b).extract a.size (a ++ b).size = b := by
  apply toE_inj
  rw [toE_extract, toE_append, List.take_of_length_le (by rw [List.length_append, toE_length, toE_length, ByteArray.size_append]; omega), List.drop_left' (toE_length a)]
theorem choose_to {α : Type} (d : α) {n : Nat} {p : Nat → α → Prop} (h : ∀ i, i < n → ∃ x, p i x) : ∃ f : Nat → α, ∀ i, i < n → p i (f i) :=
  ⟨fun i => if c : i < n then Classical.choose (h i c) else d, fun i hi => by simp only [dif_pos hi]; exact Classical.choose_spec (h i hi)⟩
/-- Bounds of a page's shape. -/
structure Pg (N P W D : Nat) : Prop where
  n1 : 1 ≤ N
  n2 : N ≤ 1024
  p1 : 2 ≤ P
  p2 : P ≤ 32
  s : Shp N P W D
theorem Pg.wp {N P W D : Nat} (h : Pg N P W D) : W * P ≤ 32768 := Nat.le_trans (Nat.mul_le_mul (show W ≤ 1024 from Nat.le_trans h.s.wN h.n2) h.p2) (by decide)
theorem Pg.word {N P W D : Nat} (h : Pg N P W D) {n : Nat} (hn : n < W) : May (plen N W n + P) P := by
  have h1 := plen_pos (N := N) (W := W) (n := n) h.s.w1 (Nat.lt_of_lt_of_le hn h.s.wN)
  have h2 := plen_le N W n
  have h3 := h.s.dp
  rw [h.s.d] at h3
  exact ⟨by have := h.p1; omega, h.p2, by omega, by omega⟩
theorem words {N P W D : Nat} (h : Pg N P W D) (t : ByteArray) (ht : t.size = N) : ∃ tl : Nat → List E, ∀ m, m < W → (tl m).length = P ∧ Ok (partB t W m ++ ofE (tl m)) P ∧ Ev (fun k => rs_Encode.f k (partB t W m) (P : Int)) (partB t W m ++ ofE (tl m), 0) := by
  refine choose_to (p := fun m (x : List E) => x.length = P ∧ Ok (partB t W m ++ ofE x) P ∧ Ev (fun k => rs_Encode.f k (partB t W m) (P : Int)) (partB t W m ++ ofE x, 0)) [] fun m hm => ?_
  have := encode_ev (partB t W m) P (by rw [partB_size, ht]; exact h.word hm)
  exact this
/-- The bytes that are kept. -/
def rawB (t : ByteArray) (W P : Nat) (tl : Nat → List E) : ByteArray := ofE (toE t ++ (List.range (W * P)).map fun i => (tl ((t.size + i) % W)).getD (i / W) 0)
theorem rawB_size (t : ByteArray) (W P : Nat) (tl : Nat → List E) : (rawB t W P tl).size = t.size + W * P := by
  unfold rawB
  rw [size_ofE, List.length_append, toE_length, List.length_map, List.length_range]
theorem bat_raw_lt {t : ByteArray} {W P : Nat} {tl : Nat → List E} {i : Nat} (h : i < t.size) : bat (rawB t W P tl) i = bat t i := by
  unfold rawB
  rw [bat_ofE, List.getD_eq_getElem?_getD, List.getElem?_append_left (by rw [toE_length]; exact h)]
  unfold bat
  rw [List.getD_eq_getElem?_getD]
theorem bat_raw_ge {t : ByteArray} {W P : Nat} {tl : Nat → List E} {i : Nat} (h : i < W * P) : bat (rawB t W P tl) (t.size + i) = (tl ((t.size + i) % W)).getD (i / W) 0 := by
  unfold rawB
  rw [bat_ofE, List.getD_eq_getElem?_getD, List.getElem?_append_right (by rw [toE_length]; omega), toE_length, show t.size + i - t.size = i by omega, ← List.getD_eq_getElem?_getD, getD_tab, if_pos h]
theorem part_raw {t : ByteArray} {W P : Nat} {tl : Nat → List E} {n : Nat} (hW : 0 < W) (hn : n < W) (hN : n ≤ t.size) (hl : (tl n).length = P) : partB (rawB t W P tl) W n = partB t W n ++ ofE (tl n) := by
  have hs : (partB (rawB t W P tl) W n).size = plen t.size W n + P := by rw [partB_size, rawB_size, plen_add hW hN]
  have hs2 : (partB t W n ++ ofE (tl n)).size = plen t.size W n + P := by rw [ByteArray.size_append, partB_size, size_ofE, hl]
  apply bat_ext (by rw [hs, hs2])
  intro j hj
  have hj2 : j < plen (rawB t W P tl).size W n := by rw [partB_size] at hj; exact hj
  rw [hs] at hj
  rw [bat_partB hj2, bat_append, partB_size]
  by_cases c : j < plen t.size W n
  · rw [if_pos c, bat_partB c, bat_raw_lt ((plen_iff hW).mp c)]
  · rw [if_neg c]
    obtain ⟨e1, e2⟩ := plen_edge (N := t.size) hW hn
    obtain ⟨q, rfl⟩ : ∃ q, j = plen t.size W n + q := ⟨j - plen t.size W n, by omega⟩
    have hq : q < P := by omega
    have hWq : W * q + W ≤ W * P := by
      rw [← Nat.mul_succ]
      exact Nat.mul_le_mul (Nat.le_refl _) hq
    have ep : n + W * (plen t.size W n + q) = t.size + ((n + W * plen t.size W n - t.size) + W * q) := by rw [Nat.mul_add]; omega
    rw [ep, bat_raw_ge (by omega), ← ep, show plen t.size W n + q - plen t.size W n = q by omega, Nat.add_mul_mod_self_left, Nat.mod_eq_of_lt hn, Nat.add_mul_div_left _ _ hW, Nat.div_eq_of_lt (by omega), Nat.zero_add, bat_ofE]

theorem fits_ev {N P W D : Nat} (h : Pg N P W D) (hE : Ev (fun k => weave_ShapeOf.f k (N : Int) (P : Int)) ((W : Int), (D : Int), (P : Int), ((N + W * P : Nat) : Int), true)) :
    Ev (fun k => weave_fits.f k (W : Int) (D : Int) (P : Int) ((N + W * P : Nat) : Int)) true := by
  have hwp := h.wp
  have eP : (W : Int) * (P : Int) = ((W * P : Nat) : Int) := (Int.natCast_mul W P).symm
  have e : wrap64 (((N + W * P : Nat) : Int) - (wrap64 ((W : Int) * (P : Int)))) = (N : Int) := by
    have := h.n2
    rw [eP, w64 (n := ((W * P : Nat) : Int)) (by omega) (by omega), w64 (by omega) (by omega)]
    omega
  refine Ev.congr (f := fun k => (weave_ShapeOf.f k (N : Int) (P : Int)).bind fun bt112 => (if bt112.2.2.2.2 = true then (some (bt112.1 == (W : Int) && (bt112.2.1 == (D : Int) && (bt112.2.2.1 == (P : Int) && (bt112.2.2.2.1 == ((N + W * P : Nat) : Int)))))) else (some false))) (fun k => by rw [weave_fits.f, e]) (Ev.bind hE (ifp rfl ?_))
  simp only [beq_self_eq_true, Bool.and_self]
  exact Ev.now _
theorem page_eq {N P W D : Nat} (h : Pg N P W D) : wrap64 (((N + W * P : Nat) : Int) - (wrap64 ((W : Int) * (P : Int)))) = (N : Int) := by
  have hwp := h.wp
  have := h.n2
  have eP : (W : Int) * (P : Int) = ((W * P : Nat) : Int) := (Int.natCast_mul W P).symm
  rw [eP, w64 (n := ((W * P : Nat) : Int)) (by omega) (by omega), w64 (by omega) (by omega)]
  omega
theorem tails_loop {N P W D : Nat} (h : Pg N P W D) (x0 t : ByteArray) (ht : t.size = N) (y : List E) (tl : Nat → List E) (Rr : Int) (H : ∀ m, m < W → (tl m).length = P ∧ Ok (partB t W m ++ ofE (tl m)) P ∧ Ev (fun k => rs_Encode.f k (partB t W m) (P : Int)) (partB t W m ++ ofE (tl m), 0))
    {R : ByteArray × Int} (hR : ∀ ys : List ByteArray, ys.length = W → (∀ m, m < W → ys.getD m ByteArray.empty = ofE (tl m)) → Ev (fun k => weave_Encode.l1 k x0 (IL y) ys (wrap64 ((W : Int) * (P : Int))) 0 (W : Int) (D : Int) (P : Int) Rr) R) (r : Nat) :
    ∀ (ys : List ByteArray) (i : Nat), i + r = W → ys.length = W → (∀ m, m < i → ys.getD m ByteArray.empty = ofE (tl m)) → Ev (fun k => weave_Encode.l0 k x0 t (IL y) ys (W : Int) (i : Int) (W : Int) (D : Int) (P : Int) Rr) R := by
  have hW := h.s.w1
  have hW2 : W ≤ 1024 := Nat.le_trans h.s.wN h.n2
  have hN2 := h.n2
  induction r with
  | zero =>
    intro ys i hi hy hm
    refine Ev.step (fun k => ?_) (hR ys hy fun m q => hm m (by omega))
    rw [weave_Encode.l0, if_neg (by omega)]
  | succ r ih =>
    intro ys i hi hy hm
    obtain ⟨h1, h2, h3⟩ := H i (by omega)
    have hp := plen_le t.size W i
    have hdp := h.s.dp
    rw [h.s.d] at hdp
    rw [ht] at hp
    have hsz : (partB t W i ++ ofE (tl i)).size = plen N W i + P := by rw [ByteArray.size_append, partB_size, size_ofE, h1, ht]
    have ew : wrap64 (((partB t W i ++ ofE (tl i)).size : Int) - (P : Int)) = ((partB t W i).size : Int) := by
      rw [hsz, partB_size, ht, w64 (by omega) (by omega)]
      omega
    have next := ih (ys.set i (ofE (tl i))) (i + 1) (by omega) (by rw [List.length_set, hy]) (fun m q => by
      rw [List.getD_eq_getElem?_getD, List.getElem?_set]
      by_cases c : i = m
      · rw [if_pos c, if_pos (by omega), c]; rfl
      · rw [if_neg c, ← List.getD_eq_getElem?_getD, hm m (by omega)])
    refine Ev.step (f := fun k => (weave_part.f k t (W : Int) (D : Int) (P : Int) Rr (i : Int)).bind fun t245 => ((rs_Encode.f k t245 (P : Int)).bind fun bt246 => (if bt246.2 = 0 then (if 0 ≤ (wrap64 ((bt246.1.size : Int) - (P : Int))) then (if (wrap64 ((bt246.1.size : Int) - (P : Int))) ≤ (bt246.1.size : Int) then (if 0 ≤ (i : Int) then (if (i : Int) < (ys.length : Int) then (weave_Encode.l0 k x0 t (IL y) (ys.set (i : Int).toNat (bt246.1.extract ((wrap64 ((bt246.1.size : Int) - (P : Int))) : Int).toNat bt246.1.size)) (W : Int) (wrap64 ((i : Int) + 1)) (W : Int) (D : Int) (P : Int) Rr) else (none)) else (none)) else (none)) else (none)) else (some ((⟨#[]⟩ : ByteArray), bt246.2))))) (fun k => by rw [weave_Encode.l0, if_pos (by omega)])
      (Ev.bind (part_ev t W i _ _ _ hW (by omega) (by omega) (by omega)) (Ev.bind h3 (ifp rfl (ifp ?_ (ifp ?_ (ifp (Int.natCast_nonneg i) (ifp (by omega) ?_)))))))
    · show 0 ≤ wrap64 (((partB t W i ++ ofE (tl i)).size : Int) - (P : Int))
      rw [ew]; exact Int.natCast_nonneg _
    · show wrap64 (((partB t W i ++ ofE (tl i)).size : Int) - (P : Int)) ≤ ((partB t W i ++ ofE (tl i)).size : Int)
      rw [ew, ByteArray.size_append]; omega
    · show Ev (fun k => weave_Encode.l0 k x0 t (IL y) (ys.set (i : Int).toNat ((partB t W i ++ ofE (tl i)).extract ((wrap64 (((partB t W i ++ ofE (tl i)).size : Int) - (P : Int))) : Int).toNat (partB t W i ++ ofE (tl i)).size)) (W : Int) (wrap64 ((i : Int) + 1)) (W : Int) (D : Int) (P : Int) Rr) R
      rw [ew, Int.toNat_natCast, Int.toNat_natCast, tail_extract, w64 (by omega) (by omega)]
      exact next
theorem weave_loop {N P W D : Nat} (h : Pg N P W D) (x0 t : ByteArray) (hx : x0.size = N) (ht : t.size = N) (tl : Nat → List E) (Rr : Int) (hl : ∀ m, m < W → (tl m).length = P) (ys : List ByteArray) (hy : ys.length = W) (hm : ∀ m, m < W → ys.getD m ByteArray.empty = ofE (tl m)) (r : Nat) :
    ∀ i, i + r = W * P → Ev (fun k => weave_Encode.l1 k x0 (IL (toE t ++ (List.range i).map fun i => (tl ((t.size + i) % W)).getD (i / W) 0)) ys ((W * P : Nat) : Int) (i : Int) (W : Int) (D : Int) (P : Int) Rr) (rawB t W P tl, 0) := by
  have hW := h.s.w1
  have hW2 : W ≤ 1024 := Nat.le_trans h.s.wN h.n2
  have hN2 := h.n2
  have hwp := h.wp
  induction r with
  | zero =>
    intro i hi
    obtain rfl : i = W * P := by omega
    refine Ev.step (f := fun _ => some (rawB t W P tl, 0)) (fun k => ?_) (Ev.now _)
    rw [weave_Encode.l1, if_neg (by omega)]
    rfl
  | succ r ih =>
    intro i hi
    have f1 : (i : Int) < ((W * P : Nat) : Int) := by omega
    have f2 : ¬ (W : Int) = 0 := by omega
    have f5 : (IL (toE t ++ (List.range i).map fun i => (tl ((t.size + i) % W)).getD (i / W) 0)).length < 140737488355328 := by
      rw [IL_length, List.length_append, toE_length, List.length_map, List.length_range]; omega
    have f6 : wrap64 ((i : Int) + 1) = ((i + 1 : Nat) : Int) := by rw [w64 (by omega) (by omega)]; omega
    have f7 : i + 1 + r = W * P := by omega
    obtain ⟨m, em, hmod⟩ : ∃ m, (t.size + i) % W = m ∧ m < W := ⟨_, rfl, Nat.mod_lt _ hW⟩
    obtain ⟨q, eq, hqP, hqi⟩ : ∃ q, i / W = q ∧ q < P ∧ q ≤ i := ⟨_, rfl, Nat.div_lt_of_lt_mul (by omega), Nat.div_le_self _ _⟩
    have hi2 : i < 32768 := by omega
    have e1 : Int.tmod (wrap64 ((x0.size : Int) + (i : Int))) (W : Int) = (m : Int) := by
      rw [w64 (by omega) (by omega), show (x0.size : Int) + (i : Int) = ((t.size + i : Nat) : Int) by omega, ← em]
      rfl
    have e2 : wrap64 (Int.tdiv (i : Int) (W : Int)) = (q : Int) := by
      rw [show Int.tdiv (i : Int) (W : Int) = (q : Int) from by rw [← eq]; rfl, w64 (by omega) (by omega)]
    have e3 : rdOf ByteArray.empty ys (m : Int) = ofE (tl m) := by
      unfold rdOf
      rw [Int.toNat_natCast, hm _ hmod]
    have next := ih (i + 1) f7
    rw [List.range_succ, List.map_append, List.map_cons, List.map_nil, ← List.append_assoc, IL_append, em, eq] at next
    have f3 : (m : Int) < (ys.length : Int) := by rw [hy]; exact Int.ofNat_lt.mpr hmod
    have f4 : (q : Int) < ((ofE (tl m)).size : Int) := by rw [size_ofE, hl _ hmod]; exact Int.ofNat_lt.mpr hqP
    refine Ev.step (fun k => ?_) next
    rw [weave_Encode.l1, if_pos f1, if_neg f2, e1, if_pos (Int.natCast_nonneg m), if_pos f3, e2, if_pos (Int.natCast_nonneg q), e3, if_pos f4, if_pos f5, bt_bat, bat_ofE, f6]
    rfl
/-- What encoding comes to. -/
theorem encodes {N P W D : Nat} (h : Pg N P W D) (hE : Ev (fun k => weave_ShapeOf.f k (N : Int) (P : Int)) ((W : Int), (D : Int), (P : Int), ((N + W * P : Nat) : Int), true)) (s : ByteArray) (hs : s.size = N) (seed : Int) :
    ∃ raw : ByteArray, raw.size = N + W * P ∧ (∀ i, i < N → bat raw i = bat (mixB s (maskB seed N)) i) ∧ (∀ n, n < W → Ok (partB raw W n) P) ∧ Ev (fun k => weave_Encode.f k s (W : Int) (D : Int) (P : Int) ((N + W * P : Nat) : Int) seed) (raw, 0) := by
  have hW := h.s.w1
  have hW2 : W ≤ 1024 := Nat.le_trans h.s.wN h.n2
  have hN2 := h.n2
  have hwp := h.wp
  have hp := page_eq h
  have ht : (mixB s (maskB seed N)).size = N := by rw [mixB_size, maskB_size, hs, Nat.min_self]
  have hmk := mask_ev seed (N : Int) (by omega)
  rw [Int.toNat_natCast] at hmk
  have hmx := mix_ev s (maskB seed N) (by omega)
  generalize mixB s (maskB seed N) = t at ht hmx
  obtain ⟨tl, H⟩ := words h t ht
  refine ⟨rawB t W P tl, by rw [rawB_size, ht], fun i hi => bat_raw_lt (by omega), fun n hn => ?_, ?_⟩
  · rw [part_raw hW hn (by have := h.s.wN; omega) (H n hn).1]
    exact (H n hn).2.1
  · have hl0 := tails_loop h s t ht (toE t) tl ((N + W * P : Nat) : Int) H (R := (rawB t W P tl, 0)) (fun ys hy hm => by
      have := weave_loop h s t hs ht tl ((N + W * P : Nat) : Int) (fun m q => (H m q).1) ys hy hm (W * P) 0 (by omega)
      rw [List.range_zero, List.map_nil, List.append_nil] at this
      rw [← Int.natCast_mul, w64 (by omega) (by omega)]
      exact this) W (List.replicate W ByteArray.empty) 0 (by omega) (by simp) (fun m q => by omega)
    have hj : Ev (fun k => weave_Encode.j0 k s seed false (W : Int) (D : Int) (P : Int) ((N + W * P : Nat) : Int)) (rawB t W P tl, 0) := by
      refine Ev.step (f := fun k => (weave_Mask.f k seed (N : Int)).bind fun t234 => ((weave_Mix.f k s t234).bind fun t235 => (if 0 ≤ ((N + W * P : Nat) : Int) then (if (((N + W * P : Nat) : Int) : Int).toNat ≤ 281474976710656 then ((some (([] : List Int) : List Int)).bind fun y236 => (if y236.length + t235.size < 140737488355328 then (if 0 ≤ (W : Int) then (if ((W : Int) : Int).toNat ≤ 17592186044416 then ((some (List.replicate ((W : Int) : Int).toNat (⟨#[]⟩ : ByteArray) : List ByteArray)).bind fun y242 => (weave_Encode.l0 k s t235 (y236 ++ bytesOf t235) y242 (y242.length : Int) 0 (W : Int) (D : Int) (P : Int) ((N + W * P : Nat) : Int))) else (none)) else (none)) else (none))) else (none)) else (none)))) (fun k => by rw [weave_Encode.j0, if_neg (by decide), hs])
        (Ev.bind hmk (Ev.bind hmx (ifp (by omega) (ifp (by rw [Int.toNat_natCast]; omega) (Ev.bind (Ev.now _) (ifp (by rw [List.length_nil]; omega) (ifp (by omega) (ifp (by rw [Int.toNat_natCast]; omega) (Ev.bind (Ev.now _) ?_)))))))))
      rw [Int.toNat_natCast, List.length_replicate, List.nil_append, ← IL_toE]
      exact hl0
    refine Ev.congr (f := fun k => (weave_fits.f k (W : Int) (D : Int) (P : Int) ((N + W * P : Nat) : Int)).bind fun t233 => (if t233 = true then (weave_Encode.j0 k s seed false (W : Int) (D : Int) (P : Int) ((N + W * P : Nat) : Int)) else (weave_Encode.j0 k s seed true (W : Int) (D : Int) (P : Int) ((N + W * P : Nat) : Int)))) (fun k => ?_) (Ev.bind (fits_ev h hE) (ifp rfl hj))
    rw [weave_Encode.f, hp, hs, show ((N : Int) != (N : Int)) = false by simp]
theorem encode_no {N P W D : Nat} (h : Pg N P W D) (hE : Ev (fun k => weave_ShapeOf.f k (N : Int) (P : Int)) ((W : Int), (D : Int), (P : Int), ((N + W * P : Nat) : Int), true)) (s : ByteArray) (hs : s.size ≠ N) (seed : Int) :
    Ev (fun k => weave_Encode.f k s (W : Int) (D : Int) (P : Int) ((N + W * P : Nat) : Int) seed) ((⟨#[]⟩ : ByteArray), 1) := by
  refine Ev.congr (f := fun k => (weave_fits.f k (W : Int) (D : Int) (P : Int) ((N + W * P : Nat) : Int)).bind fun t233 => (if t233 = true then (weave_Encode.j0 k s seed true (W : Int) (D : Int) (P : Int) ((N + W * P : Nat) : Int)) else (weave_Encode.j0 k s seed true (W : Int) (D : Int) (P : Int) ((N + W * P : Nat) : Int)))) (fun k => ?_) (Ev.bind (fits_ev h hE) (ifp rfl (Ev.step (f := fun _ => some ((⟨#[]⟩ : ByteArray), 1)) (fun k => by rw [weave_Encode.j0, if_pos rfl]) (Ev.now _))))
  rw [weave_Encode.f, page_eq h, show ((s.size : Int) != (N : Int)) = true by simp; omega]
end Go.Proofs.Ytpleeckbakllpaa.Gf
