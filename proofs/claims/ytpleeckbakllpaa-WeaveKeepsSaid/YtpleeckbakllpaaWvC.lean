/- A page comes back: what the program's decoding computes; no condition. -/
import Derived.Test.YtpleeckbakllpaaWvB
import Derived.Test.YtpleeckbakllpaaXWvx9
import Derived.Test.YtpleeckbakllpaaXWvx10
namespace Go.Proofs.Ytpleeckbakllpaa.Gf
open Go.RowKit Go.Proofs.YtpleeckbakllpaaX.PrintWords Go.Proofs.YtpleeckbakllpaaX.PrintLast Go.Proofs.YtpleeckbakllpaaX.PrintMore Go.Proofs.Ytpleeckbakllpaa.XWv
set_option linter.unusedSimpArgs false
set_option linter.unusedVariables false

/-! ### the places of a word that are known -/
def holL (l : List Int) (W n R : Nat) : List Int := (l.filter fun x => decide (0 ≤ x ∧ x < (R : Int) ∧ Int.tmod x (W : Int) = (n : Int))).map fun x => Int.tdiv x (W : Int)
theorem holes_loop (l : List Int) (W n R : Nat) (b c : Int) (hW : 0 < W) (hl : l.length < 1000000) (hR : R < 1000000) (r : Nat) : ∀ (acc : List Int) (i : Nat), i + r = l.length → acc.length ≤ i →
    Ev (fun k => weave_holes.l0 k (n : Int) acc l (l.length : Int) (i : Int) (W : Int) b c (R : Int)) (acc ++ holL (l.drop i) W n R) := by
  induction r with
  | zero =>
    intro acc i hi ha
    refine Ev.step (f := fun _ => some acc) (fun k => ?_) ?_
    · rw [weave_holes.l0, if_neg (by omega)]
    · rw [List.drop_eq_nil_of_le (by omega)]
      unfold holL
      rw [List.filter_nil, List.map_nil, List.append_nil]
      exact Ev.now _
  | succ r ih =>
    intro acc i hi ha
    have hil : i < l.length := by omega
    have f1 : (i : Int) < (l.length : Int) := by omega
    have f6 : wrap64 ((i : Int) + 1) = ((i + 1 : Nat) : Int) := by rw [w64 (by omega) (by omega)]; omega
    have f2 : ¬ (W : Int) = 0 := by omega
    have f3 : acc.length < 17592186044416 := by omega
    obtain ⟨x, hx⟩ : ∃ x, l[i] = x := ⟨_, rfl⟩
    have e0 : rd l (i : Int) = x := by
      show l.getD ((i : Int)).toNat 0 = _
      rw [Int.toNat_natCast, List.getD_eq_getElem?_getD, List.getElem?_eq_getElem hil, ← hx]; rfl
    have skip : ¬ (0 ≤ x ∧ x < (R : Int) ∧ Int.tmod x (W : Int) = (n : Int)) → holL (l.drop i) W n R = holL (l.drop (i + 1)) W n R := fun q => by
      unfold holL
      rw [List.drop_eq_getElem_cons hil, hx, List.filter_cons_of_neg (by simpa using q)]
    have next := ih acc (i + 1) (by omega) (by omega)
    by_cases c1 : 0 ≤ x
    · by_cases c2 : x < (R : Int)
      · by_cases c3 : Int.tmod x (W : Int) = (n : Int)
        · have e : holL (l.drop i) W n R = Int.tdiv x (W : Int) :: holL (l.drop (i + 1)) W n R := by
            unfold holL
            rw [List.drop_eq_getElem_cons hil, hx, List.filter_cons_of_pos (by simp [c1, c2, c3]), List.map_cons]
          have q1 : 0 ≤ Int.tdiv x (W : Int) := Int.tdiv_nonneg c1 (by omega)
          have q2 : Int.tdiv x (W : Int) ≤ x := Int.tdiv_le_self _ c1
          have ew : wrap64 (Int.tdiv x (W : Int)) = Int.tdiv x (W : Int) := w64 (by omega) (by omega)
          have next := ih (acc ++ [Int.tdiv x (W : Int)]) (i + 1) (by omega) (by rw [List.length_append, List.length_singleton]; omega)
          rw [List.append_assoc, List.singleton_append, ← e] at next
          refine Ev.step (fun k => ?_) next
          rw [weave_holes.l0, if_pos f1, if_pos (Int.natCast_nonneg i), if_pos f1, e0, if_pos c1, if_pos c2, if_neg f2, if_pos c3, if_pos f3, f6, ew]
        · rw [skip fun q => c3 q.2.2]
          refine Ev.step (fun k => ?_) next
          rw [weave_holes.l0, if_pos f1, if_pos (Int.natCast_nonneg i), if_pos f1, e0, if_pos c1, if_pos c2, if_neg f2, if_neg c3, f6]
      · rw [skip fun q => c2 q.2.1]
        refine Ev.step (fun k => ?_) next
        rw [weave_holes.l0, if_pos f1, if_pos (Int.natCast_nonneg i), if_pos f1, e0, if_pos c1, if_neg c2, f6]
    · rw [skip fun q => c1 q.1]
      refine Ev.step (fun k => ?_) next
      rw [weave_holes.l0, if_pos f1, if_pos (Int.natCast_nonneg i), if_pos f1, e0, if_neg c1, f6]
theorem holes_ev (l : List Int) (W n R : Nat) (b c : Int) (hW : 0 < W) (hl : l.length < 1000000) (hR : R < 1000000) : Ev (fun k => weave_holes.f k l (W : Int) b c (R : Int) (n : Int)) (holL l W n R) := by
  have := holes_loop l W n R b c hW hl hR l.length [] 0 (by omega) (by simp)
  rw [List.nil_append, List.drop_zero] at this
  exact this
theorem size_ev {N P W D : Nat} (h : Pg N P W D) {n : Nat} (hn : n < W) : weave_size.f (W : Int) (D : Int) (P : Int) ((N + W * P : Nat) : Int) (n : Int) = some (plen N W n : Int) := by
  have hN2 := h.n2
  have hWN := h.s.wN
  have hp : plen N W n ≤ N - n + W - 1 := Nat.div_le_self _ _
  rw [weave_size.f, if_neg (by omega), page_eq h, w64 (n := (N : Int) - (n : Int)) (by omega) (by omega), w64 (n := (N : Int) - (n : Int) + (W : Int)) (by omega) (by omega), w64 (n := (N : Int) - (n : Int) + (W : Int) - 1) (by omega) (by omega), show (N : Int) - (n : Int) + (W : Int) - 1 = ((N - n + W - 1 : Nat) : Int) by omega, show Int.tdiv ((N - n + W - 1 : Nat) : Int) (W : Int) = (plen N W n : Int) from rfl, w64 (by omega) (by omega)]

/-! ### word by word -/
/-- The bytes of the page that stand, up to a word's. -/
def Prog (t : ByteArray) (N W n j : Nat) (z : List E) : Prop := z.length = N ∧ ∀ i, i < N → (i % W < n ∨ i % W = n ∧ i / W < j) → z.getD i 0 = bat t i
theorem copy_loop {N P W D : Nat} (h : Pg N P W D) (x0 t w : ByteArray) (seed : Int) (l : List Int) (many : Int) {n : Nat} (hn : n < W) (hw : ∀ j, j < plen N W n → j < w.size ∧ bat w j = bat t (n + W * j)) {R : ByteArray × Int × Int}
    (hR : ∀ z, Prog t N W (n + 1) 0 z → Ev (fun k => weave_Decode.l0 k x0 seed l (N : Int) (IL z) many (W : Int) ((n + 1 : Nat) : Int) (W : Int) (D : Int) (P : Int) ((N + W * P : Nat) : Int)) R) (r : Nat) :
    ∀ (z : List E) (j : Nat), j + r = plen N W n → Prog t N W n j z →
      Ev (fun k => weave_Decode.l1 k x0 seed l (N : Int) (IL z) many (n : Int) w (W : Int) (n : Int) (plen N W n : Int) (j : Int) (W : Int) (D : Int) (P : Int) ((N + W * P : Nat) : Int)) R := by
  have hW := h.s.w1
  have hN2 := h.n2
  have hWN := h.s.wN
  induction r with
  | zero =>
    intro z j hj hz
    have hz2 : Prog t N W (n + 1) 0 z := ⟨hz.1, fun i hi c => hz.2 i hi (by
      rcases c with c | ⟨_, c⟩
      · rcases Nat.lt_or_ge (i % W) n with d | d
        · exact .inl d
        · refine .inr ⟨by omega, ?_⟩
          have : i / W < plen N W n := (plen_iff hW).mpr (by have := Nat.mod_add_div i W; have e : i % W = n := by omega
                                                             rw [e] at this; omega)
          omega
      · exact absurd c (Nat.not_lt_zero _))⟩
    have e : wrap64 ((n : Int) + 1) = ((n + 1 : Nat) : Int) := by rw [w64 (by omega) (by omega)]; omega
    refine Ev.step (fun k => ?_) (hR z hz2)
    rw [weave_Decode.l1, if_neg (by omega), e]
  | succ r ih =>
    intro z j hj hz
    have hjp : j < plen N W n := by omega
    have hin : n + W * j < N := (plen_iff hW).mp hjp
    have hjN : j ≤ W * j := Nat.le_mul_of_pos_left j hW
    obtain ⟨hw1, hw2⟩ := hw j hjp
    have em : wrap64 (wrap64 ((j : Int) * (W : Int)) + (n : Int)) = ((n + W * j : Nat) : Int) := by
      rw [← Int.natCast_mul, Nat.mul_comm j W, w64 (n := ((W * j : Nat) : Int)) (by omega) (by omega), w64 (by omega) (by omega)]
      omega
    have emod : (n + W * j) % W = n := by rw [Nat.add_mul_mod_self_left, Nat.mod_eq_of_lt hn]
    have ediv : (n + W * j) / W = j := by rw [Nat.add_mul_div_left _ _ hW, Nat.div_eq_of_lt hn, Nat.zero_add]
    have next := ih (z.set (n + W * j) (bat w j)) (j + 1) (by omega) ⟨by rw [List.length_set, hz.1], fun i hi c => by
      rw [getD_set _ _ _ _ (by rw [hz.1]; exact hin)]
      by_cases d : n + W * j = i
      · rw [if_pos d, hw2, d]
      · rw [if_neg d]
        refine hz.2 i hi ?_
        rcases c with c | ⟨c1, c2⟩
        · exact .inl c
        · refine .inr ⟨c1, ?_⟩
          rcases Nat.lt_or_ge (i / W) j with q | q
          · exact q
          · have e1 : i / W = j := Nat.le_antisymm (Nat.le_of_lt_succ c2) q
            have := Nat.mod_add_div i W
            rw [c1, e1] at this
            exact absurd this d⟩
    have f1 : (j : Int) < (plen N W n : Int) := by omega
    have f2 : (j : Int) < (w.size : Int) := by omega
    have f3 : ((n + W * j : Nat) : Int) < ((IL z).length : Int) := by rw [IL_length, hz.1]; omega
    have f4 : wrap64 ((j : Int) + 1) = ((j + 1 : Nat) : Int) := by rw [w64 (by omega) (by omega)]; omega
    refine Ev.step (fun k => ?_) next
    rw [weave_Decode.l1, if_pos f1, if_pos (Int.natCast_nonneg j), if_pos f2, em, if_pos (Int.natCast_nonneg _), if_pos f3, bt_bat, Int.toNat_natCast, ← IL_set, f4]
/-- How many bytes were others, in the first words. -/
def sm (d : Nat → Nat) : Nat → Nat
  | 0 => 0
  | n + 1 => sm d n + d n
theorem sm_le (d : Nat → Nat) (n : Nat) (h : ∀ m, m < n → d m ≤ 255) : sm d n ≤ 255 * n := by
  induction n with
  | zero => exact Nat.le_refl _
  | succ n ih =>
    have := ih fun m hm => h m (by omega)
    have := h n (by omega)
    show sm d n + d n ≤ _
    omega
theorem words_loop {N P W D : Nat} (h : Pg N P W D) (raw raw' : ByteArray) (hr : raw.size = N + W * P) (hr' : raw'.size = N + W * P) (seed : Int) (l : List Int) (hl : l.length < 1000000) (d : Nat → Nat) (hd : ∀ n, n < W → d n ≤ 255)
    (HD : ∀ n, n < W → Ev (fun k => rs_Decode.f k (partB raw' W n) (P : Int) (holL l W n (N + W * P))) (partB raw W n, (d n : Int), 0)) {R : ByteArray × Int × Int}
    (hR : ∀ z, Prog raw N W W 0 z → Ev (fun k => (weave_Mask.f k seed (N : Int)).bind fun t404 => ((weave_Mix.f k (ofE z) t404).bind fun t405 => (some (t405, ((sm d W : Nat) : Int), (0 : Int))))) R) (r : Nat) :
    ∀ (z : List E) (n : Nat), n + r = W → Prog raw N W n 0 z → Ev (fun k => weave_Decode.l0 k raw' seed l (N : Int) (IL z) ((sm d n : Nat) : Int) (W : Int) (n : Int) (W : Int) (D : Int) (P : Int) ((N + W * P : Nat) : Int)) R := by
  have hW := h.s.w1
  have hN2 := h.n2
  have hWN := h.s.wN
  have hwp := h.wp
  induction r with
  | zero =>
    intro z n hn hz
    obtain rfl : n = W := by omega
    refine Ev.step (fun k => ?_) (hR z hz)
    rw [weave_Decode.l0, if_neg (by omega)]
    rfl
  | succ r ih =>
    intro z n hn hz
    have hnW : n < W := by omega
    have hs := sm_le d n fun m hm => hd m (by omega)
    have hdn := hd n hnW
    have esm : wrap64 (((sm d n : Nat) : Int) + (d n : Int)) = ((sm d (n + 1) : Nat) : Int) := by
      rw [show sm d (n + 1) = sm d n + d n from rfl, w64 (by omega) (by omega)]
      omega
    have hsz : (partB raw W n).size = plen N W n + P := by rw [partB_size, hr, plen_add hW (by omega)]
    have hcopy := copy_loop h raw' raw (partB raw W n) seed l ((sm d (n + 1) : Nat) : Int) hnW (fun j hj => ⟨by rw [hsz]; omega, bat_partB (by rw [hr, plen_add hW (by omega)]; omega)⟩) (fun z' hz' => ih z' (n + 1) (by omega) hz') (plen N W n) z 0 (by omega) hz
    refine Ev.step (f := fun k => (weave_part.f k raw' (W : Int) (D : Int) (P : Int) ((N + W * P : Nat) : Int) (n : Int)).bind fun t406 => ((weave_holes.f k l (W : Int) (D : Int) (P : Int) ((N + W * P : Nat) : Int) (n : Int)).bind fun t407 => ((rs_Decode.f k t406 (P : Int) t407).bind fun bt410 => (if bt410.2.2 = 0 then ((weave_size.f (W : Int) (D : Int) (P : Int) ((N + W * P : Nat) : Int) (n : Int)).bind fun t413 => (weave_Decode.l1 k raw' seed l (N : Int) (IL z) (wrap64 (((sm d n : Nat) : Int) + bt410.2.1)) (n : Int) bt410.1 (W : Int) (n : Int) t413 0 (W : Int) (D : Int) (P : Int) ((N + W * P : Nat) : Int))) else (some ((⟨#[]⟩ : ByteArray), 0, bt410.2.2)))))) (fun k => by rw [weave_Decode.l0, if_pos (by omega)])
      (Ev.bind (part_ev raw' W n _ _ _ hW (by omega) (by omega) (by omega)) (Ev.bind (holes_ev l W n (N + W * P) _ _ hW hl (by omega)) (Ev.bind (HD n hnW) (ifp rfl ?_))))
    show Ev (fun k => (weave_size.f (W : Int) (D : Int) (P : Int) ((N + W * P : Nat) : Int) (n : Int)).bind fun t413 => weave_Decode.l1 k raw' seed l (N : Int) (IL z) (wrap64 (((sm d n : Nat) : Int) + (d n : Int))) (n : Int) (partB raw W n) (W : Int) (n : Int) t413 0 (W : Int) (D : Int) (P : Int) ((N + W * P : Nat) : Int)) R
    refine Ev.congr (fun k => by rw [size_ev h hnW, Option.bind_some, esm]; rfl) hcopy
/-- What decoding comes to. -/
theorem decodes {N P W D : Nat} (h : Pg N P W D) (hE : Ev (fun k => weave_ShapeOf.f k (N : Int) (P : Int)) ((W : Int), (D : Int), (P : Int), ((N + W * P : Nat) : Int), true)) (s raw raw' : ByteArray) (hs : s.size = N) (hr : raw.size = N + W * P) (hr' : raw'.size = N + W * P) (seed : Int)
    (hb : ∀ i, i < N → bat raw i = bat (mixB s (maskB seed N)) i) (l : List Int) (hl : l.length < 1000000) (d : Nat → Nat) (hd : ∀ n, n < W → d n ≤ 255)
    (HD : ∀ n, n < W → Ev (fun k => rs_Decode.f k (partB raw' W n) (P : Int) (holL l W n (N + W * P))) (partB raw W n, (d n : Int), 0)) :
    Ev (fun k => weave_Decode.f k raw' (W : Int) (D : Int) (P : Int) ((N + W * P : Nat) : Int) seed l) (s, ((sm d W : Nat) : Int), 0) := by
  have hW := h.s.w1
  have hN2 := h.n2
  have hp := page_eq h
  have ht : (mixB s (maskB seed N)).size = N := by rw [mixB_size, maskB_size, hs, Nat.min_self]
  have hmk := mask_ev seed (N : Int) (by omega)
  rw [Int.toNat_natCast] at hmk
  have hl0 := words_loop h raw raw' hr hr' seed l hl d hd HD (R := (s, ((sm d W : Nat) : Int), 0)) (fun z hz => by
    have e : ofE z = mixB s (maskB seed N) := bat_ext (by rw [size_ofE, hz.1, ht]) fun i hi => by
      rw [size_ofE, hz.1] at hi
      rw [bat_ofE, hz.2 i hi (.inl (Nat.mod_lt _ hW)), hb i hi]
    rw [e]
    have hm2 := mix_ev (mixB s (maskB seed N)) (maskB seed N) (by omega)
    rw [mix_twice s _ (by rw [maskB_size, hs])] at hm2
    exact Ev.bind hmk (Ev.bind hm2 (Ev.now _))) W (List.replicate N 0) 0 (by omega) ⟨by simp, fun i hi c => c.elim (fun q => absurd q (Nat.not_lt_zero _)) (fun q => absurd q.2 (Nat.not_lt_zero _))⟩
  have hj : Ev (fun k => weave_Decode.j0 k raw' seed l false (W : Int) (D : Int) (P : Int) ((N + W * P : Nat) : Int)) (s, ((sm d W : Nat) : Int), 0) := by
    refine Ev.step (fun k => ?_) hl0
    rw [weave_Decode.j0, if_neg (by decide), hp, if_pos (Int.natCast_nonneg N), Int.toNat_natCast, if_pos (by omega), IL_zeros]
    rfl
  refine Ev.congr (f := fun k => (weave_fits.f k (W : Int) (D : Int) (P : Int) ((N + W * P : Nat) : Int)).bind fun t400 => (if t400 = true then (weave_Decode.j0 k raw' seed l false (W : Int) (D : Int) (P : Int) ((N + W * P : Nat) : Int)) else (weave_Decode.j0 k raw' seed l true (W : Int) (D : Int) (P : Int) ((N + W * P : Nat) : Int)))) (fun k => ?_) (Ev.bind (fits_ev h hE) (ifp rfl hj))
  rw [weave_Decode.f, hr', show (((N + W * P : Nat) : Int) != ((N + W * P : Nat) : Int)) = false by simp]
theorem decode_no {N P W D : Nat} (h : Pg N P W D) (hE : Ev (fun k => weave_ShapeOf.f k (N : Int) (P : Int)) ((W : Int), (D : Int), (P : Int), ((N + W * P : Nat) : Int), true)) (s : ByteArray) (hs : s.size ≠ N + W * P) (seed : Int) (l : List Int) :
    Ev (fun k => weave_Decode.f k s (W : Int) (D : Int) (P : Int) ((N + W * P : Nat) : Int) seed l) ((⟨#[]⟩ : ByteArray), 0, 1) := by
  refine Ev.congr (f := fun k => (weave_fits.f k (W : Int) (D : Int) (P : Int) ((N + W * P : Nat) : Int)).bind fun t400 => (if t400 = true then (weave_Decode.j0 k s seed l true (W : Int) (D : Int) (P : Int) ((N + W * P : Nat) : Int)) else (weave_Decode.j0 k s seed l true (W : Int) (D : Int) (P : Int) ((N + W * P : Nat) : Int)))) (fun k => ?_) (Ev.bind (fits_ev h hE) (ifp rfl (Ev.step (f := fun _ => some ((⟨#[]⟩ : ByteArray), 0, 1)) (fun k => by rw [weave_Decode.j0, if_pos rfl]) (Ev.now _))))
  have : (s.size : Int) ≠ ((N + W * P : Nat) : Int) := fun q => hs (Int.ofNat_inj.mp q)
  rw [weave_Decode.f, show ((s.size : Int) != ((N + W * P : Nat) : Int)) = true by simpa using this]
end Go.Proofs.Ytpleeckbakllpaa.Gf
