/- Words of which few bytes are others are made right, as the page's bytes are told; no condition. -/
import Derived.Test.YtpleeckbakllpaaWvC
import Derived.Test.YtpleeckbakllpaaGfL
namespace Go.Proofs.Ytpleeckbakllpaa.Gf
open Go.RowKit Go.Proofs.YtpleeckbakllpaaX.PrintWords Go.Proofs.YtpleeckbakllpaaX.PrintLast Go.Proofs.YtpleeckbakllpaaX.PrintMore Go.Proofs.Ytpleeckbakllpaa.XWv
set_option linter.unusedSimpArgs false
set_option linter.unusedVariables false
theorem rev_perm {N : Nat} {K L : List Nat} (kn : K.Nodup) (ks : ∀ j ∈ K, j < N) (ln : L.Nodup) (ls : ∀ j ∈ L, j < N) (h : ∀ i, i < N → (N - 1 - i ∈ K ↔ i ∈ L)) : K.length = L.length := by
  have hp : K.Perm (L.map fun i => N - 1 - i) := by
    rw [List.perm_ext_iff_of_nodup kn ?_]
    · intro j
      rw [List.mem_map]
      constructor
      · intro hj
        have hjs := ks j hj
        exact ⟨N - 1 - j, (h _ (by omega)).mp (by rw [show N - 1 - (N - 1 - j) = j by omega]; exact hj), by omega⟩
      · rintro ⟨i, hi, rfl⟩
        exact (h i (ls i hi)).mpr hi
    · rw [List.nodup_iff_pairwise_ne, List.pairwise_map]
      rw [List.nodup_iff_pairwise_ne] at ln
      refine List.Pairwise.imp_of_mem ?_ ln
      intro a b ha hb hab e
      have := ls a ha
      have := ls b hb
      exact hab (by omega)
  have := hp.length_eq
  rwa [List.length_map] at this
theorem er_bat {s w : ByteArray} (h : s.size = w.size) {j : Nat} (hj : j < s.size) : er s w (s.size - 1 - j) ≠ 0 ↔ bat s j ≠ bat w j := by
  unfold er
  rw [wd_getD s _ (by omega), wd_getD w _ (by omega), ← h, show s.size - 1 - (s.size - 1 - j) = j by omega]
  exact ⟨fun a b => a (by rw [show (toE s).getD j 0 = (toE w).getD j 0 from b, add_self]), fun a b => a (eq_of_add b)⟩
theorem dec_word (s w : ByteArray) (P : Nat) (l : List Int) (hs : s.size = w.size) (hM : May w.size P) (hok : Ok w P) (hl : ∀ x ∈ l, 0 ≤ x ∧ x < (w.size : Int)) (hll : l.length ≤ 1000) (L B : List Nat) (hLn : L.Nodup) (hLs : ∀ j ∈ L, j < w.size)
    (hL : ∀ j, j < w.size → (j ∈ L ↔ (j : Int) ∈ l)) (hB : ∀ j, j < w.size → bat s j ≠ bat w j → j ∉ L → j ∈ B) (hc : 2 * B.length + L.length ≤ P) :
    Ev (fun k => rs_Decode.f k s (P : Int) l) (w, ((((List.range w.size).filter fun j => decide (bat s j ≠ bat w j)).length : Nat) : Int), 0) := by
  have hM' : May s.size P := by rw [hs]; exact hM
  obtain ⟨m1, m2, m3, m4⟩ := hM
  obtain ⟨K, kn, ks, km, hk⟩ := lost_ev l s.size P (by omega) hll (by rw [hs]; exact hl)
  have hKL : ∀ i, i < s.size → (s.size - 1 - i ∈ K ↔ i ∈ L) := fun i hi => by rw [km i hi, hL i (by omega)]
  have hlen : K.length = L.length := rev_perm kn ks hLn (fun j hj => by rw [hs]; exact hLs j hj) hKL
  have hdn : ((List.range w.size).filter fun j => decide (bat s j ≠ bat w j)).Nodup := nodup_filter _ List.nodup_range
  have hdm : ∀ j, j ∈ ((List.range w.size).filter fun j => decide (bat s j ≠ bat w j)) ↔ j < w.size ∧ bat s j ≠ bat w j := fun j => by
    rw [List.mem_filter, List.mem_range]; simp only [decide_eq_true_eq]
  have hap : apart s w = ((List.range w.size).filter fun j => decide (bat s j ≠ bat w j)).length := by
    unfold apart
    refine rev_perm (N := s.size) (nodup_filter _ List.nodup_range) (fun j hj => List.mem_range.mp (List.mem_filter.mp hj).1) hdn (fun j hj => by have := ((hdm j).mp hj).1; omega) fun i hi => ?_
    rw [hdm, List.mem_filter, List.mem_range]
    simp only [decide_eq_true_eq]
    rw [er_bat hs hi]
    exact ⟨fun q => ⟨by omega, q.2⟩, fun q => ⟨by omega, q.2⟩⟩
  have hdl : ((List.range w.size).filter fun j => decide (bat s j ≠ bat w j)).length ≤ P := by
    have : ((List.range w.size).filter fun j => decide (bat s j ≠ bat w j)).length ≤ (B ++ L).length := by
      apply List.Nodup.length_le_of_subset hdn
      intro j hj
      obtain ⟨h1, h2⟩ := (hdm j).mp hj
      by_cases c : j ∈ L
      · exact List.mem_append.mpr (.inr c)
      · exact List.mem_append.mpr (.inl (hB j h1 h2 c))
    rw [List.length_append] at this
    omega
  rw [← hap]
  rw [← hap] at hdl
  by_cases o : Ok s P
  · have e : s = w := by
      refine words_far hs (by omega) (by omega) o hok ((List.range s.size).filter fun j => decide (er s w j ≠ 0)) (nodup_filter _ List.nodup_range) (fun j hj => List.mem_range.mp (List.mem_filter.mp hj).1) hdl ?_
      intro j hj hn
      refine Classical.byContradiction fun q => hn ?_
      rw [List.mem_filter, List.mem_range]
      exact ⟨hj, by simpa using q⟩
    have hR2 := rright_ev s P (by omega) (by omega)
    rw [show decide (May s.size P ∧ Ok s P) = true from decide_eq_true ⟨hM', o⟩] at hR2
    have hc2 : rs_Check.f (s.size : Int) (P : Int) = some true := by rw [check_eq, decide_eq_true hM']
    have h0 : apart s w = 0 := by
      rw [e]
      unfold apart
      simp [er, add_self]
    rw [h0, ← e]
    exact Ev.bind hk (Ev.bind (a := true) (Ev.congr (fun _ => hc2) (Ev.now _)) (ifp rfl (ifp (by rw [decide_eq_true_eq]; omega) (Ev.bind hR2 (ifp rfl (Ev.now _))))))
  · have hw : (wrong s w K).length ≤ B.length := by
      have : (wrong s w K).length ≤ (B.map fun i => s.size - 1 - i).length := by
        apply List.Nodup.length_le_of_subset
        · unfold wrong; exact nodup_filter _ List.nodup_range
        · intro j hj
          unfold wrong at hj
          rw [List.mem_filter, List.mem_range] at hj
          have h2 := hj.2
          simp only [decide_eq_true_eq] at h2
          have hjs := hj.1
          have e1 : s.size - 1 - (s.size - 1 - j) = j := by omega
          have h3 := (er_bat hs (j := s.size - 1 - j) (by omega)).mp (by rw [e1]; exact h2.1)
          have h4 : s.size - 1 - j ∉ L := fun q => h2.2 (by have := (hKL (s.size - 1 - j) (by omega)).mpr q; rwa [e1] at this)
          exact List.mem_map.mpr ⟨s.size - 1 - j, hB _ (by omega) h3 h4, e1⟩
      rwa [List.length_map] at this
    exact complete hM' ks kn (by omega) hk o hs hok (by omega)

/-! ### counting word by word -/
theorem filter_or {l : List Nat} (p q : Nat → Bool) (h : ∀ x ∈ l, ¬ (p x = true ∧ q x = true)) : (l.filter fun x => p x || q x).length = (l.filter p).length + (l.filter q).length := by
  induction l with
  | nil => rfl
  | cons a l ih =>
    have ih := ih fun x hx => h x (List.mem_cons_of_mem _ hx)
    have ha := h a List.mem_cons_self
    rcases Bool.eq_false_or_eq_true (p a) with c | c <;> rcases Bool.eq_false_or_eq_true (q a) with d | d
    · exact absurd ⟨c, d⟩ ha
    · rw [List.filter_cons_of_pos (by simp [c]), List.filter_cons_of_pos c, List.filter_cons_of_neg (by simp [d]), List.length_cons, List.length_cons, ih]; omega
    · rw [List.filter_cons_of_pos (by simp [d]), List.filter_cons_of_neg (by simp [c]), List.filter_cons_of_pos d, List.length_cons, List.length_cons, ih]; omega
    · rw [List.filter_cons_of_neg (by simp [c, d]), List.filter_cons_of_neg (by simp [c]), List.filter_cons_of_neg (by simp [d]), ih]
theorem class_len (Q : Nat → Bool) (R W n : Nat) (hW : 0 < W) (hn : n < W) : ((List.range (plen R W n)).filter fun j => Q (n + W * j)).length = ((List.range R).filter fun i => Q i && decide (i % W = n)).length := by
  have hp : (((List.range (plen R W n)).filter fun j => Q (n + W * j)).map fun j => n + W * j).Perm ((List.range R).filter fun i => Q i && decide (i % W = n)) := by
    rw [List.perm_ext_iff_of_nodup ?_ (nodup_filter _ List.nodup_range)]
    · intro i
      rw [List.mem_map, List.mem_filter, List.mem_range, Bool.and_eq_true, decide_eq_true_eq]
      constructor
      · rintro ⟨j, hj, rfl⟩
        rw [List.mem_filter, List.mem_range] at hj
        exact ⟨(plen_iff hW).mp hj.1, hj.2, by rw [Nat.add_mul_mod_self_left, Nat.mod_eq_of_lt hn]⟩
      · rintro ⟨h1, h2, h3⟩
        have e : n + W * (i / W) = i := by have := Nat.mod_add_div i W; rw [h3] at this; exact this
        refine ⟨i / W, ?_, e⟩
        rw [List.mem_filter, List.mem_range]
        exact ⟨(plen_iff hW).mpr (by rw [e]; exact h1), by rw [e]; exact h2⟩
    · rw [List.nodup_iff_pairwise_ne, List.pairwise_map]
      have hd : ((List.range (plen R W n)).filter fun j => Q (n + W * j)).Nodup := nodup_filter _ List.nodup_range
      rw [List.nodup_iff_pairwise_ne] at hd
      refine hd.imp ?_
      intro a b hab e
      exact hab (Nat.eq_of_mul_eq_mul_left hW (by omega))
  have := hp.length_eq
  rwa [List.length_map] at this
theorem sm_len (Q : Nat → Bool) (R W : Nat) (hW : 0 < W) (n : Nat) : n ≤ W → sm (fun n => ((List.range (plen R W n)).filter fun j => Q (n + W * j)).length) n = ((List.range R).filter fun i => Q i && decide (i % W < n)).length := by
  induction n with
  | zero =>
    intro _
    have : ((List.range R).filter fun i => Q i && decide (i % W < 0)) = [] := by
      rw [List.filter_eq_nil_iff]
      intro a _
      simp
    rw [this]
    rfl
  | succ n ih =>
    intro h
    show sm _ n + ((List.range (plen R W n)).filter fun j => Q (n + W * j)).length = _
    rw [ih (by omega), class_len Q R W n hW (by omega), ← filter_or _ _ (fun x _ q => by
      simp only [Bool.and_eq_true, decide_eq_true_eq] at q
      omega)]
    congr 1
    apply List.filter_congr
    intro i _
    rcases Bool.eq_false_or_eq_true (Q i) with c | c
    · rw [c, Bool.true_and, Bool.true_and, Bool.true_and]
      by_cases d : i % W < n
      · rw [decide_eq_true d, decide_eq_true (show i % W < n + 1 by omega), Bool.true_or]
      · by_cases e : i % W = n
        · rw [decide_eq_false d, decide_eq_true e, decide_eq_true (show i % W < n + 1 by omega)]; rfl
        · rw [decide_eq_false d, decide_eq_false e, decide_eq_false (show ¬ i % W < n + 1 by omega)]; rfl
    · rw [c]; rfl
theorem sm_all (Q : Nat → Bool) (R W : Nat) (hW : 0 < W) : sm (fun n => ((List.range (plen R W n)).filter fun j => Q (n + W * j)).length) W = ((List.range R).filter Q).length := by
  rw [sm_len Q R W hW W (Nat.le_refl _)]
  congr 1
  apply List.filter_congr
  intro i _
  rw [decide_eq_true (Nat.mod_lt _ hW), Bool.and_true]
/-- A page of which few bytes of each word are others, or known as lost, comes back. -/
theorem comes_back {N P W D : Nat} (h : Pg N P W D) (hE : Ev (fun k => weave_ShapeOf.f k (N : Int) (P : Int)) ((W : Int), (D : Int), (P : Int), ((N + W * P : Nat) : Int), true)) (s raw raw' : ByteArray) (hs : s.size = N) (hr : raw.size = N + W * P) (hr' : raw'.size = N + W * P) (seed : Int)
    (hb : ∀ i, i < N → bat raw i = bat (mixB s (maskB seed N)) i) (hok : ∀ n, n < W → Ok (partB raw W n) P) (l : List Int) (hl : l.length ≤ 1000) (L B : Nat → List Nat) (hLn : ∀ n, n < W → (L n).Nodup) (hLs : ∀ n, n < W → ∀ j ∈ L n, n + W * j < N + W * P)
    (hL : ∀ n, n < W → ∀ j, n + W * j < N + W * P → (j ∈ L n ↔ ((n + W * j : Nat) : Int) ∈ l)) (hB : ∀ n, n < W → ∀ j, n + W * j < N + W * P → bat raw' (n + W * j) ≠ bat raw (n + W * j) → j ∉ L n → j ∈ B n) (hc : ∀ n, n < W → 2 * (B n).length + (L n).length ≤ P) :
    Ev (fun k => weave_Decode.f k raw' (W : Int) (D : Int) (P : Int) ((N + W * P : Nat) : Int) seed l) (s, ((((List.range (N + W * P)).filter fun i => decide (bat raw' i ≠ bat raw i)).length : Nat) : Int), 0) := by
  have hW := h.s.w1
  have hWN := h.s.wN
  rw [← sm_all (fun i => decide (bat raw' i ≠ bat raw i)) (N + W * P) W hW]
  have hpl : ∀ n, n < W → plen (N + W * P) W n = plen N W n + P := fun n hn => plen_add hW (by omega)
  have hMn : ∀ n, n < W → May (partB raw W n).size P := fun n hn => by rw [partB_size, hr, hpl n hn]; exact h.word hn
  refine decodes h hE s raw raw' hs hr hr' seed hb l (by omega) _ (fun n hn => ?_) (fun n hn => ?_)
  · have h1 := List.length_filter_le (fun j => decide (bat raw' (n + W * j) ≠ bat raw (n + W * j))) (List.range (plen (N + W * P) W n))
    rw [List.length_range] at h1
    have h2 := (hMn n hn).2.2.2
    rw [partB_size, hr] at h2
    omega
  · have hz : (partB raw W n).size = plen (N + W * P) W n := by rw [partB_size, hr]
    have hz' : (partB raw' W n).size = (partB raw W n).size := by rw [partB_size, partB_size, hr, hr']
    have mem : ∀ x, x ∈ holL l W n (N + W * P) ↔ ∃ y ∈ l, (0 ≤ y ∧ y < ((N + W * P : Nat) : Int) ∧ Int.tmod y (W : Int) = (n : Int)) ∧ Int.tdiv y (W : Int) = x := fun x => by
      unfold holL
      rw [List.mem_map]
      constructor
      · rintro ⟨y, hy, e⟩
        rw [List.mem_filter, decide_eq_true_eq] at hy
        exact ⟨y, hy.1, hy.2, e⟩
      · rintro ⟨y, hy, q, e⟩
        exact ⟨y, by rw [List.mem_filter, decide_eq_true_eq]; exact ⟨hy, q⟩, e⟩
    have nat : ∀ y : Int, 0 ≤ y → Int.tmod y (W : Int) = (n : Int) → ∃ j : Nat, y = ((n + W * j : Nat) : Int) ∧ Int.tdiv y (W : Int) = (j : Int) := fun y y0 ym => by
      obtain ⟨a, rfl⟩ : ∃ a : Nat, y = (a : Int) := ⟨y.toNat, by omega⟩
      have e1 : a % W = n := Int.ofNat_inj.mp ym
      have e2 := Nat.mod_add_div a W
      rw [e1] at e2
      exact ⟨a / W, by rw [e2], rfl⟩
    have := dec_word (partB raw' W n) (partB raw W n) P (holL l W n (N + W * P)) hz' (hMn n hn) (hok n hn) (fun x hx => by
      obtain ⟨y, hy, ⟨y0, y1, ym⟩, e⟩ := (mem x).mp hx
      obtain ⟨j, ej, ed⟩ := nat y y0 ym
      rw [ed] at e
      have : j < plen (N + W * P) W n := (plen_iff hW).mpr (by omega)
      rw [hz]
      omega) (by
        have := List.length_filter_le (fun x : Int => decide (0 ≤ x ∧ x < ((N + W * P : Nat) : Int) ∧ Int.tmod x (W : Int) = (n : Int))) l
        unfold holL
        rw [List.length_map]
        omega) (L n) (B n) (hLn n hn) (fun j hj => by rw [hz]; exact (plen_iff hW).mpr (hLs n hn j hj)) (fun j hj => by
      rw [hz] at hj
      have hj2 := (plen_iff hW).mp hj
      rw [hL n hn j hj2, mem]
      constructor
      · intro q
        refine ⟨_, q, ⟨Int.natCast_nonneg _, by omega, ?_⟩, ?_⟩
        · show (((n + W * j) % W : Nat) : Int) = _
          rw [Nat.add_mul_mod_self_left, Nat.mod_eq_of_lt hn]
        · show (((n + W * j) / W : Nat) : Int) = _
          rw [Nat.add_mul_div_left _ _ hW, Nat.div_eq_of_lt hn, Nat.zero_add]
      · rintro ⟨y, hy, ⟨y0, y1, ym⟩, e⟩
        obtain ⟨j', ej, ed⟩ := nat y y0 ym
        rw [ed] at e
        have : j' = j := by omega
        rw [← this, ← ej]
        exact hy) (fun j hj hne hnl => by
      rw [hz] at hj
      rw [bat_partB (by rw [hr']; exact hj), bat_partB (by rw [hr]; exact hj)] at hne
      exact hB n hn j ((plen_iff hW).mp hj) hne hnl) (hc n hn)
    rw [hz] at this
    have e : ((List.range (plen (N + W * P) W n)).filter fun j => decide (bat (partB raw' W n) j ≠ bat (partB raw W n) j)) = ((List.range (plen (N + W * P) W n)).filter fun j => decide (bat raw' (n + W * j) ≠ bat raw (n + W * j))) := by
      apply List.filter_congr
      intro j hj
      have hj := List.mem_range.mp hj
      rw [bat_partB (by rw [hr']; exact hj), bat_partB (by rw [hr]; exact hj)]
    rw [e] at this
    exact this
/-- The page that the statements take. -/
theorem pg250 : Pg 250 8 3 84 := ⟨by omega, by omega, by omega, by omega, ⟨by omega, by omega, by decide, by omega⟩⟩
theorem shape250 : Ev (fun k => weave_ShapeOf.f k 250 8) (3, 84, 8, 274, true) := Ev.of (fun k => weave_ShapeOf.mono _ _ k) (k := 20) (by decide +kernel)
theorem place (x : Int) (n : Int) (h0 : 12 ≤ n) (hn : n ≤ 24) : ∃ k : Nat, (k : Int) < 274 - n ∧ Int.tmod (wrap64 ((wrap64 ((Int.tmod x (wrap64 ((274 : Int) - n))) + (274 : Int))) - n)) (wrap64 ((274 : Int) - n)) = (k : Int) := by
  have e : wrap64 ((274 : Int) - n) = 274 - n := w64 (by omega) (by omega)
  have h1 := Int.tmod_lt_of_pos x (show 0 < 274 - n by omega)
  have h2 := Int.lt_tmod_of_pos x (show 0 < 274 - n by omega)
  rw [e, w64 (n := Int.tmod x (274 - n) + 274) (by omega) (by omega), w64 (by omega) (by omega)]
  have h3 := Int.tmod_lt_of_pos (Int.tmod x (274 - n) + 274 - n) (show 0 < 274 - n by omega)
  have h4 : 0 ≤ Int.tmod (Int.tmod x (274 - n) + 274 - n) (274 - n) := Int.tmod_nonneg _ (by omega)
  exact ⟨(Int.tmod (Int.tmod x (274 - n) + 274 - n) (274 - n)).toNat, by omega, by omega⟩
end Go.Proofs.Ytpleeckbakllpaa.Gf
