/- What decoding makes of any word is right and near it, or it tells that there is none; no condition. -/
import Derived.Test.YtconplohaaohlaaGfL
import Derived.Test.YtconplohaaohlaaGfR
import Derived.Test.YtconplohaaohlaaXRsx9
namespace Go.Proofs.Ytconplohaaohlaa.Pure
open Go.RowKit Go.Proofs.Ytconplohaaohlaa.XRs Go.Proofs.YtconplohaaohlaaX.PrintWords Go.Proofs.YtconplohaaohlaaX.PrintLast Go.Proofs.YtconplohaaohlaaX.PrintMore Go.Proofs.Ytconplohaaohlaa.Gf
set_option linter.unusedSimpArgs false
set_option linter.unusedVariables false
/-- The places that are marked. -/
structure Marks (N : Nat) (S : List Nat) (holes : List Bool) (many : Int) : Prop where
  nd : S.Nodup
  lt : ∀ j ∈ S, j < N
  len : holes.length = N
  many : many = (S.length : Int)
  mem : ∀ j, j < N → (holes.getD j false = true ↔ j ∈ S)
theorem marks_loop (t w : ByteArray) (n : Nat) (l : List Int) (k e : Int) (hN : t.size ≤ 255) (hl : l.length ≤ 20) (r : Nat) : ∀ (S : List Nat) (holes : List Bool) (bad : Bool) (many : Int) (i : Nat), i + r = l.length → Marks t.size S holes many → S.length ≤ i →
    ∃ (S' : List Nat) (holes' : List Bool) (many' : Int), Marks t.size S' holes' many' ∧ (∀ j, j < t.size → (j ∈ S' ↔ j ∈ S ∨ (j : Int) ∈ l.drop i)) ∧
      ∀ R, Ev (fun q => tinderboxlaw28_RsAny.j3 q t (n : Int) w k e holes' many' (bad || ((l.drop i).any fun x => decide (x < 0 ∨ (t.size : Int) ≤ x)) || decide (many' > (n : Int)))) R →
        Ev (fun q => tinderboxlaw28_RsAny.l0 q t (n : Int) l w k e holes bad many (i : Int)) R := by
  induction r with
  | zero =>
    intro S holes bad many i hi hM hS
    rw [List.drop_eq_nil_of_le (by omega)]
    refine ⟨S, holes, many, hM, fun j hj => by simp, fun R h => ?_⟩
    refine Ev.step (fun q => ?_) h
    rw [tinderboxlaw28_RsAny.l0, if_neg (by omega)]
    cases bad with
    | true => rw [if_pos rfl]; simp
    | false => rw [if_neg (by decide)]; simp
  | succ r ih =>
    intro S holes bad many i hi hM hS
    have hil : i < l.length := by omega
    have e0 : rd l (i : Int) = l[i] := by
      show l.getD ((i : Int)).toNat 0 = _
      rw [Int.toNat_natCast, List.getD_eq_getElem?_getD, List.getElem?_eq_getElem hil]; rfl
    have ei : wrap64 ((i : Int) + 1) = ((i + 1 : Nat) : Int) := by rw [w64 (by omega) (by omega)]; omega
    rw [List.drop_eq_getElem_cons hil]
    by_cases c : l[i] < 0 ∨ (t.size : Int) ≤ l[i]
    · obtain ⟨S', holes', many', h1, h2, h3⟩ := ih S holes true many (i + 1) (by omega) hM (by omega)
      refine ⟨S', holes', many', h1, fun j hj => ?_, fun R h => ?_⟩
      · rw [h2 j hj, List.mem_cons]
        constructor
        · rintro (a | a)
          · exact .inl a
          · exact .inr (.inr a)
        · rintro (a | a | a)
          · exact .inl a
          · omega
          · exact .inr a
      · refine Ev.step (f := fun q => tinderboxlaw28_RsAny.j2 q t (n : Int) l w k e holes bad many (i : Int) true) (fun q => ?_) (Ev.step (fun q => ?_) (h3 R ?_))
        · rw [tinderboxlaw28_RsAny.l0, if_pos (by omega), if_pos (by omega), e0]
          by_cases d : l[i] < 0
          · rw [if_pos d]
          · rw [if_neg d, decide_eq_true (by omega)]
        · rw [tinderboxlaw28_RsAny.j2, if_pos rfl, ei]
        · rw [List.any_cons, decide_eq_true c] at h
          simpa using h
    · obtain ⟨x, hx⟩ : ∃ x : Nat, l[i] = (x : Int) := ⟨l[i].toNat, by omega⟩
      have hxN : x < t.size := by omega
      by_cases d : x ∈ S
      · obtain ⟨S', holes', many', h1, h2, h3⟩ := ih S (holes.set x true) bad many (i + 1) (by omega) ⟨hM.nd, hM.lt, by rw [List.length_set, hM.len], hM.many, fun j hj => by
          rw [← hM.mem j hj, List.getD_eq_getElem?_getD, List.getD_eq_getElem?_getD, List.getElem?_set]
          by_cases g : x = j
          · rw [if_pos g, if_pos (by rw [hM.len]; exact hxN)]
            have := (hM.mem x hxN).mpr d
            rw [g, List.getD_eq_getElem?_getD] at this
            simp [this]
          · rw [if_neg g]⟩ (by omega)
        refine ⟨S', holes', many', h1, fun j hj => ?_, fun R h => ?_⟩
        · rw [h2 j hj, List.mem_cons, hx]
          constructor
          · rintro (a | a)
            · exact .inl a
            · exact .inr (.inr a)
          · rintro (a | a | a)
            · exact .inl a
            · left; rw [show j = x by omega]; exact d
            · exact .inr a
        · refine Ev.step (f := fun q => tinderboxlaw28_RsAny.j2 q t (n : Int) l w k e holes bad many (i : Int) false) (fun q => ?_) (Ev.step (fun q => ?_) (h3 R ?_))
          · rw [tinderboxlaw28_RsAny.l0, if_pos (by omega), if_pos (by omega), e0, if_neg (by omega), decide_eq_false (by omega)]
          · have hr : rdOf false holes (x : Int) = true := by
              show holes.getD ((x : Int)).toNat false = true
              rw [Int.toNat_natCast]; exact (hM.mem x hxN).mpr d
            rw [tinderboxlaw28_RsAny.j2, if_neg (by decide), if_pos (by omega), if_pos (by omega), e0, hx, if_pos (by omega), if_pos (by rw [hM.len]; omega), if_pos hr, Int.toNat_natCast, ei]
          · rw [List.any_cons, decide_eq_false c] at h
            simpa using h
      · obtain ⟨S', holes', many', h1, h2, h3⟩ := ih (x :: S) (holes.set x true) bad (many + 1) (i + 1) (by omega) ⟨List.nodup_cons.mpr ⟨d, hM.nd⟩, fun j hj => (List.mem_cons.mp hj).elim (fun g => g ▸ hxN) (hM.lt j), by rw [List.length_set, hM.len], by rw [hM.many, List.length_cons]; omega, fun j hj => by
          rw [List.mem_cons, ← hM.mem j hj, List.getD_eq_getElem?_getD, List.getD_eq_getElem?_getD, List.getElem?_set]
          by_cases g : x = j
          · rw [if_pos g, if_pos (by rw [hM.len]; exact hxN)]
            simp [g]
          · rw [if_neg g]
            constructor
            · exact fun a => .inr a
            · rintro (a | a)
              · exact absurd a.symm g
              · exact a⟩ (by rw [List.length_cons]; omega)
        refine ⟨S', holes', many', h1, fun j hj => ?_, fun R h => ?_⟩
        · rw [h2 j hj, List.mem_cons, List.mem_cons, hx]
          constructor
          · rintro ((a | a) | a)
            · right; left; omega
            · exact .inl a
            · exact .inr (.inr a)
          · rintro (a | a | a)
            · exact .inl (.inr a)
            · left; left; omega
            · exact .inr a
        · have hm := hM.many
          refine Ev.step (f := fun q => tinderboxlaw28_RsAny.j2 q t (n : Int) l w k e holes bad many (i : Int) false) (fun q => ?_) (Ev.step (fun q => ?_) (h3 R ?_))
          · rw [tinderboxlaw28_RsAny.l0, if_pos (by omega), if_pos (by omega), e0, if_neg (by omega), decide_eq_false (by omega)]
          · have hr : ¬ rdOf false holes (x : Int) = true := by
              show ¬ holes.getD ((x : Int)).toNat false = true
              rw [Int.toNat_natCast]; exact fun a => d ((hM.mem x hxN).mp a)
            rw [tinderboxlaw28_RsAny.j2, if_neg (by decide), if_pos (by omega), if_pos (by omega), e0, hx, if_pos (by omega), if_pos (by rw [hM.len]; omega), if_neg hr, Int.toNat_natCast, ei, w64 (by omega) (by omega)]
          · rw [List.any_cons, decide_eq_false c] at h
            simpa using h
theorem near_facts {ts ws hs o b i r : Nat} (hN : ts ≤ 255) (hw : ws = ts) (hh : hs = ts) (hi : i + (r + 1) = ts) (ho : o ≤ i) (hb : b ≤ i) :
    (i : Int) < (ts : Int) ∧ (0 : Int) ≤ (i : Int) ∧ (i : Int) < (ws : Int) ∧ (i : Int) < (hs : Int) ∧ i + 1 + r = ts ∧ o ≤ i + 1 ∧ b ≤ i + 1 ∧ o + 1 ≤ i + 1 ∧ b + 1 ≤ i + 1 ∧
    wrap64 ((i : Int) + 1) = ((i + 1 : Nat) : Int) ∧ wrap64 ((o : Int) + 1) = ((o + 1 : Nat) : Int) ∧ wrap64 ((b : Int) + 1) = ((b + 1 : Nat) : Int) := by
  refine ⟨by omega, by omega, by omega, by omega, by omega, by omega, by omega, by omega, by omega, ?_, ?_, ?_⟩ <;> rw [w64 (by omega) (by omega)] <;> omega
theorem add_one_swap (o x : Nat) : o + (x + 1) = o + 1 + x := by omega
theorem near_loop (t w : ByteArray) (n : Nat) (holes : List Bool) (k many : Int) (hN : t.size ≤ 255) (hw : w.size = t.size) (hh : holes.length = t.size) (hn : n ≤ 40) (hm0 : 0 ≤ many) (hm : many ≤ 300) (hok : Ok w n) (r : Nat) : ∀ (o b i : Nat), i + r = t.size → o ≤ i → b ≤ i →
    k = ((o + ((List.range' i r).filter fun i : Nat => decide (bt w (i : Int) ≠ bt t (i : Int))).length : Nat) : Int) →
    2 * ((b + ((List.range' i r).filter fun i : Nat => decide (bt w (i : Int) ≠ bt t (i : Int) ∧ ¬ holes.getD i false = true)).length : Nat) : Int) + many ≤ (n : Int) →
    Ev (fun q => tinderboxlaw28_RsAny.l1 q t (n : Int) w k holes many (o : Int) (b : Int) (i : Int)) true := by
  induction r with
  | zero =>
    intro o b i hi ho hb h1 h2
    have hR := right_ev w n (by clear h1 h2; omega) (by clear h1 h2; omega)
    rw [decide_eq_true hok] at hR
    simp only [List.range'_zero, List.filter_nil, List.length_nil, Nat.add_zero] at h1 h2
    refine Ev.step (f := fun q => (tinderboxlaw28_right.f q w (n : Int)).bind fun t434 => (if t434 = true then (if k = (o : Int) then (if (wrap64 ((wrap64 (2 * (b : Int))) + many)) ≤ (n : Int) then (some true) else (some ((o : Int) == 0))) else (some false)) else (some false))) (fun q => ?_) (Ev.bind hR (ifp rfl (ifp h1 (ifp ?_ (Ev.now _)))))
    · rw [tinderboxlaw28_RsAny.l1, if_neg (by omega), if_pos (by omega)]
    · rw [w64 (n := 2 * (b : Int)) (by omega) (by omega), w64 (by omega) (by omega)]
      exact h2
  | succ r ih =>
    intro o b i hi ho hb h1 h2
    obtain ⟨q1, q2, q3, q4, q5, q6, q7, q8, q9, ei, eo, eb⟩ := near_facts hN hw hh hi ho hb
    have hrd : rdOf false holes (i : Int) = holes.getD i false := by show holes.getD ((i : Int)).toNat false = _; rw [Int.toNat_natCast]
    rw [List.range'_succ] at h1 h2
    by_cases c : bt w (i : Int) = bt t (i : Int)
    · rw [List.filter_cons_of_neg (by simp [c])] at h1 h2
      refine Ev.step (fun q => ?_) (ih o b (i + 1) q5 q6 q7 h1 h2)
      rw [tinderboxlaw28_RsAny.l1, if_pos q1, if_pos q2, if_pos q3, if_pos c, ei]
    · rw [List.filter_cons_of_pos (by simp [c]), List.length_cons, add_one_swap o _] at h1
      by_cases d : holes.getD i false = true
      · rw [List.filter_cons_of_neg (by simp only [decide_eq_true_eq]; exact fun a => a.2 d)] at h2
        refine Ev.step (fun q => ?_) (ih (o + 1) b (i + 1) q5 q8 q7 h1 h2)
        rw [tinderboxlaw28_RsAny.l1, if_pos q1, if_pos q2, if_pos q3, if_neg c, if_pos q4, hrd, if_pos d, ei, eo]
      · rw [List.filter_cons_of_pos (by simp only [decide_eq_true_eq]; exact ⟨c, d⟩), List.length_cons, add_one_swap b _] at h2
        refine Ev.step (fun q => ?_) (ih (o + 1) (b + 1) (i + 1) q5 q8 q9 h1 h2)
        rw [tinderboxlaw28_RsAny.l1, if_pos q1, if_pos q2, if_pos q3, if_neg c, if_pos q4, hrd, if_neg d, ei, eo, eb]
theorem rev_count (N : Nat) (P : Nat → Bool) : ((List.range N).filter P).length = ((List.range N).filter fun i => P (N - 1 - i)).length := by
  have : ((List.range N).filter P).Perm (((List.range N).filter fun i => P (N - 1 - i)).map fun i => N - 1 - i) := by
    rw [List.perm_ext_iff_of_nodup (nodup_filter _ List.nodup_range) ?_]
    · intro j
      rw [List.mem_filter, List.mem_range, List.mem_map]
      constructor
      · rintro ⟨a, b⟩
        exact ⟨N - 1 - j, List.mem_filter.mpr ⟨List.mem_range.mpr (by omega), by rw [show N - 1 - (N - 1 - j) = j by omega]; exact b⟩, by omega⟩
      · rintro ⟨i, hi, rfl⟩
        have h := List.mem_filter.mp hi
        exact ⟨by have := List.mem_range.mp h.1; omega, h.2⟩
    · rw [List.nodup_iff_pairwise_ne, List.pairwise_map]
      have := nodup_filter (fun i => P (N - 1 - i)) (List.nodup_range (n := N))
      rw [List.nodup_iff_pairwise_ne] at this
      refine List.Pairwise.imp_of_mem ?_ this
      intro a b ha hb hab e
      have h1 := List.mem_range.mp (List.mem_filter.mp ha).1
      have h2 := List.mem_range.mp (List.mem_filter.mp hb).1
      exact hab (by omega)
  have := this.length_eq
  rwa [List.length_map] at this
theorem empty_toList : (⟨#[]⟩ : ByteArray).toList = [] := by rw [ByteArray.toList_eq]
theorem any_tail {t w : ByteArray} {n : Nat} {l : List Int} {k e : Int} (hN : t.size ≤ 255) (hl : l.length ≤ 20)
    (H : ∀ (S : List Nat) (holes : List Bool) (many : Int), Marks t.size S holes many → (∀ j, j < t.size → (j ∈ S ↔ (j : Int) ∈ l)) →
      Ev (fun q => tinderboxlaw28_RsAny.j3 q t (n : Int) w k e holes many ((l.any fun x => decide (x < 0 ∨ (t.size : Int) ≤ x)) || decide (many > (n : Int)))) true) :
    Ev (fun q => tinderboxlaw28_RsAny.j0 q t (n : Int) l w k e false) true := by
  obtain ⟨S, holes, many, h1, h2, h3⟩ := marks_loop t w n l k e hN hl l.length [] (List.replicate t.size false) false 0 0 (by omega) ⟨List.nodup_nil, by simp, by simp, by simp, fun j hj => by
    rw [List.getD_eq_getElem?_getD, List.getElem?_replicate, if_pos hj]; simp⟩ (by simp)
  rw [List.drop_zero] at h2 h3
  refine Ev.step (fun q => ?_) (h3 true ?_)
  · rw [tinderboxlaw28_RsAny.j0, if_neg (by decide), if_pos (by omega), Int.toNat_natCast, if_pos (by omega)]
    rfl
  · rw [Bool.false_or]
    exact H S holes many h1 (fun j hj => by rw [h2 j hj]; simp)
theorem none_tail {t : ByteArray} {n : Nat} {holes : List Bool} {many : Int} (flag : Bool) (ht : t.size < 1000) (hn : n ≤ 40) (h : flag = true ∨ ¬ Ok t n) :
    Ev (fun q => tinderboxlaw28_RsAny.j3 q t (n : Int) (⟨#[]⟩ : ByteArray) 0 280 holes many flag) true := by
  cases flag with
  | true =>
    refine Ev.step (f := fun _ => some true) (fun q => ?_) (Ev.now _)
    rw [tinderboxlaw28_RsAny.j3, if_pos rfl, if_pos rfl, empty_toList]
    rfl
  | false =>
    have hR := right_ev t n (by omega) (by omega)
    rw [show decide (Ok t n) = false from decide_eq_false (h.resolve_left (by decide))] at hR
    refine Ev.step (f := fun q => (tinderboxlaw28_right.f q t (n : Int)).bind fun t433 => some (!t433)) (fun q => ?_) (Ev.bind hR (Ev.now _))
    rw [tinderboxlaw28_RsAny.j3, if_neg (by decide), if_neg (by decide), if_pos rfl, if_pos empty_toList, if_pos rfl]
theorem near_counts {t w : ByteArray} {K S : List Nat} {holes : List Bool} {many : Int} (h : t.size = w.size) (hM : Marks t.size S holes many) (hS : ∀ j, j < t.size → (t.size - 1 - j ∈ K ↔ j ∈ S)) :
    apart t w = ((List.range' 0 t.size).filter fun i : Nat => decide (bt w (i : Int) ≠ bt t (i : Int))).length ∧
    (wrong t w K).length = ((List.range' 0 t.size).filter fun i : Nat => decide (bt w (i : Int) ≠ bt t (i : Int) ∧ ¬ holes.getD i false = true)).length := by
  rw [← List.range_eq_range']
  constructor
  · unfold apart
    rw [rev_count]
    congr 1
    apply List.filter_congr
    intro i hi
    have hi := List.mem_range.mp hi
    have := er_zero h hi
    by_cases c : bt t (i : Int) = bt w (i : Int)
    · rw [decide_eq_false (fun q => q (this.mpr c)), decide_eq_false (fun q => q c.symm)]
    · rw [decide_eq_true (p := er t w (t.size - 1 - i) ≠ 0) (fun q => c (this.mp q)), decide_eq_true (p := bt w (i : Int) ≠ bt t (i : Int)) (fun q => c q.symm)]
  · unfold wrong
    rw [rev_count]
    congr 1
    apply List.filter_congr
    intro i hi
    have hi := List.mem_range.mp hi
    have e1 := er_zero h hi
    have e2 := hS i hi
    have e3 := hM.mem i hi
    have : (er t w (t.size - 1 - i) ≠ 0 ∧ t.size - 1 - i ∉ K) ↔ (bt w (i : Int) ≠ bt t (i : Int) ∧ ¬ holes.getD i false = true) := by
      rw [e2, e3]
      constructor
      · rintro ⟨a, b⟩; exact ⟨fun q => a (e1.mpr q.symm), b⟩
      · rintro ⟨a, b⟩; exact ⟨fun q => a (e1.mp q).symm, b⟩
    by_cases c : (er t w (t.size - 1 - i) ≠ 0 ∧ t.size - 1 - i ∉ K)
    · rw [decide_eq_true c, decide_eq_true (this.mp c)]
    · rw [decide_eq_false c, decide_eq_false fun q => c (this.mpr q)]
theorem found_tail {t w : ByteArray} {n : Nat} {K S : List Nat} {holes : List Bool} {many : Int} (hM : May t.size n) (h : w.size = t.size) (hok : Ok w n) (hMk : Marks t.size S holes many) (hS : ∀ j, j < t.size → (t.size - 1 - j ∈ K ↔ j ∈ S)) (hmany : many = (K.length : Int)) (hl : K.length ≤ n)
    (hw : 2 * (wrong t w K).length + K.length ≤ n) : Ev (fun q => tinderboxlaw28_RsAny.j3 q t (n : Int) w (apart t w : Int) 0 holes many false) true := by
  obtain ⟨c1, c2⟩ := near_counts (K := K) h.symm hMk hS
  obtain ⟨m1, m2, m3, m4⟩ := hM
  refine Ev.step (fun q => ?_) (near_loop t w n holes (apart t w : Int) many m4 h hMk.len (by omega) (by omega) (by omega) hok t.size 0 0 0 (by omega) (Nat.le_refl _) (Nat.le_refl _) (by rw [Nat.zero_add, c1]) (by rw [Nat.zero_add, ← c2, hmany]; omega))
  rw [tinderboxlaw28_RsAny.j3, if_neg (by decide), if_pos rfl]
  rfl
theorem RsAny : tinderboxlaw28_RsAny.Pure := by
  intro a0 a1 l2 _ _ _ _ _
  obtain ⟨t, ht, h1, h2⟩ := few_ev a0
  obtain ⟨n, n1, n2, en⟩ := par15 a1
  have em : mn (l2.length : Int) 20 = ((min l2.length 20 : Nat) : Int) := by unfold mn; split <;> omega
  apply Ev.rounds
  have hl : (l2.take (min l2.length 20)).length ≤ 20 := by rw [List.length_take]; omega
  generalize hlt : l2.take (min l2.length 20) = l at hl
  have go : ∀ (w : ByteArray) (k e : Int), Ev (fun q => rs_Decode.f q t (n : Int) l) (w, k, e) → Ev (fun q => tinderboxlaw28_RsAny.j0 q t (n : Int) l w k e (decide ((t.size : Int) ≤ (n : Int)))) true → Ev (fun q => tinderboxlaw28_RsAny.f q a0 a1 l2) true := by
    intro w k e hd hj
    refine Ev.congr (f := fun q => (rs_Decode.f q t (n : Int) l).bind fun bt417 => ((tinderboxlaw28_awake.f q).bind fun t420 => (if t420 = true then (tinderboxlaw28_RsAny.j0 q t (n : Int) l bt417.1 bt417.2.1 bt417.2.2 (decide ((t.size : Int) ≤ (n : Int)))) else (tinderboxlaw28_RsAny.j0 q t (n : Int) l bt417.1 bt417.2.1 bt417.2.2 true)))) (fun q => ?_) (Ev.bind hd (Ev.bind awake_ev (ifp rfl hj)))
    unfold tinderboxlaw28_RsAny.f
    rw [ht, en, Option.bind_some, em, if_pos (by omega), if_pos (by omega), Int.toNat_natCast, hlt]
  have hlost : (∃ x ∈ l, x < 0 ∨ (t.size : Int) ≤ x) ∨ ∀ x ∈ l, 0 ≤ x ∧ x < (t.size : Int) := by
    by_cases c : ∃ x ∈ l, x < 0 ∨ (t.size : Int) ≤ x
    · exact .inl c
    · exact .inr fun x hx => by
        have : ¬ (x < 0 ∨ (t.size : Int) ≤ x) := fun q => c ⟨x, hx, q⟩
        omega
  have hbad : (∃ x ∈ l, x < 0 ∨ (t.size : Int) ≤ x) → Ev (fun q => rs_lostOf.f q l (t.size : Int) (n : Int)) ([], false) := fun c =>
    lost_bad l t.size n (by omega) (by omega) l.length [] 0 (by omega) (by simp) (by rw [List.drop_zero]; exact c)
  by_cases hm : t.size ≤ n
  · have hx : ∃ X, Ev (fun q => rs_lostOf.f q l (t.size : Int) (n : Int)) X := by
      rcases hlost with c | c
      · exact ⟨_, hbad c⟩
      · obtain ⟨K, _, _, _, h⟩ := lost_ev l t.size n (by omega) (by omega) c
        exact ⟨_, h⟩
    obtain ⟨X, hX⟩ := hx
    have hc : rs_Check.f (t.size : Int) (n : Int) = some false := by rw [check_eq, decide_eq_false fun q : May t.size n => by have := q.2.2.1; omega]
    refine go (⟨#[]⟩ : ByteArray) 0 1 (Ev.bind hX (Ev.bind (a := false) (Ev.congr (fun _ => hc) (Ev.now _)) (ifn (by decide) (Ev.now _)))) ?_
    rw [decide_eq_true (by omega)]
    refine Ev.step (f := fun q => (tinderboxlaw28_awake.f q).bind fun t421 => (if t421 = true then some true else (some false))) (fun q => ?_) (Ev.bind awake_ev (ifp rfl (Ev.now _)))
    rw [tinderboxlaw28_RsAny.j0, if_pos rfl, if_pos rfl, empty_toList]
    rfl
  · have hM : May t.size n := ⟨n1, by omega, by omega, by omega⟩
    have hc : rs_Check.f (t.size : Int) (n : Int) = some true := by rw [check_eq, decide_eq_true hM]
    rw [decide_eq_false (by omega : ¬ (t.size : Int) ≤ (n : Int))] at go
    rcases hlost with c | c
    · refine go (⟨#[]⟩ : ByteArray) 0 280 (Ev.bind (hbad c) (Ev.bind (a := true) (Ev.congr (fun _ => hc) (Ev.now _)) (ifp rfl (ifn (by decide) (Ev.now _))))) (any_tail (by omega) hl fun S holes many hMk hS => none_tail _ (by omega) (by omega) (.inl ?_))
      obtain ⟨x, hx, q⟩ := c
      rw [Bool.or_eq_true]
      exact .inl (List.any_eq_true.mpr ⟨x, hx, decide_eq_true q⟩)
    · obtain ⟨K, kn, ks, km, hk⟩ := lost_ev l t.size n (by omega) (by omega) c
      have hany : (l.any fun x => decide (x < 0 ∨ (t.size : Int) ≤ x)) = false := by
        rw [List.any_eq_false]
        intro x hx
        have := c x hx
        simp only [decide_eq_true_eq]
        omega
      have hlen : ∀ (S : List Nat) (holes : List Bool) (many : Int), Marks t.size S holes many → (∀ j, j < t.size → (j ∈ S ↔ (j : Int) ∈ l)) → many = (K.length : Int) ∧ ∀ j, j < t.size → (t.size - 1 - j ∈ K ↔ j ∈ S) := by
        intro S holes many hMk hS
        have hKS : ∀ j, j < t.size → (t.size - 1 - j ∈ K ↔ j ∈ S) := fun j hj => by rw [km j hj, hS j hj]
        refine ⟨?_, hKS⟩
        rw [hMk.many]
        have hp : K.Perm (S.map fun i => t.size - 1 - i) := by
          rw [List.perm_ext_iff_of_nodup kn ?_]
          · intro j
            rw [List.mem_map]
            constructor
            · intro hj
              have hjs := ks j hj
              exact ⟨t.size - 1 - j, (hKS _ (by omega)).mp (by rw [show t.size - 1 - (t.size - 1 - j) = j by omega]; exact hj), by omega⟩
            · rintro ⟨i, hi, rfl⟩
              exact (hKS i (hMk.lt i hi)).mpr hi
          · have := hMk.nd
            rw [List.nodup_iff_pairwise_ne, List.pairwise_map]
            rw [List.nodup_iff_pairwise_ne] at this
            refine List.Pairwise.imp_of_mem ?_ this
            intro a b ha hb hab e
            have := hMk.lt a ha
            have := hMk.lt b hb
            exact hab (by omega)
        have := hp.length_eq
        rw [List.length_map] at this
        omega
      by_cases d : K.length ≤ n
      · have tail : ∀ (w : ByteArray), w.size = t.size → Ok w n → 2 * (wrong t w K).length + K.length ≤ n → Ev (fun q => tinderboxlaw28_RsAny.j0 q t (n : Int) l w (apart t w : Int) 0 false) true := fun w w1 w2 w3 =>
          any_tail (by omega) hl fun S holes many hMk hS => by
            obtain ⟨e1, e2⟩ := hlen S holes many hMk hS
            rw [hany, Bool.false_or, decide_eq_false (by omega)]
            exact found_tail hM w1 w2 hMk e2 e1 d w3
        by_cases hs : Ok t n
        · have hR := rright_ev t n (by omega) (by omega)
          rw [show decide (May t.size n ∧ Ok t n) = true from decide_eq_true ⟨hM, hs⟩] at hR
          have er0 : ∀ j, er t t j = 0 := fun j => add_self _
          have ap : apart t t = 0 := by unfold apart; simp [er0]
          have wr : (wrong t t K).length = 0 := by unfold wrong; simp [er0]
          have tl := tail t rfl hs (by omega)
          rw [ap] at tl
          exact go t 0 0 (Ev.bind hk (Ev.bind (a := true) (Ev.congr (fun _ => hc) (Ev.now _)) (ifp rfl (ifp (decide_eq_true d) (Ev.bind hR (ifp rfl (Ev.now _))))))) tl
        · rcases sound hM ks kn d hk hs with hd | ⟨w, w1, w2, w3, hd⟩
          · exact go (⟨#[]⟩ : ByteArray) 0 280 hd (any_tail (by omega) hl fun S holes many hMk hS => none_tail _ (by omega) (by omega) (.inr hs))
          · exact go w _ 0 hd (tail w w1 w2 w3)
      · refine go (⟨#[]⟩ : ByteArray) 0 280 (Ev.bind hk (Ev.bind (a := true) (Ev.congr (fun _ => hc) (Ev.now _)) (ifp rfl (ifn (by simpa using d) (Ev.now _))))) (any_tail (by omega) hl fun S holes many hMk hS => none_tail _ (by omega) (by omega) (.inl ?_))
        obtain ⟨e1, e2⟩ := hlen S holes many hMk hS
        rw [Bool.or_eq_true]
        exact .inr (decide_eq_true (by omega))
end Go.Proofs.Ytconplohaaohlaa.Pure
