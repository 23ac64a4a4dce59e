/- However many bytes of a right word are others, within what checks it: the word is made right and their number told; no condition. -/
import Derived.Test.YtconplohaaohlaaGfL
import Derived.Test.YtconplohaaohlaaXRsx8
namespace Go.Proofs.Ytconplohaaohlaa.Pure
open Go.RowKit Go.Proofs.Ytconplohaaohlaa.XRs Go.Proofs.YtconplohaaohlaaX.PrintWords Go.Proofs.YtconplohaaohlaaX.PrintLast Go.Proofs.YtconplohaaohlaaX.PrintMore Go.Proofs.Ytconplohaaohlaa.Gf
set_option linter.unusedSimpArgs false
set_option linter.unusedVariables false
/-- Touched places: those not known (U), those known as lost (L), those that changed (D). -/
structure Inv (w : ByteArray) (U L D : List Nat) (z : List E) (used : List Bool) : Prop where
  nd : (U ++ L).Nodup
  lt : ∀ i ∈ U ++ L, i < w.size
  zl : z.length = w.size
  ul : used.length = w.size
  us : ∀ i, i < w.size → (used.getD i false = true ↔ i ∈ U ++ L)
  dn : D.Nodup
  dd : ∀ i, i < w.size → (i ∈ D ↔ z.getD i 0 ≠ (toE w).getD i 0)
  ds : ∀ i ∈ D, i ∈ U ++ L
theorem Inv.er {w : ByteArray} {U L D : List Nat} {z : List E} {used : List Bool} (h : Inv w U L D z used) {j : Nat} (hj : j < w.size) : er (ofE z) w j ≠ 0 ↔ w.size - 1 - j ∈ D := by
  have hs : (ofE z).size = w.size := by rw [← toE_length, toE_ofE, h.zl]
  rw [h.dd _ (by omega)]
  unfold Gf.er
  rw [wd_getD (ofE z) j (by omega), wd_getD w j hj, hs, toE_ofE]
  exact ⟨fun a b => a (by rw [b, add_self]), fun a b => a (eq_of_add b)⟩
theorem Inv.touch {w : ByteArray} {U L D : List Nat} {z : List E} {used : List Bool} (h : Inv w U L D z used) {a : Nat} (ha : a < w.size) (hn : a ∉ U ++ L) (d : E) {U' L' : List Nat}
    (hU : ∀ i, i ∈ U' ++ L' ↔ i = a ∨ i ∈ U ++ L) (hnd : (U' ++ L').Nodup) : Inv w U' L' (if d = 0 then D else a :: D) (z.set a (z.getD a 0 + d)) (used.set a true) := by
  have haD : a ∉ D := fun q => hn (h.ds a q)
  have hza : z.getD a 0 = (toE w).getD a 0 := Classical.byContradiction fun q => haD ((h.dd a ha).mpr q)
  refine ⟨hnd, fun i hi => ?_, by rw [List.length_set, h.zl], by rw [List.length_set, h.ul], fun i hi => ?_, ?_, fun i hi => ?_, fun i hi => ?_⟩
  · rcases (hU i).mp hi with rfl | q
    · exact ha
    · exact h.lt i q
  · rw [hU i, ← h.us i hi, List.getD_eq_getElem?_getD, List.getD_eq_getElem?_getD, List.getElem?_set]
    by_cases c : a = i
    · rw [if_pos c, if_pos (by rw [h.ul]; exact ha)]
      simp [c]
    · rw [if_neg c]
      constructor
      · exact .inr
      · rintro (q | q)
        · exact absurd q.symm c
        · exact q
  · split
    · exact h.dn
    · exact List.nodup_cons.mpr ⟨haD, h.dn⟩
  · rw [getD_set _ _ _ _ (by rw [h.zl]; exact ha)]
    by_cases c : a = i
    · subst c
      rw [if_pos rfl]
      by_cases e : d = 0
      · rw [if_pos e, e, add_zero]
        exact h.dd a ha
      · rw [if_neg e, hza]
        exact ⟨fun _ q => e (by have := congrArg (fun x => (toE w).getD a 0 + x) q; simp only [add_self_left, add_self] at this; exact this), fun _ => List.mem_cons_self⟩
    · rw [if_neg c, ← h.dd i hi]
      split
      · exact Iff.rfl
      · rw [List.mem_cons]
        exact ⟨fun q => q.resolve_left fun r => c r.symm, .inr⟩
  · rw [hU i]
    split at hi
    · exact .inr (h.ds i hi)
    · rcases List.mem_cons.mp hi with q | q
      · exact .inl q
      · exact .inr (h.ds i q)
theorem rev_perm {N : Nat} {K L : List Nat} (kn : K.Nodup) (ks : ∀ j ∈ K, j < N) (ln : L.Nodup) (ls : ∀ j ∈ L, j < N) (h : ∀ i, i < N → (N - 1 - i ∈ K ↔ i ∈ L)) : K.length = L.length := by
  have hp : K.Perm (L.map fun i => N - 1 - i) := by
    rw [List.perm_ext_iff_of_nodup kn ?_]
    · intro j
      rw [List.mem_map]
      constructor
      · intro hj
        have hjs := ks j hj
        exact ⟨N - 1 - j, (h _ (by omega)).mp (by rw [show N - 1 - (N - 1 - j) = j by omega]; exact hj), by omega⟩
      · rintro ⟨i, hi, rfl⟩
        exact (h i (ls i hi)).mpr hi
    · rw [List.nodup_iff_pairwise_ne, List.pairwise_map]
      rw [List.nodup_iff_pairwise_ne] at ln
      refine List.Pairwise.imp_of_mem ?_ ln
      intro a b ha hb hab e
      have := ls a ha
      have := ls b hb
      exact hab (by omega)
  have := hp.length_eq
  rwa [List.length_map] at this
theorem last {w : ByteArray} {n : Nat} {U L D : List Nat} {z : List E} {used : List Bool} (hM : May w.size n) (hok : Ok w n) (h : Inv w U L D z used) (hc : 2 * U.length + L.length ≤ n) :
    Ev (fun k => rs_Decode.f k (ofE z) (n : Int) (NL L)) (w, (D.length : Int), 0) := by
  have hs : (ofE z).size = w.size := by rw [← toE_length, toE_ofE, h.zl]
  have hM' : May (ofE z).size n := by rw [hs]; exact hM
  obtain ⟨m1, m2, m3, m4⟩ := hM
  have hnd := List.nodup_append.mp h.nd
  obtain ⟨K, kn, ks, km, hk⟩ := lost_ev (NL L) (ofE z).size n (by omega) (by unfold NL; rw [List.length_map]; omega) (fun x hx => by
    unfold NL at hx
    obtain ⟨i, hi, rfl⟩ := List.mem_map.mp hx
    have := h.lt i (List.mem_append.mpr (.inr hi))
    omega)
  rw [hs] at ks km
  have hKL : ∀ i, i < w.size → (w.size - 1 - i ∈ K ↔ i ∈ L) := fun i hi => by
    rw [km i hi]
    unfold NL
    rw [List.mem_map]
    constructor
    · rintro ⟨j, hj, e⟩
      have : j = i := by omega
      exact this ▸ hj
    · exact fun q => ⟨i, q, rfl⟩
  have hlen : K.length = L.length := rev_perm kn ks hnd.2.1 (fun j hj => h.lt j (List.mem_append.mpr (.inr hj))) hKL
  have hD : apart (ofE z) w = D.length := by
    unfold apart
    rw [hs]
    refine rev_perm (N := w.size) (nodup_filter _ List.nodup_range) (fun j hj => List.mem_range.mp (List.mem_filter.mp hj).1) h.dn (fun j hj => h.lt j (h.ds j hj)) fun i hi => ?_
    rw [List.mem_filter, List.mem_range]
    simp only [decide_eq_true_eq]
    rw [h.er (by omega), show w.size - 1 - (w.size - 1 - i) = i by omega]
    exact ⟨fun q => q.2, fun q => ⟨by omega, q⟩⟩
  have hc2 : rs_Check.f ((ofE z).size : Int) (n : Int) = some true := by rw [check_eq, decide_eq_true hM']
  by_cases o : Ok (ofE z) n
  · have e : ofE z = w := by
      refine words_far hs (by omega) (by omega) o hok ((U ++ L).map fun i => w.size - 1 - i) ?_ ?_ ?_ ?_
      · rw [List.nodup_iff_pairwise_ne, List.pairwise_map]
        have ln := h.nd
        rw [List.nodup_iff_pairwise_ne] at ln
        refine List.Pairwise.imp_of_mem ?_ ln
        intro a b ha hb hab e
        have := h.lt a ha
        have := h.lt b hb
        exact hab (by omega)
      · intro j hj
        obtain ⟨i, hi, rfl⟩ := List.mem_map.mp hj
        have := h.lt i hi
        omega
      · rw [List.length_map, List.length_append]; omega
      · intro j hj hn
        refine Classical.byContradiction fun q => hn (List.mem_map.mpr ⟨w.size - 1 - j, h.ds _ ((h.er (by omega)).mp q), by omega⟩)
    have d0 : D = [] := by
      rw [List.eq_nil_iff_forall_not_mem]
      intro i hi
      have hi2 := h.lt i (h.ds i hi)
      refine (h.dd i hi2).mp hi ?_
      rw [← e, toE_ofE]
    have hR2 := rright_ev (ofE z) n (by omega) (by omega)
    rw [show decide (May (ofE z).size n ∧ Ok (ofE z) n) = true from decide_eq_true ⟨hM', o⟩] at hR2
    refine Ev.congr (fun k => rfl) (Ev.bind hk (Ev.bind (a := true) (Ev.congr (fun _ => hc2) (Ev.now _)) (ifp rfl (ifp (by rw [decide_eq_true_eq]; omega) (Ev.bind hR2 (ifp rfl ?_))))))
    rw [e, d0]
    exact Ev.now _
  · have hw : (wrong (ofE z) w K).length ≤ U.length := by
      have : (wrong (ofE z) w K).length ≤ (U.map fun i => w.size - 1 - i).length := by
        apply List.Nodup.length_le_of_subset
        · unfold wrong; exact nodup_filter _ List.nodup_range
        · intro j hj
          unfold wrong at hj
          rw [List.mem_filter, List.mem_range] at hj
          have h2 := hj.2
          simp only [decide_eq_true_eq] at h2
          have hjs : j < w.size := by omega
          have hD2 := (h.er hjs).mp h2.1
          have hL : w.size - 1 - j ∉ L := fun q => h2.2 (by have := (hKL (w.size - 1 - j) (by omega)).mpr q; rwa [show w.size - 1 - (w.size - 1 - j) = j by omega] at this)
          exact List.mem_map.mpr ⟨w.size - 1 - j, (List.mem_append.mp (h.ds _ hD2)).resolve_right hL, by omega⟩
      rwa [List.length_map] at this
    have := complete hM' (by rw [hs]; exact ks) kn (by omega) hk o hs hok (by omega)
    rw [hD] at this
    exact this
theorem at_eq (x : Int) (N : Nat) (h0 : 0 < N) (hN : N ≤ 1000) : ∃ a : Nat, a < N ∧ Int.tmod (wrap64 ((Int.tmod x (N : Int)) + (N : Int))) (N : Int) = (a : Int) := by
  have h1 : Int.tmod x (N : Int) < (N : Int) := by
    have := Int.tmod_lt_of_pos x (show (0 : Int) < (N : Int) by omega)
    exact this
  have h2 : -(N : Int) < Int.tmod x (N : Int) := by
    have := Int.lt_tmod_of_pos x (show (0 : Int) < (N : Int) by omega)
    exact this
  rw [w64 (by omega) (by omega)]
  have h3 := Int.tmod_lt_of_pos (Int.tmod x (N : Int) + (N : Int)) (show (0 : Int) < (N : Int) by omega)
  have h4 : 0 ≤ Int.tmod (Int.tmod x (N : Int) + (N : Int)) (N : Int) := Int.tmod_nonneg _ (by omega)
  exact ⟨(Int.tmod (Int.tmod x (N : Int) + (N : Int)) (N : Int)).toNat, by omega, by omega⟩
theorem j4_eq (k : Nat) (l : List S36) (n : Int) (w : ByteArray) (z : List E) (X : List Int) (C M : Int) (used : List Bool) (i a : Nat) (c : Int) (x : S36) (d : E) (hx : rd_T36 l (i : Int) = x) (ed : x.f1 = I d)
    (hu : (a : Int) < (used.length : Int)) (hz : (a : Int) < ((IL z).length : Int)) (hi : (i : Int) < (l.length : Int)) (hX : X.length < 17592186044416) :
    tinderboxlaw28_RsDecodes.j4 (k + 1) l n w (IL z) X C M used (i : Int) (a : Int) c false =
      tinderboxlaw28_RsDecodes.l0 k l n w (IL (z.set a (z.getD a 0 + d))) (if x.f2 = true then X ++ [(a : Int)] else X) (wrap64 (C + c)) (if d = 0 then M else wrap64 (M + 1)) (used.set a true) (wrap64 ((i : Int) + 1)) := by
  have ha : 0 ≤ (a : Int) := Int.natCast_nonneg a
  have h0 : 0 ≤ (i : Int) := Int.natCast_nonneg i
  have hxor : (IL z).set a (Go.bits .xor .u8 (rd (IL z) (a : Int)) x.f1) = IL (z.set a (z.getD a 0 + d)) := by rw [ed, rd_IL, I_xor, IL_set]
  rw [tinderboxlaw28_RsDecodes.j4, if_neg (by decide), if_pos ha, if_pos hu, Option.bind_some, if_pos hz, if_pos h0, if_pos hi, Option.bind_some, hx, Int.toNat_natCast, hxor]
  by_cases g : d = 0
  · rw [if_pos (show x.f1 = 0 by rw [ed, g]; rfl), if_pos g]
    by_cases f : x.f2 = true
    · rw [if_pos f, if_pos f, if_pos hX]
    · rw [if_neg f, if_neg f]
  · rw [if_neg (show ¬ x.f1 = 0 by rw [ed]; exact fun q => g (I_eq_zero.mp q)), if_neg g]
    by_cases f : x.f2 = true
    · rw [if_pos f, if_pos f, if_pos hX]
    · rw [if_neg f, if_neg f]
theorem j3_eq (k : Nat) (l : List S36) (n : Int) (w : ByteArray) (z : List E) (X : List Int) (C M : Int) (used : List Bool) (i a : Nat) (c : Int) (x : S36) (hx : rd_T36 l (i : Int) = x)
    (hu : (a : Int) < (used.length : Int)) (hi : (i : Int) < (l.length : Int)) :
    tinderboxlaw28_RsDecodes.j3 (k + 1) l n w (IL z) X C M used (i : Int) (a : Int) c =
      tinderboxlaw28_RsDecodes.j4 k l n w (IL z) X C M used (i : Int) (a : Int) c (if used.getD a false = true then true else if wrap64 (C + c) > n then true else if x.f2 = true then false else x.f1 == 0) := by
  have ha : 0 ≤ (a : Int) := Int.natCast_nonneg a
  have h0 : 0 ≤ (i : Int) := Int.natCast_nonneg i
  have hr : rdOf false used (a : Int) = used.getD a false := by unfold rdOf; rw [Int.toNat_natCast]
  rw [tinderboxlaw28_RsDecodes.j3, if_pos ha, if_pos hu, hr]
  by_cases u : used.getD a false = true
  · rw [if_pos u, if_pos u]
  · rw [if_neg u, if_neg u]
    by_cases g : wrap64 (C + c) > n
    · rw [if_pos g, if_pos g]
    · rw [if_neg g, if_neg g, if_pos h0, if_pos hi, hx]
      by_cases f : x.f2 = true
      · rw [if_pos f, if_pos f]
      · rw [if_neg f, if_neg f]
theorem j2_eq (k : Nat) (l : List S36) (n : Int) (w : ByteArray) (z : List E) (X : List Int) (C M : Int) (used : List Bool) (i a : Nat) (N : Int) (x : S36) (hx : rd_T36 l (i : Int) = x)
    (hi : (i : Int) < (l.length : Int)) (hN : ((IL z).length : Int) = N) (hz : ¬ N = 0) (ea : Int.tmod (wrap64 ((Int.tmod x.f0 N) + N)) N = (a : Int)) :
    tinderboxlaw28_RsDecodes.j2 (k + 1) l n w (IL z) X C M used (i : Int) true = tinderboxlaw28_RsDecodes.j3 k l n w (IL z) X C M used (i : Int) (a : Int) (if x.f2 = true then 1 else 2) := by
  have h0 : 0 ≤ (i : Int) := Int.natCast_nonneg i
  rw [tinderboxlaw28_RsDecodes.j2, if_pos rfl, if_pos h0, if_pos hi, hN, if_neg hz, hx, ea]
  by_cases f : x.f2 = true
  · rw [if_pos f, if_pos f]
  · rw [if_neg f, if_neg f]
theorem loop_facts {U L c n i N D : Nat} (h1 : 2 * U + L ≤ n) (h2 : n ≤ 32) (h3 : D ≤ i) (h4 : i < 40) (hc : c ≤ 2) : wrap64 (((2 * U + L : Nat) : Int) + (c : Int)) = ((2 * U + L + c : Nat) : Int) ∧ wrap64 ((D : Int) + 1) = ((D + 1 : Nat) : Int) ∧ wrap64 ((i : Int) + 1) = ((i + 1 : Nat) : Int) ∧
    (¬ 2 * U + L + c ≤ n → wrap64 (((2 * U + L : Nat) : Int) + (c : Int)) > (n : Int)) ∧ (2 * U + L + c ≤ n → ¬ wrap64 (((2 * U + L : Nat) : Int) + (c : Int)) > (n : Int)) := by
  refine ⟨by rw [w64 (by omega) (by omega)]; omega, by rw [w64 (by omega) (by omega)]; omega, by rw [w64 (by omega) (by omega)]; omega, fun h => by rw [w64 (by omega) (by omega)]; omega, fun h => by rw [w64 (by omega) (by omega)]; omega⟩
theorem loop (l : List S36) (hl : ∀ x ∈ l, 0 ≤ x.f1 ∧ x.f1 < 256) {w : ByteArray} {n : Nat} (hM : May w.size n) (hok : Ok w n) (r : Nat) : ∀ (U L D : List Nat) (z : List E) (used : List Bool) (i : Nat), i + r = min l.length 40 → Inv w U L D z used → 2 * U.length + L.length ≤ n → D.length ≤ i →
    Ev (fun k => tinderboxlaw28_RsDecodes.l0 k l (n : Int) w (IL z) (NL L) ((2 * U.length + L.length : Nat) : Int) (D.length : Int) used (i : Int)) true := by
  have hM' := hM
  obtain ⟨m1, m2, m3, m4⟩ := hM'
  induction r with
  | zero =>
    intro U L D z used i hi hI hc hDi
    refine Ev.step (f := fun k => tinderboxlaw28_RsDecodes.j2 k l (n : Int) w (IL z) (NL L) ((2 * U.length + L.length : Nat) : Int) (D.length : Int) used (i : Int) false) (fun k => ?_)
      (Ev.step (f := fun k => (rs_Decode.f k (ofE z) (n : Int) (NL L)).bind fun bt394 => (if bt394.2.2 = 0 then (if bt394.1.toList = w.toList then (some (bt394.2.1 == (D.length : Int))) else (some false)) else (some false))) (fun k => ?_) (Ev.bind (last hM hok hI hc) (ifp rfl (ifp rfl ?_))))
    · rw [tinderboxlaw28_RsDecodes.l0]
      by_cases c : (i : Int) < (l.length : Int)
      · rw [if_pos c, decide_eq_false (by omega)]
      · rw [if_neg c]
    · rw [tinderboxlaw28_RsDecodes.j2, if_neg (by decide)]
      rfl
    · rw [show ((D.length : Int) == (D.length : Int)) = true from by simp]
      exact Ev.now _
  | succ r ih =>
    intro U L D z used i hi hI hc hDi
    have hil : i < l.length := by omega
    obtain ⟨a, ha, ea⟩ := at_eq (rd_T36 l (i : Int)).f0 w.size (by omega) (by omega)
    have hb : 0 ≤ (rd_T36 l (i : Int)).f1 ∧ (rd_T36 l (i : Int)).f1 < 256 := by
      unfold rd_T36
      rw [Int.toNat_natCast, List.getD_eq_getElem?_getD, List.getElem?_eq_getElem hil]
      exact hl _ (List.getElem_mem _)
    obtain ⟨x, hx⟩ : ∃ x, rd_T36 l (i : Int) = x := ⟨_, rfl⟩
    rw [hx] at ea hb
    obtain ⟨d, ed⟩ : ∃ d : E, x.f1 = I d := ⟨E.of x.f1.toNat, by unfold I; rw [E.n_of (by omega)]; omega⟩
    have i40 : i < 40 := by omega
    have hil' : (i : Int) < (l.length : Int) := by omega
    have hu' : (a : Int) < (used.length : Int) := by rw [hI.ul]; omega
    have hz' : (a : Int) < ((IL z).length : Int) := by rw [IL_length, hI.zl]; omega
    have hN' : ((IL z).length : Int) = (w.size : Int) := by rw [IL_length, hI.zl]
    have nz : ¬ (w.size : Int) = 0 := by omega
    have nl : (NL L).length < 17592186044416 := by unfold NL; rw [List.length_map]; omega
    obtain ⟨c, hcx, hcc, hc2⟩ : ∃ c : Nat, (if x.f2 = true then 1 else 2) = c ∧ (if x.f2 = true then 1 else 2) = (c : Int) ∧ c ≤ 2 := ⟨_, rfl, by split <;> rfl, by split <;> omega⟩
    have hi1 : i + 1 + r = min l.length 40 := by omega
    have hD1 : D.length ≤ i + 1 := by omega
    have d40 : decide ((i : Int) < 40) = true := decide_eq_true (by omega)
    obtain ⟨ew, em, ei, big, small⟩ := loop_facts (N := 0) hc m2 hDi i40 hc2
    refine Ev.step (f := fun k => tinderboxlaw28_RsDecodes.j2 k l (n : Int) w (IL z) (NL L) ((2 * U.length + L.length : Nat) : Int) (D.length : Int) used (i : Int) true) (fun k => by rw [tinderboxlaw28_RsDecodes.l0, if_pos hil', d40]) ?_
    refine Ev.step (f := fun k => tinderboxlaw28_RsDecodes.j3 k l (n : Int) w (IL z) (NL L) ((2 * U.length + L.length : Nat) : Int) (D.length : Int) used (i : Int) (a : Int) (c : Int)) (fun k => by rw [j2_eq k l n w z (NL L) _ _ used i a w.size x hx hil' hN' nz ea, hcc]) ?_
    refine Ev.step (fun k => j3_eq k l n w z (NL L) _ _ used i a c x hx hu' hil') ?_
    have next := ih U L D z used (i + 1) hi1 hI hc hD1
    have j4t : Ev (fun k => tinderboxlaw28_RsDecodes.j4 k l (n : Int) w (IL z) (NL L) ((2 * U.length + L.length : Nat) : Int) (D.length : Int) used (i : Int) (a : Int) (c : Int) true) true :=
      Ev.step (fun k => by rw [tinderboxlaw28_RsDecodes.j4, if_pos rfl, ei]) next
    by_cases u : used.getD a false = true
    · rw [if_pos u]; exact j4t
    rw [if_neg u]
    have hn : a ∉ U ++ L := fun q => u ((hI.us a ha).mpr q)
    by_cases g : 2 * U.length + L.length + c ≤ n
    case neg => rw [if_pos (big g)]; exact j4t
    rw [if_neg (small g)]
    have key : ∀ U' L' : List Nat, (∀ i, i ∈ U' ++ L' ↔ i = a ∨ i ∈ U ++ L) → (U' ++ L').Nodup → 2 * U'.length + L'.length = 2 * U.length + L.length + c →
        Ev (fun k => tinderboxlaw28_RsDecodes.l0 k l (n : Int) w (IL (z.set a (z.getD a 0 + d))) (NL L') ((2 * U.length + L.length + c : Nat) : Int) (if d = 0 then (D.length : Int) else ((D.length + 1 : Nat) : Int)) (used.set a true) ((i + 1 : Nat) : Int)) true := by
      intro U' L' h1 h2 h3
      have dl : (if d = 0 then D else a :: D).length ≤ i + 1 := by
        by_cases e : d = 0
        · rw [if_pos e]; exact hD1
        · rw [if_neg e, List.length_cons]; exact Nat.succ_le_succ hDi
      have := ih U' L' (if d = 0 then D else a :: D) _ _ (i + 1) hi1 (hI.touch ha hn d h1 h2) (by rw [h3]; exact g) dl
      rw [h3] at this
      by_cases e : d = 0
      · rw [if_pos e] at this ⊢; exact this
      · rw [if_neg e, List.length_cons] at this; rw [if_neg e]; exact this
    have j4f : Ev (fun k => tinderboxlaw28_RsDecodes.j4 k l (n : Int) w (IL z) (NL L) ((2 * U.length + L.length : Nat) : Int) (D.length : Int) used (i : Int) (a : Int) (c : Int) false) true := by
      refine Ev.step (fun k => j4_eq k l n w z (NL L) _ _ used i a c x d hx ed hu' hz' hil' nl) ?_
      rw [ew, em, ei]
      by_cases f : x.f2 = true
      · rw [if_pos f] at hcx ⊢
        have := key U (L ++ [a]) (fun j => by simp only [List.mem_append, List.mem_singleton]; exact ⟨fun q => q.elim (fun q => .inr (.inl q)) (fun q => q.elim (fun q => .inr (.inr q)) .inl), fun q => q.elim (fun q => .inr (.inr q)) (fun q => q.elim .inl (fun q => .inr (.inl q)))⟩) (by rw [← List.append_assoc, List.nodup_append]; exact ⟨hI.nd, by simp, fun x hx y hy e => by simp at hy; subst hy; subst e; exact hn hx⟩) (by rw [List.length_append, ← hcx]; rfl)
        have eN : NL (L ++ [a]) = NL L ++ [(a : Int)] := by unfold NL; simp
        rw [eN] at this
        exact this
      · rw [if_neg f] at hcx ⊢
        exact key (a :: U) L (fun j => by simp only [List.cons_append, List.mem_cons]) (by rw [List.cons_append]; exact List.nodup_cons.mpr ⟨hn, hI.nd⟩) (by rw [List.length_cons, ← hcx]; omega)
    by_cases f : x.f2 = true
    · rw [if_pos f]; exact j4f
    · rw [if_neg f]
      by_cases e : x.f1 = 0
      · rw [e]; exact j4t
      · rw [beq_false_of_ne e]; exact j4f
/-- What is to be shown of the program's form. -/
theorem RsDecodes : ∀ (a0 : ByteArray) (a1 : Int) (l2 : List S36), (∀ x ∈ l2, 0 ≤ x.f1 ∧ x.f1 < 256) → ∃ k, tinderboxlaw28_RsDecodes.f k a0 a1 l2 = some true := by
  intro a0 a1 l2 hl
  obtain ⟨t, ht, h1, h2⟩ := few_ev a0
  obtain ⟨n, n1, n2, en⟩ := par15 a1
  apply Ev.rounds
  obtain ⟨r, hr, hok, he⟩ := encode_ev t n ⟨by omega, by omega, by omega, by omega⟩
  have hsz : (t ++ ofE r).size = t.size + n := by rw [ByteArray.size_append, ← toE_length (ofE r), toE_ofE, hr]
  refine Ev.congr (f := fun k => (rs_Encode.f k t (n : Int)).bind fun bt382 => ((tinderboxlaw28_awake.f k).bind fun t384 => (if t384 = true then (tinderboxlaw28_RsDecodes.j0 k l2 (n : Int) bt382.1 (bt382.2 != 0)) else (tinderboxlaw28_RsDecodes.j0 k l2 (n : Int) bt382.1 true)))) (fun k => by unfold tinderboxlaw28_RsDecodes.f; rw [ht, en]; rfl) (Ev.bind he (Ev.bind awake_ev (ifp rfl ?_)))
  generalize t ++ ofE r = w at hok hsz
  have hM : May w.size n := ⟨by omega, by omega, by omega, by omega⟩
  have bl : (bytesOf w).length = w.size := by rw [← IL_toE, IL_length, toE_length]
  have hI : Inv w [] [] [] (toE w) (List.replicate w.size false) := by
    refine ⟨by simp, by simp, toE_length w, by simp, fun i hi => ?_, by simp, fun i hi => by simp, by simp⟩
    rw [List.getD_eq_getElem?_getD, List.getElem?_replicate, if_pos hi]
    simp
  refine Ev.step (fun k => ?_) (loop l2 hl hM hok (min l2.length 40) [] [] [] (toE w) (List.replicate w.size false) 0 (by omega) hI (by simp) (by simp))
  rw [show ((w, (0 : Int)).2 != 0) = false from rfl, tinderboxlaw28_RsDecodes.j0, if_neg (by decide), if_pos (by show w.size ≤ _; omega), Option.bind_some, if_pos (by omega), if_pos (by rw [bl, Int.toNat_natCast]; omega), bl, Int.toNat_natCast, IL_toE]
  rfl
end Go.Proofs.Ytconplohaaohlaa.Pure
