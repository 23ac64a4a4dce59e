/- A short word with two bytes that check it is made right just if one of its bytes can be another one so that it is right; no condition. -/
import Derived.Test.YtconplohaaohlaaGfL
import Derived.Test.YtconplohaaohlaaGfR
import Derived.Test.YtconplohaaohlaaXRsx10
namespace Go.Proofs.Ytconplohaaohlaa.Pure
open Go.RowKit Go.Proofs.Ytconplohaaohlaa.XRs Go.Proofs.YtconplohaaohlaaX.PrintWords Go.Proofs.YtconplohaaohlaaX.PrintLast Go.Proofs.YtconplohaaohlaaX.PrintMore Go.Proofs.Ytconplohaaohlaa.Gf
set_option linter.unusedSimpArgs false
set_option linter.unusedVariables false
/-- A word, one byte of it another one. -/
def put (t : ByteArray) (i : Nat) (d : E) : ByteArray := ofE ((toE t).set i ((toE t).getD i 0 + d))
theorem toE_extract (t : ByteArray) (i j : Nat) : toE (t.extract i j) = ((toE t).take j).drop i := by
  unfold toE
  rw [ByteArray.data_extract, Array.toList_extract, List.extract_eq_drop_take', List.map_drop, List.map_take]
theorem set_split (l : List E) (i : Nat) (a : E) (h : i < l.length) : l.set i a = (l.take i ++ [a]) ++ l.drop (i + 1) := by
  rw [List.set_eq_take_append_cons_drop, if_pos h, List.append_assoc, List.singleton_append]
theorem put_eq (t : ByteArray) (i x : Nat) (hi : i < t.size) (hx : x < 256) (ht : t.size < 1000) :
    ((t.extract 0 i) ++ (strOfNums [Go.bits .xor .u8 (bt t (i : Int)) (((x : Nat) : Int) % 256)])) ++ (t.extract (i + 1) t.size) = put t i (E.of x) := by
  have e : (((x : Nat) : Int) % 256) = I (E.of x) := by unfold I; rw [E.n_of hx]; omega
  rw [e, bt_toE, I_xor]
  unfold put
  apply toE_inj
  rw [show strOfNums [I ((toE t).getD i 0 + E.of x)] = ofE [(toE t).getD i 0 + E.of x] from rfl, toE_append, toE_append, toE_ofE, toE_ofE, toE_extract, toE_extract, List.drop_zero, set_split _ _ _ (by rw [toE_length]; exact hi), List.take_of_length_le (i := t.size) (by rw [toE_length]; omega)]
theorem put_size (t : ByteArray) (i : Nat) (d : E) : (put t i d).size = t.size := by
  unfold put
  rw [← toE_length, toE_ofE, List.length_set, toE_length]
theorem er_put (t : ByteArray) (i : Nat) (d : E) (hi : i < t.size) (j : Nat) (hj : j < t.size) : er t (put t i d) j = if j = t.size - 1 - i then d else 0 := by
  unfold er
  rw [wd_getD t j hj, wd_getD (put t i d) j (by rw [put_size]; exact hj), put_size]
  unfold put
  rw [toE_ofE, getD_set _ _ _ _ (by rw [toE_length]; exact hi)]
  by_cases c : i = t.size - 1 - j
  · rw [if_pos c, if_pos (by omega), c, add_self_left]
  · rw [if_neg c, if_neg (by omega), add_self]
theorem wrong_put (t : ByteArray) (i : Nat) (d : E) (hi : i < t.size) : (wrong t (put t i d) []).length ≤ 1 := by
  have : (wrong t (put t i d) []).length ≤ [t.size - 1 - i].length := by
    apply List.Nodup.length_le_of_subset
    · unfold wrong; exact nodup_filter _ List.nodup_range
    · intro j hj
      unfold wrong at hj
      rw [List.mem_filter, List.mem_range] at hj
      have h2 := hj.2
      simp only [decide_eq_true_eq] at h2
      rw [er_put t i d hi j hj.1] at h2
      by_cases c : j = t.size - 1 - i
      · simp [c]
      · rw [if_neg c] at h2; exact absurd rfl h2.1
  simpa using this
theorem one_put {t w : ByteArray} (h : w.size = t.size) (hne : w ≠ t) (hl : (wrong t w []).length ≤ 1) : ∃ i d, i < t.size ∧ d ≠ 0 ∧ w = put t i d := by
  have hm : ∀ j, j < t.size → er t w j ≠ 0 → j ∈ wrong t w [] := fun j hj he => by
    unfold wrong
    rw [List.mem_filter, List.mem_range]
    exact ⟨hj, by simp only [decide_eq_true_eq]; exact ⟨he, by simp⟩⟩
  obtain ⟨j, hj, he⟩ : ∃ j, j < t.size ∧ er t w j ≠ 0 := Classical.byContradiction fun q => hne (er_eq h.symm fun j hj => Classical.byContradiction fun g => q ⟨j, hj, g⟩).symm
  have hone : ∀ i, i < t.size → i ≠ j → er t w i = 0 := fun i hi hij => Classical.byContradiction fun g => by
    have a := hm i hi g
    have b := hm j hj he
    have : [i, j].length ≤ (wrong t w []).length := List.Nodup.length_le_of_subset (by simp [hij]) (by intro z hz; simp at hz; rcases hz with rfl | rfl <;> assumption)
    simp at this
    omega
  refine ⟨t.size - 1 - j, er t w j, by omega, he, ?_⟩
  have hp : ∀ k, k < t.size → er t w k = er t (put t (t.size - 1 - j) (er t w j)) k := fun k hk => by
    rw [er_put _ _ _ (by omega) _ hk]
    by_cases c : k = j
    · rw [if_pos (by omega), c]
    · rw [if_neg (by omega), hone k hk c]
  apply er_eq (by rw [put_size, h])
  intro k hk
  have := hp k (by omega)
  unfold er at this ⊢
  have h2 := congrArg (fun z => (wd t).getD k 0 + z) this
  simp only [add_self_left] at h2
  rw [h2, add_self]
theorem one_in (t w : ByteArray) (e : Int) (ht : t.size ≤ 255) (hpar : 3 ≤ t.size) (i : Nat) (hi : i < t.size) (hf : ∀ x, 1 ≤ x → x < 256 → Ok (put t i (E.of x)) 2 → e = 0 ∧ w = put t i (E.of x))
    (hn : (∀ x, 1 ≤ x → x < 256 → ¬ Ok (put t i (E.of x)) 2) → Ev (fun k => tinderboxlaw28_RsOne.l0 k t w e t false ((i + 1 : Nat) : Int)) true) (r : Nat) :
    ∀ x, x + r = 256 → 1 ≤ x → (∀ y, 1 ≤ y → y < x → ¬ Ok (put t i (E.of y)) 2) → Ev (fun k => tinderboxlaw28_RsOne.l1 k t w e t false (i : Int) (x : Int)) true := by
  have ei : wrap64 ((i : Int) + 1) = ((i + 1 : Nat) : Int) := by rw [w64 (by omega) (by omega)]; omega
  induction r with
  | zero =>
    intro x hx h1 hb
    refine Ev.step (fun k => ?_) (hn fun y y1 y2 => hb y y1 (by omega))
    rw [tinderboxlaw28_RsOne.l1, if_neg (by omega), ei]
  | succ r ih =>
    intro x hx h1 hb
    have eu := put_eq t i x hi (by omega) (by omega)
    have sz : ((t.extract 0 i) ++ (strOfNums [Go.bits .xor .u8 (bt t (i : Int)) (((x : Nat) : Int) % 256)])).size + (t.extract (i + 1) t.size).size = t.size := by
      rw [← ByteArray.size_append, eu, put_size]
    have sz1 : (t.extract 0 i).size + (strOfNums [Go.bits .xor .u8 (bt t (i : Int)) (((x : Nat) : Int) % 256)]).size ≤ t.size := by
      rw [← ByteArray.size_append]; omega
    have hR := right_ev (put t i (E.of x)) 2 (by rw [put_size]; omega) (by omega)
    have go : ∀ R, Ev (fun k => if R = true then (tinderboxlaw28_RsOne.l0 k t w e (put t i (E.of x)) true ((i + 1 : Nat) : Int)) else (tinderboxlaw28_RsOne.l1 k t w e t false (i : Int) ((x + 1 : Nat) : Int))) true →
        Ev (fun k => tinderboxlaw28_right.f k (put t i (E.of x)) ((2 : Nat) : Int)) R → Ev (fun k => tinderboxlaw28_RsOne.l1 k t w e t false (i : Int) (x : Int)) true := fun R h1 h2 => by
      refine Ev.step (f := fun k => (tinderboxlaw28_right.f k (put t i (E.of x)) ((2 : Nat) : Int)).bind fun t445 => if t445 = true then (tinderboxlaw28_RsOne.l0 k t w e (put t i (E.of x)) true ((i + 1 : Nat) : Int)) else (tinderboxlaw28_RsOne.l1 k t w e t false (i : Int) ((x + 1 : Nat) : Int))) (fun k => ?_) (Ev.bind h2 h1)
      rw [tinderboxlaw28_RsOne.l1, if_pos (by omega), if_pos (by omega), if_pos (by omega), if_pos (by omega), Option.bind_some, Int.toNat_natCast, if_pos (by omega), ei, if_pos (by omega), if_pos (by omega), Int.toNat_natCast, if_pos (by omega), eu, w64 (n := (x : Int) + 1) (by omega) (by omega)]
      rfl
    by_cases c : Ok (put t i (E.of x)) 2
    · obtain ⟨e0, ew⟩ := hf x h1 (by omega) c
      rw [decide_eq_true c] at hR
      refine go true (ifp rfl ?_) hR
      rw [← ew, e0]
      refine Ev.step (f := fun k => tinderboxlaw28_RsOne.j1 k t w 0 w true ((i + 1 : Nat) : Int) false) (fun k => ?_) (Ev.step (f := fun k => (tinderboxlaw28_awake.f k).bind fun t446 => (if t446 = true then (if (0 : Int) = 0 then (some true) else (some false)) else (some false))) (fun k => ?_) (Ev.bind awake_ev (ifp rfl (ifp rfl (Ev.now _)))))
      · rw [tinderboxlaw28_RsOne.l0]
        by_cases d : ((i + 1 : Nat) : Int) < (t.size : Int)
        · rw [if_pos d]; rfl
        · rw [if_neg d]
      · rw [tinderboxlaw28_RsOne.j1, if_neg (by decide), if_pos rfl]
        simp
    · rw [decide_eq_false c] at hR
      refine go false (ifn (by decide) (ih (x + 1) (by omega) (by omega) fun y y1 y2 => ?_)) hR
      by_cases d : y = x
      · rw [d]; exact c
      · exact hb y y1 (by omega)
theorem one_out (t w : ByteArray) (e : Int) (ht : t.size ≤ 255) (hpar : 3 ≤ t.size) (hf : ∀ i x, i < t.size → 1 ≤ x → x < 256 → Ok (put t i (E.of x)) 2 → e = 0 ∧ w = put t i (E.of x))
    (hn : (∀ i x, i < t.size → 1 ≤ x → x < 256 → ¬ Ok (put t i (E.of x)) 2) → e = 280) (r : Nat) :
    ∀ i, i + r = t.size → (∀ j x, j < i → 1 ≤ x → x < 256 → ¬ Ok (put t j (E.of x)) 2) → Ev (fun k => tinderboxlaw28_RsOne.l0 k t w e t false (i : Int)) true := by
  induction r with
  | zero =>
    intro i hi hb
    have e280 := hn fun j x hj => hb j x (by omega)
    subst e280
    refine Ev.step (f := fun k => tinderboxlaw28_RsOne.j1 k t w 280 t false (i : Int) false) (fun k => ?_) (Ev.step (f := fun k => (tinderboxlaw28_awake.f k).bind fun t447 => (if t447 = true then (some true) else (some false))) (fun k => ?_) (Ev.bind awake_ev (ifp rfl (Ev.now _))))
    · rw [tinderboxlaw28_RsOne.l0, if_neg (by omega)]
    · rw [tinderboxlaw28_RsOne.j1, if_neg (by decide), if_neg (by decide)]
      rfl
  | succ r ih =>
    intro i hi hb
    refine Ev.step (f := fun k => tinderboxlaw28_RsOne.j1 k t w e t false (i : Int) true) (fun k => ?_) (Ev.step (fun k => ?_) (one_in t w e ht hpar i (by omega) (fun x => hf i x (by omega)) (fun h => ih (i + 1) (by omega) fun j x hj => ?_) 255 1 (by omega) (by omega) (fun y a b => by omega)))
    · rw [tinderboxlaw28_RsOne.l0, if_pos (by omega)]
      rfl
    · rw [tinderboxlaw28_RsOne.j1, if_pos rfl]
      rfl
    · by_cases d : j = i
      · rw [d]; exact h x
      · exact hb j x (by omega)
theorem RsOne : tinderboxlaw28_RsOne.Pure := by
  intro a0 _
  obtain ⟨s, hs, h1, h2⟩ := few_ev a0
  apply Ev.rounds
  by_cases c : (s.size : Int) < 3
  · refine Ev.congr (fun k => ?_) (Ev.bind awake_ev (Ev.now true))
    unfold tinderboxlaw28_RsOne.f
    rw [hs, Option.bind_some, if_pos c]
  obtain ⟨m, em, m1, m2⟩ : ∃ m : Nat, mn (s.size : Int) 8 = (m : Int) ∧ 3 ≤ m ∧ m ≤ 8 ∧ m ≤ s.size := by
    unfold mn
    by_cases d : (s.size : Int) < 8
    · exact ⟨s.size, by split <;> omega, by omega, by omega, by omega⟩
    · exact ⟨8, by split <;> omega, by omega, by omega, by omega⟩
  have go : ∀ (t w : ByteArray) (k e : Int) (is : Bool), s.extract 0 m = t → Ev (fun q => rs_Decode.f q t ((2 : Nat) : Int) ([] : List Int)) (w, k, e) → Ev (fun q => tinderboxlaw28_right.f q t ((2 : Nat) : Int)) is → Ev (fun q => tinderboxlaw28_RsOne.l0 q t w e t is ((0 : Nat) : Int)) true →
      Ev (fun q => tinderboxlaw28_RsOne.f q a0) true := by
    intro t w k e is ht hd hr hl
    refine Ev.congr (f := fun q => (rs_Decode.f q t ((2 : Nat) : Int) ([] : List Int)).bind fun bt438 => (tinderboxlaw28_right.f q t ((2 : Nat) : Int)).bind fun t441 => tinderboxlaw28_RsOne.l0 q t bt438.1 bt438.2.2 t t441 ((0 : Nat) : Int)) (fun q => ?_) (Ev.bind hd (Ev.bind hr hl))
    unfold tinderboxlaw28_RsOne.f
    rw [hs, Option.bind_some, if_neg c, em, if_pos (by omega), if_pos (by omega), Int.toNat_natCast, ht]
    rfl
  have hts : (s.extract 0 m).size = m := by rw [ByteArray.size_extract]; omega
  generalize s.extract 0 m = t at hts go
  have hM : May t.size 2 := ⟨by omega, by omega, by omega, by omega⟩
  have hc : rs_Check.f (t.size : Int) ((2 : Nat) : Int) = some true := by rw [check_eq, decide_eq_true hM]
  obtain ⟨K, kn, ks, km, hk⟩ := lost_ev [] t.size 2 (by omega) (by simp) (by simp)
  have hK : K = [] := by
    rw [List.eq_nil_iff_forall_not_mem]
    intro j hj
    have hjs := ks j hj
    have := (km (t.size - 1 - j) (by omega)).mp (by rw [show t.size - 1 - (t.size - 1 - j) = j by omega]; exact hj)
    simp at this
  subst hK
  have hR := right_ev t 2 (by omega) (by omega)
  by_cases o : Ok t 2
  · have hR2 := rright_ev t 2 (by omega) (by omega)
    rw [show decide (May t.size 2 ∧ Ok t 2) = true from decide_eq_true ⟨hM, o⟩] at hR2
    rw [decide_eq_true o] at hR
    refine go t t 0 0 true rfl (Ev.bind hk (Ev.bind (a := true) (Ev.congr (fun _ => hc) (Ev.now _)) (ifp rfl (ifp (by decide) (Ev.bind hR2 (ifp rfl (Ev.now _))))))) hR ?_
    refine Ev.step (f := fun k => tinderboxlaw28_RsOne.j1 k t t 0 t true ((0 : Nat) : Int) false) (fun k => ?_) (Ev.step (f := fun k => (tinderboxlaw28_awake.f k).bind fun t446 => (if t446 = true then (if (0 : Int) = 0 then (some true) else (some false)) else (some false))) (fun k => ?_) (Ev.bind awake_ev (ifp rfl (ifp rfl (Ev.now _)))))
    · rw [tinderboxlaw28_RsOne.l0, if_pos (by omega)]
      rfl
    · rw [tinderboxlaw28_RsOne.j1, if_neg (by decide), if_pos rfl]
      simp
  · rw [decide_eq_false o] at hR
    have hfound : ∀ i x, i < t.size → 1 ≤ x → x < 256 → Ok (put t i (E.of x)) 2 → Ev (fun k => rs_Decode.f k t ((2 : Nat) : Int) ([] : List Int)) (put t i (E.of x), (apart t (put t i (E.of x)) : Int), 0) := fun i x hi x1 x2 hok =>
      complete hM ks kn (by simp) hk o (put_size t i (E.of x)).symm hok (by have := wrong_put t i (E.of x) hi; simp; omega)
    have same : ∀ {a b : ByteArray × Int × Int}, Ev (fun k => rs_Decode.f k t ((2 : Nat) : Int) ([] : List Int)) a → Ev (fun k => rs_Decode.f k t ((2 : Nat) : Int) ([] : List Int)) b → a = b := by
      rintro a b ⟨k1, q1⟩ ⟨k2, q2⟩
      exact Option.some.inj ((q1 (max k1 k2) (by omega)).symm.trans (q2 (max k1 k2) (by omega)))
    rcases sound hM ks kn (by simp) hk o with hd | ⟨w, w1, w2, w3, hd⟩
    · refine go t _ 0 280 false rfl hd hR (one_out t _ 280 (by omega) (by omega) (fun i x hi x1 x2 hok => ?_) (fun _ => rfl) t.size 0 (by omega) (fun j x hj => by omega))
      have := same hd (hfound i x hi x1 x2 hok)
      have h3 := congrArg (fun z => z.2.2) this
      exact absurd (show (280 : Int) = 0 from h3) (by decide)
    · refine go t w _ 0 false rfl hd hR (one_out t w 0 (by omega) (by omega) (fun i x hi x1 x2 hok => ⟨rfl, ?_⟩) (fun hno => ?_) t.size 0 (by omega) (fun j x hj => by omega))
      · exact congrArg (fun z => z.1) (same hd (hfound i x hi x1 x2 hok))
      · obtain ⟨i, d, hi, hd0, hw⟩ := one_put w1 (fun q => o (q ▸ w2)) (by simp at w3; omega)
        refine absurd ?_ (hno i d.n hi (by
          rcases Nat.eq_zero_or_pos d.n with q | q
          · exact absurd (E.n_inj q) hd0
          · exact q) d.n_lt)
        rw [E.of_n, ← hw]
        exact w2
end Go.Proofs.Ytconplohaaohlaa.Pure
