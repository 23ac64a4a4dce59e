/- Decoding is right: few enough wrong bytes are made right; what it tells is a right word near the one that came; no condition. -/
import Derived.Test.YtpleeckbakllpaaXWvx7
import Derived.Test.YtpleeckbakllpaaXWvx9
import Derived.Test.YtpleeckbakllpaaGfK
namespace Go.Proofs.Ytpleeckbakllpaa.Gf
open Go.RowKit Go.Proofs.YtpleeckbakllpaaX.PrintWords Go.Proofs.YtpleeckbakllpaaX.PrintLast Go.Proofs.YtpleeckbakllpaaX.PrintMore Go.Proofs.Ytpleeckbakllpaa.XWv
set_option linter.unusedSimpArgs false
set_option linter.unusedVariables false

/-- At how many places two words differ. -/
def apart (s t : ByteArray) : Nat := ((List.range s.size).filter fun j => decide (er s t j ≠ 0)).length
/-- At how many of them that are not known. -/
def wrong (s t : ByteArray) (K : List Nat) : List Nat := (List.range s.size).filter fun j => decide (er s t j ≠ 0 ∧ j ∉ K)
theorem fixed_er {s : ByteArray} {z : List E} (hz : z.length = s.size) {f : Nat → E} (h : ∀ j, j < s.size → z.getD (s.size - 1 - j) 0 = (toE s).getD (s.size - 1 - j) 0 + f j) {j : Nat} (hj : j < s.size) : er s (ofE z) j = f j := by
  unfold er
  rw [wd_getD s j hj, wd_getD (ofE z) j (by rw [ofE_size]; omega), ofE_size, hz, toE_ofE, h j hj]
  simp only [add_assoc, add_comm, add_left_comm, add_self, add_self_left, add_zero, zero_add]
theorem filter_congr_len {Z : List Nat} {N : Nat} (hn : Z.Nodup) (hZ : ∀ j ∈ Z, j < N) (P : Nat → Bool) (h : ∀ j, j < N → P j = true → j ∈ Z) : (Z.filter P).length = ((List.range N).filter P).length := by
  apply List.Perm.length_eq
  rw [List.perm_ext_iff_of_nodup (nodup_filter _ hn) (nodup_filter _ List.nodup_range)]
  intro j
  rw [List.mem_filter, List.mem_filter, List.mem_range]
  constructor
  · rintro ⟨a, b⟩; exact ⟨hZ j a, b⟩
  · rintro ⟨a, b⟩; exact ⟨h j a b, b⟩
theorem W_mem {s : ByteArray} {A : List E} {W : List Nat} (e : W = (List.range s.size).filter fun n => decide (ev A (Y n) = 0)) (j : Nat) : j ∈ W ↔ j < s.size ∧ ev A (Y j) = 0 := by
  rw [e, List.mem_filter, List.mem_range]; simp

theorem complete {s c : ByteArray} {p : Nat} {l : List Int} {K : List Nat} (hM : May s.size p) (hK : ∀ j ∈ K, j < s.size) (hn : K.Nodup) (hl : K.length ≤ p) (hk : Ev (fun k => rs_lostOf.f k l (s.size : Int) (p : Int)) (NL K, decide (K.length ≤ p))) (hs : ¬ Ok s p)
    (hc : s.size = c.size) (hok : Ok c p) (hw : 2 * (wrong s c K).length + K.length ≤ p) : Ev (fun k => rs_Decode.f k s (p : Int) l) (c, (apart s c : Int), 0) := by
  obtain ⟨T, v, b, A, D, W, F, hno, hyes⟩ := core s p l K hM hK hn hl hk hs
  obtain ⟨m1, m2, m3, m4⟩ := hM
  have hM : May s.size p := ⟨m1, m2, m3, m4⟩
  obtain ⟨a, u, M, Md, la, lb, lM, eM, eT⟩ := F.mid
  have hU1 : ∀ j ∈ wrong s c K, j < s.size ∧ er s c j ≠ 0 ∧ j ∉ K := fun j hj => by
    unfold wrong at hj
    rw [List.mem_filter, List.mem_range] at hj
    have := hj.2
    simp only [decide_eq_true_eq] at this
    exact ⟨hj.1, this⟩
  have hU2 : ∀ j, j < s.size → er s c j ≠ 0 → j ∉ K → j ∈ wrong s c K := fun j h1 h2 h3 => by
    unfold wrong
    rw [List.mem_filter, List.mem_range]
    exact ⟨h1, by simp only [decide_eq_true_eq]; exact ⟨h2, h3⟩⟩
  have hUn : (wrong s c K).Nodup := nodup_filter _ List.nodup_range
  generalize wrong s c K = U at hw hU1 hU2 hUn
  have hZn : (K ++ U).Nodup := by
    rw [List.nodup_append]
    exact ⟨hn, hUn, fun x hx y hy e => (hU1 y hy).2.2 (e ▸ hx)⟩
  have hZs : ∀ j ∈ K ++ U, j < s.size := fun j hj => (List.mem_append.mp hj).elim (hK j) fun g => (hU1 j g).1
  have hZ : ∀ j ∈ K ++ U, j < 255 := fun j hj => by have := hZs j hj; omega
  have hout : ∀ j, j < s.size → j ∉ K ++ U → er s c j = 0 := fun j h1 h2 => Classical.byContradiction fun g => h2 (List.mem_append.mpr (by
    by_cases q : j ∈ K
    · exact .inl q
    · exact .inr (hU2 j h1 g q)))
  have hsig : ∀ i, i < p → sg s i = sy (er s c) (K ++ U) i := fun i hi => by
    rw [sy_on (er s c) i s.size (K ++ U) hZn hZs hout, ← sg_er s c hc, hok i hi, add_zero]
  have hTe : ∀ x, ev T x = sz p (er s c) (K ++ U) x * pr K x + pw x p * ev (M.drop p) x := fun x => by
    have := eT x
    rw [eM, sgs_ev, sp_congr p hsig, sp_sy] at this
    rw [this]
    simp only [add_assoc, add_comm, add_left_comm, add_self, add_self_left, add_zero, zero_add]
  obtain ⟨al, na, pal, nal, hal⟩ := Md.hu
  obtain ⟨be, nb, pbe, nbe, hbe⟩ := Md.hv
  have l1 := Md.lv
  have l2 := Md.lu
  have l3 := Md.la
  obtain ⟨k, hk0, hv, hb⟩ := solved (p := p) (nu := U.length) (rho := K.length) (lv := v.length) (lb := b.length) (la := a.length) (N := 90) (e := er s c) (K := K) (U := U) (h := ev (M.drop p)) (T := ev T) (a := ev a) (b := ev b) (u := ev u) (v := ev v) (al := al) (be := be)
    hZn hZ rfl rfl (fun j hj => (hU1 j hj).2.1) hw (by omega) (Nat.le_refl _) hTe ((Po.of _).mono (by rw [List.length_drop]; omega)) hal hbe Md.huv (pal.mono (by omega)) (pbe.mono (by omega)) ((Po.of u).mono (by omega)) (Po.of v) ((Po.of a).mono (by omega)) (Po.of b) (by omega) (by omega)
  have eA : ∀ x, ev A x = k * pr (K ++ U) x := fun x => by
    rw [F.eA, hv, pr_append]
    simp only [mul_assoc, mul_comm, mul_left_comm]
  have lA : A.length = (K ++ U).length + 1 := by
    obtain ⟨c1, hc1, g, pg, eg⟩ := pr_ld (K ++ U)
    refine F.tA.len (by have := F.lA; omega) (mul_ne hk0 hc1) (by rw [List.length_append]; omega) ⟨fun x => k * g x, pg.scale k, fun x => ?_⟩
    rw [eA, eg, mul_add, mul_assoc]
  have lV : v.length = U.length + 1 := by
    obtain ⟨c1, hc1, g, pg, eg⟩ := pr_ld U
    refine F.tv.len (by have := F.lv; omega) (mul_ne hk0 hc1) (by omega) ⟨fun x => k * g x, pg.scale k, fun x => ?_⟩
    rw [hv, eg, mul_add, mul_assoc]
  have hWm : ∀ j, j ∈ W ↔ j ∈ K ++ U := fun j => by
    rw [W_mem F.eW]
    constructor
    · rintro ⟨h1, h2⟩
      rw [eA] at h2
      exact (pr_zero hZ (by omega)).mp ((ne_of_mul h2).resolve_left hk0)
    · intro hj
      exact ⟨hZs j hj, by rw [eA, (pr_zero hZ (hZ j hj)).mpr hj, mul_zero]⟩
  have hWn : W.Nodup := by rw [F.eW]; exact nodup_filter _ List.nodup_range
  have lW : W.length = (K ++ U).length := List.Perm.length_eq ((List.perm_ext_iff_of_nodup hWn hZn).mpr hWm)
  have hne : W.length ≠ 0 := fun q => hs (by
    have h0 : K ++ U = [] := List.length_eq_zero_iff.mp (lW ▸ q)
    have : s = c := er_eq hc fun j hj => hout j hj (by rw [h0]; simp)
    rw [this]; exact hok)
  have hC : Cond p K v A W := ⟨hne, by omega, by omega⟩
  have hDe : ∀ x, ev D x = de (PL k (K ++ U)) x := fun x => by
    rw [F.eD]
    exact de_congr (by have := F.lA; omega) (by rw [PL_length, List.length_append]; omega) (fun y => by rw [eA, PL_ev]) x
  have hfor : ∀ j ∈ W, ev D (Y j) ≠ 0 ∧ amount b D j = er s c j := fun j hj => by
    have hj' := (hWm j).mp hj
    obtain ⟨d, hd, e1, e2⟩ := forney (er s c) k j (hZ j hj') (K ++ U) hZn hZ hj'
    have q : ev D (Y j) = k * (X j * d) := by rw [hDe, e2]
    have q0 : k * (X j * d) ≠ 0 := mul_ne hk0 (mul_ne (X_ne j) hd)
    refine ⟨by rw [q]; exact q0, ?_⟩
    unfold amount
    rw [q, hb, e1]
    rw [show X j * (k * (er s c j * d) * inv (k * (X j * d))) = er s c j * (k * (X j * d) * inv (k * (X j * d))) by simp only [mul_assoc, mul_comm, mul_left_comm], mul_inv q0, mul_one]
  have hWs : ∀ j ∈ W, j < s.size := fun j hj => hZs j ((hWm j).mp hj)
  obtain ⟨z, z1, z2, z3⟩ := fix_good b D W s.size p (by have := F.lb; omega) F.lD m4 (by omega) hWn hWs (by rw [lW, List.length_append]; omega) (fun j hj => (hfor j hj).1) W.length (toE s) 0 0 (by omega) (toE_length s) (Nat.le_refl _)
  rw [List.drop_zero] at z2 z3
  have he : ∀ j, j < s.size → er s (ofE z) j = er s c j := fun j hj => by
    rw [fixed_er z1 z2 hj]
    by_cases g : j ∈ W
    · rw [if_pos g, (hfor j g).2]
    · rw [if_neg g, hout j hj fun w => g ((hWm j).mpr w)]
  have hzc : ofE z = c := by
    refine er_eq (by rw [ofE_size, z1, hc]) fun j hj => ?_
    rw [ofE_size, z1] at hj
    have := he j hj
    unfold er at this ⊢
    have t : (wd (ofE z)).getD j 0 = (wd c).getD j 0 := by
      have r := congrArg (fun y => (wd s).getD j 0 + y) this
      simpa [add_self_left] using r
    rw [t, add_self]
  have h := hyes hC _ z3
  unfold fin at h
  rw [if_pos ⟨by rw [z1]; exact hM, by rw [hzc]; exact hok⟩, Nat.zero_add, hzc] at h
  have hcount : (W.filter fun j => decide (amount b D j ≠ 0)).length = apart s c := by
    unfold apart
    rw [← filter_congr_len hWn hWs (fun j => decide (er s c j ≠ 0)) (fun j hj hp => Classical.byContradiction fun g => by
      have hp : er s c j ≠ 0 := by simpa using hp
      exact hp (hout j hj fun w => g ((hWm j).mpr w)))]
    congr 1
    apply List.filter_congr
    intro j hj
    rw [(hfor j hj).2]
  rw [hcount] at h
  exact h
end Go.Proofs.Ytpleeckbakllpaa.Gf
