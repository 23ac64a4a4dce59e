/- Which places are known to be lost, and the walk over the places that are wrong; no condition. -/
import Derived.Test.YtpleeckbakllpaaXWvx3
import Derived.Test.YtpleeckbakllpaaXWvx4
import Derived.Test.YtpleeckbakllpaaXWvx5
import Derived.Test.YtpleeckbakllpaaXWvx7
import Derived.Test.YtpleeckbakllpaaXWvx9
import Derived.Test.YtpleeckbakllpaaGfI
namespace Go.Proofs.Ytpleeckbakllpaa.Gf
open Go.RowKit Go.Proofs.YtpleeckbakllpaaX.PrintWords Go.Proofs.YtpleeckbakllpaaX.PrintLast Go.Proofs.YtpleeckbakllpaaX.PrintMore Go.Proofs.Ytpleeckbakllpaa.XWv
set_option linter.unusedSimpArgs false
set_option linter.unusedVariables false

/-! ### sorted lists, each element once -/
theorem compact_up (d : Array Int) (h : ∀ i j, i ≤ j → j < d.size → d[i]! ≤ d[j]!) (m : Nat) : m ≤ d.size →
    (Lib.compactUpTo d m).Pairwise (· < ·) ∧ (∀ x, x ∈ Lib.compactUpTo d m ↔ ∃ j, j < m ∧ d[j]! = x) := by
  induction m with
  | zero =>
    intro _
    refine ⟨List.Pairwise.nil, fun x => ?_⟩
    constructor
    · intro hx; exact absurd hx (by simp [Lib.compactUpTo])
    · rintro ⟨j, hj, _⟩; omega
  | succ m ih =>
    intro hm
    obtain ⟨i1, i2⟩ := ih (by omega)
    rw [Lib.compactUpTo_succ]
    by_cases c : m = 0 ∨ d[m]! ≠ d[m - 1]!
    · have hk : Lib.keeps d m = true := by unfold Lib.keeps; exact decide_eq_true c
      rw [if_pos hk]
      refine ⟨?_, fun x => ?_⟩
      · rw [List.pairwise_append]
        refine ⟨i1, by simp, fun a ha b hb => ?_⟩
        obtain ⟨j, hj, rfl⟩ := (i2 a).mp ha
        have hb : b = d[m]! := by simpa using hb
        subst hb
        have h1 := h j (m - 1) (by omega) (by omega)
        have h2 := h (m - 1) m (by omega) (by omega)
        have h3 : d[m]! ≠ d[m - 1]! := c.resolve_left (by omega)
        omega
      · rw [List.mem_append, i2, List.mem_singleton]
        constructor
        · rintro (⟨j, hj, e⟩ | e)
          · exact ⟨j, by omega, e⟩
          · exact ⟨m, by omega, e.symm⟩
        · rintro ⟨j, hj, e⟩
          by_cases q : j = m
          · right; rw [← e, q]
          · left; exact ⟨j, by omega, e⟩
    · have hk : ¬ Lib.keeps d m = true := by unfold Lib.keeps; simpa using c
      rw [if_neg hk, List.append_nil]
      refine ⟨i1, fun x => ?_⟩
      rw [i2]
      have c1 : 0 < m := Nat.pos_of_ne_zero fun q => c (.inl q)
      have c2 : d[m]! = d[m - 1]! := Classical.byContradiction fun q => c (.inr q)
      constructor
      · rintro ⟨j, hj, e⟩; exact ⟨j, by omega, e⟩
      · rintro ⟨j, hj, e⟩
        by_cases q : j = m
        · exact ⟨m - 1, by omega, by rw [← c2, ← q]; exact e⟩
        · exact ⟨j, by omega, e⟩
theorem compact_sort (l : List Int) : (Lib.compact (l.mergeSort fun x y => decide (x ≤ y))).Pairwise (· < ·) ∧ ∀ x, x ∈ Lib.compact (l.mergeSort fun x y => decide (x ≤ y)) ↔ x ∈ l := by
  have hs := List.pairwise_mergeSort (le := fun x y : Int => decide (x ≤ y)) (fun a b c h1 h2 => by simp at *; omega) (fun a b => by simp; omega) l
  have hm : ∀ x, x ∈ (l.mergeSort fun x y => decide (x ≤ y)) ↔ x ∈ l := fun x => List.mem_mergeSort
  generalize (l.mergeSort fun x y => decide (x ≤ y)) = z at hs hm
  have e : ∀ j, j < z.length → z.toArray[j]! = z.getD j 0 := fun j hj => by
    rw [getElem!_pos z.toArray j (by simpa using hj), List.getD_eq_getElem?_getD, List.getElem?_eq_getElem hj]
    rfl
  have := compact_up z.toArray (fun i j hij hj => by
    have hj' : j < z.length := by simpa using hj
    rw [e i (by omega), e j hj', List.getD_eq_getElem?_getD, List.getD_eq_getElem?_getD, List.getElem?_eq_getElem hj', List.getElem?_eq_getElem (by omega : i < z.length)]
    by_cases c : i = j
    · subst c; exact Int.le_refl _
    · have := List.pairwise_iff_getElem.mp hs i j (by omega) hj' (by omega)
      simpa using this) z.length (by simp)
  refine ⟨this.1, fun x => ?_⟩
  rw [← hm x]
  unfold Lib.compact
  rw [this.2]
  constructor
  · rintro ⟨j, hj, q⟩
    rw [e j hj, List.getD_eq_getElem?_getD, List.getElem?_eq_getElem hj] at q
    rw [← q]
    exact List.getElem_mem _
  · intro hx
    obtain ⟨j, hj, q⟩ := List.mem_iff_getElem.mp hx
    exact ⟨j, hj, by rw [e j hj, List.getD_eq_getElem?_getD, List.getElem?_eq_getElem hj]; exact q⟩

/-! ### the places that are known to be lost -/
theorem lost_good (l : List Int) (N p : Nat) (hN : N ≤ 1000) (hl : l.length ≤ 1000) (h : ∀ x ∈ l, 0 ≤ x ∧ x < (N : Int)) (r : Nat) : ∀ (acc : List Int) (i : Nat), i + r = l.length → acc.length ≤ i →
    Ev (fun k => rs_lostOf.l0 k (N : Int) (p : Int) acc l (l.length : Int) (i : Int))
      (Lib.compact ((acc ++ (l.drop i).map fun x => (N : Int) - 1 - x).mergeSort fun x y => decide (x ≤ y)), decide (((Lib.compact ((acc ++ (l.drop i).map fun x => (N : Int) - 1 - x).mergeSort fun x y => decide (x ≤ y))).length : Int) ≤ (p : Int))) := by
  induction r with
  | zero =>
    intro acc i hi ha
    rw [List.drop_eq_nil_of_le (by omega), List.map_nil, List.append_nil]
    refine Ev.step (f := fun _ => some (Lib.compact (acc.mergeSort fun x y => decide (x ≤ y)), decide (((Lib.compact (acc.mergeSort fun x y => decide (x ≤ y))).length : Int) ≤ (p : Int)))) (fun k => ?_) (Ev.now _)
    have h1 : slices_Sort_int_int.f acc = some (acc.mergeSort fun x y => decide (x ≤ y)) := by unfold slices_Sort_int_int.f; rw [if_pos (by omega)]
    have h2 : slices_Compact_int_int.f (acc.mergeSort fun x y => decide (x ≤ y)) = some (Lib.compact (acc.mergeSort fun x y => decide (x ≤ y))) := by unfold slices_Compact_int_int.f; rw [if_pos (by rw [List.length_mergeSort]; omega)]
    rw [rs_lostOf.l0, if_neg (by omega), h1, Option.bind_some, h2, Option.bind_some]
  | succ r ih =>
    intro acc i hi ha
    have hil : i < l.length := by omega
    have e : rd l (i : Int) = l[i] := by
      show l.getD ((i : Int)).toNat 0 = _
      rw [Int.toNat_natCast, List.getD_eq_getElem?_getD, List.getElem?_eq_getElem hil]; rfl
    have hx := h l[i] (List.getElem_mem _)
    rw [List.drop_eq_getElem_cons hil, List.map_cons]
    have := ih (acc ++ [(N : Int) - 1 - l[i]]) (i + 1) (by omega) (by rw [List.length_append]; simp; omega)
    rw [List.append_assoc, List.singleton_append] at this
    refine Ev.step (fun k => ?_) this
    rw [rs_lostOf.l0, if_pos (by omega), if_pos (by omega), if_pos (by omega), e, if_neg (by omega), if_neg (by omega), if_pos (by omega), w64 (n := (N : Int) - 1) (by omega) (by omega), w64 (by omega) (by omega), w64 (n := (i : Int) + 1) (by omega) (by omega)]
    rfl
theorem lost_ev (l : List Int) (N p : Nat) (hN : N ≤ 1000) (hl : l.length ≤ 1000) (h : ∀ x ∈ l, 0 ≤ x ∧ x < (N : Int)) :
    ∃ K : List Nat, K.Nodup ∧ (∀ j ∈ K, j < N) ∧ (∀ i : Nat, i < N → (N - 1 - i ∈ K ↔ (i : Int) ∈ l)) ∧ Ev (fun k => rs_lostOf.f k l (N : Int) (p : Int)) (NL K, decide (K.length ≤ p)) := by
  have h1 := lost_good l N p hN hl h l.length [] 0 (by omega) (by simp)
  rw [List.nil_append, List.drop_zero] at h1
  obtain ⟨c1, c2⟩ := compact_sort (l.map fun x => (N : Int) - 1 - x)
  generalize Lib.compact ((l.map fun x => (N : Int) - 1 - x).mergeSort fun x y => decide (x ≤ y)) = z at h1 c1 c2
  have hz : ∀ x ∈ z, 0 ≤ x ∧ x < (N : Int) := fun x hx => by
    obtain ⟨y, hy, rfl⟩ := List.mem_map.mp ((c2 x).mp hx)
    have := h y hy
    omega
  have e : NL (z.map Int.toNat) = z := by
    unfold NL
    rw [List.map_map]
    conv => rhs; rw [← List.map_id z]
    apply List.map_congr_left
    intro x hx
    have := hz x hx
    show ((x.toNat : Nat) : Int) = x
    omega
  refine ⟨z.map Int.toNat, ?_, ?_, ?_, ?_⟩
  · rw [List.nodup_iff_pairwise_ne, List.pairwise_map]
    refine List.Pairwise.imp_of_mem ?_ c1
    intro a b ha hb hab q
    have := hz a ha
    have := hz b hb
    omega
  · intro j hj
    obtain ⟨x, hx, rfl⟩ := List.mem_map.mp hj
    have := hz x hx
    omega
  · intro i hi
    constructor
    · intro hj
      obtain ⟨x, hx, q⟩ := List.mem_map.mp hj
      have hx' := hz x hx
      obtain ⟨y, hy, rfl⟩ := List.mem_map.mp ((c2 x).mp hx)
      have : (i : Int) = y := by omega
      rw [this]; exact hy
    · intro hy
      refine List.mem_map.mpr ⟨(N : Int) - 1 - i, (c2 _).mpr (List.mem_map.mpr ⟨(i : Int), hy, rfl⟩), by omega⟩
  · rw [e, List.length_map]
    have hd : decide (z.length ≤ p) = decide ((z.length : Int) ≤ (p : Int)) := by
      by_cases c : z.length ≤ p
      · rw [decide_eq_true c, decide_eq_true (by omega)]
      · rw [decide_eq_false c, decide_eq_false (by omega)]
    rw [hd]
    exact h1

/-! ### the walk over the places that are wrong -/
/-- By how much a byte is wrong. -/
def amount (B D : List E) (j : Nat) : E := X j * (ev B (Y j) * inv (ev D (Y j)))
def fin (y : List E) (c : Int) (p : Nat) : ByteArray × Int × Int := if May y.length p ∧ Ok (ofE y) p then (ofE y, c, 0) else (⟨#[]⟩, 0, 280)
theorem ofE_size (l : List E) : (ofE l).size = l.length := by rw [← toE_length, toE_ofE]
theorem bytes_ofE (s : ByteArray) : bytesOf s = IL (toE s) := (IL_toE s).symm
theorem fix_good (B D : List E) (W : List Nat) (N p : Nat) (hB : B.length < 1000) (hD : D.length < 1000) (hN : N ≤ 255) (hp : p ≤ 100) (hn : W.Nodup) (hW : ∀ j ∈ W, j < N) (lW : W.length ≤ 300) (h : ∀ j ∈ W, ev D (Y j) ≠ 0) (r : Nat) :
    ∀ (y : List E) (c i : Nat), i + r = W.length → y.length = N → c ≤ i →
    ∃ z : List E, z.length = N ∧ (∀ j, j < N → z.getD (N - 1 - j) 0 = y.getD (N - 1 - j) 0 + if j ∈ W.drop i then amount B D j else 0) ∧
    Ev (fun k => rs_Decode.l0 k (p : Int) (IL B) (IL y) (c : Int) (IL D) (NL W) (W.length : Int) (i : Int)) (fin z ((c + ((W.drop i).filter fun j => decide (amount B D j ≠ 0)).length : Nat) : Int) p) := by
  induction r with
  | zero =>
    intro y c i hi hy hc
    refine ⟨y, hy, fun j hj => ?_, ?_⟩
    · rw [List.drop_eq_nil_of_le (by omega), if_neg (by simp), add_zero]
    · have hR := rright_ev (ofE y) p (by rw [ofE_size]; omega) (by omega)
      rw [ofE_size] at hR
      refine Ev.step (f := fun k => (rs_Right.f k (strOfNums (IL y)) (p : Int)).bind fun t342 => (if t342 = true then (some (strOfNums (IL y), (c : Int), (0 : Int))) else (some ((⟨#[]⟩ : ByteArray), (0 : Int), (280 : Int))))) (fun k => ?_) (Ev.bind hR ?_)
      · rw [rs_Decode.l0, if_neg (by omega)]
      · rw [List.drop_eq_nil_of_le (by omega)]
        unfold fin
        by_cases q : May y.length p ∧ Ok (ofE y) p
        · refine ifp (decide_eq_true q) ?_
          rw [if_pos q]
          exact Ev.now _
        · refine ifn (by simp only [decide_eq_true_eq]; exact q) ?_
          rw [if_neg q]
          exact Ev.now _
  | succ r ih =>
    intro y c i hi hy hc
    have hiW : i < W.length := by omega
    have hm : W[i] ∈ W := List.getElem_mem _
    have hj := hW _ hm
    have e : rd (NL W) (i : Int) = ((W[i] : Nat) : Int) := by rw [rd_NL, List.getD_eq_getElem?_getD, List.getElem?_eq_getElem hiW]; rfl
    have e1 : wrap64 ((wrap64 (((IL y).length : Int) - 1)) - ((W[i] : Nat) : Int)) = ((N - 1 - W[i] : Nat) : Int) := by rw [IL_length, hy, w64 (n := (N : Int) - 1) (by omega) (by omega), w64 (by omega) (by omega)]; omega
    obtain ⟨z, z1, z2, z3⟩ := ih (y.set (N - 1 - W[i]) (y.getD (N - 1 - W[i]) 0 + amount B D W[i])) (if amount B D W[i] = 0 then c else c + 1) (i + 1) (by omega) (by rw [List.length_set, hy]) (by split <;> omega)
    refine ⟨z, z1, fun j hjN => ?_, ?_⟩
    · rw [z2 j hjN, getD_set _ _ _ _ (by omega), List.drop_eq_getElem_cons hiW]
      have hnot : W[i] ∉ W.drop (i + 1) := by
        have := List.Nodup.sublist (List.drop_sublist i W) hn
        rw [List.drop_eq_getElem_cons hiW, List.nodup_cons] at this
        exact this.1
      by_cases q : j = W[i]
      · rw [if_pos (by rw [q]), if_neg (by rw [q]; exact hnot), if_pos (by rw [q]; exact List.mem_cons_self ..), add_zero, q]
      · rw [if_neg (by omega)]
        by_cases g : j ∈ W.drop (i + 1)
        · rw [if_pos g, if_pos (List.mem_cons_of_mem _ g)]
        · rw [if_neg g, if_neg (fun w => (List.mem_cons.mp w).elim q g)]
    · have hcount : ((W.drop i).filter fun j => decide (amount B D j ≠ 0)).length + c = (if amount B D W[i] = 0 then c else c + 1) + ((W.drop (i + 1)).filter fun j => decide (amount B D j ≠ 0)).length := by
        rw [List.drop_eq_getElem_cons hiW]
        by_cases q : amount B D W[i] = 0
        · rw [List.filter_cons_of_neg (by simpa using q), if_pos q, Nat.add_comm]
        · rw [List.filter_cons_of_pos (by simpa using q), if_neg q, List.length_cons]; omega
      rw [Nat.add_comm c, hcount]
      refine Ev.step (f := fun k => (gf_Root.f k (wrap64 (-((W[i] : Nat) : Int)))).bind fun t344 => (gf_Poly_At.f k (IL D) t344).bind fun t345 => if t345 = 0 then (some ((⟨#[]⟩ : ByteArray), (0 : Int), (280 : Int))) else (gf_Root.f k ((W[i] : Nat) : Int)).bind fun t346 => (gf_Poly_At.f k (IL B) t344).bind fun t347 => (gf_Inv.f k t345).bind fun t348 => (gf_Mul.f k t347 t348).bind fun t349 => (gf_Mul.f k t346 t349).bind fun t350 =>
        if t350 = 0 then rs_Decode.l0 k (p : Int) (IL B) ((IL y).set (N - 1 - W[i]) (Go.bits .xor .u8 (I (y.getD (N - 1 - W[i]) 0)) t350)) (c : Int) (IL D) (NL W) (W.length : Int) ((i + 1 : Nat) : Int)
        else rs_Decode.l0 k (p : Int) (IL B) ((IL y).set (N - 1 - W[i]) (Go.bits .xor .u8 (I (y.getD (N - 1 - W[i]) 0)) t350)) ((c + 1 : Nat) : Int) (IL D) (NL W) (W.length : Int) ((i + 1 : Nat) : Int)) (fun k => ?_)
        (Ev.bind (rootn_ev W[i] (by omega)) (Ev.bind (at_ev D (Y W[i]) (by omega)) (ifn (fun q => h _ hm (I_eq_zero.mp q)) (Ev.bind (root_ev W[i] (by omega)) (Ev.bind (at_ev B (Y W[i]) (by omega)) (Ev.bind (inv_ev (h _ hm)) (Ev.bind (mul_ev _ _) (Ev.bind (mul_ev _ _) ?_))))))))
      · rw [rs_Decode.l0, if_pos (by omega), if_pos (by omega), if_pos (by rw [NL_length]; omega), e, e1, Int.toNat_natCast, rd_IL, w64 (n := (i : Int) + 1) (by omega) (by omega), w64 (n := (c : Int) + 1) (by omega) (by omega)]
        have q1 : (0 : Int) ≤ ((N - 1 - W[i] : Nat) : Int) := by omega
        have q2 : ((N - 1 - W[i] : Nat) : Int) < ((IL y).length : Int) := by rw [IL_length]; omega
        simp only [if_pos q1, if_pos q2]
        rfl
      · rw [I_xor, ← IL_set]
        by_cases q : amount B D W[i] = 0
        · rw [if_pos q] at z3
          refine ifp (I_eq_zero.mpr q) ?_
          rw [if_pos q]
          exact z3
        · rw [if_neg q] at z3
          refine ifn (fun g => q (I_eq_zero.mp g)) ?_
          rw [if_neg q]
          exact z3
end Go.Proofs.Ytpleeckbakllpaa.Gf
