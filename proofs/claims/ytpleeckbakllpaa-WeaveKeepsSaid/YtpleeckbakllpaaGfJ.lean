/- Which places are known to be lost, and the walk over the places that are wrong; no condition. -/
import Derived.Test.YtpleeckbakllpaaXWvx3
import Derived.Test.YtpleeckbakllpaaXWvx4
import Derived.Test.YtpleeckbakllpaaXWvx5
import Derived.Test.YtpleeckbakllpaaXWvx7
import Derived.Test.YtpleeckbakllpaaXWvx9
import Derived.Test.YtpleeckbakllpaaGfI
namespace Go.Proofs.Ytpleeckbakllpaa.Gf
open Go.RowKit Go.Proofs.YtpleeckbakllpaaX.PrintWords Go.Proofs.YtpleeckbakllpaaX.PrintLast Go.Proofs.YtpleeckbakllpaaX.PrintMore Go.Proofs.Ytpleeckbakllpaa.XWv
set_option linter.unusedSimpArgs false
set_option linter.unusedVariables false

/-! ### sorted lists, each element once -/
theorem compact_up (d : Array Int) (h : ∀ i j, i ≤ j → j < d.size → d[i]! ≤ d[j]!) (m : Nat) : m ≤ d.size →
    (Lib.compactUpTo d m).Pairwise (· < ·) ∧ (∀ x, x ∈ Lib.compactUpTo d m ↔ ∃ j, j < m ∧ d[j]! = x) := by
  induction m with
  | zero =>
    intro _
    refine ⟨List.Pairwise.nil, fun x => ?_⟩
    constructor
    · intro hx; exact absurd hx (by simp [Lib.compactUpTo])
    · rintro ⟨j, hj, _⟩; omega
  | succ m ih =>
    intro hm
    obtain ⟨i1, i2⟩ := ih (by omega)
    rw [Lib.compactUpTo_succ]
    by_cases c : m = 0 ∨ d[m]! ≠ d[m - 1]!
    · have hk : Lib.keeps d m = true := by unfold Lib.keeps; exact decide_eq_true c
      rw [if_pos hk]
      refine ⟨?_, fun x => ?_⟩
      · rw [List.pairwise_append]
        refine ⟨i1, by simp, fun a ha b hb => ?_⟩
        obtain ⟨j, hj, rfl⟩ := (i2 a).mp ha
        have hb : b = d[m]! := by simpa using hb
        subst hb
        have h1 := h j (m - 1) (by omega) (by omega)
        have h2 := h (m - 1) m (by omega) (by omega)
        have h3 : d[m]! ≠ d[m - 1]! := c.resolve_left (by omega)
        omega
      · rw [List.mem_append, i2, List.mem_singleton]
        constructor
        · rintro (⟨j, hj, e⟩ | e)
          · exact ⟨j, by omega, e⟩
          · exact ⟨m, by omega, e.symm⟩
        · rintro ⟨j, hj, e⟩
          by_cases q : j = m
          · right; rw [← e, q]
          · left; exact ⟨j, by omega, e⟩
    · have hk : ¬ Lib.keeps d m = true := by unfold Lib.keeps; simpa using c
      rw [if_neg hk, List.append_nil]
      refine ⟨i1, fun x => ?_⟩
      rw [i2]
      have c1 : 0 < m := Nat.pos_of_ne_zero fun q => c (.inl q)
      have c2 : d[m]! = d[m - 1]! := Classical.byContradiction fun q => c (.inr q)
      constructor
      · rintro ⟨j, hj, e⟩; exact ⟨j, by omega, e⟩
      · rintro ⟨j, hj, e⟩
        by_cases q : j = m
        · exact ⟨m - 1, by omega, by rw [← c2, ← q]; exact e⟩
        · exact ⟨j, by omega, e⟩
theorem compact_sort (l : List Int) : (Lib.compact (l.mergeSort fun x y => decide (x ≤ y))).Pairwise (· < ·) ∧ ∀ x, x ∈ Lib.compact (l.mergeSort fun x y => decide (x ≤ y)) ↔ x ∈ l := by
  have hs := List.pairwise_mergeSort (le := fun x y : Int => decide (x ≤ y)) (fun a b c h1 h2 => by simp at *; omega) (fun a b => by simp; omega) l
  have hm : ∀ x, x ∈ (l.mergeSort fun x y => decide (x ≤ y)) ↔ x ∈ l := fun x => List.mem_mergeSort
  generalize (l.mergeSort fun x y => decide (x ≤ y)) = z at hs hm
  have e : ∀ j, j < z.length → z.toArray[j]! = z.getD j 0 := fun j hj => by
    rw [getElem!_pos z.toArray j (by simpa using hj), List.getD_eq_getElem?_getD, List.getElem?_eq_getElem hj]
    rfl
  have := compact_up z.toArray (fun i j hij hj => by
    have hj' : j < z.length := by simpa using hj
    rw [e i (by omega), e j hj', List.getD_eq_getElem?_getD, List.getD_eq_getElem?_getD, List.getElem?_eq_getElem hj', List.getElem?_eq_getElem (by omega : i < z.length)]
    by_cases c : i = j
    · subst c; exact Int.le_refl _
    · have := List.pairwise_iff_getElem.mp hs i j (by omega) hj' (by omega)
      simpa using this) z.length (by simp)
  refine ⟨this.1, fun x => ?_⟩
  rw [← hm x]
  unfold Lib.compact
  rw [this.2]
  constructor
  · rintro ⟨j, hj, q⟩
    rw [e j hj, List.getD_eq_getElem?_getD, List.getElem?_eq_getElem hj] at q
    rw [← q]
    exact List.getElem_mem _
  · intro hx
    obtain ⟨j, hj, q⟩ := List.mem_iff_getElem.mp hx
    exact ⟨j, hj, by rw [e j hj, List.getD_eq_getElem?_getD, List.getElem?_eq_getElem hj]; exact q⟩

/-! ### the places that are known to be lost -/
theorem lost_good (l : List Int) (N p : Nat) (hN : N ≤ 1000) (hl : l.length ≤ 1000) (h : ∀ x ∈ l, 0 ≤ x ∧ x < (N : Int)) (r : Nat) : ∀ (acc : List Int) (i : Nat), i + r = l.length → acc.length ≤ i →
    Ev (fun k => rs_lostOf.l0 k (N : Int) (p : Int) acc l (l.length : Int) (i : Int))
      (Lib.compact ((acc ++ (l.drop i).map fun x => (N : Int) - 1 - x).mergeSort fun x y => decide (x ≤ y)), decide (((Lib.compact ((acc ++ (l.drop i).map fun x => (N : Int) - 1 - x).mergeSort fun x y => decide (x ≤ y))).length : Int) ≤ (p : Int))) := by
  induction r with
  | zero =>
    intro acc i hi ha
    rw [List.drop_eq_nil_of_le (by omega), List.map_nil, List.append_nil]
    refine Ev.step (f := fun _ => some (Lib.compact (acc.mergeSort fun x y => decide (x ≤ y)), decide (((Lib.compact (acc.mergeSort fun x y => decide (x ≤ y))).length : Int) ≤ (p : Int)))) (fun k => ?_) (Ev.now _)
    have h1 : slices_Sort_int_int.f acc = some (acc.mergeSort fun x y => decide (x ≤ y)) := by unfold slices_Sort_int_int.f; rw [if_pos (by omega)]
    have h2 : slices_Compact_int_int.f (acc.mergeSort fun x y => decide (x ≤ y)) = some (Lib.compact (acc.mergeSort fun x y => decide (x ≤ y))) := by unfold slices_Compact_int_int.f; rw [if_pos (by rw [List.length_mergeSort]; omega)]
    rw [rs_lostOf.l0, if_neg (by omega), h1, Option.bind_some, h2, Option.bind_some]
  | succ r ih =>
    intro acc i hi ha
    have hil : i < l.length := by omega
    have e : rd l (i : Int) = l[i] := by
      show l.getD ((i : Int)).toNat 0 = _
      rw [Int.toNat_natCast, List.getD_eq_getElem?_getD, List.getElem?_eq_getElem hil]; rfl
    have hx := h l[i] (List.getElem_mem _)
    rw [List.drop_eq_getElem_cons hil, List.map_cons]
    have := ih (acc ++ [(N : Int) - 1 - l[i]]) (i + 1) (by omega) (by rw [List.length_append]; simp; omega)
    rw [List.append_assoc, List.singleton_append] at this
    refine Ev.step (fun k => ?_) this
    rw [rs_lostOf.l0, if_pos (by omega), if_pos (by omega), if_pos (by omega), e, if_neg (by omega), if_neg (by omega), if_pos (by omega), w64 (n := (N : Int) - 1) (by omega) (by omega), w64 (by omega) (by omega), w64 (n := (i : Int) + 1) (by omega) (by omega)]
    rfl
theorem lost_ev (l : List Int) (N p : Nat) (hN : N ≤ 1000) (hl : l.length ≤ 1000) (h : ∀ x ∈ l, 0 ≤ x ∧ x < (N : Int)) :
    ∃ K : List Nat, K.Nodup ∧ (∀ j ∈ K, j < N) ∧ (∀ i : Nat, i < N → (N - 1 - i ∈ K ↔ (i : Int) ∈ l)) ∧ Ev (fun k => rs_lostOf.f k l (N : Int) (p : Int)) (NL K, decide (K.length ≤ p)) := by
  have h1 := lost_good l N p hN hl h l.length [] 0 (by omega) (by simp)
  rw [List.nil_append, List.drop_zero] at h1
  obtain ⟨c1, c2⟩ := compact_sort (l.map fun x => (N : Int) - 1 - x)
  generalize Lib.compact ((l.map fun x => (N : Int) - 1 - x).mergeSort fun x y => decide (x ≤ y)) = z at h1 c1 c2
  have hz : ∀ x ∈ z, 0 ≤ x ∧ x < (N : Int) := fun x hx => by
    obtain ⟨y, hy, rfl⟩ := List.mem_map.mp ((c2 x).mp hx)
    have := h y hy
    omega
  have e : NL (z.map Int.toNat) = z := by
    unfold NL
    rw [List.map_map]
    conv => rhs; rw [← List.map_id z]
    apply List.map_congr_left
    intro x hx
    have := hz x hx
    show ((x.toNat : Nat) : Int) = x
    omega
  refine ⟨z.map Int.toNat, ?_, ?_, ?_, ?_⟩
  · rw [List.nodup_iff_pairwise_ne, List.pairwise_map]
    refine List.Pairwise.imp_of_mem ?_ c1
    intro a b ha hb hab q
    have := hz a ha
    have := hz b hb
    omega
  · intro j hj
    obtain ⟨x, hx, rfl⟩ := List.mem_map.mp hj
    have := hz x hx
    omega
  · intro i hi
    constructor
    · intro hj
      obtain ⟨x, hx, q⟩ := List.mem_map.mp hj
      have hx' := hz x hx
      obtain ⟨y, hy, rfl⟩ := List.mem_map.mp ((c2 x).mp hx)
      have : (i : Int) = y := by omega
      rw [this]; exact hy
    · intro hy
      refine List.mem_map.mpr ⟨(N : Int) - 1 - i, (c2 _).mpr (List.mem_map.mpr ⟨(i : Int), hy, rfl⟩), by omega⟩
  · rw [e, List.length_map]
    have hd : decide (z.length ≤ p) = decide ((z.length : Int) ≤ (p : Int)) := by
      by_cases c : z.length ≤ p
      · rw [decide_eq_true c, decide_eq_true (by omega)]
      · rw [decide_eq_false c, decide_eq_false (by omega)]
    rw [hd]
    exact h1

/-! ### the walk over the places that are wrong -/
def fin (y : List E) (c : Int) (p : Nat) : ByteArray × Int × Int := if May y.length p ∧ Ok (ofE y) p then (ofE y, c, 0) else (⟨#[]⟩, 0, 280)
end Go.Proofs.Ytpleeckbakllpaa.Gf
