/- Two right words of one length that differ at few places are the same; no condition. -/
import Derived.Test.YtpleeckbakllpaaGfH
namespace Go.Proofs.Ytpleeckbakllpaa.Gf
open Go.RowKit Go.Proofs.YtpleeckbakllpaaX.PrintWords Go.Proofs.YtpleeckbakllpaaX.PrintLast Go.Proofs.YtpleeckbakllpaaX.PrintMore Go.Proofs.Ytpleeckbakllpaa.XWv
set_option linter.unusedSimpArgs false
set_option linter.unusedVariables false

theorem pw_swap (i k : Nat) : pw (X i) k = pw (X k) i := by
  show pw (pw 2 i) k = pw (pw 2 k) i
  rw [← pw_mul, ← pw_mul, Nat.mul_comm]
theorem ev_sy (i : Nat) (l : List E) : ∀ (k : Nat) (e : Nat → E), (∀ j, j < l.length → e (k + j) = l.getD j 0) → pw (X i) k * ev l (X i) = sy e (List.range' k l.length) i := by
  induction l with
  | nil => intro k e _; exact mul_zero _
  | cons a t ih =>
    intro k e h
    have h0 : e k = a := h 0 (by simp)
    have := ih (k + 1) e (fun j hj => by
      have := h (j + 1) (by simp; omega)
      rw [show k + (j + 1) = k + 1 + j by omega] at this
      rw [this]
      rfl)
    rw [List.length_cons, List.range'_succ]
    show _ = e k * pw (X k) i + sy e (List.range' (k + 1) t.length) i
    rw [← this, h0, ev_cons, mul_add, pw_swap i k]
    congr 1
    · exact mul_comm _ _
    · show _ = X i * pw (X i) k * _
      rw [pw_swap i k]
      simp only [mul_assoc, mul_comm, mul_left_comm]
theorem sg_sy (s : ByteArray) (i : Nat) : sg s i = sy (fun j => (wd s).getD j 0) (List.range s.size) i := by
  have := ev_sy i (wd s) 0 (fun j => (wd s).getD j 0) (fun j _ => by rw [Nat.zero_add])
  rw [wd_length, ← List.range_eq_range'] at this
  rw [← this]
  exact (one_mul _).symm
theorem sy_add (e f : Nat → E) (Z : List Nat) (i : Nat) : sy (fun j => e j + f j) Z i = sy e Z i + sy f Z i := by
  induction Z with
  | nil => exact (add_zero 0).symm
  | cons j Z ih =>
    show (e j + f j) * pw (X j) i + sy (fun j => e j + f j) Z i = e j * pw (X j) i + sy e Z i + (f j * pw (X j) i + sy f Z i)
    rw [ih, add_mul]
    simp only [add_assoc, add_comm, add_left_comm]
theorem sy_perm (e : Nat → E) (i : Nat) {Z W : List Nat} (h : Z.Perm W) : sy e Z i = sy e W i := by
  induction h with
  | nil => rfl
  | cons j _ ih => show e j * pw (X j) i + _ = e j * pw (X j) i + _; rw [ih]
  | swap j k l => show e k * pw (X k) i + (e j * pw (X j) i + sy e l i) = e j * pw (X j) i + (e k * pw (X k) i + sy e l i); rw [add_left_comm]
  | trans _ _ h1 h2 => rw [h1, h2]
theorem sy_filter (e : Nat → E) (i : Nat) (P : Nat → Bool) (Z : List Nat) (h : ∀ j ∈ Z, P j = false → e j = 0) : sy e (Z.filter P) i = sy e Z i := by
  induction Z with
  | nil => rfl
  | cons j Z ih =>
    have ih := ih fun k hk => h k (by simp [hk])
    by_cases c : P j = true
    · rw [List.filter_cons_of_pos c]
      show e j * pw (X j) i + _ = e j * pw (X j) i + _
      rw [ih]
    · rw [List.filter_cons_of_neg c, ih]
      show sy e Z i = e j * pw (X j) i + sy e Z i
      rw [h j (by simp) (by simpa using c), zero_mul, zero_add]
theorem nodup_filter {Z : List Nat} (P : Nat → Bool) (h : Z.Nodup) : (Z.filter P).Nodup := List.Pairwise.filter P h
theorem sy_on (e : Nat → E) (i N : Nat) (Z : List Nat) (hn : Z.Nodup) (hZ : ∀ j ∈ Z, j < N) (h : ∀ j, j < N → j ∉ Z → e j = 0) : sy e Z i = sy e (List.range N) i := by
  rw [← sy_filter e i (fun j => decide (j ∈ Z)) (List.range N) (fun j hj hp => h j (List.mem_range.mp hj) (by simpa using hp))]
  apply sy_perm
  rw [List.perm_ext_iff_of_nodup hn (nodup_filter _ List.nodup_range)]
  intro j
  rw [List.mem_filter, List.mem_range]
  constructor
  · intro hj; exact ⟨hZ j hj, by simpa using hj⟩
  · intro hj; simpa using hj.2
/-- By how much two words differ at a place from the end. -/
def er (s t : ByteArray) (j : Nat) : E := (wd s).getD j 0 + (wd t).getD j 0
theorem sg_er (s t : ByteArray) (h : s.size = t.size) (i : Nat) : sg s i + sg t i = sy (er s t) (List.range s.size) i := by
  rw [sg_sy, sg_sy, ← h, ← sy_add]
  rfl
theorem er_eq {s t : ByteArray} (h : s.size = t.size) (k : ∀ j, j < s.size → er s t j = 0) : s = t := by
  have : wd s = wd t := by
    apply ext_getD (by rw [wd_length, wd_length, h])
    intro j hj
    exact eq_of_add (k j (by rw [wd_length] at hj; exact hj))
  unfold wd at this
  exact toE_inj (List.reverse_inj.mp this)
theorem words_far {s t : ByteArray} {p : Nat} (h : s.size = t.size) (hN : s.size ≤ 255) (hp : p ≤ 127) (hs : Ok s p) (ht : Ok t p) (Z : List Nat) (hn : Z.Nodup) (hZ : ∀ j ∈ Z, j < s.size) (hl : Z.length ≤ p)
    (ho : ∀ j, j < s.size → j ∉ Z → er s t j = 0) : s = t := by
  apply er_eq h
  intro j hj
  by_cases c : j ∈ Z
  · refine far hn (fun i hi => by have := hZ i hi; omega) hl hp (fun i hi => ?_) j c
    rw [sy_on (er s t) i s.size Z hn hZ ho, ← sg_er s t h, hs i hi, ht i hi, add_zero]
  · exact ho j hj c
theorem wd_getD (s : ByteArray) (j : Nat) (h : j < s.size) : (wd s).getD j 0 = (toE s).getD (s.size - 1 - j) 0 := by
  unfold wd
  rw [getD_reverse _ _ (by rw [toE_length]; exact h), toE_length]
end Go.Proofs.Ytpleeckbakllpaa.Gf
