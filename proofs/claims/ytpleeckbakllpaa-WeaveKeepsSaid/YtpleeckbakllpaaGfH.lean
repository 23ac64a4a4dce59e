/- What encoding comes to: a right word that begins with its text; and the first test of the statements; no condition. -/
import Derived.Test.YtpleeckbakllpaaXWvx3
import Derived.Test.YtpleeckbakllpaaXWvx4
import Derived.Test.YtpleeckbakllpaaXWvx5
import Derived.Test.YtpleeckbakllpaaXWvx7
import Derived.Test.YtpleeckbakllpaaXWvx9
import Derived.Test.YtpleeckbakllpaaGfG
namespace Go.Proofs.Ytpleeckbakllpaa.Gf
open Go.RowKit Go.Proofs.YtpleeckbakllpaaX.PrintWords Go.Proofs.YtpleeckbakllpaaX.PrintLast Go.Proofs.YtpleeckbakllpaaX.PrintMore Go.Proofs.Ytpleeckbakllpaa.XWv
set_option linter.unusedSimpArgs false
set_option linter.unusedVariables false

theorem divisor_loop (n : Nat) (hn : n ≤ 32) (r : Nat) : ∀ (D : List E) (i : Nat), i + r = n → Tr D → Ld i 1 (ev D) → D.length ≤ 100 → (∀ j, j < i → ev D (X j) = 0) →
    ∃ G : List E, Ev (fun k => rs_divisor.l0 k (IL D) (n : Int) (i : Int)) (IL G) ∧ Tr G ∧ G.length = n + 1 ∧ ∀ j, j < n → ev G (X j) = 0 := by
  induction r with
  | zero =>
    intro D i hi tD lD hl h
    refine ⟨D, Ev.step (f := fun _ => some (IL D)) (fun k => ?_) (Ev.now _), tD, ?_, fun j hj => h j (by omega)⟩
    · rw [rs_divisor.l0, if_neg (by omega)]
    · rw [show n = i by omega]; exact tD.len (by omega) one_ne (by omega) lD
  | succ r ih =>
    intro D i hi tD lD hl h
    have hD : D.length = i + 1 := tD.len (by omega) one_ne (by omega) lD
    obtain ⟨z, z1, z2, z3, z4⟩ := pmul_ev D [X i, 1] (by omega) (by simp)
    have e : ∀ x, ev [X i, 1] x = X i + 1 * (x * 1) := fun x => by
      show X i + x * (1 + x * 0) = _
      rw [mul_zero, add_zero, one_mul]
    have l1 : Ld 1 1 (ev [X i, 1]) := ⟨fun _ => X i, Po.con _, e⟩
    have l2 := lD.mul l1
    rw [mul_one] at l2
    have l2 : Ld (i + 1) 1 (ev z) := by obtain ⟨g, pg, eg⟩ := l2; exact ⟨g, pg, fun x => (z4 x).trans (eg x)⟩
    obtain ⟨G, g1, g2⟩ := ih z (i + 1) (by omega) z2 l2 (by simp at z3; omega) (fun j hj => by
      rw [z4, e]
      by_cases c : j = i
      · subst c; rw [one_mul, mul_one, add_self, mul_zero]
      · rw [h j (by omega), zero_mul])
    refine ⟨G, ?_, g2⟩
    refine Ev.step (f := fun k => (gf_Root.f k (i : Int)).bind fun t => (gf_Poly_Mul.f k (IL D) ([t, 1] : List Int)).bind fun u => rs_divisor.l0 k u (n : Int) ((i + 1 : Nat) : Int)) (fun k => ?_) (Ev.bind (root_ev i (by omega)) (Ev.bind z1 g1))
    rw [rs_divisor.l0, if_pos (by omega), w64 (by omega) (by omega)]
    rfl
theorem divisor_ev (n : Nat) (hn : n ≤ 32) : ∃ G : List E, Ev (fun k => rs_divisor.f k (n : Int)) (IL G) ∧ Tr G ∧ G.length = n + 1 ∧ ∀ j, j < n → ev G (X j) = 0 := by
  refine divisor_loop n hn n [1] 0 (by omega) tr_one ⟨fun _ => 0, Po.zero 0, fun x => ?_⟩ (by simp) (fun j hj => by omega)
  show 1 + x * 0 = 0 + 1 * 1
  rw [mul_zero, add_zero, mul_one, zero_add]

theorem getD_reverse (l : List E) (i : Nat) (h : i < l.length) : l.reverse.getD i 0 = l.getD (l.length - 1 - i) 0 := by
  rw [List.getD_eq_getElem?_getD, List.getD_eq_getElem?_getD, List.getElem?_reverse h]
theorem getD_pad (l : List E) (n j : Nat) : (pad l n).getD j 0 = l.getD j 0 := by
  unfold pad
  rw [List.getD_eq_getElem?_getD, List.getD_eq_getElem?_getD, List.getElem?_append]
  by_cases c : j < l.length
  · rw [if_pos c]
  · rw [if_neg c, List.getElem?_eq_none (by omega : l.length ≤ j), List.getElem?_replicate]
    split <;> rfl
theorem toE_append (s t : ByteArray) : toE (s ++ t) = toE s ++ toE t := by
  unfold toE
  simp
theorem enc_loop (s : ByteArray) (n : Nat) (Z : List E) (hZ : Z.length ≤ n) (hn : n ≤ 32) (hs : s.size < 1000) (r : Nat) : ∀ (y : List E) (i : Nat), i + r = Z.length → y.length = n → (∀ j, j < n → y.getD (n - 1 - j) 0 = if j < i then Z.getD j 0 else 0) →
    Ev (fun k => rs_Encode.l0 k s (n : Int) (IL y) (IL Z) (Z.length : Int) (i : Int)) (s ++ ofE (pad Z n).reverse, 0) := by
  induction r with
  | zero =>
    intro y i hi hy h
    have hp : (pad Z n).length = n := by unfold pad; rw [List.length_append, List.length_replicate]; omega
    have e : y = (pad Z n).reverse := by
      apply ext_getD (by rw [List.length_reverse, hp, hy])
      intro j hj
      rw [getD_reverse _ _ (by omega), getD_pad, hp]
      have := h (n - 1 - j) (by omega)
      rw [show n - 1 - (n - 1 - j) = j by omega] at this
      rw [this]
      by_cases c : n - 1 - j < i
      · rw [if_pos c]
      · rw [if_neg c, List.getD_eq_getElem?_getD, List.getElem?_eq_none (by omega)]; rfl
    refine Ev.step (f := fun _ => some (s ++ ofE (pad Z n).reverse, 0)) (fun k => ?_) (Ev.now _)
    have hsz : (strOfNums (IL y)).size = n := by
      show (ofE y).size = n
      rw [← toE_length, toE_ofE, hy]
    rw [rs_Encode.l0, if_neg (by omega), if_pos (by rw [hsz]; omega), e]
    rfl
  | succ r ih =>
    intro y i hi hy h
    have e : wrap64 ((wrap64 ((n : Int) - 1)) - (i : Int)) = ((n - 1 - i : Nat) : Int) := by rw [w64 (n := (n : Int) - 1) (by omega) (by omega), w64 (by omega) (by omega)]; omega
    refine Ev.step (fun k => ?_) (ih (y.set (n - 1 - i) (Z.getD i 0)) (i + 1) (by omega) (by rw [List.length_set, hy]) ?_)
    · rw [rs_Encode.l0, if_pos (by omega), if_pos (by omega), if_pos (by rw [IL_length]; omega), e, if_pos (by omega), if_pos (by rw [IL_length]; omega), rd_IL, Int.toNat_natCast, ← IL_set, w64 (by omega) (by omega)]
      rfl
    · intro j hj
      rw [getD_set _ _ _ _ (by omega)]
      by_cases c : j = i
      · rw [if_pos (by omega), if_pos (by omega), c]
      · rw [if_neg (by omega), h j hj]
        by_cases d : j < i
        · rw [if_pos d, if_pos (by omega)]
        · rw [if_neg d, if_neg (by omega)]
theorem encode_ev (s : ByteArray) (n : Nat) (h : May (s.size + n) n) :
    ∃ t : List E, t.length = n ∧ Ok (s ++ ofE t) n ∧ Ev (fun k => rs_Encode.f k s (n : Int)) (s ++ ofE t, 0) := by
  have h' := h
  obtain ⟨h1, h2, h3, h4⟩ := h'
  obtain ⟨D, d1, d2, d3, d4⟩ := divisor_ev n h2
  have l0 : (List.replicate n 0 ++ wd s).length = n + s.size := by rw [List.length_append, List.length_replicate, wd_length]
  have l1 := trim_le (List.replicate n 0 ++ wd s)
  obtain ⟨Z, z1, z2, z3, z4⟩ := mod_ev (trim (List.replicate n 0 ++ wd s)) D d2 d3 (by omega) (by omega)
  refine ⟨(pad Z n).reverse, ?_, ?_, ?_⟩
  · rw [List.length_reverse]; unfold pad; rw [List.length_append, List.length_replicate]; omega
  · intro i hi
    show ev (wd (s ++ ofE (pad Z n).reverse)) (X i) = 0
    have hp : (pad Z n).length = n := by unfold pad; rw [List.length_append, List.length_replicate]; omega
    unfold wd
    rw [toE_append, toE_ofE, List.reverse_append, List.reverse_reverse, ev_append, pad_ev, hp, z4 _ (d4 i hi), trim_ev, ev_append, ev_zs (zs_replicate _), zero_add, List.length_replicate]
    exact add_self _
  · have hc : rs_Check.f (wrap64 ((s.size : Int) + (n : Int))) (n : Int) = some true := by
      rw [w64 (by omega) (by omega), show (s.size : Int) + (n : Int) = ((s.size + n : Nat) : Int) by omega, check_eq, decide_eq_true h]
    refine Ev.congr (f := fun k => (gf_Poly_Shift.f k (IL (wd s)) (n : Int)).bind fun t => (rs_divisor.f k (n : Int)).bind fun u => (gf_Poly_Mod.f k t u).bind fun v => rs_Encode.l0 k s (n : Int) (List.replicate n 0) v (v.length : Int) 0) (fun k => ?_)
      (Ev.bind (shift_ev (wd s) n (by rw [wd_length]; omega)) (Ev.bind d1 (Ev.bind z1 ?_)))
    · unfold rs_Encode.f
      rw [hc, Option.bind_some, if_pos rfl, turned_eq s (by omega), Option.bind_some]
      congr 1
      funext t
      congr 1
      funext u
      congr 1
      funext v
      rw [if_pos (by omega), Int.toNat_natCast, if_pos (by omega)]
    · rw [IL_length, ← IL_zeros]
      refine enc_loop s n Z z3 h2 (by omega) Z.length (List.replicate n 0) 0 (by omega) (by rw [List.length_replicate]) ?_
      intro j hj
      rw [if_neg (by omega), List.getD_eq_getElem?_getD, List.getElem?_replicate]
      split <;> rfl
end Go.Proofs.Ytpleeckbakllpaa.Gf
