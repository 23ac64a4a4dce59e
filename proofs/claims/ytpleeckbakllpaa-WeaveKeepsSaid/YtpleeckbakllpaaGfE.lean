/- What the program's sums, products and rests of polynomials compute; no condition. -/
import Derived.Test.YtpleeckbakllpaaXWvx3
import Derived.Test.YtpleeckbakllpaaXWvx4
import Derived.Test.YtpleeckbakllpaaXWvx5
import Derived.Test.YtpleeckbakllpaaGfD
namespace Go.Proofs.Ytpleeckbakllpaa.Gf
open Go.RowKit Go.Proofs.YtpleeckbakllpaaX.PrintWords Go.Proofs.YtpleeckbakllpaaX.PrintLast Go.Proofs.YtpleeckbakllpaaX.PrintMore Go.Proofs.Ytpleeckbakllpaa.XWv
set_option linter.unusedSimpArgs false
set_option linter.unusedVariables false

theorem getD_set (l : List E) (i j : Nat) (a : E) (h : i < l.length) : (l.set i a).getD j 0 = if i = j then a else l.getD j 0 := by
  rw [List.getD_eq_getElem?_getD, List.getD_eq_getElem?_getD, List.getElem?_set]
  by_cases c : i = j
  · rw [if_pos c, if_pos c, if_pos h]; rfl
  · rw [if_neg c, if_neg c]
theorem getD_map (l : List E) (f : E → E) (hf : f 0 = 0) (j : Nat) : (l.map f).getD j 0 = f (l.getD j 0) := by
  rw [List.getD_eq_getElem?_getD, List.getD_eq_getElem?_getD, List.getElem?_map]
  cases l[j]? with
  | none => exact hf.symm
  | some a => rfl
theorem ext_getD {p q : List E} (h : p.length = q.length) (k : ∀ j, j < p.length → p.getD j 0 = q.getD j 0) : p = q := by
  apply List.ext_getElem h
  intro j h1 h2
  have := k j h1
  rwa [List.getD_eq_getElem?_getD, List.getD_eq_getElem?_getD, List.getElem?_eq_getElem h1, List.getElem?_eq_getElem h2] at this

theorem times_loop (a : E) (l : List E) (hl : l.length < 1000000) (r : Nat) : ∀ (y : List E) (i : Nat), i + r = l.length → y.length = l.length → (∀ j, j < i → y.getD j 0 = a * l.getD j 0) →
    Ev (fun k => gf_Poly_Times.l0 k (I a) (IL y) (IL l) (l.length : Int) (i : Int)) (IL (trim (l.map (a * ·)))) := by
  induction r with
  | zero =>
    intro y i hi hy h
    have e : y = l.map (a * ·) := by
      apply ext_getD (by rw [List.length_map, hy])
      intro j hj
      rw [getD_map _ _ (mul_zero a), h j (by omega)]
    subst e
    refine Ev.step (f := fun k => (gf_Poly_Trim.f k (IL (l.map (a * ·)))).bind fun t => some t) (fun k => ?_) (Ev.bind (trim_ev' _ (by rw [List.length_map]; exact hl)) (Ev.now _))
    rw [gf_Poly_Times.l0, if_neg (by omega)]
  | succ r ih =>
    intro y i hi hy h
    refine Ev.step (f := fun k => (gf_Mul.f k (I a) (I (l.getD i 0))).bind fun t => gf_Poly_Times.l0 k (I a) ((IL y).set i t) (IL l) (l.length : Int) ((i + 1 : Nat) : Int)) (fun k => ?_) (Ev.bind (mul_ev a _) ?_)
    · rw [gf_Poly_Times.l0, if_pos (by omega), if_pos (by omega), if_pos (by rw [IL_length]; omega), rd_IL]
      congr 1
      funext t
      rw [if_pos (by rw [IL_length]; omega), Int.toNat_natCast, w64 (by omega) (by omega)]
      rfl
    · rw [← IL_set]
      refine ih _ (i + 1) (by omega) (by rw [List.length_set, hy]) ?_
      intro j hj
      rw [getD_set _ _ _ _ (by omega)]
      by_cases c : i = j
      · rw [if_pos c, c]
      · rw [if_neg c]; exact h j (by omega)
theorem times_ev (a : E) (l : List E) (hl : l.length < 1000000) : Ev (fun k => gf_Poly_Times.f k (IL l) (I a)) (IL (trim (l.map (a * ·)))) := by
  have := times_loop a l hl l.length (List.replicate l.length 0) 0 (by omega) (by rw [List.length_replicate]) (by intro j h; omega)
  refine Ev.congr (fun k => ?_) this
  unfold gf_Poly_Times.f
  rw [IL_length, if_pos (by omega), Int.toNat_natCast, if_pos (by omega), IL_zeros]
  rfl

/-- A list as long as this one, noughts behind. -/
def pad (l : List E) (n : Nat) : List E := l ++ List.replicate (n - l.length) 0
theorem pad_ev (l : List E) (n : Nat) (x : E) : ev (pad l n) x = ev l x := by
  unfold pad
  rw [ev_append, ev_zs (zs_replicate _), mul_zero, add_zero]
theorem add_loop (q : List E) (hq : q.length < 1000000) (r : Nat) : ∀ (y : List E) (i : Nat), i + r = q.length → q.length ≤ y.length → y.length < 1000000 →
    ∃ z : List E, Ev (fun k => gf_Poly_Add.l0 k (IL y) (IL q) (q.length : Int) (i : Int)) (IL z) ∧ Tr z ∧ z.length ≤ y.length ∧ ∀ x, ev z x = ev y x + pw x i * ev (q.drop i) x := by
  induction r with
  | zero =>
    intro y i hi hy h
    refine ⟨trim y, ?_, trim_tr y, trim_le y, fun x => ?_⟩
    · refine Ev.step (f := fun k => (gf_Poly_Trim.f k (IL y)).bind fun t => some t) (fun k => ?_) (Ev.bind (trim_ev' _ h) (Ev.now _))
      rw [gf_Poly_Add.l0, if_neg (by omega)]
    · rw [trim_ev, List.drop_eq_nil_of_le (by omega), ev_nil, mul_zero, add_zero]
  | succ r ih =>
    intro y i hi hy h
    obtain ⟨z, h1, h2, h3, h4⟩ := ih (y.set i (y.getD i 0 + q.getD i 0)) (i + 1) (by omega) (by rw [List.length_set]; exact hy) (by rw [List.length_set]; exact h)
    refine ⟨z, ?_, h2, by rw [List.length_set] at h3; exact h3, fun x => ?_⟩
    · refine Ev.step (fun k => ?_) h1
      rw [gf_Poly_Add.l0, if_pos (by omega), if_pos (by omega), if_pos (by rw [IL_length]; omega), if_pos (by rw [IL_length]; omega), rd_IL, rd_IL, I_xor, Int.toNat_natCast, ← IL_set, w64 (by omega) (by omega)]
      rfl
    · rw [h4, ev_set _ _ _ _ (by omega), drop_ev q i (by omega), mul_add, add_assoc]
      congr 2
      · exact mul_comm _ _
      · show x * pw x i * _ = _
        simp only [mul_assoc, mul_comm, mul_left_comm]
theorem add_ev (p q : List E) (hp : p.length < 1000000) (hq : q.length < 1000000) :
    ∃ z : List E, Ev (fun k => gf_Poly_Add.f k (IL p) (IL q)) (IL z) ∧ Tr z ∧ z.length ≤ max p.length q.length ∧ ∀ x, ev z x = ev p x + ev q x := by
  have hl : (pad p (max p.length q.length)).length = max p.length q.length := by unfold pad; rw [List.length_append, List.length_replicate]; omega
  obtain ⟨z, h1, h2, h3, h4⟩ := add_loop q hq q.length (pad p (max p.length q.length)) 0 (by omega) (by omega) (by omega)
  refine ⟨z, ?_, h2, by omega, fun x => ?_⟩
  · refine Ev.congr (fun k => ?_) h1
    have e : mx ((IL p).length : Int) ((IL q).length : Int) = ((max p.length q.length : Nat) : Int) := by rw [IL_length, IL_length]; unfold mx; split <;> omega
    unfold gf_Poly_Add.f
    rw [e, if_pos (by omega), Int.toNat_natCast, if_pos (by omega), Option.bind_some]
    congr 1
    · rw [List.length_replicate, IL_length, show min p.length (max p.length q.length) = p.length by omega]
      unfold pad
      rw [IL_append, IL_zeros, List.drop_replicate]
      congr 1
      rw [← IL_length p, List.take_length]
    · rw [IL_length]
  · rw [h4, pad_ev, List.drop_zero]
    show _ + 1 * _ = _
    rw [one_mul]

/-! ### the product of two -/
theorem pm_in (q : List E) (hq : q.length < 1000000) (P : List Int) (n : Int) (i : Nat) (a : E) (N : Nat) (r : Nat) :
    ∀ (y : List E) (j : Nat), j + r = q.length → y.length = N → i + q.length ≤ N → N < 1000000 →
    ∃ y' : List E, y'.length = N ∧ (∀ x, ev y' x = ev y x + pw x i * (pw x j * (a * ev (q.drop j) x))) ∧
      ∀ R, Ev (fun k => gf_Poly_Mul.l0 k (IL q) (IL y') P n (wrap64 ((i : Int) + 1))) R → Ev (fun k => gf_Poly_Mul.l1 k (IL q) (IL y) (i : Int) (I a) P n (i : Int) (IL q) (q.length : Int) (j : Int)) R := by
  induction r with
  | zero =>
    intro y j hj hy hN hN'
    refine ⟨y, hy, fun x => ?_, fun R h => Ev.step (fun k => ?_) h⟩
    · rw [List.drop_eq_nil_of_le (by omega), ev_nil, mul_zero, mul_zero, mul_zero, add_zero]
    · rw [gf_Poly_Mul.l1, if_neg (by omega)]
  | succ r ih =>
    intro y j hj hy hN hN'
    have e : wrap64 ((i : Int) + (j : Int)) = ((i + j : Nat) : Int) := by rw [w64 (by omega) (by omega)]; omega
    obtain ⟨y', h1, h2, h3⟩ := ih (y.set (i + j) (y.getD (i + j) 0 + a * q.getD j 0)) (j + 1) (by omega) (by rw [List.length_set]; exact hy) hN hN'
    refine ⟨y', h1, fun x => ?_, fun R h => ?_⟩
    · rw [h2, ev_set _ _ _ _ (by omega), drop_ev q j (by omega), pw_add]
      show _ + pw x i * (x * pw x j * (a * ev (q.drop (j + 1)) x)) = _
      simp only [mul_add, add_mul, mul_assoc, mul_comm, mul_left_comm, add_assoc, add_comm, add_left_comm]
    · refine Ev.step (f := fun k => (gf_Mul.f k (I a) (I (q.getD j 0))).bind fun t => gf_Poly_Mul.l1 k (IL q) ((IL y).set (i + j) (Go.bits .xor .u8 (I (y.getD (i + j) 0)) t)) (i : Int) (I a) P n (i : Int) (IL q) (q.length : Int) ((j + 1 : Nat) : Int)) (fun k => ?_) (Ev.bind (mul_ev a _) ?_)
      · rw [gf_Poly_Mul.l1, if_pos (by omega), if_pos (by omega), if_pos (by rw [IL_length]; omega), e, if_pos (by omega), if_pos (by rw [IL_length]; omega), rd_IL, rd_IL, Int.toNat_natCast, w64 (n := (j : Int) + 1) (by omega) (by omega)]
        rfl
      · rw [I_xor, ← IL_set]
        exact h3 R h
theorem pm_out (p q : List E) (hp : p.length < 400000) (hq : q.length < 400000) (r : Nat) : ∀ (y : List E) (i : Nat), i + r = p.length → y.length = p.length + q.length →
    ∃ z : List E, Ev (fun k => gf_Poly_Mul.l0 k (IL q) (IL y) (IL p) (p.length : Int) (i : Int)) (IL z) ∧ Tr z ∧ z.length ≤ p.length + q.length ∧ ∀ x, ev z x = ev y x + pw x i * (ev (p.drop i) x * ev q x) := by
  induction r with
  | zero =>
    intro y i hi hy
    refine ⟨trim y, ?_, trim_tr y, by have := trim_le y; omega, fun x => ?_⟩
    · refine Ev.step (f := fun k => (gf_Poly_Trim.f k (IL y)).bind fun t => some t) (fun k => ?_) (Ev.bind (trim_ev' _ (by omega)) (Ev.now _))
      rw [gf_Poly_Mul.l0, if_neg (by omega)]
    · rw [trim_ev, List.drop_eq_nil_of_le (by omega), ev_nil, zero_mul, mul_zero, add_zero]
  | succ r ih =>
    intro y i hi hy
    obtain ⟨y', h1, h2, h3⟩ := pm_in q (by omega) (IL p) (p.length : Int) i (p.getD i 0) (p.length + q.length) q.length y 0 (by omega) hy (by omega) (by omega)
    obtain ⟨z, g1, g2, g3, g4⟩ := ih y' (i + 1) (by omega) h1
    refine ⟨z, ?_, g2, g3, fun x => ?_⟩
    · refine Ev.step (fun k => ?_) (h3 (IL z) ?_)
      · rw [gf_Poly_Mul.l0, if_pos (by omega), if_pos (by omega), if_pos (by rw [IL_length]; omega), rd_IL, IL_length]
        rfl
      · rw [w64 (by omega) (by omega)]; exact g1
    · rw [g4, h2, drop_ev p i (by omega), List.drop_zero]
      show _ + pw x i * (1 * _) + x * pw x i * _ = _
      rw [one_mul]
      simp only [mul_add, add_mul, mul_assoc, mul_comm, mul_left_comm, add_assoc, add_comm, add_left_comm]
theorem pmul_ev (p q : List E) (hp : p.length < 400000) (hq : q.length < 400000) :
    ∃ z : List E, Ev (fun k => gf_Poly_Mul.f k (IL p) (IL q)) (IL z) ∧ Tr z ∧ z.length ≤ p.length + q.length ∧ ∀ x, ev z x = ev p x * ev q x := by
  obtain ⟨z, g1, g2, g3, g4⟩ := pm_out p q hp hq p.length (List.replicate (p.length + q.length) 0) 0 (by omega) (by rw [List.length_replicate])
  refine ⟨z, ?_, g2, g3, fun x => ?_⟩
  · refine Ev.congr (fun k => ?_) g1
    have e : wrap64 ((p.length : Int) + (q.length : Int)) = ((p.length + q.length : Nat) : Int) := by rw [w64 (by omega) (by omega)]; omega
    unfold gf_Poly_Mul.f
    rw [IL_length, IL_length, e, if_pos (by omega), Int.toNat_natCast, if_pos (by omega), IL_zeros]
    rfl
  · rw [g4, ev_zs (zs_replicate _), zero_add, List.drop_zero]
    exact one_mul _

/-! ### one step of dividing -/
/-- x and y, to which a multiple of b is added, so that the greatest power of x goes. -/
theorem red_step {x b : List E} {n m : Nat} (hx : Tr x) (hb : Tr b) (nx : x.length = n + 1) (nb : b.length = m + 1) (hnm : m ≤ n) (hn : n < 255) {z : List E} (hz : Tr z) (hl : z.length ≤ n + 1)
    (e : ∀ t, ev z t = ev x t + x.getD n 0 * inv (b.getD m 0) * (pw t (n - m) * ev b t)) : z.length ≤ n := by
  obtain ⟨gx, px, ex⟩ := hx.ld nx
  obtain ⟨gb, pb, eb⟩ := hb.ld nb
  refine hz.le (by omega) ((px.add (((pb.shift (n - m)).scale (x.getD n 0 * inv (b.getD m 0))).mono (by omega))).congr fun t => ?_)
  rw [e, ex, eb, mul_add (pw t (n - m)), mul_add]
  have q : x.getD n 0 * inv (b.getD m 0) * (pw t (n - m) * (b.getD m 0 * pw t m)) = x.getD n 0 * pw t n := by
    rw [show pw t (n - m) * (b.getD m 0 * pw t m) = b.getD m 0 * pw t n by rw [mul_left_comm, ← pw_add, show n - m + m = n by omega], mul_assoc, ← mul_assoc (inv _), inv_mul (hb m nb), one_mul]
  rw [q]
  simp only [add_assoc, add_comm, add_left_comm, add_self, add_self_left, add_zero, zero_add]

theorem mod_loop {q : List E} (hq : Tr q) {m : Nat} (nq : q.length = m + 1) (hm : m < 100) (N : Nat) : ∀ x : List E, x.length ≤ N → N ≤ 255 → Tr x →
    ∃ z : List E, Ev (fun k => gf_Poly_Mod.l0 k (IL q) (IL x) (I (inv (q.getD m 0)))) (IL z) ∧ Tr z ∧ z.length ≤ m ∧ ∀ t, ev q t = 0 → ev z t = ev x t := by
  induction N with
  | zero =>
    intro x hx _ ht
    refine ⟨x, Ev.step (f := fun _ => some (IL x)) (fun k => ?_) (Ev.now _), ht, by omega, fun t _ => rfl⟩
    rw [gf_Poly_Mod.l0, if_neg (by rw [IL_length, IL_length]; omega)]
  | succ N ih =>
    intro x hx hN ht
    by_cases c : x.length ≤ m
    · refine ⟨x, Ev.step (f := fun _ => some (IL x)) (fun k => ?_) (Ev.now _), ht, c, fun t _ => rfl⟩
      rw [gf_Poly_Mod.l0, if_neg (by rw [IL_length, IL_length]; omega)]
    · obtain ⟨n, nx⟩ : ∃ n, x.length = n + 1 := ⟨x.length - 1, by omega⟩
      have l1 := trim_le (q.map (x.getD n 0 * inv (q.getD m 0) * ·))
      rw [List.length_map] at l1
      have l2 := trim_le (List.replicate (n - m) 0 ++ trim (q.map (x.getD n 0 * inv (q.getD m 0) * ·)))
      rw [List.length_append, List.length_replicate] at l2
      obtain ⟨z, h1, h2, h3, h4⟩ := add_ev x (trim (List.replicate (n - m) 0 ++ trim (q.map (x.getD n 0 * inv (q.getD m 0) * ·)))) (by omega) (by omega)
      have h4' : ∀ t, ev z t = ev x t + x.getD n 0 * inv (q.getD m 0) * (pw t (n - m) * ev q t) := fun t => by
        rw [h4, trim_ev, ev_append, ev_zs (zs_replicate _), zero_add, trim_ev, ev_map, List.length_replicate, mul_left_comm]
      have hzn := red_step ht hq nx nq (by omega) (by omega) h2 (by omega) h4'
      obtain ⟨w, g1, g2, g3, g4⟩ := ih z (by omega) (by omega) h2
      refine ⟨w, ?_, g2, g3, fun t h0 => by rw [g4 t h0, h4', h0, mul_zero, mul_zero, add_zero]⟩
      have e1 : wrap64 (((n + 1 : Nat) : Int) - 1) = (n : Int) := by rw [w64 (by omega) (by omega)]; omega
      have e2 : wrap64 (((n + 1 : Nat) : Int) - ((m + 1 : Nat) : Int)) = ((n - m : Nat) : Int) := by rw [w64 (by omega) (by omega)]; omega
      refine Ev.step (f := fun k => (gf_Mul.f k (I (x.getD n 0)) (I (inv (q.getD m 0)))).bind fun t => (gf_Poly_Times.f k (IL q) t).bind fun s => (gf_Poly_Shift.f k s ((n - m : Nat) : Int)).bind fun u => (gf_Poly_Add.f k (IL x) u).bind fun v => gf_Poly_Mod.l0 k (IL q) v (I (inv (q.getD m 0)))) (fun k => ?_)
        (Ev.bind (mul_ev _ _) (Ev.bind (times_ev _ _ (by omega)) (Ev.bind (shift_ev _ _ (by omega)) (Ev.bind h1 g1))))
      rw [gf_Poly_Mod.l0, if_pos (by rw [IL_length, IL_length]; omega), IL_length, IL_length, nx, nq, e1, e2, if_pos (by omega), if_pos (by omega), rd_IL]
theorem mod_ev (p q : List E) (hq : Tr q) {m : Nat} (nq : q.length = m + 1) (hm : m < 100) (hp : p.length ≤ 255) :
    ∃ z : List E, Ev (fun k => gf_Poly_Mod.f k (IL p) (IL q)) (IL z) ∧ Tr z ∧ z.length ≤ m ∧ ∀ t, ev q t = 0 → ev z t = ev p t := by
  have l := trim_le p
  obtain ⟨z, h1, h2, h3, h4⟩ := mod_loop hq nq hm 255 (trim p) (by omega) (by omega) (trim_tr p)
  refine ⟨z, ?_, h2, h3, fun t h => by rw [h4 t h, trim_ev]⟩
  have e1 : wrap64 (((m + 1 : Nat) : Int) - 1) = (m : Int) := by rw [w64 (by omega) (by omega)]; omega
  have ht := trim_ev' q (by omega)
  rw [hq.trim] at ht
  refine Ev.congr (f := fun k => (gf_Poly_Trim.f k (IL q)).bind fun t150 => ((some ([] : List Int)).bind fun y153 => (if y153.length + (IL p).length < 140737488355328 then ((gf_Poly_Trim.f k (y153 ++ IL p)).bind fun t159 => (if (t150.length : Int) = 0 then (some t159) else (if 0 ≤ (wrap64 ((t150.length : Int) - 1)) then (if (wrap64 ((t150.length : Int) - 1)) < (t150.length : Int) then ((gf_Inv.f k (rd t150 (wrap64 ((t150.length : Int) - 1)))).bind fun t163 => (gf_Poly_Mod.l0 k t150 t159 t163)) else (none)) else (none)))) else (none)))) (fun k => rfl) (Ev.bind ht ?_)
  refine Ev.congr (f := fun k => (gf_Poly_Trim.f k (IL p)).bind fun t159 => (gf_Inv.f k (I (q.getD m 0))).bind fun t163 => gf_Poly_Mod.l0 k (IL q) t159 t163) (fun k => ?_) (Ev.bind (trim_ev' p (by omega)) (Ev.bind (inv_ev (hq m nq)) h1))
  rw [Option.bind_some, if_pos (by rw [IL_length]; simp; omega), List.nil_append]
  congr 1
  funext t
  rw [IL_length, nq, if_neg (by omega), e1, if_pos (by omega), if_pos (by omega), rd_IL]
end Go.Proofs.Ytpleeckbakllpaa.Gf
