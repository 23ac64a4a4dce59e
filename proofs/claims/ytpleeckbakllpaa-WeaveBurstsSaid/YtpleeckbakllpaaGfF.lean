/- What the program's division of two polynomials comes to, and the polynomials of places and of roots; no condition. -/
import Derived.Test.YtpleeckbakllpaaXWvx3
import Derived.Test.YtpleeckbakllpaaXWvx4
import Derived.Test.YtpleeckbakllpaaXWvx5
import Derived.Test.YtpleeckbakllpaaXWvx7
import Derived.Test.YtpleeckbakllpaaXWvx8
import Derived.Test.YtpleeckbakllpaaGfE
namespace Go.Proofs.Ytpleeckbakllpaa.Gf
open Go.RowKit Go.Proofs.YtpleeckbakllpaaX.PrintWords Go.Proofs.YtpleeckbakllpaaX.PrintLast Go.Proofs.YtpleeckbakllpaaX.PrintMore Go.Proofs.Ytpleeckbakllpaa.XWv
set_option linter.unusedSimpArgs false
set_option linter.unusedVariables false

theorem ifp {α : Type} {c : Prop} [Decidable c] {A B : Nat → Option α} {r : α} (h : c) (k : Ev A r) : Ev (fun n => if c then A n else B n) r := Ev.congr (fun _ => if_pos h) k
theorem ifn {α : Type} {c : Prop} [Decidable c] {A B : Nat → Option α} {r : α} (h : ¬ c) (k : Ev B r) : Ev (fun n => if c then A n else B n) r := Ev.congr (fun _ => if_neg h) k
/-- What holds between two rounds of dividing. -/
structure Mid (p : Nat) (T : E → E) (a b u v : List E) : Prop where
  ta : Tr a
  tb : Tr b
  tu : Tr u
  tv : Tr v
  la : a.length ≤ p + 1
  lv : v.length + a.length ≤ p + 2
  lu : u.length + b.length ≤ p + 2
  huv : ∀ x, ev v x * ev a x + ev u x * ev b x = pw x p
  hu : ∃ al n, Po n al ∧ n + b.length ≤ p + 2 ∧ ∀ x, ev u x * T x + pw x p * al x = ev a x
  hv : ∃ be n, Po n be ∧ n + a.length ≤ p + 2 ∧ ∀ x, ev v x * T x + pw x p * be x = ev b x

theorem combo (x b : List E) (c : E) (n : Nat) (hx : x.length < 900) (hb : b.length + n < 900) :
    ∃ z : List E, (∀ {β : Type} (F : Nat → List Int → Option β) (R : β), Ev (fun k => F k (IL z)) R → Ev (fun k => (gf_Poly_Times.f k (IL b) (I c)).bind fun s => (gf_Poly_Shift.f k s (n : Int)).bind fun u => (gf_Poly_Add.f k (IL x) u).bind (F k)) R) ∧ Tr z ∧ z.length ≤ max x.length (n + b.length) ∧ ∀ t, ev z t = ev x t + c * (pw t n * ev b t) := by
  have l1 := trim_le (b.map (c * ·))
  rw [List.length_map] at l1
  have l2 := trim_le (List.replicate n 0 ++ trim (b.map (c * ·)))
  rw [List.length_append, List.length_replicate] at l2
  obtain ⟨z, h1, h2, h3, h4⟩ := add_ev x (trim (List.replicate n 0 ++ trim (b.map (c * ·)))) (by omega) (by omega)
  refine ⟨z, fun F R h => Ev.bind (times_ev _ _ (by omega)) (Ev.bind (shift_ev _ _ (by omega)) (Ev.bind h1 h)), h2, by omega, fun t => ?_⟩
  rw [h4, trim_ev, ev_append, ev_zs (zs_replicate _), zero_add, trim_ev, ev_map, List.length_replicate, mul_left_comm]

theorem solve_in {p rho : Nat} {T : E → E} {a b v : List E} {m : Nat} (tb : Tr b) (tv : Tr v) (nb : b.length = m + 1) (hp : p ≤ 60) (hb : b.length ≤ p) (la : a.length ≤ p + 1) (lv : v.length + a.length ≤ p + 2)
    (hv : ∃ be n, Po n be ∧ n + a.length ≤ p + 2 ∧ ∀ x, ev v x * T x + pw x p * be x = ev b x) (N : Nat) :
    ∀ x y : List E, x.length ≤ N → x.length ≤ a.length → Tr x → Tr y → y.length + b.length ≤ p + 2 → (∀ t, ev v t * ev x t + ev y t * ev b t = pw t p) →
      (∃ al n, Po n al ∧ n + b.length ≤ p + 2 ∧ ∀ t, ev y t * T t + pw t p * al t = ev x t) →
      ∃ x' y' : List E, x'.length ≤ m ∧ Mid p T b x' v y' ∧
        ∀ R, Ev (fun k => rs_solve.l0 k p rho (IL b) (IL x') (IL v) (IL y')) R → Ev (fun k => rs_solve.l1 k p rho (IL b) (IL v) (IL x) (IL y)) R := by
  induction N with
  | zero =>
    intro x y hN hx tx ty ly hxy hy
    refine ⟨x, y, by omega, ⟨tb, tx, tv, ty, by omega, by omega, by omega, fun t => by rw [← hxy t, add_comm], ?_, hy⟩, fun R h => ?_⟩
    · obtain ⟨be, n, h1, h2, h3⟩ := hv
      exact ⟨be, n, h1, by omega, h3⟩
    · refine Ev.step (fun k => rfl) (Ev.bind (deg_ev (by omega) tx) (Ev.bind (deg_ev (by omega) tb) ?_))
      exact ifn (by omega) h
  | succ N ih =>
    intro x y hN hx tx ty ly hxy hy
    by_cases c : x.length ≤ m
    · refine ⟨x, y, c, ⟨tb, tx, tv, ty, by omega, by omega, by omega, fun t => by rw [← hxy t, add_comm], ?_, hy⟩, fun R h => ?_⟩
      · obtain ⟨be, n, h1, h2, h3⟩ := hv
        exact ⟨be, n, h1, by omega, h3⟩
      · refine Ev.step (fun k => rfl) (Ev.bind (deg_ev (by omega) tx) (Ev.bind (deg_ev (by omega) tb) ?_))
        exact ifn (by omega) h
    · obtain ⟨n, nx⟩ : ∃ n, x.length = n + 1 := ⟨x.length - 1, by omega⟩
      obtain ⟨z, z1, z2, z3, z4⟩ := combo x b (x.getD n 0 * inv (b.getD m 0)) (n - m) (by omega) (by omega)
      obtain ⟨w, w1, w2, w3, w4⟩ := combo y v (x.getD n 0 * inv (b.getD m 0)) (n - m) (by omega) (by omega)
      have zl := red_step tx tb nx nb (by omega) (by omega) z2 (by omega) z4
      obtain ⟨x', y', g1, g2, g3⟩ := ih z w (by omega) (by omega) z2 w2 (by omega) (fun t => by
        rw [z4, w4, ← hxy t]
        simp only [mul_add, add_mul, mul_assoc, mul_comm, mul_left_comm, add_assoc, add_comm, add_left_comm, add_self, add_self_left, add_zero, zero_add]) (by
        obtain ⟨be, n1, h1, h2, h3⟩ := hv
        obtain ⟨al, n2, k1, k2, k3⟩ := hy
        refine ⟨fun t => al t + x.getD n 0 * inv (b.getD m 0) * (pw t (n - m) * be t), max n2 (n - m + n1), (k1.mono (by omega)).add (((h1.shift (n - m)).scale _).mono (by omega)), by omega, fun t => ?_⟩
        rw [z4, w4, ← h3, ← k3]
        simp only [mul_add, add_mul, mul_assoc, mul_comm, mul_left_comm, add_assoc, add_comm, add_left_comm])
      refine ⟨x', y', g1, g2, fun R h => ?_⟩
      have e0 : (x.length : Int) - 1 = (n : Int) := by omega
      have e1 : (b.length : Int) - 1 = (m : Int) := by omega
      have e2 : wrap64 ((n : Int) - (m : Int)) = ((n - m : Nat) : Int) := by rw [w64 (by omega) (by omega)]; omega
      refine Ev.step (fun k => rfl) (Ev.bind (deg_ev (by omega) tx) (Ev.bind (deg_ev (by omega) tb) ?_))
      rw [e0, e1]
      refine ifp (by omega) (ifp (by omega) (ifp (by rw [IL_length]; omega) (ifp (by omega) (ifp (by rw [IL_length]; omega) ?_))))
      rw [rd_IL, rd_IL, e2]
      refine Ev.bind (inv_ev (tb m nb)) (Ev.bind (mul_ev _ _) ?_)
      exact z1 _ R (w1 _ R (g3 R h))

theorem solve_out {p rho : Nat} {T : E → E} (hp : p ≤ 60) (hr : rho ≤ p) (h1 : 1 ≤ p) (N : Nat) : ∀ a b u v : List E, b.length ≤ N → b.length ≤ p → Mid p T a b u v → p + rho + 2 ≤ 2 * a.length →
    ∃ a' b' u' v' : List E, Ev (fun k => rs_solve.l0 k p rho (IL a) (IL b) (IL u) (IL v)) (IL v', IL b') ∧ Mid p T a' b' u' v' ∧ p + rho + 2 ≤ 2 * a'.length ∧ 2 * b'.length ≤ p + rho + 1 ∧ b'.length ≤ p := by
  induction N with
  | zero =>
    intro a b u v hN hb hM ha
    refine ⟨a, b, u, v, ?_, hM, ha, by omega, hb⟩
    refine Ev.step (fun k => rfl) (Ev.bind (deg_ev (by omega) hM.tb) ?_)
    rw [w64 (by omega) (by omega), w64 (by omega) (by omega)]
    exact ifn (by omega) (Ev.now _)
  | succ N ih =>
    intro a b u v hN hb hM ha
    by_cases c : 2 * b.length ≤ p + rho + 1
    · refine ⟨a, b, u, v, ?_, hM, ha, by omega, hb⟩
      refine Ev.step (fun k => rfl) (Ev.bind (deg_ev (by omega) hM.tb) ?_)
      rw [w64 (by omega) (by omega), w64 (by omega) (by omega)]
      exact ifn (by omega) (Ev.now _)
    · obtain ⟨m, nb⟩ : ∃ m, b.length = m + 1 := ⟨b.length - 1, by omega⟩
      obtain ⟨x', y', g1, g2, g3⟩ := solve_in (rho := rho) hM.tb hM.tv nb hp hb hM.la hM.lv hM.hv a.length a u (Nat.le_refl _) (Nat.le_refl _) hM.ta hM.tu hM.lu hM.huv hM.hu
      obtain ⟨a', b', u', v', k1, k2⟩ := ih b x' v y' (by omega) (by omega) g2 (by omega)
      refine ⟨a', b', u', v', ?_, k2⟩
      refine Ev.step (fun k => rfl) (Ev.bind (deg_ev (by omega) hM.tb) ?_)
      rw [w64 (by omega) (by omega), w64 (by omega) (by omega)]
      exact ifp (by omega) (g3 _ k1)
theorem solve_ev {p rho : Nat} {T : List E} (hT : Tr T) (lT : T.length ≤ p) (hp : p ≤ 60) (hr : rho ≤ p) (h1 : 1 ≤ p) :
    ∃ a' b' u' v' : List E, Ev (fun k => rs_solve.f k (IL T) (p : Int) (rho : Int)) (IL v', IL b') ∧ Mid p (ev T) a' b' u' v' ∧ p + rho + 2 ≤ 2 * a'.length ∧ 2 * b'.length ≤ p + rho + 1 ∧ b'.length ≤ p := by
  have t1 : Tr (List.replicate p 0 ++ [(1 : E)]) := by
    intro n hn
    have : n = p := by simpa using hn.symm
    subst this
    rw [List.getD_eq_getElem?_getD, List.getElem?_append_right (by simp)]
    simpa using one_ne
  have l1 : (List.replicate p 0 ++ [(1 : E)]).length = p + 1 := by simp
  have e1 : ∀ x, ev (List.replicate p 0 ++ [(1 : E)]) x = pw x p := fun x => by
    rw [ev_append, ev_zs (zs_replicate _), zero_add, List.length_replicate]
    show pw x p * (1 + x * 0) = _
    rw [mul_zero, add_zero, mul_one]
  have hM : Mid p (ev T) (List.replicate p 0 ++ [(1 : E)]) T [] [1] := by
    refine ⟨t1, hT, fun n h => absurd h (by simp), fun n h => ?_, by omega, by rw [l1]; simp; omega, by simp; omega, fun x => ?_, ⟨fun _ => 1, 1, Po.con 1, by omega, fun x => ?_⟩, ⟨fun _ => 0, 0, Po.zero 0, by omega, fun x => ?_⟩⟩
    · have : n = 0 := by simpa using h.symm
      subst this
      exact one_ne
    · rw [e1]; show (1 + x * 0) * pw x p + 0 * ev T x = _; rw [mul_zero, add_zero, one_mul, zero_mul, add_zero]
    · rw [e1]; show 0 * ev T x + pw x p * 1 = _; rw [zero_mul, zero_add, mul_one]
    · show (1 + x * 0) * ev T x + pw x p * 0 = _; rw [mul_zero, mul_zero, add_zero, add_zero, one_mul]
  obtain ⟨a', b', u', v', k1, k2⟩ := solve_out (rho := rho) hp hr h1 T.length _ T [] [1] (Nat.le_refl _) lT hM (by omega)
  refine ⟨a', b', u', v', ?_, k2⟩
  have s := shift_ev [1] p (by simp; omega)
  rw [t1.trim] at s
  exact Ev.bind s k1

/-! ### places, roots, slope -/
def NL (l : List Nat) : List Int := l.map fun n : Nat => (n : Int)
theorem tr_one : Tr [1] := fun n h => by
  have : n = 0 := by simpa using h.symm
  subst this
  exact one_ne
theorem rd_NL (l : List Nat) (i : Nat) : rd (NL l) (i : Int) = ((l.getD i 0 : Nat) : Int) := by
  show (NL l).getD ((i : Int)).toNat 0 = _
  rw [Int.toNat_natCast, List.getD_eq_getElem?_getD, List.getD_eq_getElem?_getD]
  unfold NL
  rw [List.getElem?_map]
  cases l[i]? with
  | none => rfl
  | some a => rfl
theorem NL_length (l : List Nat) : (NL l).length = l.length := List.length_map ..
theorem places_loop (K : List Nat) (hK : ∀ j ∈ K, j < 1000) (hl : K.length ≤ 40) (r : Nat) : ∀ (D : List E) (i : Nat), i + r = K.length → Tr D → D.length ≤ 2 * i + 1 →
    ∃ G : List E, Ev (fun k => rs_places.l0 k (IL D) (NL K) (K.length : Int) (i : Int)) (IL G) ∧ Tr G ∧ G.length ≤ 2 * K.length + 1 ∧ ∀ x, ev G x = ev D x * pr (K.drop i) x := by
  induction r with
  | zero =>
    intro D i hi tD lD
    refine ⟨D, Ev.step (f := fun _ => some (IL D)) (fun k => ?_) (Ev.now _), tD, by omega, fun x => ?_⟩
    · rw [rs_places.l0, if_neg (by omega)]
    · rw [List.drop_eq_nil_of_le (by omega)]; exact (mul_one _).symm
  | succ r ih =>
    intro D i hi tD lD
    have hm : K.getD i 0 ∈ K := by
      rw [List.getD_eq_getElem?_getD, List.getElem?_eq_getElem (by omega)]
      exact List.getElem_mem _
    obtain ⟨z, z1, z2, z3, z4⟩ := pmul_ev D [1, X (K.getD i 0)] (by omega) (by simp)
    obtain ⟨G, g1, g2, g3, g4⟩ := ih z (i + 1) (by omega) z2 (by simp at z3; omega)
    refine ⟨G, ?_, g2, g3, fun x => ?_⟩
    · refine Ev.step (f := fun k => (gf_Root.f k ((K.getD i 0 : Nat) : Int)).bind fun t => (gf_Poly_Mul.f k (IL D) ([1, t] : List Int)).bind fun s => rs_places.l0 k s (NL K) (K.length : Int) ((i + 1 : Nat) : Int)) (fun k => ?_) (Ev.bind (root_ev _ (by have := hK _ hm; omega)) (Ev.bind z1 g1))
      rw [rs_places.l0, if_pos (by omega), if_pos (by omega), if_pos (by rw [NL_length]; omega), rd_NL, w64 (by omega) (by omega)]
      rfl
    · rw [g4, z4, List.drop_eq_getElem_cons (by omega : i < K.length)]
      show ev D x * (1 + x * (X (K.getD i 0) + x * 0)) * _ = ev D x * ((1 + X K[i] * x) * _)
      rw [mul_zero, add_zero, mul_comm x, mul_assoc, List.getD_eq_getElem?_getD, List.getElem?_eq_getElem (by omega)]
      rfl
theorem places_ev (K : List Nat) (hK : ∀ j ∈ K, j < 1000) (hl : K.length ≤ 40) :
    ∃ G : List E, Ev (fun k => rs_places.f k (NL K)) (IL G) ∧ Tr G ∧ G.length = K.length + 1 ∧ ∀ x, ev G x = pr K x := by
  obtain ⟨G, g1, g2, g3, g4⟩ := places_loop K hK hl K.length [1] 0 (by omega) tr_one (by simp)
  have e : ∀ x, ev G x = pr K x := fun x => by
    rw [g4, List.drop_zero]
    show (1 + x * 0) * _ = _
    rw [mul_zero, add_zero, one_mul]
  obtain ⟨c, hc, hL⟩ := pr_ld K
  refine ⟨G, ?_, g2, ?_, e⟩
  · refine Ev.congr (fun k => ?_) g1
    unfold rs_places.f
    rw [NL_length]
    rfl
  · refine g2.len (by omega) hc (by omega) ?_
    obtain ⟨g, pg, eg⟩ := hL
    exact ⟨g, pg, fun x => by rw [e, eg]⟩
theorem roots_loop (p : List E) (hp : p.length < 1000) (L : Nat) (hL : L ≤ 300) (r : Nat) : ∀ (acc : List Nat) (i : Nat), i + r = L → acc.length ≤ i →
    Ev (fun k => rs_roots.l0 k (IL p) (NL acc) (L : Int) (i : Int)) (NL (acc ++ (List.range' i r).filter fun n => ev p (Y n) = 0)) := by
  induction r with
  | zero =>
    intro acc i hi ha
    refine Ev.step (f := fun _ => some (NL acc)) (fun k => ?_) (by simpa using Ev.now _)
    rw [rs_roots.l0, if_neg (by omega)]
  | succ r ih =>
    intro acc i hi ha
    refine Ev.step (f := fun k => (gf_Root.f k (wrap64 (-(i : Int)))).bind fun t => (gf_Poly_At.f k (IL p) t).bind fun s => if s = 0 then (if (NL acc).length < 17592186044416 then rs_roots.l0 k (IL p) (NL acc ++ [(i : Int)]) (L : Int) (wrap64 ((i : Int) + 1)) else none) else rs_roots.l0 k (IL p) (NL acc) (L : Int) (wrap64 ((i : Int) + 1))) (fun k => ?_) (Ev.bind (rootn_ev i (by omega)) (Ev.bind (at_ev p (Y i) (by omega)) ?_))
    · rw [rs_roots.l0, if_pos (by omega)]
    · rw [List.range'_succ, w64 (by omega) (by omega)]
      by_cases c : ev p (Y i) = 0
      · refine ifp (I_eq_zero.mpr c) (ifp (by rw [NL_length]; omega) ?_)
        rw [List.filter_cons_of_pos (by simpa using c)]
        have := ih (acc ++ [i]) (i + 1) (by omega) (by rw [List.length_append]; simp; omega)
        rw [List.append_assoc] at this
        have e : NL (acc ++ [i]) = NL acc ++ [(i : Int)] := by unfold NL; rw [List.map_append]; rfl
        rw [e] at this
        exact this
      · refine ifn (fun h => c (I_eq_zero.mp h)) ?_
        rw [List.filter_cons_of_neg (by simpa using c)]
        exact ih acc (i + 1) (by omega) (by omega)
theorem roots_ev (p : List E) (hp : p.length < 1000) (L : Nat) (hL : L ≤ 300) : Ev (fun k => rs_roots.f k (IL p) (L : Int)) (NL ((List.range L).filter fun n => ev p (Y n) = 0)) := by
  have := roots_loop p hp L hL L [] 0 (by omega) (by simp)
  rw [List.nil_append, ← List.range_eq_range'] at this
  exact Ev.congr (fun k => rfl) this

/-- Every second number, the first taken or not. -/
def ds : Bool → List E → List E
  | _, [] => []
  | true, b :: t => b :: ds false t
  | false, _ :: t => 0 :: ds true t
theorem ds_ev (l : List E) : (∀ a x, de (a :: l) x = ev (ds true l) x) ∧ ∀ x, ev (ds false l) x = x * de l x := by
  induction l with
  | nil => exact ⟨fun a x => by show (0 : E) + x * 0 = 0; rw [mul_zero, add_zero], fun x => (mul_zero x).symm⟩
  | cons b t ih =>
    refine ⟨fun a x => ?_, fun x => ?_⟩
    · show ev (b :: t) x + x * de (b :: t) x = b + x * ev (ds false t) x
      rw [ih.2]
      show b + x * ev t x + x * (ev t x + x * de t x) = _
      rw [mul_add]
      simp only [add_assoc, add_comm, add_left_comm, add_self, add_self_left, add_zero, zero_add]
    · show 0 + x * ev (ds true t) x = x * de (b :: t) x
      rw [zero_add, ih.1]
theorem slope_loop (l : List E) (hl : l.length < 1000) (r : Nat) : ∀ (acc : List E) (i : Nat), i + r = l.length → acc.length ≤ i →
    Ev (fun k => gf_Poly_Slope.l0 k (IL l) (IL acc) (i : Int)) (IL (trim (acc ++ ds (decide (i % 2 = 1)) (l.drop i)))) := by
  induction r with
  | zero =>
    intro acc i hi ha
    rw [List.drop_eq_nil_of_le (by omega)]
    have : ∀ b, ds b [] = [] := fun b => by cases b <;> rfl
    rw [this, List.append_nil]
    refine Ev.step (f := fun k => (gf_Poly_Trim.f k (IL acc)).bind fun t => some t) (fun k => ?_) (Ev.bind (trim_ev' _ (by omega)) (Ev.now _))
    rw [gf_Poly_Slope.l0, if_neg (by rw [IL_length]; omega)]
  | succ r ih =>
    intro acc i hi ha
    have et : Int.tmod (i : Int) 2 = ((i % 2 : Nat) : Int) := by rw [Int.tmod_eq_emod_of_nonneg (by omega)]; omega
    rw [List.drop_eq_getElem_cons (by omega : i < l.length)]
    have eg : rd (IL l) (i : Int) = I l[i] := by rw [rd_IL, List.getD_eq_getElem?_getD, List.getElem?_eq_getElem (by omega)]; rfl
    by_cases c : i % 2 = 1
    · have := ih (acc ++ [l[i]]) (i + 1) (by omega) (by rw [List.length_append]; simp; omega)
      rw [decide_eq_true c]
      rw [decide_eq_false (by omega : ¬ (i + 1) % 2 = 1), List.append_assoc] at this
      refine Ev.step (fun k => ?_) this
      rw [gf_Poly_Slope.l0, if_pos (by rw [IL_length]; omega), et, if_pos (by omega), if_pos (by omega), if_pos (by rw [IL_length]; omega), eg, w64 (by omega) (by omega), IL_append]
      rfl
    · have := ih (acc ++ [0]) (i + 1) (by omega) (by rw [List.length_append]; simp; omega)
      rw [decide_eq_false c]
      rw [decide_eq_true (by omega : (i + 1) % 2 = 1), List.append_assoc] at this
      refine Ev.step (fun k => ?_) this
      rw [gf_Poly_Slope.l0, if_pos (by rw [IL_length]; omega), et, if_neg (by omega), if_pos (by rw [IL_length]; omega), w64 (by omega) (by omega), IL_append]
      rfl
theorem slope_ev (l : List E) (hl : l.length < 1000) : ∃ z : List E, Ev (fun k => gf_Poly_Slope.f k (IL l)) (IL z) ∧ Tr z ∧ z.length < 1000 ∧ ∀ x, ev z x = de l x := by
  cases l with
  | nil =>
    refine ⟨[], ?_, fun n h => absurd h (by simp), by simp, fun x => rfl⟩
    refine Ev.congr (fun k => rfl) (Ev.step (f := fun k => (gf_Poly_Trim.f k (IL [])).bind fun t => some t) (fun k => ?_) (Ev.bind (trim_ev' [] (by simp)) (Ev.now _)))
    show gf_Poly_Slope.l0 (k + 1) (IL []) [] 1 = _
    rw [gf_Poly_Slope.l0, if_neg (by simp [IL_nil])]
    rfl
  | cons a t =>
    have hd : ∀ b t, (ds b t).length = t.length := by
      intro b t
      induction t generalizing b with
      | nil => cases b <;> rfl
      | cons c t ih => cases b <;> simp [ds, ih]
    refine ⟨trim (ds true t), ?_, trim_tr _, by have := trim_le (ds true t); rw [hd] at this; simp at hl; omega, fun x => by rw [trim_ev, (ds_ev t).1]⟩
    have := slope_loop (a :: t) hl t.length [] 1 (by simp; omega) (by simp)
    exact this
end Go.Proofs.Ytpleeckbakllpaa.Gf
