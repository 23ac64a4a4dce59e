/- The law by which wrong bytes are found: the equation that errors obey has one solution, and a right word has no other right word near it; no condition. -/
import Derived.Test.YtpleeckbakllpaaGfB
namespace Go.Proofs.Ytpleeckbakllpaa.Gf
set_option linter.unusedSimpArgs false
set_option linter.unusedVariables false

theorem Po.ldc {n : Nat} {f : E → E} (h : Po (n + 1) f) : ∃ c, Ld n c f := by
  obtain ⟨l, a, b⟩ := h
  by_cases c : l.length = n + 1
  · exact ⟨l.getD n 0, ev (l.take n), (Po.of _).mono (by rw [List.length_take]; omega), fun x => (b x).trans (ev_last l n c x)⟩
  · exact ⟨0, f, ⟨l, by omega, b⟩, fun x => by rw [zero_mul, add_zero]⟩
theorem Ld.dom {m k : Nat} {c : E} {f g : E → E} (h : Ld m c f) (hc : c ≠ 0) (hg : Po k g) (e : ∀ x, f x * g x = 0) (hl : m + k < 255) : ∀ x, g x = 0 := by
  refine Classical.byContradiction fun hz => ?_
  obtain ⟨j, d, hj, hd, ld⟩ := hg.ld hz
  exact (h.mul ld).not (mul_ne hc hd) (n := 0) ((Po.zero 0).congr e) (by omega) (by omega)

def pr : List Nat → E → E
  | [], _ => 1
  | j :: Z, x => (1 + X j * x) * pr Z x
theorem pr_append (Z W : List Nat) (x : E) : pr (Z ++ W) x = pr Z x * pr W x := by
  induction Z with
  | nil => exact (one_mul _).symm
  | cons j Z ih => show _ * pr (Z ++ W) x = _ * pr Z x * pr W x; rw [ih, mul_assoc]
theorem pr_zero {Z : List Nat} {j : Nat} (hZ : ∀ i ∈ Z, i < 255) (hj : j < 255) : pr Z (Y j) = 0 ↔ j ∈ Z := by
  induction Z with
  | nil => simp [pr, one_ne]
  | cons i Z ih =>
    have h1 := fac_zero (hZ i (by simp)) hj
    have h2 := ih fun k hk => hZ k (by simp [hk])
    rw [List.mem_cons]
    constructor
    · intro e
      rcases ne_of_mul e with c | c
      · exact .inl (h1.mp c).symm
      · exact .inr (h2.mp c)
    · rintro (c | c)
      · show (1 + X i * Y j) * pr Z (Y j) = 0; rw [h1.mpr c.symm, zero_mul]
      · show (1 + X i * Y j) * pr Z (Y j) = 0; rw [h2.mpr c, mul_zero]
theorem pr_ld (Z : List Nat) : ∃ c, c ≠ 0 ∧ Ld Z.length c (pr Z) := by
  induction Z with
  | nil => exact ⟨1, one_ne, fun _ => 0, Po.zero _, fun x => by show (1 : E) = 0 + 1 * 1; rw [mul_one, zero_add]⟩
  | cons j Z ih =>
    obtain ⟨c, hc, h⟩ := ih
    have l : Ld 1 (X j) fun x => 1 + X j * x := ⟨fun _ => 1, Po.con 1, fun x => by show 1 + X j * x = 1 + X j * (x * 1); rw [mul_one]⟩
    have := l.mul h
    rw [Nat.add_comm] at this
    exact ⟨_, mul_ne (X_ne j) hc, this⟩
theorem pr_po (Z : List Nat) : Po (Z.length + 1) (pr Z) := let ⟨_, _, h⟩ := pr_ld Z; h.po

def om (e : Nat → E) : List Nat → E → E
  | [], _ => 0
  | j :: Z, x => e j * pr Z x + (1 + X j * x) * om e Z x
def ga (p : Nat) (e : Nat → E) : List Nat → E → E
  | [], _ => 0
  | j :: Z, x => e j * pw (X j) p * pr Z x + (1 + X j * x) * ga p e Z x
theorem om_po (e : Nat → E) (Z : List Nat) : Po Z.length (om e Z) := by
  induction Z with
  | nil => exact Po.zero _
  | cons j Z ih => exact ((pr_po Z).scale (e j)).add ((ih.mul (Po.lin 1 (X j))).congr fun x => mul_comm _ _)
theorem ga_po (p : Nat) (e : Nat → E) (Z : List Nat) : Po Z.length (ga p e Z) := by
  induction Z with
  | nil => exact Po.zero _
  | cons j Z ih => exact ((pr_po Z).scale (e j * pw (X j) p)).add ((ih.mul (Po.lin 1 (X j))).congr fun x => mul_comm _ _)

/-- A sum of powers. -/
def geo : Nat → E → E
  | 0, _ => 0
  | n + 1, y => geo n y + pw y n
theorem geo_eq (n : Nat) (y : E) : (1 + y) * geo n y = 1 + pw y n := by
  induction n with
  | zero => show _ * 0 = 1 + 1; rw [mul_zero, add_self]
  | succ n ih =>
    show (1 + y) * (geo n y + pw y n) = 1 + y * pw y n
    rw [mul_add, ih, add_mul, one_mul]; simp only [add_assoc, add_comm, add_left_comm, add_self_left]
/-- The signs of errors. -/
def sy (e : Nat → E) : List Nat → Nat → E
  | [], _ => 0
  | j :: Z, i => e j * pw (X j) i + sy e Z i
def sp (s : Nat → E) : Nat → E → E
  | 0, _ => 0
  | n + 1, x => sp s n x + s n * pw x n
def sz (p : Nat) (e : Nat → E) : List Nat → E → E
  | [], _ => 0
  | j :: Z, x => e j * geo p (X j * x) + sz p e Z x
theorem sp_congr {s t : Nat → E} (n : Nat) (h : ∀ i, i < n → s i = t i) (x : E) : sp s n x = sp t n x := by
  induction n with
  | zero => rfl
  | succ n ih => show sp s n x + s n * pw x n = sp t n x + t n * pw x n; rw [ih fun i hi => h i (by omega), h n (by omega)]
theorem sp_zero (n : Nat) (x : E) : sp (fun _ => 0) n x = 0 := by
  induction n with
  | zero => rfl
  | succ n ih => show sp (fun _ => 0) n x + 0 * pw x n = 0; rw [ih, zero_mul, add_zero]
theorem sp_sy (e : Nat → E) (Z : List Nat) (p : Nat) (x : E) : sp (sy e Z) p x = sz p e Z x := by
  induction Z with
  | nil => exact sp_zero p x
  | cons j Z ih =>
    show _ = e j * geo p (X j * x) + sz p e Z x
    rw [← ih]
    clear ih
    induction p with
    | zero => show (0 : E) = e j * 0 + 0; rw [mul_zero, add_zero]
    | succ p ih =>
      show sp (sy e (j :: Z)) p x + (e j * pw (X j) p + sy e Z p) * pw x p = e j * (geo p (X j * x) + pw (X j * x) p) + (sp (sy e Z) p x + sy e Z p * pw x p)
      rw [ih, pw_mul_base]
      simp only [mul_add, add_mul, mul_assoc, add_assoc, add_comm, add_left_comm]
theorem key (p : Nat) (e : Nat → E) (Z : List Nat) (x : E) : pr Z x * sz p e Z x = om e Z x + pw x p * ga p e Z x := by
  induction Z with
  | nil => show (1 : E) * 0 = 0 + pw x p * 0; rw [mul_zero, mul_zero, add_zero]
  | cons j Z ih =>
    show (1 + X j * x) * pr Z x * (e j * geo p (X j * x) + sz p e Z x) = e j * pr Z x + (1 + X j * x) * om e Z x + pw x p * (e j * pw (X j) p * pr Z x + (1 + X j * x) * ga p e Z x)
    have h1 : (1 + X j * x) * pr Z x * (e j * geo p (X j * x)) = e j * pr Z x * (1 + pw (X j) p * pw x p) := by
      rw [← pw_mul_base, ← geo_eq]; simp only [mul_assoc, mul_comm, mul_left_comm]
    have h2 : (1 + X j * x) * pr Z x * sz p e Z x = (1 + X j * x) * om e Z x + (1 + X j * x) * (pw x p * ga p e Z x) := by
      rw [mul_assoc, ih, mul_add]
    rw [mul_add, h1, h2]
    rw [mul_add, mul_one, mul_add (pw x p)]
    rw [show e j * pr Z x * (pw (X j) p * pw x p) = pw x p * (e j * pw (X j) p * pr Z x) by simp only [mul_assoc, mul_comm, mul_left_comm]]
    rw [show (1 + X j * x) * (pw x p * ga p e Z x) = pw x p * ((1 + X j * x) * ga p e Z x) from mul_left_comm _ _ _]
    simp only [add_assoc, add_comm, add_left_comm]

/-- A polynomial with these roots. -/
def PL (c : E) : List Nat → List E
  | [] => [c]
  | j :: Z => addL (PL c Z) ((0 :: PL c Z).map (X j * ·))
theorem PL_length (c : E) (Z : List Nat) : (PL c Z).length = Z.length + 1 := by
  induction Z with
  | nil => rfl
  | cons j Z ih => show (addL (PL c Z) ((0 :: PL c Z).map (X j * ·))).length = Z.length + 1 + 1; rw [addL_length, List.length_map, List.length_cons, ih]; omega
theorem PL_ev (c : E) (Z : List Nat) (x : E) : ev (PL c Z) x = c * pr Z x := by
  induction Z with
  | nil => show c + x * 0 = c * 1; rw [mul_zero, add_zero, mul_one]
  | cons j Z ih =>
    show ev (addL (PL c Z) ((0 :: PL c Z).map (X j * ·))) x = c * ((1 + X j * x) * pr Z x)
    rw [ev_addL, ev_map, ev_cons, ih, zero_add, add_mul, one_mul, mul_add]; simp only [mul_assoc, mul_comm, mul_left_comm]
theorem PL_de (c : E) (j : Nat) (Z : List Nat) (x : E) : de (PL c (j :: Z)) x = X j * (c * pr Z x) + (1 + X j * x) * de (PL c Z) x := by
  show de (addL (PL c Z) ((0 :: PL c Z).map (X j * ·))) x = _
  rw [de_addL, de_map]
  show de (PL c Z) x + X j * (ev (PL c Z) x + x * de (PL c Z) x) = _
  rw [PL_ev, add_mul, one_mul, mul_add, mul_assoc]; simp only [add_assoc, add_comm, add_left_comm]
theorem forney (e : Nat → E) (c : E) (j : Nat) (hj : j < 255) (Z : List Nat) (hn : Z.Nodup) (hZ : ∀ i ∈ Z, i < 255) (hm : j ∈ Z) :
    ∃ d, d ≠ 0 ∧ om e Z (Y j) = e j * d ∧ de (PL c Z) (Y j) = c * (X j * d) := by
  induction Z with
  | nil => exact absurd hm (by simp)
  | cons i Z ih =>
    rw [List.nodup_cons] at hn
    have hZ' : ∀ k ∈ Z, k < 255 := fun k hk => hZ k (by simp [hk])
    rw [PL_de]
    show ∃ d, d ≠ 0 ∧ e i * pr Z (Y j) + (1 + X i * Y j) * om e Z (Y j) = e j * d ∧ _
    by_cases c' : i = j
    · subst c'
      have hz := (fac_zero hj hj).mpr (rfl : i = i)
      refine ⟨pr Z (Y i), fun h => hn.1 ((pr_zero hZ' hj).mp h), ?_, ?_⟩
      · rw [hz, zero_mul, add_zero]
      · rw [hz, zero_mul, add_zero, mul_left_comm]
    · have hm' : j ∈ Z := (List.mem_cons.mp hm).resolve_left fun h => c' h.symm
      obtain ⟨d, hd, e1, e2⟩ := ih hn.2 hZ' hm'
      have hz : pr Z (Y j) = 0 := (pr_zero hZ' hj).mpr hm'
      have hf : 1 + X i * Y j ≠ 0 := fun h => c' ((fac_zero (hZ i (by simp)) hj).mp h)
      refine ⟨(1 + X i * Y j) * d, mul_ne hf hd, ?_, ?_⟩
      · rw [hz, mul_zero, zero_add, e1, mul_left_comm]
      · rw [hz, mul_zero, mul_zero, zero_add, e2]; simp only [mul_assoc, mul_comm, mul_left_comm]

/-- Two right words are apart. -/
theorem far {p : Nat} {e : Nat → E} {Z : List Nat} (hn : Z.Nodup) (hZ : ∀ i ∈ Z, i < 255) (hl : Z.length ≤ p) (hp : p ≤ 127) (hs : ∀ i, i < p → sy e Z i = 0) : ∀ j ∈ Z, e j = 0 := by
  have h0 : ∀ x, om e Z x = pw x p * ga p e Z x := fun x => by
    have := key p e Z x
    rw [← sp_sy, sp_congr p hs, sp_zero, mul_zero] at this
    exact eq_of_add this.symm
  have := Po.split (p := p) (m := Z.length) ((om_po e Z).mono hl) (ga_po p e Z) (by omega) h0
  intro j hj
  obtain ⟨d, hd, e1, _⟩ := forney e 1 j (hZ j hj) Z hn hZ hj
  rw [this.1] at e1
  exact (ne_of_mul e1.symm).resolve_right hd

/-- What the dividing comes to. -/
theorem solved {p nu rho lv lb la N : Nat} {e : Nat → E} {K U : List Nat} {h T a b u v al be : E → E}
    (hn : (K ++ U).Nodup) (hZ : ∀ i ∈ K ++ U, i < 255) (hU : U.length = nu) (hK : K.length = rho) (he : ∀ j ∈ U, e j ≠ 0) (hp : 2 * nu + rho ≤ p) (hp1 : p ≤ 40) (hN : N ≤ 90)
    (hT : ∀ x, T x = sz p e (K ++ U) x * pr K x + pw x p * h x) (hh : Po N h)
    (huT : ∀ x, u x * T x + pw x p * al x = a x) (hvT : ∀ x, v x * T x + pw x p * be x = b x) (huv : ∀ x, v x * a x + u x * b x = pw x p)
    (pal : Po N al) (pbe : Po N be) (pu : Po 45 u) (pv : Po lv v) (pa : Po 45 a) (pb : Po lb b)
    (hv : 2 * lv ≤ p - rho + 2) (hb : 2 * lb ≤ p + rho + 1) :
    ∃ c, c ≠ 0 ∧ (∀ x, v x = c * pr U x) ∧ ∀ x, b x = c * om e (K ++ U) x := by
  -- the equation of the true places
  have h1 : ∀ x, pr U x * T x = om e (K ++ U) x + pw x p * (ga p e (K ++ U) x + pr U x * h x) := fun x => by
    have := key p e (K ++ U) x
    rw [pr_append] at this
    rw [hT, mul_add, show pr U x * (sz p e (K ++ U) x * pr K x) = pr K x * pr U x * sz p e (K ++ U) x by simp only [mul_assoc, mul_comm, mul_left_comm], this, mul_add]
    simp only [mul_assoc, mul_comm, mul_left_comm, add_assoc, add_comm, add_left_comm]
  have hlen : (K ++ U).length = nu + rho := by rw [List.length_append]; omega
  have pom : Po (nu + rho) (om e (K ++ U)) := hlen ▸ om_po e (K ++ U)
  have pga : Po 60 (ga p e (K ++ U)) := (ga_po p e (K ++ U)).mono (by rw [hlen]; omega)
  have pL : Po (nu + 1) (pr U) := hU ▸ pr_po U
  have pgam : Po 170 fun x => ga p e (K ++ U) x + pr U x * h x := (pga.mono (by omega)).add (((hh.mul pL).mono (by omega)).congr fun x => mul_comm _ _)
  generalize hga : (fun x => ga p e (K ++ U) x + pr U x * h x) = gam at pgam
  have h1 : ∀ x, pr U x * T x = om e (K ++ U) x + pw x p * gam x := fun x => by rw [← hga]; exact h1 x
  -- both ways the same
  have pv1 : Po (p - rho - (p - rho) / 2 + 1) v := pv.mono (by omega)
  have pv1' : Po ((p - rho) / 2 + 1) v := pv.mono (by omega)
  have h2 : ∀ x, v x * om e (K ++ U) x = pr U x * b x := by
    have q : ∀ x, v x * om e (K ++ U) x + pr U x * b x = pw x p * (v x * gam x + pr U x * be x) := fun x => by
      rw [show om e (K ++ U) x = pr U x * T x + pw x p * gam x by rw [h1]; simp only [add_assoc, add_comm, add_left_comm, add_self, add_self_left, add_zero, zero_add], ← hvT]
      simp only [mul_add, add_mul, mul_assoc, mul_comm, mul_left_comm, add_assoc, add_comm, add_left_comm, add_self, add_self_left, add_zero, zero_add]
    have p1 : Po p fun x => v x * om e (K ++ U) x + pr U x * b x :=
      (((pom.mul pv1').mono (by omega)).congr fun x => mul_comm _ _).add (((pb.mul pL).mono (by omega)).congr fun x => mul_comm _ _)
    have p2 : Po 215 fun x => v x * gam x + pr U x * be x :=
      (((pgam.mul pv1').mono (by omega)).congr fun x => mul_comm _ _).add (((pbe.mul pL).mono (by omega)).congr fun x => mul_comm _ _)
    intro x
    exact eq_of_add ((Po.split p1 p2 (by omega) q).1 x)
  -- a divisor of the true one
  have pH : Po 214 fun x => al x * pr U x + u x * gam x :=
    ((pal.mul pL).mono (by omega)).add (((pgam.mul (pu.mono (n := 44 + 1) (by omega))).mono (by omega)).congr fun x => mul_comm _ _)
  have h3 : ∀ x, x ≠ 0 → v x * (al x * pr U x + u x * gam x) = pr U x := fun x hx => by
    apply cancel (pw_ne hx p)
    have q : pw x p * (al x * pr U x + u x * gam x) = u x * om e (K ++ U) x + pr U x * a x := by
      rw [show om e (K ++ U) x = pr U x * T x + pw x p * gam x by rw [h1]; simp only [add_assoc, add_comm, add_left_comm, add_self, add_self_left, add_zero, zero_add], ← huT]
      simp only [mul_add, add_mul, mul_assoc, mul_comm, mul_left_comm, add_assoc, add_comm, add_left_comm, add_self, add_self_left, add_zero, zero_add]
    rw [mul_left_comm, q, mul_add, mul_left_comm (v x) (u x), h2, ← huv]
    simp only [mul_add, add_mul, mul_assoc, mul_comm, mul_left_comm, add_assoc, add_comm, add_left_comm]
  have h3' : ∀ x, v x * (al x * pr U x + u x * gam x) = pr U x := by
    have pp : Po 255 fun x => v x * (al x * pr U x + u x * gam x) + pr U x :=
      (((pH.mul pv1').mono (by omega)).congr fun x => mul_comm _ _).add (pL.mono (by omega))
    intro x
    exact eq_of_add (pp.all (by omega) (fun y hy => by rw [h3 y hy, add_self]) x)
  obtain ⟨lam, hlam, ldL⟩ := pr_ld U
  rw [hU] at ldL
  have hLz : ¬ ∀ x, pr U x = 0 := fun hz => ldL.not hlam (n := 0) ((Po.zero 0).congr hz) (by omega) (by omega)
  have hvz : ¬ ∀ x, v x = 0 := fun hz => hLz fun x => by rw [← h3', hz, zero_mul]
  obtain ⟨m, cv, hm, hcv, ldv⟩ := pv1'.ld hvz
  have hmn : m < nu + 1 := ldv.div hcv pH pL h3' hLz (by omega)
  have pv2 : Po (nu + 1) v := ldv.po.mono (by omega)
  obtain ⟨c0, g0, pg0, eg0⟩ := pv2.ldc
  obtain ⟨g1, pg1, eg1⟩ := ldL
  have h4 : ∀ x, v x = c0 * inv lam * pr U x := by
    have pD : Po nu fun x => g0 x + c0 * inv lam * g1 x := pg0.add (pg1.scale _)
    have eD : ∀ x, v x + c0 * inv lam * pr U x = g0 x + c0 * inv lam * g1 x := fun x => by
      rw [eg0, eg1, mul_add, show c0 * inv lam * (lam * pw x nu) = c0 * pw x nu by rw [mul_assoc, ← mul_assoc (inv lam), inv_mul hlam, one_mul]]
      simp only [add_assoc, add_comm, add_left_comm, add_self, add_self_left, add_zero, zero_add]
    intro x
    apply eq_of_add
    rw [eD]
    refine pD.vanish (U.map Y) ?_ (by rw [List.length_map]; omega) ?_ x
    · have := (List.nodup_append.mp hn).2.1
      rw [List.nodup_iff_pairwise_ne, List.pairwise_map]
      rw [List.nodup_iff_pairwise_ne] at this
      refine List.Pairwise.imp_of_mem ?_ this
      intro i j hi hj hij q
      exact hij (Y_inj (hZ i (by simp [hi])) (hZ j (by simp [hj])) q)
    · intro y hy
      obtain ⟨j, hj, rfl⟩ := List.mem_map.mp hy
      have hjZ : j ∈ K ++ U := by simp [hj]
      have z : pr U (Y j) = 0 := (pr_zero (fun i hi => hZ i (by simp [hi])) (hZ j hjZ)).mpr hj
      obtain ⟨d, hd, e1, _⟩ := forney e 1 j (hZ j hjZ) (K ++ U) hn hZ hjZ
      have q := h2 (Y j)
      rw [z, zero_mul, e1] at q
      have vz : v (Y j) = 0 := (ne_of_mul q).resolve_right (mul_ne (he j hj) hd)
      rw [← eD, vz, z, mul_zero, add_zero]
  have hc : c0 * inv lam ≠ 0 := fun hz => hvz fun x => by rw [h4, hz, zero_mul]
  refine ⟨c0 * inv lam, hc, h4, ?_⟩
  have ldL : Ld nu lam (pr U) := ⟨g1, pg1, eg1⟩
  have := ldL.dom hlam (k := 80) (g := fun x => b x + c0 * inv lam * om e (K ++ U) x) ((pb.mono (by omega)).add ((pom.scale _).mono (by omega))) (fun x => by
    rw [mul_add, ← h2, h4]
    simp only [mul_assoc, mul_comm, mul_left_comm, add_self]) (by omega)
  exact fun x => eq_of_add (this x)
end Go.Proofs.Ytpleeckbakllpaa.Gf
