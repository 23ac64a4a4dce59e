/- Polynomials over the bytes: values, roots, degrees and derivatives; no condition. -/
import Derived.Test.YtpleeckbakllpaaGfA
namespace Go.Proofs.Ytpleeckbakllpaa.Gf
set_option linter.unusedSimpArgs false
set_option linter.unusedVariables false

def ev : List E → E → E
  | [], _ => 0
  | a :: l, x => a + x * ev l x
theorem ev_nil (x : E) : ev [] x = 0 := rfl
theorem ev_cons (a : E) (l : List E) (x : E) : ev (a :: l) x = a + x * ev l x := rfl
theorem ev_append (p q : List E) (x : E) : ev (p ++ q) x = ev p x + pw x p.length * ev q x := by
  induction p with
  | nil => show ev q x = 0 + 1 * ev q x; rw [zero_add, one_mul]
  | cons a p ih =>
    show a + x * ev (p ++ q) x = a + x * ev p x + x * pw x p.length * ev q x
    rw [ih, mul_add, add_assoc, mul_assoc]
def Zs (l : List E) : Prop := ∀ a ∈ l, a = 0
theorem ev_zs {l : List E} (h : Zs l) (x : E) : ev l x = 0 := by
  induction l with
  | nil => rfl
  | cons a l ih =>
    rw [ev_cons, h a (by simp), ih fun b hb => h b (by simp [hb]), mul_zero, add_zero]
theorem zs_replicate (n : Nat) : Zs (List.replicate n 0) := fun a h => (List.mem_replicate.mp h).2
theorem ev_map (a : E) (l : List E) (x : E) : ev (l.map (a * ·)) x = a * ev l x := by
  induction l with
  | nil => exact (mul_zero a).symm
  | cons b l ih => show a * b + x * ev (l.map (a * ·)) x = a * (b + x * ev l x); rw [ih, mul_add, mul_left_comm]
def addL : List E → List E → List E
  | [], q => q
  | p, [] => p
  | a :: p, b :: q => (a + b) :: addL p q
theorem ev_addL (p : List E) : ∀ q x, ev (addL p q) x = ev p x + ev q x := by
  induction p with
  | nil => intro q x; exact (zero_add _).symm
  | cons a p ih =>
    intro q x
    cases q with
    | nil => exact (add_zero _).symm
    | cons b q =>
      show a + b + x * ev (addL p q) x = a + x * ev p x + (b + x * ev q x)
      rw [ih, mul_add]; simp only [add_assoc, add_comm, add_left_comm]
theorem addL_length (p : List E) : ∀ q, (addL p q).length = max p.length q.length := by
  induction p with
  | nil => intro q; show q.length = max 0 q.length; omega
  | cons a p ih =>
    intro q
    cases q with
    | nil => show (a :: p).length = max (a :: p).length 0; omega
    | cons b q => show (addL p q).length + 1 = max (p.length + 1) (q.length + 1); rw [ih]; omega
def mulL : List E → List E → List E
  | [], _ => []
  | a :: p, q => addL (q.map (a * ·)) (0 :: mulL p q)
theorem ev_mulL (p q : List E) (x : E) : ev (mulL p q) x = ev p x * ev q x := by
  induction p with
  | nil => exact (zero_mul _).symm
  | cons a p ih =>
    show ev (addL (q.map (a * ·)) (0 :: mulL p q)) x = (a + x * ev p x) * ev q x
    rw [ev_addL, ev_map, ev_cons, ih, zero_add, add_mul, mul_assoc]
theorem mulL_length {n : Nat} (p q : List E) (h : q.length ≤ n + 1) : (mulL p q).length ≤ p.length + n := by
  induction p with
  | nil => show 0 ≤ _; omega
  | cons a p ih =>
    show (addL (q.map (a * ·)) (0 :: mulL p q)).length ≤ p.length + 1 + n
    rw [addL_length, List.length_map, List.length_cons]; omega
theorem ev_set (l : List E) (b : E) (x : E) : ∀ i, i < l.length → ev (l.set i (l.getD i 0 + b)) x = ev l x + b * pw x i := by
  induction l with
  | nil => intro i h; exact absurd h (by simp)
  | cons a l ih =>
    intro i h
    cases i with
    | zero => show a + b + x * ev l x = a + x * ev l x + b * 1; rw [mul_one]; simp only [add_assoc, add_comm, add_left_comm]
    | succ i =>
      show a + x * ev (l.set i (l.getD i 0 + b)) x = a + x * ev l x + b * (x * pw x i)
      rw [ih i (by simpa using h), mul_add, add_assoc, mul_left_comm]

/-! ### roots -/
def pd (r : E) : List E → List E
  | [] => []
  | b :: t => ev (b :: t) r :: pd r t
theorem pd_length (r : E) (l : List E) : (pd r l).length = l.length := by
  induction l with
  | nil => rfl
  | cons b t ih => show (pd r t).length + 1 = t.length + 1; rw [ih]
theorem pd_ev (r : E) (l : List E) : ∀ a x, ev (a :: l) x = (x + r) * ev (pd r l) x + ev (a :: l) r := by
  induction l with
  | nil => intro a x; show a + x * 0 = (x + r) * 0 + (a + r * 0); simp only [mul_zero, zero_add, add_zero]
  | cons b t ih =>
    intro a x
    rw [ev_cons a, ih b x]
    show a + x * ((x + r) * ev (pd r t) x + ev (b :: t) r) = (x + r) * (ev (b :: t) r + x * ev (pd r t) x) + (a + r * ev (b :: t) r)
    simp only [mul_add, add_mul, mul_assoc, mul_comm, mul_left_comm, add_assoc, add_comm, add_left_comm, add_self, add_self_left, add_zero, zero_add]
theorem pd_zs (r : E) (l : List E) (h : Zs (pd r l)) : Zs l := by
  induction l with
  | nil => intro a h; exact absurd h (by simp)
  | cons b t ih =>
    have ht := ih fun a ha => h a (List.mem_cons_of_mem _ ha)
    have hb : ev (b :: t) r = 0 := h _ (List.mem_cons_self ..)
    rw [ev_cons, ev_zs ht, mul_zero, add_zero] at hb
    intro a ha
    rcases List.mem_cons.mp ha with e | e
    · rw [e, hb]
    · exact ht a e
theorem root_bound (S : List E) : ∀ l : List E, S.Nodup → l.length ≤ S.length → (∀ x ∈ S, ev l x = 0) → Zs l := by
  induction S with
  | nil => intro l _ h _ a ha; rw [List.length_eq_zero_iff.mp (Nat.le_zero.mp h)] at ha; exact absurd ha (by simp)
  | cons r S ih =>
    intro l hn hl h
    cases l with
    | nil => intro a ha; exact absurd ha (by simp)
    | cons a l =>
      have hr := h r (List.mem_cons_self ..)
      rw [List.nodup_cons] at hn
      have hz : Zs l := by
        apply pd_zs r
        apply ih _ hn.2 (by rw [pd_length]; simpa using hl)
        intro x hx
        have e := h x (List.mem_cons_of_mem _ hx)
        rw [pd_ev r, hr, add_zero] at e
        rcases ne_of_mul e with c | c
        · exact absurd (eq_of_add c ▸ hx) hn.1
        · exact c
      rw [ev_cons, ev_zs hz, mul_zero, add_zero] at hr
      intro b hb
      rcases List.mem_cons.mp hb with e | e
      · rw [e, hr]
      · exact hz b e

def allX : List E := (List.range 255).map X
theorem allX_nodup : allX.Nodup := by
  unfold allX
  rw [List.nodup_iff_pairwise_ne, List.pairwise_map]
  have := List.nodup_range (n := 255)
  rw [List.nodup_iff_pairwise_ne] at this
  refine List.Pairwise.imp_of_mem ?_ this
  intro a b ha hb hab e
  exact hab (X_inj (List.mem_range.mp ha) (List.mem_range.mp hb) e)
theorem allX_length : allX.length = 255 := by unfold allX; rw [List.length_map, List.length_range]
theorem zs_of_all {l : List E} (h : l.length ≤ 255) (hz : ∀ x, x ≠ 0 → ev l x = 0) : Zs l :=
  root_bound allX l allX_nodup (by rw [allX_length]; exact h) fun x hx => by
    obtain ⟨j, _, rfl⟩ := List.mem_map.mp hx
    exact hz _ (X_ne j)

/-! ### a function that a polynomial of so many numbers has -/
def Po (n : Nat) (f : E → E) : Prop := ∃ l : List E, l.length ≤ n ∧ ∀ x, f x = ev l x
theorem Po.of (l : List E) : Po l.length (ev l) := ⟨l, Nat.le_refl _, fun _ => rfl⟩
theorem Po.mono {m n : Nat} {f : E → E} (h : Po m f) (k : m ≤ n) : Po n f := let ⟨l, a, b⟩ := h; ⟨l, Nat.le_trans a k, b⟩
theorem Po.congr {n : Nat} {f g : E → E} (h : Po n f) (k : ∀ x, g x = f x) : Po n g := let ⟨l, a, b⟩ := h; ⟨l, a, fun x => (k x).trans (b x)⟩
theorem Po.add {n : Nat} {f g : E → E} (h : Po n f) (k : Po n g) : Po n fun x => f x + g x :=
  let ⟨l, a, b⟩ := h; let ⟨m, c, d⟩ := k; ⟨addL l m, by rw [addL_length]; omega, fun x => by dsimp only; rw [ev_addL, b, d]⟩
theorem Po.mul {m n : Nat} {f g : E → E} (h : Po m f) (k : Po (n + 1) g) : Po (m + n) fun x => f x * g x :=
  let ⟨l, a, b⟩ := h; let ⟨q, c, d⟩ := k; ⟨mulL l q, by have := mulL_length l q c; omega, fun x => by dsimp only; rw [ev_mulL, b, d]⟩
theorem Po.con (c : E) : Po 1 fun _ => c := ⟨[c], by simp, fun x => by show c = c + x * 0; rw [mul_zero, add_zero]⟩
theorem Po.zero (n : Nat) : Po n fun _ => (0 : E) := ⟨[], by simp, fun x => rfl⟩
theorem Po.scale {n : Nat} {f : E → E} (c : E) (h : Po n f) : Po n fun x => c * f x :=
  let ⟨l, a, b⟩ := h; ⟨l.map (c * ·), by simpa using a, fun x => by dsimp only; rw [ev_map, b]⟩
theorem Po.shift {n : Nat} {f : E → E} (m : Nat) (h : Po n f) : Po (m + n) fun x => pw x m * f x :=
  let ⟨l, a, b⟩ := h; ⟨List.replicate m 0 ++ l, by simp; omega, fun x => by dsimp only; rw [ev_append, ev_zs (zs_replicate m), zero_add, List.length_replicate, ← b]⟩
theorem Po.all {n : Nat} {f : E → E} (h : Po n f) (hl : n ≤ 255) (hz : ∀ x, x ≠ 0 → f x = 0) (x : E) : f x = 0 :=
  let ⟨l, a, b⟩ := h
  (b x).trans (ev_zs (zs_of_all (Nat.le_trans a hl) fun y hy => (b y).symm.trans (hz y hy)) x)
theorem Po.split {p m : Nat} {f h : E → E} (hf : Po p f) (hh : Po m h) (hl : p + m ≤ 255) (e : ∀ x, f x = pw x p * h x) : (∀ x, f x = 0) ∧ ∀ x, h x = 0 := by
  obtain ⟨l, a, b⟩ := hf
  obtain ⟨q, c, d⟩ := hh
  have z : Zs (l ++ List.replicate (p - l.length) 0 ++ q) := by
    apply zs_of_all (by simp; omega)
    intro x _
    have hp : (l ++ List.replicate (p - l.length) (0 : E)).length = p := by simp; omega
    rw [ev_append, ev_append, ev_zs (zs_replicate _), mul_zero, add_zero, ← b, ← d, e, hp, add_self]
  exact ⟨fun x => (b x).trans (ev_zs (fun a ha => z a (by simp [ha])) x), fun x => (d x).trans (ev_zs (fun a ha => z a (by simp [ha])) x)⟩

/-! ### degrees -/
def Ld (n : Nat) (c : E) (f : E → E) : Prop := ∃ g : E → E, Po n g ∧ ∀ x, f x = g x + c * pw x n
theorem Ld.mul {m n : Nat} {a b : E} {f g : E → E} (h : Ld m a f) (k : Ld n b g) : Ld (m + n) (a * b) fun x => f x * g x := by
  obtain ⟨F, hF, eF⟩ := h
  obtain ⟨G, hG, eG⟩ := k
  refine ⟨fun x => F x * G x + (b * (pw x n * F x) + a * (pw x m * G x)), ?_, ?_⟩
  · exact (hF.mul (hG.mono (Nat.le_succ n))).add (((hF.shift n).scale b |>.mono (by omega)).add ((hG.shift m).scale a))
  · intro x
    show f x * g x = _
    rw [eF, eG, pw_add]
    simp only [mul_add, add_mul, mul_assoc, mul_comm, mul_left_comm, add_assoc, add_comm, add_left_comm]
theorem Ld.po {n : Nat} {c : E} {f : E → E} (h : Ld n c f) : Po (n + 1) f := by
  obtain ⟨g, hg, e⟩ := h
  exact ((hg.mono (Nat.le_succ n)).add (((Po.con c).shift n))).congr fun x => by rw [e, mul_comm c]
theorem Ld.not {m n : Nat} {c : E} {f : E → E} (h : Ld m c f) (hc : c ≠ 0) (k : Po n f) (hn : n ≤ m) (hm : m < 255) : False := by
  obtain ⟨g, hg, e⟩ := h
  have := Po.split (p := m) (m := 1) (f := fun x => f x + g x) (h := fun _ => c) ((k.mono hn).add hg) (Po.con c) (by omega) (fun x => by show f x + g x = _; rw [e]; simp only [add_assoc, add_comm, add_left_comm, add_self, add_self_left, add_zero, mul_comm])
  exact hc (this.2 0)

/-- No nought at the end. -/
def Tr (l : List E) : Prop := ∀ n, l.length = n + 1 → l.getD n 0 ≠ 0
theorem ev_last (l : List E) (n : Nat) (h : l.length = n + 1) (x : E) : ev l x = ev (l.take n) x + l.getD n 0 * pw x n := by
  have e : l = l.take n ++ [l.getD n 0] := by
    apply List.ext_getElem?
    intro i
    by_cases c : i < n
    · rw [List.getElem?_append_left (by rw [List.length_take]; omega), List.getElem?_take_of_lt c]
    · rw [List.getElem?_append_right (by rw [List.length_take]; omega), List.length_take, show min n l.length = n by omega]
      by_cases d : i = n
      · subst d; rw [Nat.sub_self]; rw [List.getD_eq_getElem?_getD]; rw [List.getElem?_eq_getElem (by omega)]; rfl
      · rw [List.getElem?_eq_none (by omega), List.getElem?_eq_none (by simp; omega)]
  conv => lhs; rw [e]
  rw [ev_append, List.length_take, show min n l.length = n by omega, ev_cons, ev_nil, mul_zero, add_zero, mul_comm]
theorem Tr.ld {l : List E} (h : Tr l) {n : Nat} (hn : l.length = n + 1) : Ld n (l.getD n 0) (ev l) :=
  ⟨ev (l.take n), (Po.of _).mono (by rw [List.length_take]; omega), fun x => ev_last l n hn x⟩
theorem Tr.le {l : List E} (h : Tr l) (hl : l.length ≤ 255) {n : Nat} (k : Po n (ev l)) : l.length ≤ n := by
  cases hc : l.length with
  | zero => omega
  | succ m =>
    refine Nat.not_lt.mp fun hlt => (h.ld hc).not (h m hc) k (by omega) (by omega)
theorem Tr.len {l : List E} (h : Tr l) (hl : l.length ≤ 255) {n : Nat} {c : E} (hc : c ≠ 0) (hn : n < 255) (k : Ld n c (ev l)) : l.length = n + 1 := by
  have a := h.le hl k.po
  refine Nat.le_antisymm a (Nat.not_lt.mp fun hlt => k.not hc (Po.of l) (by omega) hn)

/-- How many numbers remain when noughts at the end go. -/
def trN (l : List E) : Nat → Nat
  | 0 => 0
  | n + 1 => if l.getD n 0 = 0 then trN l n else n + 1
def trim (l : List E) : List E := l.take (trN l l.length)
theorem trim_le (l : List E) : (trim l).length ≤ l.length := by unfold trim; rw [List.length_take]; omega
theorem trN_tr (l : List E) : ∀ n, n ≤ l.length → Tr (l.take (trN l n)) ∧ ∀ x, ev (l.take (trN l n)) x = ev (l.take n) x := by
  intro n
  induction n with
  | zero => intro _; exact ⟨fun m h => absurd h (by simp [trN]), fun x => rfl⟩
  | succ n ih =>
    intro hn
    show Tr (l.take (if l.getD n 0 = 0 then trN l n else n + 1)) ∧ ∀ x, ev (l.take (if l.getD n 0 = 0 then trN l n else n + 1)) x = ev (l.take (n + 1)) x
    have hg : (l.take (n + 1)).getD n 0 = l.getD n 0 := by rw [List.getD_eq_getElem?_getD, List.getD_eq_getElem?_getD, List.getElem?_take_of_lt (by omega)]
    by_cases c : l.getD n 0 = 0
    · rw [if_pos c]
      refine ⟨(ih (by omega)).1, fun x => ?_⟩
      rw [(ih (by omega)).2, ev_last (l.take (n + 1)) n (by rw [List.length_take]; omega), hg, c, zero_mul, add_zero, List.take_take, show min n (n + 1) = n by omega]
    · rw [if_neg c]
      refine ⟨fun m hm => ?_, fun x => rfl⟩
      have : m = n := by rw [List.length_take] at hm; omega
      subst this
      rw [hg]; exact c
theorem trim_tr (l : List E) : Tr (trim l) := (trN_tr l l.length (Nat.le_refl _)).1
theorem trim_ev (l : List E) (x : E) : ev (trim l) x = ev l x := by
  have := (trN_tr l l.length (Nat.le_refl _)).2 x
  rwa [List.take_length] at this
theorem Tr.trim {l : List E} (h : Tr l) : Gf.trim l = l := by
  unfold Gf.trim
  cases hc : l.length with
  | zero => rw [List.length_eq_zero_iff.mp hc]; rfl
  | succ n =>
    have : trN l (n + 1) = n + 1 := by show (if l.getD n 0 = 0 then trN l n else n + 1) = n + 1; rw [if_neg (h n hc)]
    rw [this, ← hc, List.take_length]
theorem Po.ld {n : Nat} {f : E → E} (h : Po n f) (hz : ¬ ∀ x, f x = 0) : ∃ m c, m < n ∧ c ≠ 0 ∧ Ld m c f := by
  obtain ⟨l, a, b⟩ := h
  have ht := trim_tr l
  have he := trim_ev l
  have hle := trim_le l
  cases hc : (Gf.trim l).length with
  | zero =>
    exfalso; apply hz; intro x
    rw [b, ← he, List.length_eq_zero_iff.mp hc]; rfl
  | succ m =>
    obtain ⟨g, hg, e⟩ := ht.ld hc
    exact ⟨m, _, by omega, ht m hc, g, hg, fun x => by rw [b, ← he, e]⟩
/-! ### the derivative's value -/
end Go.Proofs.Ytpleeckbakllpaa.Gf
