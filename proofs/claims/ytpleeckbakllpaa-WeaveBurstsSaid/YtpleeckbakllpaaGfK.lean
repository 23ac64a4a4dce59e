/- What decoding a word comes to: the word that was right, wherever few enough bytes are wrong; else a right word near it, or none; no condition. -/
import Derived.Test.YtpleeckbakllpaaXWvx3
import Derived.Test.YtpleeckbakllpaaXWvx5
import Derived.Test.YtpleeckbakllpaaXWvx7
import Derived.Test.YtpleeckbakllpaaXWvx8
import Derived.Test.YtpleeckbakllpaaXWvx9
import Derived.Test.YtpleeckbakllpaaGfJ
namespace Go.Proofs.Ytpleeckbakllpaa.Gf
open Go.RowKit Go.Proofs.YtpleeckbakllpaaX.PrintWords Go.Proofs.YtpleeckbakllpaaX.PrintLast Go.Proofs.YtpleeckbakllpaaX.PrintMore Go.Proofs.Ytpleeckbakllpaa.XWv
set_option linter.unusedSimpArgs false
set_option linter.unusedVariables false

theorem sgs_ev (s : ByteArray) (p : Nat) (x : E) : ev (sgs s p) x = sp (sg s) p x := by
  induction p with
  | zero => rfl
  | succ p ih =>
    have e : sgs s (p + 1) = sgs s p ++ [sg s p] := by unfold sgs; rw [List.range_succ, List.map_append]; rfl
    rw [e, ev_append, ih, sgs_length, ev_cons, ev_nil, mul_zero, add_zero, mul_comm]
    rfl
def none' : ByteArray × Int × Int := (⟨#[]⟩, 0, 280)
/-- What a decoding has found. -/
structure Found (s : ByteArray) (p : Nat) (K : List Nat) (T v b A D : List E) (W : List Nat) : Prop where
  tv : Tr v
  tA : Tr A
  lv : v.length ≤ 40
  lA : A.length ≤ 100
  eA : ∀ x, ev A x = ev v x * pr K x
  eD : ∀ x, ev D x = de A x
  lD : D.length < 1000
  lb : b.length ≤ 40
  eW : W = (List.range s.size).filter fun n => ev A (Y n) = 0
  mid : ∃ a u M : List E, Mid p (ev T) a b u v ∧ p + K.length + 2 ≤ 2 * a.length ∧ 2 * b.length ≤ p + K.length + 1 ∧ M.length ≤ 65 ∧ (∀ x, ev M x = ev (sgs s p) x * pr K x) ∧ ∀ x, ev M x = ev T x + pw x p * ev (M.drop p) x
def Cond (p : Nat) (K : List Nat) (v A : List E) (W : List Nat) : Prop := W.length ≠ 0 ∧ (W.length : Int) = (A.length : Int) - 1 ∧ 2 * ((v.length : Int) - 1) + (K.length : Int) ≤ (p : Int)
theorem core (s : ByteArray) (p : Nat) (l : List Int) (K : List Nat) (hM : May s.size p) (hK : ∀ j ∈ K, j < s.size) (hn : K.Nodup) (hl : K.length ≤ p) (hk : Ev (fun k => rs_lostOf.f k l (s.size : Int) (p : Int)) (NL K, decide (K.length ≤ p))) (hs : ¬ Ok s p) :
    ∃ (T v b A D : List E) (W : List Nat), Found s p K T v b A D W ∧ (¬ Cond p K v A W → Ev (fun k => rs_Decode.f k s (p : Int) l) none') ∧
      (Cond p K v A W → ∀ R, Ev (fun k => rs_Decode.l0 k (p : Int) (IL b) (IL (toE s)) 0 (IL D) (NL W) (W.length : Int) 0) R → Ev (fun k => rs_Decode.f k s (p : Int) l) R) := by
  obtain ⟨p1, p2, p3, p4⟩ := hM
  have hM : May s.size p := ⟨p1, p2, p3, p4⟩
  obtain ⟨G, g1, g2, g3, g4⟩ := places_ev K (fun j hj => by have := hK j hj; omega) (by omega)
  obtain ⟨M, m1, m2, m3, m4⟩ := pmul_ev (sgs s p) G (by rw [sgs_length]; omega) (by omega)
  rw [sgs_length] at m3
  have lT := trim_le (M.take p)
  rw [List.length_take] at lT
  obtain ⟨a, b, u, v, s1, s2, s3, s4, s5⟩ := solve_ev (p := p) (rho := K.length) (trim_tr (M.take p)) (by omega) (by omega) hl p1
  have lv := s2.lv
  obtain ⟨A, a1, a2, a3, a4⟩ := pmul_ev v G (by omega) (by omega)
  obtain ⟨D, d1, d2, d3, d4⟩ := slope_ev A (by omega)
  have lA : A.length ≤ 100 := by omega
  have hw := roots_ev A (by omega) s.size (by omega)
  generalize hWdef : ((List.range s.size).filter fun n => decide (ev A (Y n) = 0)) = W at hw
  have hR := rright_ev s p (by omega) (by omega)
  rw [show decide (May s.size p ∧ Ok s p) = false from decide_eq_false fun q => hs q.2] at hR
  have hc := cut_ev M p (by omega)
  have go : ∀ R, (¬ Cond p K v A W → R = none') → (Cond p K v A W → Ev (fun k => rs_Decode.l0 k (p : Int) (IL b) (IL (toE s)) 0 (IL D) (NL W) (W.length : Int) 0) R) → Ev (fun k => rs_Decode.f k s (p : Int) l) R := by
    intro R hno hyes
    refine Ev.bind hk ?_
    have e1 : ∀ k : Nat, (rs_Check.f (s.size : Int) (p : Int)) = some true := fun k => by rw [check_eq, decide_eq_true hM]
    have hbad : ¬ Cond p K v A W → Ev (fun k => rs_Decode.j0 k s (p : Int) (IL b) (IL A) (NL W) true) R := fun q => by
      rw [hno q]
      refine Ev.step (f := fun _ => some none') (fun k => ?_) (Ev.now _)
      rw [rs_Decode.j0, if_pos rfl]
      rfl
    refine Ev.bind (a := true) (Ev.congr e1 (Ev.now _)) (ifp rfl (ifp (decide_eq_true hl) (Ev.bind hR (ifn (by simp) (Ev.bind g1 (Ev.bind (signs_ev s p (by omega) (by omega)) (Ev.bind m1 (Ev.bind hc ?_))))))))
    show Ev (fun k => (rs_solve.f k (IL (trim (M.take p))) (p : Int) ((NL K).length : Int)).bind fun bt322 => ((gf_Poly_Mul.f k bt322.1 (IL G)).bind fun t328 => ((rs_roots.f k t328 (s.size : Int)).bind fun t331 => (if (t331.length : Int) = 0 then (rs_Decode.j0 k s (p : Int) bt322.2 t328 t331 true) else ((gf_Poly_Degree.f k t328).bind fun t334 => (if (t331.length : Int) = t334 then ((gf_Poly_Degree.f k bt322.1).bind fun t335 => (rs_Decode.j0 k s (p : Int) bt322.2 t328 t331 (decide ((wrap64 ((wrap64 (2 * t335)) + ((NL K).length : Int))) > (p : Int))))) else (rs_Decode.j0 k s (p : Int) bt322.2 t328 t331 true))))))) R
    rw [NL_length]
    refine Ev.bind s1 (Ev.bind a1 (Ev.bind hw ?_))
    by_cases c1 : W.length = 0
    · exact ifp (by rw [NL_length]; omega) (hbad fun q => q.1 c1)
    · refine ifn (by rw [NL_length]; omega) (Ev.bind (deg_ev (by omega) a2) ?_)
      by_cases c2 : (W.length : Int) = (A.length : Int) - 1
      · refine ifp (by rw [NL_length]; exact c2) (Ev.bind (deg_ev (by omega) s2.tv) ?_)
        have e2 : wrap64 ((wrap64 (2 * ((v.length : Int) - 1))) + (K.length : Int)) = 2 * ((v.length : Int) - 1) + (K.length : Int) := by rw [w64 (n := 2 * ((v.length : Int) - 1)) (by omega) (by omega), w64 (by omega) (by omega)]
        rw [e2]
        by_cases c3 : 2 * ((v.length : Int) - 1) + (K.length : Int) > (p : Int)
        · rw [decide_eq_true c3]
          exact hbad fun q => by have := q.2.2; omega
        · rw [decide_eq_false c3]
          refine Ev.step (f := fun k => (gf_Poly_Slope.f k (IL A)).bind fun t339 => rs_Decode.l0 k (p : Int) (IL b) (IL (toE s)) 0 t339 (NL W) (W.length : Int) 0) (fun k => ?_) (Ev.bind d1 (hyes ⟨c1, c2, by omega⟩))
          rw [rs_Decode.j0, if_neg (by decide), if_pos (by omega), bytes_ofE, NL_length]
      · exact ifn (by rw [NL_length]; exact c2) (hbad fun q => c2 q.2.1)
  refine ⟨trim (M.take p), v, b, A, D, W, ⟨s2.tv, a2, by omega, lA, fun x => by rw [a4, g4], d4, d3, by omega, hWdef.symm, a, u, M, s2, s3, s4, by omega, fun x => by rw [m4, g4], fun x => ?_⟩, fun q => go _ (fun _ => rfl) (fun q' => absurd q' q), fun q R hR => go R (fun q' => absurd q q') (fun _ => hR)⟩
  rw [trim_ev]
  by_cases c : p ≤ M.length
  · conv => lhs; rw [← List.take_append_drop p M, ev_append, List.length_take, show min p M.length = p by omega]
  · rw [List.take_of_length_le (by omega), List.drop_eq_nil_of_le (by omega), ev_nil, mul_zero, add_zero]
end Go.Proofs.Ytpleeckbakllpaa.Gf
