/- A page is kept by the document's bytes, and comes back; no condition. -/
import Derived.Test.YtpleeckbakllpaaWvQ
import Derived.Test.YtpleeckbakllpaaWvP
import Derived.Test.YtpleeckbakllpaaWvC
import Derived.Test.YtpleeckbakllpaaGfJ
import Derived.Test.YtpleeckbakllpaaXWvx14
namespace Go.Proofs.Ytpleeckbakllpaa.Pure
open Go.RowKit Go.Proofs.Ytpleeckbakllpaa.XWv Go.Proofs.YtpleeckbakllpaaX.PrintWords Go.Proofs.YtpleeckbakllpaaX.PrintLast Go.Proofs.YtpleeckbakllpaaX.PrintMore Go.Proofs.Ytpleeckbakllpaa.Gf
set_option linter.unusedSimpArgs false
set_option linter.unusedVariables false
theorem mask255 (n : Int) : Go.bits .and .i64 n 255 = n % 256 := by
  have h : (BitVec.ofInt 64 255).toNat = 2 ^ 8 - 1 := by decide
  have key : (BitVec.ofInt 64 n &&& BitVec.ofInt 64 255).toNat = (n % ((2 ^ 64 : Nat) : Int)).toNat % 2 ^ 8 := by
    rw [BitVec.toNat_and, BitVec.toNat_ofInt, h, Nat.and_two_pow_sub_one_eq_mod]
  show IntKind.i64.wrap ((BitVec.ofInt 64 n &&& BitVec.ofInt 64 255).toNat : Nat) = n % 256
  rw [key, IntKind.wrap_i64]
  omega
theorem dec_right {s : ByteArray} {p : Nat} (hM : May s.size p) (o : Ok s p) : Ev (fun k => rs_Decode.f k s (p : Int) []) (s, 0, 0) := by
  obtain ⟨m1, m2, m3, m4⟩ := hM
  have hM : May s.size p := ⟨m1, m2, m3, m4⟩
  obtain ⟨K, kn, ks, km, hk⟩ := lost_ev [] s.size p (by omega) (by simp) (by simp)
  have hK : K = [] := by
    rw [List.eq_nil_iff_forall_not_mem]
    intro j hj
    have hjs := ks j hj
    have := (km (s.size - 1 - j) (by omega)).mp (by rw [show s.size - 1 - (s.size - 1 - j) = j by omega]; exact hj)
    simp at this
  subst hK
  have hc : rs_Check.f (s.size : Int) (p : Int) = some true := by rw [check_eq, decide_eq_true hM]
  have hR2 := rright_ev s p (by omega) (by omega)
  rw [show decide (May s.size p ∧ Ok s p) = true from decide_eq_true ⟨hM, o⟩] at hR2
  exact Ev.bind hk (Ev.bind (a := true) (Ev.congr (fun _ => hc) (Ev.now _)) (ifp rfl (ifp (by simp) (Ev.bind hR2 (ifp rfl (Ev.now _))))))
theorem sm_zero (n : Nat) : sm (fun _ => 0) n = 0 := by
  induction n with
  | zero => rfl
  | succ n ih => show sm _ n + 0 = 0; rw [ih]
theorem WeaveKeeps : tinderboxlaw29_WeaveKeeps.Pure := by
  intro a0 a1 a2 _ _ _
  apply Ev.rounds
  obtain ⟨N, n1, n2, eN⟩ : ∃ N : Nat, 1 ≤ N ∧ N ≤ 256 ∧ wrap64 (1 + (Go.bits .and .i64 a1 255)) = (N : Int) := by
    rw [mask255]
    exact ⟨(1 + a1 % 256).toNat, by omega, by omega, by rw [w64 (by omega) (by omega)]; omega⟩
  obtain ⟨P, p1, p2, eP⟩ : ∃ P : Nat, 2 ≤ P ∧ P ≤ 17 ∧ wrap64 (2 + (Go.bits .and .i64 (a1 / 256) 15)) = (P : Int) := by
    rw [mask15]
    exact ⟨(2 + a1 / 256 % 16).toNat, by omega, by omega, by rw [w64 (by omega) (by omega)]; omega⟩
  obtain ⟨W, D, hS, hE, _⟩ := shape_ev N P n1 (by omega) p1 (by omega)
  have h : Pg N P W D := ⟨n1, by omega, p1, by omega, hS⟩
  have hwp := h.wp
  obtain ⟨p, hp, hpe⟩ := page_ev a0 N (by omega)
  obtain ⟨raw, hr, hb, hok, he⟩ := encodes h hE p hp a2
  have hd := decodes h hE p raw raw hp hr hr a2 hb [] (by simp) (fun _ => 0) (fun _ _ => by omega) (fun n hn => by
    have hz : (partB raw W n).size = plen N W n + P := by rw [partB_size, hr, plen_add hS.w1 (by have := hS.wN; omega)]
    have := dec_right (s := partB raw W n) (p := P) (by rw [hz]; exact h.word hn) (hok n hn)
    exact this)
  rw [sm_zero] at hd
  have hk := kept_ev h p raw hp hr a2 hb hok
  have he2 := encode_no h hE (p ++ (⟨#[120]⟩ : ByteArray)) (by rw [ByteArray.size_append, hp]; show N + 1 ≠ N; omega) a2
  have hd2 := decode_no h hE (raw ++ (⟨#[120]⟩ : ByteArray)) (by rw [ByteArray.size_append, hr]; show N + W * P + 1 ≠ N + W * P; omega) a2 []
  have hj : Ev (fun k => tinderboxlaw29_WeaveKeeps.j0 k a0 a2 (N : Int) false (W : Int) (D : Int) (P : Int) ((N + W * P : Nat) : Int)) true := by
    refine Ev.step (fun k => by rw [tinderboxlaw29_WeaveKeeps.j0, if_neg (by decide)]) (Ev.bind hpe (Ev.bind he (Ev.bind hd (ifp ?_ (Ev.bind he2 (ifp ?_ (Ev.bind hd2 (ifp rfl (Ev.bind hk (ifp rfl (ifp rfl (ifp rfl (ifp rfl (ifp rfl (Ev.now _)))))))))))))))
    · show p.size + 1 ≤ _
      omega
    · show raw.size + 1 ≤ _
      omega
  refine Ev.congr (f := fun k => (weave_ShapeOf.f k (N : Int) (P : Int)).bind fun bt475 => ((tinderboxlaw29_awake.f k).bind fun t481 => (if t481 = true then (tinderboxlaw29_WeaveKeeps.j0 k a0 a2 (N : Int) (!bt475.2.2.2.2) bt475.1 bt475.2.1 bt475.2.2.1 bt475.2.2.2.1) else (tinderboxlaw29_WeaveKeeps.j0 k a0 a2 (N : Int) true bt475.1 bt475.2.1 bt475.2.2.1 bt475.2.2.2.1)))) (fun k => by rw [tinderboxlaw29_WeaveKeeps.f, eN, eP]) (Ev.bind hE (Ev.bind awake_ev (ifp rfl hj)))
end Go.Proofs.Ytpleeckbakllpaa.Pure
