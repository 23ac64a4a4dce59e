/- The document's bytes that look like chance are the program's; no condition. -/
import Derived.Test.YtpleeckbakllpaaWvS
namespace Go.Proofs.Ytpleeckbakllpaa.Gf
open Go.RowKit Go.Proofs.YtpleeckbakllpaaX.PrintWords Go.Proofs.YtpleeckbakllpaaX.PrintLast Go.Proofs.YtpleeckbakllpaaX.PrintMore Go.Proofs.Ytpleeckbakllpaa.XWv
set_option linter.unusedSimpArgs false
set_option linter.unusedVariables false
theorem rmask_in (n : Int) (y : List E) (i : Nat) (hi : i < 1000000) (hy : y.length = i) {R : ByteArray} (r : Nat) : ∀ (x j : Nat), j + r = 8 → x < 65536 →
    Ev (fun k => tinderboxref29_Mask.l0 k n (stpn r x : Nat) (IL (y ++ [E.of (stpn r x)])) ((i + 1 : Nat) : Int)) R → Ev (fun k => tinderboxref29_Mask.l1 k n (x : Int) (IL y) (i : Int) (j : Int)) R := by
  induction r with
  | zero =>
    intro x j hj hx h
    have e : Int.tmod (x : Int) 256 % 256 = I (E.of x) := by
      rw [I_of, show Int.tmod (x : Int) 256 = ((x % 256 : Nat) : Int) from rfl]
      omega
    refine Ev.step (fun k => ?_) h
    rw [tinderboxref29_Mask.l1, if_neg (by omega), if_pos (by rw [IL_length]; omega), w64 (by omega) (by omega), IL_append, e]
    rfl
  | succ r ih =>
    intro x j hj hx h
    have ej : wrap64 ((j : Int) + 1) = ((j + 1 : Nat) : Int) := by rw [w64 (by omega) (by omega)]; omega
    have e2 : IntKind.u64.wrap (Int.tdiv (x : Int) 2) = ((x / 2 : Nat) : Int) := by
      rw [show Int.tdiv (x : Int) 2 = ((x / 2 : Nat) : Int) from rfl, IntKind.wrap_u64]
      omega
    have e3 : Int.tmod (x : Int) 2 = ((x % 2 : Nat) : Int) := rfl
    refine Ev.step (fun k => ?_) (ih (stp x) (j + 1) (by omega) (stp_lt hx) h)
    rw [tinderboxref29_Mask.l1, if_pos (by omega), e3, ej, e2]
    unfold stp
    by_cases c : x % 2 = 1
    · rw [if_pos (by omega), if_pos c, show (46080 : Int) = ((46080 : Nat) : Int) from rfl, xor64 _ _ (by omega) (by omega)]
    · rw [if_neg (by omega), if_neg c]
theorem rmask_loop (N : Nat) (hN : N < 1000000) (r : Nat) : ∀ (x : Nat) (y : List E) (i : Nat), i + r = N → x < 65536 → y.length = i →
    Ev (fun k => tinderboxref29_Mask.l0 k (N : Int) (x : Int) (IL y) (i : Int)) (ofE (y ++ mk x r)) := by
  induction r with
  | zero =>
    intro x y i hi hx hy
    refine Ev.step (f := fun _ => some (ofE y)) (fun k => ?_) ?_
    · rw [tinderboxref29_Mask.l0, if_neg (by omega)]; rfl
    · rw [mk, List.append_nil]; exact Ev.now _
  | succ r ih =>
    intro x y i hi hx hy
    have h := ih (stpn 8 x) (y ++ [E.of (stpn 8 x)]) (i + 1) (by omega) (stpn_lt 8 hx) (by rw [List.length_append, hy]; rfl)
    rw [List.append_assoc, List.singleton_append] at h
    refine Ev.step (fun k => ?_) (rmask_in (N : Int) y i (by omega) hy 8 x 0 (by omega) hx h)
    rw [tinderboxref29_Mask.l0, if_pos (by omega)]
    rfl
theorem rmask_ev (seed n : Int) (hn : n < 1000000) : Ev (fun k => tinderboxref29_Mask.f k seed n) (maskB seed n.toNat) := by
  have es : Int.tmod (IntKind.u64.wrap ((IntKind.u64.wrap (IntKind.u16.wrap seed)) * 40503)) 65536 = (((seed * 40503 % 65536).toNat : Nat) : Int) := by
    rw [IntKind.wrap_u16, IntKind.wrap_u64, IntKind.wrap_u64, Int.tmod_eq_emod_of_nonneg (by omega)]
    omega
  have ex : Go.bits .xor .u64 (((seed * 40503 % 65536).toNat : Nat) : Int) 44257 = (((seed * 40503 % 65536).toNat ^^^ 44257 : Nat) : Int) := by
    rw [show (44257 : Int) = ((44257 : Nat) : Int) from rfl, xor64 _ _ (by omega) (by omega)]
  have j0 : Ev (fun k => tinderboxref29_Mask.j0 k n (mstart seed : Nat)) (maskB seed n.toNat) := by
    by_cases c : n ≤ 0
    · refine Ev.step (f := fun k => tinderboxref29_Mask.l0 k n (mstart seed : Nat) [] 0) (fun k => by rw [tinderboxref29_Mask.j0]) (Ev.step (f := fun _ => some (ofE [])) (fun k => ?_) ?_)
      · rw [tinderboxref29_Mask.l0, if_neg (by omega)]; rfl
      · unfold maskB
        rw [show n.toNat = 0 by omega]
        exact Ev.now _
    · have h := rmask_loop n.toNat (by omega) n.toNat (mstart seed) [] 0 (by omega) (mstart_lt seed) rfl
      rw [show ((n.toNat : Nat) : Int) = n by omega] at h
      exact Ev.step (fun k => by rw [tinderboxref29_Mask.j0]; rfl) h
  refine Ev.congr (fun k => ?_) j0
  rw [tinderboxref29_Mask.f, es, ex]
  unfold mstart
  by_cases c : (seed * 40503 % 65536).toNat ^^^ 44257 = 0
  · rw [if_pos (by omega), if_pos c]
    rfl
  · rw [if_neg (by omega), if_neg c]
end Go.Proofs.Ytpleeckbakllpaa.Gf
