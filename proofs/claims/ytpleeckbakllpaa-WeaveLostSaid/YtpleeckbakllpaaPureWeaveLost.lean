/- Bytes that are known as lost are made right, as many in each word as check it; no condition. -/
import Derived.Test.YtpleeckbakllpaaWvD
import Derived.Test.YtpleeckbakllpaaWvP
import Derived.Test.YtpleeckbakllpaaXWvx16
namespace Go.Proofs.Ytpleeckbakllpaa.Pure
open Go.RowKit Go.Proofs.Ytpleeckbakllpaa.XWv Go.Proofs.YtpleeckbakllpaaX.PrintWords Go.Proofs.YtpleeckbakllpaaX.PrintLast Go.Proofs.YtpleeckbakllpaaX.PrintMore Go.Proofs.Ytpleeckbakllpaa.Gf
set_option linter.unusedSimpArgs false
set_option linter.unusedVariables false
/-- The places that are told as lost. -/
def lst (k x : Nat) : List Int := [(-1 : Int), (274 : Int)] ++ (List.range x).map fun i => ((k + i : Nat) : Int)
theorem mem_lst (k x j : Nat) (hj : j < 274) : (j : Int) ∈ lst k x ↔ k ≤ j ∧ j < k + x := by
  unfold lst
  rw [List.mem_append, List.mem_map]
  constructor
  · rintro (h | ⟨i, hi, e⟩)
    · simp at h
      omega
    · have := List.mem_range.mp hi
      omega
  · rintro ⟨h1, h2⟩
    exact .inr ⟨j - k, List.mem_range.mpr (by omega), by omega⟩
theorem lst_length (k x : Nat) : (lst k x).length = x + 2 := by
  unfold lst
  rw [List.length_append, List.length_map, List.length_range]
  simp
  omega
/-- The bytes with some places filled. -/
def Fil (raw : ByteArray) (k x : Nat) (z : List E) : Prop := z.length = 274 ∧ ∀ i, i < 274 → ¬ (k ≤ i ∧ i < k + x) → z.getD i 0 = bat raw i
theorem lost_last (p raw : ByteArray) (hp : p.size = 250) (hr : raw.size = 274) (hb : ∀ i, i < 250 → bat raw i = bat (mixB p (maskB 3 250)) i) (hok : ∀ n, n < 3 → Ok (partB raw 3 n) 8) (k : Nat) (hk : k < 250) (z : List E) (hz : Fil raw k 24 z) :
    ∃ c : Int, Ev (fun q => weave_Decode.f q (ofE z) 3 84 8 274 3 (lst k 24)) (p, c, 0) := by
  have h := comes_back pg250 shape250 p raw (ofE z) hp hr (by rw [size_ofE, hz.1]) 3 hb hok (lst k 24) (by rw [lst_length]; omega) (fun n => (List.range 8).map fun q => (k + 2 - n) / 3 + q) (fun _ => []) (fun n hn => by
    rw [List.nodup_iff_pairwise_ne, List.pairwise_map]
    have hd : (List.range 8).Nodup := List.nodup_range
    rw [List.nodup_iff_pairwise_ne] at hd
    exact hd.imp fun hab e => hab (by omega)) (fun n hn j hj => by
    rw [List.mem_map] at hj
    obtain ⟨q, hq, e⟩ := hj
    have := List.mem_range.mp hq
    show n + 3 * j < 274
    omega) (fun n hn j hj => by
    have hj : n + 3 * j < 274 := hj
    rw [mem_lst k 24 (n + 3 * j) hj, List.mem_map]
    constructor
    · rintro ⟨q, hq, e⟩
      have := List.mem_range.mp hq
      omega
    · rintro ⟨h1, h2⟩
      refine ⟨j - (k + 2 - n) / 3, ?_, by omega⟩
      rw [List.mem_range]
      omega) (fun n hn j hj hd hl => by
    have hj : n + 3 * j < 274 := hj
    refine absurd ?_ hd
    rw [bat_ofE]
    refine hz.2 _ hj fun q => hl ?_
    rw [List.mem_map]
    refine ⟨j - (k + 2 - n) / 3, ?_, by omega⟩
    rw [List.mem_range]
    omega) (fun n hn => by simp)
  exact ⟨_, h⟩
theorem lost_loop (p raw : ByteArray) (hp : p.size = 250) (hr : raw.size = 274) (hb : ∀ i, i < 250 → bat raw i = bat (mixB p (maskB 3 250)) i) (hok : ∀ n, n < 3 → Ok (partB raw 3 n) 8) (f : E) (k : Nat) (hk : k < 250) (r : Nat) :
    ∀ (z : List E) (x : Nat), x + r = 24 → Fil raw k x z → Ev (fun q => tinderboxlaw29_WeaveLost.l0 q (I f) p (IL z) (lst k x) 24 (k : Int) (x : Int) 3 84 8 274) true := by
  induction r with
  | zero =>
    intro z x hx hz
    obtain rfl : x = 24 := by omega
    obtain ⟨c, h⟩ := lost_last p raw hp hr hb hok k hk z hz
    refine Ev.step (f := fun q => (weave_Decode.f q (ofE z) 3 84 8 274 3 (lst k 24)).bind fun bt534 => (if bt534.2.2 = 0 then (some (bt534.1.toList == p.toList)) else (some false))) (fun q => ?_) (Ev.bind h (ifp rfl ?_))
    · rw [tinderboxlaw29_WeaveLost.l0, if_neg (by omega)]
      rfl
    · simp only [beq_self_eq_true]
      exact Ev.now _
  | succ r ih =>
    intro z x hx hz
    have ek : wrap64 ((k : Int) + (x : Int)) = ((k + x : Nat) : Int) := by rw [w64 (by omega) (by omega)]; omega
    have e1 : wrap64 ((x : Int) + 1) = ((x + 1 : Nat) : Int) := by rw [w64 (by omega) (by omega)]; omega
    have el : lst k x ++ [((k + x : Nat) : Int)] = lst k (x + 1) := by
      unfold lst
      rw [List.range_succ, List.map_append, List.append_assoc]
      rfl
    have hz2 : Fil raw k (x + 1) (z.set (k + x) f) := ⟨by rw [List.length_set, hz.1], fun i hi c => by
      rw [getD_set _ _ _ _ (by rw [hz.1]; omega), if_neg (by omega)]
      exact hz.2 i hi (by omega)⟩
    have next := ih _ (x + 1) (by omega) hz2
    have f2 : ((k + x : Nat) : Int) < ((IL z).length : Int) := by rw [IL_length, hz.1]; omega
    refine Ev.step (fun q => ?_) next
    rw [tinderboxlaw29_WeaveLost.l0, if_pos (by omega), ek, if_pos (Int.natCast_nonneg _), if_pos f2, if_pos (by rw [lst_length]; omega), Int.toNat_natCast, ← IL_set, e1, el]
theorem WeaveLost : tinderboxlaw29_WeaveLost.Pure := by
  intro a0 a1 a2 _ _ hwf
  apply Ev.rounds
  have ha : 0 ≤ a2 ∧ a2 < 256 := by
    have h1 : IntKind.u8.min = 0 := by decide
    have h2 : IntKind.u8.max = 255 := by decide
    simp [Lit.wf, h1, h2] at hwf
    omega
  have ef : a2 = I (E.of a2.toNat) := by rw [I_of]; omega
  rw [ef]
  generalize E.of a2.toNat = f
  obtain ⟨p, hp, hpe⟩ := page_ev a0 250 (by omega)
  obtain ⟨raw, hr, hb, hok, he⟩ := encodes pg250 shape250 p hp 3
  obtain ⟨k, hk, ek⟩ := place a1 24 (by omega) (by omega)
  have bl : (bytesOf raw).length = 274 := by rw [← IL_toE, IL_length, toE_length, hr]
  have h0 := lost_loop p raw hp hr hb hok f k (by omega) 24 (toE raw) 0 (by omega) ⟨by rw [toE_length, hr], fun i hi _ => rfl⟩
  have hj : Ev (fun q => tinderboxlaw29_WeaveLost.j0 q a0 a1 (I f) false 3 84 8 274) true := by
    refine Ev.step (f := fun q => (tinderboxlaw29_page.f q a0 250).bind fun t521 => ((weave_Encode.f q t521 3 84 8 274 3).bind fun bt522 => (if bt522.2 = 0 then (if bt522.1.size ≤ 9223372036854775807 then ((some (bytesOf bt522.1 : List Int)).bind fun y524 => (if (wrap64 ((y524.length : Int) - 24)) = 0 then (none) else (tinderboxlaw29_WeaveLost.l0 q (I f) t521 y524 (([(-1), (bt522.1.size : Int)] : List Int)) 24 (Int.tmod (wrap64 ((wrap64 ((Int.tmod a1 (wrap64 ((y524.length : Int) - 24))) + (y524.length : Int))) - 24)) (wrap64 ((y524.length : Int) - 24))) 0 3 84 8 274))) else (none)) else (some false)))) (fun q => by rw [tinderboxlaw29_WeaveLost.j0, if_neg (by decide)])
      (Ev.bind hpe (Ev.bind he (ifp rfl (ifp ?_ (Ev.bind (Ev.now _) ?_)))))
    · show raw.size ≤ _
      omega
    · show Ev (fun q => if (wrap64 (((bytesOf raw).length : Int) - 24)) = 0 then none else tinderboxlaw29_WeaveLost.l0 q (I f) p (bytesOf raw) (([(-1), (raw.size : Int)] : List Int)) 24 (Int.tmod (wrap64 ((wrap64 ((Int.tmod a1 (wrap64 (((bytesOf raw).length : Int) - 24))) + ((bytesOf raw).length : Int))) - 24)) (wrap64 (((bytesOf raw).length : Int) - 24))) 0 3 84 8 274) true
      rw [bl, hr]
      refine ifn (by rw [w64 (by omega) (by omega)]; omega) ?_
      rw [show ((274 : Nat) : Int) = (274 : Int) from rfl, ek, ← IL_toE]
      exact h0
  refine Ev.bind shape250 (Ev.bind awake_ev (ifp rfl ?_))
  exact hj
end Go.Proofs.Ytpleeckbakllpaa.Pure
