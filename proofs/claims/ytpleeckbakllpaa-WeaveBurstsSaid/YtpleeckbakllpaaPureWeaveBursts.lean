/- Bytes side by side that are others are made right, wherever they begin; no condition. -/
import Derived.Test.YtpleeckbakllpaaWvD
import Derived.Test.YtpleeckbakllpaaWvP
import Derived.Test.YtpleeckbakllpaaXWvx15
namespace Go.Proofs.Ytpleeckbakllpaa.Pure
open Go.RowKit Go.Proofs.Ytpleeckbakllpaa.XWv Go.Proofs.YtpleeckbakllpaaX.PrintWords Go.Proofs.YtpleeckbakllpaaX.PrintLast Go.Proofs.YtpleeckbakllpaaX.PrintMore Go.Proofs.Ytpleeckbakllpaa.Gf
set_option linter.unusedSimpArgs false
set_option linter.unusedVariables false
/-- What a byte is changed by. -/
def fb (l : List Int) (x : Nat) : E := E.of (rd l (x : Int)).toNat
def cnt (l : List Int) (x : Nat) : Nat := ((List.range x).filter fun x => decide (fb l x ≠ 0)).length
theorem cnt_le (l : List Int) (x : Nat) : cnt l x ≤ x := by
  have := List.length_filter_le (fun x => decide (fb l x ≠ 0)) (List.range x)
  rw [List.length_range] at this
  exact this
theorem cnt_succ (l : List Int) (x : Nat) : cnt l (x + 1) = cnt l x + (if fb l x = 0 then 0 else 1) := by
  unfold cnt
  rw [List.range_succ, List.filter_append, List.length_append]
  by_cases c : fb l x = 0
  · rw [if_pos c, List.filter_cons_of_neg (by simp [c])]; rfl
  · rw [if_neg c, List.filter_cons_of_pos (by simp [c])]; rfl
/-- The bytes with the first ones of a burst changed. -/
def Bst (raw : ByteArray) (l : List Int) (k x : Nat) (z : List E) : Prop := z.length = 274 ∧ ∀ i, i < 274 → z.getD i 0 = bat raw i + (if k ≤ i ∧ i < k + x then fb l (i - k) else 0)
theorem bst_step {raw : ByteArray} {l : List Int} {k x : Nat} {z : List E} (hz : Bst raw l k x z) (hk : k + x < 274) : Bst raw l k (x + 1) (z.set (k + x) (z.getD (k + x) 0 + fb l x)) := by
  refine ⟨by rw [List.length_set, hz.1], fun i hi => ?_⟩
  rw [getD_set _ _ _ _ (by rw [hz.1]; exact hk)]
  by_cases c : k + x = i
  · have e := hz.2 (k + x) hk
    rw [if_neg (show ¬ (k ≤ k + x ∧ k + x < k + x) by omega), add_zero] at e
    rw [if_pos c, if_pos (show k ≤ i ∧ i < k + (x + 1) by omega), e, ← c, show k + x - k = x by omega]
  · rw [if_neg c, hz.2 i hi]
    by_cases d : k ≤ i ∧ i < k + x
    · rw [if_pos d, if_pos (show k ≤ i ∧ i < k + (x + 1) by omega)]
    · rw [if_neg d, if_neg (show ¬ (k ≤ i ∧ i < k + (x + 1)) by omega)]
theorem burst_byte (l : List Int) (hl : ∀ x ∈ l, 0 ≤ x ∧ x < 256) (x : Nat) (hxl : x < l.length) : rd l (x : Int) = I (fb l x) := by
  have e0 : rd l (x : Int) = l[x] := by
    show l.getD ((x : Int)).toNat 0 = _
    rw [Int.toNat_natCast, List.getD_eq_getElem?_getD, List.getElem?_eq_getElem hxl]; rfl
  have h := hl _ (List.getElem_mem hxl)
  unfold fb
  rw [e0, I_of]
  omega
theorem burst_last (p raw : ByteArray) (hp : p.size = 250) (hr : raw.size = 274) (hb : ∀ i, i < 250 → bat raw i = bat (mixB p (maskB 7 250)) i) (hok : ∀ n, n < 3 → Ok (partB raw 3 n) 8) (l : List Int) (k x : Nat) (hk : k < 262) (hx : x ≤ 12) (z : List E) (hz : Bst raw l k x z) :
    Ev (fun q => weave_Decode.f q (ofE z) 3 84 8 274 7 []) (p, ((cnt l x : Nat) : Int), 0) := by
  have hne : ∀ i, i < 274 → (bat (ofE z) i ≠ bat raw i ↔ (k ≤ i ∧ i < k + x) ∧ fb l (i - k) ≠ 0) := fun i hi => by
    rw [bat_ofE, hz.2 i hi]
    by_cases c : k ≤ i ∧ i < k + x
    · rw [if_pos c]
      refine ⟨fun q => ⟨c, fun e => q (by rw [e, add_zero])⟩, fun q e => q.2 ?_⟩
      have := congrArg (fun y => bat raw i + y) e
      simp only [add_self_left, add_self] at this
      exact this
    · rw [if_neg c, add_zero]
      exact ⟨fun q => absurd rfl q, fun q => absurd q.1 c⟩
  have h := comes_back pg250 shape250 p raw (ofE z) hp hr (by rw [size_ofE, hz.1]) 7 hb hok [] (by simp) (fun _ => []) (fun n => (List.range 4).map fun q => (k + 2 - n) / 3 + q) (fun _ _ => by simp) (fun _ _ j hj => by simp at hj) (fun n hn j hj => by simp) (fun n hn j hj hd _ => by
    have hj : n + 3 * j < 274 := hj
    have hc := ((hne (n + 3 * j) hj).mp hd).1
    rw [List.mem_map]
    refine ⟨j - (k + 2 - n) / 3, ?_, by omega⟩
    rw [List.mem_range]
    omega) (fun n hn => by simp)
  have e : ((List.range 274).filter fun i => decide (bat (ofE z) i ≠ bat raw i)).length = cnt l x := by
    have hp : ((List.range 274).filter fun i => decide (bat (ofE z) i ≠ bat raw i)).Perm (((List.range x).filter fun x => decide (fb l x ≠ 0)).map fun i => k + i) := by
      rw [List.perm_ext_iff_of_nodup (nodup_filter _ List.nodup_range) ?_]
      · intro i
        rw [List.mem_filter, List.mem_range, List.mem_map, decide_eq_true_eq]
        constructor
        · rintro ⟨h1, h2⟩
          obtain ⟨h3, h4⟩ := (hne i h1).mp h2
          refine ⟨i - k, ?_, by omega⟩
          rw [List.mem_filter, List.mem_range, decide_eq_true_eq]
          exact ⟨by omega, h4⟩
        · rintro ⟨y, hy, rfl⟩
          rw [List.mem_filter, List.mem_range, decide_eq_true_eq] at hy
          have hlt : k + y < 274 := by omega
          exact ⟨hlt, (hne (k + y) hlt).mpr ⟨⟨by omega, by omega⟩, by rw [show k + y - k = y by omega]; exact hy.2⟩⟩
      · rw [List.nodup_iff_pairwise_ne, List.pairwise_map]
        have hd : ((List.range x).filter fun x => decide (fb l x ≠ 0)).Nodup := nodup_filter _ List.nodup_range
        rw [List.nodup_iff_pairwise_ne] at hd
        exact hd.imp fun hab e => hab (by omega)
    have := hp.length_eq
    rwa [List.length_map] at this
  rw [show 250 + 3 * 8 = 274 from rfl, e] at h
  exact h
theorem burst_loop (p raw : ByteArray) (hp : p.size = 250) (hr : raw.size = 274) (hb : ∀ i, i < 250 → bat raw i = bat (mixB p (maskB 7 250)) i) (hok : ∀ n, n < 3 → Ok (partB raw 3 n) 8) (l : List Int) (hl : ∀ x ∈ l, 0 ≤ x ∧ x < 256) (k : Nat) (hk : k < 262) (r : Nat) :
    ∀ (z : List E) (x : Nat), x + r = min 12 l.length → Bst raw l k x z → Ev (fun q => tinderboxlaw29_WeaveBursts.l0 q l p (IL z) 12 ((cnt l x : Nat) : Int) (k : Int) (x : Int) 3 84 8 274) true := by
  induction r with
  | zero =>
    intro z x hx hz
    have h := burst_last p raw hp hr hb hok l k x hk (by omega) z hz
    refine Ev.step (f := fun q => tinderboxlaw29_WeaveBursts.j2 q l p (IL z) 12 ((cnt l x : Nat) : Int) (k : Int) (x : Int) false 3 84 8 274) (fun q => ?_) (Ev.step (f := fun q => (weave_Decode.f q (ofE z) 3 84 8 274 7 []).bind fun bt511 => (if bt511.2.2 = 0 then (if bt511.1.toList = p.toList then (some (bt511.2.1 == ((cnt l x : Nat) : Int))) else (some false)) else (some false))) (fun q => ?_) (Ev.bind h (ifp rfl (ifp rfl ?_))))
    · rw [tinderboxlaw29_WeaveBursts.l0]
      by_cases c : (x : Int) < 12
      · rw [if_pos c, decide_eq_false (by omega)]
      · rw [if_neg c]
    · rw [tinderboxlaw29_WeaveBursts.j2, if_neg (by decide)]
      rfl
    · rw [beq_self_eq_true]
      exact Ev.now _
  | succ r ih =>
    intro z x hx hz
    have hxl : x < l.length := by omega
    have hx12 : x < 12 := by omega
    have hxr : x + 1 + r = min 12 l.length := by omega
    have hkx : k + x < 274 := by omega
    have ek : wrap64 ((k : Int) + (x : Int)) = ((k + x : Nat) : Int) := by rw [w64 (by omega) (by omega)]; omega
    have e1 : wrap64 ((x : Int) + 1) = ((x + 1 : Nat) : Int) := by rw [w64 (by omega) (by omega)]; omega
    have f1 : (x : Int) < (l.length : Int) := by omega
    have f2 : ((k + x : Nat) : Int) < ((IL z).length : Int) := by rw [IL_length, hz.1]; omega
    have g1 : (x : Int) < 12 := by omega
    have e2 : ∀ c : Nat, c ≤ x → wrap64 ((c : Int) + 1) = ((c + 1 : Nat) : Int) := fun c hc => by rw [w64 (by omega) (by omega)]; omega
    have ef := burst_byte l hl x hxl
    have hz2 := bst_step hz hkx
    have next := ih _ (x + 1) hxr hz2
    rw [cnt_succ] at next
    refine Ev.step (f := fun q => tinderboxlaw29_WeaveBursts.j2 q l p (IL z) 12 ((cnt l x : Nat) : Int) (k : Int) (x : Int) true 3 84 8 274) (fun q => ?_) ?_
    · rw [tinderboxlaw29_WeaveBursts.l0, if_pos g1, decide_eq_true f1]
    · by_cases c : fb l x = 0
      · rw [if_pos c, Nat.add_zero] at next
        refine Ev.step (fun q => ?_) next
        rw [tinderboxlaw29_WeaveBursts.j2, if_pos rfl, ek, if_pos (Int.natCast_nonneg _), if_pos f2, if_pos (Int.natCast_nonneg x), if_pos f1, Option.bind_some, ef, if_pos (I_eq_zero.mpr c), rd_IL, I_xor, Int.toNat_natCast, ← IL_set, e1]
      · rw [if_neg c] at next
        have e2 := e2 (cnt l x) (cnt_le l x)
        refine Ev.step (fun q => ?_) next
        rw [tinderboxlaw29_WeaveBursts.j2, if_pos rfl, ek, if_pos (Int.natCast_nonneg _), if_pos f2, if_pos (Int.natCast_nonneg x), if_pos f1, Option.bind_some, ef, if_neg (fun q => c (I_eq_zero.mp q)), rd_IL, I_xor, Int.toNat_natCast, ← IL_set, e1, e2]
theorem WeaveBursts : tinderboxlaw29_WeaveBursts.Pure := by
  intro a0 a1 l2 _ _ _ _ hwf
  apply Ev.rounds
  have hl : ∀ x ∈ l2, 0 ≤ x ∧ x < 256 := fun x hx => by
    have h := hwf x hx
    have h1 : IntKind.u8.min = 0 := by decide
    have h2 : IntKind.u8.max = 255 := by decide
    simp [Lit.wf, h1, h2] at h
    omega
  obtain ⟨p, hp, hpe⟩ := page_ev a0 250 (by omega)
  obtain ⟨raw, hr, hb, hok, he⟩ := encodes pg250 shape250 p hp 7
  obtain ⟨k, hk, ek⟩ := place a1 12 (by omega) (by omega)
  have bl : (bytesOf raw).length = 274 := by rw [← IL_toE, IL_length, toE_length, hr]
  have h0 := burst_loop p raw hp hr hb hok l2 hl k (by omega) (min 12 l2.length) (toE raw) 0 (by omega) ⟨by rw [toE_length, hr], fun i hi => by rw [if_neg (by omega), add_zero]; rfl⟩
  have hj : Ev (fun q => tinderboxlaw29_WeaveBursts.j0 q a0 a1 l2 false 3 84 8 274) true := by
    refine Ev.step (f := fun q => (tinderboxlaw29_page.f q a0 250).bind fun t501 => ((weave_Encode.f q t501 3 84 8 274 7).bind fun bt502 => (if bt502.2 = 0 then (if bt502.1.size ≤ 9223372036854775807 then ((some (bytesOf bt502.1 : List Int)).bind fun y504 => (if (wrap64 ((y504.length : Int) - 12)) = 0 then (none) else (tinderboxlaw29_WeaveBursts.l0 q l2 t501 y504 12 0 (Int.tmod (wrap64 ((wrap64 ((Int.tmod a1 (wrap64 ((y504.length : Int) - 12))) + (y504.length : Int))) - 12)) (wrap64 ((y504.length : Int) - 12))) 0 3 84 8 274))) else (none)) else (some false)))) (fun q => by rw [tinderboxlaw29_WeaveBursts.j0, if_neg (by decide)])
      (Ev.bind hpe (Ev.bind he (ifp rfl (ifp ?_ (Ev.bind (Ev.now _) ?_)))))
    · show raw.size ≤ _
      omega
    · show Ev (fun q => if (wrap64 (((bytesOf raw).length : Int) - 12)) = 0 then none else tinderboxlaw29_WeaveBursts.l0 q l2 p (bytesOf raw) 12 0 (Int.tmod (wrap64 ((wrap64 ((Int.tmod a1 (wrap64 (((bytesOf raw).length : Int) - 12))) + ((bytesOf raw).length : Int))) - 12)) (wrap64 (((bytesOf raw).length : Int) - 12))) 0 3 84 8 274) true
      rw [bl]
      refine ifn (by rw [w64 (by omega) (by omega)]; omega) ?_
      rw [show ((274 : Nat) : Int) = (274 : Int) from rfl, ek, ← IL_toE]
      exact h0
  refine Ev.bind shape250 (Ev.bind awake_ev (ifp rfl (ifp rfl ?_)))
  exact hj
end Go.Proofs.Ytpleeckbakllpaa.Pure
