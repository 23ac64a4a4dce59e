/- Two right words of one length are the same or apart by more than so many bytes; no condition. -/
import Derived.Test.YtconplohaaohlaaGfI
import Derived.Test.YtconplohaaohlaaXRsx11
namespace Go.Proofs.Ytconplohaaohlaa.Pure
open Go.RowKit Go.Proofs.Ytconplohaaohlaa.XRs Go.Proofs.YtconplohaaohlaaX.PrintWords Go.Proofs.YtconplohaaohlaaX.PrintLast Go.Proofs.YtconplohaaohlaaX.PrintMore Go.Proofs.Ytconplohaaohlaa.Gf
set_option linter.unusedSimpArgs false
set_option linter.unusedVariables false
def differ (v w : ByteArray) (i : Nat) : Bool := bt v (i : Int) != bt w (i : Int)
theorem far_loop (n : Nat) (v w : ByteArray) (h : v.size = w.size) (hN : v.size ≤ 255) (hn : n ≤ 32) (r : Nat) : ∀ (c i : Nat), i + r = v.size → c ≤ i → (c + ((List.range' i r).filter (differ v w)).length ≤ n → v = w) →
    Ev (fun k => tinderboxlaw28_RsFar.l0 k (n : Int) v 0 w 0 (c : Int) (i : Int)) true := by
  induction r with
  | zero =>
    intro c i hi hc H
    refine Ev.step (f := fun k => tinderboxlaw28_RsFar.j1 k (n : Int) v 0 w 0 (c : Int) (i : Int) false) (fun k => ?_) ?_
    · rw [tinderboxlaw28_RsFar.l0, if_neg (by omega)]
    · refine Ev.step (f := fun k => (tinderboxlaw28_awake.f k).bind fun t454 => (if t454 = true then (if (0 : Int) = 0 then (if (0 : Int) = 0 then (if (c : Int) > (n : Int) then (some true) else (some (v.toList == w.toList))) else (some false)) else (some false)) else (some false))) (fun k => ?_) (Ev.bind awake_ev (ifp rfl (ifp rfl (ifp rfl ?_))))
      · rw [tinderboxlaw28_RsFar.j1, if_neg (by decide)]
      · by_cases d : (c : Int) > (n : Int)
        · exact ifp d (Ev.now _)
        · refine ifn d ?_
          have : v = w := H (by simp; omega)
          subst this
          have e : (v.toList == v.toList) = true := by simp
          rw [e]
          exact Ev.now _
  | succ r ih =>
    intro c i hi hc H
    rw [List.range'_succ] at H
    refine Ev.step (f := fun k => tinderboxlaw28_RsFar.j1 k (n : Int) v 0 w 0 (c : Int) (i : Int) true) (fun k => ?_) ?_
    · rw [tinderboxlaw28_RsFar.l0, if_pos (by omega), decide_eq_true (by omega)]
    · by_cases d : bt v (i : Int) = bt w (i : Int)
      · have hd : ¬ differ v w i = true := by unfold differ; simp [d]
        rw [List.filter_cons_of_neg hd] at H
        refine Ev.step (fun k => ?_) (ih c (i + 1) (by omega) (by omega) H)
        rw [tinderboxlaw28_RsFar.j1, if_pos rfl, if_pos (by omega), if_pos (by omega), if_pos (by omega), if_pos d, w64 (by omega) (by omega)]
        rfl
      · have hd : differ v w i = true := by unfold differ; simp [d]
        rw [List.filter_cons_of_pos hd, List.length_cons] at H
        refine Ev.step (fun k => ?_) (ih (c + 1) (i + 1) (by omega) (by omega) (fun q => H (by omega)))
        rw [tinderboxlaw28_RsFar.j1, if_pos rfl, if_pos (by omega), if_pos (by omega), if_pos (by omega), if_neg d, w64 (by omega) (by omega), w64 (by omega) (by omega)]
        rfl
theorem far_same {n : Nat} {v w : ByteArray} (h : v.size = w.size) (hN : v.size ≤ 255) (hn : n ≤ 32) (hv : Ok v n) (hw : Ok w n) (hl : ((List.range' 0 v.size).filter (differ v w)).length ≤ n) : v = w := by
  rw [← List.range_eq_range'] at hl
  refine words_far h hN (by omega) hv hw (((List.range v.size).filter (differ v w)).map fun i => v.size - 1 - i) ?_ ?_ (by rw [List.length_map]; exact hl) ?_
  · rw [List.nodup_iff_pairwise_ne, List.pairwise_map]
    have := nodup_filter (differ v w) (List.nodup_range (n := v.size))
    rw [List.nodup_iff_pairwise_ne] at this
    refine List.Pairwise.imp_of_mem ?_ this
    intro a b ha hb hab e
    have h1 := List.mem_range.mp (List.mem_filter.mp ha).1
    have h2 := List.mem_range.mp (List.mem_filter.mp hb).1
    exact hab (by omega)
  · intro j hj
    obtain ⟨i, hi, rfl⟩ := List.mem_map.mp hj
    have := List.mem_range.mp (List.mem_filter.mp hi).1
    omega
  · intro j hj hn
    refine Classical.byContradiction fun q => hn (List.mem_map.mpr ⟨v.size - 1 - j, List.mem_filter.mpr ⟨List.mem_range.mpr (by omega), ?_⟩, by omega⟩)
    have e := (er_zero h (i := v.size - 1 - j) (by omega)).mpr
    rw [show v.size - 1 - (v.size - 1 - j) = j by omega] at e
    unfold differ
    simpa using fun d => q (e d)
theorem RsFar : tinderboxlaw28_RsFar.Pure := by
  intro a0 a1 a2 _ _ _
  obtain ⟨x, hx, x1, x2⟩ := few_ev a0
  obtain ⟨y, hy, y1, y2⟩ := few_ev a1
  obtain ⟨n, n1, n2, en⟩ := par15 a2
  apply Ev.rounds
  have em : mn (x.size : Int) (y.size : Int) = ((min x.size y.size : Nat) : Int) := by unfold mn; split <;> omega
  have sx : (x.extract 0 (min x.size y.size)).size = min x.size y.size := by rw [ByteArray.size_extract]; omega
  have sy' : (y.extract 0 (min x.size y.size)).size = min x.size y.size := by rw [ByteArray.size_extract]; omega
  obtain ⟨r, hr, rok, he⟩ := encode_ev (x.extract 0 (min x.size y.size)) n ⟨by omega, by omega, by omega, by omega⟩
  obtain ⟨q, hq, qok, hf⟩ := encode_ev (y.extract 0 (min x.size y.size)) n ⟨by omega, by omega, by omega, by omega⟩
  have s1 : (x.extract 0 (min x.size y.size) ++ ofE r).size = min x.size y.size + n := by rw [ByteArray.size_append, ← toE_length (ofE r), toE_ofE, hr, sx]
  have s2 : (y.extract 0 (min x.size y.size) ++ ofE q).size = min x.size y.size + n := by rw [ByteArray.size_append, ← toE_length (ofE q), toE_ofE, hq, sy']
  refine Ev.congr (f := fun k => (rs_Encode.f k (x.extract 0 (min x.size y.size)) (n : Int)).bind fun bt450 => (if ((min x.size y.size : Nat) : Int) ≤ (y.size : Int) then ((rs_Encode.f k (y.extract 0 (min x.size y.size)) (n : Int)).bind fun bt452 => (tinderboxlaw28_RsFar.l0 k (n : Int) bt450.1 bt450.2 bt452.1 bt452.2 0 0)) else (none))) (fun k => ?_) (Ev.bind he (ifp (by omega) (Ev.bind hf ?_)))
  · unfold tinderboxlaw28_RsFar.f
    rw [hx, hy, en, Option.bind_some, Option.bind_some, em, if_pos (by omega), if_pos (by omega), Int.toNat_natCast]
  · generalize x.extract 0 (min x.size y.size) ++ ofE r = v at s1 rok
    generalize y.extract 0 (min x.size y.size) ++ ofE q = w at s2 qok
    refine far_loop n v w (by rw [s1, s2]) (by omega) (by omega) _ 0 0 (by rw [Nat.zero_add]) (Nat.le_refl _) (fun hl => far_same (by rw [s1, s2]) (by omega) (by omega) rok qok ?_)
    rw [Nat.zero_add] at hl
    exact hl
end Go.Proofs.Ytconplohaaohlaa.Pure
