/- What the program's functions on words of bytes compute: signs and words that are right; no condition. -/
import Derived.Test.YtpleeckbakllpaaGfF
import Derived.Test.YtpleeckbakllpaaXWvx3
import Derived.Test.YtpleeckbakllpaaXWvx5
import Derived.Test.YtpleeckbakllpaaXWvx7
namespace Go.Proofs.Ytpleeckbakllpaa.Gf
open Go.RowKit Go.Proofs.YtpleeckbakllpaaX.PrintWords Go.Proofs.YtpleeckbakllpaaX.PrintLast Go.Proofs.YtpleeckbakllpaaX.PrintMore Go.Proofs.Ytpleeckbakllpaa.XWv
set_option linter.unusedSimpArgs false
set_option linter.unusedVariables false

/-! ### words -/
def toE (s : ByteArray) : List E := s.data.toList.map fun b => E.of b.toNat
def ofE (l : List E) : ByteArray := strOfNums (IL l)
theorem toE_length (s : ByteArray) : (toE s).length = s.size := by unfold toE; rw [List.length_map, data_length]
theorem IL_toE (s : ByteArray) : IL (toE s) = bytesOf s := by
  unfold IL toE bytesOf
  rw [List.map_map]
  apply List.map_congr_left
  intro b _
  show (((E.of b.toNat).n : Nat) : Int) = _
  rw [E.n_of b.toNat_lt]
theorem toE_ofE (l : List E) : toE (ofE l) = l := by
  unfold toE ofE strOfNums IL
  simp only [List.map_map]
  conv => rhs; rw [← List.map_id l]
  apply List.map_congr_left
  intro a _
  show E.of (UInt8.ofNat (I a).toNat).toNat = a
  have : (UInt8.ofNat (I a).toNat).toNat = a.n := by
    rw [UInt8.toNat_ofNat']
    exact Nat.mod_eq_of_lt a.n_lt
  rw [this, E.of_n]
theorem ofE_toE (s : ByteArray) : ofE (toE s) = s := by
  unfold ofE
  rw [IL_toE]
  unfold strOfNums bytesOf
  rw [List.map_map]
  have : (s.data.toList.map ((fun n : Int => UInt8.ofNat n.toNat) ∘ fun b : UInt8 => (b.toNat : Int))) = s.data.toList := by
    conv => rhs; rw [← List.map_id s.data.toList]
    apply List.map_congr_left
    intro b _
    show UInt8.ofNat ((b.toNat : Int)).toNat = b
    rw [Int.toNat_natCast, UInt8.ofNat_toNat]
  rw [this]
theorem toE_inj {s t : ByteArray} (h : toE s = toE t) : s = t := by rw [← ofE_toE s, h, ofE_toE]
theorem bt_toE (s : ByteArray) (i : Nat) : bt s (i : Int) = I ((toE s).getD i 0) := by
  rw [← rd_bytesOf, ← IL_toE, rd_IL]
/-- A word as a polynomial. -/
def wd (s : ByteArray) : List E := (toE s).reverse
theorem wd_length (s : ByteArray) : (wd s).length = s.size := by unfold wd; rw [List.length_reverse, toE_length]
def sg (s : ByteArray) (i : Nat) : E := ev (wd s) (X i)
def Ok (s : ByteArray) (p : Nat) : Prop := ∀ i, i < p → sg s i = 0
instance (s : ByteArray) (p : Nat) : Decidable (Ok s p) := inferInstanceAs (Decidable (∀ i, i < p → sg s i = 0))
theorem turned_eq (s : ByteArray) (h : s.size ≤ 9223372036854775807) : rs_turned.f s = some (IL (wd s)) := by
  unfold rs_turned.f wd
  rw [if_pos h, IL_rev, IL_toE]
/-- The signs of a word. -/
def sgs (s : ByteArray) (p : Nat) : List E := (List.range p).map (sg s)
theorem sgs_length (s : ByteArray) (p : Nat) : (sgs s p).length = p := by unfold sgs; rw [List.length_map, List.length_range]
theorem signs_loop (s : ByteArray) (p : Nat) (hs : s.size < 1000000) (hp : p < 1000) (r : Nat) : ∀ i, i + r = p → Ev (fun k => rs_Signs.l0 k (IL (wd s)) (IL (sgs s i)) (p : Int) (i : Int)) (IL (sgs s p)) := by
  induction r with
  | zero =>
    intro i hi
    refine Ev.step (f := fun _ => some (IL (sgs s p))) (fun k => ?_) (Ev.now _)
    rw [rs_Signs.l0, if_neg (by omega), show i = p by omega]
  | succ r ih =>
    intro i hi
    have e : IL (sgs s (i + 1)) = IL (sgs s i) ++ [I (sg s i)] := by
      unfold sgs
      rw [List.range_succ, List.map_append, IL_append]
      rfl
    have := ih (i + 1) (by omega)
    rw [e] at this
    refine Ev.step (f := fun k => (gf_Root.f k (i : Int)).bind fun t => (gf_Poly_At.f k (IL (wd s)) t).bind fun u => rs_Signs.l0 k (IL (wd s)) (IL (sgs s i) ++ [u]) (p : Int) ((i + 1 : Nat) : Int)) (fun k => ?_) (Ev.bind (root_ev i (by omega)) (Ev.bind (at_ev (wd s) (X i) (by rw [wd_length]; omega)) this))
    rw [rs_Signs.l0, if_pos (by omega)]
    congr 1
    funext t
    congr 1
    funext u
    rw [if_pos (by rw [IL_length, sgs_length]; omega), w64 (by omega) (by omega)]
    rfl
theorem signs_ev (s : ByteArray) (p : Nat) (hs : s.size < 1000000) (hp : p < 1000) : Ev (fun k => rs_Signs.f k s (p : Int)) (IL (sgs s p)) := by
  have := signs_loop s p hs hp p 0 (by omega)
  refine Ev.congr (fun k => ?_) this
  unfold rs_Signs.f
  rw [turned_eq s (by omega), Option.bind_some, show mx (p : Int) 0 = (p : Int) by unfold mx; rw [if_neg (by omega)]]
  rfl
/-- Words that may be. -/
def May (n p : Nat) : Prop := 1 ≤ p ∧ p ≤ 32 ∧ p < n ∧ n ≤ 255
instance (n p : Nat) : Decidable (May n p) := inferInstanceAs (Decidable (_ ∧ _))
theorem check_eq (n p : Nat) : rs_Check.f (n : Int) (p : Int) = some (decide (May n p)) := by
  unfold rs_Check.f
  by_cases h1 : 1 ≤ p
  · rw [if_pos (by omega)]
    by_cases h2 : p ≤ 32
    · rw [if_pos (by omega)]
      by_cases h3 : p < n
      · rw [if_pos (by omega)]
        congr 1
        by_cases h4 : n ≤ 255
        · rw [decide_eq_true (by omega), decide_eq_true (p := May n p) ⟨h1, h2, h3, h4⟩]
        · rw [decide_eq_false (by omega), decide_eq_false (p := May n p) (fun h => h4 h.2.2.2)]
      · rw [if_neg (by omega), decide_eq_false (p := May n p) (fun h => h3 h.2.2.1)]
    · rw [if_neg (by omega), decide_eq_false (p := May n p) (fun h => h2 h.2.1)]
  · rw [if_neg (by omega), decide_eq_false (p := May n p) (fun h => h1 h.1)]
theorem any_sgs (s : ByteArray) (p : Nat) : (!((IL (sgs s p)).any fun b => b != 0)) = decide (Ok s p) := by
  by_cases h : Ok s p
  · rw [decide_eq_true h]
    have : (IL (sgs s p)).any (fun b => b != 0) = false := by
      rw [List.any_eq_false]
      intro b hb
      unfold IL sgs at hb
      obtain ⟨a, ha, rfl⟩ := List.mem_map.mp hb
      obtain ⟨i, hi, rfl⟩ := List.mem_map.mp ha
      rw [h i (List.mem_range.mp hi)]
      simp [I_zero]
    rw [this]; rfl
  · rw [decide_eq_false h]
    have : (IL (sgs s p)).any (fun b => b != 0) = true := by
      refine Classical.byContradiction fun hn => h fun i hi => ?_
      have hn : (IL (sgs s p)).any (fun b => b != 0) = false := by simpa using hn
      rw [List.any_eq_false] at hn
      have := hn (I (sg s i)) (List.mem_map_of_mem (List.mem_map_of_mem (List.mem_range.mpr hi)))
      exact I_eq_zero.mp (by simpa using this)
    rw [this]; rfl
theorem rright_ev (s : ByteArray) (p : Nat) (hs : s.size < 1000000) (hp : p < 1000) : Ev (fun k => rs_Right.f k s (p : Int)) (decide (May s.size p ∧ Ok s p)) := by
  by_cases h : May s.size p
  · refine Ev.congr (fun k => ?_) (Ev.bind (f := fun _ l => some (!(l.any fun b => b != 0))) (signs_ev s p hs hp) (by
      rw [any_sgs]
      exact Ev.congr (fun k => by simp [h]) (Ev.now _)))
    unfold rs_Right.f
    rw [check_eq, decide_eq_true h, Option.bind_some, if_pos rfl]
  · rw [decide_eq_false (fun q => h q.1)]
    refine Ev.congr (fun k => ?_) (Ev.now _)
    unfold rs_Right.f
    rw [check_eq, decide_eq_false h, Option.bind_some, if_neg (by simp)]
end Go.Proofs.Ytpleeckbakllpaa.Gf
