/- The bus, as one run of it goes: its contracts, by hand; no condition. -/
import Derived.Test.YtpkmgiddfbfloaaXHox0
namespace Go.Proofs.Ytpkmgiddfbfloaa.XHo
open Go.RowKit Go.Proofs.YtpkmgiddfbfloaaX.PrintWords Go.Proofs.YtpkmgiddfbfloaaX.PrintLast Go.Proofs.YtpkmgiddfbfloaaX.PrintMore
set_option linter.unusedVariables false
set_option linter.unusedSimpArgs false
/-- The cells of a bus. -/
def busC (c : Nat) (st cmd want : Int) (va vi : Value) (out : ByteArray) (at_ busy : Int) (fail asked : Bool) (wrong : Int) : Array Value :=
  #[.pointer (some ⟨c, 0, none⟩), .int .i64 st, .int .u8 cmd, .int .i64 want, va, vi, .string out, .int .i64 at_, .int .i64 busy, .bool fail, .bool asked, .int .i64 wrong]
/-- Nothing but blocks from b on has changed, and of those that were there only b. -/
structure Fr (b : Nat) (w w' : World) : Prop where
  below : Below b w w'
  same : ∀ k, k ≠ b → k < w.heap.size → w'.heap[k]? = w.heap[k]?
theorem Fr.refl (b : Nat) (w : World) : Fr b w w := ⟨Below.refl _ _, fun _ _ _ => rfl⟩
theorem Fr.trans {b : Nat} {w w1 w2 : World} (h : Fr b w w1) (k : Fr b w1 w2) : Fr b w w2 :=
  ⟨h.below.trans k.below, fun j hj hl => (k.same j hj (Nat.lt_of_lt_of_le hl h.below.size)).trans (h.same j hj hl)⟩
theorem Fr.set (b : Nat) (w : World) (i : Nat) (u : Value) : Fr b w (w.setCell ⟨b, i, none⟩ u) :=
  ⟨(Below.refl b w).setCell (Nat.le_refl _) u, fun k hk _ => Below.heap_setCell w _ u k hk⟩
theorem Fr.of {b : Nat} {w w' : World} (hb : b < w.heap.size) (h : Below w.heap.size w w') : Fr b w w' := ⟨h.mono (Nat.le_of_lt hb), fun k _ hk => h.block k hk⟩
theorem Fr.drewN {b : Nat} {w w' : World} (h : Fr b w w') (n : Nat) : Fr b w (w'.drewN n) := ⟨pw_below_drewN h.below n, h.same⟩
theorem set_other {w : World} {hh b i : Nat} {u : Value} {o : Obj} (hne : hh ≠ b) (h : w.heap[b]? = some o) : (w.setCell ⟨hh, i, none⟩ u).heap[b]? = some o :=
  (Below.heap_setCell w _ u b (fun e => hne e.symm)).trans h
/-- The same of two blocks. -/
structure Fr2 (B b c : Nat) (w w' : World) : Prop where
  below : Below B w w'
  same : ∀ k, k ≠ b → k ≠ c → k < w.heap.size → w'.heap[k]? = w.heap[k]?
theorem Fr2.refl (B b c : Nat) (w : World) : Fr2 B b c w w := ⟨Below.refl _ _, fun _ _ _ _ => rfl⟩
theorem Fr2.set {B b c : Nat} {w w1 : World} (h : Fr2 B b c w w1) (hc : B ≤ c) (i : Nat) (u : Value) : Fr2 B b c w (w1.setCell ⟨c, i, none⟩ u) :=
  ⟨h.below.setCell hc u, fun k hb hk hl => (Below.heap_setCell w1 _ u k hk).trans (h.same k hb hk hl)⟩
theorem Fr2.then {B b c : Nat} {w w1 w2 : World} (h : Fr2 B b c w w1) (hb : B ≤ b) (k : Fr b w1 w2) : Fr2 B b c w w2 :=
  ⟨h.below.trans (k.below.mono hb), fun j h1 h2 hl => (k.same j h1 (Nat.lt_of_lt_of_le hl h.below.size)).trans (h.same j h1 h2 hl)⟩
set_option maxHeartbeats 4000000 in
set_option maxRecDepth 100000 in
theorem ready_busy (b c : Nat) (st cmd want : Int) (va vi : Value) (out : ByteArray) (at_ : Int) (busy : Int) (hb0 : 0 < busy) (hb1 : busy < 1000) (fail asked : Bool) (wrong : Int) (w : World) (h : w.heap[b]? = some (.cells (busC c st cmd want va vi out at_ busy fail asked wrong) 105 (0, 0))) :
    Calls Try.prog 66 #[.pointer (some ⟨b, 0, none⟩)] w fun e w' => e = .returned (.bool (busy - 1 == 0)) ∧ w'.heap[b]? = some (.cells (busC c st cmd want va vi out at_ (busy - 1) fail asked wrong) 105 (0, 0)) ∧ Fr b w w' := by
  have h8 : w.cell? ⟨b, 8, none⟩ = some (.int .i64 busy) := (blk_cell h 8).trans rfl
  have f8 := blk_frozen h 8
  have g1 : decide (busy > 0) = true := decide_eq_true (by omega)
  have H := Aside0.mk (blk_set h 8 (.int .i64 (busy - 1)))
  have HF := Aside0.mk (Fr.set b w 8 (.int .i64 (busy - 1)))
  clear h
  go_enter Try.func66, Try.ntmps66
  go_wp2
  go_ret
  exact ⟨rfl, H.out, HF.out⟩
set_option maxHeartbeats 4000000 in
set_option maxRecDepth 100000 in
theorem wait_busy (hh b c : Nat) (hne : hh ≠ b) (g0 g1 g2 : Value) (polls : Int) (hp0 : 0 ≤ polls) (hp : polls < 1000) (st cmd want : Int) (va vi : Value) (out : ByteArray) (at_ : Int) (fail asked : Bool) (wrong : Int) (w : World) (B : Nat) (hBh : B ≤ hh) (hBb : B ≤ b)
    (h : w.heap[b]? = some (.cells (busC c st cmd want va vi out at_ 3 fail asked wrong) 105 (0, 0))) (h1 : w.heap[hh]? = some (.cells #[.pointer (some ⟨b, 0, none⟩), g0, g1, g2, .int .i64 polls] 69 (0, 0))) :
    Calls Try.prog 36 #[.pointer (some ⟨hh, 0, none⟩)] w fun e w' => e = .returned (.int .i64 0) ∧ w'.heap[b]? = some (.cells (busC c st cmd want va vi out at_ 0 fail asked wrong) 105 (0, 0)) ∧
      w'.heap[hh]? = some (.cells #[.pointer (some ⟨b, 0, none⟩), g0, g1, g2, .int .i64 (polls + 3)] 69 (0, 0)) ∧ Fr2 B b hh w w' := by
  have HP := Aside0.mk (Fr2.refl B b hh w)
  have H0 := Aside0.mk h
  have H1 := Aside0.mk h1
  clear h h1
  go_enter Try.func36, Try.ntmps36
  go_wp2
  go_loopg [3] 3 (fun kq v3 w' => ∃ i p y : Int, v3 = .int .i64 i ∧ Aside0 (i + kq = 3 ∧ p = polls + i ∧ y = kq ∧ 1 ≤ kq ∧ 0 ≤ i) ∧ Aside0 (w'.heap[b]? = some (.cells (busC c st cmd want va vi out at_ y fail asked wrong) 105 (0, 0))) ∧ Aside0 (w'.heap[hh]? = some (.cells #[.pointer (some ⟨b, 0, none⟩), g0, g1, g2, .int .i64 p] 69 (0, 0))) ∧ Aside0 (Fr2 B b hh w w'))
  case atStart => exact ⟨0, polls, 3, rfl, ⟨⟨by decide, (Int.add_zero _).symm, by decide, by decide, by decide⟩⟩, H0, H1, HP⟩
  case round =>
    clear H0 H1 HP
    obtain ⟨i, p, y, rfl, hi, HB, HH, HP2⟩ := hrel
    obtain ⟨hi1, hi2, hi3, hi4, i0⟩ := hi.out
    have i3 : i ≤ 2 := by omega
    have p0 : 0 ≤ p := by omega
    have p1 : p < 2000 := by omega
    have y0 : 0 < y := by omega
    have y1 : y < 1000 := by omega
    have c1 : decide (i < 64) = true := decide_eq_true (by omega)
    have z0 : wr.cell? ⟨hh, 0, none⟩ = some (.pointer (some ⟨b, 0, none⟩)) := (blk_cell HH.out 0).trans rfl
    have z4 : wr.cell? ⟨hh, 4, none⟩ = some (.int .i64 p) := (blk_cell HH.out 4).trans rfl
    have zf := blk_frozen HH.out 4
    clear hi1 hi2 hi3 hi4
    by_cases d : y = 1
    · have d1 : (y - 1 == 0) = true := by rw [d]; rfl
      go_wp2_with (go_at_call 66; (with_reducible refine (ready_busy b c st cmd want va vi out at_ y y0 y1 fail asked wrong _ (set_other hne HB.out)).mono ?_); rintro e w9 ⟨rfl, q1, q2⟩; have Q1 := Aside0.mk q1; have Q2 := Aside0.mk q2; clear q1 q2)
      go_ret
      have hi := hi.out
      refine ⟨rfl, ?_, ?_, (HP2.out.set hBh 4 _).then hBb Q2.out⟩
      · rw [Q1.out, d]; rfl
      · rw [Q2.out.same hh hne (by simp [World.setCell]; exact blk_lt HH.out), blk_set HH.out 4 _, show polls + 3 = p + 1 by omega]
        rfl
    · have d1 : (y - 1 == 0) = false := beq_false_of_ne (by omega)
      go_wp2_with (go_at_call 66; (with_reducible refine (ready_busy b c st cmd want va vi out at_ y y0 y1 fail asked wrong _ (set_other hne HB.out)).mono ?_); rintro e w9 ⟨rfl, q1, q2⟩; have Q1 := Aside0.mk q1; have Q2 := Aside0.mk q2; clear q1 q2)
      obtain ⟨hi1, hi2, hi3, hi4, _⟩ := hi.out
      go_roundg (gk - 1)
      case measure => omega
      case rel =>
        refine ⟨i + 1, p + 1, y - 1, rfl, ⟨by omega⟩, Q1, ⟨?_⟩, ⟨(HP2.out.set hBh 4 _).then hBb Q2.out⟩⟩
        rw [Q2.out.same hh hne (by simp [World.setCell]; exact blk_lt HH.out), blk_set HH.out 4 _]
        rfl
end Go.Proofs.Ytpkmgiddfbfloaa.XHo
