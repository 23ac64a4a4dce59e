/- What the bus tells, byte by byte: its contracts, by hand; no condition. -/
import Derived.Test.YtpkmgiddfbfloaaXHox0
import Derived.Test.YtpkmgiddfbfloaaHoA
import Derived.Deep.RegionWith
namespace Go.Proofs.Ytpkmgiddfbfloaa.XHo
open Go.RowKit Go.Proofs.YtpkmgiddfbfloaaX.PrintWords Go.Proofs.YtpkmgiddfbfloaaX.PrintLast Go.Proofs.YtpkmgiddfbfloaaX.PrintMore
set_option linter.unusedVariables false
set_option linter.unusedSimpArgs false
theorem Fr.mk' {b : Nat} {w w1 : World} (h : Fr b w w1) (i : Nat) (u : Value) : Fr b w (w1.setCell ⟨b, i, none⟩ u) := h.trans (Fr.set b w1 i u)
set_option maxHeartbeats 4000000 in
set_option maxRecDepth 100000 in
theorem ready_zero (b c : Nat) (st cmd want : Int) (va vi : Value) (out : ByteArray) (at_ : Int) (busy : Int) (fail asked : Bool) (wrong : Int) (w : World) (h : w.heap[b]? = some (.cells (busC c st cmd want va vi out at_ busy fail asked wrong) 105 (0, 0))) :
    Calls Try.prog 63 #[.pointer (some ⟨b, 0, none⟩)] w fun e w' => e = .returned (.bool (busy == 0)) ∧ w' = w := by
  have h8 : w.cell? ⟨b, 8, none⟩ = some (.int .i64 busy) := (blk_cell h 8).trans rfl
  clear h
  go_enter Try.func63, Try.ntmps63
  go_wp2
  go_ret
  exact ⟨rfl, rfl⟩
set_option maxHeartbeats 4000000 in
set_option maxRecDepth 100000 in
theorem out_tell (b c : Nat) (cmd want : Int) (va vi : Value) (out : ByteArray) (i : Int) (i0 : 0 ≤ i) (i1 : i < (out.size : Int)) (ho : out.size < 1000) (fail : Bool) (wrong : Int) (w : World) (h : w.heap[b]? = some (.cells (busC c 4 cmd want va vi out i 0 fail false wrong) 105 (0, 0))) :
    Calls Try.prog 43 #[.pointer (some ⟨b, 0, none⟩)] w fun e w' => e = .returned (.int .u8 (bt out i)) ∧ w'.heap[b]? = some (.cells (busC c 4 cmd want va vi out (i + 1) 0 fail false wrong) 105 (0, 0)) ∧ Fr b w w' := by
  have h1 : w.cell? ⟨b, 1, none⟩ = some (.int .i64 4) := (blk_cell h 1).trans rfl
  have h6 : w.cell? ⟨b, 6, none⟩ = some (.string out) := (blk_cell h 6).trans rfl
  have h7 : w.cell? ⟨b, 7, none⟩ = some (.int .i64 i) := (blk_cell h 7).trans rfl
  have h10 : w.cell? ⟨b, 10, none⟩ = some (.bool false) := (blk_cell h 10).trans rfl
  have f7 := blk_frozen h 7
  have g1 : decide (i ≥ (out.size : Int)) = false := decide_eq_false (by omega)
  have HH := Aside0.mk h
  have H := Aside0.mk (blk_set h 7 (.int .i64 (i + 1)))
  clear h
  have hi : i < 1000 := by omega
  go_enter Try.func43, Try.ntmps43
  go_wp2_with (go_at_call 63; (with_reducible refine (ready_zero b c 4 cmd want va vi out i 0 fail false wrong _ HH.out).mono ?_); rintro e w9 ⟨rfl, rfl⟩)
  repeat (go_quiet (fail); try go_wp2)
  go_ret
  have ht : i.toNat < out.size := by omega
  refine ⟨by rw [← bt_at out i ht]; rfl, H.out, ?_⟩
  exact ((Fr.drewN (Fr.refl b _) _).mk' 7 _).drewN _
end Go.Proofs.Ytpkmgiddfbfloaa.XHo
