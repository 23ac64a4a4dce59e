/- The chip's shape, and the bus's beginnings: contracts by hand; no condition. -/
import Derived.Test.YtpkmgiddfbfloaaXHox1
import Derived.Test.YtpkmgiddfbfloaaXHox
import Derived.Test.YtpkmgiddfbfloaaHoB
import Derived.StillTailTactics
import Derived.Deep.RegionHeld3
namespace Go.Proofs.Ytpkmgiddfbfloaa.XHo
open Go.RowKit Go.Proofs.YtpkmgiddfbfloaaX.PrintWords Go.Proofs.YtpkmgiddfbfloaaX.PrintLast Go.Proofs.YtpkmgiddfbfloaaX.PrintMore
set_option linter.unusedVariables false
set_option linter.unusedSimpArgs false
/-- The cells of a chip. -/
def chipC (g0 g1 g2 : Int) (vb vc vf : Value) (did : Int) (off : Bool) : Array Value :=
  #[.int .i64 g0, .int .i64 g1, .int .i64 g2, vb, vc, vf, .int .i64 did, .bool off]
theorem results_geo {fn : Func} {p : Tmp} (h : fn.results = #[.cell p 24]) (tmps : Array Value) (w : World) (g : Nat) (cs : Array Value) (hp : tmps.getD p undef = .pointer (some ⟨g, 0, none⟩))
    (hg : w.heap[g]? = some (.cells cs 24 (0, 0))) (hs : cs.size = 3) : (results fn tmps).run Try.prog w = .ok (.agg cs) w :=
  results_cell_row h tmps w g 24 cs (0, 0) _ hp hg Try.underlying24 rfl (by rw [hs]; kernel_rfl)
theorem geo_field0 (a b c : Value) (w : World) : Sem.run Try.prog (Instr.field 24 (.agg #[a, b, c]) 0) w = .ok a w := by
  have hu := Try.underlying24
  unfold Instr.field
  go_simp
  rfl
section
variable {b c : Nat} {st cmd want : Int} {va vi : Value} {out : ByteArray} {at_ busy : Int} {fail asked : Bool} {wrong : Int} {w : World}
theorem bp0 (h : w.heap[b]? = some (.cells (busC c st cmd want va vi out at_ busy fail asked wrong) 105 (0, 0))) : (w.setCell ⟨b, 0, none⟩ (.pointer (some ⟨c, 0, none⟩))).heap[b]? = some (.cells (busC c st cmd want va vi out at_ busy fail asked wrong) 105 (0, 0)) := blk_put h 0 _ rfl
theorem bp1 (x : Int) (h : w.heap[b]? = some (.cells (busC c st cmd want va vi out at_ busy fail asked wrong) 105 (0, 0))) : (w.setCell ⟨b, 1, none⟩ (.int .i64 x)).heap[b]? = some (.cells (busC c x cmd want va vi out at_ busy fail asked wrong) 105 (0, 0)) := blk_put h 1 _ rfl
theorem bp2 (x : Int) (h : w.heap[b]? = some (.cells (busC c st cmd want va vi out at_ busy fail asked wrong) 105 (0, 0))) : (w.setCell ⟨b, 2, none⟩ (.int .u8 x)).heap[b]? = some (.cells (busC c st x want va vi out at_ busy fail asked wrong) 105 (0, 0)) := blk_put h 2 _ rfl
theorem bp3 (x : Int) (h : w.heap[b]? = some (.cells (busC c st cmd want va vi out at_ busy fail asked wrong) 105 (0, 0))) : (w.setCell ⟨b, 3, none⟩ (.int .i64 x)).heap[b]? = some (.cells (busC c st cmd x va vi out at_ busy fail asked wrong) 105 (0, 0)) := blk_put h 3 _ rfl
theorem bp4 (x : Value) (h : w.heap[b]? = some (.cells (busC c st cmd want va vi out at_ busy fail asked wrong) 105 (0, 0))) : (w.setCell ⟨b, 4, none⟩ (x)).heap[b]? = some (.cells (busC c st cmd want x vi out at_ busy fail asked wrong) 105 (0, 0)) := blk_put h 4 _ rfl
theorem bp5 (x : Value) (h : w.heap[b]? = some (.cells (busC c st cmd want va vi out at_ busy fail asked wrong) 105 (0, 0))) : (w.setCell ⟨b, 5, none⟩ (x)).heap[b]? = some (.cells (busC c st cmd want va x out at_ busy fail asked wrong) 105 (0, 0)) := blk_put h 5 _ rfl
theorem bp6 (x : ByteArray) (h : w.heap[b]? = some (.cells (busC c st cmd want va vi out at_ busy fail asked wrong) 105 (0, 0))) : (w.setCell ⟨b, 6, none⟩ (.string x)).heap[b]? = some (.cells (busC c st cmd want va vi x at_ busy fail asked wrong) 105 (0, 0)) := blk_put h 6 _ rfl
theorem bp7 (x : Int) (h : w.heap[b]? = some (.cells (busC c st cmd want va vi out at_ busy fail asked wrong) 105 (0, 0))) : (w.setCell ⟨b, 7, none⟩ (.int .i64 x)).heap[b]? = some (.cells (busC c st cmd want va vi out x busy fail asked wrong) 105 (0, 0)) := blk_put h 7 _ rfl
theorem bp8 (x : Int) (h : w.heap[b]? = some (.cells (busC c st cmd want va vi out at_ busy fail asked wrong) 105 (0, 0))) : (w.setCell ⟨b, 8, none⟩ (.int .i64 x)).heap[b]? = some (.cells (busC c st cmd want va vi out at_ x fail asked wrong) 105 (0, 0)) := blk_put h 8 _ rfl
theorem bp9 (x : Bool) (h : w.heap[b]? = some (.cells (busC c st cmd want va vi out at_ busy fail asked wrong) 105 (0, 0))) : (w.setCell ⟨b, 9, none⟩ (.bool x)).heap[b]? = some (.cells (busC c st cmd want va vi out at_ busy x asked wrong) 105 (0, 0)) := blk_put h 9 _ rfl
theorem bp10 (x : Bool) (h : w.heap[b]? = some (.cells (busC c st cmd want va vi out at_ busy fail asked wrong) 105 (0, 0))) : (w.setCell ⟨b, 10, none⟩ (.bool x)).heap[b]? = some (.cells (busC c st cmd want va vi out at_ busy fail x wrong) 105 (0, 0)) := blk_put h 10 _ rfl
theorem bp11 (x : Int) (h : w.heap[b]? = some (.cells (busC c st cmd want va vi out at_ busy fail asked wrong) 105 (0, 0))) : (w.setCell ⟨b, 11, none⟩ (.int .i64 x)).heap[b]? = some (.cells (busC c st cmd want va vi out at_ busy fail asked x) 105 (0, 0)) := blk_put h 11 _ rfl
end
set_option maxHeartbeats 4000000 in
set_option maxRecDepth 100000 in
theorem chip_geometry (c : Nat) (g0 g1 g2 : Int) (vb vc vf : Value) (did : Int) (off : Bool) (w : World) (h : w.heap[c]? = some (.cells (chipC g0 g1 g2 vb vc vf did off) 87 (0, 0))) :
    Calls Try.prog 20 #[.pointer (some ⟨c, 0, none⟩)] w fun e w' => e = .returned (.agg #[.int .i64 g0, .int .i64 g1, .int .i64 g2]) ∧ Below w.heap.size w w' := by
  have HH := Aside0.mk h
  clear h
  go_enter Try.func20, Try.ntmps20
  go_wp2_with (first | (((with_reducible refine gate_dst (N := 2) rfl ?_); refine box_event ?hg (N := 2) ?hd (cs := (#[.int .i64 0, .int .i64 0, .int .i64 0])) (t := 24) ?hr ?_; (case hd => rfl); (case hg => rfl); (case hr => first | (go_simp; done) | (go_simp; rfl))); intro gb hg w2 hbox hb; have HB := Aside0.mk hb; have HX := Aside0.mk hbox; have HG := Aside0.mk hg; have z0 : w2.cell? ⟨c, 0, none⟩ = some (.int .i64 g0) := (blk_cell (blk_below HH.out hb) 0).trans rfl; have z1 : w2.cell? ⟨c, 1, none⟩ = some (.int .i64 g1) := (blk_cell (blk_below HH.out hb) 1).trans rfl; have z2 : w2.cell? ⟨c, 2, none⟩ = some (.int .i64 g2) := (blk_cell (blk_below HH.out hb) 2).trans rfl; have y0 : w2.cell? ⟨gb, 0, none⟩ = some (.int .i64 0) := (blk_cell hbox 0).trans rfl; have yf0 := blk_frozen hbox 0; have y1 : w2.cell? ⟨gb, 1, none⟩ = some (.int .i64 0) := (blk_cell hbox 1).trans rfl; have yf1 := blk_frozen hbox 1; have y2 : w2.cell? ⟨gb, 2, none⟩ = some (.int .i64 0) := (blk_cell hbox 2).trans rfl; have yf2 := blk_frozen hbox 2; clear hg hbox hb))
  have hge : w.heap.size ≤ gb := by rw [HG.out]; exact Nat.le_refl _
  refine bodyPost_ret (results_geo rfl _ _ gb #[.int .i64 g0, .int .i64 g1, .int .i64 g2] rfl (by exact blk_put (cs := #[.int .i64 g0, .int .i64 g1, .int .i64 0]) (blk_put (cs := #[.int .i64 g0, .int .i64 0, .int .i64 0]) (blk_put HX.out 0 _ rfl) 1 _ rfl) 2 _ rfl) rfl) rfl ?_
  exact ⟨rfl, ((HB.out.setCell hge _).setCell hge _).setCell hge _⟩
set_option maxHeartbeats 4000000 in
set_option maxRecDepth 100000 in
theorem bus_new (c : Nat) (g0 g1 g2 : Int) (vb vc vf : Value) (did : Int) (off : Bool) (w : World) (hg0 : g0 ≠ 0) (h : w.heap[c]? = some (.cells (chipC g0 g1 g2 vb vc vf did off) 87 (0, 0))) :
    Calls Try.prog 46 #[.pointer (some ⟨c, 0, none⟩)] w fun e w' => ∃ b, w.heap.size ≤ b ∧ e = .returned (.tuple #[.pointer (some ⟨b, 0, none⟩), .int .i64 0]) ∧ w'.heap[b]? = some (.cells (busC c 0 0 0 (.slice none 0 0) (.slice none 0 0) ⟨#[]⟩ 0 0 false false 0) 105 (0, 0)) ∧ Below w.heap.size w w' := by
  have HH := Aside0.mk h
  have hu24 := geo_field0
  have hu105 := Try.underlying105
  have HB := Aside0.mk (Below.refl w.heap.size w)
  have d1 : (g0 == 0) = false := beq_false_of_ne hg0
  clear h
  go_enter Try.func46, Try.ntmps46
  go_wp2_with (first | (go_at_call 20; (with_reducible refine (chip_geometry c g0 g1 g2 vb vc vf did off _ HH.out).mono ?_); rintro e w1 ⟨rfl, q2⟩; have HB1 := Aside0.mk q2; clear q2) | (((with_reducible refine gate_dst (N := 10) rfl ?_); refine box_event ?hg (N := 10) ?hd (cs := (busC c 0 0 0 (.slice none 0 0) (.slice none 0 0) ⟨#[]⟩ 0 0 false false 0)) (t := 105) ?hr ?_; (case hd => rfl); (case hg => rfl); (case hr => first | (go_simp; done) | (go_simp; rfl))); intro gb hg w2 hbox hb; have HB2 := Aside0.mk hb; have HX := Aside0.mk hbox; have HG := Aside0.mk hg; clear hg hbox hb))
  go_ret2
  exact ⟨gb, by rw [HG.out]; exact HB1.out.size, rfl, HX.out, HB1.out.trans (HB2.out.mono HB1.out.size)⟩

set_option maxHeartbeats 4000000 in
set_option maxRecDepth 100000 in
theorem bus_reset (b c : Nat) (st cmd want : Int) (va vi : Value) (out : ByteArray) (at_ busy : Int) (fail asked : Bool) (wrong : Int) (w : World) (h : w.heap[b]? = some (.cells (busC c st cmd want va vi out at_ busy fail asked wrong) 105 (0, 0))) :
    Calls Try.prog 62 #[.pointer (some ⟨b, 0, none⟩)] w fun e w' => e = .returned (.tuple #[]) ∧ w'.heap[b]? = some (.cells (busC c 0 0 0 (.slice none 0 0) (.slice none 0 0) ⟨#[]⟩ 0 3 false false wrong) 105 (0, 0)) ∧ Fr b w w' := by
  have z0 : w.cell? ⟨b, 0, none⟩ = some (.pointer (some ⟨c, 0, none⟩)) := (blk_cell h 0).trans rfl; have zf0 := blk_frozen h 0; have z1 : w.cell? ⟨b, 1, none⟩ = some (.int .i64 st) := (blk_cell h 1).trans rfl; have zf1 := blk_frozen h 1; have z2 : w.cell? ⟨b, 2, none⟩ = some (.int .u8 cmd) := (blk_cell h 2).trans rfl; have zf2 := blk_frozen h 2; have z3 : w.cell? ⟨b, 3, none⟩ = some (.int .i64 want) := (blk_cell h 3).trans rfl; have zf3 := blk_frozen h 3; have z4 : w.cell? ⟨b, 4, none⟩ = some (va) := (blk_cell h 4).trans rfl; have zf4 := blk_frozen h 4; have z5 : w.cell? ⟨b, 5, none⟩ = some (vi) := (blk_cell h 5).trans rfl; have zf5 := blk_frozen h 5; have z6 : w.cell? ⟨b, 6, none⟩ = some (.string out) := (blk_cell h 6).trans rfl; have zf6 := blk_frozen h 6; have z7 : w.cell? ⟨b, 7, none⟩ = some (.int .i64 at_) := (blk_cell h 7).trans rfl; have zf7 := blk_frozen h 7; have z8 : w.cell? ⟨b, 8, none⟩ = some (.int .i64 busy) := (blk_cell h 8).trans rfl; have zf8 := blk_frozen h 8; have z9 : w.cell? ⟨b, 9, none⟩ = some (.bool fail) := (blk_cell h 9).trans rfl; have zf9 := blk_frozen h 9; have z10 : w.cell? ⟨b, 10, none⟩ = some (.bool asked) := (blk_cell h 10).trans rfl; have zf10 := blk_frozen h 10; have z11 : w.cell? ⟨b, 11, none⟩ = some (.int .i64 wrong) := (blk_cell h 11).trans rfl; have zf11 := blk_frozen h 11
  have hu105 := Try.underlying105
  have HH := Aside0.mk h
  clear h
  go_enter Try.func62, Try.ntmps62
  go_still_tail 11, (by kernel_rfl)
  change wpList _ _ _ _ _ w.drew
  have HH1 : Aside0 (w.drew.heap[b]? = some (.cells (busC c st cmd want va vi out at_ busy fail asked wrong) 105 (0, 0))) := ⟨HH.out⟩
  clear z0 z1 z2 z3 z4 z5 z6 z7 z8 z9 z10 z11 zf0 zf1 zf2 zf3 zf4 zf5 zf6 zf7 zf8 zf9 zf10 zf11
  have HF1 : Aside0 (Fr b w w.drew) := ⟨⟨pw_below_drewN (Below.refl _ _) 1, fun _ _ _ => rfl⟩⟩
  generalize w.drew = w2 at HH1 HF1 ⊢
  have z0 : w2.cell? ⟨b, 0, none⟩ = some (.pointer (some ⟨c, 0, none⟩)) := (blk_cell HH1.out 0).trans rfl; have zf0 := blk_frozen HH1.out 0; have z1 : w2.cell? ⟨b, 1, none⟩ = some (.int .i64 st) := (blk_cell HH1.out 1).trans rfl; have zf1 := blk_frozen HH1.out 1; have z2 : w2.cell? ⟨b, 2, none⟩ = some (.int .u8 cmd) := (blk_cell HH1.out 2).trans rfl; have zf2 := blk_frozen HH1.out 2; have z3 : w2.cell? ⟨b, 3, none⟩ = some (.int .i64 want) := (blk_cell HH1.out 3).trans rfl; have zf3 := blk_frozen HH1.out 3; have z4 : w2.cell? ⟨b, 4, none⟩ = some (va) := (blk_cell HH1.out 4).trans rfl; have zf4 := blk_frozen HH1.out 4; have z5 : w2.cell? ⟨b, 5, none⟩ = some (vi) := (blk_cell HH1.out 5).trans rfl; have zf5 := blk_frozen HH1.out 5; have z6 : w2.cell? ⟨b, 6, none⟩ = some (.string out) := (blk_cell HH1.out 6).trans rfl; have zf6 := blk_frozen HH1.out 6; have z7 : w2.cell? ⟨b, 7, none⟩ = some (.int .i64 at_) := (blk_cell HH1.out 7).trans rfl; have zf7 := blk_frozen HH1.out 7; have z8 : w2.cell? ⟨b, 8, none⟩ = some (.int .i64 busy) := (blk_cell HH1.out 8).trans rfl; have zf8 := blk_frozen HH1.out 8; have z9 : w2.cell? ⟨b, 9, none⟩ = some (.bool fail) := (blk_cell HH1.out 9).trans rfl; have zf9 := blk_frozen HH1.out 9; have z10 : w2.cell? ⟨b, 10, none⟩ = some (.bool asked) := (blk_cell HH1.out 10).trans rfl; have zf10 := blk_frozen HH1.out 10; have z11 : w2.cell? ⟨b, 11, none⟩ = some (.int .i64 wrong) := (blk_cell HH1.out 11).trans rfl; have zf11 := blk_frozen HH1.out 11
  go_wp2
  go_end0
  exact ⟨rfl, (bp11 _ (bp10 _ (bp9 _ (bp8 _ (bp7 _ (bp6 _ (bp5 _ (bp4 _ (bp3 _ (bp2 _ (bp1 _ (bp0 HH1.out)))))))))))), ((((((((((((HF1.out.mk' 0 _).mk' 1 _).mk' 2 _).mk' 3 _).mk' 4 _).mk' 5 _).mk' 6 _).mk' 7 _).mk' 8 _).mk' 9 _).mk' 10 _).mk' 11 _)⟩

set_option maxHeartbeats 4000000 in
set_option maxRecDepth 100000 in
theorem command_reset (b c : Nat) (st cmd want : Int) (va vi : Value) (out : ByteArray) (at_ busy : Int) (fail asked : Bool) (wrong : Int) (w : World) (h : w.heap[b]? = some (.cells (busC c st cmd want va vi out at_ busy fail asked wrong) 105 (0, 0))) :
    Calls Try.prog 35 #[.pointer (some ⟨b, 0, none⟩), .int .u8 255] w fun e w' => e = .returned (.tuple #[]) ∧ w'.heap[b]? = some (.cells (busC c 0 0 0 (.slice none 0 0) (.slice none 0 0) ⟨#[]⟩ 0 3 false false wrong) 105 (0, 0)) ∧ Fr b w w' := by
  have HH := Aside0.mk h
  clear h
  go_enter Try.func35, Try.ntmps35
  go_wp2_with (go_at_call 62; (with_reducible refine (bus_reset b c st cmd want va vi out at_ busy fail asked wrong _ HH.out).mono ?_); rintro e w9 ⟨rfl, q1, q2⟩; have Q1 := Aside0.mk q1; have Q2 := Aside0.mk q2; clear q1 q2)
  first | go_end0 | ((try simp only [Exit.inBlock, Exit.then]); refine bodyPost_ret (results_none rfl _ _ _) rfl ?_)
  exact ⟨rfl, Q1.out, Q2.out⟩

set_option maxHeartbeats 4000000 in
set_option maxRecDepth 100000 in
theorem bus_tell (s : ByteArray) (b c : Nat) (st cmd want : Int) (va vi : Value) (out : ByteArray) (at_ busy : Int) (fail asked : Bool) (wrong : Int) (w : World) (h : w.heap[b]? = some (.cells (busC c st cmd want va vi out at_ busy fail asked wrong) 105 (0, 0))) :
    Calls Try.prog 67 #[.pointer (some ⟨b, 0, none⟩), .string s] w fun e w' => e = .returned (.tuple #[]) ∧ w'.heap[b]? = some (.cells (busC c 4 cmd want va vi s 0 busy fail asked wrong) 105 (0, 0)) ∧ Fr b w w' := by
  have z0 : w.cell? ⟨b, 0, none⟩ = some (.pointer (some ⟨c, 0, none⟩)) := (blk_cell h 0).trans rfl; have zf0 := blk_frozen h 0; have z1 : w.cell? ⟨b, 1, none⟩ = some (.int .i64 st) := (blk_cell h 1).trans rfl; have zf1 := blk_frozen h 1; have z2 : w.cell? ⟨b, 2, none⟩ = some (.int .u8 cmd) := (blk_cell h 2).trans rfl; have zf2 := blk_frozen h 2; have z3 : w.cell? ⟨b, 3, none⟩ = some (.int .i64 want) := (blk_cell h 3).trans rfl; have zf3 := blk_frozen h 3; have z4 : w.cell? ⟨b, 4, none⟩ = some (va) := (blk_cell h 4).trans rfl; have zf4 := blk_frozen h 4; have z5 : w.cell? ⟨b, 5, none⟩ = some (vi) := (blk_cell h 5).trans rfl; have zf5 := blk_frozen h 5; have z6 : w.cell? ⟨b, 6, none⟩ = some (.string out) := (blk_cell h 6).trans rfl; have zf6 := blk_frozen h 6; have z7 : w.cell? ⟨b, 7, none⟩ = some (.int .i64 at_) := (blk_cell h 7).trans rfl; have zf7 := blk_frozen h 7; have z8 : w.cell? ⟨b, 8, none⟩ = some (.int .i64 busy) := (blk_cell h 8).trans rfl; have zf8 := blk_frozen h 8; have z9 : w.cell? ⟨b, 9, none⟩ = some (.bool fail) := (blk_cell h 9).trans rfl; have zf9 := blk_frozen h 9; have z10 : w.cell? ⟨b, 10, none⟩ = some (.bool asked) := (blk_cell h 10).trans rfl; have zf10 := blk_frozen h 10; have z11 : w.cell? ⟨b, 11, none⟩ = some (.int .i64 wrong) := (blk_cell h 11).trans rfl; have zf11 := blk_frozen h 11
  have HH := Aside0.mk h
  clear h
  go_enter Try.func67, Try.ntmps67
  go_wp2
  go_end0
  exact ⟨rfl, (bp7 _ (bp6 _ (bp1 _ HH.out))), ((((Fr.refl b w).mk' 1 _).mk' 6 _).mk' 7 _)⟩

theorem drawn_blk {w w1 : World} {g : Nat} {o : Obj} (q : Drawn0 w w1) (h : w.heap[g]? = some o) : w1.heap[g]? = some o := by
  obtain ⟨n, rfl⟩ := q.out
  exact h
theorem Fr.drawn {b : Nat} {w w1 w2 : World} (h : Fr b w w1) (q : Drawn0 w1 w2) : Fr b w w2 := by
  obtain ⟨n, rfl⟩ := q.out
  exact h.drewN n
theorem wants_236 (w : World) : Calls Try.prog 80 #[.int .u8 236] w fun e w' => e = .returned (.int .i64 1) ∧ Drawn0 w w' := bus_wants.calls 100 236 1 w (by decide +kernel)
set_option maxHeartbeats 4000000 in
set_option maxRecDepth 100000 in
theorem begin_param (b c : Nat) (st cmd want : Int) (va vi : Value) (out : ByteArray) (at_ : Int) (fail asked : Bool) (wrong : Int) (w : World) (h : w.heap[b]? = some (.cells (busC c st cmd want va vi out at_ 0 fail asked wrong) 105 (0, 0))) :
    Calls Try.prog 65 #[.pointer (some ⟨b, 0, none⟩), .int .u8 236] w fun e w' => e = .returned (.tuple #[]) ∧ w'.heap[b]? = some (.cells (busC c 1 236 1 (.slice none 0 0) (.slice none 0 0) ⟨#[]⟩ 0 0 fail asked wrong) 105 (0, 0)) ∧ Fr b w w' := by
  have z0 : w.cell? ⟨b, 0, none⟩ = some (.pointer (some ⟨c, 0, none⟩)) := (blk_cell h 0).trans rfl; have zf0 := blk_frozen h 0; have z1 : w.cell? ⟨b, 1, none⟩ = some (.int .i64 st) := (blk_cell h 1).trans rfl; have zf1 := blk_frozen h 1; have z2 : w.cell? ⟨b, 2, none⟩ = some (.int .u8 cmd) := (blk_cell h 2).trans rfl; have zf2 := blk_frozen h 2; have z3 : w.cell? ⟨b, 3, none⟩ = some (.int .i64 want) := (blk_cell h 3).trans rfl; have zf3 := blk_frozen h 3; have z4 : w.cell? ⟨b, 4, none⟩ = some (va) := (blk_cell h 4).trans rfl; have zf4 := blk_frozen h 4; have z5 : w.cell? ⟨b, 5, none⟩ = some (vi) := (blk_cell h 5).trans rfl; have zf5 := blk_frozen h 5; have z6 : w.cell? ⟨b, 6, none⟩ = some (.string out) := (blk_cell h 6).trans rfl; have zf6 := blk_frozen h 6; have z7 : w.cell? ⟨b, 7, none⟩ = some (.int .i64 at_) := (blk_cell h 7).trans rfl; have zf7 := blk_frozen h 7; have z8 : w.cell? ⟨b, 8, none⟩ = some (.int .i64 0) := (blk_cell h 8).trans rfl; have zf8 := blk_frozen h 8; have z9 : w.cell? ⟨b, 9, none⟩ = some (.bool fail) := (blk_cell h 9).trans rfl; have zf9 := blk_frozen h 9; have z10 : w.cell? ⟨b, 10, none⟩ = some (.bool asked) := (blk_cell h 10).trans rfl; have zf10 := blk_frozen h 10; have z11 : w.cell? ⟨b, 11, none⟩ = some (.int .i64 wrong) := (blk_cell h 11).trans rfl; have zf11 := blk_frozen h 11
  have HH := Aside0.mk h
  clear h
  go_enter Try.func65, Try.ntmps65
  go_wp2_with (go_at_call 80; (with_reducible refine (wants_236 _).mono ?_); rintro e w9 ⟨rfl, q⟩; have Q1 := Aside0.mk (drawn_blk q (bp7 _ (bp6 _ (bp5 _ (bp4 _ (bp1 _ (bp2 _ HH.out))))))); have Q2 := Aside0.mk (Fr.drawn (((((((Fr.refl b w).mk' 2 _).mk' 1 _).mk' 4 _).mk' 5 _).mk' 6 _).mk' 7 _) q); clear q z0 z1 z2 z3 z4 z5 z6 z7 z8 z9 z10 z11 zf0 zf1 zf2 zf3 zf4 zf5 zf6 zf7 zf8 zf9 zf10 zf11; have z3 : w9.cell? ⟨b, 3, none⟩ = some (.int .i64 want) := (blk_cell Q1.out 3).trans rfl; have zf3 := blk_frozen Q1.out 3)
  go_end0
  exact ⟨rfl, bp3 _ Q1.out, Q2.out.mk' 3 _⟩

set_option maxHeartbeats 4000000 in
set_option maxRecDepth 100000 in
theorem command_param (b c : Nat) (st cmd want : Int) (va vi : Value) (out : ByteArray) (at_ : Int) (fail asked : Bool) (wrong : Int) (w : World) (h : w.heap[b]? = some (.cells (busC c st cmd want va vi out at_ 0 fail asked wrong) 105 (0, 0))) :
    Calls Try.prog 35 #[.pointer (some ⟨b, 0, none⟩), .int .u8 236] w fun e w' => e = .returned (.tuple #[]) ∧ w'.heap[b]? = some (.cells (busC c 1 236 1 (.slice none 0 0) (.slice none 0 0) ⟨#[]⟩ 0 0 fail false wrong) 105 (0, 0)) ∧ Fr b w w' := by
  have HH := Aside0.mk h
  have z10 : w.cell? ⟨b, 10, none⟩ = some (.bool asked) := (blk_cell h 10).trans rfl
  have zf10 := blk_frozen h 10
  clear h
  go_enter Try.func35, Try.ntmps35
  go_wp2_with (first | (go_at_call 63; (with_reducible refine (ready_zero b c st cmd want va vi out at_ 0 fail asked wrong _ HH.out).mono ?_); rintro e w9 ⟨rfl, rfl⟩) | (go_at_call 65; (with_reducible refine (begin_param b c st cmd want va vi out at_ fail false wrong _ (bp10 _ HH.out)).mono ?_); rintro e w9 ⟨rfl, q1, q2⟩; have Q1 := Aside0.mk q1; have Q2 := Aside0.mk q2; clear q1 q2))
  first | go_end0 | ((try simp only [Exit.inBlock, Exit.then]); refine bodyPost_ret (results_none rfl _ _ _) rfl ?_)
  exact ⟨rfl, Q1.out, (Fr.set b _ 10 _).trans Q2.out⟩

end Go.Proofs.Ytpkmgiddfbfloaa.XHo
