/- The host finds out what chip there is: by hand; no condition. -/
import Derived.Test.YtpkmgiddfbfloaaXHox
import Derived.Test.YtpkmgiddfbfloaaHoC
import Derived.Test.YtpkmgiddfbfloaaHoE
import Derived.Test.YtpkmgiddfbfloaaHoG
namespace Go.Proofs.Ytpkmgiddfbfloaa.XHo
open Go.RowKit Go.Proofs.YtpkmgiddfbfloaaX.PrintWords Go.Proofs.YtpkmgiddfbfloaaX.PrintLast Go.Proofs.YtpkmgiddfbfloaaX.PrintMore
set_option linter.unusedVariables false
set_option linter.unusedSimpArgs false
theorem Fr.then2 {b h : Nat} {w w1 w2 : World} (f : Fr b w w1) (g : Fr2 b b h w1 w2) (hh : w.heap.size ≤ h) : Fr b w w2 :=
  ⟨f.below.trans g.below, fun k hk hl => (g.same k hk (fun e => by omega) (Nat.lt_of_lt_of_le hl f.below.size)).trans (f.same k hk hl)⟩
theorem Fr.then3 {b : Nat} {w w1 w2 : World} (f : Fr b w w1) (hb : b < w.heap.size) (g : Below w1.heap.size w1 w2) : Fr b w w2 :=
  f.trans (Fr.of (Nat.lt_of_lt_of_le hb f.below.size) g)
theorem Fr.blk {b g : Nat} {w w1 : World} {o : Obj} (f : Fr b w w1) (hne : g ≠ b) (h : w.heap[g]? = some o) : w1.heap[g]? = some o := (f.same g hne (blk_lt h)).trans h
theorem Fr2.blk {B b c g : Nat} {w w1 : World} {o : Obj} (f : Fr2 B b c w w1) (hb : g ≠ b) (hc : g ≠ c) (h : w.heap[g]? = some o) : w1.heap[g]? = some o := (f.same g hb hc (blk_lt h)).trans h
theorem Fr.set_new {b g : Nat} {w w1 : World} (f : Fr b w w1) (i : Nat) (u : Value) (hg : w.heap.size ≤ g) (hb : b ≤ g) : Fr b w (w1.setCell ⟨g, i, none⟩ u) :=
  ⟨f.below.setCell hb u, fun k hk hl => (Below.heap_setCell w1 _ u k (by show k ≠ g; omega)).trans (f.same k hk hl)⟩
/-- The cells of a host. -/
abbrev hostC (b : Nat) (g0 g1 g2 polls : Int) : Array Value := #[.pointer (some ⟨b, 0, none⟩), .int .i64 g0, .int .i64 g1, .int .i64 g2, .int .i64 polls]
set_option maxHeartbeats 16000000 in
set_option maxRecDepth 100000 in
theorem host_probe (k : Nat) (b c : Nat) (hcb : c ≠ b) (g0 g1 g2 : Int) (vb vc vf : Value) (did : Int) (off : Bool) (P : ByteArray) (hP : bus_Param.f k g0 g1 g2 = some P) (hP72 : P.size = 72) (hC : Copy k (P.extract 0 24) g0 g1 g2 true)
    (st cmd want : Int) (va vi : Value) (out : ByteArray) (at_ busy : Int) (fail asked : Bool) (wrong : Int) (w : World)
    (hc : w.heap[c]? = some (.cells (chipC g0 g1 g2 vb vc vf did off) 87 (0, 0)))
    (h : w.heap[b]? = some (.cells (busC c st cmd want va vi out at_ busy fail asked wrong) 105 (0, 0))) :
    Calls Try.prog 9 #[.pointer (some ⟨b, 0, none⟩)] w fun e w' => ∃ hh va', w.heap.size ≤ hh ∧ e = .returned (.tuple #[.pointer (some ⟨hh, 0, none⟩), .int .i64 0]) ∧ w'.heap[hh]? = some (.cells (hostC b g0 g1 g2 6) 69 (0, 0)) ∧
      w'.heap[b]? = some (.cells (busC c 4 236 1 va' (.slice none 0 0) P 72 0 false false wrong) 105 (0, 0)) ∧ Fr b w w' := by
  have C0 := Aside0.mk hc
  have B0 := Aside0.mk h
  have hbw := blk_lt h
  have F0 := Aside0.mk (Fr.refl b w)
  have hsz : (P.size : Int) = 72 := by rw [hP72]; rfl
  have hu69 := Try.underlying69
  clear h hc
  go_enter Try.func9, Try.ntmps9
  go_wp2_with (first
    | (((with_reducible refine gate_dst (N := 14) rfl ?_); refine box_event ?hg (N := 14) ?hd (cs := (hostC b 0 0 0 0)) (t := 69) ?hr ?_; (case hd => rfl); (case hg => rfl); (case hr => first | (go_simp; done) | (go_simp; rfl))); intro hh hg w1 hbox hb; have hhw : w.heap.size ≤ hh := Nat.le_of_eq hg.symm; have hhb : hh ≠ b := (by rw [hg]; exact Nat.ne_of_gt hbw); have B1 := Aside0.mk (blk_below B0.out hb); have C1 := Aside0.mk (blk_below C0.out hb); have H1 := Aside0.mk hbox; have hch : c ≠ hh := (by rw [hg]; exact Nat.ne_of_lt (blk_lt C0.out)); have F1 := Aside0.mk (Fr.of hbw hb); clear hg hbox hb)
    | (go_at_call 35; (with_reducible refine (command_reset b c st cmd want va vi out at_ busy fail asked wrong _ B1.out).mono ?_); rintro e w2 ⟨rfl, q1, q2⟩; have B2 := Aside0.mk q1; have C2 := Aside0.mk (q2.blk hcb C1.out); have H2 := Aside0.mk (q2.blk hhb H1.out); have F2 := Aside0.mk (F1.out.trans q2); clear q1 q2)
    | (go_at_call 36; (with_reducible refine (wait_busy hh b c hhb (.int .i64 0) (.int .i64 0) (.int .i64 0) 0 (by decide) (by decide) 0 0 0 (.slice none 0 0) (.slice none 0 0) ⟨#[]⟩ 0 false false wrong _ b (Nat.le_of_lt (Nat.lt_of_lt_of_le hbw hhw)) (Nat.le_refl _) B2.out H2.out).mono ?_); rintro e w3 ⟨rfl, q1, q2, q3⟩; have B3 := Aside0.mk q1; have H3 := Aside0.mk q2; have C3 := Aside0.mk (q3.blk hcb hch C2.out); have F3 := Aside0.mk (F2.out.then2 q3 hhw); clear q1 q2 q3)
    | (go_at_call 35; (with_reducible refine (command_param b c 0 0 0 (.slice none 0 0) (.slice none 0 0) ⟨#[]⟩ 0 false false wrong _ B3.out).mono ?_); rintro e w4 ⟨rfl, q1, q2⟩; have B4 := Aside0.mk q1; have C4 := Aside0.mk (q2.blk hcb C3.out); have H4 := Aside0.mk (q2.blk hhb H3.out); have F4 := Aside0.mk (F3.out.trans q2); clear q1 q2)
    | (go_at_call 37; (with_reducible refine (address_param k b c hcb g0 g1 g2 vb vc vf did off P hP false false wrong _ C4.out B4.out).mono ?_); rintro e w5 ⟨rfl, ⟨va5, q1⟩, q2⟩; have B5 := Aside0.mk q1; have C5 := Aside0.mk (q2.blk hcb C4.out); have H5 := Aside0.mk (q2.blk hhb H4.out); have F5 := Aside0.mk (F4.out.trans q2); clear q1 q2)
    | (go_at_call 36; (with_reducible refine (wait_busy hh b c hhb (.int .i64 0) (.int .i64 0) (.int .i64 0) (0 + 3) (by decide) (by decide) 4 236 1 va5 (.slice none 0 0) P 0 false false wrong _ b (Nat.le_of_lt (Nat.lt_of_lt_of_le hbw hhw)) (Nat.le_refl _) B5.out H5.out).mono ?_); rintro e w6 ⟨rfl, q1, q2, q3⟩; have B6 := Aside0.mk q1; have H6 := Aside0.mk q2; have C6 := Aside0.mk (q3.blk hcb hch C5.out); have F6 := Aside0.mk (F5.out.then2 q3 hhw); clear q1 q2 q3)
    | (go_at_call 38; have T := take_tell b c 236 1 va5 (.slice none 0 0) P (by omega) (by omega) false wrong w6 (Nat.lt_of_lt_of_le hbw F6.out.below.size) B6.out; rw [hsz] at T; (with_reducible refine T.mono ?_); clear T; rintro e w7 ⟨rfl, q1, q2⟩; have B7 := Aside0.mk q1; have C7 := Aside0.mk (q2.blk hcb C6.out); have H7 := Aside0.mk (q2.blk hhb H6.out); have F7 := Aside0.mk (F6.out.trans q2); clear q1 q2)
    | (go_at_call 6; (with_reducible refine (params_first k P hP72 g0 g1 g2 hC _).mono ?_); rintro e w8 ⟨rfl, q⟩; have B8 := Aside0.mk (blk_below B7.out q); have H8 := Aside0.mk (blk_below H7.out q); have F8 := Aside0.mk (F7.out.then3 hbw q); clear q)
    | (((with_reducible refine gate_dst (N := 8) rfl ?_); refine box_event ?hg (N := 8) ?hd (cs := (#[.int .i64 0, .int .i64 0, .int .i64 0])) (t := 24) ?hr ?_; (case hd => rfl); (case hg => rfl); (case hr => first | (go_simp; done) | (go_simp; rfl))); intro gc hg w9 hbox hb; have B9 := Aside0.mk (blk_below B8.out hb); have H9 := Aside0.mk (blk_below H8.out hb); have F9 := Aside0.mk (F8.out.then3 hbw hb); have Y9 := Aside0.mk hbox; have hnh : hh ≠ gc := (by rw [hg]; exact Nat.ne_of_lt (blk_lt H8.out)); have hnb : b ≠ gc := (by rw [hg]; exact Nat.ne_of_lt (blk_lt B8.out)); have hge : w.heap.size ≤ gc := (by rw [hg]; exact F8.out.below.size); clear hg hb; have cq0 : w9.cell? ⟨gc, 0, none⟩ = some (.int .i64 0) := (blk_cell hbox 0).trans rfl; have cqf0 := blk_frozen hbox 0; have cq1 : w9.cell? ⟨gc, 1, none⟩ = some (.int .i64 0) := (blk_cell hbox 1).trans rfl; have cqf1 := blk_frozen hbox 1; have cq2 : w9.cell? ⟨gc, 2, none⟩ = some (.int .i64 0) := (blk_cell hbox 2).trans rfl; have cqf2 := blk_frozen hbox 2; have dq0 : w9.cell? ⟨hh, 0, none⟩ = some (.pointer (some ⟨b, 0, none⟩)) := (blk_cell H9.out 0).trans rfl; have dqf0 := blk_frozen H9.out 0; have dq1 : w9.cell? ⟨hh, 1, none⟩ = some (.int .i64 0) := (blk_cell H9.out 1).trans rfl; have dqf1 := blk_frozen H9.out 1; have dq2 : w9.cell? ⟨hh, 2, none⟩ = some (.int .i64 0) := (blk_cell H9.out 2).trans rfl; have dqf2 := blk_frozen H9.out 2; have dq3 : w9.cell? ⟨hh, 3, none⟩ = some (.int .i64 0) := (blk_cell H9.out 3).trans rfl; have dqf3 := blk_frozen H9.out 3; have dq4 : w9.cell? ⟨hh, 4, none⟩ = some (.int .i64 6) := (blk_cell H9.out 4).trans rfl; have dqf4 := blk_frozen H9.out 4; clear hbox))
  go_ret2
  have ngh : gc ≠ hh := fun e => hnh e.symm
  have ngb : gc ≠ b := fun e => hnb e.symm
  have hbg : b ≤ gc := Nat.le_of_lt (Nat.lt_of_lt_of_le hbw hge)
  have hbh : b ≤ hh := Nat.le_of_lt (Nat.lt_of_lt_of_le hbw hhw)
  refine ⟨hh, va5, hhw, rfl, ?_, ?_, ?_⟩
  · exact blk_put (cs := hostC b g0 g1 0 6) (blk_put (cs := hostC b g0 0 0 6) (blk_put (cs := hostC b 0 0 0 6) (geo_other _ _ _ ngh H9.out) 1 _ rfl) 2 _ rfl) 3 _ rfl
  · exact set_other hhb (set_other hhb (set_other hhb (geo_other _ _ _ ngb B9.out)))
  · exact (((((F9.out.set_new 0 _ hge hbg).set_new 1 _ hge hbg).set_new 2 _ hge hbg).set_new 1 _ hhw hbh).set_new 2 _ hhw hbh).set_new 3 _ hhw hbh
end Go.Proofs.Ytpkmgiddfbfloaa.XHo
