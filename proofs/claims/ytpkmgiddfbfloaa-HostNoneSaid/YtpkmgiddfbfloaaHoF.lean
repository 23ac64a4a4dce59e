/- One copy of what the chip tells of itself, read: by hand; no condition. -/
import Derived.Test.YtpkmgiddfbfloaaXHox
import Derived.Test.YtpkmgiddfbfloaaHoD
import Derived.Laws.ResultCell
namespace Go.Proofs.Ytpkmgiddfbfloaa.XHo
open Go.RowKit Go.Proofs.YtpkmgiddfbfloaaX.PrintWords Go.Proofs.YtpkmgiddfbfloaaX.PrintLast Go.Proofs.YtpkmgiddfbfloaaX.PrintMore
set_option linter.unusedVariables false
set_option linter.unusedSimpArgs false
theorem below_drawn {n : Nat} {w w1 w2 : World} (h : Below n w w1) (q : Drawn0 w1 w2) : Below n w w2 := by
  obtain ⟨m, rfl⟩ := q.out
  exact pw_below_drewN h m
theorem s114_mk {w0 W : World} {g : Nat} {f0 : ByteArray} {f1 : Int} (h : W.heap[g]? = some (.cells #[.string f0, .int .i64 f1] 114 (0, 0))) (hg : w0.heap.size ≤ g) : IsS114 w0 W g f0 f1 := And.intro h hg
theorem s114_blk {w0 W : World} {g : Nat} {f0 : ByteArray} {f1 : Int} (h : IsS114 w0 W g f0 f1) : W.heap[g]? = some (.cells #[.string f0, .int .i64 f1] 114 (0, 0)) := And.left h
theorem s114_ge {w0 W : World} {g : Nat} {f0 : ByteArray} {f1 : Int} (h : IsS114 w0 W g f0 f1) : w0.heap.size ≤ g := And.right h
section
variable {w w1 : World} {g r n : Nat} {o : Obj} {t : TypeId} {a0 b0 c0 : Value} (a b c : Value)
theorem geo_below (h : Below n w w1) (hg : n ≤ g) : Below n w (((w1.setCell ⟨g, 0, none⟩ a).setCell ⟨g, 1, none⟩ b).setCell ⟨g, 2, none⟩ c) := ((h.setCell hg _).setCell hg _).setCell hg _
theorem geo_other (hne : g ≠ r) (h : w.heap[r]? = some o) : (((w.setCell ⟨g, 0, none⟩ a).setCell ⟨g, 1, none⟩ b).setCell ⟨g, 2, none⟩ c).heap[r]? = some o := set_other hne (set_other hne (set_other hne h))
theorem geo_put (h : w.heap[g]? = some (.cells #[a0, b0, c0] t (0, 0))) : (((w.setCell ⟨g, 0, none⟩ a).setCell ⟨g, 1, none⟩ b).setCell ⟨g, 2, none⟩ c).heap[g]? = some (.cells #[a, b, c] t (0, 0)) :=
  blk_put (cs := #[a, b, c0]) (blk_put (cs := #[a, b0, c0]) (blk_put h 0 a rfl) 1 b rfl) 2 c rfl
end
theorem results_geo_tmp {fn : Func} {p u : Tmp} (h : fn.results = #[.cell p 24, .tmp u]) (tmps : Array Value) (w : World) (g : Nat) (cs : Array Value) (hp : tmps.getD p undef = .pointer (some ⟨g, 0, none⟩))
    (hg : w.heap[g]? = some (.cells cs 24 (0, 0))) (hs : cs.size = 3) : (results fn tmps).run Try.prog w = .ok (.tuple #[.agg cs, tmps.getD u undef]) w := by
  rw [results_cell_tmp h, hp]
  simp [asAddr, run_loadVar_row w g 24 24 cs (0, 0) _ hg Try.underlying24 rfl (by rw [hs]; kernel_rfl), Result.andThen]
/-- What is read of a copy: its steps. -/
structure Copy (k : Nat) (s : ByteArray) (x0 x1 x2 : Int) (ok : Bool) : Prop where mk ::
  (out : ∃ b0 s0 e0 y1 s1 e1 y2 s2 e2 y3 s3 e3 y4 s4 e4 c y5 s5 e5, code_Reader_Bytes.f s 0 3 = some (b0, s0, e0) ∧ code_Reader_Fixed.f k s0 e0 4 = some (y1, s1, e1) ∧ code_Reader_Fixed.f k s1 e1 4 = some (y2, s2, e2) ∧ code_Reader_Fixed.f k s2 e2 4 = some (y3, s3, e3) ∧
    code_Reader_Fixed.f k s3 e3 2 = some (y4, s4, e4) ∧ crc_Sum.f k (s.extract 0 20) = some c ∧ code_Reader_Fixed.f k (s.extract 20 24) 0 4 = some (y5, s5, e5) ∧ x0 = wrap64 y1 ∧ x1 = wrap64 y2 ∧ x2 = wrap64 y3 ∧ ok = ((IntKind.u64.wrap c == y5) && (y4 == 32)))
set_option maxHeartbeats 8000000 in
set_option maxRecDepth 100000 in
theorem host_param (k : Nat) (s : ByteArray) (hs : s.size = 24) (x0 x1 x2 : Int) (ok : Bool) (hC : Copy k s x0 x1 x2 ok) (w : World) :
    Calls Try.prog 30 #[.string s] w fun e w' => e = .returned (.tuple #[.agg #[.int .i64 x0, .int .i64 x1, .int .i64 x2], .bool ok]) ∧ Below w.heap.size w w' := by
  obtain ⟨b0, s0, e0, y1, s1, e1, y2, s2, e2, y3, s3, e3, y4, s4, e4, c, y5, s5, e5, p0, p1, p2, p3, p4, p5, p6, rfl, rfl, rfl, rfl⟩ := hC.out
  have P0 := Aside0.mk p0
  have P1 := Aside0.mk p1
  have P2 := Aside0.mk p2
  have P3 := Aside0.mk p3
  have P4 := Aside0.mk p4
  have P5 := Aside0.mk p5
  have P6 := Aside0.mk p6
  have hsz : (s.size : Int) = 24 := by rw [hs]; rfl
  clear p0 p1 p2 p3 p4 p5 p6 hC
  have HB := Aside0.mk (Below.refl w.heap.size w)
  go_enter Try.func30, Try.ntmps30
  go_wp2_with (first
    | (((with_reducible refine gate_dst (N := 2) rfl ?_); refine box_event ?hg (N := 2) ?hd (cs := (#[.int .i64 0, .int .i64 0, .int .i64 0])) (t := 24) ?hr ?_; (case hd => rfl); (case hg => rfl); (case hr => first | (go_simp; done) | (go_simp; rfl))); intro gb hg w1 hbox hb; have HB1 := Aside0.mk hb; have HX := Aside0.mk hbox; have HG := Aside0.mk hg; clear hg hbox hb)
    | (go_at_call 57; (with_reducible refine (code_New.calls s s 0 w1 _ (Below.refl _ _) rfl).mono ?_); rintro e w2 ⟨gr, rfl, q1, q2, q3⟩; have I2 := Aside0.mk q1; have B2 := Aside0.mk q2; clear q1 q2 q3)
    | (go_at_call 58; (with_reducible refine (code_Reader_Bytes.calls gr s 0 3 b0 s0 e0 w1 _ I2.out B2.out P0.out).mono ?_); rintro e w3 ⟨rfl, q1, q2, q3⟩; have I3 := Aside0.mk q1; have B3 := Aside0.mk q2; clear q1 q2 q3)
    | (go_at_call 59; (with_reducible refine (code_Reader_Fixed.calls k gr s0 e0 4 y1 s1 e1 w1 _ I3.out B3.out P1.out).mono ?_); rintro e w4 ⟨rfl, q1, q2, q3⟩; have I4 := Aside0.mk q1; have B4 := Aside0.mk q2; clear q1 q2 q3)
    | (go_at_call 59; (with_reducible refine (code_Reader_Fixed.calls k gr s1 e1 4 y2 s2 e2 w1 _ I4.out B4.out P2.out).mono ?_); rintro e w5 ⟨rfl, q1, q2, q3⟩; have I5 := Aside0.mk q1; have B5 := Aside0.mk q2; clear q1 q2 q3)
    | (go_at_call 59; (with_reducible refine (code_Reader_Fixed.calls k gr s2 e2 4 y3 s3 e3 w1 _ I5.out B5.out P3.out).mono ?_); rintro e w6 ⟨rfl, q1, q2, q3⟩; have I6 := Aside0.mk q1; have B6 := Aside0.mk q2; clear q1 q2 q3)
    | (((with_reducible refine gate_dst (N := 5) rfl ?_); refine box_event ?hg (N := 5) ?hd (cs := (#[.int .i64 0, .int .i64 0, .int .i64 0])) (t := 24) ?hr ?_; (case hd => rfl); (case hg => rfl); (case hr => first | (go_simp; done) | (go_simp; rfl))); intro gc hg w7 hbox hb; have B7 := Aside0.mk hb; have X7 := Aside0.mk hbox; have G7 := Aside0.mk hg; have cq0 : w7.cell? ⟨gc, 0, none⟩ = some (.int .i64 0) := (blk_cell hbox 0).trans rfl; have cqf0 := blk_frozen hbox 0; have cq1 : w7.cell? ⟨gc, 1, none⟩ = some (.int .i64 0) := (blk_cell hbox 1).trans rfl; have cqf1 := blk_frozen hbox 1; have cq2 : w7.cell? ⟨gc, 2, none⟩ = some (.int .i64 0) := (blk_cell hbox 2).trans rfl; have cqf2 := blk_frozen hbox 2; clear hg hbox hb)
    | (go_at_call 59; go_loud (have hne : gc ≠ gr := (by rw [G7.out]; exact Nat.ne_of_gt (blk_lt (s114_blk I6.out))); have I8 := Aside0.mk (geo_other (.int .i64 (wrap64 y1)) (.int .i64 (wrap64 y2)) (.int .i64 (wrap64 y3)) hne (blk_below (s114_blk I6.out) B7.out)); have X8 := Aside0.mk (geo_put (.int .i64 (wrap64 y1)) (.int .i64 (wrap64 y2)) (.int .i64 (wrap64 y3)) X7.out); have hgc : w1.heap.size ≤ gc := (by rw [G7.out]; exact B6.out.size); have B8 := Aside0.mk (geo_below (.int .i64 (wrap64 y1)) (.int .i64 (wrap64 y2)) (.int .i64 (wrap64 y3)) (B6.out.trans (B7.out.mono B6.out.size)) hgc); (with_reducible refine (code_Reader_Fixed.calls k gr s3 e3 2 y4 s4 e4 w1 _ (s114_mk I8.out (s114_ge I6.out)) B8.out P4.out).mono ?_); rintro e w9 ⟨rfl, q1, q2, q3⟩; have B9 := Aside0.mk q2; have X9 := Aside0.mk ((q3.2 gc (blk_lt X8.out) hne (fun h => nomatch h)).trans X8.out); clear q1 q2 q3 cq0 cq1 cq2 cqf0 cqf1 cqf2)))
  go_region_with (first
    | (go_at_call 60; (with_reducible refine (crc_Sum.calls k (s.extract 0 20) c _ P5.out).mono ?_); rintro e wa ⟨rfl, qa⟩; have Xa := Aside0.mk (drawn_blk qa X9.out); have Ba : Aside0 (Below w1.heap.size w1 wa) := ⟨below_drawn (by apply below_drew1; exact B9.out) qa⟩; clear qa)
    | (go_at_call 57; (with_reducible refine (code_New.calls _ _ 0 _ _ (Below.refl _ _) rfl).mono ?_); rintro e wb ⟨gd, rfl, q1, q2, q3⟩; have I10 := Aside0.mk q1; have B10 := Aside0.mk q2; clear q1 q2 q3)
    | (go_at_call 59; (with_reducible refine (code_Reader_Fixed.calls k gd _ 0 4 y5 s5 e5 wa _ I10.out B10.out P6.out).mono ?_); rintro e wc ⟨rfl, q1, q2, q3⟩; have B11 := Aside0.mk q2; have X11 := Aside0.mk (blk_below Xa.out q2); clear q1 q2 q3))
  have B12 : Below w1.heap.size w1 wc := Ba.out.trans (B11.out.mono Ba.out.size)
  have XB := Aside0.mk (blk_below HX.out B12)
  have hgb : w.heap.size ≤ gb := by rw [HG.out]; exact Nat.le_refl _
  have B13 := Aside0.mk (HB1.out.trans (B12.mono HB1.out.size))
  clear B12
  simp only [Act.put, List.setIfInBounds_toArray, List.set_cons_zero, List.set_cons_succ]
  have dq0 : wc.cell? ⟨gc, 0, none⟩ = some (.int .i64 (wrap64 y1)) := (blk_cell X11.out 0).trans rfl; have dqf0 := blk_frozen X11.out 0; have dq1 : wc.cell? ⟨gc, 1, none⟩ = some (.int .i64 (wrap64 y2)) := (blk_cell X11.out 1).trans rfl; have dqf1 := blk_frozen X11.out 1; have dq2 : wc.cell? ⟨gc, 2, none⟩ = some (.int .i64 (wrap64 y3)) := (blk_cell X11.out 2).trans rfl; have dqf2 := blk_frozen X11.out 2; have eq0 : wc.cell? ⟨gb, 0, none⟩ = some (.int .i64 0) := (blk_cell XB.out 0).trans rfl; have eqf0 := blk_frozen XB.out 0; have eq1 : wc.cell? ⟨gb, 1, none⟩ = some (.int .i64 0) := (blk_cell XB.out 1).trans rfl; have eqf1 := blk_frozen XB.out 1; have eq2 : wc.cell? ⟨gb, 2, none⟩ = some (.int .i64 0) := (blk_cell XB.out 2).trans rfl; have eqf2 := blk_frozen XB.out 2
  cases hz1 : (IntKind.u64.wrap c == y5) <;> cases hz2 : (y4 == 32) <;> go_wp2
  all_goals refine bodyPost_ret (results_geo_tmp rfl _ _ gb #[.int .i64 (wrap64 y1), .int .i64 (wrap64 y2), .int .i64 (wrap64 y3)] rfl (by exact geo_put _ _ _ XB.out) rfl) rfl ?_
  all_goals exact ⟨by rw [hz1, hz2]; rfl, geo_below _ _ _ B13.out hgb⟩
end Go.Proofs.Ytpkmgiddfbfloaa.XHo
