/- What copies say, the first being right: by hand; no condition. -/
import Derived.Test.YtpkmgiddfbfloaaXHox
import Derived.Test.YtpkmgiddfbfloaaHoF
namespace Go.Proofs.Ytpkmgiddfbfloaa.XHo
open Go.RowKit Go.Proofs.YtpkmgiddfbfloaaX.PrintWords Go.Proofs.YtpkmgiddfbfloaaX.PrintLast Go.Proofs.YtpkmgiddfbfloaaX.PrintMore
set_option linter.unusedVariables false
set_option linter.unusedSimpArgs false
set_option maxHeartbeats 8000000 in
set_option maxRecDepth 100000 in
theorem params_first (k : Nat) (s : ByteArray) (hs : s.size = 72) (x0 x1 x2 : Int) (hC : Copy k (s.extract 0 24) x0 x1 x2 true) (w : World) :
    Calls Try.prog 6 #[.string s] w fun e w' => e = .returned (.tuple #[.agg #[.int .i64 x0, .int .i64 x1, .int .i64 x2], .bool true]) ∧ Below w.heap.size w w' := by
  have hsz : (s.size : Int) = 72 := by rw [hs]; rfl
  have h24 : (s.extract 0 24).size = 24 := by rw [ByteArray.size_extract, hs]; rfl
  go_enter Try.func6, Try.ntmps6
  go_wp2_with (((with_reducible refine gate_dst (N := 2) rfl ?_); refine box_event ?hg (N := 2) ?hd (cs := (#[.int .i64 0, .int .i64 0, .int .i64 0])) (t := 24) ?hr ?_; (case hd => rfl); (case hg => rfl); (case hr => first | (go_simp; done) | (go_simp; rfl))); intro gb hg w1 hbox hb; have HB1 := Aside0.mk hb; have HX := Aside0.mk hbox; have HG := Aside0.mk hg; clear hg hbox hb)
  have hgb : w.heap.size ≤ gb := by rw [HG.out]; exact Nat.le_refl _
  go_loopg [13] 1 (fun kq v13 w' => v13 = .int .i64 0 ∧ Aside0 (kq = 1) ∧ Aside0 (w'.heap[gb]? = some (.cells #[.int .i64 0, .int .i64 0, .int .i64 0] 24 (0, 0))) ∧ Aside0 (Below w.heap.size w w'))
  case atStart => exact ⟨rfl, ⟨rfl⟩, HX, HB1⟩
  case round =>
    clear HX HB1 HG
    obtain ⟨rfl, hk, HX, HB⟩ := hrel
    go_wp2_with (first
      | (go_at_call 30; (with_reducible refine (host_param k (s.extract 0 24) h24 x0 x1 x2 true hC _).mono ?_); rintro e w3 ⟨rfl, q⟩; have X3 := Aside0.mk (blk_below HX.out q); have B3 := Aside0.mk (HB.out.trans (q.mono HB.out.size)); clear q)
      | (((with_reducible refine gate_dst (N := 5) rfl ?_); refine box_event ?hg (N := 5) ?hd (cs := (#[.int .i64 0, .int .i64 0, .int .i64 0])) (t := 24) ?hr ?_; (case hd => rfl); (case hg => rfl); (case hr => first | (go_simp; done) | (go_simp; rfl))); intro gc hg w4 hbox hb; have B4 := Aside0.mk (B3.out.trans (hb.mono B3.out.size)); have X4 := Aside0.mk (blk_below X3.out hb); have Y4 := Aside0.mk hbox; have hne : gb ≠ gc := (by rw [hg]; exact Nat.ne_of_lt (blk_lt X3.out)); have hge : w.heap.size ≤ gc := (by rw [hg]; exact B3.out.size); clear hg hb; have cq0 : w4.cell? ⟨gc, 0, none⟩ = some (.int .i64 0) := (blk_cell hbox 0).trans rfl; have cqf0 := blk_frozen hbox 0; have cq1 : w4.cell? ⟨gc, 1, none⟩ = some (.int .i64 0) := (blk_cell hbox 1).trans rfl; have cqf1 := blk_frozen hbox 1; have cq2 : w4.cell? ⟨gc, 2, none⟩ = some (.int .i64 0) := (blk_cell hbox 2).trans rfl; have cqf2 := blk_frozen hbox 2; have dq0 : w4.cell? ⟨gb, 0, none⟩ = some (.int .i64 0) := (blk_cell X4.out 0).trans rfl; have dqf0 := blk_frozen X4.out 0; have dq1 : w4.cell? ⟨gb, 1, none⟩ = some (.int .i64 0) := (blk_cell X4.out 1).trans rfl; have dqf1 := blk_frozen X4.out 1; have dq2 : w4.cell? ⟨gb, 2, none⟩ = some (.int .i64 0) := (blk_cell X4.out 2).trans rfl; have dqf2 := blk_frozen X4.out 2; clear hbox))
    refine bodyPost_ret (results_geo_tmp rfl _ _ gb #[.int .i64 x0, .int .i64 x1, .int .i64 x2] rfl (by exact geo_put _ _ _ (geo_other _ _ _ (fun e => hne e.symm) X4.out)) rfl) rfl ?_
    exact ⟨rfl, geo_below _ _ _ (geo_below _ _ _ B4.out hge) hgb⟩
end Go.Proofs.Ytpkmgiddfbfloaa.XHo
