/- The least chip driven through its pins; what no host tells: by hand; no condition. -/
import Derived.Test.YtpkmgiddfbfloaaXHox
import Derived.Test.YtpkmgiddfbfloaaHoH
import Derived.Test.YtpkmgiddfbfloaaHoI
import Derived.Test.YtpkmgiddfbfloaaHoK
namespace Go.Proofs.Ytpkmgiddfbfloaa.XHo
open Go.RowKit Go.Proofs.YtpkmgiddfbfloaaX.PrintWords Go.Proofs.YtpkmgiddfbfloaaX.PrintLast Go.Proofs.YtpkmgiddfbfloaaX.PrintMore
set_option linter.unusedVariables false
set_option linter.unusedSimpArgs false
set_option maxHeartbeats 16000000 in
set_option maxRecDepth 100000 in
theorem host_geometry (hh b : Nat) (g0 g1 g2 p : Int) (w : World) (h : w.heap[hh]? = some (.cells (hostC b g0 g1 g2 p) 69 (0, 0))) :
    Calls Try.prog 15 #[.pointer (some ⟨hh, 0, none⟩)] w fun e w' => e = .returned (.agg #[.int .i64 g0, .int .i64 g1, .int .i64 g2]) ∧ Below w.heap.size w w' := by
  have HH := Aside0.mk h
  clear h
  go_enter Try.func15, Try.ntmps15
  go_wp2_with (first | (((with_reducible refine gate_dst (N := 2) rfl ?_); refine box_event ?hg (N := 2) ?hd (cs := (#[.int .i64 0, .int .i64 0, .int .i64 0])) (t := 24) ?hr ?_; (case hd => rfl); (case hg => rfl); (case hr => first | (go_simp; done) | (go_simp; rfl))); intro gb hg w2 hbox hb; have HB := Aside0.mk hb; have HX := Aside0.mk hbox; have HG := Aside0.mk hg; have z1 : w2.cell? ⟨hh, 1, none⟩ = some (.int .i64 g0) := (blk_cell (blk_below HH.out hb) 1).trans rfl; have z2 : w2.cell? ⟨hh, 2, none⟩ = some (.int .i64 g1) := (blk_cell (blk_below HH.out hb) 2).trans rfl; have z3 : w2.cell? ⟨hh, 3, none⟩ = some (.int .i64 g2) := (blk_cell (blk_below HH.out hb) 3).trans rfl; have y0 : w2.cell? ⟨gb, 0, none⟩ = some (.int .i64 0) := (blk_cell hbox 0).trans rfl; have yf0 := blk_frozen hbox 0; have y1 : w2.cell? ⟨gb, 1, none⟩ = some (.int .i64 0) := (blk_cell hbox 1).trans rfl; have yf1 := blk_frozen hbox 1; have y2 : w2.cell? ⟨gb, 2, none⟩ = some (.int .i64 0) := (blk_cell hbox 2).trans rfl; have yf2 := blk_frozen hbox 2; clear hg hbox hb))
  have hge : w.heap.size ≤ gb := by rw [HG.out]; exact Nat.le_refl _
  refine bodyPost_ret (results_geo rfl _ _ gb #[.int .i64 g0, .int .i64 g1, .int .i64 g2] rfl (by exact geo_put _ _ _ HX.out) rfl) rfl ?_
  exact ⟨rfl, geo_below _ _ _ HB.out hge⟩
set_option maxHeartbeats 16000000 in
set_option maxRecDepth 100000 in
theorem nil_geometry (w : World) :
    Calls Try.prog 15 #[.pointer none] w fun e w' => e = .returned (.agg #[.int .i64 0, .int .i64 0, .int .i64 0]) ∧ Below w.heap.size w w' := by
  have hu24 := Try.underlying24
  go_enter Try.func15, Try.ntmps15
  go_wp2_with (first | (((with_reducible refine gate_dst (N := 2) rfl ?_); refine box_event ?hg (N := 2) ?hd (cs := (#[.int .i64 0, .int .i64 0, .int .i64 0])) (t := 24) ?hr ?_; (case hd => rfl); (case hg => rfl); (case hr => first | (go_simp; done) | (go_simp; rfl))); intro gb hg w2 hbox hb; have HB := Aside0.mk hb; have HX := Aside0.mk hbox; have HG := Aside0.mk hg; have y0 : w2.cell? ⟨gb, 0, none⟩ = some (.int .i64 0) := (blk_cell hbox 0).trans rfl; have yf0 := blk_frozen hbox 0; have y1 : w2.cell? ⟨gb, 1, none⟩ = some (.int .i64 0) := (blk_cell hbox 1).trans rfl; have yf1 := blk_frozen hbox 1; have y2 : w2.cell? ⟨gb, 2, none⟩ = some (.int .i64 0) := (blk_cell hbox 2).trans rfl; have yf2 := blk_frozen hbox 2; clear hg hbox hb))
  have hge : w.heap.size ≤ gb := by rw [HG.out]; exact Nat.le_refl _
  refine bodyPost_ret (results_geo rfl _ _ gb #[.int .i64 0, .int .i64 0, .int .i64 0] rfl (by exact geo_put _ _ _ HX.out) rfl) rfl ?_
  exact ⟨rfl, geo_below _ _ _ HB.out hge⟩
set_option maxHeartbeats 16000000 in
set_option maxRecDepth 100000 in
theorem host_polls (hh b : Nat) (g0 g1 g2 p : Int) (w : World) (h : w.heap[hh]? = some (.cells (hostC b g0 g1 g2 p) 69 (0, 0))) :
    Calls Try.prog 16 #[.pointer (some ⟨hh, 0, none⟩)] w fun e w' => e = .returned (.int .i64 p) ∧ w' = w := by
  have z4 : w.cell? ⟨hh, 4, none⟩ = some (.int .i64 p) := (blk_cell h 4).trans rfl
  clear h
  go_enter Try.func16, Try.ntmps16
  go_wp2
  go_ret
  exact ⟨rfl, rfl⟩
set_option maxHeartbeats 16000000 in
set_option maxRecDepth 100000 in
theorem nil_polls (w : World) : Calls Try.prog 16 #[.pointer none] w fun e w' => e = .returned (.int .i64 0) ∧ w' = w := by
  go_enter Try.func16, Try.ntmps16
  go_wp2
  go_ret
  exact ⟨rfl, rfl⟩
set_option maxHeartbeats 16000000 in
set_option maxRecDepth 100000 in
theorem nil_begin (b p : Int) (w : World) : Calls Try.prog 39 #[.pointer none, .int .i64 b, .int .i64 p] w fun e w' => e = .returned (.tuple #[.int .i64 0, .int .i64 1]) ∧ w' = w := by
  go_enter Try.func39, Try.ntmps39
  go_wp2
  go_ret2
  exact ⟨rfl, rfl⟩
set_option maxHeartbeats 16000000 in
set_option maxRecDepth 100000 in
theorem nil_read (b p : Int) (w : World) : Calls Try.prog 10 #[.pointer none, .int .i64 b, .int .i64 p] w fun e w' => e = .returned (.tuple #[.string ⟨#[]⟩, .string ⟨#[]⟩, .int .i64 1]) ∧ w' = w := by
  go_enter Try.func10, Try.ntmps10
  go_wp2_with (go_at_call 39; (with_reducible refine (nil_begin b p _).mono ?_); rintro e w9 ⟨rfl, q⟩; subst w9)
  go_ret3
  exact ⟨rfl, rfl⟩
set_option maxHeartbeats 16000000 in
set_option maxRecDepth 100000 in
theorem nil_marked (b : Int) (w : World) : Calls Try.prog 11 #[.pointer none, .int .i64 b] w fun e w' => e = .returned (.tuple #[.bool false, .int .i64 1]) ∧ w' = w := by
  go_enter Try.func11, Try.ntmps11
  go_wp2_with (go_at_call 39; (with_reducible refine (nil_begin b 0 _).mono ?_); rintro e w9 ⟨rfl, q⟩; subst w9)
  go_ret2
  exact ⟨rfl, rfl⟩
set_option maxHeartbeats 16000000 in
set_option maxRecDepth 100000 in
theorem nil_program (b p : Int) (s t : ByteArray) (w : World) : Calls Try.prog 12 #[.pointer none, .int .i64 b, .int .i64 p, .string s, .string t] w fun e w' => e = .returned (.int .i64 1) ∧ w' = w := by
  go_enter Try.func12, Try.ntmps12
  go_wp2_with (go_at_call 39; (with_reducible refine (nil_begin b p _).mono ?_); rintro e w9 ⟨rfl, q⟩; subst w9)
  go_ret
  exact ⟨rfl, rfl⟩
set_option maxHeartbeats 16000000 in
set_option maxRecDepth 100000 in
theorem nil_erase (b : Int) (w : World) : Calls Try.prog 13 #[.pointer none, .int .i64 b] w fun e w' => e = .returned (.int .i64 1) ∧ w' = w := by
  go_enter Try.func13, Try.ntmps13
  go_wp2_with (go_at_call 39; (with_reducible refine (nil_begin b 0 _).mono ?_); rintro e w9 ⟨rfl, q⟩; subst w9)
  go_ret
  exact ⟨rfl, rfl⟩
set_option maxHeartbeats 16000000 in
set_option maxRecDepth 100000 in
theorem nil_mark (b : Int) (w : World) : Calls Try.prog 14 #[.pointer none, .int .i64 b] w fun e w' => e = .returned (.int .i64 1) ∧ w' = w := by
  go_enter Try.func14, Try.ntmps14
  go_wp2_with (go_at_call 39; (with_reducible refine (nil_begin b 0 _).mono ?_); rintro e w9 ⟨rfl, q⟩; subst w9)
  go_ret
  exact ⟨rfl, rfl⟩
set_option maxHeartbeats 16000000 in
set_option maxRecDepth 100000 in
theorem nil_probe (w : World) : Calls Try.prog 9 #[.pointer none] w fun e w' => e = .returned (.tuple #[.pointer none, .int .i64 1]) ∧ w' = w := by
  go_enter Try.func9, Try.ntmps9
  go_wp2
  go_ret2
  exact ⟨rfl, rfl⟩
set_option maxHeartbeats 16000000 in
set_option maxRecDepth 100000 in
theorem least_begun (w : World) : Calls Try.prog 17 #[.agg #[.int .i64 0, .int .i64 0, .int .i64 0], .agg #[.slice none 0 0, .slice none 0 0, .slice none 0 0]] w fun e w' => ∃ c hh : Nat, e = .returned (.tuple #[.pointer (some ⟨c, 0, none⟩), .pointer (some ⟨hh, 0, none⟩), .bool true]) ∧
      (∃ vb, w'.heap[c]? = some (.cells (chipC 8 4 64 vb (.slice none 0 0) (.slice none 0 0) 0 false) 87 (0, 0))) ∧ (∃ b, w'.heap[hh]? = some (.cells (hostC b 8 4 64 6) 69 (0, 0))) ∧ Below w.heap.size w w' := by
  go_enter Try.func17, Try.ntmps17
  go_wp2_with (first
    | (((with_reducible refine gate_dst (N := 2) rfl ?_); refine box_event ?hg (N := 2) ?hd (cs := (#[.int .i64 0, .int .i64 0, .int .i64 0])) (t := 24) ?hr ?_; (case hd => rfl); (case hg => rfl); (case hr => first | (go_simp; done) | (go_simp; rfl))); intro ga hg w1 hbox hb; have A1 := Aside0.mk hbox; have B1 := Aside0.mk hb; clear hg hbox hb)
    | (((with_reducible refine gate_dst (N := 3) rfl ?_); refine box_event ?hg (N := 3) ?hd (cs := (#[.slice none 0 0, .slice none 0 0, .slice none 0 0])) (t := 45) ?hr ?_; (case hd => rfl); (case hg => rfl); (case hr => first | (go_simp; done) | (go_simp; rfl))); intro gf hg w2 hbox hb; have A2 := Aside0.mk (blk_below A1.out hb); have Y2 := Aside0.mk hbox; have B2 := Aside0.mk (B1.out.trans (hb.mono B1.out.size)); clear hg hbox hb; have ca0 : w2.cell? ⟨ga, 0, none⟩ = some (.int .i64 0) := (blk_cell A2.out 0).trans rfl; have ca1 : w2.cell? ⟨ga, 1, none⟩ = some (.int .i64 0) := (blk_cell A2.out 1).trans rfl; have ca2 : w2.cell? ⟨ga, 2, none⟩ = some (.int .i64 0) := (blk_cell A2.out 2).trans rfl; have cf0 : w2.cell? ⟨gf, 0, none⟩ = some (.slice none 0 0) := (blk_cell Y2.out 0).trans rfl; have cf1 : w2.cell? ⟨gf, 1, none⟩ = some (.slice none 0 0) := (blk_cell Y2.out 1).trans rfl; have cf2 : w2.cell? ⟨gf, 2, none⟩ = some (.slice none 0 0) := (blk_cell Y2.out 2).trans rfl))
  go_region_with (first
    | (go_at_call 19; (with_reducible refine (tinderboxlaw05_Geometry.calls 0 0 0 8 4 64 _ (by decide +kernel)).mono ?_); rintro e w3 ⟨rfl, q⟩; have Y3 := Aside0.mk (blk_below (blk_drew Y2.out) q); have B3 := Aside0.mk ((below_drew1 B2.out).trans (q.mono (below_drew1 B2.out).size)); clear q; have cg0 : w3.cell? ⟨gf, 0, none⟩ = some (.slice none 0 0) := (blk_cell Y3.out 0).trans rfl; have cg1 : w3.cell? ⟨gf, 1, none⟩ = some (.slice none 0 0) := (blk_cell Y3.out 1).trans rfl; have cg2 : w3.cell? ⟨gf, 2, none⟩ = some (.slice none 0 0) := (blk_cell Y3.out 2).trans rfl)
    | (go_at_call 18; (with_reducible refine (nand_least _).mono ?_); rintro e w4 ⟨c, vb, hcw, rfl, q1, q2⟩; have C4 := Aside0.mk q1; have B4 := Aside0.mk (B3.out.trans (q2.mono B3.out.size)); clear q1 q2))
  all_goals
    simp only [Act.put, List.setIfInBounds_toArray, List.set_cons_zero, List.set_cons_succ]
    go_wp2_with (first
      | (go_at_call 46; (with_reducible refine (bus_new c 8 4 64 vb (.slice none 0 0) (.slice none 0 0) 0 false _ (by decide) C4.out).mono ?_); rintro e w5 ⟨b, hbw, rfl, q1, q2⟩; have hcb : c ≠ b := (fun e => absurd (blk_lt C4.out) (by omega)); have B5 := Aside0.mk q1; have C5 := Aside0.mk (blk_below C4.out q2); have D5 := Aside0.mk (B4.out.trans (q2.mono B4.out.size)); have hbw' : w.heap.size ≤ b := Nat.le_trans B4.out.size hbw; clear q1 q2)
      | (go_at_call 9; (with_reducible refine (host_probe 1000 b c hcb 8 4 64 vb (.slice none 0 0) (.slice none 0 0) 0 false leastP least_param least_size least_copy 0 0 0 (.slice none 0 0) (.slice none 0 0) ⟨#[]⟩ 0 0 false false 0 _ C5.out B5.out).mono ?_); rintro e w6 ⟨hh, va, hhw, rfl, q1, q2, q3⟩; have H6 := Aside0.mk q1; have C6 := Aside0.mk (q3.blk hcb C5.out); have D6 := Aside0.mk (D5.out.trans (q3.below.mono hbw')); clear q1 q2 q3))
    go_ret3
    exact ⟨c, hh, rfl, ⟨_, C6.out⟩, ⟨_, H6.out⟩, D6.out⟩
set_option maxHeartbeats 16000000 in
set_option maxRecDepth 100000 in
theorem awake_true (w : World) : Calls Try.prog 8 #[] w fun e w' => e = .returned (.bool true) ∧ Below w.heap.size w w' := by
  have hu24 := Try.underlying24
  have hu45 := Try.underlying45
  go_enter Try.func8, Try.ntmps8
  go_wp2_with (first
    | (go_at_call 17; (with_reducible refine (least_begun _).mono ?_); rintro e w1 ⟨c, hh, rfl, ⟨vb, q1⟩, ⟨b, q2⟩, q3⟩; have C1 := Aside0.mk q1; have H1 := Aside0.mk q2; have B1 := Aside0.mk q3; clear q1 q2 q3)
    | (go_at_call 15; (with_reducible refine (host_geometry hh b 8 4 64 6 _ H1.out).mono ?_); rintro e w2 ⟨rfl, q⟩; have C2 := Aside0.mk (blk_below C1.out q); have H2 := Aside0.mk (blk_below H1.out q); have B2 := Aside0.mk (B1.out.trans (q.mono B1.out.size)); clear q)
    | (go_at_call 20; (with_reducible refine (chip_geometry c 8 4 64 vb (.slice none 0 0) (.slice none 0 0) 0 false _ C2.out).mono ?_); rintro e w3 ⟨rfl, q⟩; have H3 := Aside0.mk (blk_below H2.out q); have B3 := Aside0.mk (B2.out.trans (q.mono B2.out.size)); clear q)
    | (go_at_call 16; (with_reducible refine (host_polls hh b 8 4 64 6 _ H3.out).mono ?_); rintro e w4 ⟨rfl, q⟩; subst w4))
  go_ret
  exact ⟨rfl, B3.out⟩
set_option maxHeartbeats 16000000 in
set_option maxRecDepth 100000 in
theorem host_none (b p : Int) (w : World) : Calls Try.prog 4 #[.int .i64 b, .int .i64 p] w fun e w' => e = .returned (.bool true) ∧ Below w.heap.size w w' := by
  have hu24 := Try.underlying24
  have HB := Aside0.mk (Below.refl w.heap.size w)
  go_enter Try.func4, Try.ntmps4
  go_wp2_with (first
    | (go_at_call 9; (with_reducible refine (nil_probe _).mono ?_); rintro e w9 ⟨rfl, q⟩; subst w9)
    | (go_at_call 10; (with_reducible refine (nil_read b p _).mono ?_); rintro e w9 ⟨rfl, q⟩; subst w9)
    | (go_at_call 11; (with_reducible refine (nil_marked b _).mono ?_); rintro e w9 ⟨rfl, q⟩; subst w9)
    | (go_at_call 8; (with_reducible refine (awake_true _).mono ?_); rintro e w1 ⟨rfl, q⟩; have B1 := Aside0.mk q; clear q)
    | (go_at_call 12; (with_reducible refine (nil_program b p _ _ _).mono ?_); rintro e w9 ⟨rfl, q⟩; subst w9)
    | (go_at_call 13; (with_reducible refine (nil_erase b _).mono ?_); rintro e w9 ⟨rfl, q⟩; subst w9)
    | (go_at_call 14; (with_reducible refine (nil_mark b _).mono ?_); rintro e w9 ⟨rfl, q⟩; subst w9)
    | (go_at_call 15; (with_reducible refine (nil_geometry _).mono ?_); rintro e w2 ⟨rfl, q⟩; have B2 := Aside0.mk (B1.out.trans (q.mono B1.out.size)); clear q)
    | (go_at_call 16; (with_reducible refine (nil_polls _).mono ?_); rintro e w9 ⟨rfl, q⟩; subst w9))
  go_ret
  exact ⟨rfl, B2.out⟩
end Go.Proofs.Ytpkmgiddfbfloaa.XHo
