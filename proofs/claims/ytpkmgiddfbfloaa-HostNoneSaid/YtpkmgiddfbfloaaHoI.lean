/- A new chip of the least shape to which nothing happens: by hand; no condition. -/
import Derived.Test.YtpkmgiddfbfloaaXHox
import Derived.Test.YtpkmgiddfbfloaaHoD
import Derived.Test.YtpkmgiddfbfloaaShelf
import Derived.Deep.RegionHeld3
import Derived.StillTailTactics
namespace Go.Proofs.Ytpkmgiddfbfloaa.XHo
open Go.RowKit Go.Proofs.YtpkmgiddfbfloaaX.PrintWords Go.Proofs.YtpkmgiddfbfloaaX.PrintLast Go.Proofs.YtpkmgiddfbfloaaX.PrintMore
set_option linter.unusedVariables false
set_option linter.unusedSimpArgs false
/-- An erased block's cells. -/
def blk0 : Array Value := #[.slice none 0 0, .int .i64 0, .bool false, .bool false]
theorem info90 : (Try.prog.info? 90).map (fun i => (i.zero, i.size, i.bytes)) = some (some (.agg blk0), 4, 40) := by kernel_rfl
theorem info9' : (Try.prog.info? 9).map (fun i => (i.zero, i.size, i.bytes)) = some (some (.string ⟨#[]⟩), 1, 16) := by kernel_rfl
theorem make81 (n : Nat) (hn : n ≤ 1000) (w : World) : Sem.run Try.prog (Instr.makeSlice 81 (.int .i64 (n : Int)) (.int .i64 (n : Int))) w = .ok (.slice (some ⟨w.heap.size, 0, none⟩) n n) (w.alloc (.cells (madeCells blk0 (n * 4)) 90)) := by
  obtain ⟨i, hi, hzz⟩ := Option.map_eq_some_iff.1 info90
  simp only [Prod.mk.injEq] at hzz
  obtain ⟨hz, hs, hb⟩ := hzz
  have hr := run_make (P := Try.prog) w 81 90 i _ Try.underlying81 hi hz .i64 .i64 (n : Int) (n : Int) (by omega) (Int.le_refl _) (by rw [hb]; omega) (by omega)
  simp only [Int.toNat_natCast, hs] at hr
  exact hr
theorem make88 (n : Nat) (hn : n ≤ 1000) (w : World) : Sem.run Try.prog (Instr.makeSlice 88 (.int .i64 (n : Int)) (.int .i64 (n : Int))) w = .ok (.slice (some ⟨w.heap.size, 0, none⟩) n n) (w.alloc (.cells (madeCells #[.string ⟨#[]⟩] n) 9)) := by
  exact run_make_row' 88 9 (.string ⟨#[]⟩) 16 Try.underlying88 info9' rfl .i64 .i64 n (by omega) (by omega) w
set_option maxRecDepth 100000 in
theorem two_new (w3 : World) (o1 o2 : Obj) (W : World) (h : W = ((w3.alloc o1).alloc o2).drew) : W.heap[w3.heap.size]? = some o1 ∧ W.heap[w3.heap.size + 1]? = some o2 ∧ Below w3.heap.size w3 W := by
  subst h
  have e : (w3.alloc o1).heap.size = w3.heap.size + 1 := Array.size_push _
  refine ⟨blk_alloc (blk_new w3 o1) o2, ?_, below_drew1 (below_alloc (below_alloc (Below.refl _ _) _) _)⟩
  rw [← e]
  exact blk_new (w3.alloc o1) o2
theorem made_size : (madeCells blk0 32).size = 32 := by simp [madeCells]
theorem clone_cuts (n c : Nat) (w : World) : Calls Try.prog 48 #[.slice none n c] w fun e w' => e = .returned (.slice none 0 0) ∧ w' = w := AnyE.slices_Clone_nil Try.laysSlE041_f48 n c w
theorem least_ok (w : World) : Calls Try.prog 47 #[.agg #[.int .i64 8, .int .i64 4, .int .i64 64]] w fun e w' => e = .returned (.bool true) ∧ Below w.heap.size w w' := nand_Check.calls 8 4 64 true w (by decide)
/-- What stands while the chip is being made. -/
structure NInv (w W : World) (ga gf gb : Nat) : Prop where
  a : W.heap[ga]? = some (.cells #[.int .i64 8, .int .i64 4, .int .i64 64] 24 (0, 0))
  f : W.heap[gf]? = some (.cells #[.slice none 0 0, .slice none 0 0, .slice none 0 0] 45 (0, 0))
  c : W.heap[gb + 1]? = some (.cells (chipC 8 4 64 (.slice (some ⟨gb, 0, none⟩) 8 8) (.slice none 0 0) (.slice none 0 0) 0 false) 87 (0, 0))
  g : ∃ cs : Array Value, cs.size = 32 ∧ W.heap[gb]? = some (.cells cs 90 (0, 0))
  below : Below w.heap.size w W
  ge : w.heap.size ≤ gb
  na : gb ≠ ga
  nf : gb ≠ gf
theorem NInv.alloc {w W : World} {ga gf gb : Nat} (h : NInv w W ga gf gb) (o : Obj) : NInv w (W.alloc o) ga gf gb :=
  ⟨blk_alloc h.a o, blk_alloc h.f o, blk_alloc h.c o, h.g.elim fun cs k => ⟨cs, k.1, blk_alloc k.2 o⟩, below_alloc h.below o, h.ge, h.na, h.nf⟩
theorem NInv.drew {w W : World} {ga gf gb : Nat} (h : NInv w W ga gf gb) : NInv w W.drew ga gf gb :=
  ⟨h.a, h.f, h.c, h.g, below_drew1 h.below, h.ge, h.na, h.nf⟩
theorem NInv.set {w W : World} {ga gf gb : Nat} (h : NInv w W ga gf gb) (i : Nat) (v : Value) : NInv w (W.setCell ⟨gb, i, none⟩ v) ga gf gb :=
  ⟨set_other h.na h.a, set_other h.nf h.f, set_other (by omega) h.c, h.g.elim fun cs k => ⟨cs.setIfInBounds i v, by rw [Array.size_setIfInBounds]; exact k.1, blk_set k.2 i v⟩, h.below.setCell h.ge v, h.ge, h.na, h.nf⟩
theorem NInv.set_get {w W : World} {ga gf gb : Nat} (h : NInv w W ga gf gb) (i : Nat) (hi : i < 32) (v : Value) : (W.setCell ⟨gb, i, none⟩ v).cell? ⟨gb, i, none⟩ = some v := by
  obtain ⟨cs, k1, k2⟩ := h.g
  exact (blk_cell (blk_set k2 i v) i).trans (by rw [Array.getElem?_setIfInBounds_self_of_lt (by omega)])
theorem NInv.cell {w W : World} {ga gf gb : Nat} (h : NInv w W ga gf gb) (i : Nat) (hi : i < 32) : ∃ v, W.cell? ⟨gb, i, none⟩ = some v ∧ W.frozen? ⟨gb, i, none⟩ = false := by
  obtain ⟨cs, k1, k2⟩ := h.g
  exact ⟨cs[i]'(by omega), (blk_cell k2 i).trans (Array.getElem?_eq_getElem (by omega)), blk_frozen k2 i⟩
set_option maxHeartbeats 16000000 in
set_option maxRecDepth 100000 in
theorem nand_least (w : World) :
    Calls Try.prog 18 #[.agg #[.int .i64 8, .int .i64 4, .int .i64 64], .agg #[.slice none 0 0, .slice none 0 0, .slice none 0 0]] w fun e w' => ∃ c vb, w.heap.size ≤ c ∧ e = .returned (.tuple #[.pointer (some ⟨c, 0, none⟩), .int .i64 0]) ∧ w'.heap[c]? = some (.cells (chipC 8 4 64 vb (.slice none 0 0) (.slice none 0 0) 0 false) 87 (0, 0)) ∧ Below w.heap.size w w' := by
  go_enter Try.func18, Try.ntmps18
  go_wp2_with (first
    | (((with_reducible refine gate_dst (N := 2) rfl ?_); refine box_event ?hg (N := 2) ?hd (cs := (#[.int .i64 8, .int .i64 4, .int .i64 64])) (t := 24) ?hr ?_; (case hd => rfl); (case hg => rfl); (case hr => first | (go_simp; done) | (go_simp; rfl))); intro ga hg w1 hbox hb; have A1 := Aside0.mk hbox; have B1 := Aside0.mk hb; have GA := Aside0.mk (show w.heap.size ≤ ga from Nat.le_of_eq hg.symm); clear hg hbox hb)
    | (((with_reducible refine gate_dst (N := 3) rfl ?_); refine box_event ?hg (N := 3) ?hd (cs := (#[.slice none 0 0, .slice none 0 0, .slice none 0 0])) (t := 45) ?hr ?_; (case hd => rfl); (case hg => rfl); (case hr => first | (go_simp; done) | (go_simp; rfl))); intro gf hg w2 hbox hb; have A2 := Aside0.mk (blk_below A1.out hb); have Y2 := Aside0.mk hbox; have B2 := Aside0.mk (B1.out.trans (hb.mono B1.out.size)); have GF := Aside0.mk (show w.heap.size ≤ gf from by rw [hg]; exact B1.out.size); have hne : ga ≠ gf := (by rw [hg]; exact Nat.ne_of_lt (blk_lt A1.out)); clear hg hbox hb; have ca0 : w2.cell? ⟨ga, 0, none⟩ = some (.int .i64 8) := (blk_cell A2.out 0).trans rfl; have ca1 : w2.cell? ⟨ga, 1, none⟩ = some (.int .i64 4) := (blk_cell A2.out 1).trans rfl; have ca2 : w2.cell? ⟨ga, 2, none⟩ = some (.int .i64 64) := (blk_cell A2.out 2).trans rfl)
    | (go_at_call 47; (with_reducible refine (least_ok _).mono ?_); rintro e w3 ⟨rfl, q⟩; have A3 := Aside0.mk (blk_below A2.out q); have Y3 := Aside0.mk (blk_below Y2.out q); have B3 := Aside0.mk (B2.out.trans (q.mono B2.out.size)); clear q ca0 ca1 ca2; have ca0 : w3.cell? ⟨ga, 0, none⟩ = some (.int .i64 8) := (blk_cell A3.out 0).trans rfl; have ca1 : w3.cell? ⟨ga, 1, none⟩ = some (.int .i64 4) := (blk_cell A3.out 1).trans rfl; have ca2 : w3.cell? ⟨ga, 2, none⟩ = some (.int .i64 64) := (blk_cell A3.out 2).trans rfl; have cf0 : w3.cell? ⟨gf, 0, none⟩ = some (.slice none 0 0) := (blk_cell Y3.out 0).trans rfl; have cf1 : w3.cell? ⟨gf, 1, none⟩ = some (.slice none 0 0) := (blk_cell Y3.out 1).trans rfl; have cf2 : w3.cell? ⟨gf, 2, none⟩ = some (.slice none 0 0) := (blk_cell Y3.out 2).trans rfl))
  have hu87 := Try.underlying87
  have mk8 := fun w => make81 8 (by decide) w
  simp only [Int.cast_ofNat_Int] at mk8
  go_region_held3 (fun W => W.cell? ⟨ga, 0, none⟩ = some (.int .i64 8) ∧ W.cell? ⟨ga, 1, none⟩ = some (.int .i64 4) ∧ W.cell? ⟨ga, 2, none⟩ = some (.int .i64 64) ∧ W.cell? ⟨gf, 0, none⟩ = some (.slice none 0 0) ∧ W.cell? ⟨gf, 1, none⟩ = some (.slice none 0 0) ∧ W.cell? ⟨gf, 2, none⟩ = some (.slice none 0 0)) (go_keep) (first
    | (go_at_call 48; (with_reducible refine (clone_cuts _ _ _).mono ?_); rintro e w' ⟨rfl, rfl⟩)
    | (go_at_call 49; (with_reducible refine (Try.slices_Clone_int_nil _ _ _).mono ?_); rintro e w' ⟨rfl, rfl⟩))
  all_goals
    generalize hW : World.drew (World.alloc _ _) = W
    obtain ⟨g1, g2, g3⟩ := two_new w3 _ _ W hW.symm
    have A4 := Aside0.mk (blk_below A3.out g3)
    have Y4 := Aside0.mk (blk_below Y3.out g3)
    have B4 := Aside0.mk (B3.out.trans (g3.mono B3.out.size))
    have hge : w.heap.size ≤ w3.heap.size := B3.out.size
    have nga : ga ≠ w3.heap.size := Nat.ne_of_lt (blk_lt A3.out)
    have ngf : gf ≠ w3.heap.size := Nat.ne_of_lt (blk_lt Y3.out)
    have G4 := Aside0.mk g1
    have C4 := Aside0.mk g2
    clear hW g1 g2 g3 mk8 ca0 ca1 ca2 cf0 cf1 cf2 A1 A2 A3 Y2 Y3 B1 B2 B3
    generalize w3.heap.size = gb at *
    have hcb : gb + 1 ≠ gb := by omega
    have c3 : W.cell? ⟨gb + 1, 3, none⟩ = some (.slice (some ⟨gb, 0, none⟩) 8 8) := (blk_cell C4.out 3).trans rfl
    go_wp2
    go_loopg [28] 8 (fun kq v28 w' => ∃ i : Int, v28 = .int .i64 i ∧ Aside0 (0 ≤ i ∧ i + kq = 8) ∧ Aside0 (NInv w w' ga gf gb))
    case atStart => exact ⟨0, rfl, ⟨⟨by decide, by decide⟩⟩, ⟨A4.out, Y4.out, C4.out, ⟨_, made_size, G4.out⟩, B4.out, hge, fun e => nga e.symm, fun e => ngf e.symm⟩⟩
    case round =>
      clear A4 Y4 C4 G4 B4 c3
      obtain ⟨i, rfl, hi, HN⟩ := hrel
      obtain ⟨i0, i1⟩ := hi.out
      by_cases d : i < 8
      · have c1 : decide (i < 8) = true := decide_eq_true d
        go_wp2
        have HN1 := Aside0.mk (HN.out.alloc (.cells (madeCells #[.string ⟨#[]⟩] 4) 9))
        have c3 : wr.cell? ⟨gb + 1, 3, none⟩ = some (.slice (some ⟨gb, 0, none⟩) 8 8) := (blk_cell HN.out.c 3).trans rfl
        have a1 : wr.cell? ⟨ga, 1, none⟩ = some (.int .i64 4) := (blk_cell HN.out.a 1).trans rfl
        have f2 : wr.cell? ⟨gf, 2, none⟩ = some (.slice none 0 0) := (blk_cell HN.out.f 2).trans rfl
        have c3' : (wr.alloc (.cells (madeCells #[.string ⟨#[]⟩] 4) 9)).cell? ⟨gb + 1, 3, none⟩ = some (.slice (some ⟨gb, 0, none⟩) 8 8) := (blk_cell HN1.out.c 3).trans rfl
        have mk4 := fun w => make88 4 (by decide) w
        simp only [Int.cast_ofNat_Int] at mk4
        obtain ⟨z, z0, zf0⟩ := HN1.out.cell (i.toNat * 4) (by omega)
        go_region_with (fail)
        all_goals
          have HN2 := Aside0.mk (HN1.out.set (i.toNat * 4) (.slice (some ⟨wr.heap.size, 0, none⟩) 4 4)).drew
          clear z0 zf0 mk4 c3 c3' a1 f2 HN HN1
          generalize World.drew _ = w2 at HN2 ⊢
          have c3 : w2.cell? ⟨gb + 1, 3, none⟩ = some (.slice (some ⟨gb, 0, none⟩) 8 8) := (blk_cell HN2.out.c 3).trans rfl
          have a1 : w2.cell? ⟨ga, 1, none⟩ = some (.int .i64 4) := (blk_cell HN2.out.a 1).trans rfl
          have f2 : w2.cell? ⟨gf, 2, none⟩ = some (.slice none 0 0) := (blk_cell HN2.out.f 2).trans rfl
          go_wp2
          go_still_tail 11, (by kernel_rfl)
          still_call (Try.slices_Contains_int_empty none 0 i _)
          repeat still_step
          refine wpStill_nil ?_
          change wpList _ _ _ _ _ w2.drew
          have HN3 := Aside0.mk HN2.out.drew
          clear HN2 c3 a1 f2
          generalize w2.drew = w4 at HN3 ⊢
          obtain ⟨z, z0, zf0⟩ := HN3.out.cell (i.toNat * 4 + 3) (by omega)
          go_wp2
          have HN4 := Aside0.mk (HN3.out.set (i.toNat * 4 + 3) (.bool false))
          have m4 := HN3.out.set_get (i.toNat * 4 + 3) (by omega) (.bool false)
          clear z0 zf0 HN3
          generalize World.setCell w4 _ _ = w5 at HN4 m4 ⊢
          have c3 : w5.cell? ⟨gb + 1, 3, none⟩ = some (.slice (some ⟨gb, 0, none⟩) 8 8) := (blk_cell HN4.out.c 3).trans rfl
          go_still_tail 15, (by kernel_rfl)
          change wpList _ _ _ _ _ w5.drew
          have HN5 := Aside0.mk HN4.out.drew
          clear HN4 c3 m4
          generalize w5.drew = w6 at HN5 ⊢
          obtain ⟨z, z0, zf0⟩ := HN5.out.cell (i.toNat * 4 + 2) (by omega)
          go_wp2
          go_roundg (gk - 1)
          case measure => omega
          case rel => exact ⟨i + 1, rfl, ⟨by omega, by omega⟩, ⟨HN5.out.set (i.toNat * 4 + 2) (.bool false)⟩⟩
      · have c1 : decide (i < 8) = false := decide_eq_false d
        go_wp2
        go_ret2
        first | exact ⟨gb + 1, Nat.le_succ_of_le HN.out.ge, rfl, ⟨_, HN.out.c⟩, HN.out.below⟩ | exact ⟨gb + 1, _, Nat.le_succ_of_le HN.out.ge, rfl, HN.out.c, HN.out.below⟩
end Go.Proofs.Ytpkmgiddfbfloaa.XHo
