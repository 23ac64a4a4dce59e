/- All that the bus tells, taken: its contract, by hand; no condition. -/
import Derived.Test.YtpkmgiddfbfloaaXHox0
import Derived.Test.YtpkmgiddfbfloaaHoB
import Derived.Deep.RegionWith
namespace Go.Proofs.Ytpkmgiddfbfloaa.XHo
open Go.RowKit Go.Proofs.YtpkmgiddfbfloaaX.PrintWords Go.Proofs.YtpkmgiddfbfloaaX.PrintLast Go.Proofs.YtpkmgiddfbfloaaX.PrintMore
set_option linter.unusedVariables false
set_option linter.unusedSimpArgs false
theorem R_fr {d : Kd Int} {e : Nat} {w w1 : World} {base b : Nat} {v : Value} {xs : List Int} (h : d.R e w base (fun _ => True) v xs) (hb : b < base) (f : Fr b w w1) : d.R e w1 base (fun _ => True) v xs :=
  Kd.R_mono (Kd.R_move (Kd.R_bound h) (fun k hk => f.same k (by have := hk.2.1; omega) hk.2.2.1)) (fun _ _ => trivial)
theorem strOf_all (out : ByteArray) (xs : List Int) (hl : xs.length = out.size) (h : ∀ j : Nat, j < out.size → rd xs (j : Int) = bt out (j : Int)) : strOfNums xs = out := by
  have e : xs = bytesOf out := by
    apply List.ext_getElem?
    intro j
    by_cases c : j < out.size
    · have h1 := h j c
      have h2 := rd_bytesOf out (j : Int)
      unfold rd at h1 h2
      rw [Int.toNat_natCast, List.getD_eq_getElem?_getD] at h1 h2
      have c1 : j < xs.length := by omega
      have c2 : j < (bytesOf out).length := by rw [bytesOf_length]; exact c
      rw [List.getElem?_eq_getElem c1] at h1 ⊢
      rw [List.getElem?_eq_getElem c2] at h2 ⊢
      simp only [Option.getD_some] at h1 h2
      rw [h1, ← h2]
    · rw [List.getElem?_eq_none (by omega), List.getElem?_eq_none (by rw [bytesOf_length]; omega)]
  rw [e]
  unfold strOfNums bytesOf
  rw [List.map_map]
  have : (out.data.toList.map ((fun n : Int => UInt8.ofNat n.toNat) ∘ fun b : UInt8 => (b.toNat : Int))) = out.data.toList := by
    conv => rhs; rw [← List.map_id out.data.toList]
    apply List.map_congr_left
    intro b _
    show UInt8.ofNat ((b.toNat : Int)).toNat = b
    rw [Int.toNat_natCast, UInt8.ofNat_toNat]
  rw [this]
set_option maxHeartbeats 8000000 in
set_option maxRecDepth 100000 in
theorem take_tell (b c : Nat) (cmd want : Int) (va vi : Value) (out : ByteArray) (ho0 : 0 < out.size) (ho : out.size < 1000) (fail : Bool) (wrong : Int) (w : World) (hbw : b < w.heap.size) (h : w.heap[b]? = some (.cells (busC c 4 cmd want va vi out 0 0 fail false wrong) 105 (0, 0))) :
    Calls Try.prog 38 #[.pointer (some ⟨b, 0, none⟩), .int .i64 (out.size : Int)] w fun e w' => e = .returned (.string out) ∧ w'.heap[b]? = some (.cells (busC c 4 cmd want va vi out (out.size : Int) 0 fail false wrong) 105 (0, 0)) ∧ Fr b w w' := by
  have HH := Aside0.mk h
  clear h
  go_enter Try.func38, Try.ntmps38
  go_wp2_with (first | ((with_reducible refine gate_dst (N := 8) rfl ?_); refine Kd.R_make (Kd.int .u8) w.heap.size 5 rfl (N := 8) rfl 22 _ _ rfl (out.size : Int) rfl rfl Try.underlying22 (.int .u8 0) 1 info5 rfl (by decide) (by omega) 0 (ok := fun _ => True) (okp := fun _ => True) rfl (fun _ hk => hk) trivial (by omega) (by rw [Int.toNat_natCast]; omega) (Below.refl w.heap.size _) (Nat.le_refl _) ?_; intro v6 w6 ho7 hb hg_ hnew_; clear hg_ hnew_; have HO := Aside0.mk ho7; have HB := Aside0.mk hb; clear ho7 hb; obtain ⟨Ao, co, eo⟩ := Kd.R_slice HO.out; subst eo))
  have HO' : Aside0 (Kd.R (Kd.int .u8) 5 w6 w.heap.size (fun _ => True) (.slice Ao out.size co) (List.replicate out.size 0)) := ⟨by have := HO.out; rw [Int.toNat_natCast, List.length_replicate] at this; exact this⟩
  clear HO
  have HF := Aside0.mk (Fr.of hbw HB.out)
  have HH6 := Aside0.mk ((HB.out.block b hbw).trans HH.out)
  go_loopg [11] out.size (fun kq v11 w' => ∃ (i : Int) (xs : List Int), v11 = .int .i64 i ∧ Aside0 (0 ≤ i ∧ i + kq = out.size) ∧ Aside0 (Kd.R (Kd.int .u8) 5 w' w.heap.size (fun _ => True) (.slice Ao out.size co) xs) ∧ Aside0 (∀ j : Nat, (j : Int) < i → rd xs (j : Int) = bt out (j : Int)) ∧ Aside0 (w'.heap[b]? = some (.cells (busC c 4 cmd want va vi out i 0 fail false wrong) 105 (0, 0))) ∧ Aside0 (Fr b w w'))
  case atStart => exact ⟨0, List.replicate out.size 0, rfl, ⟨⟨by decide, Int.zero_add _⟩⟩, HO', ⟨fun j hj => absurd hj (by omega)⟩, HH6, HF⟩
  case round =>
    clear HO' HB HF HH6 HH
    obtain ⟨i, xs, rfl, hi, HO1, HX, HH1, HF1⟩ := hrel
    obtain ⟨i0, i1⟩ := hi.out
    have hxl := Aside0.mk (Kd.R_reads' HO1.out).1
    by_cases d : i < (out.size : Int)
    · have c1 : decide (i < (out.size : Int)) = true := decide_eq_true d
      have io := d
      have i100 : i < 1000 := by omega
      obtain ⟨go, cap, eo, gb, gl, HG⟩ := Kd.R_form HO1.out (by have := hxl.out; omega)
      have eo1 : Ao = some ⟨go, 0, none⟩ := by injection eo
      clear eo
      subst eo1
      have p := i0
      have q := d
      replace i0 := eq_true i0
      replace d := eq_true d
      go_wp2_with (go_at_call 43; (with_reducible refine (out_tell b c cmd want va vi out i p io ho fail wrong _ HH1.out).mono ?_); rintro e w9 ⟨rfl, q1, q2⟩; have HO9 := Aside0.mk (R_fr HO1.out hbw q2); have Q1 := Aside0.mk q1; have Q2 := Aside0.mk q2; have hx := (Kd.R_celln 0 HO9.out i p q).1; have hf := (Kd.R_celln 0 HO9.out i p q).2; clear q1 q2)
      go_roundg (gk - 1)
      case measure => omega
      case rel =>
        refine ⟨i + 1, xs.set i.toNat (bt out i), rfl, ⟨by omega, by omega⟩, ⟨Kd.R_putn HO9.out i (bt out i)⟩, ⟨fun j hj => ?_⟩, ⟨?_⟩, ⟨?_⟩⟩
        · have hl := hxl.out
          unfold rd
          rw [Int.toNat_natCast, List.getD_eq_getElem?_getD, List.getElem?_set]
          by_cases e : i.toNat = j
          · rw [if_pos e, if_pos (by omega), show (j : Int) = i by omega]; rfl
          · rw [if_neg e, ← List.getD_eq_getElem?_getD]
            have := HX.out j (by omega)
            unfold rd at this
            rw [Int.toNat_natCast] at this
            exact this
        · rw [Below.heap_setCell _ _ _ b (by show b ≠ go; omega)]
          exact Q1.out
        · exact ⟨(HF1.out.trans Q2.out).below.setCell (by show b ≤ go; omega) _, fun k hk hl => (Below.heap_setCell _ _ _ k (by show k ≠ go; omega)).trans ((HF1.out.trans Q2.out).same k hk hl)⟩
    · have c1 : decide (i < (out.size : Int)) = false := decide_eq_false d
      have hcv := own_string (P := Try.prog) Try.underlying22 Try.underlying5 Try.underlying9 (Kd.own_of_R HO1.out)
      go_wp2
      go_ret
      have hi2 : i = (out.size : Int) := by have := hi.out; omega
      subst hi2
      exact ⟨by rw [strOf_all out xs hxl.out.symm fun j hj => HX.out j (by omega)]; rfl, HH1.out, HF1.out⟩
end Go.Proofs.Ytpkmgiddfbfloaa.XHo
