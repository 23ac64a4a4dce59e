import Derived.Test.YtpleeckbakllpaaXWords
import Derived.Test.YtpleeckbakllpaaXQPut
namespace Go.Proofs.YtpleeckbakllpaaX.PrintWords
open Go.RowKit
namespace Kd
theorem rr_len {α : Type} {R : α → List Value → Prop} {size n n' : Nat} {w : World} {A : Option Addr} {ps : List α} (e : n = n') (h : ReadsRow R size w A n ps) : ReadsRow R size w A n' ps := e ▸ h
theorem info_size {m : Option TypeInfo} {z : Option Value} {s b : Nat} (h : m.map (fun i => (i.zero, i.size, i.bytes)) = some (z, s, b)) : m.map (·.size) = some s := by
  cases m with
  | none => simp at h
  | some i => simp at h ⊢; exact h.2.1
theorem q_bytes (W : World) (base e : Nat) (s : ByteArray) (hs : s.size ≤ 9223372036854775807) (hb : base ≤ W.heap.size) :
    QRow (Lib.bytesWorld W e s) base e 1 (.slice (some ⟨W.heap.size, 0, none⟩) s.size (grownCap W s.size 0 e)) s.size (encs (Value.int .u8) (bytesOf s)) := by
  have hge := grownCap_ge W s.size 0 e
  have hle := grownCap_le_maxLen W s.size 0 e (by simp only [maxLen]; omega)
  have hsz : (Lib.bytesCells W e s).size = grownCap W s.size 0 e := by
    simp [Lib.bytesCells]
    have : s.data.size = s.size := rfl
    omega
  refine ⟨by rw [encs_length, bytesOf_length, Nat.mul_one], .inr ⟨W.heap.size, 0, grownCap W s.size 0 e, Lib.bytesCells W e s, _, by rw [Nat.zero_mul], hb, Lib.bytesWorld_at_new W e s, .inr (Nat.le_refl _), hge, by omega, by rw [hsz]; omega, ?_⟩⟩
  rw [Nat.zero_mul, List.drop_zero, Nat.mul_one]
  unfold Lib.bytesCells encs bytesOf
  rw [Array.toList_append]
  have hl : (s.data.map fun b => Value.int .u8 (b.toNat : Int)).toList.length = s.size := by simp
  rw [List.take_left' hl]
  simp [Function.comp_def]
theorem Q_of_row {enc : Int → Value} {h1 : ∀ x, (enc x).oneCell' = true} {w : World} {base e : Nat} {ok : Nat → Prop} {v : Value} {xs : List Int} (h : QRow w base e 1 v xs.length (encs enc xs)) (hok : ∀ k, v.ownBlock = some k → ok k) : (scalar enc h1).Q e w base ok v xs :=
  ⟨hok, encs enc xs, h, reps_scalar xs⟩
section
variable {P : Program} {ops : Array Oper} {rest : List Oper} {o : Oper} {a : Act} {Q : Exit → Act → World → Prop}
theorem Q_bytes {w0 W : World} {base : Nat} (e : Nat) (hgd : o.guard = none) {N : Tmp} (_hd : o.dst = some N) (src dst : TypeId) (x : Operand) (ho : o.op = .convert src dst x) (s : ByteArray) (hx : a.eval x = .string s)
    (hs : P.underlying src = some .string) (ht : P.underlying dst = some (.slice e)) (he : P.underlying e = some (.int .u8)) {ok : Nat → Prop} (hok : ok W.heap.size) (hl : s.size ≤ 9223372036854775807) (HB : Below base w0 W) (hbase : base ≤ W.heap.size)
    (h : ∀ v1 w1, (Kd.int .u8).Q e w1 base ok v1 (bytesOf s) → Below base w0 w1 → W.grownBy w1 none → (∃ b, v1.ownBlock = some b ∧ W.heap.size ≤ b) → wpList P ops Q rest (a.put o.dst v1) w1) : wpList P ops Q (o :: rest) a W := by
  refine event_run hgd (w1 := Lib.bytesWorld W e s) (v := .slice (some ⟨W.heap.size, 0, none⟩) s.size (grownCap W s.size 0 e)) ?_ (h _ _ ?_ ?_ ?_ ⟨W.heap.size, by simp [Value.ownBlock], Nat.le_refl _⟩)
  · have hr := print_bytes (P := P) src dst e hs ht he s W
    simp [execOp, ho, hx, hr]
  · refine Q_of_row (by rw [bytesOf_length]; exact q_bytes W base e s hl hbase) (fun k hk => ?_)
    have : W.heap.size = k := by simpa [Value.ownBlock] using hk
    subst this
    exact hok
  · exact bytes_below HB hbase e s
  · exact ⟨rfl, rfl, rfl, by rw [Lib.bytesWorld_size]; omega, fun k hk _ => Lib.bytesWorld_at_old W e s k hk⟩
theorem R_makecap {α : Type} (d : Kd α) {w0 W : World} {base : Nat} (e : Nat) (hgd : o.guard = none) {N : Tmp} (_hd : o.dst = some N) (t : TypeId) (x y : Operand) (ho : o.op = .makeSlice t x y) (c : Int) (hx : a.eval x = .int .i64 0) (hy : a.eval y = .int .i64 c)
    (ht : P.underlying t = some (.slice e)) (z : Value) (bytes : Nat) (hinfo : (P.info? e).map (fun i => (i.zero, i.size, i.bytes)) = some (some z, d.sz, bytes)) (_hz : z.cells.size = d.sz) (_hs0 : 0 < d.sz) (hb0 : 0 < bytes)
    {ok : Nat → Prop} (hfresh : ok W.heap.size) (h0 : 0 ≤ c) (hl : c.toNat * bytes ≤ 281474976710656) (HB : Below base w0 W) (hbase : base ≤ W.heap.size)
    (h : ∀ v1 w1, d.R e w1 base ok v1 [] → Below base w0 w1 → W.grownBy w1 none → (∃ b, v1.ownBlock = some b ∧ W.heap.size ≤ b) → wpList P ops Q rest (a.put o.dst v1) w1) : wpList P ops Q (o :: rest) a W := by
  obtain ⟨m, rfl⟩ := Int.eq_ofNat_of_zero_le h0
  simp only [Int.toNat_natCast] at hl
  obtain ⟨i0, hi, hzz⟩ := Option.map_eq_some_iff.1 hinfo
  simp only [Prod.mk.injEq] at hzz
  obtain ⟨hz0, hz1, hz2⟩ := hzz
  have hm : m ≤ 281474976710656 := Nat.le_trans (Nat.le_mul_of_pos_right _ hb0) hl
  have hr := run_make (P := P) (w := W) t e i0 z ht hi hz0 .i64 .i64 0 (m : Int) (by omega) (by omega)
    (by
      have h3 : ((i0.bytes * m : Nat) : Int) ≤ 281474976710656 := by rw [hz2, Nat.mul_comm]; omega
      rwa [Int.natCast_mul] at h3) (by omega)
  simp only [Int.toNat_natCast, Int.toNat_zero] at hr
  rw [hz1] at hr
  refine event_run hgd (w1 := W.alloc (.cells (madeCells z.cells (m * d.sz)) e)) (v := .slice (some ⟨W.heap.size, 0, none⟩) 0 m) ?_ (h _ _ ⟨fun k hk => ?_, [], ⟨by simp, .inr ⟨W.heap.size, m, madeCells z.cells (m * d.sz), rfl, hbase, heap_alloc_new W _, Nat.zero_le _, by simp only [maxLen]; omega, by simp [size_madeCells], by simp⟩⟩, Reps.none _ _⟩ (HB.alloc hbase _) (World.grownBy_alloc W _ none) ⟨W.heap.size, by simp [Value.ownBlock], Nat.le_refl _⟩)
  · simp [execOp, ho, hx, hy, hr]
  · have : W.heap.size = k := by simpa [Value.ownBlock] using hk
    subst this
    exact hfresh
end
theorem Q_string {P : Program} {w : World} {src dst e e' base : Nat} {ok : Nat → Prop} {v : Value} {xs : List Int} (hs : P.underlying src = some (.slice e)) (he : P.underlying e = some (.int .u8)) (hd : P.underlying dst = some .string)
    (h : (Kd.int .u8).Q e' w base ok v xs) : (convert src dst v).run P w = .ok (.string (strOfNums xs)) w := by
  obtain ⟨A, c, rfl, _, hC⟩ := Q_reads h
  exact Kd.C_string hs he hd hC
end Kd
end Go.Proofs.YtpleeckbakllpaaX.PrintWords
