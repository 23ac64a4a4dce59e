/- A slice of structs that came in, opened: its elements as a list; no condition. -/
import Derived.Test.YtconplohaaohlaaXWords
import Derived.Deep.Slices
import Derived.ChangeArms
namespace Go.Proofs.YtconplohaaohlaaX.PrintWords
open Go.ChangeShapes Go.WideShapes Go.Deep
theorem Kd.C_open {H : Type} {enc : TypeId × Value → H} {P : Program} {w : World} {base : Nat} {spare : Nat → Bool} {held : Bool} {α : Type} (d : Kd α) (G : α → Prop) {t e : TypeId} (ht : P.underlying t = some (.slice e)) (hc : P.cellsOf e = d.sz)
    (hel : ∀ fuel cs x, DataW.trod enc P w base spare held fuel e cs = some x → ∃ a : α, d.K w a cs ∧ G a) {A : Option Addr} {len cap : Nat} {D : DataW H} {ps : List MemPlace} (h : DataW.Trod enc P w base spare held t (.slice A len cap) D ps) :
    ∃ l : List α, len = l.length ∧ d.C w A l.length l ∧ l.length ≤ cap ∧ (∀ x ∈ l, G x) ∧ l.length ≤ maxLen := by
  obtain ⟨fuel, hf⟩ := h
  rcases open_slice ht hf with ⟨hcs, _⟩ | ⟨a, len', cap', m, n, D', Pl, hcs, _, hl, hm, hmm, _, hx⟩
  · simp [Value.cells] at hcs
    obtain ⟨rfl, rfl, rfl⟩ := hcs
    exact ⟨[], rfl, ⟨rfl, by simp, fun h => absurd h (by simp)⟩, by simp, by simp, by simp⟩
  · simp [Value.cells] at hcs
    obtain ⟨rfl, rfl, rfl⟩ := hcs
    have hlm : len ≤ m := by rw [hmm]; split <;> omega
    have each : ∀ i, i < len → ∃ q : α, G q ∧ ∃ cs, d.K w q cs ∧ w.cells? base (a.add (i * P.cellsOf e)) (P.cellsOf e) = some cs := fun i hi => by
      obtain ⟨cs, h1, h2⟩ := hx i (by omega)
      obtain ⟨q, hq, hg⟩ := hel _ _ _ h2
      exact ⟨q, hg, cs, hq, h1⟩
    rcases Nat.eq_zero_or_pos len with h0 | h0
    · subst h0
      exact ⟨[], rfl, ⟨rfl, by simp, fun h => absurd h (by simp)⟩, by simp, by simp, by simp⟩
    obtain ⟨q0, _⟩ := each 0 h0
    have : Inhabited α := ⟨q0⟩
    obtain ⟨f, hfq⟩ := choose_lt each
    have hlen : len ≤ 9223372036854775807 := Nat.le_trans (Nat.le_trans hl hm) (by decide)
    refine ⟨(List.range len).map f, by simp, ⟨rfl, by simpa using hlen, fun _ => ⟨a, rfl, fun j p hj => ?_⟩⟩, by simpa using hl, ?_, by simpa using Nat.le_trans hl hm⟩
    · obtain ⟨hj1, hj2⟩ := List.getElem?_eq_some_iff.1 hj
      simp at hj1 hj2
      obtain ⟨_, cs, hk, hcells⟩ := hfq j hj1
      obtain ⟨_, e1, e2⟩ := World.cells?_some hcells
      refine ⟨cs, by rw [e1, hc], hj2 ▸ hk, fun i u hu => ?_⟩
      have hi : i < P.cellsOf e := by rw [← e1]; exact (List.getElem?_eq_some_iff.1 hu).1
      have := e2 i hi
      rw [add_add, hc] at this
      rw [this, hu]
    · intro x hx'
      obtain ⟨i, hi, rfl⟩ := List.mem_map.mp hx'
      exact (hfq i (List.mem_range.mp hi)).1
end Go.Proofs.YtconplohaaohlaaX.PrintWords
