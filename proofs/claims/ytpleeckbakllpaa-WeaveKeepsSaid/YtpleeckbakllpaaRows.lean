/-
  No cell of these rows narrows 'for every input' (looked for: loops, veiled, ifaces, maps, wideKeys, modest, calm, conditions, laid).
  DERIVED. THE GIVEN ROWS OF THIS SEAT. 6 by the template 'for every input the law returns true; each argument reads behind the call as it read before'; 0 by the template 'total and deterministic' (their statements: YtpleeckbakllpaaTotals.lean).
  GIVEN WITH THE SEED: the statements are not yours to turn. If you find one false, say at which input.
  Laid BY PROGRAM, IN A SANDBOX (cutbox-rows.mjs): the forced cells as the released guide's own fill.sh prints them over the translation a17d6935968aa24e… (all of the seat's roots in one cut). By AI agents, Wed Nov 11 2026. No macro, syntax, notation, axiom, sorry.
-/
import Derived.Test.YtpleeckbakllpaaChecked
import GoSem.Claim
import GoSem.ClaimJoined
import GoSem.ClaimMapViews
import Derived.JoinedTies
import Derived.KernelRfl
namespace Go.Proofs.Ytpleeckbakllpaa
/- THE CELL 'sum', in the pinned program and in every row, IS THE sha256 OF THE DUMP (.gsa) THAT YtpleeckbakllpaaProg.lean LOADS. Nothing in Lean hashes anything: it is a label: what it is worth is what the hold of that sum in a sandbox is worth. -/
noncomputable def Try.pinned : Pinned := { name := "ytpleeckbakllpaa", sum := "a17d6935968aa24e329de7be6cd1da3f2cbe2079968c4acb0e31f7cae9d81e37", checked := Try.checked }
namespace Rows
def none {H : Type} : Left H := { results := [], args := [] }

/-- 'tinderboxlaw29.WeaveShapes': WHATEVER THE INPUT: true; the input reads as it did. -/
def weaveShapesSpec : ChangeSpec := { name := "weaveShapes", fn := fun _ => fun
  | [d1, d2] => { results := [.lit (.bool true)], args := [d1, d2] }
  | _ => none }
def weaveShapesRow : OpenClaim := { program := "ytpleeckbakllpaa", sum := "a17d6935968aa24e329de7be6cd1da3f2cbe2079968c4acb0e31f7cae9d81e37", func := "tinderbox/tinderboxlaw29.WeaveShapes", spec := "weaveShapes", inPlace := ["internal/abi.NoEscape"], unfollowed := true, recurses := true, apart := false }
def WeaveShapesSaid : Prop := weaveShapesRow.holds Try.pinned (OpenSpec.ofChange weaveShapesSpec)

/-- ITS FALSE NEIGHBOUR: 'it returns false'. Refute it at one input. -/
def weaveShapesWrong : ChangeSpec := { name := "weaveShapes", fn := fun _ => fun
  | [d1, d2] => { results := [.lit (.bool false)], args := [d1, d2] }
  | _ => none }
def WeaveShapesWrongFalsely : Prop := weaveShapesRow.holds Try.pinned (OpenSpec.ofChange weaveShapesWrong)

/-- 'tinderboxlaw29.WeaveMasks': WHATEVER THE INPUT: true; the input reads as it did. -/
def weaveMasksSpec : ChangeSpec := { name := "weaveMasks", fn := fun _ => fun
  | [d1, d2, d3] => { results := [.lit (.bool true)], args := [d1, d2, d3] }
  | _ => none }
def weaveMasksRow : OpenClaim := { program := "ytpleeckbakllpaa", sum := "a17d6935968aa24e329de7be6cd1da3f2cbe2079968c4acb0e31f7cae9d81e37", func := "tinderbox/tinderboxlaw29.WeaveMasks", spec := "weaveMasks", inPlace := ["internal/abi.NoEscape"], unfollowed := true, recurses := true, apart := false }
def WeaveMasksSaid : Prop := weaveMasksRow.holds Try.pinned (OpenSpec.ofChange weaveMasksSpec)

/-- ITS FALSE NEIGHBOUR: 'it returns false'. Refute it at one input. -/
def weaveMasksWrong : ChangeSpec := { name := "weaveMasks", fn := fun _ => fun
  | [d1, d2, d3] => { results := [.lit (.bool false)], args := [d1, d2, d3] }
  | _ => none }
def WeaveMasksWrongFalsely : Prop := weaveMasksRow.holds Try.pinned (OpenSpec.ofChange weaveMasksWrong)

/-- 'tinderboxlaw29.WeaveKeeps': WHATEVER THE INPUT: true; the input reads as it did. -/
def weaveKeepsSpec : ChangeSpec := { name := "weaveKeeps", fn := fun _ => fun
  | [d1, d2, d3] => { results := [.lit (.bool true)], args := [d1, d2, d3] }
  | _ => none }
def weaveKeepsRow : OpenClaim := { program := "ytpleeckbakllpaa", sum := "a17d6935968aa24e329de7be6cd1da3f2cbe2079968c4acb0e31f7cae9d81e37", func := "tinderbox/tinderboxlaw29.WeaveKeeps", spec := "weaveKeeps", inPlace := ["internal/abi.NoEscape"], unfollowed := true, recurses := true, apart := false }
def WeaveKeepsSaid : Prop := weaveKeepsRow.holds Try.pinned (OpenSpec.ofChange weaveKeepsSpec)

/-- ITS FALSE NEIGHBOUR: 'it returns false'. Refute it at one input. -/
def weaveKeepsWrong : ChangeSpec := { name := "weaveKeeps", fn := fun _ => fun
  | [d1, d2, d3] => { results := [.lit (.bool false)], args := [d1, d2, d3] }
  | _ => none }
def WeaveKeepsWrongFalsely : Prop := weaveKeepsRow.holds Try.pinned (OpenSpec.ofChange weaveKeepsWrong)

/-- 'tinderboxlaw29.WeaveBursts': WHATEVER THE INPUT: true; the input reads as it did. -/
def weaveBurstsSpec : ChangeSpec := { name := "weaveBursts", fn := fun _ => fun
  | [d1, d2, d3] => { results := [.lit (.bool true)], args := [d1, d2, d3] }
  | _ => none }
def weaveBurstsRow : OpenClaim := { program := "ytpleeckbakllpaa", sum := "a17d6935968aa24e329de7be6cd1da3f2cbe2079968c4acb0e31f7cae9d81e37", func := "tinderbox/tinderboxlaw29.WeaveBursts", spec := "weaveBursts", inPlace := ["internal/abi.NoEscape"], unfollowed := true, recurses := true, apart := false }
def WeaveBurstsSaid : Prop := weaveBurstsRow.holds Try.pinned (OpenSpec.ofChange weaveBurstsSpec)

/-- ITS FALSE NEIGHBOUR: 'it returns false'. Refute it at one input. -/
def weaveBurstsWrong : ChangeSpec := { name := "weaveBursts", fn := fun _ => fun
  | [d1, d2, d3] => { results := [.lit (.bool false)], args := [d1, d2, d3] }
  | _ => none }
def WeaveBurstsWrongFalsely : Prop := weaveBurstsRow.holds Try.pinned (OpenSpec.ofChange weaveBurstsWrong)

/-- 'tinderboxlaw29.WeaveLost': WHATEVER THE INPUT: true; the input reads as it did. -/
def weaveLostSpec : ChangeSpec := { name := "weaveLost", fn := fun _ => fun
  | [d1, d2, d3] => { results := [.lit (.bool true)], args := [d1, d2, d3] }
  | _ => none }
def weaveLostRow : OpenClaim := { program := "ytpleeckbakllpaa", sum := "a17d6935968aa24e329de7be6cd1da3f2cbe2079968c4acb0e31f7cae9d81e37", func := "tinderbox/tinderboxlaw29.WeaveLost", spec := "weaveLost", inPlace := ["internal/abi.NoEscape"], unfollowed := true, recurses := true, apart := false }
def WeaveLostSaid : Prop := weaveLostRow.holds Try.pinned (OpenSpec.ofChange weaveLostSpec)

/-- ITS FALSE NEIGHBOUR: 'it returns false'. Refute it at one input. -/
def weaveLostWrong : ChangeSpec := { name := "weaveLost", fn := fun _ => fun
  | [d1, d2, d3] => { results := [.lit (.bool false)], args := [d1, d2, d3] }
  | _ => none }
def WeaveLostWrongFalsely : Prop := weaveLostRow.holds Try.pinned (OpenSpec.ofChange weaveLostWrong)

/-- 'tinderboxlaw29.WeaveErased': WHATEVER THE INPUT: true; the input reads as it did. -/
def weaveErasedSpec : ChangeSpec := { name := "weaveErased", fn := fun _ => fun
  | [d1, d2] => { results := [.lit (.bool true)], args := [d1, d2] }
  | _ => none }
def weaveErasedRow : OpenClaim := { program := "ytpleeckbakllpaa", sum := "a17d6935968aa24e329de7be6cd1da3f2cbe2079968c4acb0e31f7cae9d81e37", func := "tinderbox/tinderboxlaw29.WeaveErased", spec := "weaveErased", inPlace := ["internal/abi.NoEscape"], unfollowed := true, recurses := true, apart := false }
def WeaveErasedSaid : Prop := weaveErasedRow.holds Try.pinned (OpenSpec.ofChange weaveErasedSpec)

/-- ITS FALSE NEIGHBOUR: 'it returns false'. Refute it at one input. -/
def weaveErasedWrong : ChangeSpec := { name := "weaveErased", fn := fun _ => fun
  | [d1, d2] => { results := [.lit (.bool false)], args := [d1, d2] }
  | _ => none }
def WeaveErasedWrongFalsely : Prop := weaveErasedRow.holds Try.pinned (OpenSpec.ofChange weaveErasedWrong)

/- THE SECOND FORM. 'bulk': how many values and letters a reading holds, each counted each time it is reached (what is shared counts as often as it is met; a slice's spare places count too). A statement '..UptoSaid' is the law's where the arguments, and the package variables that the reading takes, are together of bulk at most 1048576: NARROWER than '..Said'. Prove '..Said' where nothing that the law and all that it calls make is longer than what came in: it says more and counts as full. Else prove '..UptoSaid'. A law counts once. -/
mutual
def uptoBulk {H : Type} : DataW H → Nat
  | .lit (.string bytes) => bytes.length + 1
  | .lit _ => 1
  | .nil => 1
  | .ptr d => uptoBulk d + 1
  | .slice elems spare => uptoBulkAll elems + uptoBulkAll spare + 1
  | .agg parts => uptoBulkAll parts + 1
  | .iface _ d => uptoBulk d + 1
  | .map entries => uptoBulkEntries entries + 1
  | .held _ => 1
def uptoBulkAll {H : Type} : List (DataW H) → Nat
  | [] => 0
  | d :: r => uptoBulk d + uptoBulkAll r
def uptoBulkEntries {H : Type} : List (Lit × DataW H) → Nat
  | [] => 0
  | x :: r => uptoBulkEntry x + uptoBulkEntries r
def uptoBulkEntry {H : Type} : Lit × DataW H → Nat
  | (.string bytes, d) => bytes.length + uptoBulk d + 1
  | (_, d) => uptoBulk d + 1
 end
def uptoSmall : (H : Type) → List (DataW H) → Bool := fun _ ds => decide (uptoBulkAll ds ≤ 1048576)
def OpenSpec.upto (s : _root_.Go.ChangeSpec) : _root_.Go.OpenSpec := { _root_.Go.OpenSpec.ofChange s with cond := some uptoSmall }

/-- 'tinderboxlaw29.WeaveShapes', WHERE WHAT IT READS IS OF BULK AT MOST 1048576: true; the input reads as it did. -/
def weaveShapesUptoRow : OpenClaim := { program := "ytpleeckbakllpaa", sum := "a17d6935968aa24e329de7be6cd1da3f2cbe2079968c4acb0e31f7cae9d81e37", func := "tinderbox/tinderboxlaw29.WeaveShapes", spec := "weaveShapes", inPlace := ["internal/abi.NoEscape"], unfollowed := true, recurses := true, apart := false, narrowed := true }
def WeaveShapesUptoSaid : Prop := weaveShapesUptoRow.holds Try.pinned (OpenSpec.upto weaveShapesSpec)

/-- 'tinderboxlaw29.WeaveMasks', WHERE WHAT IT READS IS OF BULK AT MOST 1048576: true; the input reads as it did. -/
def weaveMasksUptoRow : OpenClaim := { program := "ytpleeckbakllpaa", sum := "a17d6935968aa24e329de7be6cd1da3f2cbe2079968c4acb0e31f7cae9d81e37", func := "tinderbox/tinderboxlaw29.WeaveMasks", spec := "weaveMasks", inPlace := ["internal/abi.NoEscape"], unfollowed := true, recurses := true, apart := false, narrowed := true }
def WeaveMasksUptoSaid : Prop := weaveMasksUptoRow.holds Try.pinned (OpenSpec.upto weaveMasksSpec)

/-- 'tinderboxlaw29.WeaveKeeps', WHERE WHAT IT READS IS OF BULK AT MOST 1048576: true; the input reads as it did. -/
def weaveKeepsUptoRow : OpenClaim := { program := "ytpleeckbakllpaa", sum := "a17d6935968aa24e329de7be6cd1da3f2cbe2079968c4acb0e31f7cae9d81e37", func := "tinderbox/tinderboxlaw29.WeaveKeeps", spec := "weaveKeeps", inPlace := ["internal/abi.NoEscape"], unfollowed := true, recurses := true, apart := false, narrowed := true }
def WeaveKeepsUptoSaid : Prop := weaveKeepsUptoRow.holds Try.pinned (OpenSpec.upto weaveKeepsSpec)

/-- 'tinderboxlaw29.WeaveBursts', WHERE WHAT IT READS IS OF BULK AT MOST 1048576: true; the input reads as it did. -/
def weaveBurstsUptoRow : OpenClaim := { program := "ytpleeckbakllpaa", sum := "a17d6935968aa24e329de7be6cd1da3f2cbe2079968c4acb0e31f7cae9d81e37", func := "tinderbox/tinderboxlaw29.WeaveBursts", spec := "weaveBursts", inPlace := ["internal/abi.NoEscape"], unfollowed := true, recurses := true, apart := false, narrowed := true }
def WeaveBurstsUptoSaid : Prop := weaveBurstsUptoRow.holds Try.pinned (OpenSpec.upto weaveBurstsSpec)

/-- 'tinderboxlaw29.WeaveLost', WHERE WHAT IT READS IS OF BULK AT MOST 1048576: true; the input reads as it did. -/
def weaveLostUptoRow : OpenClaim := { program := "ytpleeckbakllpaa", sum := "a17d6935968aa24e329de7be6cd1da3f2cbe2079968c4acb0e31f7cae9d81e37", func := "tinderbox/tinderboxlaw29.WeaveLost", spec := "weaveLost", inPlace := ["internal/abi.NoEscape"], unfollowed := true, recurses := true, apart := false, narrowed := true }
def WeaveLostUptoSaid : Prop := weaveLostUptoRow.holds Try.pinned (OpenSpec.upto weaveLostSpec)

/-- 'tinderboxlaw29.WeaveErased', WHERE WHAT IT READS IS OF BULK AT MOST 1048576: true; the input reads as it did. -/
def weaveErasedUptoRow : OpenClaim := { program := "ytpleeckbakllpaa", sum := "a17d6935968aa24e329de7be6cd1da3f2cbe2079968c4acb0e31f7cae9d81e37", func := "tinderbox/tinderboxlaw29.WeaveErased", spec := "weaveErased", inPlace := ["internal/abi.NoEscape"], unfollowed := true, recurses := true, apart := false, narrowed := true }
def WeaveErasedUptoSaid : Prop := weaveErasedUptoRow.holds Try.pinned (OpenSpec.upto weaveErasedSpec)

end Rows
end Go.Proofs.Ytpleeckbakllpaa
