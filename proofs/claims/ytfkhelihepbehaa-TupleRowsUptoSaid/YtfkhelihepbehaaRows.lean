/-
  No cell of these rows narrows 'for every input' (looked for: loops, veiled, ifaces, maps, wideKeys, modest, calm, conditions, laid).
  DERIVED. THE GIVEN ROWS OF THIS SEAT. 4 by the template 'for every input the law returns true; each argument reads behind the call as it read before'; 0 by the template 'total and deterministic' (their statements: YtfkhelihepbehaaTotals.lean).
  GIVEN WITH THE SEED: the statements are not yours to turn. If you find one false, say at which input.
  Laid BY PROGRAM, IN A SANDBOX (cutbox-rows.mjs): the forced cells as the released guide's own fill.sh prints them over the translation 95b387144c8ec117… (all of the seat's roots in one cut). By AI agents, Wed Nov 11 2026. No macro, syntax, notation, axiom, sorry.
-/
import Derived.Test.YtfkhelihepbehaaChecked
import GoSem.Claim
import GoSem.ClaimJoined
import GoSem.ClaimMapViews
import Derived.JoinedTies
import Derived.KernelRfl
namespace Go.Proofs.Ytfkhelihepbehaa
/- THE CELL 'sum', in the pinned program and in every row, IS THE sha256 OF THE DUMP (.gsa) THAT YtfkhelihepbehaaProg.lean LOADS. Nothing in Lean hashes anything: it is a label: what it is worth is what the hold of that sum in a sandbox is worth. -/
noncomputable def Try.pinned : Pinned := { name := "ytfkhelihepbehaa", sum := "95b387144c8ec117bfafe42ba6a24920eac4b4cadac1fbeb54dfa2c0ebdf91f5", checked := Try.checked }
namespace Rows
def none {H : Type} : Left H := { results := [], args := [] }

/-- 'sibyllaw03.TupleOrder': WHATEVER THE INPUT: true; the input reads as it did. -/
def tupleOrderSpec : ChangeSpec := { name := "tupleOrder", fn := fun _ => fun
  | [d1, d2] => { results := [.lit (.bool true)], args := [d1, d2] }
  | _ => none }
def tupleOrderRow : OpenClaim := { program := "ytfkhelihepbehaa", sum := "95b387144c8ec117bfafe42ba6a24920eac4b4cadac1fbeb54dfa2c0ebdf91f5", func := "sibyl/sibyllaw03.TupleOrder", spec := "tupleOrder", apart := false }
def TupleOrderSaid : Prop := tupleOrderRow.holds Try.pinned (OpenSpec.ofChange tupleOrderSpec)

/-- ITS FALSE NEIGHBOUR: 'it returns false'. Refute it at one input. -/
def tupleOrderWrong : ChangeSpec := { name := "tupleOrder", fn := fun _ => fun
  | [d1, d2] => { results := [.lit (.bool false)], args := [d1, d2] }
  | _ => none }
def TupleOrderWrongFalsely : Prop := tupleOrderRow.holds Try.pinned (OpenSpec.ofChange tupleOrderWrong)

/-- 'sibyllaw03.TupleSets': WHATEVER THE INPUT: true; the input reads as it did. -/
def tupleSetsSpec : ChangeSpec := { name := "tupleSets", fn := fun _ => fun
  | [d1, d2, d3, d4, d5] => { results := [.lit (.bool true)], args := [d1, d2, d3, d4, d5] }
  | _ => none }
def tupleSetsRow : OpenClaim := { program := "ytfkhelihepbehaa", sum := "95b387144c8ec117bfafe42ba6a24920eac4b4cadac1fbeb54dfa2c0ebdf91f5", func := "sibyl/sibyllaw03.TupleSets", spec := "tupleSets", inPlace := ["slices.overlaps[int]"], unfollowed := true, recurses := true, apart := false }
def TupleSetsSaid : Prop := tupleSetsRow.holds Try.pinned (OpenSpec.ofChange tupleSetsSpec)

/-- ITS FALSE NEIGHBOUR: 'it returns false'. Refute it at one input. -/
def tupleSetsWrong : ChangeSpec := { name := "tupleSets", fn := fun _ => fun
  | [d1, d2, d3, d4, d5] => { results := [.lit (.bool false)], args := [d1, d2, d3, d4, d5] }
  | _ => none }
def TupleSetsWrongFalsely : Prop := tupleSetsRow.holds Try.pinned (OpenSpec.ofChange tupleSetsWrong)

/-- 'sibyllaw03.TupleSorts': WHATEVER THE INPUT: true; the input reads as it did. -/
def tupleSortsSpec : ChangeSpec := { name := "tupleSorts", fn := fun _ => fun
  | [d1, d2, d3] => { results := [.lit (.bool true)], args := [d1, d2, d3] }
  | _ => none }
def tupleSortsRow : OpenClaim := { program := "ytfkhelihepbehaa", sum := "95b387144c8ec117bfafe42ba6a24920eac4b4cadac1fbeb54dfa2c0ebdf91f5", func := "sibyl/sibyllaw03.TupleSorts", spec := "tupleSorts", inPlace := ["slices.overlaps[int]", "slices.overlaps[[]string]"], unfollowed := true, recurses := true, apart := false }
def TupleSortsSaid : Prop := tupleSortsRow.holds Try.pinned (OpenSpec.ofChange tupleSortsSpec)

/-- ITS FALSE NEIGHBOUR: 'it returns false'. Refute it at one input. -/
def tupleSortsWrong : ChangeSpec := { name := "tupleSorts", fn := fun _ => fun
  | [d1, d2, d3] => { results := [.lit (.bool false)], args := [d1, d2, d3] }
  | _ => none }
def TupleSortsWrongFalsely : Prop := tupleSortsRow.holds Try.pinned (OpenSpec.ofChange tupleSortsWrong)

/-- 'sibyllaw03.TupleRows': WHATEVER THE INPUT: true; the input reads as it did. -/
def tupleRowsSpec : ChangeSpec := { name := "tupleRows", fn := fun _ => fun
  | [d1, d2] => { results := [.lit (.bool true)], args := [d1, d2] }
  | _ => none }
def tupleRowsRow : OpenClaim := { program := "ytfkhelihepbehaa", sum := "95b387144c8ec117bfafe42ba6a24920eac4b4cadac1fbeb54dfa2c0ebdf91f5", func := "sibyl/sibyllaw03.TupleRows", spec := "tupleRows", inPlace := ["slices.overlaps[[]string]"], unfollowed := true, recurses := true, apart := false }
def TupleRowsSaid : Prop := tupleRowsRow.holds Try.pinned (OpenSpec.ofChange tupleRowsSpec)

/-- ITS FALSE NEIGHBOUR: 'it returns false'. Refute it at one input. -/
def tupleRowsWrong : ChangeSpec := { name := "tupleRows", fn := fun _ => fun
  | [d1, d2] => { results := [.lit (.bool false)], args := [d1, d2] }
  | _ => none }
def TupleRowsWrongFalsely : Prop := tupleRowsRow.holds Try.pinned (OpenSpec.ofChange tupleRowsWrong)

/- THE SECOND FORM. 'bulk': how many values and letters a reading holds, each counted each time it is reached (what is shared counts as often as it is met; a slice's spare places count too). A statement '..UptoSaid' is the law's where the arguments, and the package variables that the reading takes, are together of bulk at most 1048576: NARROWER than '..Said'. Prove '..Said' where nothing that the law and all that it calls make is longer than what came in: it says more and counts as full. Else prove '..UptoSaid'. A law counts once. -/
mutual
def uptoBulk {H : Type} : DataW H → Nat
  | .lit (.string bytes) => bytes.length + 1
  | .lit _ => 1
  | .nil => 1
  | .ptr d => uptoBulk d + 1
  | .slice elems spare => uptoBulkAll elems + uptoBulkAll spare + 1
  | .agg parts => uptoBulkAll parts + 1
  | .iface _ d => uptoBulk d + 1
  | .map entries => uptoBulkEntries entries + 1
  | .held _ => 1
def uptoBulkAll {H : Type} : List (DataW H) → Nat
  | [] => 0
  | d :: r => uptoBulk d + uptoBulkAll r
def uptoBulkEntries {H : Type} : List (Lit × DataW H) → Nat
  | [] => 0
  | x :: r => uptoBulkEntry x + uptoBulkEntries r
def uptoBulkEntry {H : Type} : Lit × DataW H → Nat
  | (.string bytes, d) => bytes.length + uptoBulk d + 1
  | (_, d) => uptoBulk d + 1
 end
def uptoSmall : (H : Type) → List (DataW H) → Bool := fun _ ds => decide (uptoBulkAll ds ≤ 1048576)
def OpenSpec.upto (s : _root_.Go.ChangeSpec) : _root_.Go.OpenSpec := { _root_.Go.OpenSpec.ofChange s with cond := some uptoSmall }

/-- 'sibyllaw03.TupleOrder', WHERE WHAT IT READS IS OF BULK AT MOST 1048576: true; the input reads as it did. -/
def tupleOrderUptoRow : OpenClaim := { program := "ytfkhelihepbehaa", sum := "95b387144c8ec117bfafe42ba6a24920eac4b4cadac1fbeb54dfa2c0ebdf91f5", func := "sibyl/sibyllaw03.TupleOrder", spec := "tupleOrder", apart := false, narrowed := true }
def TupleOrderUptoSaid : Prop := tupleOrderUptoRow.holds Try.pinned (OpenSpec.upto tupleOrderSpec)

/-- 'sibyllaw03.TupleSets', WHERE WHAT IT READS IS OF BULK AT MOST 1048576: true; the input reads as it did. -/
def tupleSetsUptoRow : OpenClaim := { program := "ytfkhelihepbehaa", sum := "95b387144c8ec117bfafe42ba6a24920eac4b4cadac1fbeb54dfa2c0ebdf91f5", func := "sibyl/sibyllaw03.TupleSets", spec := "tupleSets", inPlace := ["slices.overlaps[int]"], unfollowed := true, recurses := true, apart := false, narrowed := true }
def TupleSetsUptoSaid : Prop := tupleSetsUptoRow.holds Try.pinned (OpenSpec.upto tupleSetsSpec)

/-- 'sibyllaw03.TupleSorts', WHERE WHAT IT READS IS OF BULK AT MOST 1048576: true; the input reads as it did. -/
def tupleSortsUptoRow : OpenClaim := { program := "ytfkhelihepbehaa", sum := "95b387144c8ec117bfafe42ba6a24920eac4b4cadac1fbeb54dfa2c0ebdf91f5", func := "sibyl/sibyllaw03.TupleSorts", spec := "tupleSorts", inPlace := ["slices.overlaps[int]", "slices.overlaps[[]string]"], unfollowed := true, recurses := true, apart := false, narrowed := true }
def TupleSortsUptoSaid : Prop := tupleSortsUptoRow.holds Try.pinned (OpenSpec.upto tupleSortsSpec)

/-- 'sibyllaw03.TupleRows', WHERE WHAT IT READS IS OF BULK AT MOST 1048576: true; the input reads as it did. -/
def tupleRowsUptoRow : OpenClaim := { program := "ytfkhelihepbehaa", sum := "95b387144c8ec117bfafe42ba6a24920eac4b4cadac1fbeb54dfa2c0ebdf91f5", func := "sibyl/sibyllaw03.TupleRows", spec := "tupleRows", inPlace := ["slices.overlaps[[]string]"], unfollowed := true, recurses := true, apart := false, narrowed := true }
def TupleRowsUptoSaid : Prop := tupleRowsUptoRow.holds Try.pinned (OpenSpec.upto tupleRowsSpec)

end Rows
end Go.Proofs.Ytfkhelihepbehaa
