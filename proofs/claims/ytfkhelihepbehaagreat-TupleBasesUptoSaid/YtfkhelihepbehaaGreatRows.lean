/-
  No cell of these rows narrows 'for every input' (looked for: loops, veiled, ifaces, maps, wideKeys, modest, calm, conditions, laid).
  DERIVED. THE GIVEN ROWS OF THIS SEAT. 3 by the template 'for every input the law returns true; each argument reads behind the call as it read before'; 0 by the template 'total and deterministic' (their statements: YtfkhelihepbehaaGreatTotals.lean).
  GIVEN WITH THE SEED: the statements are not yours to turn. If you find one false, say at which input.
  Laid BY PROGRAM, IN A SANDBOX (cutbox-rows.mjs): the forced cells as the released guide's own fill.sh prints them over the translation 392d128bcdf723e6… (all of the seat's roots in one cut). By AI agents, Wed Nov 11 2026. No macro, syntax, notation, axiom, sorry.
-/
import Derived.Test.YtfkhelihepbehaaGreatChecked
import GoSem.Claim
import GoSem.ClaimJoined
import GoSem.ClaimMapViews
import Derived.JoinedTies
import Derived.KernelRfl
namespace Go.Proofs.YtfkhelihepbehaaGreat
/- THE CELL 'sum', in the pinned program and in every row, IS THE sha256 OF THE DUMP (.gsa) THAT YtfkhelihepbehaaGreatProg.lean LOADS. Nothing in Lean hashes anything: it is a label: what it is worth is what the hold of that sum in a sandbox is worth. -/
noncomputable def Tryz.pinned : Pinned := { name := "ytfkhelihepbehaagreat", sum := "392d128bcdf723e6e8716c23950cb6ea7715a5d523fe723ba6ae412101c19bd8", checked := Tryz.checked }
namespace Rows
def none {H : Type} : Left H := { results := [], args := [] }

/-- 'sibyllaw03.TupleLaws': WHATEVER THE INPUT: true; the input reads as it did. -/
def tupleLawsSpec : ChangeSpec := { name := "tupleLaws", fn := fun _ => fun
  | [d1, d2, d3] => { results := [.lit (.bool true)], args := [d1, d2, d3] }
  | _ => none }
def tupleLawsRow : OpenClaim := { program := "ytfkhelihepbehaagreat", sum := "392d128bcdf723e6e8716c23950cb6ea7715a5d523fe723ba6ae412101c19bd8", func := "sibyl/sibyllaw03.TupleLaws", spec := "tupleLaws", inPlace := ["slices.overlaps[int]", "slices.overlaps[[]string]", "slices.overlaps[string]"], unfollowed := true, recurses := true, apart := false }
def TupleLawsSaid : Prop := tupleLawsRow.holds Tryz.pinned (OpenSpec.ofChange tupleLawsSpec)

/-- ITS FALSE NEIGHBOUR: 'it returns false'. Refute it at one input. -/
def tupleLawsWrong : ChangeSpec := { name := "tupleLaws", fn := fun _ => fun
  | [d1, d2, d3] => { results := [.lit (.bool false)], args := [d1, d2, d3] }
  | _ => none }
def TupleLawsWrongFalsely : Prop := tupleLawsRow.holds Tryz.pinned (OpenSpec.ofChange tupleLawsWrong)

/-- 'sibyllaw03.TupleTurned': WHATEVER THE INPUT: true; the input reads as it did. -/
def tupleTurnedSpec : ChangeSpec := { name := "tupleTurned", fn := fun _ => fun
  | [d1, d2] => { results := [.lit (.bool true)], args := [d1, d2] }
  | _ => none }
def tupleTurnedRow : OpenClaim := { program := "ytfkhelihepbehaagreat", sum := "392d128bcdf723e6e8716c23950cb6ea7715a5d523fe723ba6ae412101c19bd8", func := "sibyl/sibyllaw03.TupleTurned", spec := "tupleTurned", inPlace := ["slices.overlaps[int]", "slices.overlaps[[]string]"], unfollowed := true, recurses := true, apart := false }
def TupleTurnedSaid : Prop := tupleTurnedRow.holds Tryz.pinned (OpenSpec.ofChange tupleTurnedSpec)

/-- ITS FALSE NEIGHBOUR: 'it returns false'. Refute it at one input. -/
def tupleTurnedWrong : ChangeSpec := { name := "tupleTurned", fn := fun _ => fun
  | [d1, d2] => { results := [.lit (.bool false)], args := [d1, d2] }
  | _ => none }
def TupleTurnedWrongFalsely : Prop := tupleTurnedRow.holds Tryz.pinned (OpenSpec.ofChange tupleTurnedWrong)

/-- 'sibyllaw03.TupleBases': WHATEVER THE INPUT: true; the input reads as it did. -/
def tupleBasesSpec : ChangeSpec := { name := "tupleBases", fn := fun _ => fun
  | [d] => { results := [.lit (.bool true)], args := [d] }
  | _ => none }
def tupleBasesRow : OpenClaim := { program := "ytfkhelihepbehaagreat", sum := "392d128bcdf723e6e8716c23950cb6ea7715a5d523fe723ba6ae412101c19bd8", func := "sibyl/sibyllaw03.TupleBases", spec := "tupleBases", inPlace := ["slices.overlaps[[]string]"], unfollowed := true, recurses := true, apart := false }
def TupleBasesSaid : Prop := tupleBasesRow.holds Tryz.pinned (OpenSpec.ofChange tupleBasesSpec)

/-- ITS FALSE NEIGHBOUR: 'it returns false'. Refute it at one input. -/
def tupleBasesWrong : ChangeSpec := { name := "tupleBases", fn := fun _ => fun
  | [d] => { results := [.lit (.bool false)], args := [d] }
  | _ => none }
def TupleBasesWrongFalsely : Prop := tupleBasesRow.holds Tryz.pinned (OpenSpec.ofChange tupleBasesWrong)

/- THE SECOND FORM. 'bulk': how many values and letters a reading holds, each counted each time it is reached (what is shared counts as often as it is met; a slice's spare places count too). A statement '..UptoSaid' is the law's where the arguments, and the package variables that the reading takes, are together of bulk at most 1048576: NARROWER than '..Said'. Prove '..Said' where nothing that the law and all that it calls make is longer than what came in: it says more and counts as full. Else prove '..UptoSaid'. A law counts once. -/
mutual
def uptoBulk {H : Type} : DataW H → Nat
  | .lit (.string bytes) => bytes.length + 1
  | .lit _ => 1
  | .nil => 1
  | .ptr d => uptoBulk d + 1
  | .slice elems spare => uptoBulkAll elems + uptoBulkAll spare + 1
  | .agg parts => uptoBulkAll parts + 1
  | .iface _ d => uptoBulk d + 1
  | .map entries => uptoBulkEntries entries + 1
  | .held _ => 1
def uptoBulkAll {H : Type} : List (DataW H) → Nat
  | [] => 0
  | d :: r => uptoBulk d + uptoBulkAll r
def uptoBulkEntries {H : Type} : List (Lit × DataW H) → Nat
  | [] => 0
  | x :: r => uptoBulkEntry x + uptoBulkEntries r
def uptoBulkEntry {H : Type} : Lit × DataW H → Nat
  | (.string bytes, d) => bytes.length + uptoBulk d + 1
  | (_, d) => uptoBulk d + 1
 end
def uptoSmall : (H : Type) → List (DataW H) → Bool := fun _ ds => decide (uptoBulkAll ds ≤ 1048576)
def OpenSpec.upto (s : _root_.Go.ChangeSpec) : _root_.Go.OpenSpec := { _root_.Go.OpenSpec.ofChange s with cond := some uptoSmall }

/-- 'sibyllaw03.TupleLaws', WHERE WHAT IT READS IS OF BULK AT MOST 1048576: true; the input reads as it did. -/
def tupleLawsUptoRow : OpenClaim := { program := "ytfkhelihepbehaagreat", sum := "392d128bcdf723e6e8716c23950cb6ea7715a5d523fe723ba6ae412101c19bd8", func := "sibyl/sibyllaw03.TupleLaws", spec := "tupleLaws", inPlace := ["slices.overlaps[int]", "slices.overlaps[[]string]", "slices.overlaps[string]"], unfollowed := true, recurses := true, apart := false, narrowed := true }
def TupleLawsUptoSaid : Prop := tupleLawsUptoRow.holds Tryz.pinned (OpenSpec.upto tupleLawsSpec)

/-- 'sibyllaw03.TupleTurned', WHERE WHAT IT READS IS OF BULK AT MOST 1048576: true; the input reads as it did. -/
def tupleTurnedUptoRow : OpenClaim := { program := "ytfkhelihepbehaagreat", sum := "392d128bcdf723e6e8716c23950cb6ea7715a5d523fe723ba6ae412101c19bd8", func := "sibyl/sibyllaw03.TupleTurned", spec := "tupleTurned", inPlace := ["slices.overlaps[int]", "slices.overlaps[[]string]"], unfollowed := true, recurses := true, apart := false, narrowed := true }
def TupleTurnedUptoSaid : Prop := tupleTurnedUptoRow.holds Tryz.pinned (OpenSpec.upto tupleTurnedSpec)

/-- 'sibyllaw03.TupleBases', WHERE WHAT IT READS IS OF BULK AT MOST 1048576: true; the input reads as it did. -/
def tupleBasesUptoRow : OpenClaim := { program := "ytfkhelihepbehaagreat", sum := "392d128bcdf723e6e8716c23950cb6ea7715a5d523fe723ba6ae412101c19bd8", func := "sibyl/sibyllaw03.TupleBases", spec := "tupleBases", inPlace := ["slices.overlaps[[]string]"], unfollowed := true, recurses := true, apart := false, narrowed := true }
def TupleBasesUptoSaid : Prop := tupleBasesUptoRow.holds Tryz.pinned (OpenSpec.upto tupleBasesSpec)

end Rows
end Go.Proofs.YtfkhelihepbehaaGreat
