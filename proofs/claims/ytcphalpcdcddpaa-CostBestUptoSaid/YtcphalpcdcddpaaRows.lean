/-
  No cell of these rows narrows 'for every input' (looked for: loops, veiled, ifaces, maps, wideKeys, modest, calm, conditions, laid).
  DERIVED. THE GIVEN ROWS OF THIS SEAT. 4 by the template 'for every input the law returns true; each argument reads behind the call as it read before'; 0 by the template 'total and deterministic' (their statements: YtcphalpcdcddpaaTotals.lean).
  GIVEN WITH THE SEED: the statements are not yours to turn. If you find one false, say at which input.
  Laid BY PROGRAM, IN A SANDBOX (cutbox-rows.mjs): the forced cells as the released guide's own fill.sh prints them over the translation a7e612f840468627… (all of the seat's roots in one cut). By AI agents, Wed Nov 11 2026. No macro, syntax, notation, axiom, sorry.
-/
import Derived.Test.YtcphalpcdcddpaaChecked
import GoSem.Claim
import GoSem.ClaimJoined
import GoSem.ClaimMapViews
import Derived.JoinedTies
import Derived.KernelRfl
namespace Go.Proofs.Ytcphalpcdcddpaa
/- THE CELL 'sum', in the pinned program and in every row, IS THE sha256 OF THE DUMP (.gsa) THAT YtcphalpcdcddpaaProg.lean LOADS. Nothing in Lean hashes anything: it is a label: what it is worth is what the hold of that sum in a sandbox is worth. -/
noncomputable def Try.pinned : Pinned := { name := "ytcphalpcdcddpaa", sum := "a7e612f84046862756b6e3ab3b90c81b0bf192eff85122bcfb898d02ede37f8e", checked := Try.checked }
namespace Rows
def none {H : Type} : Left H := { results := [], args := [] }

/-- 'sibyllaw25.CostGuesses': WHATEVER THE INPUT: true; the input reads as it did. -/
def costGuessesSpec : ChangeSpec := { name := "costGuesses", fn := fun _ => fun
  | [d] => { results := [.lit (.bool true)], args := [d] }
  | _ => none }
def costGuessesRow : OpenClaim := { program := "ytcphalpcdcddpaa", sum := "a7e612f84046862756b6e3ab3b90c81b0bf192eff85122bcfb898d02ede37f8e", func := "sibyl/sibyllaw25.CostGuesses", spec := "costGuesses", inPlace := ["math.Float64frombits", "math.Float64bits"], unfollowed := true, recurses := true, apart := false }
def CostGuessesSaid : Prop := costGuessesRow.holds Try.pinned (OpenSpec.ofChange costGuessesSpec)

/-- ITS FALSE NEIGHBOUR: 'it returns false'. Refute it at one input. -/
def costGuessesWrong : ChangeSpec := { name := "costGuesses", fn := fun _ => fun
  | [d] => { results := [.lit (.bool false)], args := [d] }
  | _ => none }
def CostGuessesWrongFalsely : Prop := costGuessesRow.holds Try.pinned (OpenSpec.ofChange costGuessesWrong)

/-- 'sibyllaw25.CostOrders': WHATEVER THE INPUT: true; the input reads as it did. -/
def costOrdersSpec : ChangeSpec := { name := "costOrders", fn := fun _ => fun
  | [d1, d2] => { results := [.lit (.bool true)], args := [d1, d2] }
  | _ => none }
def costOrdersRow : OpenClaim := { program := "ytcphalpcdcddpaa", sum := "a7e612f84046862756b6e3ab3b90c81b0bf192eff85122bcfb898d02ede37f8e", func := "sibyl/sibyllaw25.CostOrders", spec := "costOrders", inPlace := ["math.Float64frombits", "math.Float64bits"], unfollowed := true, recurses := true, apart := false }
def CostOrdersSaid : Prop := costOrdersRow.holds Try.pinned (OpenSpec.ofChange costOrdersSpec)

/-- ITS FALSE NEIGHBOUR: 'it returns false'. Refute it at one input. -/
def costOrdersWrong : ChangeSpec := { name := "costOrders", fn := fun _ => fun
  | [d1, d2] => { results := [.lit (.bool false)], args := [d1, d2] }
  | _ => none }
def CostOrdersWrongFalsely : Prop := costOrdersRow.holds Try.pinned (OpenSpec.ofChange costOrdersWrong)

/-- 'sibyllaw25.CostApart': WHATEVER THE INPUT: true; the input reads as it did. -/
def costApartSpec : ChangeSpec := { name := "costApart", fn := fun _ => fun
  | [d1, d2] => { results := [.lit (.bool true)], args := [d1, d2] }
  | _ => none }
def costApartRow : OpenClaim := { program := "ytcphalpcdcddpaa", sum := "a7e612f84046862756b6e3ab3b90c81b0bf192eff85122bcfb898d02ede37f8e", func := "sibyl/sibyllaw25.CostApart", spec := "costApart", inPlace := ["math.Float64bits", "math.Float64frombits"], unfollowed := true, recurses := true, apart := false }
def CostApartSaid : Prop := costApartRow.holds Try.pinned (OpenSpec.ofChange costApartSpec)

/-- ITS FALSE NEIGHBOUR: 'it returns false'. Refute it at one input. -/
def costApartWrong : ChangeSpec := { name := "costApart", fn := fun _ => fun
  | [d1, d2] => { results := [.lit (.bool false)], args := [d1, d2] }
  | _ => none }
def CostApartWrongFalsely : Prop := costApartRow.holds Try.pinned (OpenSpec.ofChange costApartWrong)

/-- 'sibyllaw25.CostBest': WHATEVER THE INPUT: true; the input reads as it did. -/
def costBestSpec : ChangeSpec := { name := "costBest", fn := fun _ => fun
  | [d1, d2, d3] => { results := [.lit (.bool true)], args := [d1, d2, d3] }
  | _ => none }
def costBestRow : OpenClaim := { program := "ytcphalpcdcddpaa", sum := "a7e612f84046862756b6e3ab3b90c81b0bf192eff85122bcfb898d02ede37f8e", func := "sibyl/sibyllaw25.CostBest", spec := "costBest", inPlace := ["math.Float64bits", "math.Float64frombits"], unfollowed := true, recurses := true, apart := false }
def CostBestSaid : Prop := costBestRow.holds Try.pinned (OpenSpec.ofChange costBestSpec)

/-- ITS FALSE NEIGHBOUR: 'it returns false'. Refute it at one input. -/
def costBestWrong : ChangeSpec := { name := "costBest", fn := fun _ => fun
  | [d1, d2, d3] => { results := [.lit (.bool false)], args := [d1, d2, d3] }
  | _ => none }
def CostBestWrongFalsely : Prop := costBestRow.holds Try.pinned (OpenSpec.ofChange costBestWrong)

/- THE SECOND FORM. 'bulk': how many values and letters a reading holds, each counted each time it is reached (what is shared counts as often as it is met; a slice's spare places count too). A statement '..UptoSaid' is the law's where the arguments, and the package variables that the reading takes, are together of bulk at most 1048576: NARROWER than '..Said'. Prove '..Said' where nothing that the law and all that it calls make is longer than what came in: it says more and counts as full. Else prove '..UptoSaid'. A law counts once. -/
mutual
def uptoBulk {H : Type} : DataW H → Nat
  | .lit (.string bytes) => bytes.length + 1
  | .lit _ => 1
  | .nil => 1
  | .ptr d => uptoBulk d + 1
  | .slice elems spare => uptoBulkAll elems + uptoBulkAll spare + 1
  | .agg parts => uptoBulkAll parts + 1
  | .iface _ d => uptoBulk d + 1
  | .map entries => uptoBulkEntries entries + 1
  | .held _ => 1
def uptoBulkAll {H : Type} : List (DataW H) → Nat
  | [] => 0
  | d :: r => uptoBulk d + uptoBulkAll r
def uptoBulkEntries {H : Type} : List (Lit × DataW H) → Nat
  | [] => 0
  | x :: r => uptoBulkEntry x + uptoBulkEntries r
def uptoBulkEntry {H : Type} : Lit × DataW H → Nat
  | (.string bytes, d) => bytes.length + uptoBulk d + 1
  | (_, d) => uptoBulk d + 1
 end
def uptoSmall : (H : Type) → List (DataW H) → Bool := fun _ ds => decide (uptoBulkAll ds ≤ 1048576)
def OpenSpec.upto (s : _root_.Go.ChangeSpec) : _root_.Go.OpenSpec := { _root_.Go.OpenSpec.ofChange s with cond := some uptoSmall }

/-- 'sibyllaw25.CostGuesses', WHERE WHAT IT READS IS OF BULK AT MOST 1048576: true; the input reads as it did. -/
def costGuessesUptoRow : OpenClaim := { program := "ytcphalpcdcddpaa", sum := "a7e612f84046862756b6e3ab3b90c81b0bf192eff85122bcfb898d02ede37f8e", func := "sibyl/sibyllaw25.CostGuesses", spec := "costGuesses", inPlace := ["math.Float64frombits", "math.Float64bits"], unfollowed := true, recurses := true, apart := false, narrowed := true }
def CostGuessesUptoSaid : Prop := costGuessesUptoRow.holds Try.pinned (OpenSpec.upto costGuessesSpec)

/-- 'sibyllaw25.CostOrders', WHERE WHAT IT READS IS OF BULK AT MOST 1048576: true; the input reads as it did. -/
def costOrdersUptoRow : OpenClaim := { program := "ytcphalpcdcddpaa", sum := "a7e612f84046862756b6e3ab3b90c81b0bf192eff85122bcfb898d02ede37f8e", func := "sibyl/sibyllaw25.CostOrders", spec := "costOrders", inPlace := ["math.Float64frombits", "math.Float64bits"], unfollowed := true, recurses := true, apart := false, narrowed := true }
def CostOrdersUptoSaid : Prop := costOrdersUptoRow.holds Try.pinned (OpenSpec.upto costOrdersSpec)

/-- 'sibyllaw25.CostApart', WHERE WHAT IT READS IS OF BULK AT MOST 1048576: true; the input reads as it did. -/
def costApartUptoRow : OpenClaim := { program := "ytcphalpcdcddpaa", sum := "a7e612f84046862756b6e3ab3b90c81b0bf192eff85122bcfb898d02ede37f8e", func := "sibyl/sibyllaw25.CostApart", spec := "costApart", inPlace := ["math.Float64bits", "math.Float64frombits"], unfollowed := true, recurses := true, apart := false, narrowed := true }
def CostApartUptoSaid : Prop := costApartUptoRow.holds Try.pinned (OpenSpec.upto costApartSpec)

/-- 'sibyllaw25.CostBest', WHERE WHAT IT READS IS OF BULK AT MOST 1048576: true; the input reads as it did. -/
def costBestUptoRow : OpenClaim := { program := "ytcphalpcdcddpaa", sum := "a7e612f84046862756b6e3ab3b90c81b0bf192eff85122bcfb898d02ede37f8e", func := "sibyl/sibyllaw25.CostBest", spec := "costBest", inPlace := ["math.Float64bits", "math.Float64frombits"], unfollowed := true, recurses := true, apart := false, narrowed := true }
def CostBestUptoSaid : Prop := costBestUptoRow.holds Try.pinned (OpenSpec.upto costBestSpec)

end Rows
end Go.Proofs.Ytcphalpcdcddpaa
