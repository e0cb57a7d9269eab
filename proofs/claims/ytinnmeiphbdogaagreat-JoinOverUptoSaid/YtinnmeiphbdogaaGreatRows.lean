/-
  No cell of these rows narrows 'for every input' (looked for: loops, veiled, ifaces, maps, wideKeys, modest, calm, conditions, laid).
  DERIVED. THE GIVEN ROWS OF THIS SEAT. 7 by the template 'for every input the law returns true; each argument reads behind the call as it read before'; 0 by the template 'total and deterministic' (their statements: YtinnmeiphbdogaaGreatTotals.lean).
  GIVEN WITH THE SEED: the statements are not yours to turn. If you find one false, say at which input.
  Laid BY PROGRAM, IN A SANDBOX (cutbox-rows.mjs): the forced cells as the released guide's own fill.sh prints them over the translation 1c72df3d5f8803a8… (all of the seat's roots in one cut). By AI agents, Wed Nov 11 2026. No macro, syntax, notation, axiom, sorry.
-/
import Derived.Test.YtinnmeiphbdogaaGreatChecked
import GoSem.Claim
import GoSem.ClaimJoined
import GoSem.ClaimMapViews
import Derived.JoinedTies
import Derived.KernelRfl
namespace Go.Proofs.YtinnmeiphbdogaaGreat
/- THE CELL 'sum', in the pinned program and in every row, IS THE sha256 OF THE DUMP (.gsa) THAT YtinnmeiphbdogaaGreatProg.lean LOADS. Nothing in Lean hashes anything: it is a label: what it is worth is what the hold of that sum in a sandbox is worth. -/
noncomputable def Tryz.pinned : Pinned := { name := "ytinnmeiphbdogaagreat", sum := "1c72df3d5f8803a8531b5529271a64ac99655b66ce12633b54299ea253e4e7d6", checked := Tryz.checked }
namespace Rows
def none {H : Type} : Left H := { results := [], args := [] }

/-- 'sibyllaw14.JoinOrder': WHATEVER THE INPUT: true; the input reads as it did. -/
def joinOrderSpec : ChangeSpec := { name := "joinOrder", fn := fun _ => fun
  | [d1, d2, d3] => { results := [.lit (.bool true)], args := [d1, d2, d3] }
  | _ => none }
def joinOrderRow : OpenClaim := { program := "ytinnmeiphbdogaagreat", sum := "1c72df3d5f8803a8531b5529271a64ac99655b66ce12633b54299ea253e4e7d6", func := "sibyl/sibyllaw14.JoinOrder", spec := "joinOrder", inPlace := ["slices.overlaps[[]string]"], unfollowed := true, recurses := true, apart := false }
def JoinOrderSaid : Prop := joinOrderRow.holds Tryz.pinned (OpenSpec.ofChange joinOrderSpec)

/-- ITS FALSE NEIGHBOUR: 'it returns false'. Refute it at one input. -/
def joinOrderWrong : ChangeSpec := { name := "joinOrder", fn := fun _ => fun
  | [d1, d2, d3] => { results := [.lit (.bool false)], args := [d1, d2, d3] }
  | _ => none }
def JoinOrderWrongFalsely : Prop := joinOrderRow.holds Tryz.pinned (OpenSpec.ofChange joinOrderWrong)

/-- 'sibyllaw14.JoinRules': WHATEVER THE INPUT: true; the input reads as it did. -/
def joinRulesSpec : ChangeSpec := { name := "joinRules", fn := fun _ => fun
  | [d1, d2] => { results := [.lit (.bool true)], args := [d1, d2] }
  | _ => none }
def joinRulesRow : OpenClaim := { program := "ytinnmeiphbdogaagreat", sum := "1c72df3d5f8803a8531b5529271a64ac99655b66ce12633b54299ea253e4e7d6", func := "sibyl/sibyllaw14.JoinRules", spec := "joinRules", inPlace := ["slices.overlaps[[]string]"], unfollowed := true, recurses := true, apart := false }
def JoinRulesSaid : Prop := joinRulesRow.holds Tryz.pinned (OpenSpec.ofChange joinRulesSpec)

/-- ITS FALSE NEIGHBOUR: 'it returns false'. Refute it at one input. -/
def joinRulesWrong : ChangeSpec := { name := "joinRules", fn := fun _ => fun
  | [d1, d2] => { results := [.lit (.bool false)], args := [d1, d2] }
  | _ => none }
def JoinRulesWrongFalsely : Prop := joinRulesRow.holds Tryz.pinned (OpenSpec.ofChange joinRulesWrong)

/-- 'sibyllaw14.JoinKnown': WHATEVER THE INPUT: true; the input reads as it did. -/
def joinKnownSpec : ChangeSpec := { name := "joinKnown", fn := fun _ => fun
  | [] => { results := [.lit (.bool true)], args := [] }
  | _ => none }
def joinKnownRow : OpenClaim := { program := "ytinnmeiphbdogaagreat", sum := "1c72df3d5f8803a8531b5529271a64ac99655b66ce12633b54299ea253e4e7d6", func := "sibyl/sibyllaw14.JoinKnown", spec := "joinKnown", inPlace := ["slices.overlaps[[]string]"], unfollowed := true, recurses := true, apart := false }
def JoinKnownSaid : Prop := joinKnownRow.holds Tryz.pinned (OpenSpec.ofChange joinKnownSpec)

/-- ITS FALSE NEIGHBOUR: 'it returns false'. Refute it at one input. -/
def joinKnownWrong : ChangeSpec := { name := "joinKnown", fn := fun _ => fun
  | [] => { results := [.lit (.bool false)], args := [] }
  | _ => none }
def JoinKnownWrongFalsely : Prop := joinKnownRow.holds Tryz.pinned (OpenSpec.ofChange joinKnownWrong)

/-- 'sibyllaw14.JoinOver': WHATEVER THE INPUT: true; the input reads as it did. -/
def joinOverSpec : ChangeSpec := { name := "joinOver", fn := fun _ => fun
  | [d1, d2, d3] => { results := [.lit (.bool true)], args := [d1, d2, d3] }
  | _ => none }
def joinOverRow : OpenClaim := { program := "ytinnmeiphbdogaagreat", sum := "1c72df3d5f8803a8531b5529271a64ac99655b66ce12633b54299ea253e4e7d6", func := "sibyl/sibyllaw14.JoinOver", spec := "joinOver", inPlace := ["slices.overlaps[[]string]"], unfollowed := true, recurses := true, apart := false }
def JoinOverSaid : Prop := joinOverRow.holds Tryz.pinned (OpenSpec.ofChange joinOverSpec)

/-- ITS FALSE NEIGHBOUR: 'it returns false'. Refute it at one input. -/
def joinOverWrong : ChangeSpec := { name := "joinOver", fn := fun _ => fun
  | [d1, d2, d3] => { results := [.lit (.bool false)], args := [d1, d2, d3] }
  | _ => none }
def JoinOverWrongFalsely : Prop := joinOverRow.holds Tryz.pinned (OpenSpec.ofChange joinOverWrong)

/-- 'sibyllaw14.JoinOwn': WHATEVER THE INPUT: true; the input reads as it did. -/
def joinOwnSpec : ChangeSpec := { name := "joinOwn", fn := fun _ => fun
  | [d1, d2] => { results := [.lit (.bool true)], args := [d1, d2] }
  | _ => none }
def joinOwnRow : OpenClaim := { program := "ytinnmeiphbdogaagreat", sum := "1c72df3d5f8803a8531b5529271a64ac99655b66ce12633b54299ea253e4e7d6", func := "sibyl/sibyllaw14.JoinOwn", spec := "joinOwn", inPlace := ["slices.overlaps[[]string]"], unfollowed := true, recurses := true, apart := false }
def JoinOwnSaid : Prop := joinOwnRow.holds Tryz.pinned (OpenSpec.ofChange joinOwnSpec)

/-- ITS FALSE NEIGHBOUR: 'it returns false'. Refute it at one input. -/
def joinOwnWrong : ChangeSpec := { name := "joinOwn", fn := fun _ => fun
  | [d1, d2] => { results := [.lit (.bool false)], args := [d1, d2] }
  | _ => none }
def JoinOwnWrongFalsely : Prop := joinOwnRow.holds Tryz.pinned (OpenSpec.ofChange joinOwnWrong)

/-- 'sibyllaw14.JoinFacts': WHATEVER THE INPUT: true; the input reads as it did. -/
def joinFactsSpec : ChangeSpec := { name := "joinFacts", fn := fun _ => fun
  | [d1, d2] => { results := [.lit (.bool true)], args := [d1, d2] }
  | _ => none }
def joinFactsRow : OpenClaim := { program := "ytinnmeiphbdogaagreat", sum := "1c72df3d5f8803a8531b5529271a64ac99655b66ce12633b54299ea253e4e7d6", func := "sibyl/sibyllaw14.JoinFacts", spec := "joinFacts", inPlace := ["slices.overlaps[[]string]"], unfollowed := true, recurses := true, apart := false }
def JoinFactsSaid : Prop := joinFactsRow.holds Tryz.pinned (OpenSpec.ofChange joinFactsSpec)

/-- ITS FALSE NEIGHBOUR: 'it returns false'. Refute it at one input. -/
def joinFactsWrong : ChangeSpec := { name := "joinFacts", fn := fun _ => fun
  | [d1, d2] => { results := [.lit (.bool false)], args := [d1, d2] }
  | _ => none }
def JoinFactsWrongFalsely : Prop := joinFactsRow.holds Tryz.pinned (OpenSpec.ofChange joinFactsWrong)

/-- 'sibyllaw14.JoinMore': WHATEVER THE INPUT: true; the input reads as it did. -/
def joinMoreSpec : ChangeSpec := { name := "joinMore", fn := fun _ => fun
  | [d1, d2, d3, d4] => { results := [.lit (.bool true)], args := [d1, d2, d3, d4] }
  | _ => none }
def joinMoreRow : OpenClaim := { program := "ytinnmeiphbdogaagreat", sum := "1c72df3d5f8803a8531b5529271a64ac99655b66ce12633b54299ea253e4e7d6", func := "sibyl/sibyllaw14.JoinMore", spec := "joinMore", inPlace := ["slices.overlaps[[]string]"], unfollowed := true, recurses := true, apart := false }
def JoinMoreSaid : Prop := joinMoreRow.holds Tryz.pinned (OpenSpec.ofChange joinMoreSpec)

/-- ITS FALSE NEIGHBOUR: 'it returns false'. Refute it at one input. -/
def joinMoreWrong : ChangeSpec := { name := "joinMore", fn := fun _ => fun
  | [d1, d2, d3, d4] => { results := [.lit (.bool false)], args := [d1, d2, d3, d4] }
  | _ => none }
def JoinMoreWrongFalsely : Prop := joinMoreRow.holds Tryz.pinned (OpenSpec.ofChange joinMoreWrong)

/- THE SECOND FORM. 'bulk': how many values and letters a reading holds, each counted each time it is reached (what is shared counts as often as it is met; a slice's spare places count too). A statement '..UptoSaid' is the law's where the arguments, and the package variables that the reading takes, are together of bulk at most 1048576: NARROWER than '..Said'. Prove '..Said' where nothing that the law and all that it calls make is longer than what came in: it says more and counts as full. Else prove '..UptoSaid'. A law counts once. -/
mutual
def uptoBulk {H : Type} : DataW H → Nat
  | .lit (.string bytes) => bytes.length + 1
  | .lit _ => 1
  | .nil => 1
  | .ptr d => uptoBulk d + 1
  | .slice elems spare => uptoBulkAll elems + uptoBulkAll spare + 1
  | .agg parts => uptoBulkAll parts + 1
  | .iface _ d => uptoBulk d + 1
  | .map entries => uptoBulkEntries entries + 1
  | .held _ => 1
def uptoBulkAll {H : Type} : List (DataW H) → Nat
  | [] => 0
  | d :: r => uptoBulk d + uptoBulkAll r
def uptoBulkEntries {H : Type} : List (Lit × DataW H) → Nat
  | [] => 0
  | x :: r => uptoBulkEntry x + uptoBulkEntries r
def uptoBulkEntry {H : Type} : Lit × DataW H → Nat
  | (.string bytes, d) => bytes.length + uptoBulk d + 1
  | (_, d) => uptoBulk d + 1
 end
def uptoSmall : (H : Type) → List (DataW H) → Bool := fun _ ds => decide (uptoBulkAll ds ≤ 1048576)
def OpenSpec.upto (s : _root_.Go.ChangeSpec) : _root_.Go.OpenSpec := { _root_.Go.OpenSpec.ofChange s with cond := some uptoSmall }

/-- 'sibyllaw14.JoinOrder', WHERE WHAT IT READS IS OF BULK AT MOST 1048576: true; the input reads as it did. -/
def joinOrderUptoRow : OpenClaim := { program := "ytinnmeiphbdogaagreat", sum := "1c72df3d5f8803a8531b5529271a64ac99655b66ce12633b54299ea253e4e7d6", func := "sibyl/sibyllaw14.JoinOrder", spec := "joinOrder", inPlace := ["slices.overlaps[[]string]"], unfollowed := true, recurses := true, apart := false, narrowed := true }
def JoinOrderUptoSaid : Prop := joinOrderUptoRow.holds Tryz.pinned (OpenSpec.upto joinOrderSpec)

/-- 'sibyllaw14.JoinRules', WHERE WHAT IT READS IS OF BULK AT MOST 1048576: true; the input reads as it did. -/
def joinRulesUptoRow : OpenClaim := { program := "ytinnmeiphbdogaagreat", sum := "1c72df3d5f8803a8531b5529271a64ac99655b66ce12633b54299ea253e4e7d6", func := "sibyl/sibyllaw14.JoinRules", spec := "joinRules", inPlace := ["slices.overlaps[[]string]"], unfollowed := true, recurses := true, apart := false, narrowed := true }
def JoinRulesUptoSaid : Prop := joinRulesUptoRow.holds Tryz.pinned (OpenSpec.upto joinRulesSpec)

/-- 'sibyllaw14.JoinKnown', WHERE WHAT IT READS IS OF BULK AT MOST 1048576: true; the input reads as it did. -/
def joinKnownUptoRow : OpenClaim := { program := "ytinnmeiphbdogaagreat", sum := "1c72df3d5f8803a8531b5529271a64ac99655b66ce12633b54299ea253e4e7d6", func := "sibyl/sibyllaw14.JoinKnown", spec := "joinKnown", inPlace := ["slices.overlaps[[]string]"], unfollowed := true, recurses := true, apart := false, narrowed := true }
def JoinKnownUptoSaid : Prop := joinKnownUptoRow.holds Tryz.pinned (OpenSpec.upto joinKnownSpec)

/-- 'sibyllaw14.JoinOver', WHERE WHAT IT READS IS OF BULK AT MOST 1048576: true; the input reads as it did. -/
def joinOverUptoRow : OpenClaim := { program := "ytinnmeiphbdogaagreat", sum := "1c72df3d5f8803a8531b5529271a64ac99655b66ce12633b54299ea253e4e7d6", func := "sibyl/sibyllaw14.JoinOver", spec := "joinOver", inPlace := ["slices.overlaps[[]string]"], unfollowed := true, recurses := true, apart := false, narrowed := true }
def JoinOverUptoSaid : Prop := joinOverUptoRow.holds Tryz.pinned (OpenSpec.upto joinOverSpec)

/-- 'sibyllaw14.JoinOwn', WHERE WHAT IT READS IS OF BULK AT MOST 1048576: true; the input reads as it did. -/
def joinOwnUptoRow : OpenClaim := { program := "ytinnmeiphbdogaagreat", sum := "1c72df3d5f8803a8531b5529271a64ac99655b66ce12633b54299ea253e4e7d6", func := "sibyl/sibyllaw14.JoinOwn", spec := "joinOwn", inPlace := ["slices.overlaps[[]string]"], unfollowed := true, recurses := true, apart := false, narrowed := true }
def JoinOwnUptoSaid : Prop := joinOwnUptoRow.holds Tryz.pinned (OpenSpec.upto joinOwnSpec)

/-- 'sibyllaw14.JoinFacts', WHERE WHAT IT READS IS OF BULK AT MOST 1048576: true; the input reads as it did. -/
def joinFactsUptoRow : OpenClaim := { program := "ytinnmeiphbdogaagreat", sum := "1c72df3d5f8803a8531b5529271a64ac99655b66ce12633b54299ea253e4e7d6", func := "sibyl/sibyllaw14.JoinFacts", spec := "joinFacts", inPlace := ["slices.overlaps[[]string]"], unfollowed := true, recurses := true, apart := false, narrowed := true }
def JoinFactsUptoSaid : Prop := joinFactsUptoRow.holds Tryz.pinned (OpenSpec.upto joinFactsSpec)

/-- 'sibyllaw14.JoinMore', WHERE WHAT IT READS IS OF BULK AT MOST 1048576: true; the input reads as it did. -/
def joinMoreUptoRow : OpenClaim := { program := "ytinnmeiphbdogaagreat", sum := "1c72df3d5f8803a8531b5529271a64ac99655b66ce12633b54299ea253e4e7d6", func := "sibyl/sibyllaw14.JoinMore", spec := "joinMore", inPlace := ["slices.overlaps[[]string]"], unfollowed := true, recurses := true, apart := false, narrowed := true }
def JoinMoreUptoSaid : Prop := joinMoreUptoRow.holds Tryz.pinned (OpenSpec.upto joinMoreSpec)

end Rows
end Go.Proofs.YtinnmeiphbdogaaGreat
