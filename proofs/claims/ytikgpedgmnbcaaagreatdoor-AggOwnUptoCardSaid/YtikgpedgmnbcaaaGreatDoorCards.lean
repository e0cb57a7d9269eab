/-
  DERIVED. GIVEN WITH THE SEED: THE CARDS: each row of YtikgpedgmnbcaaaGreatDoorRows.lean that lists a variable, with what it lists TIED to the program's text (the seventh form; the later family's looks); each row that meets fmt, with fmt's text TOLD by the authors' own Lean function (tested against real Go, not proved from fmt's source: count such statements apart). THE CARD IS WHAT COUNTS. Prove the row's statement (the work); the ties are given (YtikgpedgmnbcaaaGreatDoorTie.lean); close each card by the builder's one call (the guide's Derived/Test/ToyasCard.lean, 'card_holds'). Laid BY PROGRAM, IN A SANDBOX (cutbox-door.mjs). By AI agents, Wed Nov 11 2026. No macro, syntax, notation, axiom, sorry.
-/
import Derived.Test.YtikgpedgmnbcaaaGreatDoorRows
import GoSem.ClaimSeven
namespace Go.Proofs.YtikgpedgmnbcaaaGreatDoor
namespace Rows

/-- THE TIED CARD OF 'sibyllaw15.AggTotals'. -/
def aggTotalsCard : Claim7 := { stood := { row := aggTotalsRow, standIns := [], harness := (true, "759c1912aeb149457b9d51eb341918bb5755235095420b2e28739d6f8d0c0881"), looks := true }, kinds := [], alts := [], laidByText := true, laidKinds := [.data, .data, .data, .sentinel, .sentinel], laidTests := true, laidLooks := .later }
def AggTotalsCardSaid : Prop := Claim7.holds Tryz.pinned (.plain (OpenSpec.ofChange aggTotalsSpec)) aggTotalsCard

/-- THE TIED CARD OF 'sibyllaw15.AggBack'. -/
def aggBackCard : Claim7 := { stood := { row := aggBackRow, standIns := [], harness := (true, "759c1912aeb149457b9d51eb341918bb5755235095420b2e28739d6f8d0c0881"), looks := true }, kinds := [], alts := [], laidByText := true, laidKinds := [.data, .data, .data, .sentinel, .sentinel], laidTests := true, laidLooks := .later }
def AggBackCardSaid : Prop := Claim7.holds Tryz.pinned (.plain (OpenSpec.ofChange aggBackSpec)) aggBackCard

/-- THE TIED CARD OF 'sibyllaw15.AggOrder'. -/
def aggOrderCard : Claim7 := { stood := { row := aggOrderRow, standIns := [], harness := (true, "759c1912aeb149457b9d51eb341918bb5755235095420b2e28739d6f8d0c0881"), looks := true }, kinds := [], alts := [], laidByText := true, laidKinds := [.data, .data, .data, .sentinel, .sentinel], laidTests := true, laidLooks := .later }
def AggOrderCardSaid : Prop := Claim7.holds Tryz.pinned (.plain (OpenSpec.ofChange aggOrderSpec)) aggOrderCard

/-- THE TIED CARD OF 'sibyllaw15.AggKnown'. -/
def aggKnownCard : Claim7 := { stood := { row := aggKnownRow, standIns := [], harness := (true, "759c1912aeb149457b9d51eb341918bb5755235095420b2e28739d6f8d0c0881"), looks := true }, kinds := [], alts := [], laidByText := true, laidKinds := [.data, .data, .data, .sentinel, .sentinel], laidTests := true, laidLooks := .later }
def AggKnownCardSaid : Prop := Claim7.holds Tryz.pinned (.plain (OpenSpec.ofChange aggKnownSpec)) aggKnownCard

/-- THE TIED CARD OF 'sibyllaw15.AggOwn'. -/
def aggOwnCard : Claim7 := { stood := { row := aggOwnRow, standIns := [], harness := (true, "759c1912aeb149457b9d51eb341918bb5755235095420b2e28739d6f8d0c0881"), looks := true }, kinds := [], alts := [], laidByText := true, laidKinds := [.data, .data, .data, .sentinel, .sentinel], laidTests := true, laidLooks := .later }
def AggOwnCardSaid : Prop := Claim7.holds Tryz.pinned (.plain (OpenSpec.ofChange aggOwnSpec)) aggOwnCard

/-- THE TIED CARD OF 'sibyllaw15.AggFacts'. -/
def aggFactsCard : Claim7 := { stood := { row := aggFactsRow, standIns := [], harness := (true, "759c1912aeb149457b9d51eb341918bb5755235095420b2e28739d6f8d0c0881"), looks := true }, kinds := [], alts := [], laidByText := true, laidKinds := [.data, .data, .data, .sentinel, .sentinel], laidTests := true, laidLooks := .later }
def AggFactsCardSaid : Prop := Claim7.holds Tryz.pinned (.plain (OpenSpec.ofChange aggFactsSpec)) aggFactsCard

/-- THE SECOND FORM's CARD OF 'sibyllaw15.AggTotals'. -/
def aggTotalsUptoCard : Claim7 := { stood := { row := aggTotalsUptoRow, standIns := [], harness := (true, "759c1912aeb149457b9d51eb341918bb5755235095420b2e28739d6f8d0c0881"), looks := true }, kinds := [], alts := [], laidByText := true, laidKinds := [.data, .data, .data, .sentinel, .sentinel], laidTests := true, laidLooks := .later }
def AggTotalsUptoCardSaid : Prop := Claim7.holds Tryz.pinned (.plain (OpenSpec.upto aggTotalsSpec)) aggTotalsUptoCard

/-- THE SECOND FORM's CARD OF 'sibyllaw15.AggBack'. -/
def aggBackUptoCard : Claim7 := { stood := { row := aggBackUptoRow, standIns := [], harness := (true, "759c1912aeb149457b9d51eb341918bb5755235095420b2e28739d6f8d0c0881"), looks := true }, kinds := [], alts := [], laidByText := true, laidKinds := [.data, .data, .data, .sentinel, .sentinel], laidTests := true, laidLooks := .later }
def AggBackUptoCardSaid : Prop := Claim7.holds Tryz.pinned (.plain (OpenSpec.upto aggBackSpec)) aggBackUptoCard

/-- THE SECOND FORM's CARD OF 'sibyllaw15.AggOrder'. -/
def aggOrderUptoCard : Claim7 := { stood := { row := aggOrderUptoRow, standIns := [], harness := (true, "759c1912aeb149457b9d51eb341918bb5755235095420b2e28739d6f8d0c0881"), looks := true }, kinds := [], alts := [], laidByText := true, laidKinds := [.data, .data, .data, .sentinel, .sentinel], laidTests := true, laidLooks := .later }
def AggOrderUptoCardSaid : Prop := Claim7.holds Tryz.pinned (.plain (OpenSpec.upto aggOrderSpec)) aggOrderUptoCard

/-- THE SECOND FORM's CARD OF 'sibyllaw15.AggKnown'. -/
def aggKnownUptoCard : Claim7 := { stood := { row := aggKnownUptoRow, standIns := [], harness := (true, "759c1912aeb149457b9d51eb341918bb5755235095420b2e28739d6f8d0c0881"), looks := true }, kinds := [], alts := [], laidByText := true, laidKinds := [.data, .data, .data, .sentinel, .sentinel], laidTests := true, laidLooks := .later }
def AggKnownUptoCardSaid : Prop := Claim7.holds Tryz.pinned (.plain (OpenSpec.upto aggKnownSpec)) aggKnownUptoCard

/-- THE SECOND FORM's CARD OF 'sibyllaw15.AggOwn'. -/
def aggOwnUptoCard : Claim7 := { stood := { row := aggOwnUptoRow, standIns := [], harness := (true, "759c1912aeb149457b9d51eb341918bb5755235095420b2e28739d6f8d0c0881"), looks := true }, kinds := [], alts := [], laidByText := true, laidKinds := [.data, .data, .data, .sentinel, .sentinel], laidTests := true, laidLooks := .later }
def AggOwnUptoCardSaid : Prop := Claim7.holds Tryz.pinned (.plain (OpenSpec.upto aggOwnSpec)) aggOwnUptoCard

/-- THE SECOND FORM's CARD OF 'sibyllaw15.AggFacts'. -/
def aggFactsUptoCard : Claim7 := { stood := { row := aggFactsUptoRow, standIns := [], harness := (true, "759c1912aeb149457b9d51eb341918bb5755235095420b2e28739d6f8d0c0881"), looks := true }, kinds := [], alts := [], laidByText := true, laidKinds := [.data, .data, .data, .sentinel, .sentinel], laidTests := true, laidLooks := .later }
def AggFactsUptoCardSaid : Prop := Claim7.holds Tryz.pinned (.plain (OpenSpec.upto aggFactsSpec)) aggFactsUptoCard
end Rows
end Go.Proofs.YtikgpedgmnbcaaaGreatDoor
