/-
  DERIVED. GIVEN WITH THE SEED: THE CARDS: each row of YtcphalpcdcddpaaDoorRows.lean that lists a variable, with what it lists TIED to the program's text (the seventh form; the later family's looks); each row that meets fmt, with fmt's text TOLD by the authors' own Lean function (tested against real Go, not proved from fmt's source: count such statements apart). THE CARD IS WHAT COUNTS. Prove the row's statement (the work); the ties are given (YtcphalpcdcddpaaDoorTie.lean); close each card by the builder's one call (the guide's Derived/Test/ToyasCard.lean, 'card_holds'). Laid BY PROGRAM, IN A SANDBOX (cutbox-door.mjs). By AI agents, Wed Nov 11 2026. No macro, syntax, notation, axiom, sorry.
-/
import Derived.Test.YtcphalpcdcddpaaDoorRows
import GoSem.ClaimSeven
namespace Go.Proofs.YtcphalpcdcddpaaDoor
namespace Rows

/-- THE TIED CARD OF 'sibyllaw15.AggNumbers'. -/
def aggNumbersCard : Claim7 := { stood := { row := aggNumbersRow, standIns := [], harness := (true, "bb31cd2aedfbcb72ccf4659a4e56677b24ac53514a5ad4e2d91aaec0f0ea63f8"), looks := true }, kinds := [], alts := [], laidByText := true, laidKinds := [.data, .data, .data, .sentinel, .sentinel], laidTests := true, laidLooks := .later }
def AggNumbersCardSaid : Prop := Claim7.holds Tryd.pinned (.plain (OpenSpec.ofChange aggNumbersSpec)) aggNumbersCard

/-- THE SECOND FORM's CARD OF 'sibyllaw15.AggNumbers'. -/
def aggNumbersUptoCard : Claim7 := { stood := { row := aggNumbersUptoRow, standIns := [], harness := (true, "bb31cd2aedfbcb72ccf4659a4e56677b24ac53514a5ad4e2d91aaec0f0ea63f8"), looks := true }, kinds := [], alts := [], laidByText := true, laidKinds := [.data, .data, .data, .sentinel, .sentinel], laidTests := true, laidLooks := .later }
def AggNumbersUptoCardSaid : Prop := Claim7.holds Tryd.pinned (.plain (OpenSpec.upto aggNumbersSpec)) aggNumbersUptoCard
end Rows
end Go.Proofs.YtcphalpcdcddpaaDoor
