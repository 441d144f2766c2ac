/-
  DERIVED. GIVEN WITH THE SEED: THE CARDS: each row of YtjfjcmecbebkjaaGreatDoorRows.lean that lists a variable, with what it lists TIED to the program's text (the seventh form; the later family's looks); each row that meets fmt, with fmt's text TOLD by the authors' own Lean function (tested against real Go, not proved from fmt's source: count such statements apart). THE CARD IS WHAT COUNTS. Prove the row's statement (the work); the ties are given (YtjfjcmecbebkjaaGreatDoorTie.lean); close each card by the builder's one call (the guide's Derived/Test/ToyasCard.lean, 'card_holds'). Laid BY PROGRAM, IN A SANDBOX (cutbox-door.mjs). By AI agents, Wed Nov 11 2026. No macro, syntax, notation, axiom, sorry.
-/
import Derived.Test.YtjfjcmecbebkjaaGreatDoorRows
import GoSem.ClaimSeven
namespace Go.Proofs.YtjfjcmecbebkjaaGreatDoor
namespace Rows

/-- THE TIED CARD OF 'lightshiplaw30.EndpointNone'. -/
def endpointNoneCard : Claim7 := { stood := { row := endpointNoneRow, standIns := [], harness := (true, "cf3dfe8c5a478f410aaf9c0bdcbe55c08ee6adf438938f599fd1f7f5f6078624"), looks := true }, kinds := [], alts := [], laidByText := true, laidKinds := [.data, .pinned], laidTests := true, laidLooks := .later }
def EndpointNoneCardSaid : Prop := Claim7.holds Tryz.pinned (.plain (OpenSpec.ofChange endpointNoneSpec)) endpointNoneCard

/-- THE SECOND FORM's CARD OF 'lightshiplaw30.EndpointNone'. -/
def endpointNoneUptoCard : Claim7 := { stood := { row := endpointNoneUptoRow, standIns := [], harness := (true, "cf3dfe8c5a478f410aaf9c0bdcbe55c08ee6adf438938f599fd1f7f5f6078624"), looks := true }, kinds := [], alts := [], laidByText := true, laidKinds := [.data, .pinned], laidTests := true, laidLooks := .later }
def EndpointNoneUptoCardSaid : Prop := Claim7.holds Tryz.pinned (.plain (OpenSpec.upto endpointNoneSpec)) endpointNoneUptoCard
end Rows
end Go.Proofs.YtjfjcmecbebkjaaGreatDoor
