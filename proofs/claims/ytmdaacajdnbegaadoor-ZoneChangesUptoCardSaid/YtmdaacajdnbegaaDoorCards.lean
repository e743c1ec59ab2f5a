/-
  DERIVED. GIVEN WITH THE SEED: THE CARDS: each row of YtmdaacajdnbegaaDoorRows.lean that lists a variable, with what it lists TIED to the program's text (the seventh form; the later family's looks); each row that meets fmt, with fmt's text TOLD by the authors' own Lean function (tested against real Go, not proved from fmt's source: count such statements apart). THE CARD IS WHAT COUNTS. Prove the row's statement (the work); the ties are given (YtmdaacajdnbegaaDoorTie.lean); close each card by the builder's one call (the guide's Derived/Test/ToyasCard.lean, 'card_holds'). Laid BY PROGRAM, IN A SANDBOX (cutbox-door.mjs). By AI agents, Wed Nov 11 2026. No macro, syntax, notation, axiom, sorry.
-/
import Derived.Test.YtmdaacajdnbegaaDoorRows
import GoSem.ClaimSeven
namespace Go.Proofs.YtmdaacajdnbegaaDoor
namespace Rows

/-- THE TIED CARD OF 'pinfoldlaw20.ZoneChanges'. -/
def zoneChangesCard : Claim7 := { stood := { row := zoneChangesRow, standIns := [], harness := (true, "155f1b034916c3f72e9dca1ad730d968bb57c4ce27e130eec171da2491692d93"), looks := false }, kinds := [], alts := [], laidByText := true, laidKinds := [.data, .data, .data, .data, .pinned], laidTests := true, laidLooks := .later }
def ZoneChangesCardSaid : Prop := Claim7.holds Tryd.pinned (.plain (OpenSpec.ofChange zoneChangesSpec)) zoneChangesCard

/-- THE TIED CARD OF 'pinfoldlaw20.ZoneSwept'. -/
def zoneSweptCard : Claim7 := { stood := { row := zoneSweptRow, standIns := [], harness := (true, "155f1b034916c3f72e9dca1ad730d968bb57c4ce27e130eec171da2491692d93"), looks := false }, kinds := [], alts := [], laidByText := true, laidKinds := [.data, .data, .data, .data, .pinned], laidTests := true, laidLooks := .later }
def ZoneSweptCardSaid : Prop := Claim7.holds Tryd.pinned (.plain (OpenSpec.ofChange zoneSweptSpec)) zoneSweptCard

/-- THE SECOND FORM's CARD OF 'pinfoldlaw20.ZoneChanges'. -/
def zoneChangesUptoCard : Claim7 := { stood := { row := zoneChangesUptoRow, standIns := [], harness := (true, "155f1b034916c3f72e9dca1ad730d968bb57c4ce27e130eec171da2491692d93"), looks := false }, kinds := [], alts := [], laidByText := true, laidKinds := [.data, .data, .data, .data, .pinned], laidTests := true, laidLooks := .later }
def ZoneChangesUptoCardSaid : Prop := Claim7.holds Tryd.pinned (.plain (OpenSpec.upto zoneChangesSpec)) zoneChangesUptoCard

/-- THE SECOND FORM's CARD OF 'pinfoldlaw20.ZoneSwept'. -/
def zoneSweptUptoCard : Claim7 := { stood := { row := zoneSweptUptoRow, standIns := [], harness := (true, "155f1b034916c3f72e9dca1ad730d968bb57c4ce27e130eec171da2491692d93"), looks := false }, kinds := [], alts := [], laidByText := true, laidKinds := [.data, .data, .data, .data, .pinned], laidTests := true, laidLooks := .later }
def ZoneSweptUptoCardSaid : Prop := Claim7.holds Tryd.pinned (.plain (OpenSpec.upto zoneSweptSpec)) zoneSweptUptoCard
end Rows
end Go.Proofs.YtmdaacajdnbegaaDoor
