/-
  DERIVED. GIVEN WITH THE SEED: THE CARDS: each row of YtgeebjjejoomfaaGreatDoorRows.lean that lists a variable, with what it lists TIED to the program's text (the seventh form; the later family's looks); each row that meets fmt, with fmt's text TOLD by the authors' own Lean function (tested against real Go, not proved from fmt's source: count such statements apart). THE CARD IS WHAT COUNTS. Prove the row's statement (the work); the ties are given (YtgeebjjejoomfaaGreatDoorTie.lean); close each card by the builder's one call (the guide's Derived/Test/ToyasCard.lean, 'card_holds'). Laid BY PROGRAM, IN A SANDBOX (cutbox-door.mjs). By AI agents, Wed Nov 11 2026. No macro, syntax, notation, axiom, sorry.
-/
import Derived.Test.YtgeebjjejoomfaaGreatDoorRows
import GoSem.ClaimSeven
namespace Go.Proofs.YtgeebjjejoomfaaGreatDoor
namespace Rows

/-- THE TIED CARD OF 'caltroplaw19.PumpNone'. -/
def pumpNoneCard : Claim7 := { stood := { row := pumpNoneRow, standIns := [], harness := (true, "4268369e5d7a69f545f6628819aff99ec36cb42104975fcc706fb571dfbb550d"), looks := false }, kinds := [], alts := [], laidByText := true, laidKinds := [.data], laidTests := true, laidLooks := .later }
def PumpNoneCardSaid : Prop := Claim7.holds Tryz.pinned (.plain (OpenSpec.ofChange pumpNoneSpec)) pumpNoneCard

/-- THE SECOND FORM's CARD OF 'caltroplaw19.PumpNone'. -/
def pumpNoneUptoCard : Claim7 := { stood := { row := pumpNoneUptoRow, standIns := [], harness := (true, "4268369e5d7a69f545f6628819aff99ec36cb42104975fcc706fb571dfbb550d"), looks := false }, kinds := [], alts := [], laidByText := true, laidKinds := [.data], laidTests := true, laidLooks := .later }
def PumpNoneUptoCardSaid : Prop := Claim7.holds Tryz.pinned (.plain (OpenSpec.upto pumpNoneSpec)) pumpNoneUptoCard
end Rows
end Go.Proofs.YtgeebjjejoomfaaGreatDoor
