/-
  DERIVED. GIVEN WITH THE SEED: THE CARDS: each row of YtiahoioaklpnlaaGreatDoorRows.lean that lists a variable, with what it lists TIED to the program's text (the seventh form; the later family's looks); each row that meets fmt, with fmt's text TOLD by the authors' own Lean function (tested against real Go, not proved from fmt's source: count such statements apart). THE CARD IS WHAT COUNTS. Prove the row's statement (the work); the ties are given (YtiahoioaklpnlaaGreatDoorTie.lean); close each card by the builder's one call (the guide's Derived/Test/ToyasCard.lean, 'card_holds'). Laid BY PROGRAM, IN A SANDBOX (cutbox-door.mjs). By AI agents, Wed Nov 11 2026. No macro, syntax, notation, axiom, sorry.
-/
import Derived.Test.YtiahoioaklpnlaaGreatDoorRows
import GoSem.ClaimSeven
namespace Go.Proofs.YtiahoioaklpnlaaGreatDoor
namespace Rows

/-- THE TIED CARD OF 'falseworklaw22.ExecRefuses'. -/
def execRefusesCard : Claim7 := { stood := { row := execRefusesRow, standIns := [], harness := (true, "669a2ce63cb55f7a947eb5c4a9c29f50252152d86e39ae66fdfabf243453b2b4"), looks := true }, kinds := [], alts := [], laidByText := true, laidKinds := [.listed, .data], laidTests := true, laidLooks := .later }
def ExecRefusesCardSaid : Prop := Claim7.holds Tryz.pinned (.plain (OpenSpec.ofChange execRefusesSpec)) execRefusesCard

/-- THE TIED CARD OF 'falseworklaw22.ExecPending'. -/
def execPendingCard : Claim7 := { stood := { row := execPendingRow, standIns := [], harness := (true, "669a2ce63cb55f7a947eb5c4a9c29f50252152d86e39ae66fdfabf243453b2b4"), looks := true }, kinds := [], alts := [], laidByText := true, laidKinds := [.listed, .data], laidTests := true, laidLooks := .later }
def ExecPendingCardSaid : Prop := Claim7.holds Tryz.pinned (.plain (OpenSpec.ofChange execPendingSpec)) execPendingCard

/-- THE SECOND FORM's CARD OF 'falseworklaw22.ExecRefuses'. -/
def execRefusesUptoCard : Claim7 := { stood := { row := execRefusesUptoRow, standIns := [], harness := (true, "669a2ce63cb55f7a947eb5c4a9c29f50252152d86e39ae66fdfabf243453b2b4"), looks := true }, kinds := [], alts := [], laidByText := true, laidKinds := [.listed, .data], laidTests := true, laidLooks := .later }
def ExecRefusesUptoCardSaid : Prop := Claim7.holds Tryz.pinned (.plain (OpenSpec.upto execRefusesSpec)) execRefusesUptoCard

/-- THE SECOND FORM's CARD OF 'falseworklaw22.ExecPending'. -/
def execPendingUptoCard : Claim7 := { stood := { row := execPendingUptoRow, standIns := [], harness := (true, "669a2ce63cb55f7a947eb5c4a9c29f50252152d86e39ae66fdfabf243453b2b4"), looks := true }, kinds := [], alts := [], laidByText := true, laidKinds := [.listed, .data], laidTests := true, laidLooks := .later }
def ExecPendingUptoCardSaid : Prop := Claim7.holds Tryz.pinned (.plain (OpenSpec.upto execPendingSpec)) execPendingUptoCard
end Rows
end Go.Proofs.YtiahoioaklpnlaaGreatDoor
