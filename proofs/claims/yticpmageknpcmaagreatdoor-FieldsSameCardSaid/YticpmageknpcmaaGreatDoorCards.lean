/-
  DERIVED. GIVEN WITH THE SEED: THE CARDS: each row of YticpmageknpcmaaGreatDoorRows.lean that lists a variable, with what it lists TIED to the program's text (the seventh form; the later family's looks); each row that meets fmt, with fmt's text TOLD by the authors' own Lean function (tested against real Go, not proved from fmt's source: count such statements apart). THE CARD IS WHAT COUNTS. Prove the row's statement (the work); the ties are given (YticpmageknpcmaaGreatDoorTie.lean); close each card by the builder's one call (the guide's Derived/Test/ToyasCard.lean, 'card_holds'). Laid BY PROGRAM, IN A SANDBOX (cutbox-door.mjs). By AI agents, Wed Nov 11 2026. No macro, syntax, notation, axiom, sorry.
-/
import Derived.Test.YticpmageknpcmaaGreatDoorRows
import GoSem.ClaimSeven
namespace Go.Proofs.YticpmageknpcmaaGreatDoor
namespace Rows

/-- THE TIED CARD OF 'lacquerlaw24.FieldsSame'. -/
def fieldsSameCard : Claim7 := { stood := { row := fieldsSameRow, standIns := [], harness := (true, "d010c5ab8d03988371df0b1ee5695c76c3573b4504e98de4c034dad773ad3899"), looks := false }, kinds := [], alts := [], laidByText := true, laidKinds := [.data, .data, .data, .pinned, .pinned], laidTests := true, laidLooks := .later }
def FieldsSameCardSaid : Prop := Claim7.holds Tryz.pinned (.plain (OpenSpec.ofChange fieldsSameSpec)) fieldsSameCard

/-- THE SECOND FORM's CARD OF 'lacquerlaw24.FieldsSame'. -/
def fieldsSameUptoCard : Claim7 := { stood := { row := fieldsSameUptoRow, standIns := [], harness := (true, "d010c5ab8d03988371df0b1ee5695c76c3573b4504e98de4c034dad773ad3899"), looks := false }, kinds := [], alts := [], laidByText := true, laidKinds := [.data, .data, .data, .pinned, .pinned], laidTests := true, laidLooks := .later }
def FieldsSameUptoCardSaid : Prop := Claim7.holds Tryz.pinned (.plain (OpenSpec.upto fieldsSameSpec)) fieldsSameUptoCard
end Rows
end Go.Proofs.YticpmageknpcmaaGreatDoor
