/-
  DERIVED. GIVEN WITH THE SEED: THE CARDS: each row of YtemanjahkohcpaaGreatDoorRows.lean that lists a variable, with what it lists TIED to the program's text (the seventh form; the later family's looks); each row that meets fmt, with fmt's text TOLD by the authors' own Lean function (tested against real Go, not proved from fmt's source: count such statements apart). THE CARD IS WHAT COUNTS. Prove the row's statement (the work); the ties are given (YtemanjahkohcpaaGreatDoorTie.lean); close each card by the builder's one call (the guide's Derived/Test/ToyasCard.lean, 'card_holds'). Laid BY PROGRAM, IN A SANDBOX (cutbox-door.mjs). By AI agents, Wed Nov 11 2026. No macro, syntax, notation, axiom, sorry.
-/
import Derived.Test.YtemanjahkohcpaaGreatDoorRows
import GoSem.ClaimSeven
namespace Go.Proofs.YtemanjahkohcpaaGreatDoor
namespace Rows

/-- THE TIED CARD OF 'wardenlaw16.AttestAll'. -/
def attestAllCard : Claim7 := { stood := { row := attestAllRow, standIns := [], harness := (true, "823e2a41c2cec98c7a70f93ae7e3f3366e18c2158c24bac7b9f8aa10d5297e57"), looks := true }, kinds := [], alts := [], laidByText := true, laidKinds := [.data, .data, .data, .sentinel, .sentinel, .sentinel, .pinned], laidTests := true, laidLooks := .later }
def AttestAllCardSaid : Prop := Claim7.holds Tryz.pinned (.plain (OpenSpec.ofChange attestAllSpec)) attestAllCard

/-- THE SECOND FORM's CARD OF 'wardenlaw16.AttestAll'. -/
def attestAllUptoCard : Claim7 := { stood := { row := attestAllUptoRow, standIns := [], harness := (true, "823e2a41c2cec98c7a70f93ae7e3f3366e18c2158c24bac7b9f8aa10d5297e57"), looks := true }, kinds := [], alts := [], laidByText := true, laidKinds := [.data, .data, .data, .sentinel, .sentinel, .sentinel, .pinned], laidTests := true, laidLooks := .later }
def AttestAllUptoCardSaid : Prop := Claim7.holds Tryz.pinned (.plain (OpenSpec.upto attestAllSpec)) attestAllUptoCard
end Rows
end Go.Proofs.YtemanjahkohcpaaGreatDoor
