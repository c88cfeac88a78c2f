/-
  DERIVED. GIVEN WITH THE SEED: THE CARDS: each row of YtiknookfnameiaaGreatDoorRows.lean that lists a variable, with what it lists TIED to the program's text (the seventh form; the later family's looks); each row that meets fmt, with fmt's text TOLD by the authors' own Lean function (tested against real Go, not proved from fmt's source: count such statements apart). THE CARD IS WHAT COUNTS. Prove the row's statement (the work); the ties are given (YtiknookfnameiaaGreatDoorTie.lean); close each card by the builder's one call (the guide's Derived/Test/ToyasCard.lean, 'card_holds'). Laid BY PROGRAM, IN A SANDBOX (cutbox-door.mjs). By AI agents, Wed Nov 11 2026. No macro, syntax, notation, axiom, sorry.
-/
import Derived.Test.YtiknookfnameiaaGreatDoorRows
import GoSem.ClaimSeven
namespace Go.Proofs.YtiknookfnameiaaGreatDoor
namespace Rows

/-- THE TIED CARD OF 'wardenlaw06.AsmMoves'. -/
def asmMovesCard : Claim7 := { stood := { row := asmMovesRow, standIns := [], harness := (true, "c0a5009aa405efafb7251d5621da360d43d518b0a287784bd516b40102db6050"), looks := true }, kinds := [], alts := [], laidByText := true, laidKinds := [.data, .data, .data, .data, .data, .data, .handle, .sentinel, .sentinel, .pinned], laidTests := true, laidLooks := .later }
def AsmMovesCardSaid : Prop := Claim7.holds Tryz.pinned (.plain (OpenSpec.ofChange asmMovesSpec)) asmMovesCard

/-- THE TIED CARD OF 'wardenlaw06.AsmTexts'. -/
def asmTextsCard : Claim7 := { stood := { row := asmTextsRow, standIns := [], harness := (true, "c0a5009aa405efafb7251d5621da360d43d518b0a287784bd516b40102db6050"), looks := true }, kinds := [], alts := [], laidByText := true, laidKinds := [.data, .data, .data, .data, .data, .data, .data, .data, .data, .handle, .sentinel, .sentinel, .pinned], laidTests := true, laidLooks := .later }
def AsmTextsCardSaid : Prop := Claim7.holds Tryz.pinned (.plain (OpenSpec.ofChange asmTextsSpec)) asmTextsCard

/-- THE TIED CARD OF 'wardenlaw06.AsmLands'. -/
def asmLandsCard : Claim7 := { stood := { row := asmLandsRow, standIns := [], harness := (true, "c0a5009aa405efafb7251d5621da360d43d518b0a287784bd516b40102db6050"), looks := true }, kinds := [], alts := [], laidByText := true, laidKinds := [.data, .data, .data, .data, .data, .data, .handle, .sentinel, .sentinel, .pinned], laidTests := true, laidLooks := .later }
def AsmLandsCardSaid : Prop := Claim7.holds Tryz.pinned (.plain (OpenSpec.ofChange asmLandsSpec)) asmLandsCard

/-- THE TIED CARD OF 'wardenlaw06.AsmBack'. -/
def asmBackCard : Claim7 := { stood := { row := asmBackRow, standIns := [], harness := (true, "c0a5009aa405efafb7251d5621da360d43d518b0a287784bd516b40102db6050"), looks := true }, kinds := [], alts := [], laidByText := true, laidKinds := [.data, .data, .data, .data, .data, .data, .handle, .sentinel, .sentinel, .pinned], laidTests := true, laidLooks := .later }
def AsmBackCardSaid : Prop := Claim7.holds Tryz.pinned (.plain (OpenSpec.ofChange asmBackSpec)) asmBackCard

/-- THE TIED CARD OF 'wardenlaw06.AsmKeeps'. -/
def asmKeepsCard : Claim7 := { stood := { row := asmKeepsRow, standIns := [], harness := (true, "c0a5009aa405efafb7251d5621da360d43d518b0a287784bd516b40102db6050"), looks := true }, kinds := [], alts := [], laidByText := true, laidKinds := [.data, .data, .data, .data, .data, .data, .handle, .sentinel, .sentinel, .pinned], laidTests := true, laidLooks := .later }
def AsmKeepsCardSaid : Prop := Claim7.holds Tryz.pinned (.plain (OpenSpec.ofChange asmKeepsSpec)) asmKeepsCard

/-- THE SECOND FORM's CARD OF 'wardenlaw06.AsmMoves'. -/
def asmMovesUptoCard : Claim7 := { stood := { row := asmMovesUptoRow, standIns := [], harness := (true, "c0a5009aa405efafb7251d5621da360d43d518b0a287784bd516b40102db6050"), looks := true }, kinds := [], alts := [], laidByText := true, laidKinds := [.data, .data, .data, .data, .data, .data, .handle, .sentinel, .sentinel, .pinned], laidTests := true, laidLooks := .later }
def AsmMovesUptoCardSaid : Prop := Claim7.holds Tryz.pinned (.plain (OpenSpec.upto asmMovesSpec)) asmMovesUptoCard

/-- THE SECOND FORM's CARD OF 'wardenlaw06.AsmTexts'. -/
def asmTextsUptoCard : Claim7 := { stood := { row := asmTextsUptoRow, standIns := [], harness := (true, "c0a5009aa405efafb7251d5621da360d43d518b0a287784bd516b40102db6050"), looks := true }, kinds := [], alts := [], laidByText := true, laidKinds := [.data, .data, .data, .data, .data, .data, .data, .data, .data, .handle, .sentinel, .sentinel, .pinned], laidTests := true, laidLooks := .later }
def AsmTextsUptoCardSaid : Prop := Claim7.holds Tryz.pinned (.plain (OpenSpec.upto asmTextsSpec)) asmTextsUptoCard

/-- THE SECOND FORM's CARD OF 'wardenlaw06.AsmLands'. -/
def asmLandsUptoCard : Claim7 := { stood := { row := asmLandsUptoRow, standIns := [], harness := (true, "c0a5009aa405efafb7251d5621da360d43d518b0a287784bd516b40102db6050"), looks := true }, kinds := [], alts := [], laidByText := true, laidKinds := [.data, .data, .data, .data, .data, .data, .handle, .sentinel, .sentinel, .pinned], laidTests := true, laidLooks := .later }
def AsmLandsUptoCardSaid : Prop := Claim7.holds Tryz.pinned (.plain (OpenSpec.upto asmLandsSpec)) asmLandsUptoCard

/-- THE SECOND FORM's CARD OF 'wardenlaw06.AsmBack'. -/
def asmBackUptoCard : Claim7 := { stood := { row := asmBackUptoRow, standIns := [], harness := (true, "c0a5009aa405efafb7251d5621da360d43d518b0a287784bd516b40102db6050"), looks := true }, kinds := [], alts := [], laidByText := true, laidKinds := [.data, .data, .data, .data, .data, .data, .handle, .sentinel, .sentinel, .pinned], laidTests := true, laidLooks := .later }
def AsmBackUptoCardSaid : Prop := Claim7.holds Tryz.pinned (.plain (OpenSpec.upto asmBackSpec)) asmBackUptoCard

/-- THE SECOND FORM's CARD OF 'wardenlaw06.AsmKeeps'. -/
def asmKeepsUptoCard : Claim7 := { stood := { row := asmKeepsUptoRow, standIns := [], harness := (true, "c0a5009aa405efafb7251d5621da360d43d518b0a287784bd516b40102db6050"), looks := true }, kinds := [], alts := [], laidByText := true, laidKinds := [.data, .data, .data, .data, .data, .data, .handle, .sentinel, .sentinel, .pinned], laidTests := true, laidLooks := .later }
def AsmKeepsUptoCardSaid : Prop := Claim7.holds Tryz.pinned (.plain (OpenSpec.upto asmKeepsSpec)) asmKeepsUptoCard
end Rows
end Go.Proofs.YtiknookfnameiaaGreatDoor
