/-
  DERIVED. GIVEN WITH THE SEED: THE CARDS: each row of YtefbogmgcihndaaDoorRows.lean that lists a variable, with what it lists TIED to the program's text (the seventh form; the later family's looks); each row that meets fmt, with fmt's text TOLD by the authors' own Lean function (tested against real Go, not proved from fmt's source: count such statements apart). THE CARD IS WHAT COUNTS. Prove the row's statement (the work); the ties are given (YtefbogmgcihndaaDoorTie.lean); close each card by the builder's one call (the guide's Derived/Test/ToyasCard.lean, 'card_holds'). Laid BY PROGRAM, IN A SANDBOX (cutbox-door.mjs). By AI agents, Wed Nov 11 2026. No macro, syntax, notation, axiom, sorry.
-/
import Derived.Test.YtefbogmgcihndaaDoorRows
import GoSem.ClaimSeven
namespace Go.Proofs.YtefbogmgcihndaaDoor
namespace Rows

/-- THE TIED CARD OF 'wardenlaw04.TextWords'. -/
def textWordsCard : Claim7 := { stood := { row := textWordsRow, standIns := [], harness := (true, "918704af64da78d1c8665b5a9c1f5b0c184933c045febf5aafaf8e08178608ed"), looks := true }, kinds := [], alts := [], laidByText := true, laidKinds := [.data, .data, .data], laidTests := true, laidLooks := .later }
def TextWordsCardSaid : Prop := Claim7.holds Tryd.pinned (.plain (OpenSpec.ofChange textWordsSpec)) textWordsCard

/-- THE TIED CARD OF 'wardenlaw04.TextColumns'. -/
def textColumnsCard : Claim7 := { stood := { row := textColumnsRow, standIns := [], harness := (true, "918704af64da78d1c8665b5a9c1f5b0c184933c045febf5aafaf8e08178608ed"), looks := true }, kinds := [], alts := [], laidByText := true, laidKinds := [.data, .data, .data], laidTests := true, laidLooks := .later }
def TextColumnsCardSaid : Prop := Claim7.holds Tryd.pinned (.plain (OpenSpec.ofChange textColumnsSpec)) textColumnsCard

/-- THE TIED CARD OF 'wardenlaw04.TextKeeps'. -/
def textKeepsCard : Claim7 := { stood := { row := textKeepsRow, standIns := [], harness := (true, "918704af64da78d1c8665b5a9c1f5b0c184933c045febf5aafaf8e08178608ed"), looks := true }, kinds := [], alts := [], laidByText := true, laidKinds := [.data, .data, .data, .data, .pinned], laidTests := true, laidLooks := .later }
def TextKeepsCardSaid : Prop := Claim7.holds Tryd.pinned (.plain (OpenSpec.ofChange textKeepsSpec)) textKeepsCard

/-- THE TIED CARD OF 'wardenlaw04.TextBack'. -/
def textBackCard : Claim7 := { stood := { row := textBackRow, standIns := [], harness := (true, "918704af64da78d1c8665b5a9c1f5b0c184933c045febf5aafaf8e08178608ed"), looks := true }, kinds := [], alts := [], laidByText := true, laidKinds := [.data, .data, .data, .data, .sentinel, .sentinel, .pinned], laidTests := true, laidLooks := .later }
def TextBackCardSaid : Prop := Claim7.holds Tryd.pinned (.plain (OpenSpec.ofChange textBackSpec)) textBackCard

/-- THE SECOND FORM's CARD OF 'wardenlaw04.TextWords'. -/
def textWordsUptoCard : Claim7 := { stood := { row := textWordsUptoRow, standIns := [], harness := (true, "918704af64da78d1c8665b5a9c1f5b0c184933c045febf5aafaf8e08178608ed"), looks := true }, kinds := [], alts := [], laidByText := true, laidKinds := [.data, .data, .data], laidTests := true, laidLooks := .later }
def TextWordsUptoCardSaid : Prop := Claim7.holds Tryd.pinned (.plain (OpenSpec.upto textWordsSpec)) textWordsUptoCard

/-- THE SECOND FORM's CARD OF 'wardenlaw04.TextColumns'. -/
def textColumnsUptoCard : Claim7 := { stood := { row := textColumnsUptoRow, standIns := [], harness := (true, "918704af64da78d1c8665b5a9c1f5b0c184933c045febf5aafaf8e08178608ed"), looks := true }, kinds := [], alts := [], laidByText := true, laidKinds := [.data, .data, .data], laidTests := true, laidLooks := .later }
def TextColumnsUptoCardSaid : Prop := Claim7.holds Tryd.pinned (.plain (OpenSpec.upto textColumnsSpec)) textColumnsUptoCard

/-- THE SECOND FORM's CARD OF 'wardenlaw04.TextKeeps'. -/
def textKeepsUptoCard : Claim7 := { stood := { row := textKeepsUptoRow, standIns := [], harness := (true, "918704af64da78d1c8665b5a9c1f5b0c184933c045febf5aafaf8e08178608ed"), looks := true }, kinds := [], alts := [], laidByText := true, laidKinds := [.data, .data, .data, .data, .pinned], laidTests := true, laidLooks := .later }
def TextKeepsUptoCardSaid : Prop := Claim7.holds Tryd.pinned (.plain (OpenSpec.upto textKeepsSpec)) textKeepsUptoCard

/-- THE SECOND FORM's CARD OF 'wardenlaw04.TextBack'. -/
def textBackUptoCard : Claim7 := { stood := { row := textBackUptoRow, standIns := [], harness := (true, "918704af64da78d1c8665b5a9c1f5b0c184933c045febf5aafaf8e08178608ed"), looks := true }, kinds := [], alts := [], laidByText := true, laidKinds := [.data, .data, .data, .data, .sentinel, .sentinel, .pinned], laidTests := true, laidLooks := .later }
def TextBackUptoCardSaid : Prop := Claim7.holds Tryd.pinned (.plain (OpenSpec.upto textBackSpec)) textBackUptoCard
end Rows
end Go.Proofs.YtefbogmgcihndaaDoor
