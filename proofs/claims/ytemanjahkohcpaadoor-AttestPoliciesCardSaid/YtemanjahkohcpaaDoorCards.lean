/-
  DERIVED. GIVEN WITH THE SEED: THE CARDS: each row of YtemanjahkohcpaaDoorRows.lean that lists a variable, with what it lists TIED to the program's text (the seventh form; the later family's looks); each row that meets fmt, with fmt's text TOLD by the authors' own Lean function (tested against real Go, not proved from fmt's source: count such statements apart). THE CARD IS WHAT COUNTS. Prove the row's statement (the work); the ties are given (YtemanjahkohcpaaDoorTie.lean); close each card by the builder's one call (the guide's Derived/Test/ToyasCard.lean, 'card_holds'). Laid BY PROGRAM, IN A SANDBOX (cutbox-door.mjs). By AI agents, Wed Nov 11 2026. No macro, syntax, notation, axiom, sorry.
-/
import Derived.Test.YtemanjahkohcpaaDoorRows
import GoSem.ClaimSeven
namespace Go.Proofs.YtemanjahkohcpaaDoor
namespace Rows

/-- THE TIED CARD OF 'wardenlaw16.AttestMacs'. -/
def attestMacsCard : Claim7 := { stood := { row := attestMacsRow, standIns := [], harness := (true, "692e4270ea216d83b21839f10c163ac72741cd13b19069492d62281de96ce044"), looks := true }, kinds := [], alts := [], laidByText := true, laidKinds := [.data], laidTests := true, laidLooks := .later }
def AttestMacsCardSaid : Prop := Claim7.holds Tryd.pinned (.plain (OpenSpec.ofChange attestMacsSpec)) attestMacsCard

/-- THE TIED CARD OF 'wardenlaw16.AttestJudges'. -/
def attestJudgesCard : Claim7 := { stood := { row := attestJudgesRow, standIns := [], harness := (true, "692e4270ea216d83b21839f10c163ac72741cd13b19069492d62281de96ce044"), looks := true }, kinds := [], alts := [], laidByText := true, laidKinds := [.data], laidTests := true, laidLooks := .later }
def AttestJudgesCardSaid : Prop := Claim7.holds Tryd.pinned (.plain (OpenSpec.ofChange attestJudgesSpec)) attestJudgesCard

/-- THE TIED CARD OF 'wardenlaw16.AttestBack'. -/
def attestBackCard : Claim7 := { stood := { row := attestBackRow, standIns := [], harness := (true, "692e4270ea216d83b21839f10c163ac72741cd13b19069492d62281de96ce044"), looks := true }, kinds := [], alts := [], laidByText := true, laidKinds := [.data, .sentinel, .pinned], laidTests := true, laidLooks := .later }
def AttestBackCardSaid : Prop := Claim7.holds Tryd.pinned (.plain (OpenSpec.ofChange attestBackSpec)) attestBackCard

/-- THE TIED CARD OF 'wardenlaw16.AttestTags'. -/
def attestTagsCard : Claim7 := { stood := { row := attestTagsRow, standIns := [], harness := (true, "692e4270ea216d83b21839f10c163ac72741cd13b19069492d62281de96ce044"), looks := true }, kinds := [], alts := [], laidByText := true, laidKinds := [.data, .data, .data, .sentinel, .pinned], laidTests := true, laidLooks := .later }
def AttestTagsCardSaid : Prop := Claim7.holds Tryd.pinned (.plain (OpenSpec.ofChange attestTagsSpec)) attestTagsCard

/-- THE TIED CARD OF 'wardenlaw16.AttestPolicies'. -/
def attestPoliciesCard : Claim7 := { stood := { row := attestPoliciesRow, standIns := [], harness := (true, "692e4270ea216d83b21839f10c163ac72741cd13b19069492d62281de96ce044"), looks := true }, kinds := [], alts := [], laidByText := true, laidKinds := [.data, .sentinel, .sentinel, .sentinel, .pinned], laidTests := true, laidLooks := .later }
def AttestPoliciesCardSaid : Prop := Claim7.holds Tryd.pinned (.plain (OpenSpec.ofChange attestPoliciesSpec)) attestPoliciesCard

/-- THE SECOND FORM's CARD OF 'wardenlaw16.AttestMacs'. -/
def attestMacsUptoCard : Claim7 := { stood := { row := attestMacsUptoRow, standIns := [], harness := (true, "692e4270ea216d83b21839f10c163ac72741cd13b19069492d62281de96ce044"), looks := true }, kinds := [], alts := [], laidByText := true, laidKinds := [.data], laidTests := true, laidLooks := .later }
def AttestMacsUptoCardSaid : Prop := Claim7.holds Tryd.pinned (.plain (OpenSpec.upto attestMacsSpec)) attestMacsUptoCard

/-- THE SECOND FORM's CARD OF 'wardenlaw16.AttestJudges'. -/
def attestJudgesUptoCard : Claim7 := { stood := { row := attestJudgesUptoRow, standIns := [], harness := (true, "692e4270ea216d83b21839f10c163ac72741cd13b19069492d62281de96ce044"), looks := true }, kinds := [], alts := [], laidByText := true, laidKinds := [.data], laidTests := true, laidLooks := .later }
def AttestJudgesUptoCardSaid : Prop := Claim7.holds Tryd.pinned (.plain (OpenSpec.upto attestJudgesSpec)) attestJudgesUptoCard

/-- THE SECOND FORM's CARD OF 'wardenlaw16.AttestBack'. -/
def attestBackUptoCard : Claim7 := { stood := { row := attestBackUptoRow, standIns := [], harness := (true, "692e4270ea216d83b21839f10c163ac72741cd13b19069492d62281de96ce044"), looks := true }, kinds := [], alts := [], laidByText := true, laidKinds := [.data, .sentinel, .pinned], laidTests := true, laidLooks := .later }
def AttestBackUptoCardSaid : Prop := Claim7.holds Tryd.pinned (.plain (OpenSpec.upto attestBackSpec)) attestBackUptoCard

/-- THE SECOND FORM's CARD OF 'wardenlaw16.AttestTags'. -/
def attestTagsUptoCard : Claim7 := { stood := { row := attestTagsUptoRow, standIns := [], harness := (true, "692e4270ea216d83b21839f10c163ac72741cd13b19069492d62281de96ce044"), looks := true }, kinds := [], alts := [], laidByText := true, laidKinds := [.data, .data, .data, .sentinel, .pinned], laidTests := true, laidLooks := .later }
def AttestTagsUptoCardSaid : Prop := Claim7.holds Tryd.pinned (.plain (OpenSpec.upto attestTagsSpec)) attestTagsUptoCard

/-- THE SECOND FORM's CARD OF 'wardenlaw16.AttestPolicies'. -/
def attestPoliciesUptoCard : Claim7 := { stood := { row := attestPoliciesUptoRow, standIns := [], harness := (true, "692e4270ea216d83b21839f10c163ac72741cd13b19069492d62281de96ce044"), looks := true }, kinds := [], alts := [], laidByText := true, laidKinds := [.data, .sentinel, .sentinel, .sentinel, .pinned], laidTests := true, laidLooks := .later }
def AttestPoliciesUptoCardSaid : Prop := Claim7.holds Tryd.pinned (.plain (OpenSpec.upto attestPoliciesSpec)) attestPoliciesUptoCard
end Rows
end Go.Proofs.YtemanjahkohcpaaDoor
