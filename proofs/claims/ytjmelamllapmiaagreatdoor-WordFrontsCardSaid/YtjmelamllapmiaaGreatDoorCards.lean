/-
  DERIVED. GIVEN WITH THE SEED: THE CARDS: each row of YtjmelamllapmiaaGreatDoorRows.lean that lists a variable, with what it lists TIED to the program's text (the seventh form; the later family's looks); each row that meets fmt, with fmt's text TOLD by the authors' own Lean function (tested against real Go, not proved from fmt's source: count such statements apart). THE CARD IS WHAT COUNTS. Prove the row's statement (the work); the ties are given (YtjmelamllapmiaaGreatDoorTie.lean); close each card by the builder's one call (the guide's Derived/Test/ToyasCard.lean, 'card_holds'). Laid BY PROGRAM, IN A SANDBOX (cutbox-door.mjs). By AI agents, Wed Nov 11 2026. No macro, syntax, notation, axiom, sorry.
-/
import Derived.Test.YtjmelamllapmiaaGreatDoorRows
import GoSem.ClaimSeven
namespace Go.Proofs.YtjmelamllapmiaaGreatDoor
namespace Rows

/-- THE TIED CARD OF 'posternlaw03.WordFronts'. -/
def wordFrontsCard : Claim7 := { stood := { row := wordFrontsRow, standIns := [], harness := (true, "32f5b06194d6379510de191a2170bd2205ecde0f5193db5b2a66bc8f7418004a"), looks := true }, kinds := [], alts := [], laidByText := true, laidKinds := [.data, .data, .data, .sentinel, .sentinel], laidTests := true, laidLooks := .later }
def WordFrontsCardSaid : Prop := Claim7.holds Tryz.pinned (.plain (OpenSpec.ofChange wordFrontsSpec)) wordFrontsCard

/-- THE TIED CARD OF 'posternlaw17.LangReads'. -/
def langReadsCard : Claim7 := { stood := { row := langReadsRow, standIns := [], harness := (true, "32f5b06194d6379510de191a2170bd2205ecde0f5193db5b2a66bc8f7418004a"), looks := true }, kinds := [], alts := [], laidByText := true, laidKinds := [.data, .data, .data, .sentinel, .sentinel], laidTests := true, laidLooks := .later }
def LangReadsCardSaid : Prop := Claim7.holds Tryz.pinned (.plain (OpenSpec.ofChange langReadsSpec)) langReadsCard

/-- THE TIED CARD OF 'posternlaw17.LangTells'. -/
def langTellsCard : Claim7 := { stood := { row := langTellsRow, standIns := [], harness := (true, "32f5b06194d6379510de191a2170bd2205ecde0f5193db5b2a66bc8f7418004a"), looks := true }, kinds := [], alts := [], laidByText := true, laidKinds := [.data, .data, .data, .sentinel, .sentinel], laidTests := true, laidLooks := .later }
def LangTellsCardSaid : Prop := Claim7.holds Tryz.pinned (.plain (OpenSpec.ofChange langTellsSpec)) langTellsCard

/-- THE TIED CARD OF 'posternlaw17.LangFronts'. -/
def langFrontsCard : Claim7 := { stood := { row := langFrontsRow, standIns := [], harness := (true, "32f5b06194d6379510de191a2170bd2205ecde0f5193db5b2a66bc8f7418004a"), looks := true }, kinds := [], alts := [], laidByText := true, laidKinds := [.data, .data, .data, .sentinel, .sentinel], laidTests := true, laidLooks := .later }
def LangFrontsCardSaid : Prop := Claim7.holds Tryz.pinned (.plain (OpenSpec.ofChange langFrontsSpec)) langFrontsCard

/-- THE TIED CARD OF 'posternlaw17.LangGoes'. -/
def langGoesCard : Claim7 := { stood := { row := langGoesRow, standIns := [], harness := (true, "32f5b06194d6379510de191a2170bd2205ecde0f5193db5b2a66bc8f7418004a"), looks := true }, kinds := [], alts := [], laidByText := true, laidKinds := [.data, .data, .data, .sentinel, .sentinel], laidTests := true, laidLooks := .later }
def LangGoesCardSaid : Prop := Claim7.holds Tryz.pinned (.plain (OpenSpec.ofChange langGoesSpec)) langGoesCard

/-- THE TIED CARD OF 'posternlaw17.LangExprs'. -/
def langExprsCard : Claim7 := { stood := { row := langExprsRow, standIns := [], harness := (true, "32f5b06194d6379510de191a2170bd2205ecde0f5193db5b2a66bc8f7418004a"), looks := true }, kinds := [], alts := [], laidByText := true, laidKinds := [.data, .data, .data, .data, .sentinel, .sentinel, .pinned], laidTests := true, laidLooks := .later }
def LangExprsCardSaid : Prop := Claim7.holds Tryz.pinned (.plain (OpenSpec.ofChange langExprsSpec)) langExprsCard

/-- THE SECOND FORM's CARD OF 'posternlaw03.WordFronts'. -/
def wordFrontsUptoCard : Claim7 := { stood := { row := wordFrontsUptoRow, standIns := [], harness := (true, "32f5b06194d6379510de191a2170bd2205ecde0f5193db5b2a66bc8f7418004a"), looks := true }, kinds := [], alts := [], laidByText := true, laidKinds := [.data, .data, .data, .sentinel, .sentinel], laidTests := true, laidLooks := .later }
def WordFrontsUptoCardSaid : Prop := Claim7.holds Tryz.pinned (.plain (OpenSpec.upto wordFrontsSpec)) wordFrontsUptoCard

/-- THE SECOND FORM's CARD OF 'posternlaw17.LangReads'. -/
def langReadsUptoCard : Claim7 := { stood := { row := langReadsUptoRow, standIns := [], harness := (true, "32f5b06194d6379510de191a2170bd2205ecde0f5193db5b2a66bc8f7418004a"), looks := true }, kinds := [], alts := [], laidByText := true, laidKinds := [.data, .data, .data, .sentinel, .sentinel], laidTests := true, laidLooks := .later }
def LangReadsUptoCardSaid : Prop := Claim7.holds Tryz.pinned (.plain (OpenSpec.upto langReadsSpec)) langReadsUptoCard

/-- THE SECOND FORM's CARD OF 'posternlaw17.LangTells'. -/
def langTellsUptoCard : Claim7 := { stood := { row := langTellsUptoRow, standIns := [], harness := (true, "32f5b06194d6379510de191a2170bd2205ecde0f5193db5b2a66bc8f7418004a"), looks := true }, kinds := [], alts := [], laidByText := true, laidKinds := [.data, .data, .data, .sentinel, .sentinel], laidTests := true, laidLooks := .later }
def LangTellsUptoCardSaid : Prop := Claim7.holds Tryz.pinned (.plain (OpenSpec.upto langTellsSpec)) langTellsUptoCard

/-- THE SECOND FORM's CARD OF 'posternlaw17.LangFronts'. -/
def langFrontsUptoCard : Claim7 := { stood := { row := langFrontsUptoRow, standIns := [], harness := (true, "32f5b06194d6379510de191a2170bd2205ecde0f5193db5b2a66bc8f7418004a"), looks := true }, kinds := [], alts := [], laidByText := true, laidKinds := [.data, .data, .data, .sentinel, .sentinel], laidTests := true, laidLooks := .later }
def LangFrontsUptoCardSaid : Prop := Claim7.holds Tryz.pinned (.plain (OpenSpec.upto langFrontsSpec)) langFrontsUptoCard

/-- THE SECOND FORM's CARD OF 'posternlaw17.LangGoes'. -/
def langGoesUptoCard : Claim7 := { stood := { row := langGoesUptoRow, standIns := [], harness := (true, "32f5b06194d6379510de191a2170bd2205ecde0f5193db5b2a66bc8f7418004a"), looks := true }, kinds := [], alts := [], laidByText := true, laidKinds := [.data, .data, .data, .sentinel, .sentinel], laidTests := true, laidLooks := .later }
def LangGoesUptoCardSaid : Prop := Claim7.holds Tryz.pinned (.plain (OpenSpec.upto langGoesSpec)) langGoesUptoCard

/-- THE SECOND FORM's CARD OF 'posternlaw17.LangExprs'. -/
def langExprsUptoCard : Claim7 := { stood := { row := langExprsUptoRow, standIns := [], harness := (true, "32f5b06194d6379510de191a2170bd2205ecde0f5193db5b2a66bc8f7418004a"), looks := true }, kinds := [], alts := [], laidByText := true, laidKinds := [.data, .data, .data, .data, .sentinel, .sentinel, .pinned], laidTests := true, laidLooks := .later }
def LangExprsUptoCardSaid : Prop := Claim7.holds Tryz.pinned (.plain (OpenSpec.upto langExprsSpec)) langExprsUptoCard
end Rows
end Go.Proofs.YtjmelamllapmiaaGreatDoor
