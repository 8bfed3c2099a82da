/-
  DERIVED. GIVEN WITH THE SEED: THE CARDS: each row of YtgliajcgcbnemaaGreatDoorRows.lean that lists a variable, with what it lists TIED to the program's text (the seventh form; the later family's looks); each row that meets fmt, with fmt's text TOLD by the authors' own Lean function (tested against real Go, not proved from fmt's source: count such statements apart). THE CARD IS WHAT COUNTS. Prove the row's statement (the work); the ties are given (YtgliajcgcbnemaaGreatDoorTie.lean); close each card by the builder's one call (the guide's Derived/Test/ToyasCard.lean, 'card_holds'). Laid BY PROGRAM, IN A SANDBOX (cutbox-door.mjs). By AI agents, Wed Nov 11 2026. No macro, syntax, notation, axiom, sorry.
-/
import Derived.Test.YtgliajcgcbnemaaGreatDoorRows
import GoSem.ClaimSeven
namespace Go.Proofs.YtgliajcgcbnemaaGreatDoor
namespace Rows

/-- THE TIED CARD OF 'laws.FnExactSizeOf'. -/
def fnExactSizeOfCard : Claim7 := { stood := { row := fnExactSizeOfRow, standIns := [], harness := (true, "1f04a45ca70bc4fcde536213e626ea6ba2d4db9fb91a90b485dee17a22e81f42"), looks := true }, kinds := [], alts := [], laidByText := true, laidKinds := [.data, .pinned], laidTests := true, laidLooks := .later }
def FnExactSizeOfCardSaid : Prop := Claim7.holds Tryz.pinned (.plain (OpenSpec.ofChange fnExactSizeOfSpec)) fnExactSizeOfCard

/-- THE TIED CARD OF 'laws.FnExactElementsOf'. -/
def fnExactElementsOfCard : Claim7 := { stood := { row := fnExactElementsOfRow, standIns := [], harness := (true, "1f04a45ca70bc4fcde536213e626ea6ba2d4db9fb91a90b485dee17a22e81f42"), looks := true }, kinds := [], alts := [], laidByText := true, laidKinds := [.data, .pinned], laidTests := true, laidLooks := .later }
def FnExactElementsOfCardSaid : Prop := Claim7.holds Tryz.pinned (.plain (OpenSpec.ofChange fnExactElementsOfSpec)) fnExactElementsOfCard

/-- THE TIED CARD OF 'laws.FnExactLengthCounts'. -/
def fnExactLengthCountsCard : Claim7 := { stood := { row := fnExactLengthCountsRow, standIns := [], harness := (true, "1f04a45ca70bc4fcde536213e626ea6ba2d4db9fb91a90b485dee17a22e81f42"), looks := true }, kinds := [], alts := [], laidByText := true, laidKinds := [.data, .pinned], laidTests := true, laidLooks := .later }
def FnExactLengthCountsCardSaid : Prop := Claim7.holds Tryz.pinned (.plain (OpenSpec.ofChange fnExactLengthCountsSpec)) fnExactLengthCountsCard

/-- THE TIED CARD OF 'laws.FnInversions'. -/
def fnInversionsCard : Claim7 := { stood := { row := fnInversionsRow, standIns := [], harness := (true, "1f04a45ca70bc4fcde536213e626ea6ba2d4db9fb91a90b485dee17a22e81f42"), looks := true }, kinds := [], alts := [], laidByText := true, laidKinds := [.data, .data, .data], laidTests := true, laidLooks := .later }
def FnInversionsCardSaid : Prop := Claim7.holds Tryz.pinned (.plain (OpenSpec.ofChange fnInversionsSpec)) fnInversionsCard

/-- THE TIED CARD OF 'laws.FnWeights'. -/
def fnWeightsCard : Claim7 := { stood := { row := fnWeightsRow, standIns := [], harness := (true, "1f04a45ca70bc4fcde536213e626ea6ba2d4db9fb91a90b485dee17a22e81f42"), looks := true }, kinds := [], alts := [], laidByText := true, laidKinds := [.data, .data, .data, .data, .sentinel, .sentinel, .pinned], laidTests := true, laidLooks := .later }
def FnWeightsCardSaid : Prop := Claim7.holds Tryz.pinned (.plain (OpenSpec.ofChange fnWeightsSpec)) fnWeightsCard

/-- THE SECOND FORM's CARD OF 'laws.FnExactSizeOf'. -/
def fnExactSizeOfUptoCard : Claim7 := { stood := { row := fnExactSizeOfUptoRow, standIns := [], harness := (true, "1f04a45ca70bc4fcde536213e626ea6ba2d4db9fb91a90b485dee17a22e81f42"), looks := true }, kinds := [], alts := [], laidByText := true, laidKinds := [.data, .pinned], laidTests := true, laidLooks := .later }
def FnExactSizeOfUptoCardSaid : Prop := Claim7.holds Tryz.pinned (.plain (OpenSpec.upto fnExactSizeOfSpec)) fnExactSizeOfUptoCard

/-- THE SECOND FORM's CARD OF 'laws.FnExactElementsOf'. -/
def fnExactElementsOfUptoCard : Claim7 := { stood := { row := fnExactElementsOfUptoRow, standIns := [], harness := (true, "1f04a45ca70bc4fcde536213e626ea6ba2d4db9fb91a90b485dee17a22e81f42"), looks := true }, kinds := [], alts := [], laidByText := true, laidKinds := [.data, .pinned], laidTests := true, laidLooks := .later }
def FnExactElementsOfUptoCardSaid : Prop := Claim7.holds Tryz.pinned (.plain (OpenSpec.upto fnExactElementsOfSpec)) fnExactElementsOfUptoCard

/-- THE SECOND FORM's CARD OF 'laws.FnExactLengthCounts'. -/
def fnExactLengthCountsUptoCard : Claim7 := { stood := { row := fnExactLengthCountsUptoRow, standIns := [], harness := (true, "1f04a45ca70bc4fcde536213e626ea6ba2d4db9fb91a90b485dee17a22e81f42"), looks := true }, kinds := [], alts := [], laidByText := true, laidKinds := [.data, .pinned], laidTests := true, laidLooks := .later }
def FnExactLengthCountsUptoCardSaid : Prop := Claim7.holds Tryz.pinned (.plain (OpenSpec.upto fnExactLengthCountsSpec)) fnExactLengthCountsUptoCard

/-- THE SECOND FORM's CARD OF 'laws.FnInversions'. -/
def fnInversionsUptoCard : Claim7 := { stood := { row := fnInversionsUptoRow, standIns := [], harness := (true, "1f04a45ca70bc4fcde536213e626ea6ba2d4db9fb91a90b485dee17a22e81f42"), looks := true }, kinds := [], alts := [], laidByText := true, laidKinds := [.data, .data, .data], laidTests := true, laidLooks := .later }
def FnInversionsUptoCardSaid : Prop := Claim7.holds Tryz.pinned (.plain (OpenSpec.upto fnInversionsSpec)) fnInversionsUptoCard

/-- THE SECOND FORM's CARD OF 'laws.FnWeights'. -/
def fnWeightsUptoCard : Claim7 := { stood := { row := fnWeightsUptoRow, standIns := [], harness := (true, "1f04a45ca70bc4fcde536213e626ea6ba2d4db9fb91a90b485dee17a22e81f42"), looks := true }, kinds := [], alts := [], laidByText := true, laidKinds := [.data, .data, .data, .data, .sentinel, .sentinel, .pinned], laidTests := true, laidLooks := .later }
def FnWeightsUptoCardSaid : Prop := Claim7.holds Tryz.pinned (.plain (OpenSpec.upto fnWeightsSpec)) fnWeightsUptoCard
end Rows
end Go.Proofs.YtgliajcgcbnemaaGreatDoor
