/-
  DERIVED. GIVEN WITH THE SEED: THE CARDS: each row of YtgliajcgcbnemaaDoorRows.lean that lists a variable, with what it lists TIED to the program's text (the seventh form; the later family's looks); each row that meets fmt, with fmt's text TOLD by the authors' own Lean function (tested against real Go, not proved from fmt's source: count such statements apart). THE CARD IS WHAT COUNTS. Prove the row's statement (the work); the ties are given (YtgliajcgcbnemaaDoorTie.lean); close each card by the builder's one call (the guide's Derived/Test/ToyasCard.lean, 'card_holds'). Laid BY PROGRAM, IN A SANDBOX (cutbox-door.mjs). By AI agents, Wed Nov 11 2026. No macro, syntax, notation, axiom, sorry.
-/
import Derived.Test.YtgliajcgcbnemaaDoorRows
import GoSem.ClaimSeven
namespace Go.Proofs.YtgliajcgcbnemaaDoor
namespace Rows

/-- THE TIED CARD OF 'laws.FnExactFormatRoots'. -/
def fnExactFormatRootsCard : Claim7 := { stood := { row := fnExactFormatRootsRow, standIns := [], harness := (true, "f2dae400eae5e8510d5602b5397345f1f60af679dc60ae491e957d38d9a4799a"), looks := false }, kinds := [], alts := [], laidByText := true, laidKinds := [.data, .data, .data], laidTests := true, laidLooks := .later }
def FnExactFormatRootsCardSaid : Prop := Claim7.holds Tryd.pinned (.plain (OpenSpec.ofChange fnExactFormatRootsSpec)) fnExactFormatRootsCard

/-- THE SECOND FORM's CARD OF 'laws.FnExactFormatRoots'. -/
def fnExactFormatRootsUptoCard : Claim7 := { stood := { row := fnExactFormatRootsUptoRow, standIns := [], harness := (true, "f2dae400eae5e8510d5602b5397345f1f60af679dc60ae491e957d38d9a4799a"), looks := false }, kinds := [], alts := [], laidByText := true, laidKinds := [.data, .data, .data], laidTests := true, laidLooks := .later }
def FnExactFormatRootsUptoCardSaid : Prop := Claim7.holds Tryd.pinned (.plain (OpenSpec.upto fnExactFormatRootsSpec)) fnExactFormatRootsUptoCard
end Rows
end Go.Proofs.YtgliajcgcbnemaaDoor
