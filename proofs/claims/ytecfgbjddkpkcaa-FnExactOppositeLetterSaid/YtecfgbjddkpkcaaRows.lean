/-
  No cell of these rows narrows 'for every input' (looked for: loops, veiled, ifaces, maps, wideKeys, modest, calm, conditions, laid).
  DERIVED. THE GIVEN ROWS OF THIS SEAT. 4 by the template 'for every input the law returns true; each argument reads behind the call as it read before'; 0 by the template 'total and deterministic' (their statements: YtecfgbjddkpkcaaTotals.lean).
  GIVEN WITH THE SEED: the statements are not yours to turn. If you find one false, say at which input.
  Laid BY PROGRAM, IN A SANDBOX (cutbox-rows.mjs): the forced cells as the released guide's own fill.sh prints them over the translation 0edc66eb20887932… (all of the seat's roots in one cut). By AI agents, Wed Nov 11 2026. No macro, syntax, notation, axiom, sorry.
-/
import Derived.Test.YtecfgbjddkpkcaaChecked
import GoSem.Claim
import GoSem.ClaimJoined
import GoSem.ClaimMapViews
import Derived.JoinedTies
import Derived.KernelRfl
namespace Go.Proofs.Ytecfgbjddkpkcaa
/- THE CELL 'sum', in the pinned program and in every row, IS THE sha256 OF THE DUMP (.gsa) THAT YtecfgbjddkpkcaaProg.lean LOADS. Nothing in Lean hashes anything: it is a label: what it is worth is what the hold of that sum in a sandbox is worth. -/
noncomputable def Try.pinned : Pinned := { name := "ytecfgbjddkpkcaa", sum := "0edc66eb2088793209992ca18dc91de4abee2399925e4d9169b4b98396dbeb2e", checked := Try.checked }
namespace Rows
def none {H : Type} : Left H := { results := [], args := [] }

/-- 'laws.FnExactLongestElement': WHATEVER THE INPUT: true; the input reads as it did. -/
def fnExactLongestElementSpec : ChangeSpec := { name := "fnExactLongestElement", fn := fun _ => fun
  | [d] => { results := [.lit (.bool true)], args := [d] }
  | _ => none }
def fnExactLongestElementRow : OpenClaim := { program := "ytecfgbjddkpkcaa", sum := "0edc66eb2088793209992ca18dc91de4abee2399925e4d9169b4b98396dbeb2e", func := "loop.example/g02076/laws.FnExactLongestElement", spec := "fnExactLongestElement", recurses := true, apart := false }
def FnExactLongestElementSaid : Prop := fnExactLongestElementRow.holds Try.pinned (OpenSpec.ofChange fnExactLongestElementSpec)

/-- ITS FALSE NEIGHBOUR: 'it returns false'. Refute it at one input. -/
def fnExactLongestElementWrong : ChangeSpec := { name := "fnExactLongestElement", fn := fun _ => fun
  | [d] => { results := [.lit (.bool false)], args := [d] }
  | _ => none }
def FnExactLongestElementWrongFalsely : Prop := fnExactLongestElementRow.holds Try.pinned (OpenSpec.ofChange fnExactLongestElementWrong)

/-- 'laws.FnExactOppositeLetter': WHATEVER THE INPUT: true; the input reads as it did. -/
def fnExactOppositeLetterSpec : ChangeSpec := { name := "fnExactOppositeLetter", fn := fun _ => fun
  | [d1, d2] => { results := [.lit (.bool true)], args := [d1, d2] }
  | _ => none }
def fnExactOppositeLetterRow : OpenClaim := { program := "ytecfgbjddkpkcaa", sum := "0edc66eb2088793209992ca18dc91de4abee2399925e4d9169b4b98396dbeb2e", func := "loop.example/g02076/laws.FnExactOppositeLetter", spec := "fnExactOppositeLetter", recurses := true, apart := false }
def FnExactOppositeLetterSaid : Prop := fnExactOppositeLetterRow.holds Try.pinned (OpenSpec.ofChange fnExactOppositeLetterSpec)

/-- ITS FALSE NEIGHBOUR: 'it returns false'. Refute it at one input. -/
def fnExactOppositeLetterWrong : ChangeSpec := { name := "fnExactOppositeLetter", fn := fun _ => fun
  | [d1, d2] => { results := [.lit (.bool false)], args := [d1, d2] }
  | _ => none }
def FnExactOppositeLetterWrongFalsely : Prop := fnExactOppositeLetterRow.holds Try.pinned (OpenSpec.ofChange fnExactOppositeLetterWrong)

/-- 'laws.FnExactOrderOfElement': WHATEVER THE INPUT: true; the input reads as it did. -/
def fnExactOrderOfElementSpec : ChangeSpec := { name := "fnExactOrderOfElement", fn := fun _ => fun
  | [d1, d2] => { results := [.lit (.bool true)], args := [d1, d2] }
  | _ => none }
def fnExactOrderOfElementRow : OpenClaim := { program := "ytecfgbjddkpkcaa", sum := "0edc66eb2088793209992ca18dc91de4abee2399925e4d9169b4b98396dbeb2e", func := "loop.example/g02076/laws.FnExactOrderOfElement", spec := "fnExactOrderOfElement", recurses := true, apart := false }
def FnExactOrderOfElementSaid : Prop := fnExactOrderOfElementRow.holds Try.pinned (OpenSpec.ofChange fnExactOrderOfElementSpec)

/-- ITS FALSE NEIGHBOUR: 'it returns false'. Refute it at one input. -/
def fnExactOrderOfElementWrong : ChangeSpec := { name := "fnExactOrderOfElement", fn := fun _ => fun
  | [d1, d2] => { results := [.lit (.bool false)], args := [d1, d2] }
  | _ => none }
def FnExactOrderOfElementWrongFalsely : Prop := fnExactOrderOfElementRow.holds Try.pinned (OpenSpec.ofChange fnExactOrderOfElementWrong)

/-- 'laws.FnExactIsInversionSet': WHATEVER THE INPUT: true; the input reads as it did. -/
def fnExactIsInversionSetSpec : ChangeSpec := { name := "fnExactIsInversionSet", fn := fun _ => fun
  | [d1, d2] => { results := [.lit (.bool true)], args := [d1, d2] }
  | _ => none }
def fnExactIsInversionSetRow : OpenClaim := { program := "ytecfgbjddkpkcaa", sum := "0edc66eb2088793209992ca18dc91de4abee2399925e4d9169b4b98396dbeb2e", func := "loop.example/g02076/laws.FnExactIsInversionSet", spec := "fnExactIsInversionSet", unfollowed := true, recurses := true, apart := false }
def FnExactIsInversionSetSaid : Prop := fnExactIsInversionSetRow.holds Try.pinned (OpenSpec.ofChange fnExactIsInversionSetSpec)

/-- ITS FALSE NEIGHBOUR: 'it returns false'. Refute it at one input. -/
def fnExactIsInversionSetWrong : ChangeSpec := { name := "fnExactIsInversionSet", fn := fun _ => fun
  | [d1, d2] => { results := [.lit (.bool false)], args := [d1, d2] }
  | _ => none }
def FnExactIsInversionSetWrongFalsely : Prop := fnExactIsInversionSetRow.holds Try.pinned (OpenSpec.ofChange fnExactIsInversionSetWrong)

/- THE SECOND FORM. 'bulk': how many values and letters a reading holds, each counted each time it is reached (what is shared counts as often as it is met; a slice's spare places count too). A statement '..UptoSaid' is the law's where the arguments, and the package variables that the reading takes, are together of bulk at most 1048576: NARROWER than '..Said'. Prove '..Said' where nothing that the law and all that it calls make is longer than what came in: it says more and counts as full. Else prove '..UptoSaid'. A law counts once. -/
mutual
def uptoBulk {H : Type} : DataW H → Nat
  | .lit (.string bytes) => bytes.length + 1
  | .lit _ => 1
  | .nil => 1
  | .ptr d => uptoBulk d + 1
  | .slice elems spare => uptoBulkAll elems + uptoBulkAll spare + 1
  | .agg parts => uptoBulkAll parts + 1
  | .iface _ d => uptoBulk d + 1
  | .map entries => uptoBulkEntries entries + 1
  | .held _ => 1
def uptoBulkAll {H : Type} : List (DataW H) → Nat
  | [] => 0
  | d :: r => uptoBulk d + uptoBulkAll r
def uptoBulkEntries {H : Type} : List (Lit × DataW H) → Nat
  | [] => 0
  | x :: r => uptoBulkEntry x + uptoBulkEntries r
def uptoBulkEntry {H : Type} : Lit × DataW H → Nat
  | (.string bytes, d) => bytes.length + uptoBulk d + 1
  | (_, d) => uptoBulk d + 1
 end
def uptoSmall : (H : Type) → List (DataW H) → Bool := fun _ ds => decide (uptoBulkAll ds ≤ 1048576)
def OpenSpec.upto (s : _root_.Go.ChangeSpec) : _root_.Go.OpenSpec := { _root_.Go.OpenSpec.ofChange s with cond := some uptoSmall }

/-- 'laws.FnExactLongestElement', WHERE WHAT IT READS IS OF BULK AT MOST 1048576: true; the input reads as it did. -/
def fnExactLongestElementUptoRow : OpenClaim := { program := "ytecfgbjddkpkcaa", sum := "0edc66eb2088793209992ca18dc91de4abee2399925e4d9169b4b98396dbeb2e", func := "loop.example/g02076/laws.FnExactLongestElement", spec := "fnExactLongestElement", recurses := true, apart := false, narrowed := true }
def FnExactLongestElementUptoSaid : Prop := fnExactLongestElementUptoRow.holds Try.pinned (OpenSpec.upto fnExactLongestElementSpec)

/-- 'laws.FnExactOppositeLetter', WHERE WHAT IT READS IS OF BULK AT MOST 1048576: true; the input reads as it did. -/
def fnExactOppositeLetterUptoRow : OpenClaim := { program := "ytecfgbjddkpkcaa", sum := "0edc66eb2088793209992ca18dc91de4abee2399925e4d9169b4b98396dbeb2e", func := "loop.example/g02076/laws.FnExactOppositeLetter", spec := "fnExactOppositeLetter", recurses := true, apart := false, narrowed := true }
def FnExactOppositeLetterUptoSaid : Prop := fnExactOppositeLetterUptoRow.holds Try.pinned (OpenSpec.upto fnExactOppositeLetterSpec)

/-- 'laws.FnExactOrderOfElement', WHERE WHAT IT READS IS OF BULK AT MOST 1048576: true; the input reads as it did. -/
def fnExactOrderOfElementUptoRow : OpenClaim := { program := "ytecfgbjddkpkcaa", sum := "0edc66eb2088793209992ca18dc91de4abee2399925e4d9169b4b98396dbeb2e", func := "loop.example/g02076/laws.FnExactOrderOfElement", spec := "fnExactOrderOfElement", recurses := true, apart := false, narrowed := true }
def FnExactOrderOfElementUptoSaid : Prop := fnExactOrderOfElementUptoRow.holds Try.pinned (OpenSpec.upto fnExactOrderOfElementSpec)

/-- 'laws.FnExactIsInversionSet', WHERE WHAT IT READS IS OF BULK AT MOST 1048576: true; the input reads as it did. -/
def fnExactIsInversionSetUptoRow : OpenClaim := { program := "ytecfgbjddkpkcaa", sum := "0edc66eb2088793209992ca18dc91de4abee2399925e4d9169b4b98396dbeb2e", func := "loop.example/g02076/laws.FnExactIsInversionSet", spec := "fnExactIsInversionSet", unfollowed := true, recurses := true, apart := false, narrowed := true }
def FnExactIsInversionSetUptoSaid : Prop := fnExactIsInversionSetUptoRow.holds Try.pinned (OpenSpec.upto fnExactIsInversionSetSpec)

end Rows
end Go.Proofs.Ytecfgbjddkpkcaa
