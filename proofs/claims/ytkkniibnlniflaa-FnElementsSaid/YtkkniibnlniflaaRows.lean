/-
  No cell of these rows narrows 'for every input' (looked for: loops, veiled, ifaces, maps, wideKeys, modest, calm, conditions, laid).
  DERIVED. THE GIVEN ROWS OF THIS SEAT. 5 by the template 'for every input the law returns true; each argument reads behind the call as it read before'; 0 by the template 'total and deterministic' (their statements: YtkkniibnlniflaaTotals.lean).
  GIVEN WITH THE SEED: the statements are not yours to turn. If you find one false, say at which input.
  Laid BY PROGRAM, IN A SANDBOX (cutbox-rows.mjs): the forced cells as the released guide's own fill.sh prints them over the translation 7ad1f0ca3af113d1… (all of the seat's roots in one cut). By AI agents, Wed Nov 11 2026. No macro, syntax, notation, axiom, sorry.
-/
import Derived.Test.YtkkniibnlniflaaChecked
import GoSem.Claim
import GoSem.ClaimJoined
import GoSem.ClaimMapViews
import Derived.JoinedTies
import Derived.KernelRfl
namespace Go.Proofs.Ytkkniibnlniflaa
/- THE CELL 'sum', in the pinned program and in every row, IS THE sha256 OF THE DUMP (.gsa) THAT YtkkniibnlniflaaProg.lean LOADS. Nothing in Lean hashes anything: it is a label: what it is worth is what the hold of that sum in a sandbox is worth. -/
noncomputable def Try.pinned : Pinned := { name := "ytkkniibnlniflaa", sum := "7ad1f0ca3af113d1ef83ed744a86c291f7c16a6007ce193c302db20d45fb752f", checked := Try.checked }
namespace Rows
def none {H : Type} : Left H := { results := [], args := [] }

/-- 'laws.FnExactInversionsOf': WHATEVER THE INPUT: true; the input reads as it did. -/
def fnExactInversionsOfSpec : ChangeSpec := { name := "fnExactInversionsOf", fn := fun _ => fun
  | [d1, d2] => { results := [.lit (.bool true)], args := [d1, d2] }
  | _ => none }
def fnExactInversionsOfRow : OpenClaim := { program := "ytkkniibnlniflaa", sum := "7ad1f0ca3af113d1ef83ed744a86c291f7c16a6007ce193c302db20d45fb752f", func := "loop.example/g02076/laws.FnExactInversionsOf", spec := "fnExactInversionsOf", unfollowed := true, recurses := true, apart := false }
def FnExactInversionsOfSaid : Prop := fnExactInversionsOfRow.holds Try.pinned (OpenSpec.ofChange fnExactInversionsOfSpec)

/-- ITS FALSE NEIGHBOUR: 'it returns false'. Refute it at one input. -/
def fnExactInversionsOfWrong : ChangeSpec := { name := "fnExactInversionsOf", fn := fun _ => fun
  | [d1, d2] => { results := [.lit (.bool false)], args := [d1, d2] }
  | _ => none }
def FnExactInversionsOfWrongFalsely : Prop := fnExactInversionsOfRow.holds Try.pinned (OpenSpec.ofChange fnExactInversionsOfWrong)

/-- 'laws.FnExactCommonInversions': WHATEVER THE INPUT: true; the input reads as it did. -/
def fnExactCommonInversionsSpec : ChangeSpec := { name := "fnExactCommonInversions", fn := fun _ => fun
  | [d1, d2, d3] => { results := [.lit (.bool true)], args := [d1, d2, d3] }
  | _ => none }
def fnExactCommonInversionsRow : OpenClaim := { program := "ytkkniibnlniflaa", sum := "7ad1f0ca3af113d1ef83ed744a86c291f7c16a6007ce193c302db20d45fb752f", func := "loop.example/g02076/laws.FnExactCommonInversions", spec := "fnExactCommonInversions", unfollowed := true, recurses := true, apart := false }
def FnExactCommonInversionsSaid : Prop := fnExactCommonInversionsRow.holds Try.pinned (OpenSpec.ofChange fnExactCommonInversionsSpec)

/-- ITS FALSE NEIGHBOUR: 'it returns false'. Refute it at one input. -/
def fnExactCommonInversionsWrong : ChangeSpec := { name := "fnExactCommonInversions", fn := fun _ => fun
  | [d1, d2, d3] => { results := [.lit (.bool false)], args := [d1, d2, d3] }
  | _ => none }
def FnExactCommonInversionsWrongFalsely : Prop := fnExactCommonInversionsRow.holds Try.pinned (OpenSpec.ofChange fnExactCommonInversionsWrong)

/-- 'laws.FnExactReducedWords': WHATEVER THE INPUT: true; the input reads as it did. -/
def fnExactReducedWordsSpec : ChangeSpec := { name := "fnExactReducedWords", fn := fun _ => fun
  | [d1, d2] => { results := [.lit (.bool true)], args := [d1, d2] }
  | _ => none }
def fnExactReducedWordsRow : OpenClaim := { program := "ytkkniibnlniflaa", sum := "7ad1f0ca3af113d1ef83ed744a86c291f7c16a6007ce193c302db20d45fb752f", func := "loop.example/g02076/laws.FnExactReducedWords", spec := "fnExactReducedWords", recurses := true, apart := false }
def FnExactReducedWordsSaid : Prop := fnExactReducedWordsRow.holds Try.pinned (OpenSpec.ofChange fnExactReducedWordsSpec)

/-- ITS FALSE NEIGHBOUR: 'it returns false'. Refute it at one input. -/
def fnExactReducedWordsWrong : ChangeSpec := { name := "fnExactReducedWords", fn := fun _ => fun
  | [d1, d2] => { results := [.lit (.bool false)], args := [d1, d2] }
  | _ => none }
def FnExactReducedWordsWrongFalsely : Prop := fnExactReducedWordsRow.holds Try.pinned (OpenSpec.ofChange fnExactReducedWordsWrong)

/-- 'laws.FnExchanges': WHATEVER THE INPUT: true; the input reads as it did. -/
def fnExchangesSpec : ChangeSpec := { name := "fnExchanges", fn := fun _ => fun
  | [d] => { results := [.lit (.bool true)], args := [d] }
  | _ => none }
def fnExchangesRow : OpenClaim := { program := "ytkkniibnlniflaa", sum := "7ad1f0ca3af113d1ef83ed744a86c291f7c16a6007ce193c302db20d45fb752f", func := "loop.example/g02076/laws.FnExchanges", spec := "fnExchanges", apart := false }
def FnExchangesSaid : Prop := fnExchangesRow.holds Try.pinned (OpenSpec.ofChange fnExchangesSpec)

/-- ITS FALSE NEIGHBOUR: 'it returns false'. Refute it at one input. -/
def fnExchangesWrong : ChangeSpec := { name := "fnExchanges", fn := fun _ => fun
  | [d] => { results := [.lit (.bool false)], args := [d] }
  | _ => none }
def FnExchangesWrongFalsely : Prop := fnExchangesRow.holds Try.pinned (OpenSpec.ofChange fnExchangesWrong)

/-- 'laws.FnElements': WHATEVER THE INPUT: true; the input reads as it did. -/
def fnElementsSpec : ChangeSpec := { name := "fnElements", fn := fun _ => fun
  | [d] => { results := [.lit (.bool true)], args := [d] }
  | _ => none }
def fnElementsRow : OpenClaim := { program := "ytkkniibnlniflaa", sum := "7ad1f0ca3af113d1ef83ed744a86c291f7c16a6007ce193c302db20d45fb752f", func := "loop.example/g02076/laws.FnElements", spec := "fnElements", recurses := true, apart := false }
def FnElementsSaid : Prop := fnElementsRow.holds Try.pinned (OpenSpec.ofChange fnElementsSpec)

/-- ITS FALSE NEIGHBOUR: 'it returns false'. Refute it at one input. -/
def fnElementsWrong : ChangeSpec := { name := "fnElements", fn := fun _ => fun
  | [d] => { results := [.lit (.bool false)], args := [d] }
  | _ => none }
def FnElementsWrongFalsely : Prop := fnElementsRow.holds Try.pinned (OpenSpec.ofChange fnElementsWrong)

/- THE SECOND FORM. 'bulk': how many values and letters a reading holds, each counted each time it is reached (what is shared counts as often as it is met; a slice's spare places count too). A statement '..UptoSaid' is the law's where the arguments, and the package variables that the reading takes, are together of bulk at most 1048576: NARROWER than '..Said'. Prove '..Said' where nothing that the law and all that it calls make is longer than what came in: it says more and counts as full. Else prove '..UptoSaid'. A law counts once. -/
mutual
def uptoBulk {H : Type} : DataW H → Nat
  | .lit (.string bytes) => bytes.length + 1
  | .lit _ => 1
  | .nil => 1
  | .ptr d => uptoBulk d + 1
  | .slice elems spare => uptoBulkAll elems + uptoBulkAll spare + 1
  | .agg parts => uptoBulkAll parts + 1
  | .iface _ d => uptoBulk d + 1
  | .map entries => uptoBulkEntries entries + 1
  | .held _ => 1
def uptoBulkAll {H : Type} : List (DataW H) → Nat
  | [] => 0
  | d :: r => uptoBulk d + uptoBulkAll r
def uptoBulkEntries {H : Type} : List (Lit × DataW H) → Nat
  | [] => 0
  | x :: r => uptoBulkEntry x + uptoBulkEntries r
def uptoBulkEntry {H : Type} : Lit × DataW H → Nat
  | (.string bytes, d) => bytes.length + uptoBulk d + 1
  | (_, d) => uptoBulk d + 1
 end
def uptoSmall : (H : Type) → List (DataW H) → Bool := fun _ ds => decide (uptoBulkAll ds ≤ 1048576)
def OpenSpec.upto (s : _root_.Go.ChangeSpec) : _root_.Go.OpenSpec := { _root_.Go.OpenSpec.ofChange s with cond := some uptoSmall }

/-- 'laws.FnExactInversionsOf', WHERE WHAT IT READS IS OF BULK AT MOST 1048576: true; the input reads as it did. -/
def fnExactInversionsOfUptoRow : OpenClaim := { program := "ytkkniibnlniflaa", sum := "7ad1f0ca3af113d1ef83ed744a86c291f7c16a6007ce193c302db20d45fb752f", func := "loop.example/g02076/laws.FnExactInversionsOf", spec := "fnExactInversionsOf", unfollowed := true, recurses := true, apart := false, narrowed := true }
def FnExactInversionsOfUptoSaid : Prop := fnExactInversionsOfUptoRow.holds Try.pinned (OpenSpec.upto fnExactInversionsOfSpec)

/-- 'laws.FnExactCommonInversions', WHERE WHAT IT READS IS OF BULK AT MOST 1048576: true; the input reads as it did. -/
def fnExactCommonInversionsUptoRow : OpenClaim := { program := "ytkkniibnlniflaa", sum := "7ad1f0ca3af113d1ef83ed744a86c291f7c16a6007ce193c302db20d45fb752f", func := "loop.example/g02076/laws.FnExactCommonInversions", spec := "fnExactCommonInversions", unfollowed := true, recurses := true, apart := false, narrowed := true }
def FnExactCommonInversionsUptoSaid : Prop := fnExactCommonInversionsUptoRow.holds Try.pinned (OpenSpec.upto fnExactCommonInversionsSpec)

/-- 'laws.FnExactReducedWords', WHERE WHAT IT READS IS OF BULK AT MOST 1048576: true; the input reads as it did. -/
def fnExactReducedWordsUptoRow : OpenClaim := { program := "ytkkniibnlniflaa", sum := "7ad1f0ca3af113d1ef83ed744a86c291f7c16a6007ce193c302db20d45fb752f", func := "loop.example/g02076/laws.FnExactReducedWords", spec := "fnExactReducedWords", recurses := true, apart := false, narrowed := true }
def FnExactReducedWordsUptoSaid : Prop := fnExactReducedWordsUptoRow.holds Try.pinned (OpenSpec.upto fnExactReducedWordsSpec)

/-- 'laws.FnExchanges', WHERE WHAT IT READS IS OF BULK AT MOST 1048576: true; the input reads as it did. -/
def fnExchangesUptoRow : OpenClaim := { program := "ytkkniibnlniflaa", sum := "7ad1f0ca3af113d1ef83ed744a86c291f7c16a6007ce193c302db20d45fb752f", func := "loop.example/g02076/laws.FnExchanges", spec := "fnExchanges", apart := false, narrowed := true }
def FnExchangesUptoSaid : Prop := fnExchangesUptoRow.holds Try.pinned (OpenSpec.upto fnExchangesSpec)

/-- 'laws.FnElements', WHERE WHAT IT READS IS OF BULK AT MOST 1048576: true; the input reads as it did. -/
def fnElementsUptoRow : OpenClaim := { program := "ytkkniibnlniflaa", sum := "7ad1f0ca3af113d1ef83ed744a86c291f7c16a6007ce193c302db20d45fb752f", func := "loop.example/g02076/laws.FnElements", spec := "fnElements", recurses := true, apart := false, narrowed := true }
def FnElementsUptoSaid : Prop := fnElementsUptoRow.holds Try.pinned (OpenSpec.upto fnElementsSpec)

end Rows
end Go.Proofs.Ytkkniibnlniflaa
