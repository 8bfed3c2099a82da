/-
  No cell of these rows narrows 'for every input' (looked for: loops, veiled, ifaces, maps, wideKeys, modest, calm, conditions, laid).
  DERIVED. THE GIVEN ROWS OF THIS SEAT. 8 by the template 'for every input the law returns true; each argument reads behind the call as it read before'; 0 by the template 'total and deterministic' (their statements: YtfibapndkibmiaaTotals.lean).
  GIVEN WITH THE SEED: the statements are not yours to turn. If you find one false, say at which input.
  Laid BY PROGRAM, IN A SANDBOX (cutbox-rows.mjs): the forced cells as the released guide's own fill.sh prints them over the translation fc530fcd1651ec6c… (all of the seat's roots in one cut). By AI agents, Wed Nov 11 2026. No macro, syntax, notation, axiom, sorry.
-/
import Derived.Test.YtfibapndkibmiaaChecked
import GoSem.Claim
import GoSem.ClaimJoined
import GoSem.ClaimMapViews
import Derived.JoinedTies
import Derived.KernelRfl
namespace Go.Proofs.Ytfibapndkibmiaa
/- THE CELL 'sum', in the pinned program and in every row, IS THE sha256 OF THE DUMP (.gsa) THAT YtfibapndkibmiaaProg.lean LOADS. Nothing in Lean hashes anything: it is a label: what it is worth is what the hold of that sum in a sandbox is worth. -/
noncomputable def Try.pinned : Pinned := { name := "ytfibapndkibmiaa", sum := "fc530fcd1651ec6c89fa2fb06eb1ff01914bd686323a46589ec6fea516a3f7b3", checked := Try.checked }
namespace Rows
def none {H : Type} : Left H := { results := [], args := [] }

/-- 'laws.FnExactIsReduced': WHATEVER THE INPUT: true; the input reads as it did. -/
def fnExactIsReducedSpec : ChangeSpec := { name := "fnExactIsReduced", fn := fun _ => fun
  | [d1, d2] => { results := [.lit (.bool true)], args := [d1, d2] }
  | _ => none }
def fnExactIsReducedRow : OpenClaim := { program := "ytfibapndkibmiaa", sum := "fc530fcd1651ec6c89fa2fb06eb1ff01914bd686323a46589ec6fea516a3f7b3", func := "loop.example/g02076/laws.FnExactIsReduced", spec := "fnExactIsReduced", apart := false }
def FnExactIsReducedSaid : Prop := fnExactIsReducedRow.holds Try.pinned (OpenSpec.ofChange fnExactIsReducedSpec)

/-- ITS FALSE NEIGHBOUR: 'it returns false'. Refute it at one input. -/
def fnExactIsReducedWrong : ChangeSpec := { name := "fnExactIsReduced", fn := fun _ => fun
  | [d1, d2] => { results := [.lit (.bool false)], args := [d1, d2] }
  | _ => none }
def FnExactIsReducedWrongFalsely : Prop := fnExactIsReducedRow.holds Try.pinned (OpenSpec.ofChange fnExactIsReducedWrong)

/-- 'laws.FnExactLengthOf': WHATEVER THE INPUT: true; the input reads as it did. -/
def fnExactLengthOfSpec : ChangeSpec := { name := "fnExactLengthOf", fn := fun _ => fun
  | [d1, d2] => { results := [.lit (.bool true)], args := [d1, d2] }
  | _ => none }
def fnExactLengthOfRow : OpenClaim := { program := "ytfibapndkibmiaa", sum := "fc530fcd1651ec6c89fa2fb06eb1ff01914bd686323a46589ec6fea516a3f7b3", func := "loop.example/g02076/laws.FnExactLengthOf", spec := "fnExactLengthOf", apart := false }
def FnExactLengthOfSaid : Prop := fnExactLengthOfRow.holds Try.pinned (OpenSpec.ofChange fnExactLengthOfSpec)

/-- ITS FALSE NEIGHBOUR: 'it returns false'. Refute it at one input. -/
def fnExactLengthOfWrong : ChangeSpec := { name := "fnExactLengthOf", fn := fun _ => fun
  | [d1, d2] => { results := [.lit (.bool false)], args := [d1, d2] }
  | _ => none }
def FnExactLengthOfWrongFalsely : Prop := fnExactLengthOfRow.holds Try.pinned (OpenSpec.ofChange fnExactLengthOfWrong)

/-- 'laws.FnExactNormalForm': WHATEVER THE INPUT: true; the input reads as it did. -/
def fnExactNormalFormSpec : ChangeSpec := { name := "fnExactNormalForm", fn := fun _ => fun
  | [d1, d2] => { results := [.lit (.bool true)], args := [d1, d2] }
  | _ => none }
def fnExactNormalFormRow : OpenClaim := { program := "ytfibapndkibmiaa", sum := "fc530fcd1651ec6c89fa2fb06eb1ff01914bd686323a46589ec6fea516a3f7b3", func := "loop.example/g02076/laws.FnExactNormalForm", spec := "fnExactNormalForm", apart := false }
def FnExactNormalFormSaid : Prop := fnExactNormalFormRow.holds Try.pinned (OpenSpec.ofChange fnExactNormalFormSpec)

/-- ITS FALSE NEIGHBOUR: 'it returns false'. Refute it at one input. -/
def fnExactNormalFormWrong : ChangeSpec := { name := "fnExactNormalForm", fn := fun _ => fun
  | [d1, d2] => { results := [.lit (.bool false)], args := [d1, d2] }
  | _ => none }
def FnExactNormalFormWrongFalsely : Prop := fnExactNormalFormRow.holds Try.pinned (OpenSpec.ofChange fnExactNormalFormWrong)

/-- 'laws.FnExactIsElement': WHATEVER THE INPUT: true; the input reads as it did. -/
def fnExactIsElementSpec : ChangeSpec := { name := "fnExactIsElement", fn := fun _ => fun
  | [d1, d2] => { results := [.lit (.bool true)], args := [d1, d2] }
  | _ => none }
def fnExactIsElementRow : OpenClaim := { program := "ytfibapndkibmiaa", sum := "fc530fcd1651ec6c89fa2fb06eb1ff01914bd686323a46589ec6fea516a3f7b3", func := "loop.example/g02076/laws.FnExactIsElement", spec := "fnExactIsElement", apart := false }
def FnExactIsElementSaid : Prop := fnExactIsElementRow.holds Try.pinned (OpenSpec.ofChange fnExactIsElementSpec)

/-- ITS FALSE NEIGHBOUR: 'it returns false'. Refute it at one input. -/
def fnExactIsElementWrong : ChangeSpec := { name := "fnExactIsElement", fn := fun _ => fun
  | [d1, d2] => { results := [.lit (.bool false)], args := [d1, d2] }
  | _ => none }
def FnExactIsElementWrongFalsely : Prop := fnExactIsElementRow.holds Try.pinned (OpenSpec.ofChange fnExactIsElementWrong)

/-- 'laws.FnExactInverseElement': WHATEVER THE INPUT: true; the input reads as it did. -/
def fnExactInverseElementSpec : ChangeSpec := { name := "fnExactInverseElement", fn := fun _ => fun
  | [d1, d2] => { results := [.lit (.bool true)], args := [d1, d2] }
  | _ => none }
def fnExactInverseElementRow : OpenClaim := { program := "ytfibapndkibmiaa", sum := "fc530fcd1651ec6c89fa2fb06eb1ff01914bd686323a46589ec6fea516a3f7b3", func := "loop.example/g02076/laws.FnExactInverseElement", spec := "fnExactInverseElement", apart := false }
def FnExactInverseElementSaid : Prop := fnExactInverseElementRow.holds Try.pinned (OpenSpec.ofChange fnExactInverseElementSpec)

/-- ITS FALSE NEIGHBOUR: 'it returns false'. Refute it at one input. -/
def fnExactInverseElementWrong : ChangeSpec := { name := "fnExactInverseElement", fn := fun _ => fun
  | [d1, d2] => { results := [.lit (.bool false)], args := [d1, d2] }
  | _ => none }
def FnExactInverseElementWrongFalsely : Prop := fnExactInverseElementRow.holds Try.pinned (OpenSpec.ofChange fnExactInverseElementWrong)

/-- 'laws.FnExactMultiplyElements': WHATEVER THE INPUT: true; the input reads as it did. -/
def fnExactMultiplyElementsSpec : ChangeSpec := { name := "fnExactMultiplyElements", fn := fun _ => fun
  | [d1, d2, d3] => { results := [.lit (.bool true)], args := [d1, d2, d3] }
  | _ => none }
def fnExactMultiplyElementsRow : OpenClaim := { program := "ytfibapndkibmiaa", sum := "fc530fcd1651ec6c89fa2fb06eb1ff01914bd686323a46589ec6fea516a3f7b3", func := "loop.example/g02076/laws.FnExactMultiplyElements", spec := "fnExactMultiplyElements", apart := false }
def FnExactMultiplyElementsSaid : Prop := fnExactMultiplyElementsRow.holds Try.pinned (OpenSpec.ofChange fnExactMultiplyElementsSpec)

/-- ITS FALSE NEIGHBOUR: 'it returns false'. Refute it at one input. -/
def fnExactMultiplyElementsWrong : ChangeSpec := { name := "fnExactMultiplyElements", fn := fun _ => fun
  | [d1, d2, d3] => { results := [.lit (.bool false)], args := [d1, d2, d3] }
  | _ => none }
def FnExactMultiplyElementsWrongFalsely : Prop := fnExactMultiplyElementsRow.holds Try.pinned (OpenSpec.ofChange fnExactMultiplyElementsWrong)

/-- 'laws.FnExactIsInvolution': WHATEVER THE INPUT: true; the input reads as it did. -/
def fnExactIsInvolutionSpec : ChangeSpec := { name := "fnExactIsInvolution", fn := fun _ => fun
  | [d1, d2] => { results := [.lit (.bool true)], args := [d1, d2] }
  | _ => none }
def fnExactIsInvolutionRow : OpenClaim := { program := "ytfibapndkibmiaa", sum := "fc530fcd1651ec6c89fa2fb06eb1ff01914bd686323a46589ec6fea516a3f7b3", func := "loop.example/g02076/laws.FnExactIsInvolution", spec := "fnExactIsInvolution", apart := false }
def FnExactIsInvolutionSaid : Prop := fnExactIsInvolutionRow.holds Try.pinned (OpenSpec.ofChange fnExactIsInvolutionSpec)

/-- ITS FALSE NEIGHBOUR: 'it returns false'. Refute it at one input. -/
def fnExactIsInvolutionWrong : ChangeSpec := { name := "fnExactIsInvolution", fn := fun _ => fun
  | [d1, d2] => { results := [.lit (.bool false)], args := [d1, d2] }
  | _ => none }
def FnExactIsInvolutionWrongFalsely : Prop := fnExactIsInvolutionRow.holds Try.pinned (OpenSpec.ofChange fnExactIsInvolutionWrong)

/-- 'laws.FnExactConjugateElement': WHATEVER THE INPUT: true; the input reads as it did. -/
def fnExactConjugateElementSpec : ChangeSpec := { name := "fnExactConjugateElement", fn := fun _ => fun
  | [d1, d2, d3] => { results := [.lit (.bool true)], args := [d1, d2, d3] }
  | _ => none }
def fnExactConjugateElementRow : OpenClaim := { program := "ytfibapndkibmiaa", sum := "fc530fcd1651ec6c89fa2fb06eb1ff01914bd686323a46589ec6fea516a3f7b3", func := "loop.example/g02076/laws.FnExactConjugateElement", spec := "fnExactConjugateElement", apart := false }
def FnExactConjugateElementSaid : Prop := fnExactConjugateElementRow.holds Try.pinned (OpenSpec.ofChange fnExactConjugateElementSpec)

/-- ITS FALSE NEIGHBOUR: 'it returns false'. Refute it at one input. -/
def fnExactConjugateElementWrong : ChangeSpec := { name := "fnExactConjugateElement", fn := fun _ => fun
  | [d1, d2, d3] => { results := [.lit (.bool false)], args := [d1, d2, d3] }
  | _ => none }
def FnExactConjugateElementWrongFalsely : Prop := fnExactConjugateElementRow.holds Try.pinned (OpenSpec.ofChange fnExactConjugateElementWrong)

/- THE SECOND FORM. 'bulk': how many values and letters a reading holds, each counted each time it is reached (what is shared counts as often as it is met; a slice's spare places count too). A statement '..UptoSaid' is the law's where the arguments, and the package variables that the reading takes, are together of bulk at most 1048576: NARROWER than '..Said'. Prove '..Said' where nothing that the law and all that it calls make is longer than what came in: it says more and counts as full. Else prove '..UptoSaid'. A law counts once. -/
mutual
def uptoBulk {H : Type} : DataW H → Nat
  | .lit (.string bytes) => bytes.length + 1
  | .lit _ => 1
  | .nil => 1
  | .ptr d => uptoBulk d + 1
  | .slice elems spare => uptoBulkAll elems + uptoBulkAll spare + 1
  | .agg parts => uptoBulkAll parts + 1
  | .iface _ d => uptoBulk d + 1
  | .map entries => uptoBulkEntries entries + 1
  | .held _ => 1
def uptoBulkAll {H : Type} : List (DataW H) → Nat
  | [] => 0
  | d :: r => uptoBulk d + uptoBulkAll r
def uptoBulkEntries {H : Type} : List (Lit × DataW H) → Nat
  | [] => 0
  | x :: r => uptoBulkEntry x + uptoBulkEntries r
def uptoBulkEntry {H : Type} : Lit × DataW H → Nat
  | (.string bytes, d) => bytes.length + uptoBulk d + 1
  | (_, d) => uptoBulk d + 1
 end
def uptoSmall : (H : Type) → List (DataW H) → Bool := fun _ ds => decide (uptoBulkAll ds ≤ 1048576)
def OpenSpec.upto (s : _root_.Go.ChangeSpec) : _root_.Go.OpenSpec := { _root_.Go.OpenSpec.ofChange s with cond := some uptoSmall }

/-- 'laws.FnExactIsReduced', WHERE WHAT IT READS IS OF BULK AT MOST 1048576: true; the input reads as it did. -/
def fnExactIsReducedUptoRow : OpenClaim := { program := "ytfibapndkibmiaa", sum := "fc530fcd1651ec6c89fa2fb06eb1ff01914bd686323a46589ec6fea516a3f7b3", func := "loop.example/g02076/laws.FnExactIsReduced", spec := "fnExactIsReduced", apart := false, narrowed := true }
def FnExactIsReducedUptoSaid : Prop := fnExactIsReducedUptoRow.holds Try.pinned (OpenSpec.upto fnExactIsReducedSpec)

/-- 'laws.FnExactLengthOf', WHERE WHAT IT READS IS OF BULK AT MOST 1048576: true; the input reads as it did. -/
def fnExactLengthOfUptoRow : OpenClaim := { program := "ytfibapndkibmiaa", sum := "fc530fcd1651ec6c89fa2fb06eb1ff01914bd686323a46589ec6fea516a3f7b3", func := "loop.example/g02076/laws.FnExactLengthOf", spec := "fnExactLengthOf", apart := false, narrowed := true }
def FnExactLengthOfUptoSaid : Prop := fnExactLengthOfUptoRow.holds Try.pinned (OpenSpec.upto fnExactLengthOfSpec)

/-- 'laws.FnExactNormalForm', WHERE WHAT IT READS IS OF BULK AT MOST 1048576: true; the input reads as it did. -/
def fnExactNormalFormUptoRow : OpenClaim := { program := "ytfibapndkibmiaa", sum := "fc530fcd1651ec6c89fa2fb06eb1ff01914bd686323a46589ec6fea516a3f7b3", func := "loop.example/g02076/laws.FnExactNormalForm", spec := "fnExactNormalForm", apart := false, narrowed := true }
def FnExactNormalFormUptoSaid : Prop := fnExactNormalFormUptoRow.holds Try.pinned (OpenSpec.upto fnExactNormalFormSpec)

/-- 'laws.FnExactIsElement', WHERE WHAT IT READS IS OF BULK AT MOST 1048576: true; the input reads as it did. -/
def fnExactIsElementUptoRow : OpenClaim := { program := "ytfibapndkibmiaa", sum := "fc530fcd1651ec6c89fa2fb06eb1ff01914bd686323a46589ec6fea516a3f7b3", func := "loop.example/g02076/laws.FnExactIsElement", spec := "fnExactIsElement", apart := false, narrowed := true }
def FnExactIsElementUptoSaid : Prop := fnExactIsElementUptoRow.holds Try.pinned (OpenSpec.upto fnExactIsElementSpec)

/-- 'laws.FnExactInverseElement', WHERE WHAT IT READS IS OF BULK AT MOST 1048576: true; the input reads as it did. -/
def fnExactInverseElementUptoRow : OpenClaim := { program := "ytfibapndkibmiaa", sum := "fc530fcd1651ec6c89fa2fb06eb1ff01914bd686323a46589ec6fea516a3f7b3", func := "loop.example/g02076/laws.FnExactInverseElement", spec := "fnExactInverseElement", apart := false, narrowed := true }
def FnExactInverseElementUptoSaid : Prop := fnExactInverseElementUptoRow.holds Try.pinned (OpenSpec.upto fnExactInverseElementSpec)

/-- 'laws.FnExactMultiplyElements', WHERE WHAT IT READS IS OF BULK AT MOST 1048576: true; the input reads as it did. -/
def fnExactMultiplyElementsUptoRow : OpenClaim := { program := "ytfibapndkibmiaa", sum := "fc530fcd1651ec6c89fa2fb06eb1ff01914bd686323a46589ec6fea516a3f7b3", func := "loop.example/g02076/laws.FnExactMultiplyElements", spec := "fnExactMultiplyElements", apart := false, narrowed := true }
def FnExactMultiplyElementsUptoSaid : Prop := fnExactMultiplyElementsUptoRow.holds Try.pinned (OpenSpec.upto fnExactMultiplyElementsSpec)

/-- 'laws.FnExactIsInvolution', WHERE WHAT IT READS IS OF BULK AT MOST 1048576: true; the input reads as it did. -/
def fnExactIsInvolutionUptoRow : OpenClaim := { program := "ytfibapndkibmiaa", sum := "fc530fcd1651ec6c89fa2fb06eb1ff01914bd686323a46589ec6fea516a3f7b3", func := "loop.example/g02076/laws.FnExactIsInvolution", spec := "fnExactIsInvolution", apart := false, narrowed := true }
def FnExactIsInvolutionUptoSaid : Prop := fnExactIsInvolutionUptoRow.holds Try.pinned (OpenSpec.upto fnExactIsInvolutionSpec)

/-- 'laws.FnExactConjugateElement', WHERE WHAT IT READS IS OF BULK AT MOST 1048576: true; the input reads as it did. -/
def fnExactConjugateElementUptoRow : OpenClaim := { program := "ytfibapndkibmiaa", sum := "fc530fcd1651ec6c89fa2fb06eb1ff01914bd686323a46589ec6fea516a3f7b3", func := "loop.example/g02076/laws.FnExactConjugateElement", spec := "fnExactConjugateElement", apart := false, narrowed := true }
def FnExactConjugateElementUptoSaid : Prop := fnExactConjugateElementUptoRow.holds Try.pinned (OpenSpec.upto fnExactConjugateElementSpec)

end Rows
end Go.Proofs.Ytfibapndkibmiaa
