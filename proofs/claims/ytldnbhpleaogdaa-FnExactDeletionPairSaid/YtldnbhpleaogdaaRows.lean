/-
  No cell of these rows narrows 'for every input' (looked for: loops, veiled, ifaces, maps, wideKeys, modest, calm, conditions, laid).
  DERIVED. THE GIVEN ROWS OF THIS SEAT. 8 by the template 'for every input the law returns true; each argument reads behind the call as it read before'; 0 by the template 'total and deterministic' (their statements: YtldnbhpleaogdaaTotals.lean).
  GIVEN WITH THE SEED: the statements are not yours to turn. If you find one false, say at which input.
  Laid BY PROGRAM, IN A SANDBOX (cutbox-rows.mjs): the forced cells as the released guide's own fill.sh prints them over the translation fbeb0401215b5d34… (all of the seat's roots in one cut). By AI agents, Wed Nov 11 2026. No macro, syntax, notation, axiom, sorry.
-/
import Derived.Test.YtldnbhpleaogdaaChecked
import GoSem.Claim
import GoSem.ClaimJoined
import GoSem.ClaimMapViews
import Derived.JoinedTies
import Derived.KernelRfl
namespace Go.Proofs.Ytldnbhpleaogdaa
/- THE CELL 'sum', in the pinned program and in every row, IS THE sha256 OF THE DUMP (.gsa) THAT YtldnbhpleaogdaaProg.lean LOADS. Nothing in Lean hashes anything: it is a label: what it is worth is what the hold of that sum in a sandbox is worth. -/
noncomputable def Try.pinned : Pinned := { name := "ytldnbhpleaogdaa", sum := "fbeb0401215b5d3430d42bed9ee426692faaec03b1c5fb9ae3d44d2c4ad891f2", checked := Try.checked }
namespace Rows
def none {H : Type} : Left H := { results := [], args := [] }

/-- 'laws.FnExactDeleteAt': WHATEVER THE INPUT: true; the input reads as it did. -/
def fnExactDeleteAtSpec : ChangeSpec := { name := "fnExactDeleteAt", fn := fun _ => fun
  | [d1, d2] => { results := [.lit (.bool true)], args := [d1, d2] }
  | _ => none }
def fnExactDeleteAtRow : OpenClaim := { program := "ytldnbhpleaogdaa", sum := "fbeb0401215b5d3430d42bed9ee426692faaec03b1c5fb9ae3d44d2c4ad891f2", func := "loop.example/g02076/laws.FnExactDeleteAt", spec := "fnExactDeleteAt", apart := false }
def FnExactDeleteAtSaid : Prop := fnExactDeleteAtRow.holds Try.pinned (OpenSpec.ofChange fnExactDeleteAtSpec)

/-- ITS FALSE NEIGHBOUR: 'it returns false'. Refute it at one input. -/
def fnExactDeleteAtWrong : ChangeSpec := { name := "fnExactDeleteAt", fn := fun _ => fun
  | [d1, d2] => { results := [.lit (.bool false)], args := [d1, d2] }
  | _ => none }
def FnExactDeleteAtWrongFalsely : Prop := fnExactDeleteAtRow.holds Try.pinned (OpenSpec.ofChange fnExactDeleteAtWrong)

/-- 'laws.FnExactIndexOfElement': WHATEVER THE INPUT: true; the input reads as it did. -/
def fnExactIndexOfElementSpec : ChangeSpec := { name := "fnExactIndexOfElement", fn := fun _ => fun
  | [d1, d2] => { results := [.lit (.bool true)], args := [d1, d2] }
  | _ => none }
def fnExactIndexOfElementRow : OpenClaim := { program := "ytldnbhpleaogdaa", sum := "fbeb0401215b5d3430d42bed9ee426692faaec03b1c5fb9ae3d44d2c4ad891f2", func := "loop.example/g02076/laws.FnExactIndexOfElement", spec := "fnExactIndexOfElement", unfollowed := true, recurses := true, apart := false }
def FnExactIndexOfElementSaid : Prop := fnExactIndexOfElementRow.holds Try.pinned (OpenSpec.ofChange fnExactIndexOfElementSpec)

/-- ITS FALSE NEIGHBOUR: 'it returns false'. Refute it at one input. -/
def fnExactIndexOfElementWrong : ChangeSpec := { name := "fnExactIndexOfElement", fn := fun _ => fun
  | [d1, d2] => { results := [.lit (.bool false)], args := [d1, d2] }
  | _ => none }
def FnExactIndexOfElementWrongFalsely : Prop := fnExactIndexOfElementRow.holds Try.pinned (OpenSpec.ofChange fnExactIndexOfElementWrong)

/-- 'laws.FnExactAreSame': WHATEVER THE INPUT: true; the input reads as it did. -/
def fnExactAreSameSpec : ChangeSpec := { name := "fnExactAreSame", fn := fun _ => fun
  | [d1, d2, d3] => { results := [.lit (.bool true)], args := [d1, d2, d3] }
  | _ => none }
def fnExactAreSameRow : OpenClaim := { program := "ytldnbhpleaogdaa", sum := "fbeb0401215b5d3430d42bed9ee426692faaec03b1c5fb9ae3d44d2c4ad891f2", func := "loop.example/g02076/laws.FnExactAreSame", spec := "fnExactAreSame", apart := false }
def FnExactAreSameSaid : Prop := fnExactAreSameRow.holds Try.pinned (OpenSpec.ofChange fnExactAreSameSpec)

/-- ITS FALSE NEIGHBOUR: 'it returns false'. Refute it at one input. -/
def fnExactAreSameWrong : ChangeSpec := { name := "fnExactAreSame", fn := fun _ => fun
  | [d1, d2, d3] => { results := [.lit (.bool false)], args := [d1, d2, d3] }
  | _ => none }
def FnExactAreSameWrongFalsely : Prop := fnExactAreSameRow.holds Try.pinned (OpenSpec.ofChange fnExactAreSameWrong)

/-- 'laws.FnExactLeftDescents': WHATEVER THE INPUT: true; the input reads as it did. -/
def fnExactLeftDescentsSpec : ChangeSpec := { name := "fnExactLeftDescents", fn := fun _ => fun
  | [d1, d2] => { results := [.lit (.bool true)], args := [d1, d2] }
  | _ => none }
def fnExactLeftDescentsRow : OpenClaim := { program := "ytldnbhpleaogdaa", sum := "fbeb0401215b5d3430d42bed9ee426692faaec03b1c5fb9ae3d44d2c4ad891f2", func := "loop.example/g02076/laws.FnExactLeftDescents", spec := "fnExactLeftDescents", apart := false }
def FnExactLeftDescentsSaid : Prop := fnExactLeftDescentsRow.holds Try.pinned (OpenSpec.ofChange fnExactLeftDescentsSpec)

/-- ITS FALSE NEIGHBOUR: 'it returns false'. Refute it at one input. -/
def fnExactLeftDescentsWrong : ChangeSpec := { name := "fnExactLeftDescents", fn := fun _ => fun
  | [d1, d2] => { results := [.lit (.bool false)], args := [d1, d2] }
  | _ => none }
def FnExactLeftDescentsWrongFalsely : Prop := fnExactLeftDescentsRow.holds Try.pinned (OpenSpec.ofChange fnExactLeftDescentsWrong)

/-- 'laws.FnExactRootSequence': WHATEVER THE INPUT: true; the input reads as it did. -/
def fnExactRootSequenceSpec : ChangeSpec := { name := "fnExactRootSequence", fn := fun _ => fun
  | [d1, d2] => { results := [.lit (.bool true)], args := [d1, d2] }
  | _ => none }
def fnExactRootSequenceRow : OpenClaim := { program := "ytldnbhpleaogdaa", sum := "fbeb0401215b5d3430d42bed9ee426692faaec03b1c5fb9ae3d44d2c4ad891f2", func := "loop.example/g02076/laws.FnExactRootSequence", spec := "fnExactRootSequence", apart := false }
def FnExactRootSequenceSaid : Prop := fnExactRootSequenceRow.holds Try.pinned (OpenSpec.ofChange fnExactRootSequenceSpec)

/-- ITS FALSE NEIGHBOUR: 'it returns false'. Refute it at one input. -/
def fnExactRootSequenceWrong : ChangeSpec := { name := "fnExactRootSequence", fn := fun _ => fun
  | [d1, d2] => { results := [.lit (.bool false)], args := [d1, d2] }
  | _ => none }
def FnExactRootSequenceWrongFalsely : Prop := fnExactRootSequenceRow.holds Try.pinned (OpenSpec.ofChange fnExactRootSequenceWrong)

/-- 'laws.FnExactDoCommute': WHATEVER THE INPUT: true; the input reads as it did. -/
def fnExactDoCommuteSpec : ChangeSpec := { name := "fnExactDoCommute", fn := fun _ => fun
  | [d1, d2, d3] => { results := [.lit (.bool true)], args := [d1, d2, d3] }
  | _ => none }
def fnExactDoCommuteRow : OpenClaim := { program := "ytldnbhpleaogdaa", sum := "fbeb0401215b5d3430d42bed9ee426692faaec03b1c5fb9ae3d44d2c4ad891f2", func := "loop.example/g02076/laws.FnExactDoCommute", spec := "fnExactDoCommute", apart := false }
def FnExactDoCommuteSaid : Prop := fnExactDoCommuteRow.holds Try.pinned (OpenSpec.ofChange fnExactDoCommuteSpec)

/-- ITS FALSE NEIGHBOUR: 'it returns false'. Refute it at one input. -/
def fnExactDoCommuteWrong : ChangeSpec := { name := "fnExactDoCommute", fn := fun _ => fun
  | [d1, d2, d3] => { results := [.lit (.bool false)], args := [d1, d2, d3] }
  | _ => none }
def FnExactDoCommuteWrongFalsely : Prop := fnExactDoCommuteRow.holds Try.pinned (OpenSpec.ofChange fnExactDoCommuteWrong)

/-- 'laws.FnExactRightDescents': WHATEVER THE INPUT: true; the input reads as it did. -/
def fnExactRightDescentsSpec : ChangeSpec := { name := "fnExactRightDescents", fn := fun _ => fun
  | [d1, d2] => { results := [.lit (.bool true)], args := [d1, d2] }
  | _ => none }
def fnExactRightDescentsRow : OpenClaim := { program := "ytldnbhpleaogdaa", sum := "fbeb0401215b5d3430d42bed9ee426692faaec03b1c5fb9ae3d44d2c4ad891f2", func := "loop.example/g02076/laws.FnExactRightDescents", spec := "fnExactRightDescents", apart := false }
def FnExactRightDescentsSaid : Prop := fnExactRightDescentsRow.holds Try.pinned (OpenSpec.ofChange fnExactRightDescentsSpec)

/-- ITS FALSE NEIGHBOUR: 'it returns false'. Refute it at one input. -/
def fnExactRightDescentsWrong : ChangeSpec := { name := "fnExactRightDescents", fn := fun _ => fun
  | [d1, d2] => { results := [.lit (.bool false)], args := [d1, d2] }
  | _ => none }
def FnExactRightDescentsWrongFalsely : Prop := fnExactRightDescentsRow.holds Try.pinned (OpenSpec.ofChange fnExactRightDescentsWrong)

/-- 'laws.FnExactDeletionPair': WHATEVER THE INPUT: true; the input reads as it did. -/
def fnExactDeletionPairSpec : ChangeSpec := { name := "fnExactDeletionPair", fn := fun _ => fun
  | [d1, d2] => { results := [.lit (.bool true)], args := [d1, d2] }
  | _ => none }
def fnExactDeletionPairRow : OpenClaim := { program := "ytldnbhpleaogdaa", sum := "fbeb0401215b5d3430d42bed9ee426692faaec03b1c5fb9ae3d44d2c4ad891f2", func := "loop.example/g02076/laws.FnExactDeletionPair", spec := "fnExactDeletionPair", apart := false }
def FnExactDeletionPairSaid : Prop := fnExactDeletionPairRow.holds Try.pinned (OpenSpec.ofChange fnExactDeletionPairSpec)

/-- ITS FALSE NEIGHBOUR: 'it returns false'. Refute it at one input. -/
def fnExactDeletionPairWrong : ChangeSpec := { name := "fnExactDeletionPair", fn := fun _ => fun
  | [d1, d2] => { results := [.lit (.bool false)], args := [d1, d2] }
  | _ => none }
def FnExactDeletionPairWrongFalsely : Prop := fnExactDeletionPairRow.holds Try.pinned (OpenSpec.ofChange fnExactDeletionPairWrong)

/- THE SECOND FORM. 'bulk': how many values and letters a reading holds, each counted each time it is reached (what is shared counts as often as it is met; a slice's spare places count too). A statement '..UptoSaid' is the law's where the arguments, and the package variables that the reading takes, are together of bulk at most 1048576: NARROWER than '..Said'. Prove '..Said' where nothing that the law and all that it calls make is longer than what came in: it says more and counts as full. Else prove '..UptoSaid'. A law counts once. -/
mutual
def uptoBulk {H : Type} : DataW H → Nat
  | .lit (.string bytes) => bytes.length + 1
  | .lit _ => 1
  | .nil => 1
  | .ptr d => uptoBulk d + 1
  | .slice elems spare => uptoBulkAll elems + uptoBulkAll spare + 1
  | .agg parts => uptoBulkAll parts + 1
  | .iface _ d => uptoBulk d + 1
  | .map entries => uptoBulkEntries entries + 1
  | .held _ => 1
def uptoBulkAll {H : Type} : List (DataW H) → Nat
  | [] => 0
  | d :: r => uptoBulk d + uptoBulkAll r
def uptoBulkEntries {H : Type} : List (Lit × DataW H) → Nat
  | [] => 0
  | x :: r => uptoBulkEntry x + uptoBulkEntries r
def uptoBulkEntry {H : Type} : Lit × DataW H → Nat
  | (.string bytes, d) => bytes.length + uptoBulk d + 1
  | (_, d) => uptoBulk d + 1
 end
def uptoSmall : (H : Type) → List (DataW H) → Bool := fun _ ds => decide (uptoBulkAll ds ≤ 1048576)
def OpenSpec.upto (s : _root_.Go.ChangeSpec) : _root_.Go.OpenSpec := { _root_.Go.OpenSpec.ofChange s with cond := some uptoSmall }

/-- 'laws.FnExactDeleteAt', WHERE WHAT IT READS IS OF BULK AT MOST 1048576: true; the input reads as it did. -/
def fnExactDeleteAtUptoRow : OpenClaim := { program := "ytldnbhpleaogdaa", sum := "fbeb0401215b5d3430d42bed9ee426692faaec03b1c5fb9ae3d44d2c4ad891f2", func := "loop.example/g02076/laws.FnExactDeleteAt", spec := "fnExactDeleteAt", apart := false, narrowed := true }
def FnExactDeleteAtUptoSaid : Prop := fnExactDeleteAtUptoRow.holds Try.pinned (OpenSpec.upto fnExactDeleteAtSpec)

/-- 'laws.FnExactIndexOfElement', WHERE WHAT IT READS IS OF BULK AT MOST 1048576: true; the input reads as it did. -/
def fnExactIndexOfElementUptoRow : OpenClaim := { program := "ytldnbhpleaogdaa", sum := "fbeb0401215b5d3430d42bed9ee426692faaec03b1c5fb9ae3d44d2c4ad891f2", func := "loop.example/g02076/laws.FnExactIndexOfElement", spec := "fnExactIndexOfElement", unfollowed := true, recurses := true, apart := false, narrowed := true }
def FnExactIndexOfElementUptoSaid : Prop := fnExactIndexOfElementUptoRow.holds Try.pinned (OpenSpec.upto fnExactIndexOfElementSpec)

/-- 'laws.FnExactAreSame', WHERE WHAT IT READS IS OF BULK AT MOST 1048576: true; the input reads as it did. -/
def fnExactAreSameUptoRow : OpenClaim := { program := "ytldnbhpleaogdaa", sum := "fbeb0401215b5d3430d42bed9ee426692faaec03b1c5fb9ae3d44d2c4ad891f2", func := "loop.example/g02076/laws.FnExactAreSame", spec := "fnExactAreSame", apart := false, narrowed := true }
def FnExactAreSameUptoSaid : Prop := fnExactAreSameUptoRow.holds Try.pinned (OpenSpec.upto fnExactAreSameSpec)

/-- 'laws.FnExactLeftDescents', WHERE WHAT IT READS IS OF BULK AT MOST 1048576: true; the input reads as it did. -/
def fnExactLeftDescentsUptoRow : OpenClaim := { program := "ytldnbhpleaogdaa", sum := "fbeb0401215b5d3430d42bed9ee426692faaec03b1c5fb9ae3d44d2c4ad891f2", func := "loop.example/g02076/laws.FnExactLeftDescents", spec := "fnExactLeftDescents", apart := false, narrowed := true }
def FnExactLeftDescentsUptoSaid : Prop := fnExactLeftDescentsUptoRow.holds Try.pinned (OpenSpec.upto fnExactLeftDescentsSpec)

/-- 'laws.FnExactRootSequence', WHERE WHAT IT READS IS OF BULK AT MOST 1048576: true; the input reads as it did. -/
def fnExactRootSequenceUptoRow : OpenClaim := { program := "ytldnbhpleaogdaa", sum := "fbeb0401215b5d3430d42bed9ee426692faaec03b1c5fb9ae3d44d2c4ad891f2", func := "loop.example/g02076/laws.FnExactRootSequence", spec := "fnExactRootSequence", apart := false, narrowed := true }
def FnExactRootSequenceUptoSaid : Prop := fnExactRootSequenceUptoRow.holds Try.pinned (OpenSpec.upto fnExactRootSequenceSpec)

/-- 'laws.FnExactDoCommute', WHERE WHAT IT READS IS OF BULK AT MOST 1048576: true; the input reads as it did. -/
def fnExactDoCommuteUptoRow : OpenClaim := { program := "ytldnbhpleaogdaa", sum := "fbeb0401215b5d3430d42bed9ee426692faaec03b1c5fb9ae3d44d2c4ad891f2", func := "loop.example/g02076/laws.FnExactDoCommute", spec := "fnExactDoCommute", apart := false, narrowed := true }
def FnExactDoCommuteUptoSaid : Prop := fnExactDoCommuteUptoRow.holds Try.pinned (OpenSpec.upto fnExactDoCommuteSpec)

/-- 'laws.FnExactRightDescents', WHERE WHAT IT READS IS OF BULK AT MOST 1048576: true; the input reads as it did. -/
def fnExactRightDescentsUptoRow : OpenClaim := { program := "ytldnbhpleaogdaa", sum := "fbeb0401215b5d3430d42bed9ee426692faaec03b1c5fb9ae3d44d2c4ad891f2", func := "loop.example/g02076/laws.FnExactRightDescents", spec := "fnExactRightDescents", apart := false, narrowed := true }
def FnExactRightDescentsUptoSaid : Prop := fnExactRightDescentsUptoRow.holds Try.pinned (OpenSpec.upto fnExactRightDescentsSpec)

/-- 'laws.FnExactDeletionPair', WHERE WHAT IT READS IS OF BULK AT MOST 1048576: true; the input reads as it did. -/
def fnExactDeletionPairUptoRow : OpenClaim := { program := "ytldnbhpleaogdaa", sum := "fbeb0401215b5d3430d42bed9ee426692faaec03b1c5fb9ae3d44d2c4ad891f2", func := "loop.example/g02076/laws.FnExactDeletionPair", spec := "fnExactDeletionPair", apart := false, narrowed := true }
def FnExactDeletionPairUptoSaid : Prop := fnExactDeletionPairUptoRow.holds Try.pinned (OpenSpec.upto fnExactDeletionPairSpec)

end Rows
end Go.Proofs.Ytldnbhpleaogdaa
