/-
  No cell of these rows narrows 'for every input' (looked for: loops, veiled, ifaces, maps, wideKeys, modest, calm, conditions, laid).
  DERIVED. THE GIVEN ROWS OF THIS SEAT. 5 by the template 'for every input the law returns true; each argument reads behind the call as it read before'; 0 by the template 'total and deterministic' (their statements: YtnooeaemjnmkdaaTotals.lean).
  GIVEN WITH THE SEED: the statements are not yours to turn. If you find one false, say at which input.
  Laid BY PROGRAM, IN A SANDBOX (cutbox-rows.mjs): the forced cells as the released guide's own fill.sh prints them over the translation 82acbabda81e57fa… (all of the seat's roots in one cut). By AI agents, Wed Nov 11 2026. No macro, syntax, notation, axiom, sorry.
-/
import Derived.Test.YtnooeaemjnmkdaaChecked
import GoSem.Claim
import GoSem.ClaimJoined
import GoSem.ClaimMapViews
import Derived.JoinedTies
import Derived.KernelRfl
namespace Go.Proofs.Ytnooeaemjnmkdaa
/- THE CELL 'sum', in the pinned program and in every row, IS THE sha256 OF THE DUMP (.gsa) THAT YtnooeaemjnmkdaaProg.lean LOADS. Nothing in Lean hashes anything: it is a label: what it is worth is what the hold of that sum in a sandbox is worth. -/
noncomputable def Try.pinned : Pinned := { name := "ytnooeaemjnmkdaa", sum := "82acbabda81e57fa250d6e326ed2ea21572c3c680cdbbc491402d452f8466c5b", checked := Try.checked }
namespace Rows
def none {H : Type} : Left H := { results := [], args := [] }

/-- 'laws.FnExactBraidPath': WHATEVER THE INPUT: true; the input reads as it did. -/
def fnExactBraidPathSpec : ChangeSpec := { name := "fnExactBraidPath", fn := fun _ => fun
  | [d1, d2, d3] => { results := [.lit (.bool true)], args := [d1, d2, d3] }
  | _ => none }
def fnExactBraidPathRow : OpenClaim := { program := "ytnooeaemjnmkdaa", sum := "82acbabda81e57fa250d6e326ed2ea21572c3c680cdbbc491402d452f8466c5b", func := "loop.example/g02076/laws.FnExactBraidPath", spec := "fnExactBraidPath", plainKeys := false, apart := false }
def FnExactBraidPathSaid : Prop := fnExactBraidPathRow.holds Try.pinned (OpenSpec.ofChange fnExactBraidPathSpec)

/-- ITS FALSE NEIGHBOUR: 'it returns false'. Refute it at one input. -/
def fnExactBraidPathWrong : ChangeSpec := { name := "fnExactBraidPath", fn := fun _ => fun
  | [d1, d2, d3] => { results := [.lit (.bool false)], args := [d1, d2, d3] }
  | _ => none }
def FnExactBraidPathWrongFalsely : Prop := fnExactBraidPathRow.holds Try.pinned (OpenSpec.ofChange fnExactBraidPathWrong)

/-- 'laws.FnExactRootsUpTo': WHATEVER THE INPUT: true; the input reads as it did. -/
def fnExactRootsUpToSpec : ChangeSpec := { name := "fnExactRootsUpTo", fn := fun _ => fun
  | [d1, d2] => { results := [.lit (.bool true)], args := [d1, d2] }
  | _ => none }
def fnExactRootsUpToRow : OpenClaim := { program := "ytnooeaemjnmkdaa", sum := "82acbabda81e57fa250d6e326ed2ea21572c3c680cdbbc491402d452f8466c5b", func := "loop.example/g02076/laws.FnExactRootsUpTo", spec := "fnExactRootsUpTo", unfollowed := true, recurses := true, plainKeys := false, apart := false }
def FnExactRootsUpToSaid : Prop := fnExactRootsUpToRow.holds Try.pinned (OpenSpec.ofChange fnExactRootsUpToSpec)

/-- ITS FALSE NEIGHBOUR: 'it returns false'. Refute it at one input. -/
def fnExactRootsUpToWrong : ChangeSpec := { name := "fnExactRootsUpTo", fn := fun _ => fun
  | [d1, d2] => { results := [.lit (.bool false)], args := [d1, d2] }
  | _ => none }
def FnExactRootsUpToWrongFalsely : Prop := fnExactRootsUpToRow.holds Try.pinned (OpenSpec.ofChange fnExactRootsUpToWrong)

/-- 'laws.FnExactPositiveRoots': WHATEVER THE INPUT: true; the input reads as it did. -/
def fnExactPositiveRootsSpec : ChangeSpec := { name := "fnExactPositiveRoots", fn := fun _ => fun
  | [d] => { results := [.lit (.bool true)], args := [d] }
  | _ => none }
def fnExactPositiveRootsRow : OpenClaim := { program := "ytnooeaemjnmkdaa", sum := "82acbabda81e57fa250d6e326ed2ea21572c3c680cdbbc491402d452f8466c5b", func := "loop.example/g02076/laws.FnExactPositiveRoots", spec := "fnExactPositiveRoots", unfollowed := true, recurses := true, plainKeys := false, apart := false }
def FnExactPositiveRootsSaid : Prop := fnExactPositiveRootsRow.holds Try.pinned (OpenSpec.ofChange fnExactPositiveRootsSpec)

/-- ITS FALSE NEIGHBOUR: 'it returns false'. Refute it at one input. -/
def fnExactPositiveRootsWrong : ChangeSpec := { name := "fnExactPositiveRoots", fn := fun _ => fun
  | [d] => { results := [.lit (.bool false)], args := [d] }
  | _ => none }
def FnExactPositiveRootsWrongFalsely : Prop := fnExactPositiveRootsRow.holds Try.pinned (OpenSpec.ofChange fnExactPositiveRootsWrong)

/-- 'laws.FnExactHighestRoot': WHATEVER THE INPUT: true; the input reads as it did. -/
def fnExactHighestRootSpec : ChangeSpec := { name := "fnExactHighestRoot", fn := fun _ => fun
  | [d] => { results := [.lit (.bool true)], args := [d] }
  | _ => none }
def fnExactHighestRootRow : OpenClaim := { program := "ytnooeaemjnmkdaa", sum := "82acbabda81e57fa250d6e326ed2ea21572c3c680cdbbc491402d452f8466c5b", func := "loop.example/g02076/laws.FnExactHighestRoot", spec := "fnExactHighestRoot", unfollowed := true, recurses := true, plainKeys := false, apart := false }
def FnExactHighestRootSaid : Prop := fnExactHighestRootRow.holds Try.pinned (OpenSpec.ofChange fnExactHighestRootSpec)

/-- ITS FALSE NEIGHBOUR: 'it returns false'. Refute it at one input. -/
def fnExactHighestRootWrong : ChangeSpec := { name := "fnExactHighestRoot", fn := fun _ => fun
  | [d] => { results := [.lit (.bool false)], args := [d] }
  | _ => none }
def FnExactHighestRootWrongFalsely : Prop := fnExactHighestRootRow.holds Try.pinned (OpenSpec.ofChange fnExactHighestRootWrong)

/-- 'laws.FnExactIsClosedSet': WHATEVER THE INPUT: true; the input reads as it did. -/
def fnExactIsClosedSetSpec : ChangeSpec := { name := "fnExactIsClosedSet", fn := fun _ => fun
  | [d1, d2] => { results := [.lit (.bool true)], args := [d1, d2] }
  | _ => none }
def fnExactIsClosedSetRow : OpenClaim := { program := "ytnooeaemjnmkdaa", sum := "82acbabda81e57fa250d6e326ed2ea21572c3c680cdbbc491402d452f8466c5b", func := "loop.example/g02076/laws.FnExactIsClosedSet", spec := "fnExactIsClosedSet", unfollowed := true, recurses := true, plainKeys := false, apart := false }
def FnExactIsClosedSetSaid : Prop := fnExactIsClosedSetRow.holds Try.pinned (OpenSpec.ofChange fnExactIsClosedSetSpec)

/-- ITS FALSE NEIGHBOUR: 'it returns false'. Refute it at one input. -/
def fnExactIsClosedSetWrong : ChangeSpec := { name := "fnExactIsClosedSet", fn := fun _ => fun
  | [d1, d2] => { results := [.lit (.bool false)], args := [d1, d2] }
  | _ => none }
def FnExactIsClosedSetWrongFalsely : Prop := fnExactIsClosedSetRow.holds Try.pinned (OpenSpec.ofChange fnExactIsClosedSetWrong)

/- THE SECOND FORM. 'bulk': how many values and letters a reading holds, each counted each time it is reached (what is shared counts as often as it is met; a slice's spare places count too). A statement '..UptoSaid' is the law's where the arguments, and the package variables that the reading takes, are together of bulk at most 1048576: NARROWER than '..Said'. Prove '..Said' where nothing that the law and all that it calls make is longer than what came in: it says more and counts as full. Else prove '..UptoSaid'. A law counts once. -/
mutual
def uptoBulk {H : Type} : DataW H → Nat
  | .lit (.string bytes) => bytes.length + 1
  | .lit _ => 1
  | .nil => 1
  | .ptr d => uptoBulk d + 1
  | .slice elems spare => uptoBulkAll elems + uptoBulkAll spare + 1
  | .agg parts => uptoBulkAll parts + 1
  | .iface _ d => uptoBulk d + 1
  | .map entries => uptoBulkEntries entries + 1
  | .held _ => 1
def uptoBulkAll {H : Type} : List (DataW H) → Nat
  | [] => 0
  | d :: r => uptoBulk d + uptoBulkAll r
def uptoBulkEntries {H : Type} : List (Lit × DataW H) → Nat
  | [] => 0
  | x :: r => uptoBulkEntry x + uptoBulkEntries r
def uptoBulkEntry {H : Type} : Lit × DataW H → Nat
  | (.string bytes, d) => bytes.length + uptoBulk d + 1
  | (_, d) => uptoBulk d + 1
 end
def uptoSmall : (H : Type) → List (DataW H) → Bool := fun _ ds => decide (uptoBulkAll ds ≤ 1048576)
def OpenSpec.upto (s : _root_.Go.ChangeSpec) : _root_.Go.OpenSpec := { _root_.Go.OpenSpec.ofChange s with cond := some uptoSmall }

/-- 'laws.FnExactBraidPath', WHERE WHAT IT READS IS OF BULK AT MOST 1048576: true; the input reads as it did. -/
def fnExactBraidPathUptoRow : OpenClaim := { program := "ytnooeaemjnmkdaa", sum := "82acbabda81e57fa250d6e326ed2ea21572c3c680cdbbc491402d452f8466c5b", func := "loop.example/g02076/laws.FnExactBraidPath", spec := "fnExactBraidPath", plainKeys := false, apart := false, narrowed := true }
def FnExactBraidPathUptoSaid : Prop := fnExactBraidPathUptoRow.holds Try.pinned (OpenSpec.upto fnExactBraidPathSpec)

/-- 'laws.FnExactRootsUpTo', WHERE WHAT IT READS IS OF BULK AT MOST 1048576: true; the input reads as it did. -/
def fnExactRootsUpToUptoRow : OpenClaim := { program := "ytnooeaemjnmkdaa", sum := "82acbabda81e57fa250d6e326ed2ea21572c3c680cdbbc491402d452f8466c5b", func := "loop.example/g02076/laws.FnExactRootsUpTo", spec := "fnExactRootsUpTo", unfollowed := true, recurses := true, plainKeys := false, apart := false, narrowed := true }
def FnExactRootsUpToUptoSaid : Prop := fnExactRootsUpToUptoRow.holds Try.pinned (OpenSpec.upto fnExactRootsUpToSpec)

/-- 'laws.FnExactPositiveRoots', WHERE WHAT IT READS IS OF BULK AT MOST 1048576: true; the input reads as it did. -/
def fnExactPositiveRootsUptoRow : OpenClaim := { program := "ytnooeaemjnmkdaa", sum := "82acbabda81e57fa250d6e326ed2ea21572c3c680cdbbc491402d452f8466c5b", func := "loop.example/g02076/laws.FnExactPositiveRoots", spec := "fnExactPositiveRoots", unfollowed := true, recurses := true, plainKeys := false, apart := false, narrowed := true }
def FnExactPositiveRootsUptoSaid : Prop := fnExactPositiveRootsUptoRow.holds Try.pinned (OpenSpec.upto fnExactPositiveRootsSpec)

/-- 'laws.FnExactHighestRoot', WHERE WHAT IT READS IS OF BULK AT MOST 1048576: true; the input reads as it did. -/
def fnExactHighestRootUptoRow : OpenClaim := { program := "ytnooeaemjnmkdaa", sum := "82acbabda81e57fa250d6e326ed2ea21572c3c680cdbbc491402d452f8466c5b", func := "loop.example/g02076/laws.FnExactHighestRoot", spec := "fnExactHighestRoot", unfollowed := true, recurses := true, plainKeys := false, apart := false, narrowed := true }
def FnExactHighestRootUptoSaid : Prop := fnExactHighestRootUptoRow.holds Try.pinned (OpenSpec.upto fnExactHighestRootSpec)

/-- 'laws.FnExactIsClosedSet', WHERE WHAT IT READS IS OF BULK AT MOST 1048576: true; the input reads as it did. -/
def fnExactIsClosedSetUptoRow : OpenClaim := { program := "ytnooeaemjnmkdaa", sum := "82acbabda81e57fa250d6e326ed2ea21572c3c680cdbbc491402d452f8466c5b", func := "loop.example/g02076/laws.FnExactIsClosedSet", spec := "fnExactIsClosedSet", unfollowed := true, recurses := true, plainKeys := false, apart := false, narrowed := true }
def FnExactIsClosedSetUptoSaid : Prop := fnExactIsClosedSetUptoRow.holds Try.pinned (OpenSpec.upto fnExactIsClosedSetSpec)

end Rows
end Go.Proofs.Ytnooeaemjnmkdaa
