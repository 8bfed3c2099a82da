/-
  No cell of these rows narrows 'for every input' (looked for: loops, veiled, ifaces, maps, wideKeys, modest, calm, conditions, laid).
  DERIVED. THE GIVEN ROWS OF THIS SEAT. 8 by the template 'for every input the law returns true; each argument reads behind the call as it read before'; 0 by the template 'total and deterministic' (their statements: YtlddnnkjpcncoaaTotals.lean).
  GIVEN WITH THE SEED: the statements are not yours to turn. If you find one false, say at which input.
  Laid BY PROGRAM, IN A SANDBOX (cutbox-rows.mjs): the forced cells as the released guide's own fill.sh prints them over the translation 8afbed28d618225d… (all of the seat's roots in one cut). By AI agents, Wed Nov 11 2026. No macro, syntax, notation, axiom, sorry.
-/
import Derived.Test.YtlddnnkjpcncoaaChecked
import GoSem.Claim
import GoSem.ClaimJoined
import GoSem.ClaimMapViews
import Derived.JoinedTies
import Derived.KernelRfl
namespace Go.Proofs.Ytlddnnkjpcncoaa
/- THE CELL 'sum', in the pinned program and in every row, IS THE sha256 OF THE DUMP (.gsa) THAT YtlddnnkjpcncoaaProg.lean LOADS. Nothing in Lean hashes anything: it is a label: what it is worth is what the hold of that sum in a sandbox is worth. -/
noncomputable def Try.pinned : Pinned := { name := "ytlddnnkjpcncoaa", sum := "8afbed28d618225d4336a63c5c1018ce47a9acfd5ed14cd0abac13fc8b9ba816", checked := Try.checked }
namespace Rows
def none {H : Type} : Left H := { results := [], args := [] }

/-- 'laws.FnExactReplayDeletions': WHATEVER THE INPUT: true; the input reads as it did. -/
def fnExactReplayDeletionsSpec : ChangeSpec := { name := "fnExactReplayDeletions", fn := fun _ => fun
  | [d1, d2] => { results := [.lit (.bool true)], args := [d1, d2] }
  | _ => none }
def fnExactReplayDeletionsRow : OpenClaim := { program := "ytlddnnkjpcncoaa", sum := "8afbed28d618225d4336a63c5c1018ce47a9acfd5ed14cd0abac13fc8b9ba816", func := "loop.example/g02076/laws.FnExactReplayDeletions", spec := "fnExactReplayDeletions", apart := false }
def FnExactReplayDeletionsSaid : Prop := fnExactReplayDeletionsRow.holds Try.pinned (OpenSpec.ofChange fnExactReplayDeletionsSpec)

/-- ITS FALSE NEIGHBOUR: 'it returns false'. Refute it at one input. -/
def fnExactReplayDeletionsWrong : ChangeSpec := { name := "fnExactReplayDeletions", fn := fun _ => fun
  | [d1, d2] => { results := [.lit (.bool false)], args := [d1, d2] }
  | _ => none }
def FnExactReplayDeletionsWrongFalsely : Prop := fnExactReplayDeletionsRow.holds Try.pinned (OpenSpec.ofChange fnExactReplayDeletionsWrong)

/-- 'laws.FnExactBraidAt': WHATEVER THE INPUT: true; the input reads as it did. -/
def fnExactBraidAtSpec : ChangeSpec := { name := "fnExactBraidAt", fn := fun _ => fun
  | [d1, d2, d3] => { results := [.lit (.bool true)], args := [d1, d2, d3] }
  | _ => none }
def fnExactBraidAtRow : OpenClaim := { program := "ytlddnnkjpcncoaa", sum := "8afbed28d618225d4336a63c5c1018ce47a9acfd5ed14cd0abac13fc8b9ba816", func := "loop.example/g02076/laws.FnExactBraidAt", spec := "fnExactBraidAt", apart := false }
def FnExactBraidAtSaid : Prop := fnExactBraidAtRow.holds Try.pinned (OpenSpec.ofChange fnExactBraidAtSpec)

/-- ITS FALSE NEIGHBOUR: 'it returns false'. Refute it at one input. -/
def fnExactBraidAtWrong : ChangeSpec := { name := "fnExactBraidAt", fn := fun _ => fun
  | [d1, d2, d3] => { results := [.lit (.bool false)], args := [d1, d2, d3] }
  | _ => none }
def FnExactBraidAtWrongFalsely : Prop := fnExactBraidAtRow.holds Try.pinned (OpenSpec.ofChange fnExactBraidAtWrong)

/-- 'laws.FnExactReduceByDeletion': WHATEVER THE INPUT: true; the input reads as it did. -/
def fnExactReduceByDeletionSpec : ChangeSpec := { name := "fnExactReduceByDeletion", fn := fun _ => fun
  | [d1, d2] => { results := [.lit (.bool true)], args := [d1, d2] }
  | _ => none }
def fnExactReduceByDeletionRow : OpenClaim := { program := "ytlddnnkjpcncoaa", sum := "8afbed28d618225d4336a63c5c1018ce47a9acfd5ed14cd0abac13fc8b9ba816", func := "loop.example/g02076/laws.FnExactReduceByDeletion", spec := "fnExactReduceByDeletion", apart := false }
def FnExactReduceByDeletionSaid : Prop := fnExactReduceByDeletionRow.holds Try.pinned (OpenSpec.ofChange fnExactReduceByDeletionSpec)

/-- ITS FALSE NEIGHBOUR: 'it returns false'. Refute it at one input. -/
def fnExactReduceByDeletionWrong : ChangeSpec := { name := "fnExactReduceByDeletion", fn := fun _ => fun
  | [d1, d2] => { results := [.lit (.bool false)], args := [d1, d2] }
  | _ => none }
def FnExactReduceByDeletionWrongFalsely : Prop := fnExactReduceByDeletionRow.holds Try.pinned (OpenSpec.ofChange fnExactReduceByDeletionWrong)

/-- 'laws.FnExactBraidPlaces': WHATEVER THE INPUT: true; the input reads as it did. -/
def fnExactBraidPlacesSpec : ChangeSpec := { name := "fnExactBraidPlaces", fn := fun _ => fun
  | [d1, d2] => { results := [.lit (.bool true)], args := [d1, d2] }
  | _ => none }
def fnExactBraidPlacesRow : OpenClaim := { program := "ytlddnnkjpcncoaa", sum := "8afbed28d618225d4336a63c5c1018ce47a9acfd5ed14cd0abac13fc8b9ba816", func := "loop.example/g02076/laws.FnExactBraidPlaces", spec := "fnExactBraidPlaces", apart := false }
def FnExactBraidPlacesSaid : Prop := fnExactBraidPlacesRow.holds Try.pinned (OpenSpec.ofChange fnExactBraidPlacesSpec)

/-- ITS FALSE NEIGHBOUR: 'it returns false'. Refute it at one input. -/
def fnExactBraidPlacesWrong : ChangeSpec := { name := "fnExactBraidPlaces", fn := fun _ => fun
  | [d1, d2] => { results := [.lit (.bool false)], args := [d1, d2] }
  | _ => none }
def FnExactBraidPlacesWrongFalsely : Prop := fnExactBraidPlacesRow.holds Try.pinned (OpenSpec.ofChange fnExactBraidPlacesWrong)

/-- 'laws.FnExactPowerElement': WHATEVER THE INPUT: true; the input reads as it did. -/
def fnExactPowerElementSpec : ChangeSpec := { name := "fnExactPowerElement", fn := fun _ => fun
  | [d1, d2, d3] => { results := [.lit (.bool true)], args := [d1, d2, d3] }
  | _ => none }
def fnExactPowerElementRow : OpenClaim := { program := "ytlddnnkjpcncoaa", sum := "8afbed28d618225d4336a63c5c1018ce47a9acfd5ed14cd0abac13fc8b9ba816", func := "loop.example/g02076/laws.FnExactPowerElement", spec := "fnExactPowerElement", apart := false }
def FnExactPowerElementSaid : Prop := fnExactPowerElementRow.holds Try.pinned (OpenSpec.ofChange fnExactPowerElementSpec)

/-- ITS FALSE NEIGHBOUR: 'it returns false'. Refute it at one input. -/
def fnExactPowerElementWrong : ChangeSpec := { name := "fnExactPowerElement", fn := fun _ => fun
  | [d1, d2, d3] => { results := [.lit (.bool false)], args := [d1, d2, d3] }
  | _ => none }
def FnExactPowerElementWrongFalsely : Prop := fnExactPowerElementRow.holds Try.pinned (OpenSpec.ofChange fnExactPowerElementWrong)

/-- 'laws.FnExactApplyBraids': WHATEVER THE INPUT: true; the input reads as it did. -/
def fnExactApplyBraidsSpec : ChangeSpec := { name := "fnExactApplyBraids", fn := fun _ => fun
  | [d1, d2, d3] => { results := [.lit (.bool true)], args := [d1, d2, d3] }
  | _ => none }
def fnExactApplyBraidsRow : OpenClaim := { program := "ytlddnnkjpcncoaa", sum := "8afbed28d618225d4336a63c5c1018ce47a9acfd5ed14cd0abac13fc8b9ba816", func := "loop.example/g02076/laws.FnExactApplyBraids", spec := "fnExactApplyBraids", apart := false }
def FnExactApplyBraidsSaid : Prop := fnExactApplyBraidsRow.holds Try.pinned (OpenSpec.ofChange fnExactApplyBraidsSpec)

/-- ITS FALSE NEIGHBOUR: 'it returns false'. Refute it at one input. -/
def fnExactApplyBraidsWrong : ChangeSpec := { name := "fnExactApplyBraids", fn := fun _ => fun
  | [d1, d2, d3] => { results := [.lit (.bool false)], args := [d1, d2, d3] }
  | _ => none }
def FnExactApplyBraidsWrongFalsely : Prop := fnExactApplyBraidsRow.holds Try.pinned (OpenSpec.ofChange fnExactApplyBraidsWrong)

/-- 'laws.FnExactWordOfInversions': WHATEVER THE INPUT: true; the input reads as it did. -/
def fnExactWordOfInversionsSpec : ChangeSpec := { name := "fnExactWordOfInversions", fn := fun _ => fun
  | [d1, d2] => { results := [.lit (.bool true)], args := [d1, d2] }
  | _ => none }
def fnExactWordOfInversionsRow : OpenClaim := { program := "ytlddnnkjpcncoaa", sum := "8afbed28d618225d4336a63c5c1018ce47a9acfd5ed14cd0abac13fc8b9ba816", func := "loop.example/g02076/laws.FnExactWordOfInversions", spec := "fnExactWordOfInversions", unfollowed := true, recurses := true, apart := false }
def FnExactWordOfInversionsSaid : Prop := fnExactWordOfInversionsRow.holds Try.pinned (OpenSpec.ofChange fnExactWordOfInversionsSpec)

/-- ITS FALSE NEIGHBOUR: 'it returns false'. Refute it at one input. -/
def fnExactWordOfInversionsWrong : ChangeSpec := { name := "fnExactWordOfInversions", fn := fun _ => fun
  | [d1, d2] => { results := [.lit (.bool false)], args := [d1, d2] }
  | _ => none }
def FnExactWordOfInversionsWrongFalsely : Prop := fnExactWordOfInversionsRow.holds Try.pinned (OpenSpec.ofChange fnExactWordOfInversionsWrong)

/-- 'laws.FnExactExchangeIndex': WHATEVER THE INPUT: true; the input reads as it did. -/
def fnExactExchangeIndexSpec : ChangeSpec := { name := "fnExactExchangeIndex", fn := fun _ => fun
  | [d1, d2, d3] => { results := [.lit (.bool true)], args := [d1, d2, d3] }
  | _ => none }
def fnExactExchangeIndexRow : OpenClaim := { program := "ytlddnnkjpcncoaa", sum := "8afbed28d618225d4336a63c5c1018ce47a9acfd5ed14cd0abac13fc8b9ba816", func := "loop.example/g02076/laws.FnExactExchangeIndex", spec := "fnExactExchangeIndex", apart := false }
def FnExactExchangeIndexSaid : Prop := fnExactExchangeIndexRow.holds Try.pinned (OpenSpec.ofChange fnExactExchangeIndexSpec)

/-- ITS FALSE NEIGHBOUR: 'it returns false'. Refute it at one input. -/
def fnExactExchangeIndexWrong : ChangeSpec := { name := "fnExactExchangeIndex", fn := fun _ => fun
  | [d1, d2, d3] => { results := [.lit (.bool false)], args := [d1, d2, d3] }
  | _ => none }
def FnExactExchangeIndexWrongFalsely : Prop := fnExactExchangeIndexRow.holds Try.pinned (OpenSpec.ofChange fnExactExchangeIndexWrong)

/- THE SECOND FORM. 'bulk': how many values and letters a reading holds, each counted each time it is reached (what is shared counts as often as it is met; a slice's spare places count too). A statement '..UptoSaid' is the law's where the arguments, and the package variables that the reading takes, are together of bulk at most 1048576: NARROWER than '..Said'. Prove '..Said' where nothing that the law and all that it calls make is longer than what came in: it says more and counts as full. Else prove '..UptoSaid'. A law counts once. -/
mutual
def uptoBulk {H : Type} : DataW H → Nat
  | .lit (.string bytes) => bytes.length + 1
  | .lit _ => 1
  | .nil => 1
  | .ptr d => uptoBulk d + 1
  | .slice elems spare => uptoBulkAll elems + uptoBulkAll spare + 1
  | .agg parts => uptoBulkAll parts + 1
  | .iface _ d => uptoBulk d + 1
  | .map entries => uptoBulkEntries entries + 1
  | .held _ => 1
def uptoBulkAll {H : Type} : List (DataW H) → Nat
  | [] => 0
  | d :: r => uptoBulk d + uptoBulkAll r
def uptoBulkEntries {H : Type} : List (Lit × DataW H) → Nat
  | [] => 0
  | x :: r => uptoBulkEntry x + uptoBulkEntries r
def uptoBulkEntry {H : Type} : Lit × DataW H → Nat
  | (.string bytes, d) => bytes.length + uptoBulk d + 1
  | (_, d) => uptoBulk d + 1
 end
def uptoSmall : (H : Type) → List (DataW H) → Bool := fun _ ds => decide (uptoBulkAll ds ≤ 1048576)
def OpenSpec.upto (s : _root_.Go.ChangeSpec) : _root_.Go.OpenSpec := { _root_.Go.OpenSpec.ofChange s with cond := some uptoSmall }

/-- 'laws.FnExactReplayDeletions', WHERE WHAT IT READS IS OF BULK AT MOST 1048576: true; the input reads as it did. -/
def fnExactReplayDeletionsUptoRow : OpenClaim := { program := "ytlddnnkjpcncoaa", sum := "8afbed28d618225d4336a63c5c1018ce47a9acfd5ed14cd0abac13fc8b9ba816", func := "loop.example/g02076/laws.FnExactReplayDeletions", spec := "fnExactReplayDeletions", apart := false, narrowed := true }
def FnExactReplayDeletionsUptoSaid : Prop := fnExactReplayDeletionsUptoRow.holds Try.pinned (OpenSpec.upto fnExactReplayDeletionsSpec)

/-- 'laws.FnExactBraidAt', WHERE WHAT IT READS IS OF BULK AT MOST 1048576: true; the input reads as it did. -/
def fnExactBraidAtUptoRow : OpenClaim := { program := "ytlddnnkjpcncoaa", sum := "8afbed28d618225d4336a63c5c1018ce47a9acfd5ed14cd0abac13fc8b9ba816", func := "loop.example/g02076/laws.FnExactBraidAt", spec := "fnExactBraidAt", apart := false, narrowed := true }
def FnExactBraidAtUptoSaid : Prop := fnExactBraidAtUptoRow.holds Try.pinned (OpenSpec.upto fnExactBraidAtSpec)

/-- 'laws.FnExactReduceByDeletion', WHERE WHAT IT READS IS OF BULK AT MOST 1048576: true; the input reads as it did. -/
def fnExactReduceByDeletionUptoRow : OpenClaim := { program := "ytlddnnkjpcncoaa", sum := "8afbed28d618225d4336a63c5c1018ce47a9acfd5ed14cd0abac13fc8b9ba816", func := "loop.example/g02076/laws.FnExactReduceByDeletion", spec := "fnExactReduceByDeletion", apart := false, narrowed := true }
def FnExactReduceByDeletionUptoSaid : Prop := fnExactReduceByDeletionUptoRow.holds Try.pinned (OpenSpec.upto fnExactReduceByDeletionSpec)

/-- 'laws.FnExactBraidPlaces', WHERE WHAT IT READS IS OF BULK AT MOST 1048576: true; the input reads as it did. -/
def fnExactBraidPlacesUptoRow : OpenClaim := { program := "ytlddnnkjpcncoaa", sum := "8afbed28d618225d4336a63c5c1018ce47a9acfd5ed14cd0abac13fc8b9ba816", func := "loop.example/g02076/laws.FnExactBraidPlaces", spec := "fnExactBraidPlaces", apart := false, narrowed := true }
def FnExactBraidPlacesUptoSaid : Prop := fnExactBraidPlacesUptoRow.holds Try.pinned (OpenSpec.upto fnExactBraidPlacesSpec)

/-- 'laws.FnExactPowerElement', WHERE WHAT IT READS IS OF BULK AT MOST 1048576: true; the input reads as it did. -/
def fnExactPowerElementUptoRow : OpenClaim := { program := "ytlddnnkjpcncoaa", sum := "8afbed28d618225d4336a63c5c1018ce47a9acfd5ed14cd0abac13fc8b9ba816", func := "loop.example/g02076/laws.FnExactPowerElement", spec := "fnExactPowerElement", apart := false, narrowed := true }
def FnExactPowerElementUptoSaid : Prop := fnExactPowerElementUptoRow.holds Try.pinned (OpenSpec.upto fnExactPowerElementSpec)

/-- 'laws.FnExactApplyBraids', WHERE WHAT IT READS IS OF BULK AT MOST 1048576: true; the input reads as it did. -/
def fnExactApplyBraidsUptoRow : OpenClaim := { program := "ytlddnnkjpcncoaa", sum := "8afbed28d618225d4336a63c5c1018ce47a9acfd5ed14cd0abac13fc8b9ba816", func := "loop.example/g02076/laws.FnExactApplyBraids", spec := "fnExactApplyBraids", apart := false, narrowed := true }
def FnExactApplyBraidsUptoSaid : Prop := fnExactApplyBraidsUptoRow.holds Try.pinned (OpenSpec.upto fnExactApplyBraidsSpec)

/-- 'laws.FnExactWordOfInversions', WHERE WHAT IT READS IS OF BULK AT MOST 1048576: true; the input reads as it did. -/
def fnExactWordOfInversionsUptoRow : OpenClaim := { program := "ytlddnnkjpcncoaa", sum := "8afbed28d618225d4336a63c5c1018ce47a9acfd5ed14cd0abac13fc8b9ba816", func := "loop.example/g02076/laws.FnExactWordOfInversions", spec := "fnExactWordOfInversions", unfollowed := true, recurses := true, apart := false, narrowed := true }
def FnExactWordOfInversionsUptoSaid : Prop := fnExactWordOfInversionsUptoRow.holds Try.pinned (OpenSpec.upto fnExactWordOfInversionsSpec)

/-- 'laws.FnExactExchangeIndex', WHERE WHAT IT READS IS OF BULK AT MOST 1048576: true; the input reads as it did. -/
def fnExactExchangeIndexUptoRow : OpenClaim := { program := "ytlddnnkjpcncoaa", sum := "8afbed28d618225d4336a63c5c1018ce47a9acfd5ed14cd0abac13fc8b9ba816", func := "loop.example/g02076/laws.FnExactExchangeIndex", spec := "fnExactExchangeIndex", apart := false, narrowed := true }
def FnExactExchangeIndexUptoSaid : Prop := fnExactExchangeIndexUptoRow.holds Try.pinned (OpenSpec.upto fnExactExchangeIndexSpec)

end Rows
end Go.Proofs.Ytlddnnkjpcncoaa
