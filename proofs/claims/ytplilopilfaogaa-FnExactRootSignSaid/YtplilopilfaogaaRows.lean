/-
  No cell of these rows narrows 'for every input' (looked for: loops, veiled, ifaces, maps, wideKeys, modest, calm, conditions, laid).
  DERIVED. THE GIVEN ROWS OF THIS SEAT. 6 by the template 'for every input the law returns true; each argument reads behind the call as it read before'; 0 by the template 'total and deterministic' (their statements: YtplilopilfaogaaTotals.lean).
  GIVEN WITH THE SEED: the statements are not yours to turn. If you find one false, say at which input.
  Laid BY PROGRAM, IN A SANDBOX (cutbox-rows.mjs): the forced cells as the released guide's own fill.sh prints them over the translation 6dd8ffbc93531a72… (all of the seat's roots in one cut). By AI agents, Wed Nov 11 2026. No macro, syntax, notation, axiom, sorry.
-/
import Derived.Test.YtplilopilfaogaaChecked
import GoSem.Claim
import GoSem.ClaimJoined
import GoSem.ClaimMapViews
import Derived.JoinedTies
import Derived.KernelRfl
namespace Go.Proofs.Ytplilopilfaogaa
/- THE CELL 'sum', in the pinned program and in every row, IS THE sha256 OF THE DUMP (.gsa) THAT YtplilopilfaogaaProg.lean LOADS. Nothing in Lean hashes anything: it is a label: what it is worth is what the hold of that sum in a sandbox is worth. -/
noncomputable def Try.pinned : Pinned := { name := "ytplilopilfaogaa", sum := "6dd8ffbc93531a7286c31d5c2062e2243b6172e356f3c012b7630f7f49e24fc5", checked := Try.checked }
namespace Rows
def none {H : Type} : Left H := { results := [], args := [] }

/-- 'laws.FnExactSignOf': WHATEVER THE INPUT: true; the input reads as it did. -/
def fnExactSignOfSpec : ChangeSpec := { name := "fnExactSignOf", fn := fun _ => fun
  | [d] => { results := [.lit (.bool true)], args := [d] }
  | _ => none }
def fnExactSignOfRow : OpenClaim := { program := "ytplilopilfaogaa", sum := "6dd8ffbc93531a7286c31d5c2062e2243b6172e356f3c012b7630f7f49e24fc5", func := "loop.example/g02076/laws.FnExactSignOf", spec := "fnExactSignOf", apart := false }
def FnExactSignOfSaid : Prop := fnExactSignOfRow.holds Try.pinned (OpenSpec.ofChange fnExactSignOfSpec)

/-- ITS FALSE NEIGHBOUR: 'it returns false'. Refute it at one input. -/
def fnExactSignOfWrong : ChangeSpec := { name := "fnExactSignOf", fn := fun _ => fun
  | [d] => { results := [.lit (.bool false)], args := [d] }
  | _ => none }
def FnExactSignOfWrongFalsely : Prop := fnExactSignOfRow.holds Try.pinned (OpenSpec.ofChange fnExactSignOfWrong)

/-- 'laws.FnExactHeightOf': WHATEVER THE INPUT: true; the input reads as it did. -/
def fnExactHeightOfSpec : ChangeSpec := { name := "fnExactHeightOf", fn := fun _ => fun
  | [d] => { results := [.lit (.bool true)], args := [d] }
  | _ => none }
def fnExactHeightOfRow : OpenClaim := { program := "ytplilopilfaogaa", sum := "6dd8ffbc93531a7286c31d5c2062e2243b6172e356f3c012b7630f7f49e24fc5", func := "loop.example/g02076/laws.FnExactHeightOf", spec := "fnExactHeightOf", apart := false }
def FnExactHeightOfSaid : Prop := fnExactHeightOfRow.holds Try.pinned (OpenSpec.ofChange fnExactHeightOfSpec)

/-- ITS FALSE NEIGHBOUR: 'it returns false'. Refute it at one input. -/
def fnExactHeightOfWrong : ChangeSpec := { name := "fnExactHeightOf", fn := fun _ => fun
  | [d] => { results := [.lit (.bool false)], args := [d] }
  | _ => none }
def FnExactHeightOfWrongFalsely : Prop := fnExactHeightOfRow.holds Try.pinned (OpenSpec.ofChange fnExactHeightOfWrong)

/-- 'laws.FnExactSquareFree': WHATEVER THE INPUT: true; the input reads as it did. -/
def fnExactSquareFreeSpec : ChangeSpec := { name := "fnExactSquareFree", fn := fun _ => fun
  | [d] => { results := [.lit (.bool true)], args := [d] }
  | _ => none }
def fnExactSquareFreeRow : OpenClaim := { program := "ytplilopilfaogaa", sum := "6dd8ffbc93531a7286c31d5c2062e2243b6172e356f3c012b7630f7f49e24fc5", func := "loop.example/g02076/laws.FnExactSquareFree", spec := "fnExactSquareFree", apart := false }
def FnExactSquareFreeSaid : Prop := fnExactSquareFreeRow.holds Try.pinned (OpenSpec.ofChange fnExactSquareFreeSpec)

/-- ITS FALSE NEIGHBOUR: 'it returns false'. Refute it at one input. -/
def fnExactSquareFreeWrong : ChangeSpec := { name := "fnExactSquareFree", fn := fun _ => fun
  | [d] => { results := [.lit (.bool false)], args := [d] }
  | _ => none }
def FnExactSquareFreeWrongFalsely : Prop := fnExactSquareFreeRow.holds Try.pinned (OpenSpec.ofChange fnExactSquareFreeWrong)

/-- 'laws.FnExactRootSign': WHATEVER THE INPUT: true; the input reads as it did. -/
def fnExactRootSignSpec : ChangeSpec := { name := "fnExactRootSign", fn := fun _ => fun
  | [d] => { results := [.lit (.bool true)], args := [d] }
  | _ => none }
def fnExactRootSignRow : OpenClaim := { program := "ytplilopilfaogaa", sum := "6dd8ffbc93531a7286c31d5c2062e2243b6172e356f3c012b7630f7f49e24fc5", func := "loop.example/g02076/laws.FnExactRootSign", spec := "fnExactRootSign", apart := false }
def FnExactRootSignSaid : Prop := fnExactRootSignRow.holds Try.pinned (OpenSpec.ofChange fnExactRootSignSpec)

/-- ITS FALSE NEIGHBOUR: 'it returns false'. Refute it at one input. -/
def fnExactRootSignWrong : ChangeSpec := { name := "fnExactRootSign", fn := fun _ => fun
  | [d] => { results := [.lit (.bool false)], args := [d] }
  | _ => none }
def FnExactRootSignWrongFalsely : Prop := fnExactRootSignRow.holds Try.pinned (OpenSpec.ofChange fnExactRootSignWrong)

/-- 'laws.FnExactDeleteAt': WHATEVER THE INPUT: true; the input reads as it did. -/
def fnExactDeleteAtSpec : ChangeSpec := { name := "fnExactDeleteAt", fn := fun _ => fun
  | [d1, d2] => { results := [.lit (.bool true)], args := [d1, d2] }
  | _ => none }
def fnExactDeleteAtRow : OpenClaim := { program := "ytplilopilfaogaa", sum := "6dd8ffbc93531a7286c31d5c2062e2243b6172e356f3c012b7630f7f49e24fc5", func := "loop.example/g02076/laws.FnExactDeleteAt", spec := "fnExactDeleteAt", apart := false }
def FnExactDeleteAtSaid : Prop := fnExactDeleteAtRow.holds Try.pinned (OpenSpec.ofChange fnExactDeleteAtSpec)

/-- ITS FALSE NEIGHBOUR: 'it returns false'. Refute it at one input. -/
def fnExactDeleteAtWrong : ChangeSpec := { name := "fnExactDeleteAt", fn := fun _ => fun
  | [d1, d2] => { results := [.lit (.bool false)], args := [d1, d2] }
  | _ => none }
def FnExactDeleteAtWrongFalsely : Prop := fnExactDeleteAtRow.holds Try.pinned (OpenSpec.ofChange fnExactDeleteAtWrong)

/-- 'laws.FnExactReplayDeletions': WHATEVER THE INPUT: true; the input reads as it did. -/
def fnExactReplayDeletionsSpec : ChangeSpec := { name := "fnExactReplayDeletions", fn := fun _ => fun
  | [d1, d2] => { results := [.lit (.bool true)], args := [d1, d2] }
  | _ => none }
def fnExactReplayDeletionsRow : OpenClaim := { program := "ytplilopilfaogaa", sum := "6dd8ffbc93531a7286c31d5c2062e2243b6172e356f3c012b7630f7f49e24fc5", func := "loop.example/g02076/laws.FnExactReplayDeletions", spec := "fnExactReplayDeletions", apart := false }
def FnExactReplayDeletionsSaid : Prop := fnExactReplayDeletionsRow.holds Try.pinned (OpenSpec.ofChange fnExactReplayDeletionsSpec)

/-- ITS FALSE NEIGHBOUR: 'it returns false'. Refute it at one input. -/
def fnExactReplayDeletionsWrong : ChangeSpec := { name := "fnExactReplayDeletions", fn := fun _ => fun
  | [d1, d2] => { results := [.lit (.bool false)], args := [d1, d2] }
  | _ => none }
def FnExactReplayDeletionsWrongFalsely : Prop := fnExactReplayDeletionsRow.holds Try.pinned (OpenSpec.ofChange fnExactReplayDeletionsWrong)

/- THE SECOND FORM. 'bulk': how many values and letters a reading holds, each counted each time it is reached (what is shared counts as often as it is met; a slice's spare places count too). A statement '..UptoSaid' is the law's where the arguments, and the package variables that the reading takes, are together of bulk at most 1048576: NARROWER than '..Said'. Prove '..Said' where nothing that the law and all that it calls make is longer than what came in: it says more and counts as full. Else prove '..UptoSaid'. A law counts once. -/
mutual
def uptoBulk {H : Type} : DataW H → Nat
  | .lit (.string bytes) => bytes.length + 1
  | .lit _ => 1
  | .nil => 1
  | .ptr d => uptoBulk d + 1
  | .slice elems spare => uptoBulkAll elems + uptoBulkAll spare + 1
  | .agg parts => uptoBulkAll parts + 1
  | .iface _ d => uptoBulk d + 1
  | .map entries => uptoBulkEntries entries + 1
  | .held _ => 1
def uptoBulkAll {H : Type} : List (DataW H) → Nat
  | [] => 0
  | d :: r => uptoBulk d + uptoBulkAll r
def uptoBulkEntries {H : Type} : List (Lit × DataW H) → Nat
  | [] => 0
  | x :: r => uptoBulkEntry x + uptoBulkEntries r
def uptoBulkEntry {H : Type} : Lit × DataW H → Nat
  | (.string bytes, d) => bytes.length + uptoBulk d + 1
  | (_, d) => uptoBulk d + 1
 end
def uptoSmall : (H : Type) → List (DataW H) → Bool := fun _ ds => decide (uptoBulkAll ds ≤ 1048576)
def OpenSpec.upto (s : _root_.Go.ChangeSpec) : _root_.Go.OpenSpec := { _root_.Go.OpenSpec.ofChange s with cond := some uptoSmall }

/-- 'laws.FnExactSignOf', WHERE WHAT IT READS IS OF BULK AT MOST 1048576: true; the input reads as it did. -/
def fnExactSignOfUptoRow : OpenClaim := { program := "ytplilopilfaogaa", sum := "6dd8ffbc93531a7286c31d5c2062e2243b6172e356f3c012b7630f7f49e24fc5", func := "loop.example/g02076/laws.FnExactSignOf", spec := "fnExactSignOf", apart := false, narrowed := true }
def FnExactSignOfUptoSaid : Prop := fnExactSignOfUptoRow.holds Try.pinned (OpenSpec.upto fnExactSignOfSpec)

/-- 'laws.FnExactHeightOf', WHERE WHAT IT READS IS OF BULK AT MOST 1048576: true; the input reads as it did. -/
def fnExactHeightOfUptoRow : OpenClaim := { program := "ytplilopilfaogaa", sum := "6dd8ffbc93531a7286c31d5c2062e2243b6172e356f3c012b7630f7f49e24fc5", func := "loop.example/g02076/laws.FnExactHeightOf", spec := "fnExactHeightOf", apart := false, narrowed := true }
def FnExactHeightOfUptoSaid : Prop := fnExactHeightOfUptoRow.holds Try.pinned (OpenSpec.upto fnExactHeightOfSpec)

/-- 'laws.FnExactSquareFree', WHERE WHAT IT READS IS OF BULK AT MOST 1048576: true; the input reads as it did. -/
def fnExactSquareFreeUptoRow : OpenClaim := { program := "ytplilopilfaogaa", sum := "6dd8ffbc93531a7286c31d5c2062e2243b6172e356f3c012b7630f7f49e24fc5", func := "loop.example/g02076/laws.FnExactSquareFree", spec := "fnExactSquareFree", apart := false, narrowed := true }
def FnExactSquareFreeUptoSaid : Prop := fnExactSquareFreeUptoRow.holds Try.pinned (OpenSpec.upto fnExactSquareFreeSpec)

/-- 'laws.FnExactRootSign', WHERE WHAT IT READS IS OF BULK AT MOST 1048576: true; the input reads as it did. -/
def fnExactRootSignUptoRow : OpenClaim := { program := "ytplilopilfaogaa", sum := "6dd8ffbc93531a7286c31d5c2062e2243b6172e356f3c012b7630f7f49e24fc5", func := "loop.example/g02076/laws.FnExactRootSign", spec := "fnExactRootSign", apart := false, narrowed := true }
def FnExactRootSignUptoSaid : Prop := fnExactRootSignUptoRow.holds Try.pinned (OpenSpec.upto fnExactRootSignSpec)

/-- 'laws.FnExactDeleteAt', WHERE WHAT IT READS IS OF BULK AT MOST 1048576: true; the input reads as it did. -/
def fnExactDeleteAtUptoRow : OpenClaim := { program := "ytplilopilfaogaa", sum := "6dd8ffbc93531a7286c31d5c2062e2243b6172e356f3c012b7630f7f49e24fc5", func := "loop.example/g02076/laws.FnExactDeleteAt", spec := "fnExactDeleteAt", apart := false, narrowed := true }
def FnExactDeleteAtUptoSaid : Prop := fnExactDeleteAtUptoRow.holds Try.pinned (OpenSpec.upto fnExactDeleteAtSpec)

/-- 'laws.FnExactReplayDeletions', WHERE WHAT IT READS IS OF BULK AT MOST 1048576: true; the input reads as it did. -/
def fnExactReplayDeletionsUptoRow : OpenClaim := { program := "ytplilopilfaogaa", sum := "6dd8ffbc93531a7286c31d5c2062e2243b6172e356f3c012b7630f7f49e24fc5", func := "loop.example/g02076/laws.FnExactReplayDeletions", spec := "fnExactReplayDeletions", apart := false, narrowed := true }
def FnExactReplayDeletionsUptoSaid : Prop := fnExactReplayDeletionsUptoRow.holds Try.pinned (OpenSpec.upto fnExactReplayDeletionsSpec)

end Rows
end Go.Proofs.Ytplilopilfaogaa
