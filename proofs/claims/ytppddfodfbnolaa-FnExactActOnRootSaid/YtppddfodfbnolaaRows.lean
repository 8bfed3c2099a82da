/-
  No cell of these rows narrows 'for every input' (looked for: loops, veiled, ifaces, maps, wideKeys, modest, calm, conditions, laid).
  DERIVED. THE GIVEN ROWS OF THIS SEAT. 6 by the template 'for every input the law returns true; each argument reads behind the call as it read before'; 0 by the template 'total and deterministic' (their statements: YtppddfodfbnolaaTotals.lean).
  GIVEN WITH THE SEED: the statements are not yours to turn. If you find one false, say at which input.
  Laid BY PROGRAM, IN A SANDBOX (cutbox-rows.mjs): the forced cells as the released guide's own fill.sh prints them over the translation 99655ef7c6e0298e… (all of the seat's roots in one cut). By AI agents, Wed Nov 11 2026. No macro, syntax, notation, axiom, sorry.
-/
import Derived.Test.YtppddfodfbnolaaChecked
import GoSem.Claim
import GoSem.ClaimJoined
import GoSem.ClaimMapViews
import Derived.JoinedTies
import Derived.KernelRfl
namespace Go.Proofs.Ytppddfodfbnolaa
/- THE CELL 'sum', in the pinned program and in every row, IS THE sha256 OF THE DUMP (.gsa) THAT YtppddfodfbnolaaProg.lean LOADS. Nothing in Lean hashes anything: it is a label: what it is worth is what the hold of that sum in a sandbox is worth. -/
noncomputable def Try.pinned : Pinned := { name := "ytppddfodfbnolaa", sum := "99655ef7c6e0298e017431370e074025a75140de33963545905f0825759b2730", checked := Try.checked }
namespace Rows
def none {H : Type} : Left H := { results := [], args := [] }

/-- 'laws.FnExactIsRootVector': WHATEVER THE INPUT: true; the input reads as it did. -/
def fnExactIsRootVectorSpec : ChangeSpec := { name := "fnExactIsRootVector", fn := fun _ => fun
  | [d1, d2] => { results := [.lit (.bool true)], args := [d1, d2] }
  | _ => none }
def fnExactIsRootVectorRow : OpenClaim := { program := "ytppddfodfbnolaa", sum := "99655ef7c6e0298e017431370e074025a75140de33963545905f0825759b2730", func := "loop.example/g02076/laws.FnExactIsRootVector", spec := "fnExactIsRootVector", apart := false }
def FnExactIsRootVectorSaid : Prop := fnExactIsRootVectorRow.holds Try.pinned (OpenSpec.ofChange fnExactIsRootVectorSpec)

/-- ITS FALSE NEIGHBOUR: 'it returns false'. Refute it at one input. -/
def fnExactIsRootVectorWrong : ChangeSpec := { name := "fnExactIsRootVector", fn := fun _ => fun
  | [d1, d2] => { results := [.lit (.bool false)], args := [d1, d2] }
  | _ => none }
def FnExactIsRootVectorWrongFalsely : Prop := fnExactIsRootVectorRow.holds Try.pinned (OpenSpec.ofChange fnExactIsRootVectorWrong)

/-- 'laws.FnExactSimpleRoot': WHATEVER THE INPUT: true; the input reads as it did. -/
def fnExactSimpleRootSpec : ChangeSpec := { name := "fnExactSimpleRoot", fn := fun _ => fun
  | [d1, d2] => { results := [.lit (.bool true)], args := [d1, d2] }
  | _ => none }
def fnExactSimpleRootRow : OpenClaim := { program := "ytppddfodfbnolaa", sum := "99655ef7c6e0298e017431370e074025a75140de33963545905f0825759b2730", func := "loop.example/g02076/laws.FnExactSimpleRoot", spec := "fnExactSimpleRoot", apart := false }
def FnExactSimpleRootSaid : Prop := fnExactSimpleRootRow.holds Try.pinned (OpenSpec.ofChange fnExactSimpleRootSpec)

/-- ITS FALSE NEIGHBOUR: 'it returns false'. Refute it at one input. -/
def fnExactSimpleRootWrong : ChangeSpec := { name := "fnExactSimpleRoot", fn := fun _ => fun
  | [d1, d2] => { results := [.lit (.bool false)], args := [d1, d2] }
  | _ => none }
def FnExactSimpleRootWrongFalsely : Prop := fnExactSimpleRootRow.holds Try.pinned (OpenSpec.ofChange fnExactSimpleRootWrong)

/-- 'laws.FnExactWeightOfRoot': WHATEVER THE INPUT: true; the input reads as it did. -/
def fnExactWeightOfRootSpec : ChangeSpec := { name := "fnExactWeightOfRoot", fn := fun _ => fun
  | [d1, d2] => { results := [.lit (.bool true)], args := [d1, d2] }
  | _ => none }
def fnExactWeightOfRootRow : OpenClaim := { program := "ytppddfodfbnolaa", sum := "99655ef7c6e0298e017431370e074025a75140de33963545905f0825759b2730", func := "loop.example/g02076/laws.FnExactWeightOfRoot", spec := "fnExactWeightOfRoot", apart := false }
def FnExactWeightOfRootSaid : Prop := fnExactWeightOfRootRow.holds Try.pinned (OpenSpec.ofChange fnExactWeightOfRootSpec)

/-- ITS FALSE NEIGHBOUR: 'it returns false'. Refute it at one input. -/
def fnExactWeightOfRootWrong : ChangeSpec := { name := "fnExactWeightOfRoot", fn := fun _ => fun
  | [d1, d2] => { results := [.lit (.bool false)], args := [d1, d2] }
  | _ => none }
def FnExactWeightOfRootWrongFalsely : Prop := fnExactWeightOfRootRow.holds Try.pinned (OpenSpec.ofChange fnExactWeightOfRootWrong)

/-- 'laws.FnExactReflectRoot': WHATEVER THE INPUT: true; the input reads as it did. -/
def fnExactReflectRootSpec : ChangeSpec := { name := "fnExactReflectRoot", fn := fun _ => fun
  | [d1, d2, d3] => { results := [.lit (.bool true)], args := [d1, d2, d3] }
  | _ => none }
def fnExactReflectRootRow : OpenClaim := { program := "ytppddfodfbnolaa", sum := "99655ef7c6e0298e017431370e074025a75140de33963545905f0825759b2730", func := "loop.example/g02076/laws.FnExactReflectRoot", spec := "fnExactReflectRoot", apart := false }
def FnExactReflectRootSaid : Prop := fnExactReflectRootRow.holds Try.pinned (OpenSpec.ofChange fnExactReflectRootSpec)

/-- ITS FALSE NEIGHBOUR: 'it returns false'. Refute it at one input. -/
def fnExactReflectRootWrong : ChangeSpec := { name := "fnExactReflectRoot", fn := fun _ => fun
  | [d1, d2, d3] => { results := [.lit (.bool false)], args := [d1, d2, d3] }
  | _ => none }
def FnExactReflectRootWrongFalsely : Prop := fnExactReflectRootRow.holds Try.pinned (OpenSpec.ofChange fnExactReflectRootWrong)

/-- 'laws.FnExactActOnRoot': WHATEVER THE INPUT: true; the input reads as it did. -/
def fnExactActOnRootSpec : ChangeSpec := { name := "fnExactActOnRoot", fn := fun _ => fun
  | [d1, d2, d3] => { results := [.lit (.bool true)], args := [d1, d2, d3] }
  | _ => none }
def fnExactActOnRootRow : OpenClaim := { program := "ytppddfodfbnolaa", sum := "99655ef7c6e0298e017431370e074025a75140de33963545905f0825759b2730", func := "loop.example/g02076/laws.FnExactActOnRoot", spec := "fnExactActOnRoot", apart := false }
def FnExactActOnRootSaid : Prop := fnExactActOnRootRow.holds Try.pinned (OpenSpec.ofChange fnExactActOnRootSpec)

/-- ITS FALSE NEIGHBOUR: 'it returns false'. Refute it at one input. -/
def fnExactActOnRootWrong : ChangeSpec := { name := "fnExactActOnRoot", fn := fun _ => fun
  | [d1, d2, d3] => { results := [.lit (.bool false)], args := [d1, d2, d3] }
  | _ => none }
def FnExactActOnRootWrongFalsely : Prop := fnExactActOnRootRow.holds Try.pinned (OpenSpec.ofChange fnExactActOnRootWrong)

/-- 'laws.FnExactAreSame': WHATEVER THE INPUT: true; the input reads as it did. -/
def fnExactAreSameSpec : ChangeSpec := { name := "fnExactAreSame", fn := fun _ => fun
  | [d1, d2, d3] => { results := [.lit (.bool true)], args := [d1, d2, d3] }
  | _ => none }
def fnExactAreSameRow : OpenClaim := { program := "ytppddfodfbnolaa", sum := "99655ef7c6e0298e017431370e074025a75140de33963545905f0825759b2730", func := "loop.example/g02076/laws.FnExactAreSame", spec := "fnExactAreSame", apart := false }
def FnExactAreSameSaid : Prop := fnExactAreSameRow.holds Try.pinned (OpenSpec.ofChange fnExactAreSameSpec)

/-- ITS FALSE NEIGHBOUR: 'it returns false'. Refute it at one input. -/
def fnExactAreSameWrong : ChangeSpec := { name := "fnExactAreSame", fn := fun _ => fun
  | [d1, d2, d3] => { results := [.lit (.bool false)], args := [d1, d2, d3] }
  | _ => none }
def FnExactAreSameWrongFalsely : Prop := fnExactAreSameRow.holds Try.pinned (OpenSpec.ofChange fnExactAreSameWrong)

/- THE SECOND FORM. 'bulk': how many values and letters a reading holds, each counted each time it is reached (what is shared counts as often as it is met; a slice's spare places count too). A statement '..UptoSaid' is the law's where the arguments, and the package variables that the reading takes, are together of bulk at most 1048576: NARROWER than '..Said'. Prove '..Said' where nothing that the law and all that it calls make is longer than what came in: it says more and counts as full. Else prove '..UptoSaid'. A law counts once. -/
mutual
def uptoBulk {H : Type} : DataW H → Nat
  | .lit (.string bytes) => bytes.length + 1
  | .lit _ => 1
  | .nil => 1
  | .ptr d => uptoBulk d + 1
  | .slice elems spare => uptoBulkAll elems + uptoBulkAll spare + 1
  | .agg parts => uptoBulkAll parts + 1
  | .iface _ d => uptoBulk d + 1
  | .map entries => uptoBulkEntries entries + 1
  | .held _ => 1
def uptoBulkAll {H : Type} : List (DataW H) → Nat
  | [] => 0
  | d :: r => uptoBulk d + uptoBulkAll r
def uptoBulkEntries {H : Type} : List (Lit × DataW H) → Nat
  | [] => 0
  | x :: r => uptoBulkEntry x + uptoBulkEntries r
def uptoBulkEntry {H : Type} : Lit × DataW H → Nat
  | (.string bytes, d) => bytes.length + uptoBulk d + 1
  | (_, d) => uptoBulk d + 1
 end
def uptoSmall : (H : Type) → List (DataW H) → Bool := fun _ ds => decide (uptoBulkAll ds ≤ 1048576)
def OpenSpec.upto (s : _root_.Go.ChangeSpec) : _root_.Go.OpenSpec := { _root_.Go.OpenSpec.ofChange s with cond := some uptoSmall }

/-- 'laws.FnExactIsRootVector', WHERE WHAT IT READS IS OF BULK AT MOST 1048576: true; the input reads as it did. -/
def fnExactIsRootVectorUptoRow : OpenClaim := { program := "ytppddfodfbnolaa", sum := "99655ef7c6e0298e017431370e074025a75140de33963545905f0825759b2730", func := "loop.example/g02076/laws.FnExactIsRootVector", spec := "fnExactIsRootVector", apart := false, narrowed := true }
def FnExactIsRootVectorUptoSaid : Prop := fnExactIsRootVectorUptoRow.holds Try.pinned (OpenSpec.upto fnExactIsRootVectorSpec)

/-- 'laws.FnExactSimpleRoot', WHERE WHAT IT READS IS OF BULK AT MOST 1048576: true; the input reads as it did. -/
def fnExactSimpleRootUptoRow : OpenClaim := { program := "ytppddfodfbnolaa", sum := "99655ef7c6e0298e017431370e074025a75140de33963545905f0825759b2730", func := "loop.example/g02076/laws.FnExactSimpleRoot", spec := "fnExactSimpleRoot", apart := false, narrowed := true }
def FnExactSimpleRootUptoSaid : Prop := fnExactSimpleRootUptoRow.holds Try.pinned (OpenSpec.upto fnExactSimpleRootSpec)

/-- 'laws.FnExactWeightOfRoot', WHERE WHAT IT READS IS OF BULK AT MOST 1048576: true; the input reads as it did. -/
def fnExactWeightOfRootUptoRow : OpenClaim := { program := "ytppddfodfbnolaa", sum := "99655ef7c6e0298e017431370e074025a75140de33963545905f0825759b2730", func := "loop.example/g02076/laws.FnExactWeightOfRoot", spec := "fnExactWeightOfRoot", apart := false, narrowed := true }
def FnExactWeightOfRootUptoSaid : Prop := fnExactWeightOfRootUptoRow.holds Try.pinned (OpenSpec.upto fnExactWeightOfRootSpec)

/-- 'laws.FnExactReflectRoot', WHERE WHAT IT READS IS OF BULK AT MOST 1048576: true; the input reads as it did. -/
def fnExactReflectRootUptoRow : OpenClaim := { program := "ytppddfodfbnolaa", sum := "99655ef7c6e0298e017431370e074025a75140de33963545905f0825759b2730", func := "loop.example/g02076/laws.FnExactReflectRoot", spec := "fnExactReflectRoot", apart := false, narrowed := true }
def FnExactReflectRootUptoSaid : Prop := fnExactReflectRootUptoRow.holds Try.pinned (OpenSpec.upto fnExactReflectRootSpec)

/-- 'laws.FnExactActOnRoot', WHERE WHAT IT READS IS OF BULK AT MOST 1048576: true; the input reads as it did. -/
def fnExactActOnRootUptoRow : OpenClaim := { program := "ytppddfodfbnolaa", sum := "99655ef7c6e0298e017431370e074025a75140de33963545905f0825759b2730", func := "loop.example/g02076/laws.FnExactActOnRoot", spec := "fnExactActOnRoot", apart := false, narrowed := true }
def FnExactActOnRootUptoSaid : Prop := fnExactActOnRootUptoRow.holds Try.pinned (OpenSpec.upto fnExactActOnRootSpec)

/-- 'laws.FnExactAreSame', WHERE WHAT IT READS IS OF BULK AT MOST 1048576: true; the input reads as it did. -/
def fnExactAreSameUptoRow : OpenClaim := { program := "ytppddfodfbnolaa", sum := "99655ef7c6e0298e017431370e074025a75140de33963545905f0825759b2730", func := "loop.example/g02076/laws.FnExactAreSame", spec := "fnExactAreSame", apart := false, narrowed := true }
def FnExactAreSameUptoSaid : Prop := fnExactAreSameUptoRow.holds Try.pinned (OpenSpec.upto fnExactAreSameSpec)

end Rows
end Go.Proofs.Ytppddfodfbnolaa
