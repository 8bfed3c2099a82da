/-
  The law FnBraids: for every input it comes back true, and its arguments read as they did. No condition.
-/
import Derived.Test.YtjgnnjegaedinaaZ24
import Derived.Test.YtjgnnjegaedinaaZWBraids
namespace Go.Proofs.Ytjgnnjegaedinaa
open Go.ChangeShapes Go.WideShapes Go.ChangeAt Go.RowKit Hx

set_option maxRecDepth 100000 in
theorem fnBraids_lifted (os : Os) (started : os.Started) (H : Type) (enc : TypeId × Value → H) :
    ReturnsInHanded {} Try.checked os 3 .any (Rows.fnBraidsSpec.pre6 enc Try.prog Try.f3 Rows.fnBraidsRow.domain false) (Rows.fnBraidsSpec.post enc Try.prog Try.f3 false true false false) := by
  refine returnsInHanded_of_change (C := Try.checked) Hx.own started (by kernel_rfl) Try.func3
    (ChangeSpec.witness6 (enc := enc) (C := Try.checked) false ⟨#[], #[.slice none 0 0], []⟩ 8 (by kernel_rfl) (by kernel_rfl) (by kernel_rfl) (by kernel_rfl)) ?_
  intro W base args ds gs before hval0 hW _ _
  have hval : ∀ (j : Nat) t v, Try.f3.params[j]? = some t → args[j]? = some v → Value.okWide Try.prog W .any base t v := hval0
  have hW' := hW
  obtain ⟨p0, q, hA0, hV, rfl, _, _⟩ := hW
  have hA : DataW.TrodAll enc Try.prog W 0 (fun _ => true) true Try.f3.params.toList args.toList ds p0 := hA0
  rw [Try.params3] at hA hval
  obtain ⟨v0, d0, rfl, rfl, h0⟩ := trodAll_one hA
  obtain ⟨rfl, rfl⟩ := trodVars_none hV
  clear hA0 hval0
  simp only [List.append_nil] at hW'
  have a0 : ∀ (W' : World), Below W.heap.size W W' → DataW.Trod enc Try.prog W' 0 (fun b => decide (b < W.heap.size)) true 22 v0 d0 p0 :=
    fun W' hn => Below.trod Hx.laidOut (by kernel_rfl) (of_decide_eq_true (by kernel_rfl)) h0 hn (fun x hx => by simpa using hW'.lt x (by simp [hx]))
  have R0 := Hx.Rep.start W
  obtain ⟨l0, x0, φ0, hh0, s0, e0, R1, r0, t0⟩ := Hx.open_arg_bytes Hx.und22 Hx.und5 (by kernel_rfl) (hval 0 22 v0 rfl rfl) h0 R0
  refine (Hx.law_calls (vargs := #[v0]) (Hx.law_Braids _ _ _ t0) R1 ⟨r0, trivial⟩).mono fun e W' ⟨he, hb⟩ => ?_
  subst he
  have er : (Rows.fnBraidsSpec.fn H ([d0] ++ [])).results = [.lit (.bool true)] := rfl
  have ea : (Rows.fnBraidsSpec.fn H ([d0] ++ [])).args = [d0] := rfl
  refine ⟨_, rfl, _, _, _, [], p0, [], hW', ?_, ?_, rfl, hb.frame _, fun h => by cases h⟩
  · rw [er]
    exact trodAll_mk1 (shut_bool Hx.und4 true)
  · rw [ea]
    exact trodAll_mk1 (a0 _ hb)

theorem fnBraids_holds : Rows.FnBraidsSaid :=
  OpenClaim.holds_of_wide 3 Try.f3 rfl rfl rfl rfl rfl rfl rfl ⟨rfl, rfl, rfl, rfl, rfl⟩ rfl rfl rfl rfl rfl (by kernel_rfl) Try.func3 (by kernel_rfl)
    (of_decide_eq_true (by kernel_rfl)) (by unfold Func.isWrapper; rw [if_neg (of_decide_eq_false (by kernel_rfl))]; exact ⟨rfl, rfl⟩)
    (fun os started H enc _ => fnBraids_lifted os started H enc)

end Go.Proofs.Ytjgnnjegaedinaa
