/-
  The law FnExactLengthCounts: for every input it comes back true, and its arguments read as they did. No condition.
-/
import Derived.Test.YtgliajcgcbnemaaGreatDoorZ23
import Derived.Test.YtgliajcgcbnemaaGreatDoorZWLengthCounts
import Derived.Test.YtgliajcgcbnemaaGreatDoorTie
import Derived.Test.YtgliajcgcbnemaaGreatDoorCards
import Derived.LaidMore
import Derived.OpenShut
import Derived.Stop.Joined
import Derived.Stop.LaidErr
import Derived.SevenTiedAt
import Derived.Lib.LaidTab
import Derived.Lay
namespace Go.Proofs.YtgliajcgcbnemaaGreatDoor
open Go.ChangeShapes Go.WideShapes Go.ChangeAt Go.RowKit Hx


set_option maxRecDepth 100000 in
theorem fnExactLengthCounts_lifted (os : Os) (started : os.Started) (H : Type) (enc : TypeId × Value → H) :
    ReturnsInHanded {} Tryz.checked os 5 .any (fun w args => (Rows.fnExactLengthCountsSpec.pre enc Tryz.prog Tryz.f5 [] false w args ∧ laidMetH Tryz.prog Rows.fnExactLengthCountsRow.laid w) ∧ sizedMet enc Tryz.prog Tryz.f5 (OpenSpec.ofChange Rows.fnExactLengthCountsSpec) false w args) (Rows.fnExactLengthCountsSpec.post enc Tryz.prog Tryz.f5 false true false false) := by
  refine Hx.row_shaped (C := Tryz.checked) Hx.own started (by kernel_rfl) Tryz.func5
    (ChangeSpec.witness_shaped (enc := enc) (C := Tryz.checked) (os := os) (X := fun w _ => laidMetH Tryz.prog Rows.fnExactLengthCountsRow.laid w) false (World.laidAll Tryz.prog os Rows.fnExactLengthCountsRow.laid) #[.slice none 0 0] 8 (World.laidAll_os _ _ _) (World.shaped_of_ZipB (by kernel_rfl) (by kernel_rfl)) (by kernel_rfl) (by kernel_rfl) (by kernel_rfl)
      (by rw [MakeChecks.laidMetH_plain _ _ _ (by kernel_rfl)]; exact laidMet_laidAll _ (by kernel_rfl) (by kernel_rfl))) ?_
  intro W base args ds gs before hval0 hW hL hsh
  have hval : ∀ (j : Nat) t v, Tryz.f5.params[j]? = some t → args[j]? = some v → Value.okWide Tryz.prog W .any base t v := hval0
  have hW' := hW
  obtain ⟨p0, q, hA0, hV, rfl, _, _⟩ := hW
  have hA : DataW.TrodAll enc Tryz.prog W 0 (fun _ => true) true Tryz.f5.params.toList args.toList ds p0 := hA0
  rw [Tryz.params5] at hA hval
  obtain ⟨v0, d0, rfl, rfl, h0⟩ := trodAll_one hA
  obtain ⟨rfl, rfl⟩ := trodVars_none hV
  clear hA0 hval0
  simp only [List.append_nil] at hW'
  have a0 : ∀ (W' : World), Below W.heap.size W W' → DataW.Trod enc Tryz.prog W' 0 (fun b => decide (b < W.heap.size)) true 22 v0 d0 p0 :=
    fun W' hn => Below.trod Hx.laidOut (by kernel_rfl) (of_decide_eq_true (by kernel_rfl)) h0 hn (fun x hx => by simpa using hW'.lt x (by simp [hx]))
  have R0 := Hx.Rep.start W ⟨(fun x hx => by cases hx), Hx.tab_shaped hsh, (fun x hx => by cases hx)⟩
  obtain ⟨l0, x0, φ0, hh0, s0, e0, R1, r0, t0⟩ := Hx.open_arg_rows Hx.und22 Hx.und30 Hx.und3 (by kernel_rfl) (by kernel_rfl) (hval 0 22 v0 rfl rfl) h0 R0
  refine (Hx.law_calls (vargs := #[v0]) (Hx.law_LengthCounts _ _ _ ⟨t0.1, t0.2⟩) R1 ⟨r0, trivial⟩).mono fun e W' ⟨he, hb⟩ => ?_
  subst he
  have er : (Rows.fnExactLengthCountsSpec.fn H ([d0] ++ [])).results = [.lit (.bool true)] := rfl
  have ea : (Rows.fnExactLengthCountsSpec.fn H ([d0] ++ [])).args = [d0] := rfl
  refine ⟨_, rfl, _, _, _, [], p0, [], hW', ?_, ?_, rfl, hb.frame _, fun h => by cases h⟩
  · rw [er]
    exact trodAll_mk1 (shut_bool Hx.und4 true)
  · rw [ea]
    exact trodAll_mk1 (a0 _ hb)

theorem fnExactLengthCounts_holds : Rows.FnExactLengthCountsSaid :=
  OpenClaim.holds_of_wide 5 Tryz.f5 rfl rfl rfl rfl rfl rfl rfl ⟨rfl, rfl, rfl, rfl, rfl⟩ rfl rfl rfl rfl rfl (by kernel_rfl) Tryz.func5 (by kernel_rfl)
    (of_decide_eq_true (by kernel_rfl)) (by unfold Func.isWrapper; rw [if_neg (of_decide_eq_false (by kernel_rfl))]; exact ⟨rfl, rfl⟩)
    (fun os started H enc _ => fnExactLengthCounts_lifted os started H enc)

/-- The tied card. -/
theorem fnExactLengthCounts_card : Rows.FnExactLengthCountsCardSaid :=
  Claim7.holds_tied_plain_at .later [] Rows.fnExactLengthCountsCard.laidKinds true Rows.fnExactLengthCountsCard.stood.harness Rows.fnExactLengthCountsCard.stood.looks
    fnExactLengthCounts_holds (fun _ h => by cases h) (by kernel_rfl) (fun _ h => by cases h) fnExactLengthCounts_row_tie rfl ⟨rfl, rfl⟩ (by kernel_rfl) rfl
    (fun f fn hf hfn => by
      obtain rfl : f = 5 := Option.some.inj ((show Tryz.prog.funcNamed Rows.fnExactLengthCountsRow.func = some 5 by kernel_rfl).symm.trans hf) |>.symm
      obtain rfl : fn = Tryz.f5 := (Option.some.inj (Tryz.func5.symm.trans hfn)).symm
      exact ⟨by kernel_rfl, fun j t ht => by
        rw [Tryz.params5] at ht
        have hm : t ∈ [22] := by simpa using Array.mem_of_getElem? ht
        have hall : ([22].all fun u => !Tryz.prog.wantsStandIn u) = true := by kernel_rfl
        exact (show Tryz.prog.wantsStandIn t = false by simpa using List.all_eq_true.1 hall t hm)⟩)
    (by kernel_rfl)

end Go.Proofs.YtgliajcgcbnemaaGreatDoor
