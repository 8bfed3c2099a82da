/-
  The law FnExactFormatRoots: for every input it comes back true, and its arguments read as they did. No condition.
-/
import Derived.Test.YtgliajcgcbnemaaDoorZ09
import Derived.Test.YtgliajcgcbnemaaDoorZWFormatRoots
import Derived.Test.YtgliajcgcbnemaaDoorTie
import Derived.Test.YtgliajcgcbnemaaDoorCards
import Derived.LaidMore
import Derived.OpenShut
import Derived.Stop.Joined
import Derived.Stop.LaidErr
import Derived.SevenTiedAt
import Derived.Lib.LaidTab
namespace Go.Proofs.YtgliajcgcbnemaaDoor
open Go.ChangeShapes Go.WideShapes Go.ChangeAt Go.RowKit Hx

/-- The door's own heap meets the condition. -/
theorem fnExactFormatRoots_door (os : Os) (args : Array Value) : laidMetH Tryd.prog Rows.fnExactFormatRootsRow.laid ((World.doorLaid Tryd.prog 24 os).forCall (fun _ _ => 0) ⟨#[], args, []⟩).memory :=
  laidMetH_of_parts3 (fuel := 8) (laidMet_of_run' 8 (by kernel_rfl) (by kernel_rfl)) (by kernel_rfl) (by kernel_rfl)

/-- What the condition gives the calculus: the table. -/
theorem fnExactFormatRoots_tab {W : World} (h : laidMetH Tryd.prog Rows.fnExactFormatRootsRow.laid W) : ∀ x ∈ Hx.tabs, x.1 < W.heap.size ∧ Hx.blk W x.1 = some x.2 := by
  rw [MakeChecks.laidMetH_plain _ _ _ (by kernel_rfl)] at h
  have h2 := Lib.tabIs_of_head (g := Hx.tabG) (t := 60) (e := 53) (n := 20) (k := .u64) (zs := Lib.pow10Tab) (by kernel_rfl) (by kernel_rfl) (by kernel_rfl) (by kernel_rfl) (by kernel_rfl) (by kernel_rfl) (h.tail.tail)
  intro x hx
  unfold Hx.tabs at hx
  obtain rfl := List.mem_singleton.1 hx
  unfold Lib.TabIs World.var? at h2
  replace h2 := Eq.trans (congrArg (fun o => Option.bind o _) (show some Hx.tabG = _ by kernel_rfl)) h2
  have h3 : Hx.blk W Hx.tabG = some ((Lib.pow10Tab.map fun z => Value.int .u64 z).toArray) := h2
  refine ⟨?_, h3⟩
  refine Nat.lt_of_not_le fun hle => ?_
  unfold Hx.blk at h3
  have h4 : W.heap[Hx.tabG]? = none := Array.getElem?_eq_none hle
  rw [h4] at h3
  cases h3

set_option maxRecDepth 100000 in
theorem fnExactFormatRoots_lifted (os : Os) (started : os.Started) (H : Type) (enc : TypeId × Value → H) :
    ReturnsInHanded {} Tryd.checked os 3 .any (fun w args => (Rows.fnExactFormatRootsSpec.pre enc Tryd.prog Tryd.f3 [] false w args ∧ laidMetH Tryd.prog Rows.fnExactFormatRootsRow.laid w) ∧ sizedMet enc Tryd.prog Tryd.f3 (OpenSpec.ofChange Rows.fnExactFormatRootsSpec) false w args) (Rows.fnExactFormatRootsSpec.post enc Tryd.prog Tryd.f3 false true false false) := by
  refine returnsInHanded_of_change_and (C := Tryd.checked) (X := fun w _ => laidMetH Tryd.prog Rows.fnExactFormatRootsRow.laid w) (fun _ _ _ hh h => h.of_heap hh) Hx.own started (by kernel_rfl) Tryd.func3
    (ChangeSpec.witness_shaped (enc := enc) (C := Tryd.checked) (os := os) (X := fun w _ => laidMetH Tryd.prog Rows.fnExactFormatRootsRow.laid w) false (World.doorLaid Tryd.prog 24 os) #[.slice none 0 0] 8 rfl (World.shaped_of_RefB (by kernel_rfl) (by kernel_rfl)) (by kernel_rfl) (by kernel_rfl) (by kernel_rfl) (fnExactFormatRoots_door os _)) ?_
  intro W base args ds gs before hval0 hW _ _ hL _
  have hval : ∀ (j : Nat) t v, Tryd.f3.params[j]? = some t → args[j]? = some v → Value.okWide Tryd.prog W .any base t v := hval0
  have hW' := hW
  obtain ⟨p0, q, hA0, hV, rfl, _, _⟩ := hW
  have hA : DataW.TrodAll enc Tryd.prog W 0 (fun _ => true) true Tryd.f3.params.toList args.toList ds p0 := hA0
  rw [Tryd.params3] at hA hval
  obtain ⟨v0, d0, rfl, rfl, h0⟩ := trodAll_one hA
  obtain ⟨rfl, rfl⟩ := trodVars_none hV
  clear hA0 hval0
  simp only [List.append_nil] at hW'
  have a0 : ∀ (W' : World), Below W.heap.size W W' → DataW.Trod enc Tryd.prog W' 0 (fun b => decide (b < W.heap.size)) true 22 v0 d0 p0 :=
    fun W' hn => Below.trod Hx.laidOut (by kernel_rfl) (of_decide_eq_true (by kernel_rfl)) h0 hn (fun x hx => by simpa using hW'.lt x (by simp [hx]))
  have R0 := Hx.Rep.start W ⟨fnExactFormatRoots_tab hL, (fun x hx => by cases hx), (fun x hx => by cases hx)⟩
  obtain ⟨l0, x0, φ0, hh0, s0, e0, R1, r0, t0⟩ := Hx.open_arg_rowsI Hx.und22 Hx.und29 Hx.und3 (by kernel_rfl) (by kernel_rfl) (hval 0 22 v0 rfl rfl) h0 R0
  refine (Hx.law_calls (vargs := #[v0]) (Hx.law_FormatRoots _ _ _ ⟨t0.1, t0.2⟩) R1 ⟨r0, trivial⟩).mono fun e W' ⟨he, hb⟩ => ?_
  subst he
  have er : (Rows.fnExactFormatRootsSpec.fn H ([d0] ++ [])).results = [.lit (.bool true)] := rfl
  have ea : (Rows.fnExactFormatRootsSpec.fn H ([d0] ++ [])).args = [d0] := rfl
  refine ⟨_, rfl, _, _, _, [], p0, [], hW', ?_, ?_, rfl, hb.frame _, fun h => by cases h⟩
  · rw [er]
    exact trodAll_mk1 (shut_bool Hx.und4 true)
  · rw [ea]
    exact trodAll_mk1 (a0 _ hb)

theorem fnExactFormatRoots_holds : Rows.FnExactFormatRootsSaid :=
  OpenClaim.holds_of_wide 3 Tryd.f3 rfl rfl rfl rfl rfl rfl rfl ⟨rfl, rfl, rfl, rfl, rfl⟩ rfl rfl rfl rfl rfl (by kernel_rfl) Tryd.func3 (by kernel_rfl)
    (of_decide_eq_true (by kernel_rfl)) (by unfold Func.isWrapper; rw [if_neg (of_decide_eq_false (by kernel_rfl))]; exact ⟨rfl, rfl⟩)
    (fun os started H enc _ => fnExactFormatRoots_lifted os started H enc)

/-- The tied card. -/
theorem fnExactFormatRoots_card : Rows.FnExactFormatRootsCardSaid :=
  Claim7.holds_tied_plain_at .later [] Rows.fnExactFormatRootsCard.laidKinds true Rows.fnExactFormatRootsCard.stood.harness false
    fnExactFormatRoots_holds (fun _ h => by cases h) (by kernel_rfl) (fun _ h => by cases h) fnExactFormatRoots_row_tie rfl ⟨rfl, rfl⟩ (by kernel_rfl) rfl
    (fun f fn hf hfn => by
      obtain rfl : f = 3 := Option.some.inj ((show Tryd.prog.funcNamed Rows.fnExactFormatRootsRow.func = some 3 by kernel_rfl).symm.trans hf) |>.symm
      obtain rfl : fn = Tryd.f3 := (Option.some.inj (Tryd.func3.symm.trans hfn)).symm
      exact ⟨by kernel_rfl, fun j t ht => by
        rw [Tryd.params3] at ht
        have hm : t ∈ [22] := by simpa using Array.mem_of_getElem? ht
        have hall : ([22].all fun u => !Tryd.prog.wantsStandIn u) = true := by kernel_rfl
        exact (show Tryd.prog.wantsStandIn t = false by simpa using List.all_eq_true.1 hall t hm)⟩)
    (by kernel_rfl)

end Go.Proofs.YtgliajcgcbnemaaDoor
