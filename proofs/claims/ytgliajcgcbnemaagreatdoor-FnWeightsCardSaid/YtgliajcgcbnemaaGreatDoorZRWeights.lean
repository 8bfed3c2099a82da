/-
  The law FnWeights: for every input it comes back true, and its arguments read as they did. No condition.
-/
import Derived.Test.YtgliajcgcbnemaaGreatDoorZ19
import Derived.Test.YtgliajcgcbnemaaGreatDoorZWWeights
import Derived.Test.YtgliajcgcbnemaaGreatDoorTie
import Derived.Test.YtgliajcgcbnemaaGreatDoorCards
import Derived.LaidMore
import Derived.OpenShut
import Derived.Stop.Joined
import Derived.Stop.LaidErr
import Derived.SevenTiedAt
import Derived.Lib.LaidTab
import Derived.Lay
namespace Go.Proofs.YtgliajcgcbnemaaGreatDoor
open Go.ChangeShapes Go.WideShapes Go.ChangeAt Go.RowKit Hx

/-- What the condition gives the calculus: the table. -/
theorem fnWeights_tab {W : World} (h : laidMetH Tryz.prog Rows.fnWeightsRow.laid W) : ∀ x ∈ Hx.tabs, x.1 < W.heap.size ∧ Hx.blk W x.1 = some x.2 := by
  rw [MakeChecks.laidMetH_plain _ _ _ (by kernel_rfl)] at h
  have h2 := Lib.tabIs_of_head (g := Hx.tabG) (t := 220) (e := 141) (n := 20) (k := .u64) (zs := Lib.pow10Tab) (by kernel_rfl) (by kernel_rfl) (by kernel_rfl) (by kernel_rfl) (by kernel_rfl) (by kernel_rfl) (h.tail.tail)
  intro x hx
  unfold Hx.tabs at hx
  obtain rfl := List.mem_singleton.1 hx
  unfold Lib.TabIs World.var? at h2
  replace h2 := Eq.trans (congrArg (fun o => Option.bind o _) (show some Hx.tabG = _ by kernel_rfl)) h2
  have h3 : Hx.blk W Hx.tabG = some ((Lib.pow10Tab.map fun z => Value.int .u64 z).toArray) := h2
  refine ⟨?_, h3⟩
  refine Nat.lt_of_not_le fun hle => ?_
  unfold Hx.blk at h3
  have h4 : W.heap[Hx.tabG]? = none := Array.getElem?_eq_none hle
  rw [h4] at h3
  cases h3

/-- A listed variable that holds an error. -/
theorem laid_held {P : Program} {W : World} {n nm : String} {d : DataW Unit} {r : List (String × DataW Unit)} {g : Nat} {ti : TypeId} {ms : Array (String × TypeId)} (h : laidMet P ((n, .iface nm d) :: r) W)
    (hg : P.globalNamed n = some g) (ht : (P.globals[g]?).map (·.type) = some ti) (hi : P.underlying ti = some (.interface ms)) : g < W.heap.size ∧ ∃ ev, W.cell? ⟨g, 0, none⟩ = some ev ∧ (ev = .nilIface ∨ ∃ te pe, ev = .iface te pe) := by
  obtain ⟨ps, ⟨g0, t0, cs0, f0, p0, q0, hg0, ht0, hv0, hd0, _, e0⟩, _, _⟩ := h
  obtain rfl := Option.some.inj (hg.symm.trans hg0)
  obtain rfl := Option.some.inj (ht.symm.trans ht0)
  obtain ⟨l0⟩ := cs0
  obtain ⟨f1, u, v, rfl, hn, h1⟩ := iface_of_trod hi hd0
  have hc := World.var?_cell hg hv0 0
  have hc2 : W.cell? ⟨g, 0, none⟩ = some (.iface u v) := by simpa using hc
  exact ⟨World.block_lt_of_cell? _ _ hc2, _, hc2, Or.inr ⟨u, v, rfl⟩⟩

/-- What the condition gives the calculus: the two errors. -/
theorem fnWeights_err {W : World} (h : laidMetH Tryz.prog Rows.fnWeightsRow.laid W) : ∀ g ∈ Hx.tabE, g < W.heap.size ∧ ∃ ev, W.cell? ⟨g, 0, none⟩ = some ev ∧ (ev = .nilIface ∨ ∃ te pe, ev = .iface te pe) := by
  rw [MakeChecks.laidMetH_plain _ _ _ (by kernel_rfl)] at h
  intro g hg
  unfold Hx.tabE at hg
  simp only [List.mem_cons, List.not_mem_nil, or_false] at hg
  rcases hg with rfl | rfl
  · exact laid_held (h.tail.tail.tail.tail.tail) (by kernel_rfl) (by kernel_rfl) Hx.und110
  · exact laid_held (h.tail.tail.tail.tail) (by kernel_rfl) (by kernel_rfl) Hx.und110

set_option maxRecDepth 100000 in
theorem fnWeights_lifted (os : Os) (started : os.Started) (H : Type) (enc : TypeId × Value → H) :
    ReturnsInHanded {} Tryz.checked os 7 .any (fun w args => (Rows.fnWeightsSpec.pre enc Tryz.prog Tryz.f7 [] false w args ∧ laidMetH Tryz.prog Rows.fnWeightsRow.laid w) ∧ sizedMet enc Tryz.prog Tryz.f7 (OpenSpec.ofChange Rows.fnWeightsSpec) false w args) (Rows.fnWeightsSpec.post enc Tryz.prog Tryz.f7 false true false false) := by
  refine Hx.row_shaped (C := Tryz.checked) Hx.own started (by kernel_rfl) Tryz.func7
    (ChangeSpec.witness_shaped (enc := enc) (C := Tryz.checked) (os := os) (X := fun w _ => laidMetH Tryz.prog Rows.fnWeightsRow.laid w) false (World.laidAll Tryz.prog os Rows.fnWeightsRow.laid) #[.slice none 0 0] 8 (World.laidAll_os _ _ _) (World.shaped_of_ZipB (by kernel_rfl) (by kernel_rfl)) (by kernel_rfl) (by kernel_rfl) (by kernel_rfl)
      (by rw [MakeChecks.laidMetH_plain _ _ _ (by kernel_rfl)]; exact laidMet_laidAll _ (by kernel_rfl) (by kernel_rfl))) ?_
  intro W base args ds gs before hval0 hW hL hsh
  have hval : ∀ (j : Nat) t v, Tryz.f7.params[j]? = some t → args[j]? = some v → Value.okWide Tryz.prog W .any base t v := hval0
  have hW' := hW
  obtain ⟨p0, q, hA0, hV, rfl, _, _⟩ := hW
  have hA : DataW.TrodAll enc Tryz.prog W 0 (fun _ => true) true Tryz.f7.params.toList args.toList ds p0 := hA0
  rw [Tryz.params7] at hA hval
  obtain ⟨v0, d0, rfl, rfl, h0⟩ := trodAll_one hA
  obtain ⟨rfl, rfl⟩ := trodVars_none hV
  clear hA0 hval0
  simp only [List.append_nil] at hW'
  have a0 : ∀ (W' : World), Below W.heap.size W W' → DataW.Trod enc Tryz.prog W' 0 (fun b => decide (b < W.heap.size)) true 34 v0 d0 p0 :=
    fun W' hn => Below.trod Hx.laidOut (by kernel_rfl) (of_decide_eq_true (by kernel_rfl)) h0 hn (fun x hx => by simpa using hW'.lt x (by simp [hx]))
  have R0 := Hx.Rep.start W ⟨fnWeights_tab hL, Hx.tab_shaped hsh, fnWeights_err hL⟩
  obtain ⟨l0, x0, φ0, hh0, s0, e0, R1, r0, t0⟩ := Hx.open_arg_bytes Hx.und34 Hx.und5 (by kernel_rfl) (hval 0 34 v0 rfl rfl) h0 R0
  refine (Hx.law_calls (vargs := #[v0]) (Hx.law_Weights _ _ _ t0) R1 ⟨r0, trivial⟩).mono fun e W' ⟨he, hb⟩ => ?_
  subst he
  have er : (Rows.fnWeightsSpec.fn H ([d0] ++ [])).results = [.lit (.bool true)] := rfl
  have ea : (Rows.fnWeightsSpec.fn H ([d0] ++ [])).args = [d0] := rfl
  refine ⟨_, rfl, _, _, _, [], p0, [], hW', ?_, ?_, rfl, hb.frame _, fun h => by cases h⟩
  · rw [er]
    exact trodAll_mk1 (shut_bool Hx.und4 true)
  · rw [ea]
    exact trodAll_mk1 (a0 _ hb)

theorem fnWeights_holds : Rows.FnWeightsSaid :=
  OpenClaim.holds_of_wide 7 Tryz.f7 rfl rfl rfl rfl rfl rfl rfl ⟨rfl, rfl, rfl, rfl, rfl⟩ rfl rfl rfl rfl rfl (by kernel_rfl) Tryz.func7 (by kernel_rfl)
    (of_decide_eq_true (by kernel_rfl)) (by unfold Func.isWrapper; rw [if_neg (of_decide_eq_false (by kernel_rfl))]; exact ⟨rfl, rfl⟩)
    (fun os started H enc _ => fnWeights_lifted os started H enc)

/-- The tied card. -/
theorem fnWeights_card : Rows.FnWeightsCardSaid :=
  Claim7.holds_tied_plain_at .later [] Rows.fnWeightsCard.laidKinds true Rows.fnWeightsCard.stood.harness Rows.fnWeightsCard.stood.looks
    fnWeights_holds (fun _ h => by cases h) (by kernel_rfl) (fun _ h => by cases h) fnWeights_row_tie rfl ⟨rfl, rfl⟩ (by kernel_rfl) rfl
    (fun f fn hf hfn => by
      obtain rfl : f = 7 := Option.some.inj ((show Tryz.prog.funcNamed Rows.fnWeightsRow.func = some 7 by kernel_rfl).symm.trans hf) |>.symm
      obtain rfl : fn = Tryz.f7 := (Option.some.inj (Tryz.func7.symm.trans hfn)).symm
      exact ⟨by kernel_rfl, fun j t ht => by
        rw [Tryz.params7] at ht
        have hm : t ∈ [34] := by simpa using Array.mem_of_getElem? ht
        have hall : ([34].all fun u => !Tryz.prog.wantsStandIn u) = true := by kernel_rfl
        exact (show Tryz.prog.wantsStandIn t = false by simpa using List.all_eq_true.1 hall t hm)⟩)
    (by kernel_rfl)

end Go.Proofs.YtgliajcgcbnemaaGreatDoor
