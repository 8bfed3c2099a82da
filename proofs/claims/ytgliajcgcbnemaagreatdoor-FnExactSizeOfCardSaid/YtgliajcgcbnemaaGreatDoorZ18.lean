/-
  A row whose walk wants the shape of the world in which it begins: the number of a library's own variable.
-/
import Derived.Test.YtgliajcgcbnemaaGreatDoorZ17
import Derived.LaidMore
import Derived.OpenShut
import Derived.Stop.Joined
namespace Go.Proofs.YtgliajcgcbnemaaGreatDoor.Hx
open Go.ChangeShapes Go.WideShapes Go.ChangeAt Go.RowKit

theorem row_shaped {H : Type} {enc : TypeId × Value → H} {C : Checked} {os : Os} {f : FuncId} {fn : Func} {s : ChangeSpec} {l : List (String × DataW Unit)} (own : ownKnob C.prog.godebug = none) (started : os.Started)
    (noInit : C.prog.inits.idxOf? f = none) (hfn : C.prog.funcs[f]? = some fn)
    (wit : ∃ (w : World) (tape : Tape) (i : Input), w.os = os ∧ (w.forCall tape i).Shaped C.prog ∧ i.vars = [] ∧ Input.okWide C.prog (w.forCall tape i) .any w.heap.size f i ∧
      ((s.pre enc C.prog fn [] false (w.forCall tape i).memory i.args ∧ laidMetH C.prog l (w.forCall tape i).memory) ∧ sizedMet enc C.prog fn (OpenSpec.ofChange s) false (w.forCall tape i).memory i.args) ∧ Assume.holds {} C.prog (lone (Frame.enter C.prog f i.args .normal) [] (w.forCall tape i)))
    (walk : ∀ (W : World) (base : Nat) (args : Array Value) (ds gs : List (DataW H)) (before : List MemPlace), (∀ (j : Nat) t v, fn.params[j]? = some t → args[j]? = some v → Value.okWide C.prog W .any base t v) →
      DataW.Whole enc C.prog fn.params.toList s.vars false W args.toList ds gs before → laidMetH C.prog l W → W.ShapedOpen C.prog →
      Calls C.prog f args W fun e W' => ∃ v, e = .returned v ∧ s.post enc C.prog fn false true false false W args v W') :
    ReturnsInHanded {} C os f .any (fun w args => (s.pre enc C.prog fn [] false w args ∧ laidMetH C.prog l w) ∧ sizedMet enc C.prog fn (OpenSpec.ofChange s) false w args) (s.post enc C.prog fn false true false false) :=
  returnsInHanded_of_calls own started noInit wit fun w tape i _ shape _ ok met _ => by
    obtain ⟨_, _, _, g, hg, _, _, _, _, vals⟩ := ok
    obtain rfl : fn = g := Option.some.inj (hfn.symm.trans hg)
    obtain ⟨⟨⟨ds, gs, before, whole, _⟩, laid⟩, _⟩ := met
    have whole' := DataW.Whole.of_heap (w' := w.forCall tape i) (by rfl) whole
    have laid' := laidMetH.of_heap (w' := w.forCall tape i) (by rfl) laid
    have run := walk (w.forCall tape i) w.heap.size i.args ds gs before vals whole' laid' shape
    exact run.mono fun e W' ⟨v, he, hp⟩ => by
      rw [he]
      exact ChangeSpec.post_blind hp

/-- The length that a library's own variable holds. -/
theorem tab_shaped {W : World} (h : W.ShapedOpen Tryz.prog) : ∀ g ∈ [0], g < W.heap.size ∧ ∃ m, W.cell? ⟨g, 0, none⟩ = some (.int .i64 m) := fun g hg => by
  obtain rfl := List.mem_singleton.1 hg
  obtain ⟨m, hm⟩ := Tryz.splitL.s1_3 W h
  exact ⟨World.block_lt_of_cell? _ _ hm, m, hm⟩

end Go.Proofs.YtgliajcgcbnemaaGreatDoor.Hx
