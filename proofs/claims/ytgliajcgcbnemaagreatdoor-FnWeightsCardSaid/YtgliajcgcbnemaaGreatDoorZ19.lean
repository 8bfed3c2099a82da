/-
  The contracts of PositiveRoots, AddWeights and IsClosedSet, of the program and of the reference.
  From the model's readings of arguments to rows: a slice of slices of ints that came in.
  A row whose walk wants the shape of the world in which it begins: the number of a library's own variable.
-/
import Derived.Test.YtgliajcgcbnemaaGreatDoorZ18
import Derived.LaidMore
import Derived.OpenShut
import Derived.Stop.Joined
namespace Go.Proofs.YtgliajcgcbnemaaGreatDoor.Hx
open Go.RowKit
variable {dm : Bool}

noncomputable def posRoots (c : List (List Int)) : List (List Int) := if isFinite c = true then rootsUp c 12 else []

def addTo (a b : List Int) (k : Nat) : List Int := (List.range k).map fun i => IntKind.i64.wrap (a.getD i 0 + b.getD i 0)
def addW (a b : List Int) : List Int := addTo a b (min a.length b.length)
theorem addTo_succ (a b : List Int) (k : Nat) : addTo a b (k + 1) = addTo a b k ++ [IntKind.i64.wrap (a.getD k 0 + b.getD k 0)] := by
  unfold addTo
  rw [List.range_succ, List.map_append]
  rfl
theorem addTo_len (a b : List Int) (k : Nat) : (addTo a b k).length = k := by simp [addTo]
theorem addW_len (a b : List Int) : (addW a b).length ≤ a.length := by
  rw [addW, addTo_len]
  exact Nat.min_le_left _ _

def ClosedP (c L : List (List Int)) : Prop :=
  isFinite c = true ∧ (∀ i, i < L.length → L.getD i [] ∈ posRoots c) ∧ ∀ i, i < L.length → ∀ k, k < i → addW (L.getD i []) (L.getD k []) ∈ posRoots c → addW (L.getD i []) (L.getD k []) ∈ L
open Classical in
noncomputable def isClosed (c L : List (List Int)) : Bool := decide (ClosedP c L)
theorem impl_AddWeights (h : Heap) (x0 : H0) (a0 : List Int) (x1 : H0) (a1 : List Int) (hx0 : Ints h x0 a0) (hx1 : Ints h x1 a1) (s0 : a0.length ≤ 1048576) (_s1 : a1.length ≤ 1048576) :
    HCalls dm Tryz.prog 66 [.s x0, .s x1] h (fun r h' => ∃ y, r = .s y ∧ Fresh h h' y (addW a0 a1)) := by
  refine calls_of_hFun (m := 0) kd_ok mixed Tryz.func66 rfl (by kernel_rfl) rfl rfl (of_decide_eq_true rfl) ?_; unfold hFun; (conv => whnf)
  have E0 := Ext.push h [Row.own []]
  refine HLit.empty ?_
  (conv => whnf)
  refine ⟨rfl, (hx0.ext E0).len ?_⟩
  (conv => whnf)
  refine ⟨rfl, (hx1.ext E0).len ?_⟩
  (conv => whnf)
  refine ⟨.i64, _, _, rfl, rfl, ?_⟩
  have em : (if (a1.length : Int) < (a0.length : Int) then (a1.length : Int) else (a0.length : Int)) = ((min a0.length a1.length : Nat) : Int) := by split <;> omega
  rw [em]
  clear em
  have hm1 := Nat.min_le_left a0.length a1.length
  have hm2 := Nat.min_le_right a0.length a1.length
  have hav : addW a0 a1 = addTo a0 a1 (min a0.length a1.length) := rfl
  rw [hav]
  clear hav
  generalize min a0.length a1.length = m at *
  (conv => whnf)
  refine HLoop.intro [13, 5] [14, 15, 6, 16, 17, 18, 19, 20, 21, 22, 23, 24, 25, 26, 27, 5, 28, 13] (by kernel_rfl) (by kernel_rfl) (fun vs h' => ∃ (k : Nat) (z : H0), vs = [I k, .s z] ∧ k ≤ m ∧ Ext h h' ∧ Own h.length h'.length h' z (addTo a0 a1 k)) (fun vs _ => m - natAt vs 0) ⟨0, _, rfl, by omega, E0, Own.none h⟩ ?_
  clear E0
  rintro vs h' ⟨k, z, rfl, hk, E, O⟩
  (conv => whnf)
  refine HIf.dec (fun hlt => ?_) (fun hge => ?_)
  · (conv => whnf)
    refine Or.inr (Or.inr (Or.inl (Exists.intro 11 (Exists.intro [0, 1, 2, 3, 4, 5, 6, 7, 8, 9] (Exists.intro [10, 11, 12] (And.intro (show heldOk _ _ _ _ = true by kernel_rfl) ?_)))))); (conv => whnf)
    refine ⟨rfl, (hx0.ext E).idxN (by omega) (fun p hp => ?_)⟩
    (conv => whnf)
    refine ⟨rfl, hp.load ?_⟩
    (conv => whnf)
    refine ⟨rfl, (hx1.ext E).idxN (by omega) (fun p2 hp2 => ?_)⟩
    (conv => whnf)
    refine ⟨rfl, hp2.load ?_⟩
    (conv => whnf)
    refine HArith.any ?_
    (conv => whnf)
    refine HLit.one ?_
    (conv => whnf)
    refine ⟨rfl, rfl, HApp.snoc E O (by rw [addTo_len]; omega) (fun h4 y4 E4 O4 => ?_)⟩
    rw [← addTo_succ] at O4
    (conv => whnf)
    refine HArith.fits (by omega) (by omega) ?_
    (conv => whnf)
    exact ⟨⟨k + 1, y4, rfl, by omega, E4, O4⟩, by show m - (k + 1) < m - k; omega⟩
  · have e : k = m := by omega
    subst e
    (conv => whnf)
    exact ⟨_, rfl, Fresh.of E O⟩

theorem spec_AddWeights (h : Heap) (x0 : H0) (a0 : List Int) (x1 : H0) (a1 : List Int) (hx0 : Ints h x0 a0) (hx1 : Ints h x1 a1) (s0 : a0.length ≤ 1048576) (_s1 : a1.length ≤ 1048576) :
    HCalls dm Tryz.prog 67 [.s x0, .s x1] h (fun r h' => ∃ y, r = .s y ∧ Fresh h h' y (addW a0 a1)) := by
  refine calls_of_hFun (m := 0) kd_ok mixed Tryz.func67 rfl (by kernel_rfl) rfl rfl (of_decide_eq_true rfl) ?_; unfold hFun; (conv => whnf)
  have E0 := Ext.push h [Row.own []]
  refine HLit.empty ?_
  have hm1 := Nat.min_le_left a0.length a1.length
  have hm2 := Nat.min_le_right a0.length a1.length
  have hm3 : ∀ k : Nat, k < a0.length → k < a1.length → k < min a0.length a1.length := fun k _ _ => by omega
  have hav : addW a0 a1 = addTo a0 a1 (min a0.length a1.length) := rfl
  rw [hav]
  clear hav
  generalize min a0.length a1.length = m at *
  (conv => whnf)
  refine HLoop.intro [6, 5] [8, 9, 10, 11, 12, 13, 14, 15, 16, 17, 20, 21, 22, 23, 24, 25, 26, 27, 28, 29, 30, 31, 5, 18, 19, 6] (by kernel_rfl) (by kernel_rfl) (fun vs h' => ∃ (k : Nat) (z : H0), vs = [I k, .s z] ∧ k ≤ m ∧ Ext h h' ∧ Own h.length h'.length h' z (addTo a0 a1 k)) (fun vs _ => m - natAt vs 0) ⟨0, _, rfl, by omega, E0, Own.none h⟩ ?_
  clear E0
  rintro vs h' ⟨k, z, rfl, hk, E, O⟩
  (conv => whnf)
  have fin : ∀ (_ : ¬ (k < a0.length ∧ k < a1.length)), ∃ y, HV.s z = .s y ∧ Fresh h h' y (addTo a0 a1 m) := fun hn => by
    have e : k = m := by
      by_cases k1 : k < m
      · omega
      · omega
    subst e
    exact ⟨_, rfl, Fresh.of E O⟩
  refine ⟨rfl, (hx0.ext E).len ?_⟩
  (conv => whnf)
  by_cases hlt : (k : Int) < (a0.length : Int)
  rotate_left
  · (repeat (first | (refine HIf.decF hlt ?_; (conv => whnf)) | (refine HIf.no ?_; (conv => whnf))))
    exact fin (by omega)
  (repeat (refine HIf.decT hlt ?_; (conv => whnf)))
  refine ⟨rfl, (hx1.ext E).len ?_⟩
  (conv => whnf)
  (repeat (refine HIf.decT hlt ?_; (conv => whnf)))
  by_cases hlt2 : (k : Int) < (a1.length : Int)
  rotate_left
  · (repeat (first | (refine HIf.decT hlt ?_; (conv => whnf)) | (refine HIf.decF hlt2 ?_; (conv => whnf)) | (refine HIf.no ?_; (conv => whnf))))
    exact fin (by omega)
  (repeat (first | (refine HIf.decT hlt ?_; (conv => whnf)) | (refine HIf.decT hlt2 ?_; (conv => whnf))))
  have := hm3 k (by omega) (by omega)
  refine Or.inr (Or.inr (Or.inl (Exists.intro 11 (Exists.intro [0, 1, 2, 3, 4, 5, 6, 7, 8, 9] (Exists.intro [10, 11, 12] (And.intro (show heldOk _ _ _ _ = true by kernel_rfl) ?_)))))); (conv => whnf)
  refine ⟨rfl, (hx0.ext E).idxN (by omega) (fun p hp => ?_)⟩
  (conv => whnf)
  refine ⟨rfl, hp.load ?_⟩
  (conv => whnf)
  refine ⟨rfl, (hx1.ext E).idxN (by omega) (fun p2 hp2 => ?_)⟩
  (conv => whnf)
  refine ⟨rfl, hp2.load ?_⟩
  (conv => whnf)
  refine HArith.any ?_
  (conv => whnf)
  refine HLit.one ?_
  (conv => whnf)
  refine ⟨rfl, rfl, HApp.snoc E O (by rw [addTo_len]; omega) (fun h4 y4 E4 O4 => ?_)⟩
  rw [← addTo_succ] at O4
  (conv => whnf)
  refine HArith.fits (by omega) (by omega) ?_
  (conv => whnf)
  exact ⟨⟨k + 1, y4, rfl, by omega, E4, O4⟩, by show m - (k + 1) < m - k; omega⟩

end Go.Proofs.YtgliajcgcbnemaaGreatDoor.Hx

namespace Go.Proofs.YtgliajcgcbnemaaGreatDoor.Hx
open Go.RowKit Go.ChangeShapes Go.WideShapes Go.ChangeAt

def Wide (l : List Int) : Prop := ∀ n ∈ l, -9223372036854775808 ≤ n ∧ n ≤ 9223372036854775807

def Sizes (L : List (List Int)) : Prop := L.length ≤ 9223372036854775807 ∧ ∀ i, (L.getD i []).length ≤ 9223372036854775807

end Go.Proofs.YtgliajcgcbnemaaGreatDoor.Hx

namespace Go.Proofs.YtgliajcgcbnemaaGreatDoor.Hx
open Go.ChangeShapes Go.WideShapes Go.ChangeAt Go.RowKit

theorem row_shaped {H : Type} {enc : TypeId × Value → H} {C : Checked} {os : Os} {f : FuncId} {fn : Func} {s : ChangeSpec} {l : List (String × DataW Unit)} (own : ownKnob C.prog.godebug = none) (started : os.Started)
    (noInit : C.prog.inits.idxOf? f = none) (hfn : C.prog.funcs[f]? = some fn)
    (wit : ∃ (w : World) (tape : Tape) (i : Input), w.os = os ∧ (w.forCall tape i).Shaped C.prog ∧ i.vars = [] ∧ Input.okWide C.prog (w.forCall tape i) .any w.heap.size f i ∧
      ((s.pre enc C.prog fn [] false (w.forCall tape i).memory i.args ∧ laidMetH C.prog l (w.forCall tape i).memory) ∧ sizedMet enc C.prog fn (OpenSpec.ofChange s) false (w.forCall tape i).memory i.args) ∧ Assume.holds {} C.prog (lone (Frame.enter C.prog f i.args .normal) [] (w.forCall tape i)))
    (walk : ∀ (W : World) (base : Nat) (args : Array Value) (ds gs : List (DataW H)) (before : List MemPlace), (∀ (j : Nat) t v, fn.params[j]? = some t → args[j]? = some v → Value.okWide C.prog W .any base t v) →
      DataW.Whole enc C.prog fn.params.toList s.vars false W args.toList ds gs before → laidMetH C.prog l W → W.ShapedOpen C.prog →
      Calls C.prog f args W fun e W' => ∃ v, e = .returned v ∧ s.post enc C.prog fn false true false false W args v W') :
    ReturnsInHanded {} C os f .any (fun w args => (s.pre enc C.prog fn [] false w args ∧ laidMetH C.prog l w) ∧ sizedMet enc C.prog fn (OpenSpec.ofChange s) false w args) (s.post enc C.prog fn false true false false) :=
  returnsInHanded_of_calls own started noInit wit fun w tape i _ shape _ ok met _ => by
    obtain ⟨_, _, _, g, hg, _, _, _, _, vals⟩ := ok
    obtain rfl : fn = g := Option.some.inj (hfn.symm.trans hg)
    obtain ⟨⟨⟨ds, gs, before, whole, _⟩, laid⟩, _⟩ := met
    have whole' := DataW.Whole.of_heap (w' := w.forCall tape i) (by rfl) whole
    have laid' := laidMetH.of_heap (w' := w.forCall tape i) (by rfl) laid
    have run := walk (w.forCall tape i) w.heap.size i.args ds gs before vals whole' laid' shape
    exact run.mono fun e W' ⟨v, he, hp⟩ => by
      rw [he]
      exact ChangeSpec.post_blind hp

/-- The length that a library's own variable holds. -/
theorem tab_shaped {W : World} (h : W.ShapedOpen Tryz.prog) : ∀ g ∈ [0], g < W.heap.size ∧ ∃ m, W.cell? ⟨g, 0, none⟩ = some (.int .i64 m) := fun g hg => by
  obtain rfl := List.mem_singleton.1 hg
  obtain ⟨m, hm⟩ := Tryz.splitL.s1_3 W h
  exact ⟨World.block_lt_of_cell? _ _ hm, m, hm⟩

end Go.Proofs.YtgliajcgcbnemaaGreatDoor.Hx
