/-
  TypeCartan of the program.
  Numbers, weights and lists of roots as texts: in plain words, and of the reference.
  DERIVED: THE SHELF's CONTRACTS AT THIS DUMP, IN PLAIN WORDS (tools/lay-plain.mjs out of 'YtgliajcgcbnemaaGreatDoorSt.lean', which tools/lay-shelf.mjs wrote): THE SAME DECLARATIONS UNDER THE SAME NAMES: 'import', 'namespace', 'open', 'def', 'theorem' AND NOTHING ELSE: no command of the shelf's: FOR A HAND-IN. Each laying: the table of numbers ('.._ren') and one theorem, a field a fact of the dump's own or the kernel's comparison; each contract: ONE APPLICATION.
  The contract of strings.Join, led over to rows.
  Strings cut at a sign: plain; strings.Split, l2Cut; the names of all types.
  The reference's draws of matrices and words.
  The names of parts, of both sides.
-/
import Derived.Test.YtgliajcgcbnemaaGreatDoorZ15
import Derived.Lib.ItoaNum
import Derived.Lib.ItoaLen
import Derived.Lib.Join
import Derived.Shelf.Strings.OnBuilder
import Derived.Shelf.LaysM
import Derived.Shelf.Strconv.Itoa3
import Derived.Ground.NamesProg
import Derived.Test.YtgliajcgcbnemaaGreatDoorProg
import Derived.Shelf.Strings.Split
namespace Go.Proofs.YtgliajcgcbnemaaGreatDoor.Hx
open Go.RowKit
variable {dm : Bool}

set_option maxRecDepth 20000 in
set_option maxHeartbeats 4000000 in
theorem impl_TypeCartan (h : Heap) (s : ByteArray) (hs : s ∈ namesT) : HCalls dm Tryz.prog 191 [St s] h (fun r h' => ∃ y L, r = TM y true ∧ Ext h h' ∧ OwnM h.length h'.length h' y L ∧ (s, L) ∈ typeL) := by
  simp only [namesT, List.mem_cons, List.not_mem_nil, or_false] at hs
  rcases hs with rfl | rfl | rfl | rfl | rfl | rfl | rfl | rfl | rfl | rfl | rfl | rfl | rfl | rfl | rfl | rfl | rfl
  · refine calls_of_hFun (m := 0) kd_ok mixed Tryz.func191 rfl (by kernel_rfl) rfl rfl (of_decide_eq_true rfl) ?_; unfold hFun; (conv => whnf)
    (repeat (first | (refine HStr.eql ?_; conv => whnf) | (refine HIf.strT rfl ?_; conv => whnf) | (refine HIf.strF (by decide) ?_; conv => whnf)))
    refine ⟨_, .i64, 1, by decide, rfl, rfl, ?_⟩
    (conv => whnf)
    refine HArith.any ?_
    (conv => whnf)
    refine HConv.of ?_
    (conv => whnf)
    refine (show HCalls _ _ _ [I ((1 : Nat) : Int)] _ _ from (impl_chain h 1 (by omega)).mono ?_)
    rintro r h1 ⟨y1, rfl, E1, O1⟩
    (conv => whnf)
    exact ⟨_, _, rfl, E1, O1, tyA1⟩
  · refine calls_of_hFun (m := 0) kd_ok mixed Tryz.func191 rfl (by kernel_rfl) rfl rfl (of_decide_eq_true rfl) ?_; unfold hFun; (conv => whnf)
    (repeat (first | (refine HStr.eql ?_; conv => whnf) | (refine HIf.strT rfl ?_; conv => whnf) | (refine HIf.strF (by decide) ?_; conv => whnf)))
    refine ⟨_, .i64, 1, by decide, rfl, rfl, ?_⟩
    (conv => whnf)
    refine HArith.any ?_
    (conv => whnf)
    refine HConv.of ?_
    (conv => whnf)
    refine (show HCalls _ _ _ [I ((2 : Nat) : Int)] _ _ from (impl_chain h 2 (by omega)).mono ?_)
    rintro r h1 ⟨y1, rfl, E1, O1⟩
    (conv => whnf)
    exact ⟨_, _, rfl, E1, O1, tyA2⟩
  · refine calls_of_hFun (m := 0) kd_ok mixed Tryz.func191 rfl (by kernel_rfl) rfl rfl (of_decide_eq_true rfl) ?_; unfold hFun; (conv => whnf)
    (repeat (first | (refine HStr.eql ?_; conv => whnf) | (refine HIf.strT rfl ?_; conv => whnf) | (refine HIf.strF (by decide) ?_; conv => whnf)))
    refine ⟨_, .i64, 1, by decide, rfl, rfl, ?_⟩
    (conv => whnf)
    refine HArith.any ?_
    (conv => whnf)
    refine HConv.of ?_
    (conv => whnf)
    refine (show HCalls _ _ _ [I ((3 : Nat) : Int)] _ _ from (impl_chain h 3 (by omega)).mono ?_)
    rintro r h1 ⟨y1, rfl, E1, O1⟩
    (conv => whnf)
    exact ⟨_, _, rfl, E1, O1, tyA3⟩
  · refine calls_of_hFun (m := 0) kd_ok mixed Tryz.func191 rfl (by kernel_rfl) rfl rfl (of_decide_eq_true rfl) ?_; unfold hFun; (conv => whnf)
    (repeat (first | (refine HStr.eql ?_; conv => whnf) | (refine HIf.strT rfl ?_; conv => whnf) | (refine HIf.strF (by decide) ?_; conv => whnf)))
    refine ⟨_, .i64, 1, by decide, rfl, rfl, ?_⟩
    (conv => whnf)
    refine HArith.any ?_
    (conv => whnf)
    refine HConv.of ?_
    (conv => whnf)
    refine (show HCalls _ _ _ [I ((4 : Nat) : Int)] _ _ from (impl_chain h 4 (by omega)).mono ?_)
    rintro r h1 ⟨y1, rfl, E1, O1⟩
    (conv => whnf)
    exact ⟨_, _, rfl, E1, O1, tyA4⟩
  · refine calls_of_hFun (m := 0) kd_ok mixed Tryz.func191 rfl (by kernel_rfl) rfl rfl (of_decide_eq_true rfl) ?_; unfold hFun; (conv => whnf)
    (repeat (first | (refine HStr.eql ?_; conv => whnf) | (refine HIf.strT rfl ?_; conv => whnf) | (refine HIf.strF (by decide) ?_; conv => whnf)))
    refine ⟨_, .i64, 1, by decide, rfl, rfl, ?_⟩
    (conv => whnf)
    refine HArith.any ?_
    (conv => whnf)
    refine HConv.of ?_
    (conv => whnf)
    refine (show HCalls _ _ _ [I ((2 : Nat) : Int)] _ _ from (impl_chain h 2 (by omega)).mono ?_)
    rintro r h1 ⟨y1, rfl, E1, O1⟩
    obtain ⟨r0, ρ, rfl, hb, he, hρ, m⟩ := O1
    (conv => whnf)
    refine HArith.any ?_
    (conv => whnf)
    refine HArith.any ?_
    (conv => whnf)
    refine HLit.many [1, 0, -2] rfl (by simp) ?_
    (conv => whnf)
    refine (impl_with (h0 := h) _ r0 ρ (chainC 2) 2 (.sl h1.length 0 3) h1.length [1, 0, -2] (m.ext (Ext.push _ _)) ⟨hb, fun i hi => (hρ i hi).1⟩ (E1.pushed _) (OwnR.push h1 [1, 0, -2]) ⟨by omega, fun i hi => by have := hρ i hi; omega⟩ (by decide) (by decide) (by decide) (by decide)).mono ?_
    rintro v h2 ⟨rfl, E2, m2⟩
    rw [weB2] at m2
    (conv => whnf)
    exact ⟨_, _, rfl, E2, m2.ownLow rfl hb (fun i hi => (hρ i hi).1), tyB2⟩
  · refine calls_of_hFun (m := 0) kd_ok mixed Tryz.func191 rfl (by kernel_rfl) rfl rfl (of_decide_eq_true rfl) ?_; unfold hFun; (conv => whnf)
    (repeat (first | (refine HStr.eql ?_; conv => whnf) | (refine HIf.strT rfl ?_; conv => whnf) | (refine HIf.strF (by decide) ?_; conv => whnf)))
    refine ⟨_, .i64, 1, by decide, rfl, rfl, ?_⟩
    (conv => whnf)
    refine HArith.any ?_
    (conv => whnf)
    refine HConv.of ?_
    (conv => whnf)
    refine (show HCalls _ _ _ [I ((3 : Nat) : Int)] _ _ from (impl_chain h 3 (by omega)).mono ?_)
    rintro r h1 ⟨y1, rfl, E1, O1⟩
    obtain ⟨r0, ρ, rfl, hb, he, hρ, m⟩ := O1
    (conv => whnf)
    refine HArith.any ?_
    (conv => whnf)
    refine HArith.any ?_
    (conv => whnf)
    refine HLit.many [2, 1, -2] rfl (by simp) ?_
    (conv => whnf)
    refine (impl_with (h0 := h) _ r0 ρ (chainC 3) 3 (.sl h1.length 0 3) h1.length [2, 1, -2] (m.ext (Ext.push _ _)) ⟨hb, fun i hi => (hρ i hi).1⟩ (E1.pushed _) (OwnR.push h1 [2, 1, -2]) ⟨by omega, fun i hi => by have := hρ i hi; omega⟩ (by decide) (by decide) (by decide) (by decide)).mono ?_
    rintro v h2 ⟨rfl, E2, m2⟩
    rw [weB3] at m2
    (conv => whnf)
    exact ⟨_, _, rfl, E2, m2.ownLow rfl hb (fun i hi => (hρ i hi).1), tyB3⟩
  · refine calls_of_hFun (m := 0) kd_ok mixed Tryz.func191 rfl (by kernel_rfl) rfl rfl (of_decide_eq_true rfl) ?_; unfold hFun; (conv => whnf)
    (repeat (first | (refine HStr.eql ?_; conv => whnf) | (refine HIf.strT rfl ?_; conv => whnf) | (refine HIf.strF (by decide) ?_; conv => whnf)))
    refine ⟨_, .i64, 1, by decide, rfl, rfl, ?_⟩
    (conv => whnf)
    refine HArith.any ?_
    (conv => whnf)
    refine HConv.of ?_
    (conv => whnf)
    refine (show HCalls _ _ _ [I ((4 : Nat) : Int)] _ _ from (impl_chain h 4 (by omega)).mono ?_)
    rintro r h1 ⟨y1, rfl, E1, O1⟩
    obtain ⟨r0, ρ, rfl, hb, he, hρ, m⟩ := O1
    (conv => whnf)
    refine HArith.any ?_
    (conv => whnf)
    refine HArith.any ?_
    (conv => whnf)
    refine HLit.many [3, 2, -2] rfl (by simp) ?_
    (conv => whnf)
    refine (impl_with (h0 := h) _ r0 ρ (chainC 4) 4 (.sl h1.length 0 3) h1.length [3, 2, -2] (m.ext (Ext.push _ _)) ⟨hb, fun i hi => (hρ i hi).1⟩ (E1.pushed _) (OwnR.push h1 [3, 2, -2]) ⟨by omega, fun i hi => by have := hρ i hi; omega⟩ (by decide) (by decide) (by decide) (by decide)).mono ?_
    rintro v h2 ⟨rfl, E2, m2⟩
    rw [weB4] at m2
    (conv => whnf)
    exact ⟨_, _, rfl, E2, m2.ownLow rfl hb (fun i hi => (hρ i hi).1), tyB4⟩
  · refine calls_of_hFun (m := 0) kd_ok mixed Tryz.func191 rfl (by kernel_rfl) rfl rfl (of_decide_eq_true rfl) ?_; unfold hFun; (conv => whnf)
    (repeat (first | (refine HStr.eql ?_; conv => whnf) | (refine HIf.strT rfl ?_; conv => whnf) | (refine HIf.strF (by decide) ?_; conv => whnf)))
    refine ⟨_, .i64, 1, by decide, rfl, rfl, ?_⟩
    (conv => whnf)
    refine HArith.any ?_
    (conv => whnf)
    refine HConv.of ?_
    (conv => whnf)
    refine (show HCalls _ _ _ [I ((3 : Nat) : Int)] _ _ from (impl_chain h 3 (by omega)).mono ?_)
    rintro r h1 ⟨y1, rfl, E1, O1⟩
    obtain ⟨r0, ρ, rfl, hb, he, hρ, m⟩ := O1
    (conv => whnf)
    refine HArith.any ?_
    (conv => whnf)
    refine HArith.any ?_
    (conv => whnf)
    refine HLit.many [1, 2, -2] rfl (by simp) ?_
    (conv => whnf)
    refine (impl_with (h0 := h) _ r0 ρ (chainC 3) 3 (.sl h1.length 0 3) h1.length [1, 2, -2] (m.ext (Ext.push _ _)) ⟨hb, fun i hi => (hρ i hi).1⟩ (E1.pushed _) (OwnR.push h1 [1, 2, -2]) ⟨by omega, fun i hi => by have := hρ i hi; omega⟩ (by decide) (by decide) (by decide) (by decide)).mono ?_
    rintro v h2 ⟨rfl, E2, m2⟩
    rw [weC3] at m2
    (conv => whnf)
    exact ⟨_, _, rfl, E2, m2.ownLow rfl hb (fun i hi => (hρ i hi).1), tyC3⟩
  · refine calls_of_hFun (m := 0) kd_ok mixed Tryz.func191 rfl (by kernel_rfl) rfl rfl (of_decide_eq_true rfl) ?_; unfold hFun; (conv => whnf)
    (repeat (first | (refine HStr.eql ?_; conv => whnf) | (refine HIf.strT rfl ?_; conv => whnf) | (refine HIf.strF (by decide) ?_; conv => whnf)))
    refine ⟨_, .i64, 1, by decide, rfl, rfl, ?_⟩
    (conv => whnf)
    refine HArith.any ?_
    (conv => whnf)
    refine HConv.of ?_
    (conv => whnf)
    refine (show HCalls _ _ _ [I ((4 : Nat) : Int)] _ _ from (impl_chain h 4 (by omega)).mono ?_)
    rintro r h1 ⟨y1, rfl, E1, O1⟩
    obtain ⟨r0, ρ, rfl, hb, he, hρ, m⟩ := O1
    (conv => whnf)
    refine HArith.any ?_
    (conv => whnf)
    refine HArith.any ?_
    (conv => whnf)
    refine HLit.many [2, 3, -2] rfl (by simp) ?_
    (conv => whnf)
    refine (impl_with (h0 := h) _ r0 ρ (chainC 4) 4 (.sl h1.length 0 3) h1.length [2, 3, -2] (m.ext (Ext.push _ _)) ⟨hb, fun i hi => (hρ i hi).1⟩ (E1.pushed _) (OwnR.push h1 [2, 3, -2]) ⟨by omega, fun i hi => by have := hρ i hi; omega⟩ (by decide) (by decide) (by decide) (by decide)).mono ?_
    rintro v h2 ⟨rfl, E2, m2⟩
    rw [weC4] at m2
    (conv => whnf)
    exact ⟨_, _, rfl, E2, m2.ownLow rfl hb (fun i hi => (hρ i hi).1), tyC4⟩
  · refine calls_of_hFun (m := 0) kd_ok mixed Tryz.func191 rfl (by kernel_rfl) rfl rfl (of_decide_eq_true rfl) ?_; unfold hFun; (conv => whnf)
    (repeat (first | (refine HStr.eql ?_; conv => whnf) | (refine HIf.strT rfl ?_; conv => whnf) | (refine HIf.strF (by decide) ?_; conv => whnf)))
    refine (show HCalls _ _ _ [I ((4 : Nat) : Int)] _ _ from (impl_chain h 4 (by omega)).mono ?_)
    rintro r h1 ⟨y1, rfl, E1, O1⟩
    obtain ⟨r0, ρ, rfl, hb, he, hρ, m⟩ := O1
    (conv => whnf)
    refine HLit.many [2, 3, 0, 3, 2, 0, 1, 3, -1, 3, 1, -1] rfl (by simp) ?_
    (conv => whnf)
    refine (impl_with (h0 := h) _ r0 ρ (chainC 4) 4 (.sl h1.length 0 12) h1.length [2, 3, 0, 3, 2, 0, 1, 3, -1, 3, 1, -1] (m.ext (Ext.push _ _)) ⟨hb, fun i hi => (hρ i hi).1⟩ (E1.pushed _) (OwnR.push h1 [2, 3, 0, 3, 2, 0, 1, 3, -1, 3, 1, -1]) ⟨by omega, fun i hi => by have := hρ i hi; omega⟩ (by decide) (by decide) (by decide) (by decide)).mono ?_
    rintro v h2 ⟨rfl, E2, m2⟩
    rw [weD4] at m2
    (conv => whnf)
    exact ⟨_, _, rfl, E2, m2.ownLow rfl hb (fun i hi => (hρ i hi).1), tyD4⟩
  · refine calls_of_hFun (m := 0) kd_ok mixed Tryz.func191 rfl (by kernel_rfl) rfl rfl (of_decide_eq_true rfl) ?_; unfold hFun; (conv => whnf)
    (repeat (first | (refine HStr.eql ?_; conv => whnf) | (refine HIf.strT rfl ?_; conv => whnf) | (refine HIf.strF (by decide) ?_; conv => whnf)))
    refine (show HCalls _ _ _ [I ((4 : Nat) : Int)] _ _ from (impl_chain h 4 (by omega)).mono ?_)
    rintro r h1 ⟨y1, rfl, E1, O1⟩
    obtain ⟨r0, ρ, rfl, hb, he, hρ, m⟩ := O1
    (conv => whnf)
    refine HLit.many [2, 1, -2] rfl (by simp) ?_
    (conv => whnf)
    refine (impl_with (h0 := h) _ r0 ρ (chainC 4) 4 (.sl h1.length 0 3) h1.length [2, 1, -2] (m.ext (Ext.push _ _)) ⟨hb, fun i hi => (hρ i hi).1⟩ (E1.pushed _) (OwnR.push h1 [2, 1, -2]) ⟨by omega, fun i hi => by have := hρ i hi; omega⟩ (by decide) (by decide) (by decide) (by decide)).mono ?_
    rintro v h2 ⟨rfl, E2, m2⟩
    rw [weF4] at m2
    (conv => whnf)
    exact ⟨_, _, rfl, E2, m2.ownLow rfl hb (fun i hi => (hρ i hi).1), tyF4⟩
  · refine calls_of_hFun (m := 0) kd_ok mixed Tryz.func191 rfl (by kernel_rfl) rfl rfl (of_decide_eq_true rfl) ?_; unfold hFun; (conv => whnf)
    (repeat (first | (refine HStr.eql ?_; conv => whnf) | (refine HIf.strT rfl ?_; conv => whnf) | (refine HIf.strF (by decide) ?_; conv => whnf)))
    refine (show HCalls _ _ _ [I ((2 : Nat) : Int)] _ _ from (impl_chain h 2 (by omega)).mono ?_)
    rintro r h1 ⟨y1, rfl, E1, O1⟩
    obtain ⟨r0, ρ, rfl, hb, he, hρ, m⟩ := O1
    (conv => whnf)
    refine HLit.many [1, 0, -3] rfl (by simp) ?_
    (conv => whnf)
    refine (impl_with (h0 := h) _ r0 ρ (chainC 2) 2 (.sl h1.length 0 3) h1.length [1, 0, -3] (m.ext (Ext.push _ _)) ⟨hb, fun i hi => (hρ i hi).1⟩ (E1.pushed _) (OwnR.push h1 [1, 0, -3]) ⟨by omega, fun i hi => by have := hρ i hi; omega⟩ (by decide) (by decide) (by decide) (by decide)).mono ?_
    rintro v h2 ⟨rfl, E2, m2⟩
    rw [weG2] at m2
    (conv => whnf)
    exact ⟨_, _, rfl, E2, m2.ownLow rfl hb (fun i hi => (hρ i hi).1), tyG2⟩
  · refine calls_of_hFun (m := 0) kd_ok mixed Tryz.func191 rfl (by kernel_rfl) rfl rfl (of_decide_eq_true rfl) ?_; unfold hFun; (conv => whnf)
    (repeat (first | (refine HStr.eql ?_; conv => whnf) | (refine HIf.strT rfl ?_; conv => whnf) | (refine HIf.strF (by decide) ?_; conv => whnf)))
    refine (show HCalls _ _ _ [I ((2 : Nat) : Int)] _ _ from (impl_chain h 2 (by omega)).mono ?_)
    rintro r h1 ⟨y1, rfl, E1, O1⟩
    obtain ⟨r0, ρ, rfl, hb, he, hρ, m⟩ := O1
    (conv => whnf)
    refine HLit.many [0, 1, -2, 1, 0, -2] rfl (by simp) ?_
    (conv => whnf)
    refine (impl_with (h0 := h) _ r0 ρ (chainC 2) 2 (.sl h1.length 0 6) h1.length [0, 1, -2, 1, 0, -2] (m.ext (Ext.push _ _)) ⟨hb, fun i hi => (hρ i hi).1⟩ (E1.pushed _) (OwnR.push h1 [0, 1, -2, 1, 0, -2]) ⟨by omega, fun i hi => by have := hρ i hi; omega⟩ (by decide) (by decide) (by decide) (by decide)).mono ?_
    rintro v h2 ⟨rfl, E2, m2⟩
    rw [weA1t] at m2
    (conv => whnf)
    exact ⟨_, _, rfl, E2, m2.ownLow rfl hb (fun i hi => (hρ i hi).1), tyA1t⟩
  · refine calls_of_hFun (m := 0) kd_ok mixed Tryz.func191 rfl (by kernel_rfl) rfl rfl (of_decide_eq_true rfl) ?_; unfold hFun; (conv => whnf)
    (repeat (first | (refine HStr.eql ?_; conv => whnf) | (refine HIf.strT rfl ?_; conv => whnf) | (refine HIf.strF (by decide) ?_; conv => whnf)))
    refine (show HCalls _ _ _ [I ((3 : Nat) : Int)] _ _ from (impl_chain h 3 (by omega)).mono ?_)
    rintro r h1 ⟨y1, rfl, E1, O1⟩
    obtain ⟨r0, ρ, rfl, hb, he, hρ, m⟩ := O1
    (conv => whnf)
    refine HLit.many [0, 2, -1, 2, 0, -1] rfl (by simp) ?_
    (conv => whnf)
    refine (impl_with (h0 := h) _ r0 ρ (chainC 3) 3 (.sl h1.length 0 6) h1.length [0, 2, -1, 2, 0, -1] (m.ext (Ext.push _ _)) ⟨hb, fun i hi => (hρ i hi).1⟩ (E1.pushed _) (OwnR.push h1 [0, 2, -1, 2, 0, -1]) ⟨by omega, fun i hi => by have := hρ i hi; omega⟩ (by decide) (by decide) (by decide) (by decide)).mono ?_
    rintro v h2 ⟨rfl, E2, m2⟩
    rw [weA2t] at m2
    (conv => whnf)
    exact ⟨_, _, rfl, E2, m2.ownLow rfl hb (fun i hi => (hρ i hi).1), tyA2t⟩
  · refine calls_of_hFun (m := 0) kd_ok mixed Tryz.func191 rfl (by kernel_rfl) rfl rfl (of_decide_eq_true rfl) ?_; unfold hFun; (conv => whnf)
    (repeat (first | (refine HStr.eql ?_; conv => whnf) | (refine HIf.strT rfl ?_; conv => whnf) | (refine HIf.strF (by decide) ?_; conv => whnf)))
    refine (show HCalls _ _ _ [I ((4 : Nat) : Int)] _ _ from (impl_chain h 4 (by omega)).mono ?_)
    rintro r h1 ⟨y1, rfl, E1, O1⟩
    obtain ⟨r0, ρ, rfl, hb, he, hρ, m⟩ := O1
    (conv => whnf)
    refine HLit.many [0, 3, -1, 3, 0, -1] rfl (by simp) ?_
    (conv => whnf)
    refine (impl_with (h0 := h) _ r0 ρ (chainC 4) 4 (.sl h1.length 0 6) h1.length [0, 3, -1, 3, 0, -1] (m.ext (Ext.push _ _)) ⟨hb, fun i hi => (hρ i hi).1⟩ (E1.pushed _) (OwnR.push h1 [0, 3, -1, 3, 0, -1]) ⟨by omega, fun i hi => by have := hρ i hi; omega⟩ (by decide) (by decide) (by decide) (by decide)).mono ?_
    rintro v h2 ⟨rfl, E2, m2⟩
    rw [weA3t] at m2
    (conv => whnf)
    exact ⟨_, _, rfl, E2, m2.ownLow rfl hb (fun i hi => (hρ i hi).1), tyA3t⟩
  · refine calls_of_hFun (m := 0) kd_ok mixed Tryz.func191 rfl (by kernel_rfl) rfl rfl (of_decide_eq_true rfl) ?_; unfold hFun; (conv => whnf)
    (repeat (first | (refine HStr.eql ?_; conv => whnf) | (refine HIf.strT rfl ?_; conv => whnf) | (refine HIf.strF (by decide) ?_; conv => whnf)))
    refine (show HCalls _ _ _ [I ((3 : Nat) : Int)] _ _ from (impl_chain h 3 (by omega)).mono ?_)
    rintro r h1 ⟨y1, rfl, E1, O1⟩
    obtain ⟨r0, ρ, rfl, hb, he, hρ, m⟩ := O1
    (conv => whnf)
    refine HLit.many [1, 0, -2, 1, 2, -2] rfl (by simp) ?_
    (conv => whnf)
    refine (impl_with (h0 := h) _ r0 ρ (chainC 3) 3 (.sl h1.length 0 6) h1.length [1, 0, -2, 1, 2, -2] (m.ext (Ext.push _ _)) ⟨hb, fun i hi => (hρ i hi).1⟩ (E1.pushed _) (OwnR.push h1 [1, 0, -2, 1, 2, -2]) ⟨by omega, fun i hi => by have := hρ i hi; omega⟩ (by decide) (by decide) (by decide) (by decide)).mono ?_
    rintro v h2 ⟨rfl, E2, m2⟩
    rw [weC2t] at m2
    (conv => whnf)
    exact ⟨_, _, rfl, E2, m2.ownLow rfl hb (fun i hi => (hρ i hi).1), tyC2t⟩
  · refine calls_of_hFun (m := 0) kd_ok mixed Tryz.func191 rfl (by kernel_rfl) rfl rfl (of_decide_eq_true rfl) ?_; unfold hFun; (conv => whnf)
    (repeat (first | (refine HStr.eql ?_; conv => whnf) | (refine HIf.strT rfl ?_; conv => whnf) | (refine HIf.strF (by decide) ?_; conv => whnf)))
    refine (show HCalls _ _ _ [I ((3 : Nat) : Int)] _ _ from (impl_chain h 3 (by omega)).mono ?_)
    rintro r h1 ⟨y1, rfl, E1, O1⟩
    obtain ⟨r0, ρ, rfl, hb, he, hρ, m⟩ := O1
    (conv => whnf)
    refine HLit.many [2, 1, -3] rfl (by simp) ?_
    (conv => whnf)
    refine (impl_with (h0 := h) _ r0 ρ (chainC 3) 3 (.sl h1.length 0 3) h1.length [2, 1, -3] (m.ext (Ext.push _ _)) ⟨hb, fun i hi => (hρ i hi).1⟩ (E1.pushed _) (OwnR.push h1 [2, 1, -3]) ⟨by omega, fun i hi => by have := hρ i hi; omega⟩ (by decide) (by decide) (by decide) (by decide)).mono ?_
    rintro v h2 ⟨rfl, E2, m2⟩
    rw [weG2t] at m2
    (conv => whnf)
    exact ⟨_, _, rfl, E2, m2.ownLow rfl hb (fun i hi => (hρ i hi).1), tyG2t⟩

end Go.Proofs.YtgliajcgcbnemaaGreatDoor.Hx

namespace Go.Proofs.YtgliajcgcbnemaaGreatDoor.Hx
open Go.RowKit
variable {dm : Bool}

/-- A text as a slot's value, as a cell. -/
abbrev Tx (l : List UInt8) : HV := .s (.pl (.string ⟨l.toArray⟩))
abbrev stc (l : List UInt8) : H0 := .pl (.string ⟨l.toArray⟩)

theorem bytes_app (a b : List UInt8) : (⟨a.toArray⟩ : ByteArray) ++ ⟨b.toArray⟩ = ⟨(a ++ b).toArray⟩ := by
  apply ByteArray.ext
  simp
theorem HStr.add {a b : List UInt8} {K : HV → Prop} (hl : a.length + b.length ≤ 9223372036854775807) (hK : K (Tx (a ++ b))) : HStr .add ⟨a.toArray⟩ ⟨b.toArray⟩ K :=
  ⟨.string ⟨(a ++ b).toArray⟩, fun P w => by
    have h : ¬ (((⟨a.toArray⟩ : ByteArray).size + (⟨b.toArray⟩ : ByteArray).size : Nat) : Int) > IntKind.i64.max := by
      have e1 : (⟨a.toArray⟩ : ByteArray).size = a.length := by simp [ByteArray.size]
      have e2 : (⟨b.toArray⟩ : ByteArray).size = b.length := by simp [ByteArray.size]
      rw [e1, e2, show IntKind.i64.max = 9223372036854775807 from rfl]
      omega
    simp only [Op.stringOp, if_neg h, bytes_app]
    rfl, hK⟩
/-! ### Digits -/

/-- What is still to be written of a number, and what is there. -/
def restD (u : Nat) (out : List UInt8) : List UInt8 := if u = 0 then out else Lib.decDigits u ++ out
/-- A weight's text; the text of a list of roots. -/
def fmtV (v : List Int) : List UInt8 := Lib.join (v.map Lib.itoa) [44]
def fmtR (L : List (List Int)) : List UInt8 := if L.length = 0 then [110, 111, 110, 101] else Lib.join (L.map fmtV) [32]

theorem join_snoc {xs : List (List UInt8)} (x sep : List UInt8) (h : xs ≠ []) : Lib.join (xs ++ [x]) sep = Lib.join xs sep ++ sep ++ x := by
  cases xs with
  | nil => exact absurd rfl h
  | cons y r => simp [Lib.join_cons, Lib.joinTail]
theorem join_take {α : Type} (f : α → List UInt8) (sep : List UInt8) (xs : List α) {k : Nat} (h : k < xs.length) (h0 : 0 < k) : Lib.join ((xs.take (k + 1)).map f) sep = Lib.join ((xs.take k).map f) sep ++ sep ++ f xs[k] := by
  rw [List.take_succ_eq_append_getElem h, List.map_append, List.map_singleton, join_snoc _ _ (by
    intro e
    have := congrArg List.length e
    simp only [List.length_map, List.length_take, List.length_nil] at this
    omega)]
theorem join_first {α : Type} (f : α → List UInt8) (sep : List UInt8) (xs : List α) (h : 0 < xs.length) : Lib.join ((xs.take 1).map f) sep = f xs[0] := by
  cases xs with
  | nil => simp at h
  | cons y r => simp [Lib.join_one]
theorem join_le (sep : List UInt8) {b : Nat} (hs : sep.length ≤ 1) : ∀ (xs : List (List UInt8)), (∀ x ∈ xs, x.length ≤ b) → (Lib.join xs sep).length ≤ (b + 1) * xs.length
  | [], _ => by simp [Lib.join_nil]
  | x :: r, h => by
    rw [Lib.join_cons, List.length_append, Lib.joinTail]
    have hr : ∀ (r : List (List UInt8)), (∀ x ∈ r, x.length ≤ b) → ((r.map (sep ++ ·)).flatten).length ≤ (b + 1) * r.length := by
      intro r
      induction r with
      | nil => simp
      | cons y t ih =>
        intro h
        have h1 := h y (by simp)
        have h2 := ih fun z hz => h z (by simp [hz])
        simp only [List.map_cons, List.flatten_cons, List.length_append, List.length_cons, Nat.mul_add]
        omega
    have h1 := h x (by simp)
    have h2 := hr r fun z hz => h z (by simp [hz])
    simp only [List.length_cons, Nat.mul_add]
    omega

def absAt (vs : List HV) (k : Nat) : Nat := match vs[k]? with
  | some (HV.s (H0.pl (Value.int _ m))) => m.natAbs
  | _ => 0

def I64 (n : Int) : Prop := -9223372036854775808 ≤ n ∧ n ≤ 9223372036854775807

end Go.Proofs.YtgliajcgcbnemaaGreatDoor.Hx

namespace Go.Proofs
open Go.Shelf
def Tryz.joinL_ren : Go.Shelf.Ren := ⟨fun | 156 => 111 | 165 => 167 | 166 => 168 | 169 => 169 | 240 => 213 | 241 => 214 | 276 => 243 | 277 => 244 | n => n, fun | 31 => 77 | 9 => 9 | 3 => 3 | 4 => 4 | 0 => 0 | 20 => 20 | 72 => 107 | 76 => 111 | 70 => 105 | 37 => 34 | 75 => 110 | 127 => 145 | 164 => 167 | 5 => 5 | 80 => 113 | n => n, fun | n => n⟩
theorem Tryz.joinL : Go.Proofs.Lays.n156 Tryz.prog Tryz.joinL_ren := {
  mixed := by kernel_rfl
  f156 := Tryz.func111.trans (congrArg some (by kernel_rfl))
  f165 := Tryz.func167.trans (congrArg some (by kernel_rfl))
  f166 := Tryz.func168.trans (congrArg some (by kernel_rfl))
  f169 := Tryz.func169.trans (congrArg some (by kernel_rfl))
  f240 := Tryz.func213.trans (congrArg some (by kernel_rfl))
  f241 := Tryz.func214.trans (congrArg some (by kernel_rfl))
  f276 := Tryz.func243.trans (congrArg some (by kernel_rfl))
  f277 := Tryz.func244.trans (congrArg some (by kernel_rfl))
  t0 := Tryz.underlying0
  a0 := Tryz.isAgg0
  z0 := Tryz.sizeOf0
  v0 := Tryz.zeroValue0
  t3 := Tryz.underlying3
  a3 := Tryz.isAgg3
  z3 := Tryz.sizeOf3
  v3 := Tryz.zeroValue3
  t4 := Tryz.underlying4
  a4 := Tryz.isAgg4
  z4 := Tryz.sizeOf4
  v4 := Tryz.zeroValue4
  t9 := Tryz.underlying9
  a9 := Tryz.isAgg9
  z9 := Tryz.sizeOf9
  v9 := Tryz.zeroValue9
  t20 := Tryz.underlying20
  a20 := Tryz.isAgg20
  z20 := Tryz.sizeOf20
  v20 := Tryz.zeroValue20
  t31 := Tryz.underlying77
  a31 := Tryz.isAgg77
  z31 := Tryz.sizeOf77
  v31 := Tryz.zeroValue77
  t37 := Tryz.underlying34
  a37 := Tryz.isAgg34
  z37 := Tryz.sizeOf34
  v37 := Tryz.zeroValue34
  t70 := Tryz.underlying105
  a70 := Tryz.isAgg105
  z70 := Tryz.sizeOf105
  v70 := Tryz.zeroValue105
  t72 := Tryz.underlying107
  a72 := Tryz.isAgg107
  z72 := Tryz.sizeOf107
  v72 := Tryz.zeroValue107
  t75 := Tryz.underlying110
  a75 := Tryz.isAgg110
  z75 := Tryz.sizeOf110
  v75 := Tryz.zeroValue110
  t76 := Tryz.underlying111
  a76 := Tryz.isAgg111
  z76 := Tryz.sizeOf111
  v76 := Tryz.zeroValue111
  t127 := Tryz.underlying145
  a127 := Tryz.isAgg145
  z127 := Tryz.sizeOf145
  v127 := Tryz.zeroValue145
  t164 := Tryz.underlying167
  a164 := Tryz.isAgg167
  z164 := Tryz.sizeOf167
  v164 := Tryz.zeroValue167 }
theorem Tryz.joinX : Builder.Extra Tryz.prog Tryz.joinL_ren := {
  sizeBuilder := by kernel_rfl
  liesBuilder := by kernel_rfl
  t5 := Tryz.underlying5
  a5 := Tryz.isAgg5
  z5 := Tryz.sizeOf5
  v5 := Tryz.zeroValue5
  infoByte := by kernel_rfl
  cellsByte := by kernel_rfl
  sizeByte := by kernel_rfl
  neB5 := by decide }
def Tryz.splitL_ren : Go.Shelf.Ren := ⟨fun | 146 => 135 | 221 => 187 | 268 => 227 | 138 => 228 | 143 => 229 | 195 => 249 | 197 => 250 | 218 => 251 | 219 => 252 | 260 => 272 | 217 => 273 | 225 => 274 | 224 => 275 | 267 => 276 | 266 => 296 | 314 => 297 | n => n, fun | 9 => 9 | 31 => 77 | 3 => 3 | 4 => 4 | 0 => 0 | 105 => 172 | 21 => 21 | 5 => 5 | 46 => 99 | 119 => 210 | 139 => 213 | 138 => 212 | 146 => 214 | 51 => 139 | n => n, fun | 1 => 0 | 3 => 3 | 4 => 4 | n => n⟩
theorem Tryz.splitL : Go.Proofs.LaysM.n146 Tryz.prog Tryz.splitL_ren := {
  mixed := by kernel_rfl
  f138 := Tryz.func228.trans (congrArg some (by kernel_rfl))
  f143 := Tryz.func229.trans (congrArg some (by kernel_rfl))
  f146 := Tryz.func135.trans (congrArg some (by kernel_rfl))
  f195 := Tryz.func249.trans (congrArg some (by kernel_rfl))
  f197 := Tryz.func250.trans (congrArg some (by kernel_rfl))
  f217 := Tryz.func273.trans (congrArg some (by kernel_rfl))
  f218 := Tryz.func251.trans (congrArg some (by kernel_rfl))
  f219 := Tryz.func252.trans (congrArg some (by kernel_rfl))
  f221 := Tryz.func187.trans (congrArg some (by kernel_rfl))
  f224 := Tryz.func275.trans (congrArg some (by kernel_rfl))
  f225 := Tryz.func274.trans (congrArg some (by kernel_rfl))
  f260 := Tryz.func272.trans (congrArg some (by kernel_rfl))
  f266 := Tryz.func296.trans (congrArg some (by kernel_rfl))
  f267 := Tryz.func276.trans (congrArg some (by kernel_rfl))
  f268 := Tryz.func227.trans (congrArg some (by kernel_rfl))
  f314 := Tryz.func297.trans (congrArg some (by kernel_rfl))
  t0 := Tryz.underlying0
  a0 := Tryz.isAgg0
  z0 := Tryz.sizeOf0
  v0 := Tryz.zeroValue0
  t3 := Tryz.underlying3
  a3 := Tryz.isAgg3
  z3 := Tryz.sizeOf3
  v3 := Tryz.zeroValue3
  t4 := Tryz.underlying4
  a4 := Tryz.isAgg4
  z4 := Tryz.sizeOf4
  v4 := Tryz.zeroValue4
  t5 := Tryz.underlying5
  a5 := Tryz.isAgg5
  z5 := Tryz.sizeOf5
  v5 := Tryz.zeroValue5
  t9 := Tryz.underlying9
  a9 := Tryz.isAgg9
  z9 := Tryz.sizeOf9
  v9 := Tryz.zeroValue9
  t21 := Tryz.underlying21
  a21 := Tryz.isAgg21
  z21 := Tryz.sizeOf21
  v21 := Tryz.zeroValue21
  t31 := Tryz.underlying77
  a31 := Tryz.isAgg77
  z31 := Tryz.sizeOf77
  v31 := Tryz.zeroValue77
  t46 := Tryz.underlying99
  a46 := Tryz.isAgg99
  z46 := Tryz.sizeOf99
  v46 := Tryz.zeroValue99
  t51 := Tryz.underlying139
  a51 := Tryz.isAgg139
  z51 := Tryz.sizeOf139
  v51 := Tryz.zeroValue139
  t105 := Tryz.underlying172
  a105 := Tryz.isAgg172
  z105 := Tryz.sizeOf172
  v105 := Tryz.zeroValue172
  t119 := Tryz.underlying210
  a119 := Tryz.isAgg210
  z119 := Tryz.sizeOf210
  t138 := Tryz.underlying212
  a138 := Tryz.isAgg212
  z138 := Tryz.sizeOf212
  v138 := Tryz.zeroValue212
  t139 := Tryz.underlying213
  a139 := Tryz.isAgg213
  z139 := Tryz.sizeOf213
  v139 := Tryz.zeroValue213
  t146 := Tryz.underlying214
  a146 := Tryz.isAgg214
  z146 := Tryz.sizeOf214
  v146 := Tryz.zeroValue214
  g1 := by kernel_rfl
  g3 := by kernel_rfl
  g4 := by kernel_rfl
  i0 := by kernel_rfl
  i3 := by kernel_rfl
  i4 := by kernel_rfl
  i5 := by kernel_rfl
  i9 := by kernel_rfl
  i21 := by kernel_rfl
  i31 := by kernel_rfl
  i46 := by kernel_rfl
  i51 := by kernel_rfl
  i105 := by kernel_rfl
  i138 := by kernel_rfl
  i139 := by kernel_rfl
  i146 := by kernel_rfl
  m1 := by kernel_rfl
  s1_3 := fun w h => Go.Proofs.cell_of_shapedOpen_int (zero := #[.int .i64 0]) (t := 3) h (of_decide_eq_true (by kernel_rfl)) (by kernel_rfl) rfl (by kernel_rfl) (by kernel_rfl) Tryz.underlying3
  m3 := by kernel_rfl
  m4 := by kernel_rfl }
def Tryz.itoaL_ren : Go.Shelf.Ren := ⟨fun | 171 => 215 | 243 => 245 | 246 => 266 | 283 => 289 | 284 => 290 | 285 => 291 | 286 => 292 | 129 => 208 | 317 => 302 | 318 => 303 | 319 => 304 | 320 => 305 | 337 => 309 | 338 => 310 | n => n, fun | 3 => 3 | 9 => 9 | 2 => 2 | 4 => 4 | 171 => 200 | 0 => 0 | 53 => 141 | 37 => 34 | 5 => 5 | 173 => 202 | 212 => 220 | 51 => 139 | 20 => 20 | 213 => 221 | 46 => 99 | 232 => 228 | 233 => 229 | n => n, fun | 17 => 5 | 18 => 6 | 19 => 7 | n => n⟩
theorem Tryz.itoaL : Go.Proofs.LaysM.n171 Tryz.prog Tryz.itoaL_ren := {
  mixed := by kernel_rfl
  f129 := Tryz.func208.trans (congrArg some (by kernel_rfl))
  f171 := Tryz.func215.trans (congrArg some (by kernel_rfl))
  f243 := Tryz.func245.trans (congrArg some (by kernel_rfl))
  f246 := Tryz.func266.trans (congrArg some (by kernel_rfl))
  f283 := Tryz.func289.trans (congrArg some (by kernel_rfl))
  f284 := Tryz.func290.trans (congrArg some (by kernel_rfl))
  f285 := Tryz.func291.trans (congrArg some (by kernel_rfl))
  f286 := Tryz.func292.trans (congrArg some (by kernel_rfl))
  f317 := Tryz.func302.trans (congrArg some (by kernel_rfl))
  f318 := Tryz.func303.trans (congrArg some (by kernel_rfl))
  f319 := Tryz.func304.trans (congrArg some (by kernel_rfl))
  f320 := Tryz.func305.trans (congrArg some (by kernel_rfl))
  f337 := Tryz.func309.trans (congrArg some (by kernel_rfl))
  f338 := Tryz.func310.trans (congrArg some (by kernel_rfl))
  t0 := Tryz.underlying0
  a0 := Tryz.isAgg0
  z0 := Tryz.sizeOf0
  v0 := Tryz.zeroValue0
  t2 := Tryz.underlying2
  a2 := Tryz.isAgg2
  z2 := Tryz.sizeOf2
  v2 := Tryz.zeroValue2
  t3 := Tryz.underlying3
  a3 := Tryz.isAgg3
  z3 := Tryz.sizeOf3
  v3 := Tryz.zeroValue3
  t4 := Tryz.underlying4
  a4 := Tryz.isAgg4
  z4 := Tryz.sizeOf4
  v4 := Tryz.zeroValue4
  t5 := Tryz.underlying5
  a5 := Tryz.isAgg5
  z5 := Tryz.sizeOf5
  v5 := Tryz.zeroValue5
  t9 := Tryz.underlying9
  a9 := Tryz.isAgg9
  z9 := Tryz.sizeOf9
  v9 := Tryz.zeroValue9
  t20 := Tryz.underlying20
  a20 := Tryz.isAgg20
  z20 := Tryz.sizeOf20
  v20 := Tryz.zeroValue20
  t37 := Tryz.underlying34
  a37 := Tryz.isAgg34
  z37 := Tryz.sizeOf34
  v37 := Tryz.zeroValue34
  t46 := Tryz.underlying99
  a46 := Tryz.isAgg99
  z46 := Tryz.sizeOf99
  v46 := Tryz.zeroValue99
  t51 := Tryz.underlying139
  a51 := Tryz.isAgg139
  z51 := Tryz.sizeOf139
  v51 := Tryz.zeroValue139
  t53 := Tryz.underlying141
  a53 := Tryz.isAgg141
  z53 := Tryz.sizeOf141
  v53 := Tryz.zeroValue141
  t171 := Tryz.underlying200
  a171 := Tryz.isAgg200
  z171 := Tryz.sizeOf200
  v171 := Tryz.zeroValue200
  t173 := Tryz.underlying202
  a173 := Tryz.isAgg202
  z173 := Tryz.sizeOf202
  v173 := Tryz.zeroValue202
  t212 := Tryz.underlying220
  a212 := Tryz.isAgg220
  z212 := Tryz.sizeOf220
  v212 := Tryz.zeroValue220
  t213 := Tryz.underlying221
  a213 := Tryz.isAgg221
  z213 := Tryz.sizeOf221
  t232 := Tryz.underlying228
  a232 := Tryz.isAgg228
  z232 := Tryz.sizeOf228
  v232 := Tryz.zeroValue228
  t233 := Tryz.underlying229
  a233 := Tryz.isAgg229
  z233 := Tryz.sizeOf229
  v233 := Tryz.zeroValue229
  g17 := by kernel_rfl
  g18 := by kernel_rfl
  g19 := by kernel_rfl
  i0 := by kernel_rfl
  i2 := by kernel_rfl
  i3 := by kernel_rfl
  i4 := by kernel_rfl
  i5 := by kernel_rfl
  i9 := by kernel_rfl
  i20 := by kernel_rfl
  i37 := by kernel_rfl
  i46 := by kernel_rfl
  i51 := by kernel_rfl
  i53 := by kernel_rfl
  i171 := by kernel_rfl
  i173 := by kernel_rfl
  i212 := by kernel_rfl
  i232 := by kernel_rfl
  i233 := by kernel_rfl
  m17 := by kernel_rfl
  m18 := by kernel_rfl
  m19 := by kernel_rfl }
end Go.Proofs

namespace Go.Proofs.YtgliajcgcbnemaaGreatDoor.Hx
open Go.RowKit
variable {dm : Bool}

theorem strs_back (xs : List (List UInt8)) : (xs.map fun l => (⟨l.toArray⟩ : ByteArray)).map (·.data.toList) = xs := by
  rw [List.map_map]
  conv => rhs; rw [← List.map_id xs]
  refine List.map_congr_left fun l _ => ?_
  simp

theorem lib_Join (h : Heap) (r : Nat) (xs : List (List UInt8)) (sep : List UInt8) (t : List H0) (hr : h[r]? = some (.own (xs.map stc ++ t))) (hN : xs.length ≤ 1048576) (hlen : (Lib.join xs sep).length ≤ 140737488355328) :
    HCalls false Tryz.prog 111 [.s (.sl r 0 xs.length), Tx sep] h (fun z h' => z = Tx (Lib.join xs sep) ∧ h' = h) := by
  refine ⟨enters_of Tryz.func111 (by kernel_rfl) rfl, fun B0 φ w vargs R ha => ?_⟩
  obtain ⟨p, hp⟩ := R.place hr
  obtain ⟨q1, q2, q3, cur, e, q4, q5, q6⟩ := R.own r _ p hr hp
  have hvs : ∃ u, vargs = #[u, .string ⟨sep.toArray⟩] ∧ rep0 φ (.sl r 0 xs.length) u := by
    rcases vargs with ⟨vs⟩
    match vs, ha with
    | [u, v], hh =>
      have : v = .string ⟨sep.toArray⟩ := hh.2.1
      exact ⟨u, by rw [this], hh.1⟩
  obtain ⟨u, rfl, hu⟩ := hvs
  obtain ⟨p', a, cap, hp', rfl, hc1, hc2, hc3, hc4⟩ := hu
  obtain rfl : p' = p := Option.some.inj (hp'.symm.trans hp)
  have fin : ∀ w', Below w.heap.size w w' → ∃ v x h' φ', Ending.returned (.string ⟨(Lib.join xs sep).toArray⟩) = .returned v ∧ (x = Tx (Lib.join xs sep) ∧ h' = h) ∧ Sub φ φ' ∧ Rep B0 φ' h' w' ∧ repV φ' x v ∧ Lat false B0 w w' := fun w' hb =>
    ⟨_, _, h, φ, rfl, ⟨rfl, rfl⟩, Sub.refl _, R.below (dm := false) ⟨hb, fun e => by cases e⟩, rfl, ⟨hb.mono R.base, fun e => by cases e⟩⟩
  by_cases h0 : xs.length = 0
  · have e0 : xs = [] := List.length_eq_zero_iff.1 h0
    subst e0
    refine (Any.strings_Join_none Tryz.joinL Tryz.joinX (some a) cap ⟨sep.toArray⟩ w).mono ?_
    rintro e' w' ⟨rfl, rfl⟩
    exact fin _ (Below.refl _ _)
  · have ha : a = ⟨p'.b, 0, none⟩ := by rw [hc4 (by omega), q1]
    subst ha
    have hblk : p'.b < w.heap.size := (Array.getElem?_eq_some_iff.1 q4).1
    have hmain := Any.strings_Join Tryz.joinL Tryz.joinX p'.b 0 cap (xs.map fun l => (⟨l.toArray⟩ : ByteArray)) ⟨sep.toArray⟩ w (fun j x hx => by
      rw [List.getElem?_map, Option.map_eq_some_iff] at hx
      obtain ⟨l, hl, rfl⟩ := hx
      have hjl : j < xs.length := (List.getElem?_eq_some_iff.1 hl).1
      have hc : (xs.map stc ++ t)[j]? = some (stc l) := by
        rw [List.getElem?_append_left (by simpa using hjl), List.getElem?_map, hl]
        rfl
      obtain ⟨v, e1, e2⟩ := q6 _ _ hc
      have e3 : v = .string ⟨l.toArray⟩ := e2
      rw [Nat.zero_add, cell_of_row w p'.b j cur e (0, 0) q4, e1, e3]) hblk (by simp; omega) (by simpa using hc1) (by
      rw [strs_back]
      exact hlen)
    rw [strs_back, List.length_map] at hmain
    refine hmain.mono ?_
    rintro e' w' ⟨rfl, hb⟩
    exact fin _ hb

/-- A text, appended to a slice of texts of one's own. -/
theorem HApp.text {h : Heap} {r q n : Nat} {xs : List (List UInt8)} {x : List UInt8} {K : HV → Heap → Prop} (hr : h[r]? = some (.own (xs.map stc))) (hq : h[q]? = some (.own [stc x])) (hn : xs.length = n) (hl : n ≤ 1048576)
    (hK : K (.s (.sl h.length 0 (n + 1))) (h.set r .gone ++ [.own ((xs ++ [x]).map stc)])) : HApp h (.s (.sl r 0 n)) (.s (.sl q 0 1)) K := by
  have hs : Shows h (.s (.sl q 0 1)) [stc x] := Shows.own q 0 1 [stc x] hq (by simp)
  refine ⟨[stc x], hs, fun c hc => ?_, xs.map stc, rfl, hr, by simp; omega, Or.inl ⟨by simp; omega, ?_⟩⟩
  · obtain rfl : c = stc x := by simpa using hc
    rfl
  · have e : (xs.map stc).take n = xs.map stc := by rw [← hn, ← List.length_map (f := stc), List.take_length]
    rw [e, ← List.map_singleton (f := stc), ← List.map_append]
    exact hK

end Go.Proofs.YtgliajcgcbnemaaGreatDoor.Hx

namespace Go.Proofs.YtgliajcgcbnemaaGreatDoor.Hx
open Go.RowKit
variable {dm : Bool}

/-! ### Strings cut at a sign -/

def cutB (c : UInt8) : List UInt8 → List (List UInt8)
  | [] => [[]]
  | b :: t => if b = c then [] :: cutB c t else match cutB c t with
    | x :: r => (b :: x) :: r
    | [] => [[b]]
theorem cutB_at (c : UInt8) (t : List UInt8) : cutB c (c :: t) = [] :: cutB c t := by simp [cutB]
theorem cutB_ne (c : UInt8) : ∀ l, ∃ x r, cutB c l = x :: r
  | [] => ⟨[], [], rfl⟩
  | b :: t => by
    by_cases h : b = c
    · subst h
      exact ⟨_, _, cutB_at b t⟩
    · obtain ⟨x, r, e⟩ := cutB_ne c t
      exact ⟨b :: x, r, by rw [cutB, if_neg h, e]⟩
theorem cutB_off {c b : UInt8} (h : b ≠ c) {t x : List UInt8} {r : List (List UInt8)} (e : cutB c t = x :: r) : cutB c (b :: t) = (b :: x) :: r := by
  rw [cutB, if_neg h, e]
theorem cutB_pre {c : UInt8} : ∀ {p t x : List UInt8} {r : List (List UInt8)}, c ∉ p → cutB c t = x :: r → cutB c (p ++ t) = (p ++ x) :: r
  | [], _, _, _, _, e => e
  | b :: p, t, x, r, h, e => by
    simp only [List.mem_cons, not_or] at h
    exact cutB_off (Ne.symm h.1) (cutB_pre h.2 e)
theorem cutB_hit {c : UInt8} {p : List UInt8} (h : c ∉ p) (t : List UInt8) : cutB c (p ++ c :: t) = p :: cutB c t := by
  have := cutB_pre h (cutB_at c t)
  rwa [List.append_nil] at this
theorem cutB_one {c : UInt8} {p : List UInt8} (h : c ∉ p) : cutB c p = [p] := by
  have := cutB_pre (t := []) h (x := []) (r := []) rfl
  simpa only [List.append_nil] using this
theorem cut_join {c : UInt8} : ∀ {xs : List (List UInt8)}, xs ≠ [] → (∀ x ∈ xs, c ∉ x) → cutB c (Lib.join xs [c]) = xs
  | [], h, _ => absurd rfl h
  | [x], _, h => by
    rw [Lib.join_one]
    exact cutB_one (h x (by simp))
  | x :: y :: t, _, h => by
    have ih := cut_join (xs := y :: t) (by simp) (fun z hz => h z (List.mem_cons_of_mem _ hz))
    have e : Lib.join (x :: y :: t) [c] = x ++ c :: Lib.join (y :: t) [c] := by
      rw [Lib.join_cons, Lib.join_cons]
      simp [Lib.joinTail]
    rw [e, cutB_hit (h x (by simp)), ih]
theorem cutB_len (c : UInt8) : ∀ l, (cutB c l).length ≤ l.length + 1
  | [] => by simp [cutB]
  | b :: t => by
    have ih := cutB_len c t
    obtain ⟨x, r, e⟩ := cutB_ne c t
    rw [e] at ih
    by_cases h : b = c
    · subst h
      rw [cutB_at, e]
      simp only [List.length_cons] at *
      omega
    · rw [cutB_off h e]
      simp only [List.length_cons] at *
      omega
theorem index_at (c : UInt8) (t : List UInt8) : Lib.index (c :: t) [c] = 0 := by
  rw [Lib.index]
  simp [List.isPrefixOf]
theorem index_off {c b : UInt8} (h : b ≠ c) (t : List UInt8) : Lib.index (b :: t) [c] = if Lib.index t [c] == -1 then -1 else Lib.index t [c] + 1 := by
  have hp : ([c] : List UInt8).isPrefixOf (b :: t) = false := by simp [List.isPrefixOf, Ne.symm h]
  rw [Lib.index, hp]
  simp
theorem split_cut (c : UInt8) : ∀ l, Lib.split l [c] = cutB c l
  | [] => by
    have : Lib.count [] [c] = 0 := Lib.count_miss (by simp [Lib.index])
    rw [Lib.split, this]
    rfl
  | b :: t => by
    have ih := split_cut c t
    by_cases h : b = c
    · subst h
      rw [cutB_at, ← ih, Lib.split, Lib.count_cons_eq, Nat.add_comm 1, Lib.splitK, index_at]
      rfl
    · obtain ⟨x, r, e⟩ := cutB_ne c t
      rw [cutB_off h e]
      rw [e, Lib.split] at ih
      rw [Lib.split, Lib.count_cons_ne b c t h]
      cases hc : Lib.count t [c] with
      | zero =>
        rw [hc, Lib.splitK] at ih
        cases ih
        rfl
      | succ k =>
        rw [hc, Lib.splitK] at ih
        rw [Lib.splitK, index_off h]
        by_cases hm : Lib.index t [c] = -1
        · rw [hm] at ih ⊢
          simp only [beq_self_eq_true, if_true] at ih ⊢
          cases ih
          rfl
        · have hge := Lib.index_ge t [c]
          obtain ⟨j, hj⟩ : ∃ j : Nat, Lib.index t [c] = j := ⟨(Lib.index t [c]).toNat, by omega⟩
          rw [hj] at ih ⊢
          have h1 : ((j : Int) == -1) = false := by rw [beq_eq_false_iff_ne]; omega
          have h2 : ((j : Int) + 1 == -1) = false := by rw [beq_eq_false_iff_ne]; omega
          rw [h1] at ih ⊢
          simp only [Bool.false_eq_true, if_false] at ih ⊢
          rw [h2]
          simp only [Bool.false_eq_true, if_false]
          have e1 : ((j : Int) + 1).toNat = j + 1 := by omega
          have e2 : (j : Int).toNat = j := by omega
          rw [e2] at ih
          rw [e1]
          simp only [Nat.add_zero, List.length_singleton] at ih ⊢
          rw [List.take_succ_cons]
          injection ih with i1 i2
          rw [i1]
          congr 1

/-! ### strings.Split -/

theorem tx_size (l : List UInt8) : (⟨l.toArray⟩ : ByteArray).size = l.length := by simp [ByteArray.size]

theorem lib_Split (h : Heap) (s : List UInt8) (c : UInt8) (hs : s.length ≤ 1048576) :
    HCalls dm Tryz.prog 135 [Tx s, Tx [c]] h (fun z h' => z = .s (.sl h.length 0 (cutB c s).length) ∧ h' = h ++ [.own ((cutB c s).map stc)]) := by
  refine ⟨enters_of Tryz.func135 (by kernel_rfl) rfl, fun B0 φ w vargs R ha => ?_⟩
  have hv : vargs = #[.string ⟨s.toArray⟩, .string ⟨[c].toArray⟩] := by
    rcases vargs with ⟨vs⟩
    match vs, ha with
    | [u, v], hh =>
      have h1 : u = .string ⟨s.toArray⟩ := hh.1
      have h2 : v = .string ⟨[c].toArray⟩ := hh.2.1
      rw [h1, h2]
  subst hv
  obtain ⟨m, hm⟩ := (R.tab.2.1 _ (by unfold tabI; exact List.mem_singleton.2 rfl)).2
  have hmain := Any.strings_Split { Tryz.splitL with } Tryz.splitL.i9 ⟨s.toArray⟩ ⟨[c].toArray⟩ m w (by rw [tx_size]; omega) hm (by rw [tx_size]; simp)
  have hlen := Lib.splitB_all ⟨[c].toArray⟩ (by rw [tx_size]; simp) 0 _ ⟨s.toArray⟩ rfl
  have hdat := Lib.splitB_data ⟨[c].toArray⟩ 0 (Lib.countB ⟨s.toArray⟩ ⟨[c].toArray⟩) ⟨s.toArray⟩
  have hcut : (Lib.splitB ⟨[c].toArray⟩ 0 (Lib.countB ⟨s.toArray⟩ ⟨[c].toArray⟩) ⟨s.toArray⟩).map (·.data.toList) = cutB c s := by
    rw [hdat, ← split_cut]
    rfl
  refine hmain.mono ?_
  rintro e' w' ⟨rfl, rfl⟩
  generalize Lib.splitB ⟨[c].toArray⟩ 0 (Lib.countB ⟨s.toArray⟩ ⟨[c].toArray⟩) ⟨s.toArray⟩ = ps at hlen hcut
  generalize Lib.countB ⟨s.toArray⟩ ⟨[c].toArray⟩ = n at hlen
  have hcl := cutB_len c s
  have hpl : (cutB c s).length = n + 1 := by rw [← hcut, List.length_map, hlen]
  obtain ⟨x, h', φ', hK, h1, h2, h3, h4⟩ := new_row (dm := dm) (w := w) R (ps.map Value.string).toArray _ ((cutB c s).map stc) (by simp [hpl, hlen]) (fun k d hk => by
    rw [← hcut, List.map_map, List.getElem?_map, Option.map_eq_some_iff] at hk
    obtain ⟨p, hp, rfl⟩ := hk
    refine ⟨.string p, by simp [hp], ?_⟩
    show Value.string p = Value.string _
    simp) (n := n + 1) (by simp [hlen]) (by simp [hlen]; show n + 1 ≤ _; exact Nat.le_trans (by omega : n + 1 ≤ 1048577) (by decide)) (K := fun z h' => z = .s (.sl h.length 0 (cutB c s).length) ∧ h' = h ++ [.own ((cutB c s).map stc)]) ⟨by rw [hpl], rfl⟩
  have es : (ps.map Value.string).toArray.size = n + 1 := by simp [hlen]
  rw [es] at h3
  exact ⟨_, x, h', φ', rfl, hK, h1, h2, h3, h4⟩

end Go.Proofs.YtgliajcgcbnemaaGreatDoor.Hx

namespace Go.Proofs.YtgliajcgcbnemaaGreatDoor.Hx
open Go.RowKit
variable {dm : Bool}

def finL : List ByteArray := [⟨#[65, 49]⟩, ⟨#[65, 50]⟩, ⟨#[65, 50]⟩, ⟨#[65, 51]⟩, ⟨#[65, 51]⟩, ⟨#[66, 50]⟩, ⟨#[66, 50]⟩, ⟨#[66, 51]⟩, ⟨#[67, 51]⟩, ⟨#[71, 50]⟩]
def infL : List ByteArray := [⟨#[65, 49, 126]⟩, ⟨#[65, 50, 126]⟩, ⟨#[67, 50, 126]⟩, ⟨#[71, 50, 126]⟩, ⟨#[65, 51, 126]⟩, ⟨#[68, 52]⟩, ⟨#[65, 52]⟩]
theorem cst_one (l : List ByteArray) : ∀ c ∈ l.map cst, c.one = true := by
  intro c hc
  obtain ⟨n, _, rfl⟩ := List.mem_map.1 hc
  rfl
theorem Strs.new (h : Heap) (l : List ByteArray) : Strs (h ++ [.own (l.map cst)]) (.sl h.length 0 l.length) l := by
  have := Shows.own h.length 0 l.length _ (get_new h (.own (l.map cst))) (by simp)
  simp only [List.drop_zero] at this
  rw [List.take_of_length_le (by simp)] at this
  exact this
end Go.Proofs.YtgliajcgcbnemaaGreatDoor.Hx

namespace Go.Proofs.YtgliajcgcbnemaaGreatDoor.Hx
open Go.RowKit
variable {dm : Bool}

def tyAt (k : Nat) : ByteArray × List (List Int) := typeL.getD k (⟨#[]⟩, [])
theorem ty_len : typeL.length = 17 := rfl
theorem ty_get {k : Nat} (hk : k < 17) : tyAt k = typeL[k]'(by rw [ty_len]; exact hk) := by
  have : k < typeL.length := by rw [ty_len]; exact hk
  simp [tyAt, List.getD, this]
theorem ty_mem {k : Nat} (hk : k < 17) : tyAt k ∈ typeL := by
  rw [ty_get hk]
  exact List.getElem_mem _
theorem ty_one : ∀ p ∈ typeL, ∀ k, k < 17 → p.1 = (tyAt k).1 → p = tyAt k := by decide +kernel
theorem ty_cart : ∀ p ∈ typeL, isCartan p.2 = true := by decide +kernel
theorem ty_short : ∀ p ∈ typeL, p.1.data.toList.length ≤ 3 ∧ 120 ∉ p.1.data.toList := by decide +kernel
theorem ty_name : ∀ k, k < 17 → namesT.getD k ⟨#[]⟩ = (tyAt k).1 := by decide +kernel
theorem ty_text (s : ByteArray) : St s = Tx s.data.toList := by
  obtain ⟨d⟩ := s
  simp

/-- The first name whose matrix is like this one. -/
def nameIn (f : List (List Int) → Bool) : List (ByteArray × List (List Int)) → List UInt8
  | [] => [63]
  | t :: r => if f t.2 = true then t.1.data.toList else nameIn f r
noncomputable def nameP (c : List (List Int)) : List UInt8 := nameIn (isoB c) typeL

theorem nameIn_step (f : List (List Int) → Bool) {k : Nat} (hk : k < 17) : nameIn f (typeL.drop k) = if f (tyAt k).2 = true then (tyAt k).1.data.toList else nameIn f (typeL.drop (k + 1)) := by
  rw [List.drop_eq_getElem_cons (by rw [ty_len]; exact hk), nameIn, ← ty_get hk]
theorem nameIn_end (f : List (List Int) → Bool) : nameIn f (typeL.drop 17) = [63] := rfl
theorem nameIn_short (f : List (List Int) → Bool) : ∀ T : List (ByteArray × List (List Int)), (∀ p ∈ T, p.1.data.toList.length ≤ 3 ∧ 120 ∉ p.1.data.toList) → (nameIn f T).length ≤ 3 ∧ 120 ∉ nameIn f T
  | [], _ => by simp [nameIn]
  | t :: r, h => by
    rw [nameIn]
    split
    · exact h t (by simp)
    · exact nameIn_short f r fun p hp => h p (List.mem_cons_of_mem _ hp)
theorem nameP_short (c : List (List Int)) : (nameP c).length ≤ 3 ∧ 120 ∉ nameP c := nameIn_short _ _ ty_short

theorem ty_names : ∀ p ∈ typeL, p.1 ∈ namesT := fun p hp => by
  rw [show namesT = typeL.map (fun p => p.1) from rfl]
  exact List.mem_map.2 ⟨p, hp, rfl⟩
def typeS : List UInt8 := [65, 49, 32, 65, 50, 32, 65, 51, 32, 65, 52, 32, 66, 50, 32, 66, 51, 32, 66, 52, 32, 67, 51, 32, 67, 52, 32, 68, 52, 32, 70, 52, 32, 71, 50, 32, 65, 49, 126, 32, 65, 50, 126, 32, 65, 51, 126, 32, 67, 50, 126, 32, 71, 50, 126]
theorem typeS_cut : (cutB 32 typeS).map stc = namesT.map cst := rfl
theorem typeS_len : (cutB 32 typeS).length = namesT.length := rfl

theorem name_cell {k : Nat} (hk : k < 17) : (namesT.map cst).getD ((k : Int)).toNat (.pl (.int .i64 0)) = cst (tyAt k).1 := by
  have hl : k < namesT.length := hk
  rw [← ty_name k hk, Int.toNat_natCast]
  simp [List.getD, hl]


theorem spec_l4Names (h : Heap) : HCalls dm Tryz.prog 181 [] h (fun r h' => ∃ y, r = .s y ∧ Ext h h' ∧ Strs h' y namesT) := by
  refine calls_of_hFun (m := 0) kd_ok mixed Tryz.func181 rfl (by kernel_rfl) rfl rfl (of_decide_eq_true rfl) ?_; unfold hFun; (conv => whnf)
  refine HLit.of (xs := namesT.map cst) rfl (cst_one _) (by decide) ?_
  (conv => whnf)
  exact ⟨_, rfl, Ext.push _ _, Strs.new h namesT⟩

set_option maxHeartbeats 1000000 in
theorem spec_NameOfPart (h : Heap) (x : H0) (c : List (List Int)) (hx : Rows h x c) (hic : isCartan c = true) (hcn : isConn c = true) :
    HCalls dm Tryz.prog 133 [.s x] h (fun r h' => r = Tx (nameP c) ∧ Ext h h') := by
  have hC := (isCartan_iff c).1 hic
  have h4 := hC.le
  have hln : (namesT.map cst).length = 17 := rfl
  obtain ⟨V, hV⟩ : ∃ V, V = nameP c := ⟨_, rfl⟩
  rw [← hV]
  refine calls_of_hFun (m := 0) kd_ok mixed Tryz.func133 rfl (by kernel_rfl) rfl rfl (of_decide_eq_true rfl) ?_; unfold hFun; (conv => whnf)
  refine (spec_l4Names _).mono ?_
  rintro r h1 ⟨y, rfl, E1, S1⟩
  (conv => whnf)
  refine HLoop.intro [4] [10, 11, 12, 13, 17, 18, 19, 20, 21, 16, 22, 23, 5, 6, 25, 26, 27, 24, 28, 29, 7, 8, 30, 31, 32, 33, 34, 2, 14, 15, 4] (by kernel_rfl) (by kernel_rfl) (fun vs h' => ∃ k : Nat, vs = [I k] ∧ k ≤ 17 ∧ Ext h1 h' ∧ V = nameIn (isoB c) (typeL.drop k)) (fun vs _ => 17 - natAt vs 0) ⟨0, rfl, by omega, Ext.refl h1, hV⟩ ?_
  rintro vs h' ⟨k, rfl, hk, E, hnm⟩
  have S := Shows.ext S1 E
  have Eh := E1.trans E
  (conv => whnf)
  refine ⟨rfl, Shows.len S ?_⟩
  rw [hln]
  (conv => whnf)
  refine HIf.dec (fun hlt => ?_) (fun hge => ?_)
  · have hk17 : k < 17 := by omega
    have hst := nameIn_step (isoB c) hk17
    have ecell := name_cell hk17
    have hm := ty_mem hk17
    have hone := fun p hp => ty_one p hp k hk17
    have hcar := ty_cart _ hm
    rw [← hnm] at hst
    generalize namesT.map cst = NM at *
    generalize hr : nameIn (isoB c) (typeL.drop (k + 1)) = rest at *
    generalize tyAt k = t at *
    obtain ⟨s, M⟩ := t
    have hsn : s ∈ namesT := ty_names _ hm
    (conv => whnf)
    refine ⟨rfl, Shows.idx S (by omega) (by omega) (fun p hp => ?_)⟩
    rw [ecell] at hp
    (conv => whnf)
    refine ⟨rfl, hp.load ?_⟩
    (conv => whnf)
    refine (spec_TypeCartanN _ s hsn).mono ?_
    rintro r h2 ⟨y2, L, rfl, E2, O2, hL⟩
    obtain rfl : L = M := congrArg Prod.snd (hone _ hL rfl)
    (conv => whnf)
    refine (spec_AreIsomorphic _ _ _ _ _ (hx.ext (Eh.trans E2)) O2.rows hic hcar).mono ?_
    rintro r h3 ⟨y3, rfl, E3⟩
    have E23 := E2.trans E3
    (conv => whnf)
    cases hb : isoB c L
    · refine HIf.no ?_
      (conv => whnf)
      refine HArith.fits (by omega) (by omega) ?_
      (conv => whnf)
      exact ⟨⟨k + 1, rfl, by omega, E.trans E23, by rw [hst, hr]; simp only [hb, Bool.false_eq_true, if_false]⟩, by show 17 - (k + 1) < 17 - k; omega⟩
    · refine HIf.yes ?_
      (conv => whnf)
      refine ⟨rfl, Shows.idx (Shows.ext S E23) (by omega) (by omega) (fun p2 hp2 => ?_)⟩
      rw [ecell] at hp2
      (conv => whnf)
      refine ⟨rfl, hp2.load ?_⟩
      (conv => whnf)
      refine ⟨?_, Eh.trans E23⟩
      rw [hst]
      simp only [hb, if_true]
      exact ty_text s
  · have ek : k = 17 := by omega
    subst ek
    (conv => whnf)
    refine (spec_IsConnected _ _ c (hx.ext Eh) (by omega)).mono ?_
    rintro r h2 ⟨rfl, E2⟩
    rw [hcn]
    (conv => whnf)
    refine HIf.no ?_
    (conv => whnf)
    refine ⟨?_, Eh.trans E2⟩
    rw [hnm, nameIn_end]
    rfl

end Go.Proofs.YtgliajcgcbnemaaGreatDoor.Hx
