
/-
  Contracts of the rows' own functions, in one form: IsRootVector.
-/
import Derived.Test.YtppddfodfbnolaaFd
import Derived.Test.YtppddfodfbnolaaLc
import Derived.Test.YtppddfodfbnolaaHs
namespace Go.Proofs.Ytppddfodfbnolaa.Hx
open Go.RowKit
variable {dm : Bool}

theorem spec_IsRootVector (h : Heap) (x0 : H0) (a0 : List (List Int)) (x1 : H0) (a1 : List Int) (hx0 : Rows h x0 a0) (hx1 : Ints h x1 a1) (s0 : a0.length ≤ 1048576 ∧ tot a0 ≤ 1048576) (s1 : a1.length ≤ 1048576) :
    HCalls dm Try.prog 10 [.s x0, .s x1] h (fun r h' => r = B (isWeight a0 a1) ∧ Ext h h') := by
  refine calls_of_hFun (m := 0) kd_ok mixed Try.func10 rfl (by kernel_rfl) rfl rfl (of_decide_eq_true rfl) ?_; unfold hFun; (conv => whnf)
  refine (spec_IsWeight _ _ _ _ _ hx0 hx1 (by omega) (by omega)).mono ?_
  rintro r h' ⟨rfl, rfl⟩
  (conv => whnf)
  exact ⟨rfl, Ext.refl _⟩

theorem impl_IsRootVector (h : Heap) (x0 : H0) (a0 : List (List Int)) (x1 : H0) (a1 : List Int) (hx0 : Rows h x0 a0) (hx1 : Ints h x1 a1) (s0 : a0.length ≤ 1048576 ∧ tot a0 ≤ 1048576) (s1 : a1.length ≤ 1048576) :
    HCalls dm Try.prog 13 [.s x0, .s x1] h (fun r h' => r = B (isWeight a0 a1) ∧ Ext h h') := by
  refine calls_of_hFun (m := 0) kd_ok mixed Try.func13 rfl (by kernel_rfl) rfl rfl (of_decide_eq_true rfl) ?_; unfold hFun; (conv => whnf)
  refine (impl_IsWeight _ _ _ _ _ hx0 hx1 (by omega) (by omega)).mono ?_
  rintro r h' ⟨rfl, rfl⟩
  (conv => whnf)
  exact ⟨rfl, Ext.refl _⟩

end Go.Proofs.Ytppddfodfbnolaa.Hx
