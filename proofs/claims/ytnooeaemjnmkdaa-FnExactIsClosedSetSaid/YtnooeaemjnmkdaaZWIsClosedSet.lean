/-
  The law FnExactIsClosedSet walked: for every input it comes back true.
-/
import Derived.Test.YtnooeaemjnmkdaaZ26
namespace Go.Proofs.Ytnooeaemjnmkdaa.Hx
open Go.RowKit
variable {dm : Bool}

set_option maxHeartbeats 2000000 in
theorem law_IsClosedSet (h : Heap) (x0 : H0) (a0 : List (List Int)) (x1 : H0) (a1 : List (List Int)) (hx0 : Rows h x0 a0 ∧ Sizes a0) (hx1 : Rows h x1 a1 ∧ Sizes a1) : HCalls dm Try.prog 7 [.s x0, .s x1] h (fun r _ => r = B true) := by
  refine calls_of_hFun (m := 0) kd_ok mixed Try.func7 rfl (by kernel_rfl) rfl rfl (of_decide_eq_true rfl) ?_; unfold hFun; (conv => whnf)
  have E := Ext.refl h
  obtain ⟨hx0, hz0⟩ := hx0
  obtain ⟨hx1, hz1⟩ := hx1
  refine (szIntSS_any _ _ _ 1048576 hx0 (by omega) hz0.1 hz0.2).mono ?_
  rintro r h' ⟨rfl, ⟨left0, rfl, hleft0⟩ | rfl⟩
  rotate_left
  · (conv => whnf)
    refine HIf.yes ?_
    (conv => whnf)
    rfl
  have s0 : a0.length ≤ 1048576 ∧ tot a0 ≤ 1048576 := by omega
  (conv => whnf)
  refine HIf.decF (by omega) ?_
  (conv => whnf)
  refine (szIntSS_any _ _ _ left0 hx1 (by omega) hz1.1 hz1.2).mono ?_
  rintro r h' ⟨rfl, ⟨left1, rfl, hleft1⟩ | rfl⟩
  rotate_left
  · (conv => whnf)
    refine HIf.yes ?_
    (conv => whnf)
    rfl
  have s1 : a1.length ≤ 1048576 ∧ tot a1 ≤ 1048576 := by omega
  (conv => whnf)
  refine HIf.decF (by omega) ?_
  (conv => whnf)
  refine (toIntSS_any _ _ _ (hx0.ext E) (by omega) (by omega)).mono ?_
  rintro r hh2 ⟨y2, rfl, ee2, o_t1⟩
  have nn2 := ee2.1
  replace E := E.trans ee2
  (conv => whnf)
  refine (toIntSS_any _ _ _ (hx1.ext E) (by omega) (by omega)).mono ?_
  rintro r hh4 ⟨y4, rfl, ee4, o_t3⟩
  have nn4 := ee4.1
  replace E := E.trans ee4
  replace o_t1 := o_t1.ext ee4
  (conv => whnf)
  refine (spec_IsClosedSet _ _ _ _ _ o_t1.rows o_t3.rows s0 s1).mono ?_
  rintro r hh5 ⟨rfl, ee5⟩
  clear o_t1 o_t3
  have nn5 := ee5.1
  replace E := E.trans ee5
  (conv => whnf)
  refine (toIntSS_any _ _ _ (hx0.ext E) (by omega) (by omega)).mono ?_
  rintro r hh6 ⟨y6, rfl, ee6, o_x0⟩
  have nn6 := ee6.1
  replace E := E.trans ee6
  (conv => whnf)
  refine (toIntSS_any _ _ _ (hx1.ext E) (by omega) (by omega)).mono ?_
  rintro r hh7 ⟨y7, rfl, ee7, o_x1⟩
  have nn7 := ee7.1
  replace E := E.trans ee7
  replace o_x0 := o_x0.ext ee7
  (conv => whnf)
  refine (impl_IsClosedSet _ _ _ _ _ o_x0.rows o_x1.rows s0 s1).mono ?_
  rintro r hh8 ⟨rfl, ee8⟩
  have nn8 := ee8.1
  replace E := E.trans ee8
  replace o_x0 := o_x0.ext ee8
  replace o_x1 := o_x1.ext ee8
  (conv => whnf)
  (repeat (first | (refine HIf.decF (by omega) ?_; conv => whnf) | (refine HIf.bneF rfl ?_; conv => whnf) | (refine And.intro (show Kd.isBool _ = true from rfl) ?_; conv => whnf) | (refine HIf.no ?_; conv => whnf) | (refine HIf.isF (by simp) ?_; conv => whnf)))
  refine (toIntSS_any _ _ _ (hx0.ext E) (by omega) (by omega)).mono ?_
  rintro r hh10 ⟨y10, rfl, ee10, o_t9⟩
  have nn10 := ee10.1
  replace E := E.trans ee10
  replace o_x0 := o_x0.ext ee10
  replace o_x1 := o_x1.ext ee10
  (conv => whnf)
  refine (eqIntSS_any _ _ _ _ _ o_x0.rows o_t9.rows (by omega) (by omega)).mono ?_
  rintro r hh11 ⟨rfl, rfl⟩
  (conv => whnf)
  clear o_t9
  (repeat (first | (refine HIf.decF (by omega) ?_; conv => whnf) | (refine HIf.bneF rfl ?_; conv => whnf) | (refine And.intro (show Kd.isBool _ = true from rfl) ?_; conv => whnf) | (refine HIf.no ?_; conv => whnf) | (refine HIf.isF (by simp) ?_; conv => whnf)))
  refine (toIntSS_any _ _ _ (hx1.ext E) (by omega) (by omega)).mono ?_
  rintro r hh13 ⟨y13, rfl, ee13, o_t12⟩
  have nn13 := ee13.1
  replace E := E.trans ee13
  replace o_x0 := o_x0.ext ee13
  replace o_x1 := o_x1.ext ee13
  (conv => whnf)
  refine (eqIntSS_any _ _ _ _ _ o_x1.rows o_t12.rows (by omega) (by omega)).mono ?_
  rintro r hh14 ⟨rfl, rfl⟩
  (conv => whnf)
  clear o_t12
  (repeat (first | (refine HIf.decF (by omega) ?_; conv => whnf) | (refine HIf.bneF rfl ?_; conv => whnf) | (refine And.intro (show Kd.isBool _ = true from rfl) ?_; conv => whnf) | (refine HIf.no ?_; conv => whnf) | (refine HIf.isF (by simp) ?_; conv => whnf)))
  rfl

end Go.Proofs.Ytnooeaemjnmkdaa.Hx
