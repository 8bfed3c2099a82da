/-
  The law FnExactCommonInversions walked: for every input it comes back true.
-/
import Derived.Test.YtkkniibnlniflaaZ23
namespace Go.Proofs.Ytkkniibnlniflaa.Hx
open Go.RowKit
variable {dm : Bool}

set_option maxHeartbeats 2000000 in
theorem law_CommonInversions (h : Heap) (x0 : H0) (a0 : List (List Int)) (x1 : H0) (a1 : List Int) (x2 : H0) (a2 : List Int) (hx0 : Rows h x0 a0 ∧ Sizes a0) (hx1 : Ints h x1 a1) (hx2 : Ints h x2 a2) : HCalls dm Try.prog 4 [.s x0, .s x1, .s x2] h (fun r _ => r = B true) := by
  refine calls_of_hFun (m := 0) kd_ok mixed Try.func4 rfl (by kernel_rfl) rfl rfl (of_decide_eq_true rfl) ?_; unfold hFun; (conv => whnf)
  have E := Ext.refl h
  obtain ⟨hx0, hz0⟩ := hx0
  refine ⟨rfl, hx1.len ?_⟩
  (conv => whnf)
  refine HIf.dec (fun _ => ?_) (fun hle1 => ?_)
  · (conv => whnf)
    rfl
  have s1 : a1.length ≤ 1048576 := by omega
  (conv => whnf)
  refine ⟨rfl, hx2.len ?_⟩
  (conv => whnf)
  refine HIf.dec (fun _ => ?_) (fun hle2 => ?_)
  · (conv => whnf)
    rfl
  have s2 : a2.length ≤ 1048576 := by omega
  (conv => whnf)
  refine (szIntSS_any _ _ _ 1048576 hx0 (by omega) hz0.1 hz0.2).mono ?_
  rintro r h' ⟨rfl, ⟨left0, rfl, hleft0⟩ | rfl⟩
  rotate_left
  · (conv => whnf)
    refine HIf.yes ?_
    (conv => whnf)
    rfl
  have s0 : a0.length ≤ 1048576 ∧ tot a0 ≤ 1048576 := by omega
  (conv => whnf)
  refine HIf.decF (by omega) ?_
  (conv => whnf)
  refine (toIntSS_any _ _ _ (hx0.ext E) (by omega) (by omega)).mono ?_
  rintro r hh2 ⟨y2, rfl, ee2, o_t1⟩
  have nn2 := ee2.1
  replace E := E.trans ee2
  (conv => whnf)
  refine (toIntS_fresh _ _ _ (hx1.ext E) (by omega)).mono ?_
  rintro r hh4 ⟨y4, rfl, ff4⟩
  have ee4 := ff4.1
  have o_t3 := ff4.own
  have nn4 := ee4.1
  replace E := E.trans ee4
  replace o_t1 := o_t1.ext ee4
  (conv => whnf)
  refine (toIntS_fresh _ _ _ (hx2.ext E) (by omega)).mono ?_
  rintro r hh6 ⟨y6, rfl, ff6⟩
  have ee6 := ff6.1
  have o_t5 := ff6.own
  have nn6 := ee6.1
  replace E := E.trans ee6
  replace o_t1 := o_t1.ext ee6
  replace o_t3 := o_t3.ext ee6
  (conv => whnf)
  refine (spec_CommonInversions _ _ _ _ _ _ _ o_t1.rows o_t3.ints o_t5.ints s0 s1 s2).mono ?_
  rintro r hh7 ⟨rfl, ee7⟩
  clear o_t1 o_t3 o_t5
  have nn7 := ee7.1
  replace E := E.trans ee7
  (conv => whnf)
  refine (toIntSS_any _ _ _ (hx0.ext E) (by omega) (by omega)).mono ?_
  rintro r hh8 ⟨y8, rfl, ee8, o_x0⟩
  have nn8 := ee8.1
  replace E := E.trans ee8
  (conv => whnf)
  refine (toIntS_fresh _ _ _ (hx1.ext E) (by omega)).mono ?_
  rintro r hh9 ⟨y9, rfl, ff9⟩
  have ee9 := ff9.1
  have o_x1 := ff9.own
  have nn9 := ee9.1
  replace E := E.trans ee9
  replace o_x0 := o_x0.ext ee9
  (conv => whnf)
  refine (toIntS_fresh _ _ _ (hx2.ext E) (by omega)).mono ?_
  rintro r hh10 ⟨y10, rfl, ff10⟩
  have ee10 := ff10.1
  have o_x2 := ff10.own
  have nn10 := ee10.1
  replace E := E.trans ee10
  replace o_x0 := o_x0.ext ee10
  replace o_x1 := o_x1.ext ee10
  (conv => whnf)
  refine (impl_CommonInversions _ _ _ _ _ _ _ o_x0.rows o_x1.ints o_x2.ints s0 s1 s2).mono ?_
  rintro r hh11 ⟨rfl, ee11⟩
  have nn11 := ee11.1
  replace E := E.trans ee11
  replace o_x0 := o_x0.ext ee11
  replace o_x1 := o_x1.ext ee11
  replace o_x2 := o_x2.ext ee11
  (conv => whnf)
  (repeat (first | (refine HIf.decF (by omega) ?_; conv => whnf) | (refine HIf.bneF rfl ?_; conv => whnf) | (refine And.intro (show Kd.isBool _ = true from rfl) ?_; conv => whnf) | (refine HIf.no ?_; conv => whnf) | (refine HIf.isF (by simp) ?_; conv => whnf)))
  refine (toIntSS_any _ _ _ (hx0.ext E) (by omega) (by omega)).mono ?_
  rintro r hh13 ⟨y13, rfl, ee13, o_t12⟩
  have nn13 := ee13.1
  replace E := E.trans ee13
  replace o_x0 := o_x0.ext ee13
  replace o_x1 := o_x1.ext ee13
  replace o_x2 := o_x2.ext ee13
  (conv => whnf)
  refine (eqIntSS_any _ _ _ _ _ o_x0.rows o_t12.rows (by omega) (by omega)).mono ?_
  rintro r hh14 ⟨rfl, rfl⟩
  (conv => whnf)
  clear o_t12
  (repeat (first | (refine HIf.decF (by omega) ?_; conv => whnf) | (refine HIf.bneF rfl ?_; conv => whnf) | (refine And.intro (show Kd.isBool _ = true from rfl) ?_; conv => whnf) | (refine HIf.no ?_; conv => whnf) | (refine HIf.isF (by simp) ?_; conv => whnf)))
  refine (toIntS_fresh _ _ _ (hx1.ext E) (by omega)).mono ?_
  rintro r hh16 ⟨y16, rfl, ff16⟩
  have ee16 := ff16.1
  have o_t15 := ff16.own
  have nn16 := ee16.1
  replace E := E.trans ee16
  replace o_x0 := o_x0.ext ee16
  replace o_x1 := o_x1.ext ee16
  replace o_x2 := o_x2.ext ee16
  (conv => whnf)
  refine (eqIntS_any _ _ _ _ _ o_x1.ints o_t15.ints (by omega)).mono ?_
  rintro r hh17 ⟨rfl, rfl⟩
  (conv => whnf)
  clear o_t15
  (repeat (first | (refine HIf.decF (by omega) ?_; conv => whnf) | (refine HIf.bneF rfl ?_; conv => whnf) | (refine And.intro (show Kd.isBool _ = true from rfl) ?_; conv => whnf) | (refine HIf.no ?_; conv => whnf) | (refine HIf.isF (by simp) ?_; conv => whnf)))
  refine (toIntS_fresh _ _ _ (hx2.ext E) (by omega)).mono ?_
  rintro r hh19 ⟨y19, rfl, ff19⟩
  have ee19 := ff19.1
  have o_t18 := ff19.own
  have nn19 := ee19.1
  replace E := E.trans ee19
  replace o_x0 := o_x0.ext ee19
  replace o_x1 := o_x1.ext ee19
  replace o_x2 := o_x2.ext ee19
  (conv => whnf)
  refine (eqIntS_any _ _ _ _ _ o_x2.ints o_t18.ints (by omega)).mono ?_
  rintro r hh20 ⟨rfl, rfl⟩
  (conv => whnf)
  clear o_t18
  (repeat (first | (refine HIf.decF (by omega) ?_; conv => whnf) | (refine HIf.bneF rfl ?_; conv => whnf) | (refine And.intro (show Kd.isBool _ = true from rfl) ?_; conv => whnf) | (refine HIf.no ?_; conv => whnf) | (refine HIf.isF (by simp) ?_; conv => whnf)))
  rfl

end Go.Proofs.Ytkkniibnlniflaa.Hx
