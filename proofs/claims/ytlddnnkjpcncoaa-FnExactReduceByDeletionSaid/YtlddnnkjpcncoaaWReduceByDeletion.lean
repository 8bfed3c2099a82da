
/-
  The law FnExactReduceByDeletion walked: for every input it comes back true.
-/
import Derived.Test.YtlddnnkjpcncoaaGv
import Derived.Test.YtlddnnkjpcncoaaHs
namespace Go.Proofs.Ytlddnnkjpcncoaa.Hx
open Go.RowKit
variable {dm : Bool}

set_option maxHeartbeats 2000000 in
theorem law_ReduceByDeletion (h : Heap) (x0 : H0) (a0 : List (List Int)) (x1 : H0) (a1 : List Int) (hx0 : Rows h x0 a0 ∧ Sizes a0) (hx1 : Ints h x1 a1) : HCalls dm Try.prog 5 [.s x0, .s x1] h (fun r _ => r = B true) := by
  refine calls_of_hFun (m := 0) kd_ok mixed Try.func5 rfl (by kernel_rfl) rfl rfl (of_decide_eq_true rfl) ?_; unfold hFun; (conv => whnf)
  have E := Ext.refl h
  obtain ⟨hx0, hz0⟩ := hx0
  refine ⟨rfl, hx1.len ?_⟩
  (conv => whnf)
  refine HIf.dec (fun _ => ?_) (fun hle1 => ?_)
  · (conv => whnf)
    rfl
  have s1 : a1.length ≤ 1048576 := by omega
  (conv => whnf)
  refine (szIntSS_any _ _ _ 1048576 hx0 (by omega) hz0.1 hz0.2).mono ?_
  rintro r h' ⟨rfl, ⟨left0, rfl, hleft0⟩ | rfl⟩
  rotate_left
  · (conv => whnf)
    refine HIf.yes ?_
    (conv => whnf)
    rfl
  have s0 : a0.length ≤ 1048576 ∧ tot a0 ≤ 1048576 := by omega
  (conv => whnf)
  refine HIf.decF (by omega) ?_
  (conv => whnf)
  obtain ⟨q0, hq0⟩ : ∃ q, q = (red a0 15 a1 []).1 := ⟨_, rfl⟩
  obtain ⟨q1, hq1⟩ : ∃ q, q = (red a0 15 a1 []).2 := ⟨_, rfl⟩
  have bd0 : (q0).length ≤ 1099511627776 := (by rw [hq0]; exact (by have := red_le a0 15 a1 []; simp only [List.length_nil] at this; omega))
  have bd1 : (q1).length ≤ 1099511627776 := (by rw [hq1]; exact (by have := red_le a0 15 a1 []; simp only [List.length_nil] at this; omega))
  refine (toIntSS_any _ _ _ (hx0.ext E) (by omega) (by omega)).mono ?_
  rintro r hh2 ⟨y2, rfl, ee2, o_t1⟩
  have nn2 := ee2.1
  replace E := E.trans ee2
  (conv => whnf)
  refine (toIntS_fresh _ _ _ (hx1.ext E) (by omega)).mono ?_
  rintro r hh4 ⟨y4, rfl, ff4⟩
  have ee4 := ff4.1
  have o_t3 := ff4.own
  have nn4 := ee4.1
  replace E := E.trans ee4
  replace o_t1 := o_t1.ext ee4
  (conv => whnf)
  refine (spec_ReduceByDeletion _ _ _ _ _ o_t1.rows o_t3.ints s0 s1).mono ?_
  rintro r hh5 ⟨y5, z5, rfl, ee5, e5, he5, hf5, o_w0, o_w1⟩
  rw [← hq0] at o_w0
  rw [← hq1] at o_w1
  clear o_t1 o_t3
  have nn5 := ee5.1
  replace E := E.trans ee5
  (conv => whnf)
  refine (toIntSS_any _ _ _ (hx0.ext E) (by omega) (by omega)).mono ?_
  rintro r hh6 ⟨y6, rfl, ee6, o_x0⟩
  have nn6 := ee6.1
  replace E := E.trans ee6
  replace o_w0 := o_w0.ext ee6
  replace o_w1 := o_w1.ext ee6
  (conv => whnf)
  refine (toIntS_fresh _ _ _ (hx1.ext E) (by omega)).mono ?_
  rintro r hh7 ⟨y7, rfl, ff7⟩
  have ee7 := ff7.1
  have o_x1 := ff7.own
  have nn7 := ee7.1
  replace E := E.trans ee7
  replace o_w0 := o_w0.ext ee7
  replace o_w1 := o_w1.ext ee7
  replace o_x0 := o_x0.ext ee7
  (conv => whnf)
  refine (impl_ReduceByDeletion _ _ _ _ _ o_x0.rows o_x1.ints s0 s1).mono ?_
  rintro r hh8 ⟨y8, z8, rfl, ee8, e8, he8, hf8, o_g0, o_g1⟩
  rw [← hq0] at o_g0
  rw [← hq1] at o_g1
  have nn8 := ee8.1
  replace E := E.trans ee8
  replace o_w0 := o_w0.ext ee8
  replace o_w1 := o_w1.ext ee8
  replace o_x0 := o_x0.ext ee8
  replace o_x1 := o_x1.ext ee8
  (conv => whnf)
  refine (eqIntS_any _ _ _ _ _ o_g0.ints o_w0.ints (by omega)).mono ?_
  rintro r hh9 ⟨rfl, rfl⟩
  (conv => whnf)
  (repeat (first | (refine HIf.decF (by omega) ?_; conv => whnf) | (refine HIf.bneF rfl ?_; conv => whnf) | (refine And.intro (show Kd.isBool _ = true from rfl) ?_; conv => whnf) | (refine HIf.no ?_; conv => whnf) | (refine HIf.isF (by simp) ?_; conv => whnf)))
  refine (eqIntS_any _ _ _ _ _ o_g1.ints o_w1.ints (by omega)).mono ?_
  rintro r hh10 ⟨rfl, rfl⟩
  (conv => whnf)
  (repeat (first | (refine HIf.decF (by omega) ?_; conv => whnf) | (refine HIf.bneF rfl ?_; conv => whnf) | (refine And.intro (show Kd.isBool _ = true from rfl) ?_; conv => whnf) | (refine HIf.no ?_; conv => whnf) | (refine HIf.isF (by simp) ?_; conv => whnf)))
  refine (toIntSS_any _ _ _ (hx0.ext E) (by omega) (by omega)).mono ?_
  rintro r hh12 ⟨y12, rfl, ee12, o_t11⟩
  have nn12 := ee12.1
  replace E := E.trans ee12
  replace o_w0 := o_w0.ext ee12
  replace o_w1 := o_w1.ext ee12
  replace o_x0 := o_x0.ext ee12
  replace o_x1 := o_x1.ext ee12
  replace o_g0 := o_g0.ext ee12
  replace o_g1 := o_g1.ext ee12
  (conv => whnf)
  refine (eqIntSS_any _ _ _ _ _ o_x0.rows o_t11.rows (by omega) (by omega)).mono ?_
  rintro r hh13 ⟨rfl, rfl⟩
  (conv => whnf)
  clear o_t11
  (repeat (first | (refine HIf.decF (by omega) ?_; conv => whnf) | (refine HIf.bneF rfl ?_; conv => whnf) | (refine And.intro (show Kd.isBool _ = true from rfl) ?_; conv => whnf) | (refine HIf.no ?_; conv => whnf) | (refine HIf.isF (by simp) ?_; conv => whnf)))
  refine (toIntS_fresh _ _ _ (hx1.ext E) (by omega)).mono ?_
  rintro r hh15 ⟨y15, rfl, ff15⟩
  have ee15 := ff15.1
  have o_t14 := ff15.own
  have nn15 := ee15.1
  replace E := E.trans ee15
  replace o_w0 := o_w0.ext ee15
  replace o_w1 := o_w1.ext ee15
  replace o_x0 := o_x0.ext ee15
  replace o_x1 := o_x1.ext ee15
  replace o_g0 := o_g0.ext ee15
  replace o_g1 := o_g1.ext ee15
  (conv => whnf)
  refine (eqIntS_any _ _ _ _ _ o_x1.ints o_t14.ints (by omega)).mono ?_
  rintro r hh16 ⟨rfl, rfl⟩
  (conv => whnf)
  clear o_t14
  (repeat (first | (refine HIf.decF (by omega) ?_; conv => whnf) | (refine HIf.bneF rfl ?_; conv => whnf) | (refine And.intro (show Kd.isBool _ = true from rfl) ?_; conv => whnf) | (refine HIf.no ?_; conv => whnf) | (refine HIf.isF (by simp) ?_; conv => whnf)))
  refine (markIntSS_own _ _ _ _ _ _ o_x0 (by omega) (by omega) (by omega) (by omega)).mono ?_
  rintro r hh17 ⟨rfl, mm17, o_x0'⟩
  clear o_x0
  have nn17 := mm17.1
  replace E := E.mid mm17 (by omega)
  replace o_w0 := o_w0.mid mm17 (by omega)
  replace o_w1 := o_w1.mid mm17 (by omega)
  replace o_x1 := o_x1.mid mm17 (by omega)
  replace o_g0 := o_g0.mid mm17 (by omega)
  replace o_g1 := o_g1.mid mm17 (by omega)
  clear o_x0'
  (conv => whnf)
  refine (markIntS_own _ _ _ _ _ _ o_x1 (by omega) (by omega) (by omega)).mono ?_
  rintro r hh18 ⟨rfl, mm18, o_x1'⟩
  clear o_x1
  have nn18 := mm18.1
  replace E := E.mid mm18 (by omega)
  replace o_w0 := o_w0.mid mm18 (by omega)
  replace o_w1 := o_w1.mid mm18 (by omega)
  replace o_g0 := o_g0.mid mm18 (by omega)
  replace o_g1 := o_g1.mid mm18 (by omega)
  clear o_x1'
  (conv => whnf)
  (repeat (first | (refine HIf.decF (by omega) ?_; conv => whnf) | (refine HIf.bneF rfl ?_; conv => whnf) | (refine And.intro (show Kd.isBool _ = true from rfl) ?_; conv => whnf) | (refine HIf.no ?_; conv => whnf) | (refine HIf.isF (by simp) ?_; conv => whnf)))
  refine (eqIntS_any _ _ _ _ _ o_g0.ints o_w0.ints (by omega)).mono ?_
  rintro r hh19 ⟨rfl, rfl⟩
  (conv => whnf)
  (repeat (first | (refine HIf.decF (by omega) ?_; conv => whnf) | (refine HIf.bneF rfl ?_; conv => whnf) | (refine And.intro (show Kd.isBool _ = true from rfl) ?_; conv => whnf) | (refine HIf.no ?_; conv => whnf) | (refine HIf.isF (by simp) ?_; conv => whnf)))
  refine (eqIntS_any _ _ _ _ _ o_g1.ints o_w1.ints (by omega)).mono ?_
  rintro r hh20 ⟨rfl, rfl⟩
  (conv => whnf)
  (repeat (first | (refine HIf.decF (by omega) ?_; conv => whnf) | (refine HIf.bneF rfl ?_; conv => whnf) | (refine And.intro (show Kd.isBool _ = true from rfl) ?_; conv => whnf) | (refine HIf.no ?_; conv => whnf) | (refine HIf.isF (by simp) ?_; conv => whnf)))
  refine (markIntS_own _ _ _ _ _ _ o_g0 (by omega) (by omega) (by omega)).mono ?_
  rintro r hh21 ⟨rfl, mm21, o_g0'⟩
  clear o_g0
  have nn21 := mm21.1
  replace E := E.mid mm21 (by omega)
  replace o_w0 := o_w0.mid mm21 (by omega)
  replace o_w1 := o_w1.mid mm21 (by omega)
  replace o_g1 := o_g1.mid mm21 (by omega)
  have o_g0 := o_g0'
  clear o_g0'
  (conv => whnf)
  refine (markIntS_own _ _ _ _ _ _ o_g1 (by omega) (by omega) (by omega)).mono ?_
  rintro r hh22 ⟨rfl, mm22, o_g1'⟩
  clear o_g1
  have nn22 := mm22.1
  replace E := E.mid mm22 (by omega)
  replace o_w0 := o_w0.mid mm22 (by omega)
  replace o_w1 := o_w1.mid mm22 (by omega)
  replace o_g0 := o_g0.mid mm22 (by omega)
  have o_g1 := o_g1'
  clear o_g1'
  (conv => whnf)
  refine (heldIntS_any _ _ (q0).length 1 o_g0.ints (by omega) (by omega) (by omega)).mono ?_
  rintro r hh23 ⟨rfl, rfl⟩
  (conv => whnf)
  (repeat (first | (refine HIf.decF (by omega) ?_; conv => whnf) | (refine HIf.bneF rfl ?_; conv => whnf) | (refine And.intro (show Kd.isBool _ = true from rfl) ?_; conv => whnf) | (refine HIf.no ?_; conv => whnf) | (refine HIf.isF (by simp) ?_; conv => whnf)))
  refine (heldIntS_any _ _ (q1).length (1 + ((q0).length : Int)) o_g1.ints (by omega) (by omega) (by omega)).mono ?_
  rintro r hh24 ⟨rfl, rfl⟩
  (conv => whnf)
  (repeat (first | (refine HIf.decF (by omega) ?_; conv => whnf) | (refine HIf.bneF rfl ?_; conv => whnf) | (refine And.intro (show Kd.isBool _ = true from rfl) ?_; conv => whnf) | (refine HIf.no ?_; conv => whnf) | (refine HIf.isF (by simp) ?_; conv => whnf)))
  (repeat (first | (refine HIf.decF (by omega) ?_; conv => whnf) | (refine HIf.bneF rfl ?_; conv => whnf) | (refine And.intro (show Kd.isBool _ = true from rfl) ?_; conv => whnf) | (refine HIf.no ?_; conv => whnf) | (refine HIf.isF (by simp) ?_; conv => whnf)))
  refine (toIntSS_any _ _ _ (hx0.ext E) (by omega) (by omega)).mono ?_
  rintro r hh26 ⟨y26, rfl, ee26, o_t25⟩
  have nn26 := ee26.1
  replace E := E.trans ee26
  replace o_w0 := o_w0.ext ee26
  replace o_w1 := o_w1.ext ee26
  replace o_g0 := o_g0.ext ee26
  replace o_g1 := o_g1.ext ee26
  (conv => whnf)
  refine (toIntS_fresh _ _ _ (hx1.ext E) (by omega)).mono ?_
  rintro r hh28 ⟨y28, rfl, ff28⟩
  have ee28 := ff28.1
  have o_t27 := ff28.own
  have nn28 := ee28.1
  replace E := E.trans ee28
  replace o_w0 := o_w0.ext ee28
  replace o_w1 := o_w1.ext ee28
  replace o_g0 := o_g0.ext ee28
  replace o_g1 := o_g1.ext ee28
  replace o_t25 := o_t25.ext ee28
  (conv => whnf)
  refine (impl_ReduceByDeletion _ _ _ _ _ o_t25.rows o_t27.ints s0 s1).mono ?_
  rintro r hh29 ⟨y29, z29, rfl, ee29, e29, he29, hf29, o_h0, o_h1⟩
  rw [← hq0] at o_h0
  rw [← hq1] at o_h1
  clear o_t25 o_t27
  have nn29 := ee29.1
  replace E := E.trans ee29
  replace o_w0 := o_w0.ext ee29
  replace o_w1 := o_w1.ext ee29
  replace o_g0 := o_g0.ext ee29
  replace o_g1 := o_g1.ext ee29
  (conv => whnf)
  refine (eqIntS_any _ _ _ _ _ o_h0.ints o_w0.ints (by omega)).mono ?_
  rintro r hh30 ⟨rfl, rfl⟩
  (conv => whnf)
  (repeat (first | (refine HIf.decF (by omega) ?_; conv => whnf) | (refine HIf.bneF rfl ?_; conv => whnf) | (refine And.intro (show Kd.isBool _ = true from rfl) ?_; conv => whnf) | (refine HIf.no ?_; conv => whnf) | (refine HIf.isF (by simp) ?_; conv => whnf)))
  refine (eqIntS_any _ _ _ _ _ o_h1.ints o_w1.ints (by omega)).mono ?_
  rintro r hh31 ⟨rfl, rfl⟩
  (conv => whnf)
  (repeat (first | (refine HIf.decF (by omega) ?_; conv => whnf) | (refine HIf.bneF rfl ?_; conv => whnf) | (refine And.intro (show Kd.isBool _ = true from rfl) ?_; conv => whnf) | (refine HIf.no ?_; conv => whnf) | (refine HIf.isF (by simp) ?_; conv => whnf)))
  refine (heldIntS_any _ _ (q0).length 1 o_g0.ints (by omega) (by omega) (by omega)).mono ?_
  rintro r hh32 ⟨rfl, rfl⟩
  (conv => whnf)
  (repeat (first | (refine HIf.decF (by omega) ?_; conv => whnf) | (refine HIf.bneF rfl ?_; conv => whnf) | (refine And.intro (show Kd.isBool _ = true from rfl) ?_; conv => whnf) | (refine HIf.no ?_; conv => whnf) | (refine HIf.isF (by simp) ?_; conv => whnf)))
  refine (heldIntS_any _ _ (q1).length (1 + ((q0).length : Int)) o_g1.ints (by omega) (by omega) (by omega)).mono ?_
  rintro r hh33 ⟨rfl, rfl⟩
  (conv => whnf)
  (repeat (first | (refine HIf.decF (by omega) ?_; conv => whnf) | (refine HIf.bneF rfl ?_; conv => whnf) | (refine And.intro (show Kd.isBool _ = true from rfl) ?_; conv => whnf) | (refine HIf.no ?_; conv => whnf) | (refine HIf.isF (by simp) ?_; conv => whnf)))
  (repeat (first | (refine HIf.decF (by omega) ?_; conv => whnf) | (refine HIf.bneF rfl ?_; conv => whnf) | (refine And.intro (show Kd.isBool _ = true from rfl) ?_; conv => whnf) | (refine HIf.no ?_; conv => whnf) | (refine HIf.isF (by simp) ?_; conv => whnf)))
  rfl

end Go.Proofs.Ytlddnnkjpcncoaa.Hx
