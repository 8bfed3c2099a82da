/-
  The law FnExactReducedWords walked: for every input it comes back true.
-/
import Derived.Test.YtkkniibnlniflaaZ23
namespace Go.Proofs.Ytkkniibnlniflaa.Hx
open Go.RowKit
variable {dm : Bool}

set_option maxHeartbeats 2000000 in
theorem law_ReducedWords (h : Heap) (x0 : H0) (a0 : List (List Int)) (x1 : H0) (a1 : List Int) (hx0 : Rows h x0 a0 ∧ Sizes a0) (hx1 : Ints h x1 a1) : HCalls dm Try.prog 5 [.s x0, .s x1] h (fun r _ => r = B true) := by
  refine calls_of_hFun (m := 0) kd_ok mixed Try.func5 rfl (by kernel_rfl) rfl rfl (of_decide_eq_true rfl) ?_; unfold hFun; (conv => whnf)
  have E := Ext.refl h
  obtain ⟨hx0, hz0⟩ := hx0
  refine ⟨rfl, hx1.len ?_⟩
  (conv => whnf)
  refine HIf.dec (fun _ => ?_) (fun hle1 => ?_)
  · (conv => whnf)
    rfl
  have s1 : a1.length ≤ 1048576 := by omega
  (conv => whnf)
  refine (szIntSS_any _ _ _ 1048576 hx0 (by omega) hz0.1 hz0.2).mono ?_
  rintro r h' ⟨rfl, ⟨left0, rfl, hleft0⟩ | rfl⟩
  rotate_left
  · (conv => whnf)
    refine HIf.yes ?_
    (conv => whnf)
    rfl
  have s0 : a0.length ≤ 1048576 ∧ tot a0 ≤ 1048576 := by omega
  (conv => whnf)
  refine HIf.decF (by omega) ?_
  (conv => whnf)
  have bd0 : (reducedWords a0 a1).length ≤ 1099511627776 ∧ tot (reducedWords a0 a1) ≤ 1099511627776 := (by have := reducedWords_size a0 a1; omega)
  refine (toIntSS_any _ _ _ (hx0.ext E) (by omega) (by omega)).mono ?_
  rintro r hh2 ⟨y2, rfl, ee2, o_t1⟩
  have nn2 := ee2.1
  replace E := E.trans ee2
  (conv => whnf)
  refine (toIntS_fresh _ _ _ (hx1.ext E) (by omega)).mono ?_
  rintro r hh4 ⟨y4, rfl, ff4⟩
  have ee4 := ff4.1
  have o_t3 := ff4.own
  have nn4 := ee4.1
  replace E := E.trans ee4
  replace o_t1 := o_t1.ext ee4
  (conv => whnf)
  refine (spec_ReducedWords _ _ _ _ _ o_t1.rows o_t3.ints s0 s1).mono ?_
  rintro r hh5 ⟨y5, rfl, ee5, o_w0⟩
  clear o_t1 o_t3
  have nn5 := ee5.1
  replace E := E.trans ee5
  (conv => whnf)
  refine (toIntSS_any _ _ _ (hx0.ext E) (by omega) (by omega)).mono ?_
  rintro r hh6 ⟨y6, rfl, ee6, o_x0⟩
  have nn6 := ee6.1
  replace E := E.trans ee6
  replace o_w0 := o_w0.ext ee6
  (conv => whnf)
  refine (toIntS_fresh _ _ _ (hx1.ext E) (by omega)).mono ?_
  rintro r hh7 ⟨y7, rfl, ff7⟩
  have ee7 := ff7.1
  have o_x1 := ff7.own
  have nn7 := ee7.1
  replace E := E.trans ee7
  replace o_w0 := o_w0.ext ee7
  replace o_x0 := o_x0.ext ee7
  (conv => whnf)
  refine (impl_ReducedWords _ _ _ _ _ o_x0.rows o_x1.ints s0 s1).mono ?_
  rintro r hh8 ⟨y8, rfl, ee8, o_g0⟩
  have nn8 := ee8.1
  replace E := E.trans ee8
  replace o_w0 := o_w0.ext ee8
  replace o_x0 := o_x0.ext ee8
  replace o_x1 := o_x1.ext ee8
  (conv => whnf)
  refine (eqIntSS_any _ _ _ _ _ o_g0.rows o_w0.rows (by omega) (by omega)).mono ?_
  rintro r hh9 ⟨rfl, rfl⟩
  (conv => whnf)
  (repeat (first | (refine HIf.decF (by omega) ?_; conv => whnf) | (refine HIf.bneF rfl ?_; conv => whnf) | (refine And.intro (show Kd.isBool _ = true from rfl) ?_; conv => whnf) | (refine HIf.no ?_; conv => whnf) | (refine HIf.isF (by simp) ?_; conv => whnf)))
  (repeat (first | (refine HIf.decF (by omega) ?_; conv => whnf) | (refine HIf.bneF rfl ?_; conv => whnf) | (refine And.intro (show Kd.isBool _ = true from rfl) ?_; conv => whnf) | (refine HIf.no ?_; conv => whnf) | (refine HIf.isF (by simp) ?_; conv => whnf)))
  refine (toIntSS_any _ _ _ (hx0.ext E) (by omega) (by omega)).mono ?_
  rintro r hh11 ⟨y11, rfl, ee11, o_t10⟩
  have nn11 := ee11.1
  replace E := E.trans ee11
  replace o_w0 := o_w0.ext ee11
  replace o_x0 := o_x0.ext ee11
  replace o_x1 := o_x1.ext ee11
  replace o_g0 := o_g0.ext ee11
  (conv => whnf)
  refine (eqIntSS_any _ _ _ _ _ o_x0.rows o_t10.rows (by omega) (by omega)).mono ?_
  rintro r hh12 ⟨rfl, rfl⟩
  (conv => whnf)
  clear o_t10
  (repeat (first | (refine HIf.decF (by omega) ?_; conv => whnf) | (refine HIf.bneF rfl ?_; conv => whnf) | (refine And.intro (show Kd.isBool _ = true from rfl) ?_; conv => whnf) | (refine HIf.no ?_; conv => whnf) | (refine HIf.isF (by simp) ?_; conv => whnf)))
  refine (toIntS_fresh _ _ _ (hx1.ext E) (by omega)).mono ?_
  rintro r hh14 ⟨y14, rfl, ff14⟩
  have ee14 := ff14.1
  have o_t13 := ff14.own
  have nn14 := ee14.1
  replace E := E.trans ee14
  replace o_w0 := o_w0.ext ee14
  replace o_x0 := o_x0.ext ee14
  replace o_x1 := o_x1.ext ee14
  replace o_g0 := o_g0.ext ee14
  (conv => whnf)
  refine (eqIntS_any _ _ _ _ _ o_x1.ints o_t13.ints (by omega)).mono ?_
  rintro r hh15 ⟨rfl, rfl⟩
  (conv => whnf)
  clear o_t13
  (repeat (first | (refine HIf.decF (by omega) ?_; conv => whnf) | (refine HIf.bneF rfl ?_; conv => whnf) | (refine And.intro (show Kd.isBool _ = true from rfl) ?_; conv => whnf) | (refine HIf.no ?_; conv => whnf) | (refine HIf.isF (by simp) ?_; conv => whnf)))
  refine (markIntSS_own _ _ _ _ _ _ o_x0 (by omega) (by omega) (by omega) (by omega)).mono ?_
  rintro r hh16 ⟨rfl, mm16, o_x0'⟩
  clear o_x0
  have nn16 := mm16.1
  replace E := E.mid mm16 (by omega)
  replace o_w0 := o_w0.mid mm16 (by omega)
  replace o_x1 := o_x1.mid mm16 (by omega)
  replace o_g0 := o_g0.mid mm16 (by omega)
  clear o_x0'
  (conv => whnf)
  refine (markIntS_own _ _ _ _ _ _ o_x1 (by omega) (by omega) (by omega)).mono ?_
  rintro r hh17 ⟨rfl, mm17, o_x1'⟩
  clear o_x1
  have nn17 := mm17.1
  replace E := E.mid mm17 (by omega)
  replace o_w0 := o_w0.mid mm17 (by omega)
  replace o_g0 := o_g0.mid mm17 (by omega)
  clear o_x1'
  (conv => whnf)
  (repeat (first | (refine HIf.decF (by omega) ?_; conv => whnf) | (refine HIf.bneF rfl ?_; conv => whnf) | (refine And.intro (show Kd.isBool _ = true from rfl) ?_; conv => whnf) | (refine HIf.no ?_; conv => whnf) | (refine HIf.isF (by simp) ?_; conv => whnf)))
  refine (eqIntSS_any _ _ _ _ _ o_g0.rows o_w0.rows (by omega) (by omega)).mono ?_
  rintro r hh18 ⟨rfl, rfl⟩
  (conv => whnf)
  (repeat (first | (refine HIf.decF (by omega) ?_; conv => whnf) | (refine HIf.bneF rfl ?_; conv => whnf) | (refine And.intro (show Kd.isBool _ = true from rfl) ?_; conv => whnf) | (refine HIf.no ?_; conv => whnf) | (refine HIf.isF (by simp) ?_; conv => whnf)))
  (repeat (first | (refine HIf.decF (by omega) ?_; conv => whnf) | (refine HIf.bneF rfl ?_; conv => whnf) | (refine And.intro (show Kd.isBool _ = true from rfl) ?_; conv => whnf) | (refine HIf.no ?_; conv => whnf) | (refine HIf.isF (by simp) ?_; conv => whnf)))
  refine (markIntSS_own _ _ _ _ _ _ o_g0 (by omega) (by omega) (by omega) (by omega)).mono ?_
  rintro r hh19 ⟨rfl, mm19, o_g0'⟩
  clear o_g0
  have nn19 := mm19.1
  replace E := E.mid mm19 (by omega)
  replace o_w0 := o_w0.mid mm19 (by omega)
  have o_g0 := o_g0'
  clear o_g0'
  (conv => whnf)
  refine (heldIntSS_any _ _ (reducedWords a0 a1) 1 o_g0.rows (by omega) (by omega) (by omega) (by omega)).mono ?_
  rintro r hh20 ⟨rfl, rfl⟩
  (conv => whnf)
  (repeat (first | (refine HIf.decF (by omega) ?_; conv => whnf) | (refine HIf.bneF rfl ?_; conv => whnf) | (refine And.intro (show Kd.isBool _ = true from rfl) ?_; conv => whnf) | (refine HIf.no ?_; conv => whnf) | (refine HIf.isF (by simp) ?_; conv => whnf)))
  (repeat (first | (refine HIf.decF (by omega) ?_; conv => whnf) | (refine HIf.bneF rfl ?_; conv => whnf) | (refine And.intro (show Kd.isBool _ = true from rfl) ?_; conv => whnf) | (refine HIf.no ?_; conv => whnf) | (refine HIf.isF (by simp) ?_; conv => whnf)))
  refine (toIntSS_any _ _ _ (hx0.ext E) (by omega) (by omega)).mono ?_
  rintro r hh22 ⟨y22, rfl, ee22, o_t21⟩
  have nn22 := ee22.1
  replace E := E.trans ee22
  replace o_w0 := o_w0.ext ee22
  replace o_g0 := o_g0.ext ee22
  (conv => whnf)
  refine (toIntS_fresh _ _ _ (hx1.ext E) (by omega)).mono ?_
  rintro r hh24 ⟨y24, rfl, ff24⟩
  have ee24 := ff24.1
  have o_t23 := ff24.own
  have nn24 := ee24.1
  replace E := E.trans ee24
  replace o_w0 := o_w0.ext ee24
  replace o_g0 := o_g0.ext ee24
  replace o_t21 := o_t21.ext ee24
  (conv => whnf)
  refine (impl_ReducedWords _ _ _ _ _ o_t21.rows o_t23.ints s0 s1).mono ?_
  rintro r hh25 ⟨y25, rfl, ee25, o_h0⟩
  clear o_t21 o_t23
  have nn25 := ee25.1
  replace E := E.trans ee25
  replace o_w0 := o_w0.ext ee25
  replace o_g0 := o_g0.ext ee25
  (conv => whnf)
  refine (eqIntSS_any _ _ _ _ _ o_h0.rows o_w0.rows (by omega) (by omega)).mono ?_
  rintro r hh26 ⟨rfl, rfl⟩
  (conv => whnf)
  (repeat (first | (refine HIf.decF (by omega) ?_; conv => whnf) | (refine HIf.bneF rfl ?_; conv => whnf) | (refine And.intro (show Kd.isBool _ = true from rfl) ?_; conv => whnf) | (refine HIf.no ?_; conv => whnf) | (refine HIf.isF (by simp) ?_; conv => whnf)))
  (repeat (first | (refine HIf.decF (by omega) ?_; conv => whnf) | (refine HIf.bneF rfl ?_; conv => whnf) | (refine And.intro (show Kd.isBool _ = true from rfl) ?_; conv => whnf) | (refine HIf.no ?_; conv => whnf) | (refine HIf.isF (by simp) ?_; conv => whnf)))
  refine (heldIntSS_any _ _ (reducedWords a0 a1) 1 o_g0.rows (by omega) (by omega) (by omega) (by omega)).mono ?_
  rintro r hh27 ⟨rfl, rfl⟩
  (conv => whnf)
  (repeat (first | (refine HIf.decF (by omega) ?_; conv => whnf) | (refine HIf.bneF rfl ?_; conv => whnf) | (refine And.intro (show Kd.isBool _ = true from rfl) ?_; conv => whnf) | (refine HIf.no ?_; conv => whnf) | (refine HIf.isF (by simp) ?_; conv => whnf)))
  (repeat (first | (refine HIf.decF (by omega) ?_; conv => whnf) | (refine HIf.bneF rfl ?_; conv => whnf) | (refine And.intro (show Kd.isBool _ = true from rfl) ?_; conv => whnf) | (refine HIf.no ?_; conv => whnf) | (refine HIf.isF (by simp) ?_; conv => whnf)))
  rfl

end Go.Proofs.Ytkkniibnlniflaa.Hx
