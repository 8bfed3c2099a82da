/-
  The law FnExactBraidPath walked: for every input it comes back true.
-/
import Derived.Test.YtnooeaemjnmkdaaZ26
namespace Go.Proofs.Ytnooeaemjnmkdaa.Hx
open Go.RowKit
variable {dm : Bool}

set_option maxHeartbeats 2000000 in
theorem law_BraidPath (h : Heap) (x0 : H0) (a0 : List (List Int)) (x1 : H0) (a1 : List Int) (x2 : H0) (a2 : List Int) (hx0 : Rows h x0 a0 ∧ Sizes a0) (hx1 : Ints h x1 a1) (hx2 : Ints h x2 a2) : HCalls dm Try.prog 3 [.s x0, .s x1, .s x2] h (fun r _ => r = B true) := by
  refine calls_of_hFun (m := 0) kd_ok mixed Try.func3 rfl (by kernel_rfl) rfl rfl (of_decide_eq_true rfl) ?_; unfold hFun; (conv => whnf)
  have E := Ext.refl h
  obtain ⟨hx0, hz0⟩ := hx0
  refine ⟨rfl, hx1.len ?_⟩
  (conv => whnf)
  refine HIf.dec (fun _ => ?_) (fun hle1 => ?_)
  · (conv => whnf)
    rfl
  have s1 : a1.length ≤ 1048576 := by omega
  (conv => whnf)
  refine ⟨rfl, hx2.len ?_⟩
  (conv => whnf)
  refine HIf.dec (fun _ => ?_) (fun hle2 => ?_)
  · (conv => whnf)
    rfl
  have s2 : a2.length ≤ 1048576 := by omega
  (conv => whnf)
  refine (szIntSS_any _ _ _ 1048576 hx0 (by omega) hz0.1 hz0.2).mono ?_
  rintro r h' ⟨rfl, ⟨left0, rfl, hleft0⟩ | rfl⟩
  rotate_left
  · (conv => whnf)
    refine HIf.yes ?_
    (conv => whnf)
    rfl
  have s0 : a0.length ≤ 1048576 ∧ tot a0 ≤ 1048576 := by omega
  (conv => whnf)
  refine HIf.decF (by omega) ?_
  (conv => whnf)
  obtain ⟨q0, hq0⟩ : ∃ q, q = bpPath a0 a1 a2 := ⟨_, rfl⟩
  obtain ⟨q1, hq1⟩ : ∃ q, q = bpOk a0 a1 a2 := ⟨_, rfl⟩
  have bd0 : (q0).length ≤ 1099511627776 := (by rw [hq0]; exact (by have := bpPath_len a0 a1 a2; omega))
  refine (toIntSS_any _ _ _ (hx0.ext E) (by omega) (by omega)).mono ?_
  rintro r hh2 ⟨y2, rfl, ee2, o_t1⟩
  have nn2 := ee2.1
  replace E := E.trans ee2
  (conv => whnf)
  refine (toIntS_fresh _ _ _ (hx1.ext E) (by omega)).mono ?_
  rintro r hh4 ⟨y4, rfl, ff4⟩
  have ee4 := ff4.1
  have o_t3 := ff4.own
  have nn4 := ee4.1
  replace E := E.trans ee4
  replace o_t1 := o_t1.ext ee4
  (conv => whnf)
  refine (toIntS_fresh _ _ _ (hx2.ext E) (by omega)).mono ?_
  rintro r hh6 ⟨y6, rfl, ff6⟩
  have ee6 := ff6.1
  have o_t5 := ff6.own
  have nn6 := ee6.1
  replace E := E.trans ee6
  replace o_t1 := o_t1.ext ee6
  replace o_t3 := o_t3.ext ee6
  (conv => whnf)
  refine (spec_BraidPath _ _ _ _ _ _ _ o_t1.rows o_t3.ints o_t5.ints s0 s1 s2).mono ?_
  rintro r hh7 ⟨y7, hr7, ff7⟩
  rw [← hq1] at hr7
  rw [← hq0] at ff7
  subst hr7
  have ee7 := ff7.1
  have o_w0 := ff7.own
  clear o_t1 o_t3 o_t5
  have nn7 := ee7.1
  replace E := E.trans ee7
  (conv => whnf)
  refine (toIntSS_any _ _ _ (hx0.ext E) (by omega) (by omega)).mono ?_
  rintro r hh8 ⟨y8, rfl, ee8, o_x0⟩
  have nn8 := ee8.1
  replace E := E.trans ee8
  replace o_w0 := o_w0.ext ee8
  (conv => whnf)
  refine (toIntS_fresh _ _ _ (hx1.ext E) (by omega)).mono ?_
  rintro r hh9 ⟨y9, rfl, ff9⟩
  have ee9 := ff9.1
  have o_x1 := ff9.own
  have nn9 := ee9.1
  replace E := E.trans ee9
  replace o_w0 := o_w0.ext ee9
  replace o_x0 := o_x0.ext ee9
  (conv => whnf)
  refine (toIntS_fresh _ _ _ (hx2.ext E) (by omega)).mono ?_
  rintro r hh10 ⟨y10, rfl, ff10⟩
  have ee10 := ff10.1
  have o_x2 := ff10.own
  have nn10 := ee10.1
  replace E := E.trans ee10
  replace o_w0 := o_w0.ext ee10
  replace o_x0 := o_x0.ext ee10
  replace o_x1 := o_x1.ext ee10
  (conv => whnf)
  refine (impl_BraidPath _ _ _ _ _ _ _ o_x0.rows o_x1.ints o_x2.ints s0 s1 s2).mono ?_
  rintro r hh11 ⟨y11, hr11, ff11⟩
  rw [← hq1] at hr11
  rw [← hq0] at ff11
  subst hr11
  have ee11 := ff11.1
  have o_g0 := ff11.own
  have nn11 := ee11.1
  replace E := E.trans ee11
  replace o_w0 := o_w0.ext ee11
  replace o_x0 := o_x0.ext ee11
  replace o_x1 := o_x1.ext ee11
  replace o_x2 := o_x2.ext ee11
  (conv => whnf)
  refine (eqIntS_any _ _ _ _ _ o_g0.ints o_w0.ints (by omega)).mono ?_
  rintro r hh12 ⟨rfl, rfl⟩
  (conv => whnf)
  (repeat (first | (refine HIf.decF (by omega) ?_; conv => whnf) | (refine HIf.bneF rfl ?_; conv => whnf) | (refine And.intro (show Kd.isBool _ = true from rfl) ?_; conv => whnf) | (refine HIf.no ?_; conv => whnf) | (refine HIf.isF (by simp) ?_; conv => whnf)))
  (repeat (first | (refine HIf.decF (by omega) ?_; conv => whnf) | (refine HIf.bneF rfl ?_; conv => whnf) | (refine And.intro (show Kd.isBool _ = true from rfl) ?_; conv => whnf) | (refine HIf.no ?_; conv => whnf) | (refine HIf.isF (by simp) ?_; conv => whnf)))
  refine (toIntSS_any _ _ _ (hx0.ext E) (by omega) (by omega)).mono ?_
  rintro r hh14 ⟨y14, rfl, ee14, o_t13⟩
  have nn14 := ee14.1
  replace E := E.trans ee14
  replace o_w0 := o_w0.ext ee14
  replace o_x0 := o_x0.ext ee14
  replace o_x1 := o_x1.ext ee14
  replace o_x2 := o_x2.ext ee14
  replace o_g0 := o_g0.ext ee14
  (conv => whnf)
  refine (eqIntSS_any _ _ _ _ _ o_x0.rows o_t13.rows (by omega) (by omega)).mono ?_
  rintro r hh15 ⟨rfl, rfl⟩
  (conv => whnf)
  clear o_t13
  (repeat (first | (refine HIf.decF (by omega) ?_; conv => whnf) | (refine HIf.bneF rfl ?_; conv => whnf) | (refine And.intro (show Kd.isBool _ = true from rfl) ?_; conv => whnf) | (refine HIf.no ?_; conv => whnf) | (refine HIf.isF (by simp) ?_; conv => whnf)))
  refine (toIntS_fresh _ _ _ (hx1.ext E) (by omega)).mono ?_
  rintro r hh17 ⟨y17, rfl, ff17⟩
  have ee17 := ff17.1
  have o_t16 := ff17.own
  have nn17 := ee17.1
  replace E := E.trans ee17
  replace o_w0 := o_w0.ext ee17
  replace o_x0 := o_x0.ext ee17
  replace o_x1 := o_x1.ext ee17
  replace o_x2 := o_x2.ext ee17
  replace o_g0 := o_g0.ext ee17
  (conv => whnf)
  refine (eqIntS_any _ _ _ _ _ o_x1.ints o_t16.ints (by omega)).mono ?_
  rintro r hh18 ⟨rfl, rfl⟩
  (conv => whnf)
  clear o_t16
  (repeat (first | (refine HIf.decF (by omega) ?_; conv => whnf) | (refine HIf.bneF rfl ?_; conv => whnf) | (refine And.intro (show Kd.isBool _ = true from rfl) ?_; conv => whnf) | (refine HIf.no ?_; conv => whnf) | (refine HIf.isF (by simp) ?_; conv => whnf)))
  refine (toIntS_fresh _ _ _ (hx2.ext E) (by omega)).mono ?_
  rintro r hh20 ⟨y20, rfl, ff20⟩
  have ee20 := ff20.1
  have o_t19 := ff20.own
  have nn20 := ee20.1
  replace E := E.trans ee20
  replace o_w0 := o_w0.ext ee20
  replace o_x0 := o_x0.ext ee20
  replace o_x1 := o_x1.ext ee20
  replace o_x2 := o_x2.ext ee20
  replace o_g0 := o_g0.ext ee20
  (conv => whnf)
  refine (eqIntS_any _ _ _ _ _ o_x2.ints o_t19.ints (by omega)).mono ?_
  rintro r hh21 ⟨rfl, rfl⟩
  (conv => whnf)
  clear o_t19
  (repeat (first | (refine HIf.decF (by omega) ?_; conv => whnf) | (refine HIf.bneF rfl ?_; conv => whnf) | (refine And.intro (show Kd.isBool _ = true from rfl) ?_; conv => whnf) | (refine HIf.no ?_; conv => whnf) | (refine HIf.isF (by simp) ?_; conv => whnf)))
  refine (markIntSS_own _ _ _ _ _ _ o_x0 (by omega) (by omega) (by omega) (by omega)).mono ?_
  rintro r hh22 ⟨rfl, mm22, o_x0'⟩
  clear o_x0
  have nn22 := mm22.1
  replace E := E.mid mm22 (by omega)
  replace o_w0 := o_w0.mid mm22 (by omega)
  replace o_x1 := o_x1.mid mm22 (by omega)
  replace o_x2 := o_x2.mid mm22 (by omega)
  replace o_g0 := o_g0.mid mm22 (by omega)
  clear o_x0'
  (conv => whnf)
  refine (markIntS_own _ _ _ _ _ _ o_x1 (by omega) (by omega) (by omega)).mono ?_
  rintro r hh23 ⟨rfl, mm23, o_x1'⟩
  clear o_x1
  have nn23 := mm23.1
  replace E := E.mid mm23 (by omega)
  replace o_w0 := o_w0.mid mm23 (by omega)
  replace o_x2 := o_x2.mid mm23 (by omega)
  replace o_g0 := o_g0.mid mm23 (by omega)
  clear o_x1'
  (conv => whnf)
  refine (markIntS_own _ _ _ _ _ _ o_x2 (by omega) (by omega) (by omega)).mono ?_
  rintro r hh24 ⟨rfl, mm24, o_x2'⟩
  clear o_x2
  have nn24 := mm24.1
  replace E := E.mid mm24 (by omega)
  replace o_w0 := o_w0.mid mm24 (by omega)
  replace o_g0 := o_g0.mid mm24 (by omega)
  clear o_x2'
  (conv => whnf)
  (repeat (first | (refine HIf.decF (by omega) ?_; conv => whnf) | (refine HIf.bneF rfl ?_; conv => whnf) | (refine And.intro (show Kd.isBool _ = true from rfl) ?_; conv => whnf) | (refine HIf.no ?_; conv => whnf) | (refine HIf.isF (by simp) ?_; conv => whnf)))
  refine (eqIntS_any _ _ _ _ _ o_g0.ints o_w0.ints (by omega)).mono ?_
  rintro r hh25 ⟨rfl, rfl⟩
  (conv => whnf)
  (repeat (first | (refine HIf.decF (by omega) ?_; conv => whnf) | (refine HIf.bneF rfl ?_; conv => whnf) | (refine And.intro (show Kd.isBool _ = true from rfl) ?_; conv => whnf) | (refine HIf.no ?_; conv => whnf) | (refine HIf.isF (by simp) ?_; conv => whnf)))
  (repeat (first | (refine HIf.decF (by omega) ?_; conv => whnf) | (refine HIf.bneF rfl ?_; conv => whnf) | (refine And.intro (show Kd.isBool _ = true from rfl) ?_; conv => whnf) | (refine HIf.no ?_; conv => whnf) | (refine HIf.isF (by simp) ?_; conv => whnf)))
  refine (markIntS_own _ _ _ _ _ _ o_g0 (by omega) (by omega) (by omega)).mono ?_
  rintro r hh26 ⟨rfl, mm26, o_g0'⟩
  clear o_g0
  have nn26 := mm26.1
  replace E := E.mid mm26 (by omega)
  replace o_w0 := o_w0.mid mm26 (by omega)
  have o_g0 := o_g0'
  clear o_g0'
  (conv => whnf)
  refine (heldIntS_any _ _ (q0).length 1 o_g0.ints (by omega) (by omega) (by omega)).mono ?_
  rintro r hh27 ⟨rfl, rfl⟩
  (conv => whnf)
  (repeat (first | (refine HIf.decF (by omega) ?_; conv => whnf) | (refine HIf.bneF rfl ?_; conv => whnf) | (refine And.intro (show Kd.isBool _ = true from rfl) ?_; conv => whnf) | (refine HIf.no ?_; conv => whnf) | (refine HIf.isF (by simp) ?_; conv => whnf)))
  (repeat (first | (refine HIf.decF (by omega) ?_; conv => whnf) | (refine HIf.bneF rfl ?_; conv => whnf) | (refine And.intro (show Kd.isBool _ = true from rfl) ?_; conv => whnf) | (refine HIf.no ?_; conv => whnf) | (refine HIf.isF (by simp) ?_; conv => whnf)))
  refine (toIntSS_any _ _ _ (hx0.ext E) (by omega) (by omega)).mono ?_
  rintro r hh29 ⟨y29, rfl, ee29, o_t28⟩
  have nn29 := ee29.1
  replace E := E.trans ee29
  replace o_w0 := o_w0.ext ee29
  replace o_g0 := o_g0.ext ee29
  (conv => whnf)
  refine (toIntS_fresh _ _ _ (hx1.ext E) (by omega)).mono ?_
  rintro r hh31 ⟨y31, rfl, ff31⟩
  have ee31 := ff31.1
  have o_t30 := ff31.own
  have nn31 := ee31.1
  replace E := E.trans ee31
  replace o_w0 := o_w0.ext ee31
  replace o_g0 := o_g0.ext ee31
  replace o_t28 := o_t28.ext ee31
  (conv => whnf)
  refine (toIntS_fresh _ _ _ (hx2.ext E) (by omega)).mono ?_
  rintro r hh33 ⟨y33, rfl, ff33⟩
  have ee33 := ff33.1
  have o_t32 := ff33.own
  have nn33 := ee33.1
  replace E := E.trans ee33
  replace o_w0 := o_w0.ext ee33
  replace o_g0 := o_g0.ext ee33
  replace o_t28 := o_t28.ext ee33
  replace o_t30 := o_t30.ext ee33
  (conv => whnf)
  refine (impl_BraidPath _ _ _ _ _ _ _ o_t28.rows o_t30.ints o_t32.ints s0 s1 s2).mono ?_
  rintro r hh34 ⟨y34, hr34, ff34⟩
  rw [← hq1] at hr34
  rw [← hq0] at ff34
  subst hr34
  have ee34 := ff34.1
  have o_h0 := ff34.own
  clear o_t28 o_t30 o_t32
  have nn34 := ee34.1
  replace E := E.trans ee34
  replace o_w0 := o_w0.ext ee34
  replace o_g0 := o_g0.ext ee34
  (conv => whnf)
  refine (eqIntS_any _ _ _ _ _ o_h0.ints o_w0.ints (by omega)).mono ?_
  rintro r hh35 ⟨rfl, rfl⟩
  (conv => whnf)
  (repeat (first | (refine HIf.decF (by omega) ?_; conv => whnf) | (refine HIf.bneF rfl ?_; conv => whnf) | (refine And.intro (show Kd.isBool _ = true from rfl) ?_; conv => whnf) | (refine HIf.no ?_; conv => whnf) | (refine HIf.isF (by simp) ?_; conv => whnf)))
  (repeat (first | (refine HIf.decF (by omega) ?_; conv => whnf) | (refine HIf.bneF rfl ?_; conv => whnf) | (refine And.intro (show Kd.isBool _ = true from rfl) ?_; conv => whnf) | (refine HIf.no ?_; conv => whnf) | (refine HIf.isF (by simp) ?_; conv => whnf)))
  refine (heldIntS_any _ _ (q0).length 1 o_g0.ints (by omega) (by omega) (by omega)).mono ?_
  rintro r hh36 ⟨rfl, rfl⟩
  (conv => whnf)
  (repeat (first | (refine HIf.decF (by omega) ?_; conv => whnf) | (refine HIf.bneF rfl ?_; conv => whnf) | (refine And.intro (show Kd.isBool _ = true from rfl) ?_; conv => whnf) | (refine HIf.no ?_; conv => whnf) | (refine HIf.isF (by simp) ?_; conv => whnf)))
  (repeat (first | (refine HIf.decF (by omega) ?_; conv => whnf) | (refine HIf.bneF rfl ?_; conv => whnf) | (refine And.intro (show Kd.isBool _ = true from rfl) ?_; conv => whnf) | (refine HIf.no ?_; conv => whnf) | (refine HIf.isF (by simp) ?_; conv => whnf)))
  rfl

end Go.Proofs.Ytnooeaemjnmkdaa.Hx
