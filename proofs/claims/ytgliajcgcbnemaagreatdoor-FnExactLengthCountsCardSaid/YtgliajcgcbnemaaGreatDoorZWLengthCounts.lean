/-
  The law FnExactLengthCounts walked: for every input it comes back true.
-/
import Derived.Test.YtgliajcgcbnemaaGreatDoorZ23
namespace Go.Proofs.YtgliajcgcbnemaaGreatDoor.Hx
open Go.RowKit

set_option maxHeartbeats 2000000 in
theorem law_LengthCounts (h : Heap) (x0 : H0) (a0 : List (List Int)) (hx0 : Rows h x0 a0 ∧ Sizes a0) : HCalls false Tryz.prog 5 [.s x0] h (fun r _ => r = B true) := by
  refine calls_of_hFun (m := 0) kd_ok mixed Tryz.func5 rfl (by kernel_rfl) rfl rfl (of_decide_eq_true rfl) ?_; unfold hFun; (conv => whnf)
  have E := Ext.refl h
  obtain ⟨hx0, hz0⟩ := hx0
  refine (szIntSS_any _ _ _ 1048576 hx0 (by omega) hz0.1 hz0.2).mono ?_
  rintro r h' ⟨rfl, ⟨left0, rfl, hleft0⟩ | rfl⟩
  rotate_left
  · (conv => whnf)
    refine HIf.yes ?_
    (conv => whnf)
    rfl
  have s0 : a0.length ≤ 1048576 ∧ tot a0 ≤ 1048576 := by omega
  (conv => whnf)
  refine HIf.decF (by omega) ?_
  (conv => whnf)
  obtain ⟨q0, hq0⟩ : ∃ q, q = lenCounts a0 := ⟨_, rfl⟩
  have bd0 : (q0).length ≤ 1099511627776 := (by rw [hq0]; exact Nat.le_trans (lenCounts_len _) (by decide))
  refine (toIntSS_any _ _ _ (hx0.ext E) (by omega) (by omega)).mono ?_
  rintro r hh2 ⟨y2, rfl, ee2, o_t1⟩
  have nn2 := ee2.1
  replace E := E.trans ee2
  (conv => whnf)
  refine (spec_LengthCounts _ _ _ o_t1.rows s0).mono ?_
  rintro r hh3 ⟨y3, hr3, ff3⟩
  rw [← hq0] at ff3
  subst hr3
  have ee3 := ff3.1
  have o_w0 := ff3.own
  clear o_t1
  have nn3 := ee3.1
  replace E := E.trans ee3
  (conv => whnf)
  refine (toIntSS_any _ _ _ (hx0.ext E) (by omega) (by omega)).mono ?_
  rintro r hh4 ⟨y4, rfl, ee4, o_x0⟩
  have nn4 := ee4.1
  replace E := E.trans ee4
  replace o_w0 := o_w0.ext ee4
  (conv => whnf)
  refine (impl_LengthCounts _ _ _ o_x0.rows s0).mono ?_
  rintro r hh5 ⟨y5, hr5, ff5⟩
  rw [← hq0] at ff5
  subst hr5
  have ee5 := ff5.1
  have o_g0 := ff5.own
  have nn5 := ee5.1
  replace E := E.trans ee5
  replace o_w0 := o_w0.ext ee5
  replace o_x0 := o_x0.ext ee5
  (conv => whnf)
  refine (eqIntS_any _ _ _ _ _ o_g0.ints o_w0.ints (by omega)).mono ?_
  rintro r hh6 ⟨rfl, rfl⟩
  (conv => whnf)
  (repeat (first | (refine HIf.decF (by omega) ?_; conv => whnf) | (refine HIf.bneF rfl ?_; conv => whnf) | (refine And.intro (show Kd.isBool _ = true from rfl) ?_; conv => whnf) | (refine HIf.no ?_; conv => whnf) | (refine HIf.isF (by simp) ?_; conv => whnf)))
  refine (toIntSS_any _ _ _ (hx0.ext E) (by omega) (by omega)).mono ?_
  rintro r hh8 ⟨y8, rfl, ee8, o_t7⟩
  have nn8 := ee8.1
  replace E := E.trans ee8
  replace o_w0 := o_w0.ext ee8
  replace o_x0 := o_x0.ext ee8
  replace o_g0 := o_g0.ext ee8
  (conv => whnf)
  refine (eqIntSS_any _ _ _ _ _ o_x0.rows o_t7.rows (by omega) (by omega)).mono ?_
  rintro r hh9 ⟨rfl, rfl⟩
  (conv => whnf)
  clear o_t7
  (repeat (first | (refine HIf.decF (by omega) ?_; conv => whnf) | (refine HIf.bneF rfl ?_; conv => whnf) | (refine And.intro (show Kd.isBool _ = true from rfl) ?_; conv => whnf) | (refine HIf.no ?_; conv => whnf) | (refine HIf.isF (by simp) ?_; conv => whnf)))
  refine (markIntSS_own _ _ _ _ _ _ o_x0 (by omega) (by omega) (by omega) (by omega)).mono ?_
  rintro r hh10 ⟨rfl, mm10, o_x0'⟩
  clear o_x0
  have nn10 := mm10.1
  replace E := E.mid mm10 (by omega)
  replace o_w0 := o_w0.mid mm10 (by omega)
  replace o_g0 := o_g0.mid mm10 (by omega)
  clear o_x0'
  (conv => whnf)
  (repeat (first | (refine HIf.decF (by omega) ?_; conv => whnf) | (refine HIf.bneF rfl ?_; conv => whnf) | (refine And.intro (show Kd.isBool _ = true from rfl) ?_; conv => whnf) | (refine HIf.no ?_; conv => whnf) | (refine HIf.isF (by simp) ?_; conv => whnf)))
  refine (eqIntS_any _ _ _ _ _ o_g0.ints o_w0.ints (by omega)).mono ?_
  rintro r hh11 ⟨rfl, rfl⟩
  (conv => whnf)
  (repeat (first | (refine HIf.decF (by omega) ?_; conv => whnf) | (refine HIf.bneF rfl ?_; conv => whnf) | (refine And.intro (show Kd.isBool _ = true from rfl) ?_; conv => whnf) | (refine HIf.no ?_; conv => whnf) | (refine HIf.isF (by simp) ?_; conv => whnf)))
  refine (markIntS_own _ _ _ _ _ _ o_g0 (by omega) (by omega) (by omega)).mono ?_
  rintro r hh12 ⟨rfl, mm12, o_g0'⟩
  clear o_g0
  have nn12 := mm12.1
  replace E := E.mid mm12 (by omega)
  replace o_w0 := o_w0.mid mm12 (by omega)
  have o_g0 := o_g0'
  clear o_g0'
  (conv => whnf)
  refine (heldIntS_any _ _ (q0).length 1 o_g0.ints (by omega) (by omega) (by omega)).mono ?_
  rintro r hh13 ⟨rfl, rfl⟩
  (conv => whnf)
  (repeat (first | (refine HIf.decF (by omega) ?_; conv => whnf) | (refine HIf.bneF rfl ?_; conv => whnf) | (refine And.intro (show Kd.isBool _ = true from rfl) ?_; conv => whnf) | (refine HIf.no ?_; conv => whnf) | (refine HIf.isF (by simp) ?_; conv => whnf)))
  (repeat (first | (refine HIf.decF (by omega) ?_; conv => whnf) | (refine HIf.bneF rfl ?_; conv => whnf) | (refine And.intro (show Kd.isBool _ = true from rfl) ?_; conv => whnf) | (refine HIf.no ?_; conv => whnf) | (refine HIf.isF (by simp) ?_; conv => whnf)))
  refine (toIntSS_any _ _ _ (hx0.ext E) (by omega) (by omega)).mono ?_
  rintro r hh15 ⟨y15, rfl, ee15, o_t14⟩
  have nn15 := ee15.1
  replace E := E.trans ee15
  replace o_w0 := o_w0.ext ee15
  replace o_g0 := o_g0.ext ee15
  (conv => whnf)
  refine (impl_LengthCounts _ _ _ o_t14.rows s0).mono ?_
  rintro r hh16 ⟨y16, hr16, ff16⟩
  rw [← hq0] at ff16
  subst hr16
  have ee16 := ff16.1
  have o_h0 := ff16.own
  clear o_t14
  have nn16 := ee16.1
  replace E := E.trans ee16
  replace o_w0 := o_w0.ext ee16
  replace o_g0 := o_g0.ext ee16
  (conv => whnf)
  refine (eqIntS_any _ _ _ _ _ o_h0.ints o_w0.ints (by omega)).mono ?_
  rintro r hh17 ⟨rfl, rfl⟩
  (conv => whnf)
  (repeat (first | (refine HIf.decF (by omega) ?_; conv => whnf) | (refine HIf.bneF rfl ?_; conv => whnf) | (refine And.intro (show Kd.isBool _ = true from rfl) ?_; conv => whnf) | (refine HIf.no ?_; conv => whnf) | (refine HIf.isF (by simp) ?_; conv => whnf)))
  refine (heldIntS_any _ _ (q0).length 1 o_g0.ints (by omega) (by omega) (by omega)).mono ?_
  rintro r hh18 ⟨rfl, rfl⟩
  (conv => whnf)
  (repeat (first | (refine HIf.decF (by omega) ?_; conv => whnf) | (refine HIf.bneF rfl ?_; conv => whnf) | (refine And.intro (show Kd.isBool _ = true from rfl) ?_; conv => whnf) | (refine HIf.no ?_; conv => whnf) | (refine HIf.isF (by simp) ?_; conv => whnf)))
  (repeat (first | (refine HIf.decF (by omega) ?_; conv => whnf) | (refine HIf.bneF rfl ?_; conv => whnf) | (refine And.intro (show Kd.isBool _ = true from rfl) ?_; conv => whnf) | (refine HIf.no ?_; conv => whnf) | (refine HIf.isF (by simp) ?_; conv => whnf)))
  rfl

end Go.Proofs.YtgliajcgcbnemaaGreatDoor.Hx
