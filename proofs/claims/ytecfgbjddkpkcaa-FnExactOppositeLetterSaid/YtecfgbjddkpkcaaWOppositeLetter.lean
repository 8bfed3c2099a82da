
/-
  The law FnExactOppositeLetter walked: for every input it comes back true.
-/
import Derived.Test.YtecfgbjddkpkcaaKd
import Derived.Test.YtecfgbjddkpkcaaHs
namespace Go.Proofs.Ytecfgbjddkpkcaa.Hx
open Go.RowKit
variable {dm : Bool}

set_option maxHeartbeats 2000000 in
theorem law_OppositeLetter (h : Heap) (x0 : H0) (a0 : List (List Int)) (n1 : Int) (s1 : -9223372036854775808 ≤ n1 ∧ n1 ≤ 9223372036854775807) (hx0 : Rows h x0 a0 ∧ Sizes a0) : HCalls dm Try.prog 4 [.s x0, I n1] h (fun r _ => r = B true) := by
  refine calls_of_hFun (m := 0) kd_ok mixed Try.func4 rfl (by kernel_rfl) rfl rfl (of_decide_eq_true rfl) ?_; unfold hFun; (conv => whnf)
  have E := Ext.refl h
  obtain ⟨hx0, hz0⟩ := hx0
  refine (szIntSS_any _ _ _ 1048576 hx0 (by omega) hz0.1 hz0.2).mono ?_
  rintro r h' ⟨rfl, ⟨left0, rfl, hleft0⟩ | rfl⟩
  rotate_left
  · (conv => whnf)
    refine HIf.yes ?_
    (conv => whnf)
    rfl
  have s0 : a0.length ≤ 1048576 ∧ tot a0 ≤ 1048576 := by omega
  (conv => whnf)
  refine HIf.decF (by omega) ?_
  (conv => whnf)
  refine (toIntSS_any _ _ _ (hx0.ext E) (by omega) (by omega)).mono ?_
  rintro r hh2 ⟨y2, rfl, ee2, o_t1⟩
  have nn2 := ee2.1
  replace E := E.trans ee2
  (conv => whnf)
  refine (spec_OppositeLetter _ _ _ _ o_t1.rows s0 s1).mono ?_
  rintro r hh3 ⟨rfl, ee3⟩
  clear o_t1
  have nn3 := ee3.1
  replace E := E.trans ee3
  (conv => whnf)
  refine (toIntSS_any _ _ _ (hx0.ext E) (by omega) (by omega)).mono ?_
  rintro r hh4 ⟨y4, rfl, ee4, o_x0⟩
  have nn4 := ee4.1
  replace E := E.trans ee4
  (conv => whnf)
  refine (impl_OppositeLetter _ _ _ _ o_x0.rows s0 s1).mono ?_
  rintro r hh5 ⟨rfl, ee5⟩
  have nn5 := ee5.1
  replace E := E.trans ee5
  replace o_x0 := o_x0.ext ee5
  (conv => whnf)
  (repeat (first | (refine HIf.decF (by omega) ?_; conv => whnf) | (refine HIf.bneF rfl ?_; conv => whnf) | (refine And.intro (show Kd.isBool _ = true from rfl) ?_; conv => whnf) | (refine HIf.no ?_; conv => whnf) | (refine HIf.isF (by simp) ?_; conv => whnf)))
  refine (toIntSS_any _ _ _ (hx0.ext E) (by omega) (by omega)).mono ?_
  rintro r hh7 ⟨y7, rfl, ee7, o_t6⟩
  have nn7 := ee7.1
  replace E := E.trans ee7
  replace o_x0 := o_x0.ext ee7
  (conv => whnf)
  refine (eqIntSS_any _ _ _ _ _ o_x0.rows o_t6.rows (by omega) (by omega)).mono ?_
  rintro r hh8 ⟨rfl, rfl⟩
  (conv => whnf)
  clear o_t6
  (repeat (first | (refine HIf.decF (by omega) ?_; conv => whnf) | (refine HIf.bneF rfl ?_; conv => whnf) | (refine And.intro (show Kd.isBool _ = true from rfl) ?_; conv => whnf) | (refine HIf.no ?_; conv => whnf) | (refine HIf.isF (by simp) ?_; conv => whnf)))
  rfl

end Go.Proofs.Ytecfgbjddkpkcaa.Hx
