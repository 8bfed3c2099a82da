/-
  The law FnExactFormatRoots walked: for every input it comes back true.
-/
import Derived.Test.YtgliajcgcbnemaaDoorZ09
namespace Go.Proofs.YtgliajcgcbnemaaDoor.Hx
open Go.RowKit

set_option maxHeartbeats 2000000 in
theorem law_FormatRoots (h : Heap) (x0 : H0) (a0 : List (List Int)) (hx0 : Rows h x0 a0 ∧ Sizes a0 ∧ ∀ l ∈ a0, Wide l) : HCalls false Tryd.prog 3 [.s x0] h (fun r _ => r = B true) := by
  refine calls_of_hFun (m := 0) kd_ok mixed Tryd.func3 rfl (by kernel_rfl) rfl rfl (of_decide_eq_true rfl) ?_; unfold hFun; (conv => whnf)
  have E := Ext.refl h
  obtain ⟨hx0, hz0, hw⟩ := hx0
  have hw0 : I64s a0 := fun v hv n hn => hw v hv n hn
  refine (szIntSS_any _ _ _ 1048576 hx0 (by omega) hz0.1 hz0.2).mono ?_
  rintro r h' ⟨rfl, ⟨left0, rfl, hleft0⟩ | rfl⟩
  rotate_left
  · (conv => whnf)
    refine HIf.yes ?_
    (conv => whnf)
    rfl
  have s0 : a0.length ≤ 1048576 ∧ tot a0 ≤ 1048576 := by omega
  (conv => whnf)
  refine HIf.decF (by omega) ?_
  (conv => whnf)
  obtain ⟨q, hq⟩ : ∃ q, q = fmtR a0 := ⟨_, rfl⟩
  refine (toIntSS_any _ _ _ (hx0.ext E) (by omega) (by omega)).mono ?_
  rintro r hh2 ⟨y2, rfl, ee2, o_t1⟩
  have nn2 := ee2.1
  replace E := E.trans ee2
  (conv => whnf)
  refine (spec_FormatRoots _ _ _ o_t1.rows hw0 s0).mono ?_
  rintro r hh3 ⟨hr3, ee3⟩
  rw [← hq] at hr3
  subst hr3
  clear o_t1
  have nn3 := ee3.1
  replace E := E.trans ee3
  (conv => whnf)
  refine (toIntSS_any _ _ _ (hx0.ext E) (by omega) (by omega)).mono ?_
  rintro r hh4 ⟨y4, rfl, ee4, o_x0⟩
  have nn4 := ee4.1
  replace E := E.trans ee4
  (conv => whnf)
  refine (impl_FormatRoots _ _ _ o_x0.rows hw0 s0).mono ?_
  rintro r hh5 ⟨hr5, ee5⟩
  rw [← hq] at hr5
  subst hr5
  have nn5 := ee5.1
  replace E := E.trans ee5
  replace o_x0 := o_x0.ext ee5
  (conv => whnf)
  refine HStr.neqS (a := q) (b := q) ?_
  have hqq : (!(q == q)) = false := by simp
  rw [hqq]
  (conv => whnf)
  refine HIf.no ?_
  (conv => whnf)
  refine (toIntSS_any _ _ _ (hx0.ext E) (by omega) (by omega)).mono ?_
  rintro r hh8 ⟨y8, rfl, ee8, o_t7⟩
  replace o_x0 := o_x0.ext ee8
  (conv => whnf)
  refine (eqIntSS_any _ _ _ _ _ o_x0.rows o_t7.rows (by omega) (by omega)).mono ?_
  rintro r hh9 ⟨rfl, rfl⟩
  (conv => whnf)
  (repeat (first | (refine HIf.no ?_; conv => whnf) | (refine HIf.isF (by simp) ?_; conv => whnf)))
  rfl

end Go.Proofs.YtgliajcgcbnemaaDoor.Hx
