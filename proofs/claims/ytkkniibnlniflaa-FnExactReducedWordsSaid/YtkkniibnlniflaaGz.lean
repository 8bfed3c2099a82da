
/-
  Contracts of the places of braid moves and of braid moves one after the other, of the program and of the reference.
-/
import Derived.Test.YtkkniibnlniflaaGy
namespace Go.Proofs.Ytkkniibnlniflaa.Hx
open Go.RowKit

theorem ap_none {c : List (List Int)} {w l : List Int} (h : braids c w l = none) : apOk c w l = false ∧ apW c w l = w := by simp [apOk, apW, h]
theorem ap_off {c : List (List Int)} {w l : List Int} (h : isWord c w = false) : apOk c w l = false ∧ apW c w l = w := by
  refine ⟨by simp [apOk, h], ?_⟩
  match l with
  | [] => rfl
  | n :: l => exact (ap_none (braids_word (l := n :: l) (by simp) h)).2
theorem ap_some {c : List (List Int)} {w l x : List Int} (h : braids c w l = some x) : apOk c w l = isWord c w ∧ apW c w l = x := by simp [apOk, apW, h]

set_option smartUnfolding false

theorem spec_BraidPlaces (h : Heap) (x0 : H0) (a0 : List (List Int)) (x1 : H0) (a1 : List Int) (hx0 : Rows h x0 a0) (hx1 : Ints h x1 a1) (s0 : a0.length ≤ 1048576 ∧ tot a0 ≤ 1048576) (s1 : a1.length ≤ 1048576) :
    HCalls Try.prog 80 [.s x0, .s x1] h (fun r h' => ∃ y, r = .s y ∧ Fresh h h' y (brTo a0 a1 a1.length)) := by
  have E0 := Ext.push h [Row.own []]
  have O0 := OwnR.push h []
  refine calls_of_hFun (m := 0) kd_ok mixed Try.func80 rfl (by kernel_rfl) rfl rfl (of_decide_eq_true rfl) ?_; unfold hFun; (conv => whnf)
  refine HLit.empty ?_
  (conv => whnf)
  refine HLoop.intro [6, 5] [10, 11, 12, 13, 17, 18, 19, 20, 16, 21, 22, 7, 8, 23, 24, 25, 26, 27, 5, 14, 15, 6] (by kernel_rfl) (by kernel_rfl) (fun vs h' => ∃ (k : Nat) (z : H0) (r : Nat), vs = [I k, .s z] ∧ k ≤ a1.length ∧ Ext h h' ∧ h.length ≤ r ∧ OwnR r h' z (brTo a0 a1 k)) (fun vs _ => a1.length - natAt vs 0) ⟨0, _, h.length, rfl, by omega, E0, Nat.le_refl _, O0⟩ ?_
  rintro vs h' ⟨k, z, r, rfl, hk, E, hr, O⟩
  have hbl := brTo_le a0 a1 k
  have hx11 := hx1.ext E
  (conv => whnf)
  refine ⟨rfl, hx11.len ?_⟩
  (conv => whnf)
  refine HIf.dec (fun hlt => ?_) (fun hge => ?_)
  · (conv => whnf)
    refine (spec_BraidAt0 _ _ a0 _ a1 (k : Int) (hx0.ext E) (hx1.ext E) s0 s1).mono ?_
    rintro r2 h2 ⟨y2, rfl, f2⟩
    have E2 := E.trans f2.1
    have hE2 := E2.1
    have O2 := O.ext f2.1
    cases hb : brOk a0 a1 k
    · rw [← brTo_out hb] at O2
      (conv => whnf)
      refine HIf.no ?_
      (conv => whnf)
      refine HArith.fits (by omega) (by omega) ?_
      (conv => whnf)
      exact ⟨⟨k + 1, z, r, rfl, by omega, E2, hr, O2⟩, by show a1.length - (k + 1) < a1.length - k; omega⟩
    · (conv => whnf)
      refine HIf.yes ?_
      (conv => whnf)
      refine HLit.one ?_
      (conv => whnf)
      refine ⟨rfl, rfl, HApp.snocR O2 (by omega) (fun h3 r3 y3 B3 hr3 O3 => ?_)⟩
      rw [← brTo_in hb] at O3
      (conv => whnf)
      refine HArith.fits (by omega) (by omega) ?_
      (conv => whnf)
      exact ⟨⟨k + 1, y3, r3, rfl, by omega, E2.but B3 hr, by omega, O3⟩, by show a1.length - (k + 1) < a1.length - k; omega⟩
  · have e : k = a1.length := by omega
    subst e
    (conv => whnf)
    exact ⟨_, rfl, Fresh.ofRow E O hr⟩

end Go.Proofs.Ytkkniibnlniflaa.Hx
