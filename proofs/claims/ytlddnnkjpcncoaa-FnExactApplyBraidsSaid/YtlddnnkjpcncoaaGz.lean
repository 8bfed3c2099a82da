
/-
  Contracts of the places of braid moves and of braid moves one after the other, of the program and of the reference.
-/
import Derived.Test.YtlddnnkjpcncoaaGy
namespace Go.Proofs.Ytlddnnkjpcncoaa.Hx
open Go.RowKit
variable {dm : Bool}

theorem ap_none {c : List (List Int)} {w l : List Int} (h : braids c w l = none) : apOk c w l = false ∧ apW c w l = w := by simp [apOk, apW, h]
theorem ap_off {c : List (List Int)} {w l : List Int} (h : isWord c w = false) : apOk c w l = false ∧ apW c w l = w := by
  refine ⟨by simp [apOk, h], ?_⟩
  match l with
  | [] => rfl
  | n :: l => exact (ap_none (braids_word (l := n :: l) (by simp) h)).2
theorem ap_some {c : List (List Int)} {w l x : List Int} (h : braids c w l = some x) : apOk c w l = isWord c w ∧ apW c w l = x := by simp [apOk, apW, h]


theorem impl_BraidPlaces (h : Heap) (x0 : H0) (a0 : List (List Int)) (x1 : H0) (a1 : List Int) (hx0 : Rows h x0 a0) (hx1 : Ints h x1 a1) (s0 : a0.length ≤ 1048576 ∧ tot a0 ≤ 1048576) (s1 : a1.length ≤ 1048576) :
    HCalls dm Try.prog 26 [.s x0, .s x1] h (fun r h' => ∃ y, r = .s y ∧ Fresh h h' y (brTo a0 a1 a1.length)) := by
  have E0 := Ext.push h [Row.own []]
  have O0 := OwnR.push h []
  have hx10 := hx1.ext E0
  refine calls_of_hFun (m := 0) kd_ok mixed Try.func26 rfl (by kernel_rfl) rfl rfl (of_decide_eq_true rfl) ?_; unfold hFun; (conv => whnf)
  refine HLit.empty ?_
  (conv => whnf)
  refine ⟨rfl, hx10.len ?_⟩
  (conv => whnf)
  refine HLoop.intro [12, 5] [13, 14, 6, 16, 17, 18, 19, 15, 20, 21, 7, 8, 22, 23, 24, 25, 26, 5, 27, 12] (by kernel_rfl) (by kernel_rfl) (fun vs h' => ∃ (k : Nat) (z : H0) (r : Nat), vs = [I k, .s z] ∧ k ≤ a1.length ∧ Ext h h' ∧ h.length ≤ r ∧ OwnR r h' z (brTo a0 a1 k)) (fun vs _ => a1.length - natAt vs 0) ⟨0, _, h.length, rfl, by omega, E0, Nat.le_refl _, O0⟩ ?_
  rintro vs h' ⟨k, z, r, rfl, hk, E, hr, O⟩
  have hbl := brTo_le a0 a1 k
  (conv => whnf)
  refine HIf.dec (fun hlt => ?_) (fun hge => ?_)
  · (conv => whnf)
    refine (impl_BraidAt0 _ _ a0 _ a1 (k : Int) (hx0.ext E) (hx1.ext E) s0 s1).mono ?_
    rintro r2 h2 ⟨y2, rfl, f2⟩
    have E2 := E.trans f2.1
    have hE2 := E2.1
    have O2 := O.ext f2.1
    cases hb : brOk a0 a1 k
    · rw [← brTo_out hb] at O2
      (conv => whnf)
      refine HIf.no ?_
      (conv => whnf)
      refine HArith.fits (by omega) (by omega) ?_
      (conv => whnf)
      exact ⟨⟨k + 1, z, r, rfl, by omega, E2, hr, O2⟩, by show a1.length - (k + 1) < a1.length - k; omega⟩
    · (conv => whnf)
      refine HIf.yes ?_
      (conv => whnf)
      refine HLit.one ?_
      (conv => whnf)
      refine ⟨rfl, rfl, HApp.snocR O2 (by omega) (fun h3 r3 y3 B3 hr3 O3 => ?_)⟩
      rw [← brTo_in hb] at O3
      (conv => whnf)
      refine HArith.fits (by omega) (by omega) ?_
      (conv => whnf)
      exact ⟨⟨k + 1, y3, r3, rfl, by omega, E2.but B3 hr, by omega, O3⟩, by show a1.length - (k + 1) < a1.length - k; omega⟩
  · have e : k = a1.length := by omega
    subst e
    (conv => whnf)
    exact ⟨_, rfl, Fresh.ofRow E O hr⟩

theorem spec_BraidPlaces (h : Heap) (x0 : H0) (a0 : List (List Int)) (x1 : H0) (a1 : List Int) (hx0 : Rows h x0 a0) (hx1 : Ints h x1 a1) (s0 : a0.length ≤ 1048576 ∧ tot a0 ≤ 1048576) (s1 : a1.length ≤ 1048576) :
    HCalls dm Try.prog 25 [.s x0, .s x1] h (fun r h' => ∃ y, r = .s y ∧ Fresh h h' y (brTo a0 a1 a1.length)) := by
  have E0 := Ext.push h [Row.own []]
  have O0 := OwnR.push h []
  refine calls_of_hFun (m := 0) kd_ok mixed Try.func25 rfl (by kernel_rfl) rfl rfl (of_decide_eq_true rfl) ?_; unfold hFun; (conv => whnf)
  refine HLit.empty ?_
  (conv => whnf)
  refine HLoop.intro [6, 5] [10, 11, 12, 13, 17, 18, 19, 20, 16, 21, 22, 7, 8, 23, 24, 25, 26, 27, 5, 14, 15, 6] (by kernel_rfl) (by kernel_rfl) (fun vs h' => ∃ (k : Nat) (z : H0) (r : Nat), vs = [I k, .s z] ∧ k ≤ a1.length ∧ Ext h h' ∧ h.length ≤ r ∧ OwnR r h' z (brTo a0 a1 k)) (fun vs _ => a1.length - natAt vs 0) ⟨0, _, h.length, rfl, by omega, E0, Nat.le_refl _, O0⟩ ?_
  rintro vs h' ⟨k, z, r, rfl, hk, E, hr, O⟩
  have hbl := brTo_le a0 a1 k
  have hx11 := hx1.ext E
  (conv => whnf)
  refine ⟨rfl, hx11.len ?_⟩
  (conv => whnf)
  refine HIf.dec (fun hlt => ?_) (fun hge => ?_)
  · (conv => whnf)
    refine (spec_BraidAt0 _ _ a0 _ a1 (k : Int) (hx0.ext E) (hx1.ext E) s0 s1).mono ?_
    rintro r2 h2 ⟨y2, rfl, f2⟩
    have E2 := E.trans f2.1
    have hE2 := E2.1
    have O2 := O.ext f2.1
    cases hb : brOk a0 a1 k
    · rw [← brTo_out hb] at O2
      (conv => whnf)
      refine HIf.no ?_
      (conv => whnf)
      refine HArith.fits (by omega) (by omega) ?_
      (conv => whnf)
      exact ⟨⟨k + 1, z, r, rfl, by omega, E2, hr, O2⟩, by show a1.length - (k + 1) < a1.length - k; omega⟩
    · (conv => whnf)
      refine HIf.yes ?_
      (conv => whnf)
      refine HLit.one ?_
      (conv => whnf)
      refine ⟨rfl, rfl, HApp.snocR O2 (by omega) (fun h3 r3 y3 B3 hr3 O3 => ?_)⟩
      rw [← brTo_in hb] at O3
      (conv => whnf)
      refine HArith.fits (by omega) (by omega) ?_
      (conv => whnf)
      exact ⟨⟨k + 1, y3, r3, rfl, by omega, E2.but B3 hr, by omega, O3⟩, by show a1.length - (k + 1) < a1.length - k; omega⟩
  · have e : k = a1.length := by omega
    subst e
    (conv => whnf)
    exact ⟨_, rfl, Fresh.ofRow E O hr⟩

theorem impl_ApplyBraids (h : Heap) (x0 : H0) (a0 : List (List Int)) (x1 : H0) (a1 : List Int) (x2 : H0) (a2 : List Int) (hx0 : Rows h x0 a0) (hx1 : Ints h x1 a1) (hx2 : Ints h x2 a2) (s0 : a0.length ≤ 1048576 ∧ tot a0 ≤ 1048576) (s1 : a1.length ≤ 1048576) (s2 : a2.length ≤ 1048576) :
    HCalls dm Try.prog 30 [.s x0, .s x1, .s x2] h (fun r h' => ∃ y, r = T2 y (apOk a0 a1 a2) ∧ Fresh h h' y (apW a0 a1 a2)) := by
  refine calls_of_hFun (m := 0) kd_ok mixed Try.func30 rfl (by kernel_rfl) rfl rfl (of_decide_eq_true rfl) ?_; unfold hFun; (conv => whnf)
  refine HLit.empty ?_
  (conv => whnf)
  refine ⟨rfl, rfl, HApp.copy hx1 (by omega) (fun h1 y1 E1 O1 => ?_)⟩
  (conv => whnf)
  refine (impl_IsWord _ _ _ a0 a1 (hx0.ext E1) (hx1.ext E1) (by omega) (by omega)).mono ?_
  rintro r h2 ⟨rfl, hh⟩
  subst h2
  have hx21 := hx2.ext E1
  (conv => whnf)
  refine ⟨rfl, hx21.len ?_⟩
  have bad : ∀ h3, Ext h h3 → (apOk a0 a1 a2 = false ∧ apW a0 a1 a2 = a1) → ∀ {K : HV → Heap → Prop}, (∀ h' y, Fresh h h' y (apW a0 a1 a2) → K (.s y) h') → HApp (h3 ++ [.own []]) (.s (.sl h3.length 0 0)) (.s x1) K := fun h3 E3 hb K hK => by
    rw [hb.2] at hK
    refine HApp.copy (hx1.ext E3) (by omega) (fun h4 y4 E4 O4 => hK _ _ ?_)
    obtain ⟨q, hq1, hq2, Oq⟩ := O4.row
    have := E3.1
    exact Fresh.ofRow (E3.trans E4) Oq (by omega)
  (conv => whnf)
  refine HLoop.intro [20, 9, 8] [21, 22, 23, 11, 24, 25, 27, 28, 29, 30, 26, 31, 32, 8, 9, 33, 20] (by kernel_rfl) (by kernel_rfl) (fun vs h' => ∃ (k : Nat) (ok : Bool) (y : H0) (x : List Int), vs = [I k, B ok, .s y] ∧ k ≤ a2.length ∧ Ext h h' ∧ Own h.length h'.length h' y x ∧ x.length = a1.length ∧ (ok = true → isWord a0 a1 = true ∧ braids a0 x (a2.drop k) = braids a0 a1 a2) ∧ (ok = false → apOk a0 a1 a2 = false ∧ apW a0 a1 a2 = a1)) (fun vs _ => a2.length - natAt vs 0) ⟨0, _, y1, a1, rfl, by omega, E1, O1, rfl, fun h => ⟨h, rfl⟩, fun h => ap_off h⟩ ?_
  rintro vs h' ⟨k, ok, y, x, rfl, hk, E, O, hxl, hyes, hno⟩
  have hx22 := hx2.ext E
  (conv => whnf)
  refine HIf.dec (fun hlt => ?_) (fun hge => ?_)
  · (conv => whnf)
    refine ⟨rfl, Ints.idxN hx22 (by omega) (fun p hp => ?_)⟩
    (conv => whnf)
    refine ⟨rfl, hp.load ?_⟩
    (conv => whnf)
    cases ok
    · refine HIf.yes ?_
      (conv => whnf)
      refine HIf.yes ?_
      (conv => whnf)
      have hb := hno rfl
      rw [hb.1]
      refine HLit.empty ?_
      (conv => whnf)
      refine ⟨rfl, rfl, bad _ E hb (fun h4 y4 f4 => ?_)⟩
      (conv => whnf)
      exact ⟨_, rfl, f4⟩
    · obtain ⟨hic, hbr⟩ := hyes rfl
      have hst := braids_step (c := a0) (x := x) (l := a2) (k := k) (by omega)
      refine HIf.no ?_
      (conv => whnf)
      refine (impl_BraidAt0 _ _ a0 _ x (a2.getD k 0) (hx0.ext E) O.ints s0 (by omega)).mono ?_
      rintro r2 h2 ⟨y2, rfl, f2⟩
      have hz := Fresh.inner E f2
      generalize a2.getD k 0 = n at *
      cases hb : brOk a0 x n
      · rw [hb, if_neg (by decide), hbr] at hst
        rw [braid_off hb] at hz
        (conv => whnf)
        refine HArith.fits (by omega) (by omega) ?_
        (conv => whnf)
        exact ⟨⟨k + 1, false, y2, x, rfl, by omega, hz.1, hz.2, hxl, fun h => (by cases h), fun _ => ap_none hst⟩, by show a2.length - (k + 1) < a2.length - k; omega⟩
      · rw [hb, if_pos rfl, hbr] at hst
        have hbl := braid_same hb
        (conv => whnf)
        refine HArith.fits (by omega) (by omega) ?_
        (conv => whnf)
        exact ⟨⟨k + 1, true, y2, _, rfl, by omega, hz.1, hz.2, by omega, fun _ => ⟨hic, hst.symm⟩, fun h => (by cases h)⟩, by show a2.length - (k + 1) < a2.length - k; omega⟩
  · have e : k = a2.length := by omega
    subst e
    (conv => whnf)
    cases ok
    · refine HIf.yes ?_
      (conv => whnf)
      have hb := hno rfl
      rw [hb.1]
      refine HLit.empty ?_
      (conv => whnf)
      refine ⟨rfl, rfl, bad _ E hb (fun h4 y4 f4 => ?_)⟩
      (conv => whnf)
      exact ⟨_, rfl, f4⟩
    · obtain ⟨hic, hbr⟩ := hyes rfl
      rw [List.drop_length, braids_end] at hbr
      have ha := ap_some hbr.symm
      rw [ha.1, ha.2, hic]
      refine HIf.no ?_
      (conv => whnf)
      exact ⟨_, rfl, Fresh.of E O⟩

theorem spec_ApplyBraids (h : Heap) (x0 : H0) (a0 : List (List Int)) (x1 : H0) (a1 : List Int) (x2 : H0) (a2 : List Int) (hx0 : Rows h x0 a0) (hx1 : Ints h x1 a1) (hx2 : Ints h x2 a2) (s0 : a0.length ≤ 1048576 ∧ tot a0 ≤ 1048576) (s1 : a1.length ≤ 1048576) (s2 : a2.length ≤ 1048576) :
    HCalls dm Try.prog 29 [.s x0, .s x1, .s x2] h (fun r h' => ∃ y, r = T2 y (apOk a0 a1 a2) ∧ Fresh h h' y (apW a0 a1 a2)) := by
  refine calls_of_hFun (m := 0) kd_ok mixed Try.func29 rfl (by kernel_rfl) rfl rfl (of_decide_eq_true rfl) ?_; unfold hFun; (conv => whnf)
  refine HLit.empty ?_
  (conv => whnf)
  refine ⟨rfl, rfl, HApp.copy hx1 (by omega) (fun h1 y1 E1 O1 => ?_)⟩
  have bad : ∀ h3, Ext h h3 → (apOk a0 a1 a2 = false ∧ apW a0 a1 a2 = a1) → ∀ {K : HV → Heap → Prop}, (∀ h' y, Fresh h h' y (apW a0 a1 a2) → K (.s y) h') → HApp (h3 ++ [.own []]) (.s (.sl h3.length 0 0)) (.s x1) K := fun h3 E3 hb K hK => by
    rw [hb.2] at hK
    refine HApp.copy (hx1.ext E3) (by omega) (fun h4 y4 E4 O4 => hK _ _ ?_)
    obtain ⟨q, hq1, hq2, Oq⟩ := O4.row
    have := E3.1
    exact Fresh.ofRow (E3.trans E4) Oq (by omega)
  (conv => whnf)
  refine HLoop.intro [9, 8] [15, 16, 17, 18, 22, 23, 24, 25, 26, 27, 28, 21, 29, 30, 10, 11, 31, 32, 33, 34, 35, 6, 7, 36, 8, 19, 20, 9] (by kernel_rfl) (by kernel_rfl) (fun vs h' => ∃ (k : Nat) (y : H0) (x : List Int), vs = [I k, .s y] ∧ k ≤ a2.length ∧ Ext h h' ∧ Own h.length h'.length h' y x ∧ x.length = a1.length ∧ braids a0 x (a2.drop k) = braids a0 a1 a2) (fun vs _ => a2.length - natAt vs 0) ⟨0, y1, a1, rfl, by omega, E1, O1, rfl, rfl⟩ ?_
  rintro vs h' ⟨k, y, x, rfl, hk, E, O, hxl, hbr⟩
  have hx22 := hx2.ext E
  (conv => whnf)
  refine ⟨rfl, hx22.len ?_⟩
  (conv => whnf)
  refine HIf.dec (fun hlt => ?_) (fun hge => ?_)
  · have hst := braids_step (c := a0) (x := x) (l := a2) (k := k) (by omega)
    (conv => whnf)
    refine ⟨rfl, Ints.idxN hx22 (by omega) (fun p hp => ?_)⟩
    (conv => whnf)
    refine ⟨rfl, hp.load ?_⟩
    (conv => whnf)
    refine (spec_BraidAt0 _ _ a0 _ x (a2.getD k 0) (hx0.ext E) O.ints s0 (by omega)).mono ?_
    rintro r2 h2 ⟨y2, rfl, f2⟩
    have hz := Fresh.inner E f2
    generalize a2.getD k 0 = n at *
    cases hb : brOk a0 x n
    · rw [hb, if_neg (by decide), hbr] at hst
      have hap := ap_none hst
      rw [hap.1]
      (conv => whnf)
      refine HIf.yes ?_
      (conv => whnf)
      refine HLit.empty ?_
      (conv => whnf)
      refine ⟨rfl, rfl, bad _ hz.1 hap (fun h4 y4 f4 => ?_)⟩
      (conv => whnf)
      exact ⟨_, rfl, f4⟩
    · rw [hb, if_pos rfl, hbr] at hst
      have hbl := braid_same hb
      (conv => whnf)
      refine HIf.no ?_
      (conv => whnf)
      refine HArith.fits (by omega) (by omega) ?_
      (conv => whnf)
      exact ⟨⟨k + 1, y2, _, rfl, by omega, hz.1, hz.2, by omega, hst.symm⟩, by show a2.length - (k + 1) < a2.length - k; omega⟩
  · have e : k = a2.length := by omega
    subst e
    rw [List.drop_length, braids_end] at hbr
    have ha := ap_some hbr.symm
    rw [ha.1, ha.2]
    (conv => whnf)
    refine (spec_IsWord _ _ _ a0 a1 (hx0.ext E) (hx1.ext E) (by omega) (by omega)).mono ?_
    rintro r h2 ⟨rfl, hh⟩
    subst h2
    (conv => whnf)
    exact ⟨_, rfl, Fresh.of E O⟩

end Go.Proofs.Ytlddnnkjpcncoaa.Hx
