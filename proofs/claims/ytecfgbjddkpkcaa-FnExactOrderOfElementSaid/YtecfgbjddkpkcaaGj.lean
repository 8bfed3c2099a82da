
/-
  Contracts of the image of rho: acted, image, RhoOf, l8Image.
-/
import Derived.Test.YtecfgbjddkpkcaaGi
namespace Go.Proofs.Ytecfgbjddkpkcaa.Hx
open Go.RowKit
variable {dm : Bool}

theorem Fresh.inner {hb h h' : Heap} {y : H0} {l : List Int} (E : Ext hb h) (f : Fresh h h' y l) : Ext hb h' ∧ Own hb.length h'.length h' y l := by
  obtain ⟨E2, q, t, rfl, hq1, hq2⟩ := f
  have := E.1
  exact ⟨E.trans E2, q, t, rfl, by omega, get_lt hq2, hq2⟩


theorem impl_acted (h : Heap) (x0 : H0) (a0 : List (List Int)) (x1 : H0) (a1 : List Int) (x2 : H0) (a2 : List Int) (hx0 : Rows h x0 a0) (hx1 : Ints h x1 a1) (hx2 : Ints h x2 a2) (hC : Cartan a0) (hw : lettersOk a0 a1 = true) (hl : a2.length = a0.length) (s1 : a1.length ≤ 1048576) :
    HCalls dm Try.prog 52 [.s x0, .s x1, .s x2] h (fun r h' => ∃ y, r = .s y ∧ Fresh h h' y (actW a0 a1 a2)) := by
  have hp := hC.le
  refine calls_of_hFun (m := 0) kd_ok mixed Try.func52 rfl (by kernel_rfl) rfl rfl (of_decide_eq_true rfl) ?_; unfold hFun; (conv => whnf)
  refine HLit.empty ?_
  (conv => whnf)
  refine ⟨rfl, rfl, HApp.copy hx2 (by omega) (fun h1 y1 E1 O1 => ?_)⟩
  have hx11 := hx1.ext E1
  (conv => whnf)
  refine ⟨rfl, hx11.len ?_⟩
  (conv => whnf)
  refine HArith.fits (by omega) (by omega) ?_
  (conv => whnf)
  refine HLoop.intro [8] [15, 16, 19, 20, 21, 22, 23, 24, 25, 17, 18, 8] (by kernel_rfl) (by kernel_rfl) (fun vs h' => ∃ k : Nat, vs = [I ((k : Int) - 1)] ∧ k ≤ a1.length ∧ Ext h h' ∧ Own h.length h'.length h' y1 (actW a0 (a1.drop k) a2)) (fun vs _ => (intAt vs 0 + 1).toNat) ⟨a1.length, rfl, Nat.le_refl _, E1, by rw [actW_end]; exact O1⟩ ?_
  rintro vs h' ⟨k, rfl, hk, E, O⟩
  have hx1 := hx1.ext E
  have hal := actW_length a0 (a1.drop k) a2
  (conv => whnf)
  refine HIf.dec (fun hlt => ?_) (fun hge => ?_)
  · obtain ⟨m, rfl⟩ : ∃ m, k = m + 1 := ⟨k - 1, by omega⟩
    obtain ⟨i, hi, hic⟩ := letter hw (k := m) (by omega)
    have e1 : (((m + 1 : Nat) : Int) - 1).toNat = m := by omega
    have hd := actW_drop a0 a1 a2 (k := m) (by omega)
    have e2 : (a1.getD m 0).toNat = i := by omega
    rw [e2] at hd
    (conv => whnf)
    refine ⟨rfl, Ints.idx hx1 (by omega) (by omega) (fun p hp => ?_)⟩
    rw [e1, hi] at hp
    (conv => whnf)
    refine ⟨rfl, hp.load ?_⟩
    (conv => whnf)
    refine (impl_reflected h _ _ _ a0 i _ hx0 E O hC hic (by omega)).mono ?_
    rintro r h2 ⟨rfl, E2, O2⟩
    rw [← hd] at O2
    (conv => whnf)
    refine HArith.fits (by omega) (by omega) ?_
    (conv => whnf)
    have e3 : ((m + 1 : Nat) : Int) - 1 - 1 = (m : Int) - 1 := by omega
    exact ⟨⟨m, by rw [← e3]; rfl, by omega, E2, O2⟩, by show (((m + 1 : Nat) : Int) - 1 - 1 + 1).toNat < (((m + 1 : Nat) : Int) - 1 + 1).toNat; omega⟩
  · have e : k = 0 := by omega
    subst e
    rw [actW_all] at O
    (conv => whnf)
    exact ⟨_, rfl, Fresh.of E O⟩

theorem impl_image (h : Heap) (x0 : H0) (a0 : List (List Int)) (x1 : H0) (a1 : List Int) (hx0 : Rows h x0 a0) (hx1 : Ints h x1 a1) (hC : Cartan a0) (hw : lettersOk a0 a1 = true) (s1 : a1.length ≤ 1048576) :
    HCalls dm Try.prog 32 [.s x0, .s x1] h (fun r h' => ∃ y, r = .s y ∧ Fresh h h' y (imageOf a0 a1)) := by
  have hp := hC.le
  refine calls_of_hFun (m := 0) kd_ok mixed Try.func32 rfl (by kernel_rfl) rfl rfl (of_decide_eq_true rfl) ?_; unfold hFun; (conv => whnf)
  refine ⟨rfl, hx0.len ?_⟩
  (conv => whnf)
  refine (impl_ones _ a0.length (by omega)).mono ?_
  rintro r h1 ⟨y1, rfl, hf⟩
  (conv => whnf)
  refine (impl_acted _ _ a0 _ a1 _ _ (hx0.ext hf.1) (hx1.ext hf.1) hf.ints hC hw (by simp) s1).mono ?_
  rintro r h2 ⟨y2, rfl, hf2⟩
  rw [image_def] at hf2
  have hz := Fresh.inner hf.1 hf2
  (conv => whnf)
  exact ⟨_, rfl, Fresh.of hz.1 hz.2⟩

theorem spec_RhoOf (h : Heap) (x0 : H0) (a0 : List (List Int)) (hx0 : Rows h x0 a0) (hC : isCartan a0 = true) :
    HCalls dm Try.prog 29 [.s x0] h (fun r h' => ∃ y, r = .s y ∧ Fresh h h' y (List.replicate a0.length 1)) := by
  have h4 := ((isCartan_iff a0).1 hC).le
  have E0 := Ext.push h [Row.own []]
  have O0 := Own.none h
  refine calls_of_hFun (m := 0) kd_ok mixed Try.func29 rfl (by kernel_rfl) rfl rfl (of_decide_eq_true rfl) ?_; unfold hFun; (conv => whnf)
  refine HLit.empty ?_
  (conv => whnf)
  refine HLoop.intro [4, 3] [6, 7, 8, 9, 10, 11, 12, 13, 16, 17, 18, 3, 14, 15, 4] (by kernel_rfl) (by kernel_rfl) (fun vs h' => ∃ (k : Nat) (z : H0), vs = [I k, .s z] ∧ k ≤ a0.length ∧ Ext h h' ∧ Own h.length h'.length h' z (List.replicate k 1)) (fun vs _ => a0.length - natAt vs 0) ⟨0, _, rfl, by omega, E0, O0⟩ ?_
  rintro vs h' ⟨k, z, rfl, hk, E, O⟩
  have hx0 := hx0.ext E
  (conv => whnf)
  refine ⟨rfl, hx0.len ?_⟩
  (conv => whnf)
  refine HIf.dec (fun hlt => ?_) (fun hge => ?_)
  · (conv => whnf)
    (repeat (first | (refine ⟨rfl, Ints.len (by assumption) ?_⟩; conv => whnf) | (refine ⟨rfl, Rows.len (by assumption) ?_⟩; conv => whnf) | (refine ⟨rfl, HLen.sl ?_⟩; conv => whnf) | (refine ⟨rfl, At.load (by assumption) ?_⟩; conv => whnf) | (refine HIf.yes ?_; conv => whnf) | (refine HIf.no ?_; conv => whnf) | (refine HIf.isT (by assumption) ?_; conv => whnf) | (refine HIf.isF (by assumption) ?_; conv => whnf) | (refine HIf.decT (by assumption) ?_; conv => whnf) | (refine HIf.decF (by assumption) ?_; conv => whnf) | (refine HIf.beqT (by assumption) ?_; conv => whnf) | (refine HIf.beqF (by assumption) ?_; conv => whnf) | (refine HIf.bneT (by assumption) ?_; conv => whnf) | (refine HIf.bneF (by assumption) ?_; conv => whnf) | (refine ⟨rfl, Ints.idxN (by assumption) (by omega) (fun p hp => ?_)⟩; conv => whnf) | (refine ⟨rfl, Rows.idxN (by assumption) (by omega) (fun p y hp hy => ?_)⟩; conv => whnf) | (refine And.intro (show Kd.isBool _ = true from rfl) ?_; conv => whnf) | (refine ⟨rfl, Ints.idx (by assumption) (by omega) (by omega) (fun p hp => ?_)⟩; conv => whnf) | (refine ⟨rfl, Rows.idx (by assumption) (by omega) (by omega) (fun p y hp hy => ?_)⟩; conv => whnf) | (refine HArith.fits (by omega) (by omega) ?_; conv => whnf) | (refine Or.inl (And.intro (show Region.lexB _ _ = true by kernel_rfl) ?_); conv => whnf)))
    refine (spec_IsCartan _ _ _ hx0 (by omega)).mono ?_
    rintro r h1 ⟨rfl, rfl⟩
    rw [hC]
    (conv => whnf)
    (repeat (first | (refine ⟨rfl, Ints.len (by assumption) ?_⟩; conv => whnf) | (refine ⟨rfl, Rows.len (by assumption) ?_⟩; conv => whnf) | (refine ⟨rfl, HLen.sl ?_⟩; conv => whnf) | (refine ⟨rfl, At.load (by assumption) ?_⟩; conv => whnf) | (refine HIf.yes ?_; conv => whnf) | (refine HIf.no ?_; conv => whnf) | (refine HIf.isT (by assumption) ?_; conv => whnf) | (refine HIf.isF (by assumption) ?_; conv => whnf) | (refine HIf.decT (by assumption) ?_; conv => whnf) | (refine HIf.decF (by assumption) ?_; conv => whnf) | (refine HIf.beqT (by assumption) ?_; conv => whnf) | (refine HIf.beqF (by assumption) ?_; conv => whnf) | (refine HIf.bneT (by assumption) ?_; conv => whnf) | (refine HIf.bneF (by assumption) ?_; conv => whnf) | (refine ⟨rfl, Ints.idxN (by assumption) (by omega) (fun p hp => ?_)⟩; conv => whnf) | (refine ⟨rfl, Rows.idxN (by assumption) (by omega) (fun p y hp hy => ?_)⟩; conv => whnf) | (refine And.intro (show Kd.isBool _ = true from rfl) ?_; conv => whnf) | (refine ⟨rfl, Ints.idx (by assumption) (by omega) (by omega) (fun p hp => ?_)⟩; conv => whnf) | (refine ⟨rfl, Rows.idx (by assumption) (by omega) (by omega) (fun p y hp hy => ?_)⟩; conv => whnf) | (refine HArith.fits (by omega) (by omega) ?_; conv => whnf) | (refine Or.inl (And.intro (show Region.lexB _ _ = true by kernel_rfl) ?_); conv => whnf)))
    refine HLit.one ?_
    (conv => whnf)
    refine ⟨rfl, rfl, HApp.snoc E O (by rw [ones_len]; omega) (fun h2 y2 E2 O2 => ?_)⟩
    rw [← ones_snoc] at O2
    (conv => whnf)
    refine HArith.fits (by omega) (by omega) ?_
    (conv => whnf)
    exact ⟨⟨k + 1, y2, rfl, by omega, E2, O2⟩, by show a0.length - (k + 1) < a0.length - k; omega⟩
  · have e : k = a0.length := by omega
    (conv => whnf)
    (repeat (first | (refine HIf.decF hge ?_; conv => whnf) | (refine HIf.no ?_; conv => whnf)))
    subst e
    exact ⟨_, rfl, Fresh.of E O⟩

theorem spec_l8Image (h : Heap) (x0 : H0) (a0 : List (List Int)) (x1 : H0) (a1 : List Int) (hx0 : Rows h x0 a0) (hx1 : Ints h x1 a1) (hic : isCartan a0 = true) (hw : lettersOk a0 a1 = true) (s1 : a1.length ≤ 1048576) :
    HCalls dm Try.prog 54 [.s x0, .s x1] h (fun r h' => ∃ y, r = .s y ∧ Fresh h h' y (imageOf a0 a1)) := by
  have hC := (isCartan_iff a0).1 hic
  have hp := hC.le
  refine calls_of_hFun (m := 0) kd_ok mixed Try.func54 rfl (by kernel_rfl) rfl rfl (of_decide_eq_true rfl) ?_; unfold hFun; (conv => whnf)
  refine (spec_RhoOf _ _ a0 hx0 hic).mono ?_
  rintro r h1 ⟨y1, rfl, hf⟩
  have hx11 := hx1.ext hf.1
  (conv => whnf)
  refine ⟨rfl, hx11.len ?_⟩
  (conv => whnf)
  refine HArith.fits (by omega) (by omega) ?_
  (conv => whnf)
  refine HLoop.intro [6, 5] [12, 13, 16, 17, 18, 19, 20, 21, 22, 5, 14, 15, 6] (by kernel_rfl) (by kernel_rfl) (fun vs h' => ∃ (k : Nat) (y : H0), vs = [I ((k : Int) - 1), .s y] ∧ k ≤ a1.length ∧ Ext h h' ∧ Own h.length h'.length h' y (actW a0 (a1.drop k) (List.replicate a0.length 1))) (fun vs _ => (intAt vs 0 + 1).toNat) ⟨a1.length, _, rfl, Nat.le_refl _, hf.1, by rw [actW_end]; exact hf.own⟩ ?_
  rintro vs h' ⟨k, y, rfl, hk, E, O⟩
  have hx0 := hx0.ext E
  have hx1 := hx1.ext E
  have hal := actW_length a0 (a1.drop k) (List.replicate a0.length 1)
  rw [ones_len] at hal
  (conv => whnf)
  refine HIf.dec (fun hlt => ?_) (fun hge => ?_)
  · obtain ⟨m, rfl⟩ : ∃ m, k = m + 1 := ⟨k - 1, by omega⟩
    obtain ⟨i, hi, hil⟩ := letter hw (k := m) (by omega)
    have e1 : (((m + 1 : Nat) : Int) - 1).toNat = m := by omega
    have hd := actW_drop a0 a1 (List.replicate a0.length 1) (k := m) (by omega)
    have e2 : (a1.getD m 0).toNat = i := by omega
    rw [e2] at hd
    (conv => whnf)
    refine ⟨rfl, Ints.idx hx1 (by omega) (by omega) (fun p hp => ?_)⟩
    rw [e1, hi] at hp
    (conv => whnf)
    refine ⟨rfl, hp.load ?_⟩
    (conv => whnf)
    refine (spec_l6Reflect _ _ _ a0 i _ hx0 O.ints hC hil (by omega)).mono ?_
    rintro r h3 ⟨y2, rfl, hf2⟩
    rw [← hd] at hf2
    have hz := Fresh.inner E hf2
    (conv => whnf)
    refine HArith.fits (by omega) (by omega) ?_
    (conv => whnf)
    have e3 : ((m + 1 : Nat) : Int) - 1 - 1 = (m : Int) - 1 := by omega
    exact ⟨⟨m, _, by rw [← e3]; rfl, by omega, hz.1, hz.2⟩, by show (((m + 1 : Nat) : Int) - 1 - 1 + 1).toNat < (((m + 1 : Nat) : Int) - 1 + 1).toNat; omega⟩
  · have e : k = 0 := by omega
    subst e
    rw [actW_all, image_def] at O
    (conv => whnf)
    exact ⟨_, rfl, Fresh.of E O⟩

end Go.Proofs.Ytecfgbjddkpkcaa.Hx
