
/-
  Contracts of equality of slices and of AreSame, of the program and of the reference.
-/
import Derived.Test.YtldnbhpleaogdaaGj
namespace Go.Proofs.Ytldnbhpleaogdaa.Hx
open Go.RowKit
variable {dm : Bool}

def areSame (c : List (List Int)) (a b : List Int) : Bool := isWord c a && isWord c b && decide (imageOf c a = imageOf c b)

theorem getD_eq (a : List Int) {i : Nat} (h : i < a.length) : a.getD i 0 = a[i] := by simp [List.getD, h]
theorem take_more {a b : List Int} {i : Nat} (ha : i < a.length) (hb : i < b.length) (h : a.take i = b.take i) (e : a.getD i 0 = b.getD i 0) : a.take (i + 1) = b.take (i + 1) := by
  rw [getD_eq a ha, getD_eq b hb] at e
  rw [List.take_succ_eq_append_getElem ha, List.take_succ_eq_append_getElem hb, h, e]
theorem eq_of_take {a b : List Int} (hl : a.length = b.length) (h : a.take a.length = b.take a.length) : a = b := by
  rw [List.take_length, hl, List.take_length] at h
  exact h


theorem lib_Equal (h : Heap) (x y : H0) (a b : List Int) (hx : Ints h x a) (hy : Ints h y b) (hal : a.length ≤ 2199023255552) :
    HCalls dm Try.prog 41 [.s x, .s y] h (fun r h' => r = B (decide (a = b)) ∧ h' = h) := by
  refine calls_of_hFun (m := 0) kd_ok mixed Try.func41 rfl (by kernel_rfl) rfl rfl (of_decide_eq_true rfl) ?_; unfold hFun; (conv => whnf)
  (repeat (first | (refine ⟨rfl, Ints.len (by assumption) ?_⟩; conv => whnf) | (refine ⟨rfl, Rows.len (by assumption) ?_⟩; conv => whnf) | (refine ⟨rfl, HLen.sl ?_⟩; conv => whnf) | (refine ⟨rfl, At.load (by assumption) ?_⟩; conv => whnf) | (refine HIf.yes ?_; conv => whnf) | (refine HIf.no ?_; conv => whnf) | (refine HIf.isT (by assumption) ?_; conv => whnf) | (refine HIf.isF (by assumption) ?_; conv => whnf) | (refine HIf.decT (by assumption) ?_; conv => whnf) | (refine HIf.decF (by assumption) ?_; conv => whnf) | (refine HIf.beqT (by assumption) ?_; conv => whnf) | (refine HIf.beqF (by assumption) ?_; conv => whnf) | (refine HIf.bneT (by assumption) ?_; conv => whnf) | (refine HIf.bneF (by assumption) ?_; conv => whnf) | (refine ⟨rfl, Ints.idxN (by assumption) (by omega) (fun p hp => ?_)⟩; conv => whnf) | (refine ⟨rfl, Rows.idxN (by assumption) (by omega) (fun p y hp hy => ?_)⟩; conv => whnf) | (refine And.intro (show Kd.isBool _ = true from rfl) ?_; conv => whnf) | (refine ⟨rfl, Ints.idx (by assumption) (by omega) (by omega) (fun p hp => ?_)⟩; conv => whnf) | (refine ⟨rfl, Rows.idx (by assumption) (by omega) (by omega) (fun p y hp hy => ?_)⟩; conv => whnf) | (refine HArith.fits (by omega) (by omega) ?_; conv => whnf) | (refine Or.inl (And.intro (show Region.lexB _ _ = true by kernel_rfl) ?_); conv => whnf)))
  refine HIf.bne (fun hne => ?_) (fun heq => ?_)
  · (conv => whnf)
    exact ⟨bEq (decide_eq_false (fun e => hne (by rw [e]))), rfl⟩
  · (conv => whnf)
    (repeat (first | (refine ⟨rfl, Ints.len (by assumption) ?_⟩; conv => whnf) | (refine ⟨rfl, Rows.len (by assumption) ?_⟩; conv => whnf) | (refine ⟨rfl, HLen.sl ?_⟩; conv => whnf) | (refine ⟨rfl, At.load (by assumption) ?_⟩; conv => whnf) | (refine HIf.yes ?_; conv => whnf) | (refine HIf.no ?_; conv => whnf) | (refine HIf.isT (by assumption) ?_; conv => whnf) | (refine HIf.isF (by assumption) ?_; conv => whnf) | (refine HIf.decT (by assumption) ?_; conv => whnf) | (refine HIf.decF (by assumption) ?_; conv => whnf) | (refine HIf.beqT (by assumption) ?_; conv => whnf) | (refine HIf.beqF (by assumption) ?_; conv => whnf) | (refine HIf.bneT (by assumption) ?_; conv => whnf) | (refine HIf.bneF (by assumption) ?_; conv => whnf) | (refine ⟨rfl, Ints.idxN (by assumption) (by omega) (fun p hp => ?_)⟩; conv => whnf) | (refine ⟨rfl, Rows.idxN (by assumption) (by omega) (fun p y hp hy => ?_)⟩; conv => whnf) | (refine And.intro (show Kd.isBool _ = true from rfl) ?_; conv => whnf) | (refine ⟨rfl, Ints.idx (by assumption) (by omega) (by omega) (fun p hp => ?_)⟩; conv => whnf) | (refine ⟨rfl, Rows.idx (by assumption) (by omega) (by omega) (fun p y hp hy => ?_)⟩; conv => whnf) | (refine HArith.fits (by omega) (by omega) ?_; conv => whnf) | (refine Or.inl (And.intro (show Region.lexB _ _ = true by kernel_rfl) ?_); conv => whnf)))
    refine HLoop.intro [13] [14, 15, 5, 16, 17, 18, 19, 20, 21, 22, 23, 24, 4, 25, 13] (by kernel_rfl) (by kernel_rfl) (fun vs h' => ∃ i : Nat, vs = [I i] ∧ h' = h ∧ i ≤ a.length ∧ a.take i = b.take i) (fun vs _ => a.length - natAt vs 0) ⟨0, rfl, rfl, by omega, by simp⟩ ?_
    rintro vs h' ⟨i, rfl, rfl, hi, hab⟩
    (conv => whnf)
    refine HIf.dec (fun hlt => ?_) (fun hge => ?_)
    · (conv => whnf)
      refine Or.inl (And.intro (show Region.lexB _ _ = true by kernel_rfl) ?_); (conv => whnf)
      refine ⟨rfl, Ints.idxN hx (by omega) (fun p hp => ?_)⟩
      (conv => whnf)
      refine ⟨rfl, hp.load ?_⟩
      (conv => whnf)
      refine ⟨rfl, Ints.idxN hy (by omega) (fun p2 hp2 => ?_)⟩
      (conv => whnf)
      refine ⟨rfl, hp2.load ?_⟩
      (conv => whnf)
      refine HIf.bne (fun hne => ?_) (fun he => ?_)
      · (conv => whnf)
        exact ⟨bEq (decide_eq_false (fun e => hne (by rw [e]))), rfl⟩
      · (conv => whnf)
        refine HArith.fits (by omega) (by omega) ?_
        (conv => whnf)
        exact ⟨⟨i + 1, rfl, rfl, by omega, take_more (by omega) (by omega) hab he⟩, by show a.length - (i + 1) < a.length - i; omega⟩
    · have e : i = a.length := by omega
      subst e
      (conv => whnf)
      exact ⟨bEq (decide_eq_true (eq_of_take (by omega) hab)), rfl⟩

theorem spec_CompareWords (h : Heap) (x y : H0) (a b : List Int) (hx : Ints h x a) (hy : Ints h y b) (hal : a.length ≤ 2199023255552) :
    HCalls dm Try.prog 55 [.s x, .s y] h (fun r h' => ∃ n, r = I n ∧ (n = 0 ↔ a = b) ∧ h' = h) := by
  refine calls_of_hFun (m := 0) kd_ok mixed Try.func55 rfl (by kernel_rfl) rfl rfl (of_decide_eq_true rfl) ?_; unfold hFun; (conv => whnf)
  (repeat (first | (refine ⟨rfl, Ints.len (by assumption) ?_⟩; conv => whnf) | (refine ⟨rfl, Rows.len (by assumption) ?_⟩; conv => whnf) | (refine ⟨rfl, HLen.sl ?_⟩; conv => whnf) | (refine ⟨rfl, At.load (by assumption) ?_⟩; conv => whnf) | (refine HIf.yes ?_; conv => whnf) | (refine HIf.no ?_; conv => whnf) | (refine HIf.isT (by assumption) ?_; conv => whnf) | (refine HIf.isF (by assumption) ?_; conv => whnf) | (refine HIf.decT (by assumption) ?_; conv => whnf) | (refine HIf.decF (by assumption) ?_; conv => whnf) | (refine HIf.beqT (by assumption) ?_; conv => whnf) | (refine HIf.beqF (by assumption) ?_; conv => whnf) | (refine HIf.bneT (by assumption) ?_; conv => whnf) | (refine HIf.bneF (by assumption) ?_; conv => whnf) | (refine ⟨rfl, Ints.idxN (by assumption) (by omega) (fun p hp => ?_)⟩; conv => whnf) | (refine ⟨rfl, Rows.idxN (by assumption) (by omega) (fun p y hp hy => ?_)⟩; conv => whnf) | (refine And.intro (show Kd.isBool _ = true from rfl) ?_; conv => whnf) | (refine ⟨rfl, Ints.idx (by assumption) (by omega) (by omega) (fun p hp => ?_)⟩; conv => whnf) | (refine ⟨rfl, Rows.idx (by assumption) (by omega) (by omega) (fun p y hp hy => ?_)⟩; conv => whnf) | (refine HArith.fits (by omega) (by omega) ?_; conv => whnf) | (refine Or.inl (And.intro (show Region.lexB _ _ = true by kernel_rfl) ?_); conv => whnf)))
  refine HIf.bne (fun hne => ?_) (fun heq => ?_)
  · have hn : ¬ a = b := fun e => hne (by rw [e])
    (conv => whnf)
    (repeat (first | (refine ⟨rfl, Ints.len (by assumption) ?_⟩; conv => whnf) | (refine ⟨rfl, Rows.len (by assumption) ?_⟩; conv => whnf) | (refine ⟨rfl, HLen.sl ?_⟩; conv => whnf) | (refine ⟨rfl, At.load (by assumption) ?_⟩; conv => whnf) | (refine HIf.yes ?_; conv => whnf) | (refine HIf.no ?_; conv => whnf) | (refine HIf.isT (by assumption) ?_; conv => whnf) | (refine HIf.isF (by assumption) ?_; conv => whnf) | (refine HIf.decT (by assumption) ?_; conv => whnf) | (refine HIf.decF (by assumption) ?_; conv => whnf) | (refine HIf.beqT (by assumption) ?_; conv => whnf) | (refine HIf.beqF (by assumption) ?_; conv => whnf) | (refine HIf.bneT (by assumption) ?_; conv => whnf) | (refine HIf.bneF (by assumption) ?_; conv => whnf) | (refine ⟨rfl, Ints.idxN (by assumption) (by omega) (fun p hp => ?_)⟩; conv => whnf) | (refine ⟨rfl, Rows.idxN (by assumption) (by omega) (fun p y hp hy => ?_)⟩; conv => whnf) | (refine And.intro (show Kd.isBool _ = true from rfl) ?_; conv => whnf) | (refine ⟨rfl, Ints.idx (by assumption) (by omega) (by omega) (fun p hp => ?_)⟩; conv => whnf) | (refine ⟨rfl, Rows.idx (by assumption) (by omega) (by omega) (fun p y hp hy => ?_)⟩; conv => whnf) | (refine HArith.fits (by omega) (by omega) ?_; conv => whnf) | (refine Or.inl (And.intro (show Region.lexB _ _ = true by kernel_rfl) ?_); conv => whnf)))
    refine HIf.dec (fun _ => ?_) (fun _ => ?_)
    · (conv => whnf)
      exact ⟨_, rfl, by simp [hn], rfl⟩
    · (conv => whnf)
      exact ⟨_, rfl, by simp [hn], rfl⟩
  · (conv => whnf)
    refine HLoop.intro [5] [16, 17, 18, 19, 22, 23, 24, 25, 26, 27, 28, 29, 30, 4, 31, 32, 33, 34, 35, 36, 37, 38, 39, 4, 20, 21, 5] (by kernel_rfl) (by kernel_rfl) (fun vs h' => ∃ i : Nat, vs = [I i] ∧ h' = h ∧ i ≤ a.length ∧ a.take i = b.take i) (fun vs _ => a.length - natAt vs 0) ⟨0, rfl, rfl, by omega, by simp⟩ ?_
    rintro vs h' ⟨i, rfl, rfl, hi, hab⟩
    (conv => whnf)
    refine ⟨rfl, hx.len ?_⟩
    (conv => whnf)
    refine HIf.dec (fun hlt => ?_) (fun hge => ?_)
    · (conv => whnf)
      refine Or.inl (And.intro (show Region.lexB _ _ = true by kernel_rfl) ?_); (conv => whnf)
      refine ⟨rfl, Ints.idxN hx (by omega) (fun p hp => ?_)⟩
      (conv => whnf)
      refine ⟨rfl, hp.load ?_⟩
      (conv => whnf)
      refine ⟨rfl, Ints.idxN hy (by omega) (fun p2 hp2 => ?_)⟩
      (conv => whnf)
      refine ⟨rfl, hp2.load ?_⟩
      (conv => whnf)
      refine HIf.dec (fun h1 => ?_) (fun h1 => ?_)
      · have hn : ¬ a = b := fun e => by rw [e] at h1; omega
        (conv => whnf)
        exact ⟨_, rfl, by simp [hn], rfl⟩
      · (conv => whnf)
        refine Or.inl (And.intro (show Region.lexB _ _ = true by kernel_rfl) ?_); (conv => whnf)
        refine ⟨rfl, Ints.idxN hx (by omega) (fun p3 hp3 => ?_)⟩
        (conv => whnf)
        refine ⟨rfl, hp3.load ?_⟩
        (conv => whnf)
        refine ⟨rfl, Ints.idxN hy (by omega) (fun p4 hp4 => ?_)⟩
        (conv => whnf)
        refine ⟨rfl, hp4.load ?_⟩
        (conv => whnf)
        refine HIf.dec (fun h2 => ?_) (fun h2 => ?_)
        · have hn : ¬ a = b := fun e => by rw [e] at h2; omega
          (conv => whnf)
          exact ⟨_, rfl, by simp [hn], rfl⟩
        · (conv => whnf)
          refine HArith.fits (by omega) (by omega) ?_
          (conv => whnf)
          exact ⟨⟨i + 1, rfl, rfl, by omega, take_more (by omega) (by omega) hab (by omega)⟩, by show a.length - (i + 1) < a.length - i; omega⟩
    · have e : i = a.length := by omega
      subst e
      (conv => whnf)
      exact ⟨_, rfl, by simp [eq_of_take (by omega) hab], rfl⟩

theorem spec_EqualWords (h : Heap) (x y : H0) (a b : List Int) (hx : Ints h x a) (hy : Ints h y b) (hal : a.length ≤ 2199023255552) :
    HCalls dm Try.prog 38 [.s x, .s y] h (fun r h' => r = B (decide (a = b)) ∧ h' = h) := by
  refine calls_of_hFun (m := 0) kd_ok mixed Try.func38 rfl (by kernel_rfl) rfl rfl (of_decide_eq_true rfl) ?_; unfold hFun; (conv => whnf)
  refine (spec_CompareWords _ _ _ a b hx hy hal).mono ?_
  rintro r h' ⟨n, rfl, hn, rfl⟩
  (conv => whnf)
  refine ⟨bEq ?_, rfl⟩
  by_cases e : a = b
  · simp [e, hn.2 e]
  · simp [e, hn]

theorem impl_AreSame (h : Heap) (x0 : H0) (a0 : List (List Int)) (x1 : H0) (a1 : List Int) (x2 : H0) (a2 : List Int) (hx0 : Rows h x0 a0) (hx1 : Ints h x1 a1) (hx2 : Ints h x2 a2) (s0 : a0.length ≤ 1048576 ∧ tot a0 ≤ 1048576) (s1 : a1.length ≤ 1048576) (s2 : a2.length ≤ 1048576) :
    HCalls dm Try.prog 23 [.s x0, .s x1, .s x2] h (fun r h' => r = B (areSame a0 a1 a2) ∧ Ext h h') := by
  have same : ∀ (hc1 : isWord a0 a1 = true) (hc2 : isWord a0 a2 = true), HCalls dm Try.prog 45 [.s x0, .s x1, .s x2] h (fun r h' => r = B (areSame a0 a1 a2) ∧ Ext h h') := by
    intro hc1 hc2
    have w1 := word_cartan hc1
    have w2 := word_cartan hc2
    have h4 := w1.1.le
    refine calls_of_hFun (m := 0) kd_ok mixed Try.func45 rfl (by kernel_rfl) rfl rfl (of_decide_eq_true rfl) ?_; unfold hFun; (conv => whnf)
    refine (impl_image _ _ a0 _ a1 hx0 hx1 w1.1 w1.2.2 s1).mono ?_
    rintro r h1 ⟨y1, rfl, f1⟩
    (conv => whnf)
    refine (impl_image _ _ a0 _ a2 (hx0.ext f1.1) (hx2.ext f1.1) w2.1 w2.2.2 s2).mono ?_
    rintro r h2 ⟨y2, rfl, f2⟩
    (conv => whnf)
    refine (lib_Equal _ _ _ _ _ (f1.ints.ext f2.1) f2.ints (by rw [imageOf_length]; omega)).mono ?_
    rintro r h3 ⟨rfl, rfl⟩
    (conv => whnf)
    exact ⟨bEq (by simp [areSame, hc1, hc2]), f1.1.trans f2.1⟩
  refine calls_of_hFun (m := 0) kd_ok mixed Try.func23 rfl (by kernel_rfl) rfl rfl (of_decide_eq_true rfl) ?_; unfold hFun; (conv => whnf)
  refine (impl_IsWord _ _ _ a0 a1 hx0 hx1 (by omega) (by omega)).mono ?_
  rintro r h1 ⟨rfl, rfl⟩
  (conv => whnf)
  cases hc1 : isWord a0 a1
  · (repeat (first | (refine ⟨rfl, Ints.len (by assumption) ?_⟩; conv => whnf) | (refine ⟨rfl, Rows.len (by assumption) ?_⟩; conv => whnf) | (refine ⟨rfl, HLen.sl ?_⟩; conv => whnf) | (refine ⟨rfl, At.load (by assumption) ?_⟩; conv => whnf) | (refine HIf.yes ?_; conv => whnf) | (refine HIf.no ?_; conv => whnf) | (refine HIf.isT (by assumption) ?_; conv => whnf) | (refine HIf.isF (by assumption) ?_; conv => whnf) | (refine HIf.decT (by assumption) ?_; conv => whnf) | (refine HIf.decF (by assumption) ?_; conv => whnf) | (refine HIf.beqT (by assumption) ?_; conv => whnf) | (refine HIf.beqF (by assumption) ?_; conv => whnf) | (refine HIf.bneT (by assumption) ?_; conv => whnf) | (refine HIf.bneF (by assumption) ?_; conv => whnf) | (refine ⟨rfl, Ints.idxN (by assumption) (by omega) (fun p hp => ?_)⟩; conv => whnf) | (refine ⟨rfl, Rows.idxN (by assumption) (by omega) (fun p y hp hy => ?_)⟩; conv => whnf) | (refine And.intro (show Kd.isBool _ = true from rfl) ?_; conv => whnf) | (refine ⟨rfl, Ints.idx (by assumption) (by omega) (by omega) (fun p hp => ?_)⟩; conv => whnf) | (refine ⟨rfl, Rows.idx (by assumption) (by omega) (by omega) (fun p y hp hy => ?_)⟩; conv => whnf) | (refine HArith.fits (by omega) (by omega) ?_; conv => whnf) | (refine Or.inl (And.intro (show Region.lexB _ _ = true by kernel_rfl) ?_); conv => whnf)))
    exact ⟨bEq (by simp [areSame, hc1]), Ext.refl _⟩
  (repeat (first | (refine ⟨rfl, Ints.len (by assumption) ?_⟩; conv => whnf) | (refine ⟨rfl, Rows.len (by assumption) ?_⟩; conv => whnf) | (refine ⟨rfl, HLen.sl ?_⟩; conv => whnf) | (refine ⟨rfl, At.load (by assumption) ?_⟩; conv => whnf) | (refine HIf.yes ?_; conv => whnf) | (refine HIf.no ?_; conv => whnf) | (refine HIf.isT (by assumption) ?_; conv => whnf) | (refine HIf.isF (by assumption) ?_; conv => whnf) | (refine HIf.decT (by assumption) ?_; conv => whnf) | (refine HIf.decF (by assumption) ?_; conv => whnf) | (refine HIf.beqT (by assumption) ?_; conv => whnf) | (refine HIf.beqF (by assumption) ?_; conv => whnf) | (refine HIf.bneT (by assumption) ?_; conv => whnf) | (refine HIf.bneF (by assumption) ?_; conv => whnf) | (refine ⟨rfl, Ints.idxN (by assumption) (by omega) (fun p hp => ?_)⟩; conv => whnf) | (refine ⟨rfl, Rows.idxN (by assumption) (by omega) (fun p y hp hy => ?_)⟩; conv => whnf) | (refine And.intro (show Kd.isBool _ = true from rfl) ?_; conv => whnf) | (refine ⟨rfl, Ints.idx (by assumption) (by omega) (by omega) (fun p hp => ?_)⟩; conv => whnf) | (refine ⟨rfl, Rows.idx (by assumption) (by omega) (by omega) (fun p y hp hy => ?_)⟩; conv => whnf) | (refine HArith.fits (by omega) (by omega) ?_; conv => whnf) | (refine Or.inl (And.intro (show Region.lexB _ _ = true by kernel_rfl) ?_); conv => whnf)))
  refine (impl_IsWord _ _ _ a0 a2 hx0 hx2 (by omega) (by omega)).mono ?_
  rintro r h1 ⟨rfl, rfl⟩
  (conv => whnf)
  cases hc2 : isWord a0 a2
  · (repeat (first | (refine ⟨rfl, Ints.len (by assumption) ?_⟩; conv => whnf) | (refine ⟨rfl, Rows.len (by assumption) ?_⟩; conv => whnf) | (refine ⟨rfl, HLen.sl ?_⟩; conv => whnf) | (refine ⟨rfl, At.load (by assumption) ?_⟩; conv => whnf) | (refine HIf.yes ?_; conv => whnf) | (refine HIf.no ?_; conv => whnf) | (refine HIf.isT (by assumption) ?_; conv => whnf) | (refine HIf.isF (by assumption) ?_; conv => whnf) | (refine HIf.decT (by assumption) ?_; conv => whnf) | (refine HIf.decF (by assumption) ?_; conv => whnf) | (refine HIf.beqT (by assumption) ?_; conv => whnf) | (refine HIf.beqF (by assumption) ?_; conv => whnf) | (refine HIf.bneT (by assumption) ?_; conv => whnf) | (refine HIf.bneF (by assumption) ?_; conv => whnf) | (refine ⟨rfl, Ints.idxN (by assumption) (by omega) (fun p hp => ?_)⟩; conv => whnf) | (refine ⟨rfl, Rows.idxN (by assumption) (by omega) (fun p y hp hy => ?_)⟩; conv => whnf) | (refine And.intro (show Kd.isBool _ = true from rfl) ?_; conv => whnf) | (refine ⟨rfl, Ints.idx (by assumption) (by omega) (by omega) (fun p hp => ?_)⟩; conv => whnf) | (refine ⟨rfl, Rows.idx (by assumption) (by omega) (by omega) (fun p y hp hy => ?_)⟩; conv => whnf) | (refine HArith.fits (by omega) (by omega) ?_; conv => whnf) | (refine Or.inl (And.intro (show Region.lexB _ _ = true by kernel_rfl) ?_); conv => whnf)))
    exact ⟨bEq (by simp [areSame, hc2]), Ext.refl _⟩
  (repeat (first | (refine ⟨rfl, Ints.len (by assumption) ?_⟩; conv => whnf) | (refine ⟨rfl, Rows.len (by assumption) ?_⟩; conv => whnf) | (refine ⟨rfl, HLen.sl ?_⟩; conv => whnf) | (refine ⟨rfl, At.load (by assumption) ?_⟩; conv => whnf) | (refine HIf.yes ?_; conv => whnf) | (refine HIf.no ?_; conv => whnf) | (refine HIf.isT (by assumption) ?_; conv => whnf) | (refine HIf.isF (by assumption) ?_; conv => whnf) | (refine HIf.decT (by assumption) ?_; conv => whnf) | (refine HIf.decF (by assumption) ?_; conv => whnf) | (refine HIf.beqT (by assumption) ?_; conv => whnf) | (refine HIf.beqF (by assumption) ?_; conv => whnf) | (refine HIf.bneT (by assumption) ?_; conv => whnf) | (refine HIf.bneF (by assumption) ?_; conv => whnf) | (refine ⟨rfl, Ints.idxN (by assumption) (by omega) (fun p hp => ?_)⟩; conv => whnf) | (refine ⟨rfl, Rows.idxN (by assumption) (by omega) (fun p y hp hy => ?_)⟩; conv => whnf) | (refine And.intro (show Kd.isBool _ = true from rfl) ?_; conv => whnf) | (refine ⟨rfl, Ints.idx (by assumption) (by omega) (by omega) (fun p hp => ?_)⟩; conv => whnf) | (refine ⟨rfl, Rows.idx (by assumption) (by omega) (by omega) (fun p y hp hy => ?_)⟩; conv => whnf) | (refine HArith.fits (by omega) (by omega) ?_; conv => whnf) | (refine Or.inl (And.intro (show Region.lexB _ _ = true by kernel_rfl) ?_); conv => whnf)))
  refine (same hc1 hc2).mono ?_
  rintro r h2 ⟨rfl, E⟩
  (conv => whnf)
  (repeat (first | (refine HIf.yes ?_; conv => whnf)))
  exact ⟨rfl, E⟩

end Go.Proofs.Ytldnbhpleaogdaa.Hx
