/-
  Contracts of equality of slices and of AreSame, of the program and of the reference.
  Contracts of LeftDescents, of the program.
  More of rows: several slices of one's own side by side, appending to one of them, slices of slices that grow, parts of slices.
  Contracts of small functions over one slice of ints: SignOf, HeightOf, SquareFree, RootSign, each as the program has it and as the reference has it.
-/
import Derived.Test.YtkkniibnlniflaaZ10
namespace Go.Proofs.Ytkkniibnlniflaa.Hx
open Go.RowKit
variable {dm : Bool}

def areSame (c : List (List Int)) (a b : List Int) : Bool := isWord c a && isWord c b && decide (imageOf c a = imageOf c b)

theorem getD_eq (a : List Int) {i : Nat} (h : i < a.length) : a.getD i 0 = a[i] := by simp [List.getD, h]
theorem take_more {a b : List Int} {i : Nat} (ha : i < a.length) (hb : i < b.length) (h : a.take i = b.take i) (e : a.getD i 0 = b.getD i 0) : a.take (i + 1) = b.take (i + 1) := by
  rw [getD_eq a ha, getD_eq b hb] at e
  rw [List.take_succ_eq_append_getElem ha, List.take_succ_eq_append_getElem hb, h, e]
theorem eq_of_take {a b : List Int} (hl : a.length = b.length) (h : a.take a.length = b.take a.length) : a = b := by
  rw [List.take_length, hl, List.take_length] at h
  exact h


theorem lib_Equal (h : Heap) (x y : H0) (a b : List Int) (hx : Ints h x a) (hy : Ints h y b) (hal : a.length ≤ 2199023255552) :
    HCalls dm Try.prog 88 [.s x, .s y] h (fun r h' => r = B (decide (a = b)) ∧ h' = h) := by
  refine calls_of_hFun (m := 0) kd_ok mixed Try.func88 rfl (by kernel_rfl) rfl rfl (of_decide_eq_true rfl) ?_; unfold hFun; (conv => whnf)
  (repeat (first | (refine ⟨rfl, Ints.len (by assumption) ?_⟩; conv => whnf) | (refine ⟨rfl, Rows.len (by assumption) ?_⟩; conv => whnf) | (refine ⟨rfl, HLen.sl ?_⟩; conv => whnf) | (refine ⟨rfl, At.load (by assumption) ?_⟩; conv => whnf) | (refine HIf.yes ?_; conv => whnf) | (refine HIf.no ?_; conv => whnf) | (refine HIf.isT (by assumption) ?_; conv => whnf) | (refine HIf.isF (by assumption) ?_; conv => whnf) | (refine HIf.decT (by assumption) ?_; conv => whnf) | (refine HIf.decF (by assumption) ?_; conv => whnf) | (refine HIf.beqT (by assumption) ?_; conv => whnf) | (refine HIf.beqF (by assumption) ?_; conv => whnf) | (refine HIf.bneT (by assumption) ?_; conv => whnf) | (refine HIf.bneF (by assumption) ?_; conv => whnf) | (refine ⟨rfl, Ints.idxN (by assumption) (by omega) (fun p hp => ?_)⟩; conv => whnf) | (refine ⟨rfl, Rows.idxN (by assumption) (by omega) (fun p y hp hy => ?_)⟩; conv => whnf) | (refine And.intro (show Kd.isBool _ = true from rfl) ?_; conv => whnf) | (refine ⟨rfl, Ints.idx (by assumption) (by omega) (by omega) (fun p hp => ?_)⟩; conv => whnf) | (refine ⟨rfl, Rows.idx (by assumption) (by omega) (by omega) (fun p y hp hy => ?_)⟩; conv => whnf) | (refine HArith.fits (by omega) (by omega) ?_; conv => whnf) | (refine Or.inl (And.intro (show Region.lexB _ _ = true by kernel_rfl) ?_); conv => whnf)))
  refine HIf.bne (fun hne => ?_) (fun heq => ?_)
  · (conv => whnf)
    exact ⟨bEq (decide_eq_false (fun e => hne (by rw [e]))), rfl⟩
  · (conv => whnf)
    (repeat (first | (refine ⟨rfl, Ints.len (by assumption) ?_⟩; conv => whnf) | (refine ⟨rfl, Rows.len (by assumption) ?_⟩; conv => whnf) | (refine ⟨rfl, HLen.sl ?_⟩; conv => whnf) | (refine ⟨rfl, At.load (by assumption) ?_⟩; conv => whnf) | (refine HIf.yes ?_; conv => whnf) | (refine HIf.no ?_; conv => whnf) | (refine HIf.isT (by assumption) ?_; conv => whnf) | (refine HIf.isF (by assumption) ?_; conv => whnf) | (refine HIf.decT (by assumption) ?_; conv => whnf) | (refine HIf.decF (by assumption) ?_; conv => whnf) | (refine HIf.beqT (by assumption) ?_; conv => whnf) | (refine HIf.beqF (by assumption) ?_; conv => whnf) | (refine HIf.bneT (by assumption) ?_; conv => whnf) | (refine HIf.bneF (by assumption) ?_; conv => whnf) | (refine ⟨rfl, Ints.idxN (by assumption) (by omega) (fun p hp => ?_)⟩; conv => whnf) | (refine ⟨rfl, Rows.idxN (by assumption) (by omega) (fun p y hp hy => ?_)⟩; conv => whnf) | (refine And.intro (show Kd.isBool _ = true from rfl) ?_; conv => whnf) | (refine ⟨rfl, Ints.idx (by assumption) (by omega) (by omega) (fun p hp => ?_)⟩; conv => whnf) | (refine ⟨rfl, Rows.idx (by assumption) (by omega) (by omega) (fun p y hp hy => ?_)⟩; conv => whnf) | (refine HArith.fits (by omega) (by omega) ?_; conv => whnf) | (refine Or.inl (And.intro (show Region.lexB _ _ = true by kernel_rfl) ?_); conv => whnf)))
    refine HLoop.intro [13] [14, 15, 5, 16, 17, 18, 19, 20, 21, 22, 23, 24, 4, 25, 13] (by kernel_rfl) (by kernel_rfl) (fun vs h' => ∃ i : Nat, vs = [I i] ∧ h' = h ∧ i ≤ a.length ∧ a.take i = b.take i) (fun vs _ => a.length - natAt vs 0) ⟨0, rfl, rfl, by omega, by simp⟩ ?_
    rintro vs h' ⟨i, rfl, rfl, hi, hab⟩
    (conv => whnf)
    refine HIf.dec (fun hlt => ?_) (fun hge => ?_)
    · (conv => whnf)
      refine Or.inl (And.intro (show Region.lexB _ _ = true by kernel_rfl) ?_); (conv => whnf)
      refine ⟨rfl, Ints.idxN hx (by omega) (fun p hp => ?_)⟩
      (conv => whnf)
      refine ⟨rfl, hp.load ?_⟩
      (conv => whnf)
      refine ⟨rfl, Ints.idxN hy (by omega) (fun p2 hp2 => ?_)⟩
      (conv => whnf)
      refine ⟨rfl, hp2.load ?_⟩
      (conv => whnf)
      refine HIf.bne (fun hne => ?_) (fun he => ?_)
      · (conv => whnf)
        exact ⟨bEq (decide_eq_false (fun e => hne (by rw [e]))), rfl⟩
      · (conv => whnf)
        refine HArith.fits (by omega) (by omega) ?_
        (conv => whnf)
        exact ⟨⟨i + 1, rfl, rfl, by omega, take_more (by omega) (by omega) hab he⟩, by show a.length - (i + 1) < a.length - i; omega⟩
    · have e : i = a.length := by omega
      subst e
      (conv => whnf)
      exact ⟨bEq (decide_eq_true (eq_of_take (by omega) hab)), rfl⟩

theorem spec_CompareWords (h : Heap) (x y : H0) (a b : List Int) (hx : Ints h x a) (hy : Ints h y b) (hal : a.length ≤ 2199023255552) :
    HCalls dm Try.prog 133 [.s x, .s y] h (fun r h' => ∃ n, r = I n ∧ (n = 0 ↔ a = b) ∧ h' = h) := by
  refine calls_of_hFun (m := 0) kd_ok mixed Try.func133 rfl (by kernel_rfl) rfl rfl (of_decide_eq_true rfl) ?_; unfold hFun; (conv => whnf)
  (repeat (first | (refine ⟨rfl, Ints.len (by assumption) ?_⟩; conv => whnf) | (refine ⟨rfl, Rows.len (by assumption) ?_⟩; conv => whnf) | (refine ⟨rfl, HLen.sl ?_⟩; conv => whnf) | (refine ⟨rfl, At.load (by assumption) ?_⟩; conv => whnf) | (refine HIf.yes ?_; conv => whnf) | (refine HIf.no ?_; conv => whnf) | (refine HIf.isT (by assumption) ?_; conv => whnf) | (refine HIf.isF (by assumption) ?_; conv => whnf) | (refine HIf.decT (by assumption) ?_; conv => whnf) | (refine HIf.decF (by assumption) ?_; conv => whnf) | (refine HIf.beqT (by assumption) ?_; conv => whnf) | (refine HIf.beqF (by assumption) ?_; conv => whnf) | (refine HIf.bneT (by assumption) ?_; conv => whnf) | (refine HIf.bneF (by assumption) ?_; conv => whnf) | (refine ⟨rfl, Ints.idxN (by assumption) (by omega) (fun p hp => ?_)⟩; conv => whnf) | (refine ⟨rfl, Rows.idxN (by assumption) (by omega) (fun p y hp hy => ?_)⟩; conv => whnf) | (refine And.intro (show Kd.isBool _ = true from rfl) ?_; conv => whnf) | (refine ⟨rfl, Ints.idx (by assumption) (by omega) (by omega) (fun p hp => ?_)⟩; conv => whnf) | (refine ⟨rfl, Rows.idx (by assumption) (by omega) (by omega) (fun p y hp hy => ?_)⟩; conv => whnf) | (refine HArith.fits (by omega) (by omega) ?_; conv => whnf) | (refine Or.inl (And.intro (show Region.lexB _ _ = true by kernel_rfl) ?_); conv => whnf)))
  refine HIf.bne (fun hne => ?_) (fun heq => ?_)
  · have hn : ¬ a = b := fun e => hne (by rw [e])
    (conv => whnf)
    (repeat (first | (refine ⟨rfl, Ints.len (by assumption) ?_⟩; conv => whnf) | (refine ⟨rfl, Rows.len (by assumption) ?_⟩; conv => whnf) | (refine ⟨rfl, HLen.sl ?_⟩; conv => whnf) | (refine ⟨rfl, At.load (by assumption) ?_⟩; conv => whnf) | (refine HIf.yes ?_; conv => whnf) | (refine HIf.no ?_; conv => whnf) | (refine HIf.isT (by assumption) ?_; conv => whnf) | (refine HIf.isF (by assumption) ?_; conv => whnf) | (refine HIf.decT (by assumption) ?_; conv => whnf) | (refine HIf.decF (by assumption) ?_; conv => whnf) | (refine HIf.beqT (by assumption) ?_; conv => whnf) | (refine HIf.beqF (by assumption) ?_; conv => whnf) | (refine HIf.bneT (by assumption) ?_; conv => whnf) | (refine HIf.bneF (by assumption) ?_; conv => whnf) | (refine ⟨rfl, Ints.idxN (by assumption) (by omega) (fun p hp => ?_)⟩; conv => whnf) | (refine ⟨rfl, Rows.idxN (by assumption) (by omega) (fun p y hp hy => ?_)⟩; conv => whnf) | (refine And.intro (show Kd.isBool _ = true from rfl) ?_; conv => whnf) | (refine ⟨rfl, Ints.idx (by assumption) (by omega) (by omega) (fun p hp => ?_)⟩; conv => whnf) | (refine ⟨rfl, Rows.idx (by assumption) (by omega) (by omega) (fun p y hp hy => ?_)⟩; conv => whnf) | (refine HArith.fits (by omega) (by omega) ?_; conv => whnf) | (refine Or.inl (And.intro (show Region.lexB _ _ = true by kernel_rfl) ?_); conv => whnf)))
    refine HIf.dec (fun _ => ?_) (fun _ => ?_)
    · (conv => whnf)
      exact ⟨_, rfl, by simp [hn], rfl⟩
    · (conv => whnf)
      exact ⟨_, rfl, by simp [hn], rfl⟩
  · (conv => whnf)
    refine HLoop.intro [5] [16, 17, 18, 19, 22, 23, 24, 25, 26, 27, 28, 29, 30, 4, 31, 32, 33, 34, 35, 36, 37, 38, 39, 4, 20, 21, 5] (by kernel_rfl) (by kernel_rfl) (fun vs h' => ∃ i : Nat, vs = [I i] ∧ h' = h ∧ i ≤ a.length ∧ a.take i = b.take i) (fun vs _ => a.length - natAt vs 0) ⟨0, rfl, rfl, by omega, by simp⟩ ?_
    rintro vs h' ⟨i, rfl, rfl, hi, hab⟩
    (conv => whnf)
    refine ⟨rfl, hx.len ?_⟩
    (conv => whnf)
    refine HIf.dec (fun hlt => ?_) (fun hge => ?_)
    · (conv => whnf)
      refine Or.inl (And.intro (show Region.lexB _ _ = true by kernel_rfl) ?_); (conv => whnf)
      refine ⟨rfl, Ints.idxN hx (by omega) (fun p hp => ?_)⟩
      (conv => whnf)
      refine ⟨rfl, hp.load ?_⟩
      (conv => whnf)
      refine ⟨rfl, Ints.idxN hy (by omega) (fun p2 hp2 => ?_)⟩
      (conv => whnf)
      refine ⟨rfl, hp2.load ?_⟩
      (conv => whnf)
      refine HIf.dec (fun h1 => ?_) (fun h1 => ?_)
      · have hn : ¬ a = b := fun e => by rw [e] at h1; omega
        (conv => whnf)
        exact ⟨_, rfl, by simp [hn], rfl⟩
      · (conv => whnf)
        refine Or.inl (And.intro (show Region.lexB _ _ = true by kernel_rfl) ?_); (conv => whnf)
        refine ⟨rfl, Ints.idxN hx (by omega) (fun p3 hp3 => ?_)⟩
        (conv => whnf)
        refine ⟨rfl, hp3.load ?_⟩
        (conv => whnf)
        refine ⟨rfl, Ints.idxN hy (by omega) (fun p4 hp4 => ?_)⟩
        (conv => whnf)
        refine ⟨rfl, hp4.load ?_⟩
        (conv => whnf)
        refine HIf.dec (fun h2 => ?_) (fun h2 => ?_)
        · have hn : ¬ a = b := fun e => by rw [e] at h2; omega
          (conv => whnf)
          exact ⟨_, rfl, by simp [hn], rfl⟩
        · (conv => whnf)
          refine HArith.fits (by omega) (by omega) ?_
          (conv => whnf)
          exact ⟨⟨i + 1, rfl, rfl, by omega, take_more (by omega) (by omega) hab (by omega)⟩, by show a.length - (i + 1) < a.length - i; omega⟩
    · have e : i = a.length := by omega
      subst e
      (conv => whnf)
      exact ⟨_, rfl, by simp [eq_of_take (by omega) hab], rfl⟩

theorem spec_EqualWords (h : Heap) (x y : H0) (a b : List Int) (hx : Ints h x a) (hy : Ints h y b) (hal : a.length ≤ 2199023255552) :
    HCalls dm Try.prog 91 [.s x, .s y] h (fun r h' => r = B (decide (a = b)) ∧ h' = h) := by
  refine calls_of_hFun (m := 0) kd_ok mixed Try.func91 rfl (by kernel_rfl) rfl rfl (of_decide_eq_true rfl) ?_; unfold hFun; (conv => whnf)
  refine (spec_CompareWords _ _ _ a b hx hy hal).mono ?_
  rintro r h' ⟨n, rfl, hn, rfl⟩
  (conv => whnf)
  refine ⟨bEq ?_, rfl⟩
  by_cases e : a = b
  · simp [e, hn.2 e]
  · simp [e, hn]

theorem impl_AreSame (h : Heap) (x0 : H0) (a0 : List (List Int)) (x1 : H0) (a1 : List Int) (x2 : H0) (a2 : List Int) (hx0 : Rows h x0 a0) (hx1 : Ints h x1 a1) (hx2 : Ints h x2 a2) (s0 : a0.length ≤ 1048576 ∧ tot a0 ≤ 1048576) (s1 : a1.length ≤ 1048576) (s2 : a2.length ≤ 1048576) :
    HCalls dm Try.prog 29 [.s x0, .s x1, .s x2] h (fun r h' => r = B (areSame a0 a1 a2) ∧ Ext h h') := by
  have same : ∀ (hc1 : isWord a0 a1 = true) (hc2 : isWord a0 a2 = true), HCalls dm Try.prog 93 [.s x0, .s x1, .s x2] h (fun r h' => r = B (areSame a0 a1 a2) ∧ Ext h h') := by
    intro hc1 hc2
    have w1 := word_cartan hc1
    have w2 := word_cartan hc2
    have h4 := w1.1.le
    refine calls_of_hFun (m := 0) kd_ok mixed Try.func93 rfl (by kernel_rfl) rfl rfl (of_decide_eq_true rfl) ?_; unfold hFun; (conv => whnf)
    refine (impl_image _ _ a0 _ a1 hx0 hx1 w1.1 w1.2.2 s1).mono ?_
    rintro r h1 ⟨y1, rfl, f1⟩
    (conv => whnf)
    refine (impl_image _ _ a0 _ a2 (hx0.ext f1.1) (hx2.ext f1.1) w2.1 w2.2.2 s2).mono ?_
    rintro r h2 ⟨y2, rfl, f2⟩
    (conv => whnf)
    refine (lib_Equal _ _ _ _ _ (f1.ints.ext f2.1) f2.ints (by rw [imageOf_length]; omega)).mono ?_
    rintro r h3 ⟨rfl, rfl⟩
    (conv => whnf)
    exact ⟨bEq (by simp [areSame, hc1, hc2]), f1.1.trans f2.1⟩
  refine calls_of_hFun (m := 0) kd_ok mixed Try.func29 rfl (by kernel_rfl) rfl rfl (of_decide_eq_true rfl) ?_; unfold hFun; (conv => whnf)
  refine (impl_IsWord _ _ _ a0 a1 hx0 hx1 (by omega) (by omega)).mono ?_
  rintro r h1 ⟨rfl, rfl⟩
  (conv => whnf)
  cases hc1 : isWord a0 a1
  · (repeat (first | (refine ⟨rfl, Ints.len (by assumption) ?_⟩; conv => whnf) | (refine ⟨rfl, Rows.len (by assumption) ?_⟩; conv => whnf) | (refine ⟨rfl, HLen.sl ?_⟩; conv => whnf) | (refine ⟨rfl, At.load (by assumption) ?_⟩; conv => whnf) | (refine HIf.yes ?_; conv => whnf) | (refine HIf.no ?_; conv => whnf) | (refine HIf.isT (by assumption) ?_; conv => whnf) | (refine HIf.isF (by assumption) ?_; conv => whnf) | (refine HIf.decT (by assumption) ?_; conv => whnf) | (refine HIf.decF (by assumption) ?_; conv => whnf) | (refine HIf.beqT (by assumption) ?_; conv => whnf) | (refine HIf.beqF (by assumption) ?_; conv => whnf) | (refine HIf.bneT (by assumption) ?_; conv => whnf) | (refine HIf.bneF (by assumption) ?_; conv => whnf) | (refine ⟨rfl, Ints.idxN (by assumption) (by omega) (fun p hp => ?_)⟩; conv => whnf) | (refine ⟨rfl, Rows.idxN (by assumption) (by omega) (fun p y hp hy => ?_)⟩; conv => whnf) | (refine And.intro (show Kd.isBool _ = true from rfl) ?_; conv => whnf) | (refine ⟨rfl, Ints.idx (by assumption) (by omega) (by omega) (fun p hp => ?_)⟩; conv => whnf) | (refine ⟨rfl, Rows.idx (by assumption) (by omega) (by omega) (fun p y hp hy => ?_)⟩; conv => whnf) | (refine HArith.fits (by omega) (by omega) ?_; conv => whnf) | (refine Or.inl (And.intro (show Region.lexB _ _ = true by kernel_rfl) ?_); conv => whnf)))
    exact ⟨bEq (by simp [areSame, hc1]), Ext.refl _⟩
  (repeat (first | (refine ⟨rfl, Ints.len (by assumption) ?_⟩; conv => whnf) | (refine ⟨rfl, Rows.len (by assumption) ?_⟩; conv => whnf) | (refine ⟨rfl, HLen.sl ?_⟩; conv => whnf) | (refine ⟨rfl, At.load (by assumption) ?_⟩; conv => whnf) | (refine HIf.yes ?_; conv => whnf) | (refine HIf.no ?_; conv => whnf) | (refine HIf.isT (by assumption) ?_; conv => whnf) | (refine HIf.isF (by assumption) ?_; conv => whnf) | (refine HIf.decT (by assumption) ?_; conv => whnf) | (refine HIf.decF (by assumption) ?_; conv => whnf) | (refine HIf.beqT (by assumption) ?_; conv => whnf) | (refine HIf.beqF (by assumption) ?_; conv => whnf) | (refine HIf.bneT (by assumption) ?_; conv => whnf) | (refine HIf.bneF (by assumption) ?_; conv => whnf) | (refine ⟨rfl, Ints.idxN (by assumption) (by omega) (fun p hp => ?_)⟩; conv => whnf) | (refine ⟨rfl, Rows.idxN (by assumption) (by omega) (fun p y hp hy => ?_)⟩; conv => whnf) | (refine And.intro (show Kd.isBool _ = true from rfl) ?_; conv => whnf) | (refine ⟨rfl, Ints.idx (by assumption) (by omega) (by omega) (fun p hp => ?_)⟩; conv => whnf) | (refine ⟨rfl, Rows.idx (by assumption) (by omega) (by omega) (fun p y hp hy => ?_)⟩; conv => whnf) | (refine HArith.fits (by omega) (by omega) ?_; conv => whnf) | (refine Or.inl (And.intro (show Region.lexB _ _ = true by kernel_rfl) ?_); conv => whnf)))
  refine (impl_IsWord _ _ _ a0 a2 hx0 hx2 (by omega) (by omega)).mono ?_
  rintro r h1 ⟨rfl, rfl⟩
  (conv => whnf)
  cases hc2 : isWord a0 a2
  · (repeat (first | (refine ⟨rfl, Ints.len (by assumption) ?_⟩; conv => whnf) | (refine ⟨rfl, Rows.len (by assumption) ?_⟩; conv => whnf) | (refine ⟨rfl, HLen.sl ?_⟩; conv => whnf) | (refine ⟨rfl, At.load (by assumption) ?_⟩; conv => whnf) | (refine HIf.yes ?_; conv => whnf) | (refine HIf.no ?_; conv => whnf) | (refine HIf.isT (by assumption) ?_; conv => whnf) | (refine HIf.isF (by assumption) ?_; conv => whnf) | (refine HIf.decT (by assumption) ?_; conv => whnf) | (refine HIf.decF (by assumption) ?_; conv => whnf) | (refine HIf.beqT (by assumption) ?_; conv => whnf) | (refine HIf.beqF (by assumption) ?_; conv => whnf) | (refine HIf.bneT (by assumption) ?_; conv => whnf) | (refine HIf.bneF (by assumption) ?_; conv => whnf) | (refine ⟨rfl, Ints.idxN (by assumption) (by omega) (fun p hp => ?_)⟩; conv => whnf) | (refine ⟨rfl, Rows.idxN (by assumption) (by omega) (fun p y hp hy => ?_)⟩; conv => whnf) | (refine And.intro (show Kd.isBool _ = true from rfl) ?_; conv => whnf) | (refine ⟨rfl, Ints.idx (by assumption) (by omega) (by omega) (fun p hp => ?_)⟩; conv => whnf) | (refine ⟨rfl, Rows.idx (by assumption) (by omega) (by omega) (fun p y hp hy => ?_)⟩; conv => whnf) | (refine HArith.fits (by omega) (by omega) ?_; conv => whnf) | (refine Or.inl (And.intro (show Region.lexB _ _ = true by kernel_rfl) ?_); conv => whnf)))
    exact ⟨bEq (by simp [areSame, hc2]), Ext.refl _⟩
  (repeat (first | (refine ⟨rfl, Ints.len (by assumption) ?_⟩; conv => whnf) | (refine ⟨rfl, Rows.len (by assumption) ?_⟩; conv => whnf) | (refine ⟨rfl, HLen.sl ?_⟩; conv => whnf) | (refine ⟨rfl, At.load (by assumption) ?_⟩; conv => whnf) | (refine HIf.yes ?_; conv => whnf) | (refine HIf.no ?_; conv => whnf) | (refine HIf.isT (by assumption) ?_; conv => whnf) | (refine HIf.isF (by assumption) ?_; conv => whnf) | (refine HIf.decT (by assumption) ?_; conv => whnf) | (refine HIf.decF (by assumption) ?_; conv => whnf) | (refine HIf.beqT (by assumption) ?_; conv => whnf) | (refine HIf.beqF (by assumption) ?_; conv => whnf) | (refine HIf.bneT (by assumption) ?_; conv => whnf) | (refine HIf.bneF (by assumption) ?_; conv => whnf) | (refine ⟨rfl, Ints.idxN (by assumption) (by omega) (fun p hp => ?_)⟩; conv => whnf) | (refine ⟨rfl, Rows.idxN (by assumption) (by omega) (fun p y hp hy => ?_)⟩; conv => whnf) | (refine And.intro (show Kd.isBool _ = true from rfl) ?_; conv => whnf) | (refine ⟨rfl, Ints.idx (by assumption) (by omega) (by omega) (fun p hp => ?_)⟩; conv => whnf) | (refine ⟨rfl, Rows.idx (by assumption) (by omega) (by omega) (fun p y hp hy => ?_)⟩; conv => whnf) | (refine HArith.fits (by omega) (by omega) ?_; conv => whnf) | (refine Or.inl (And.intro (show Region.lexB _ _ = true by kernel_rfl) ?_); conv => whnf)))
  refine (same hc1 hc2).mono ?_
  rintro r h2 ⟨rfl, E⟩
  (conv => whnf)
  (repeat (first | (refine HIf.yes ?_; conv => whnf)))
  exact ⟨rfl, E⟩

end Go.Proofs.Ytkkniibnlniflaa.Hx

namespace Go.Proofs.Ytkkniibnlniflaa.Hx
open Go.RowKit
variable {dm : Bool}

def descs (v : List Int) (k : Nat) : List Int := ((List.range k).filter fun j => decide (v.getD j 0 < 0)).map fun (j : Nat) => (j : Int)

theorem descs_none (v : List Int) : descs v 0 = [] := rfl
theorem descs_le (v : List Int) (k : Nat) : (descs v k).length ≤ k := by
  have := List.length_filter_le (fun j => decide (v.getD j 0 < 0)) (List.range k)
  simp [descs] at this ⊢
  exact this
theorem descs_in (v : List Int) (k : Nat) (h : v.getD k 0 < 0) : descs v (k + 1) = descs v k ++ [(k : Int)] := by
  unfold descs
  rw [List.range_succ, List.filter_append, List.map_append, List.filter_cons_of_pos (p := fun j => decide (v.getD j 0 < 0)) (decide_eq_true h), List.filter_nil]
  rfl
theorem descs_out (v : List Int) (k : Nat) (h : ¬ v.getD k 0 < 0) : descs v (k + 1) = descs v k := by
  unfold descs
  rw [List.range_succ, List.filter_append, List.map_append, List.filter_cons_of_neg (p := fun j => decide (v.getD j 0 < 0)) (by simp only [decide_eq_true_eq]; exact h), List.filter_nil, List.map_nil, List.append_nil]

def leftDescents (c : List (List Int)) (w : List Int) : List Int := if isWord c w then descs (imageOf c w) c.length else []
theorem leftDescents_length (c : List (List Int)) (w : List Int) : (leftDescents c w).length ≤ c.length := by
  unfold leftDescents
  split
  · exact descs_le _ _
  · simp
theorem leftDescents_off {c : List (List Int)} {w : List Int} (h : isWord c w = false) : leftDescents c w = [] := by simp [leftDescents, h]
theorem leftDescents_on {c : List (List Int)} {w : List Int} (h : isWord c w = true) : leftDescents c w = descs (imageOf c w) (imageOf c w).length := by rw [imageOf_length]; simp [leftDescents, h]

theorem Own.widen {b e e' : Nat} {h : Heap} {x : H0} {l : List Int} (H : Own b e h x l) (k : e ≤ e') : Own b e' h x l := by
  obtain ⟨r, t, g1, g2, g3, hr⟩ := H
  exact ⟨r, t, g1, g2, by omega, hr⟩


theorem impl_descents (h : Heap) (x : H0) (v : List Int) (hx : Ints h x v) (hv : v.length ≤ 1048576) : HCalls dm Try.prog 134 [.s x] h (fun r h' => ∃ y, r = .s y ∧ Fresh h h' y (descs v v.length)) := by
  have E0 := Ext.push h [Row.own []]
  have O0 := Own.none h
  have hx0 := hx.ext E0
  refine calls_of_hFun (m := 0) kd_ok mixed Try.func134 rfl (by kernel_rfl) rfl rfl (of_decide_eq_true rfl) ?_; unfold hFun; (conv => whnf)
  refine HLit.empty ?_
  (conv => whnf)
  refine ⟨rfl, hx0.len ?_⟩
  (conv => whnf)
  refine HLoop.intro [9, 3] [10, 11, 12, 13, 4, 5, 14, 15, 16, 17, 18, 19, 3, 20, 9] (by kernel_rfl) (by kernel_rfl) (fun vs h' => ∃ (k : Nat) (z : H0), vs = [I k, .s z] ∧ k ≤ v.length ∧ Ext h h' ∧ Own h.length h'.length h' z (descs v k)) (fun vs _ => v.length - natAt vs 0) ⟨0, _, rfl, by omega, E0, O0⟩ ?_
  rintro vs h' ⟨k, z, rfl, hk, E, O⟩
  have hx := hx.ext E
  have hdl := descs_le v k
  (conv => whnf)
  refine HIf.dec (fun hlt => ?_) (fun hge => ?_)
  · (conv => whnf)
    refine ⟨rfl, Ints.idxN hx (by omega) (fun p hp => ?_)⟩
    (conv => whnf)
    refine ⟨rfl, hp.load ?_⟩
    (conv => whnf)
    refine HIf.dec (fun hneg => ?_) (fun hpos => ?_)
    · (conv => whnf)
      refine HLit.one ?_
      (conv => whnf)
      refine ⟨rfl, rfl, HApp.snoc E O (by omega) (fun h2 y2 E2 O2 => ?_)⟩
      rw [← descs_in v k hneg] at O2
      (conv => whnf)
      refine HArith.fits (by omega) (by omega) ?_
      (conv => whnf)
      exact ⟨⟨k + 1, y2, rfl, by omega, E2, O2⟩, by show v.length - (k + 1) < v.length - k; omega⟩
    · rw [← descs_out v k hpos] at O
      (conv => whnf)
      refine HArith.fits (by omega) (by omega) ?_
      (conv => whnf)
      exact ⟨⟨k + 1, z, rfl, by omega, E, O⟩, by show v.length - (k + 1) < v.length - k; omega⟩
  · (conv => whnf)
    have e : k = v.length := by omega
    subst e
    exact ⟨_, rfl, Fresh.of E O⟩

theorem impl_LeftDescents (h : Heap) (x0 : H0) (a0 : List (List Int)) (x1 : H0) (a1 : List Int) (hx0 : Rows h x0 a0) (hx1 : Ints h x1 a1) (s0 : a0.length ≤ 1048576 ∧ tot a0 ≤ 1048576) (s1 : a1.length ≤ 1048576) :
    HCalls dm Try.prog 87 [.s x0, .s x1] h (fun r h' => ∃ y, r = .s y ∧ Fresh h h' y (leftDescents a0 a1)) := by
  refine calls_of_hFun (m := 0) kd_ok mixed Try.func87 rfl (by kernel_rfl) rfl rfl (of_decide_eq_true rfl) ?_; unfold hFun; (conv => whnf)
  refine (impl_IsWord _ _ _ a0 a1 hx0 hx1 (by omega) (by omega)).mono ?_
  rintro r h1 ⟨rfl, rfl⟩
  (conv => whnf)
  cases hic : isWord a0 a1
  · (repeat (first | (refine ⟨rfl, Ints.len (by assumption) ?_⟩; conv => whnf) | (refine ⟨rfl, Rows.len (by assumption) ?_⟩; conv => whnf) | (refine ⟨rfl, HLen.sl ?_⟩; conv => whnf) | (refine ⟨rfl, At.load (by assumption) ?_⟩; conv => whnf) | (refine HIf.yes ?_; conv => whnf) | (refine HIf.no ?_; conv => whnf) | (refine HIf.isT (by assumption) ?_; conv => whnf) | (refine HIf.isF (by assumption) ?_; conv => whnf) | (refine HIf.decT (by assumption) ?_; conv => whnf) | (refine HIf.decF (by assumption) ?_; conv => whnf) | (refine HIf.beqT (by assumption) ?_; conv => whnf) | (refine HIf.beqF (by assumption) ?_; conv => whnf) | (refine HIf.bneT (by assumption) ?_; conv => whnf) | (refine HIf.bneF (by assumption) ?_; conv => whnf) | (refine ⟨rfl, Ints.idxN (by assumption) (by omega) (fun p hp => ?_)⟩; conv => whnf) | (refine ⟨rfl, Rows.idxN (by assumption) (by omega) (fun p y hp hy => ?_)⟩; conv => whnf) | (refine And.intro (show Kd.isBool _ = true from rfl) ?_; conv => whnf) | (refine ⟨rfl, Ints.idx (by assumption) (by omega) (by omega) (fun p hp => ?_)⟩; conv => whnf) | (refine ⟨rfl, Rows.idx (by assumption) (by omega) (by omega) (fun p y hp hy => ?_)⟩; conv => whnf) | (refine HArith.fits (by omega) (by omega) ?_; conv => whnf) | (refine Or.inl (And.intro (show Region.lexB _ _ = true by kernel_rfl) ?_); conv => whnf)))
    refine HLit.empty ?_
    (conv => whnf)
    exact ⟨_, rfl, Fresh.none _ (leftDescents_off hic)⟩
  obtain ⟨hC, _, hw⟩ := word_cartan hic
  rw [leftDescents_on hic]
  (repeat (first | (refine ⟨rfl, Ints.len (by assumption) ?_⟩; conv => whnf) | (refine ⟨rfl, Rows.len (by assumption) ?_⟩; conv => whnf) | (refine ⟨rfl, HLen.sl ?_⟩; conv => whnf) | (refine ⟨rfl, At.load (by assumption) ?_⟩; conv => whnf) | (refine HIf.yes ?_; conv => whnf) | (refine HIf.no ?_; conv => whnf) | (refine HIf.isT (by assumption) ?_; conv => whnf) | (refine HIf.isF (by assumption) ?_; conv => whnf) | (refine HIf.decT (by assumption) ?_; conv => whnf) | (refine HIf.decF (by assumption) ?_; conv => whnf) | (refine HIf.beqT (by assumption) ?_; conv => whnf) | (refine HIf.beqF (by assumption) ?_; conv => whnf) | (refine HIf.bneT (by assumption) ?_; conv => whnf) | (refine HIf.bneF (by assumption) ?_; conv => whnf) | (refine ⟨rfl, Ints.idxN (by assumption) (by omega) (fun p hp => ?_)⟩; conv => whnf) | (refine ⟨rfl, Rows.idxN (by assumption) (by omega) (fun p y hp hy => ?_)⟩; conv => whnf) | (refine And.intro (show Kd.isBool _ = true from rfl) ?_; conv => whnf) | (refine ⟨rfl, Ints.idx (by assumption) (by omega) (by omega) (fun p hp => ?_)⟩; conv => whnf) | (refine ⟨rfl, Rows.idx (by assumption) (by omega) (by omega) (fun p y hp hy => ?_)⟩; conv => whnf) | (refine HArith.fits (by omega) (by omega) ?_; conv => whnf) | (refine Or.inl (And.intro (show Region.lexB _ _ = true by kernel_rfl) ?_); conv => whnf)))
  refine (impl_image _ _ a0 _ a1 hx0 hx1 hC hw s1).mono ?_
  rintro r h2 ⟨y1, rfl, f1⟩
  (conv => whnf)
  refine (impl_descents _ _ _ f1.ints (by rw [imageOf_length]; omega)).mono ?_
  rintro r h3 ⟨y2, rfl, f2⟩
  have hz := Fresh.inner f1.1 f2
  (conv => whnf)
  exact ⟨_, rfl, Fresh.of hz.1 hz.2⟩

end Go.Proofs.Ytkkniibnlniflaa.Hx

namespace Go.Proofs.Ytkkniibnlniflaa.Hx
open Go.RowKit

/-- A slice of ints in row r, one's own. -/
def OwnR (r : Nat) (h : Heap) (x : H0) (l : List Int) : Prop := ∃ t, x = .sl r 0 l.length ∧ h[r]? = some (.own (l.map ci ++ t))

/-- All rows but r are as they were. -/
def But (r : Nat) (h h' : Heap) : Prop := h.length ≤ h'.length ∧ ∀ q, q < h.length → q ≠ r → h'[q]? = h[q]?

theorem OwnR.ints {r : Nat} {h : Heap} {x : H0} {l : List Int} (H : OwnR r h x l) : Ints h x l := by
  obtain ⟨t, rfl, hr⟩ := H
  exact Ints.ofOwn hr
theorem OwnR.lt {r : Nat} {h : Heap} {x : H0} {l : List Int} (H : OwnR r h x l) : r < h.length := by
  obtain ⟨t, rfl, hr⟩ := H
  exact get_lt hr
theorem OwnR.own {b r : Nat} {h : Heap} {x : H0} {l : List Int} (H : OwnR r h x l) (hb : b ≤ r) : Own b h.length h x l := by
  have := H.lt
  obtain ⟨t, rfl, hr⟩ := H
  exact ⟨r, t, rfl, hb, this, hr⟩
theorem Own.row {b e : Nat} {h : Heap} {x : H0} {l : List Int} (H : Own b e h x l) : ∃ r, b ≤ r ∧ r < e ∧ OwnR r h x l := by
  obtain ⟨r, t, g1, g2, g3, hr⟩ := H
  exact ⟨r, g2, g3, t, g1, hr⟩
theorem Fresh.row {h h' : Heap} {x : H0} {l : List Int} (H : Fresh h h' x l) : ∃ r, h.length ≤ r ∧ OwnR r h' x l := by
  obtain ⟨_, r, t, g1, g2, hr⟩ := H
  exact ⟨r, g2, t, g1, hr⟩
theorem Fresh.ofRow {h h' : Heap} {x : H0} {l : List Int} {r : Nat} (E : Ext h h') (H : OwnR r h' x l) (hr : h.length ≤ r) : Fresh h h' x l := by
  obtain ⟨t, g1, g2⟩ := H
  exact ⟨E, r, t, g1, hr, g2⟩
theorem OwnR.ext {r : Nat} {h h' : Heap} {x : H0} {l : List Int} (H : OwnR r h x l) (k : Ext h h') : OwnR r h' x l := by
  obtain ⟨t, g1, hr⟩ := H
  exact ⟨t, g1, k.row hr⟩
theorem OwnR.but {r q : Nat} {h h' : Heap} {x : H0} {l : List Int} (H : OwnR r h x l) (k : But q h h') (n : r ≠ q) : OwnR r h' x l := by
  have := H.lt
  obtain ⟨t, g1, hr⟩ := H
  exact ⟨t, g1, by rw [k.2 r this n]; exact hr⟩
theorem Ext.but {hb h h' : Heap} {r : Nat} (E : Ext hb h) (k : But r h h') (hr : hb.length ≤ r) : Ext hb h' :=
  ⟨Nat.le_trans E.1 k.1, fun q hq => by rw [k.2 q (Nat.lt_of_lt_of_le hq E.1) (by omega)]; exact E.2 q hq⟩
theorem But.ext {h h' h'' : Heap} {r : Nat} (E : Ext h h') (k : But r h' h'') : But r h h'' :=
  ⟨Nat.le_trans E.1 k.1, fun q hq hn => by rw [k.2 q (Nat.lt_of_lt_of_le hq E.1) hn]; exact E.2 q hq⟩
theorem OwnR.push (h : Heap) (l : List Int) : OwnR h.length (h ++ [.own (l.map ci)]) (.sl h.length 0 l.length) l := ⟨[], rfl, by rw [List.append_nil]; exact get_new _ _⟩

/-- Ints, appended to what one has. -/
theorem HApp.moreR {r : Nat} {h : Heap} {x y : H0} {l m : List Int} {K : HV → Heap → Prop} (H : OwnR r h y l) (hx : Ints h x m) (hl : l.length + m.length ≤ 2199023255552)
    (hK : ∀ h' r' y', But r h h' → h.length ≤ r' → OwnR r' h' y' (l ++ m) → K (.s y') h') : HApp h (.s y) (.s x) K := by
  obtain ⟨t, rfl, hr⟩ := H
  refine ⟨m.map ci, hx, ci_one m, l.map ci ++ t, rfl, hr, by simp, Or.inl ⟨by simpa using hl, ?_⟩⟩
  have e1 : l.length + (m.map ci).length = (l ++ m).length := by simp
  have e2 : (l.map ci ++ t).take l.length ++ m.map ci = (l ++ m).map ci := by rw [List.take_append_of_le_length (by simp), List.take_of_length_le (by simp)]; simp
  rw [e1, e2]
  refine hK _ h.length _ ⟨by simp, fun q hq hn => ?_⟩ (Nat.le_refl _) ⟨[], rfl, ?_⟩
  · rw [List.getElem?_append_left (by simpa using hq), List.getElem?_set_ne (Ne.symm hn)]
  · rw [List.getElem?_append_right (by simp)]
    simp

/-- A literal of numbers, appended to what one has. -/
theorem HApp.litR {r : Nat} {h : Heap} {y : H0} {l : List Int} (m : List Int) {K : HV → Heap → Prop} (H : OwnR r h y l) (hl : l.length + m.length ≤ 2199023255552)
    (hK : ∀ h' r' y', But r h h' → h.length ≤ r' → OwnR r' h' y' (l ++ m) → K (.s y') h') : HApp (h ++ [.own (m.map ci)]) (.s y) (.s (.sl h.length 0 m.length)) K :=
  HApp.moreR (H.ext (Ext.push _ _)) (OwnR.push h m).ints hl (fun h' r' y' k k2 k3 => hK h' r' y' (But.ext (Ext.push _ _) k) (by simp at k2; omega) k3)

/-- A slice of ints, appended to a slice of such slices. -/
theorem HApp.snocM {hb h h2 : Heap} {z y : H0} {L : List (List Int)} {l : List Int} {K : HV → Heap → Prop} (E : Ext hb h) (O : OwnM hb.length h.length h z L) (E2 : Ext h h2) (F : Own h.length h2.length h2 y l) (hl : L.length < 2199023255552)
    (hK : ∀ h' z', Ext hb h' → OwnM hb.length h'.length h' z' (L ++ [l]) → K (.s z') h') : HApp (h2 ++ [.own [y]]) (.s z) (.s (.sl h2.length 0 1)) K := by
  have l1 := E.1
  have l2 := E2.1
  obtain ⟨r, ρ, rfl, hr1, hr2, hρ, m⟩ := O
  obtain ⟨q, t, rfl, hq1, hq2, hq⟩ := F
  obtain ⟨cs, ho, hcl, hoc⟩ := m.outer
  refine ⟨[.sl q 0 l.length], ?_, by simp [H0.one], cs, rfl, (Ext.push h2 _).row (E2.row ho), hcl, Or.inl ⟨by simp; omega, ?_⟩⟩
  · have := Shows.own h2.length 0 1 _ (get_new h2 (.own [.sl q 0 l.length])) (by simp)
    simpa using this
  have e1 : L.length + [H0.sl q 0 l.length].length = (L ++ [l]).length := by simp
  rw [e1]
  have old : ∀ p, p < h2.length → p ≠ r → ((h2 ++ [Row.own [.sl q 0 l.length]]).set r .gone ++ [Row.own (cs.take L.length ++ [.sl q 0 l.length])])[p]? = h2[p]? := fun p hp hn => by
    rw [List.getElem?_append_left (by simp; omega), List.getElem?_set_ne (Ne.symm hn), List.getElem?_append_left hp]
  have gd1 : ∀ i, i < L.length → (L ++ [l]).getD i [] = L.getD i [] := fun i hi => by
    simp only [List.getD]
    rw [List.getElem?_append_left hi]
  have gd2 : (L ++ [l]).getD L.length [] = l := by simp [List.getD]
  have hE : Ext hb ((h2 ++ [Row.own [.sl q 0 l.length]]).set r .gone ++ [Row.own (cs.take L.length ++ [.sl q 0 l.length])]) := ((((E.trans E2).pushed _).set hr1 _).pushed _)
  have hlen : ((h2 ++ [Row.own [.sl q 0 l.length]]).set r .gone ++ [Row.own (cs.take L.length ++ [.sl q 0 l.length])]).length = h2.length + 2 := by simp
  refine hK _ _ hE ⟨h2.length + 1, fun i => if i < L.length then ρ i else q, by simp, by omega, by rw [hlen]; omega, fun i hi => ?_, ⟨cs.take L.length ++ [.sl q 0 l.length], ?_, by simp; omega, fun i hi => ?_⟩, fun i hi => ?_, fun i hi => ?_, fun i j hij hj => ?_⟩
  · rw [hlen]
    by_cases hi2 : i < L.length
    · have := hρ i hi2
      simp only [hi2, if_true]
      omega
    · simp only [hi2, if_false]
      omega
  · rw [List.getElem?_append_right (by simp)]
    simp
  · by_cases hi2 : i < L.length
    · rw [List.getElem?_append_left (by simp; omega), List.getElem?_take_of_lt hi2, hoc i hi2, gd1 i hi2]
      simp [hi2]
    · have e : i = L.length := by simp at hi; omega
      subst e
      rw [gd2, List.getElem?_append_right (by simp; omega)]
      have : L.length - (cs.take L.length).length = 0 := by simp; omega
      rw [this]
      simp
  · by_cases hi2 : i < L.length
    · obtain ⟨t2, ht2⟩ := m.inner i hi2
      have hb2 := hρ i hi2
      have hne := m.ne i hi2
      refine ⟨t2, ?_⟩
      rw [gd1 i hi2, if_pos hi2, old _ (by omega) hne]
      exact E2.row ht2
    · have e : i = L.length := by simp at hi; omega
      subst e
      refine ⟨t, ?_⟩
      rw [gd2, if_neg (by omega), old _ (by omega) (by omega)]
      exact hq
  · by_cases hi2 : i < L.length
    · have := hρ i hi2
      simp only [hi2, if_true]
      omega
    · simp only [hi2, if_false]
      omega
  · have hj' : j ≤ L.length := by simp at hj; omega
    have hi2 : i < L.length := by omega
    have h1 := hρ i hi2
    by_cases hj2 : j < L.length
    · simp only [hi2, hj2, if_true]
      exact m.inj i j hij hj2
    · simp only [hi2, hj2, if_true, if_false]
      omega

/-- Nothing yet: a slice of slices without an entry. -/
theorem OwnM.none (h : Heap) : OwnM h.length (h ++ [Row.own []]).length (h ++ [Row.own []]) (.sl h.length 0 0) [] :=
  ⟨h.length, fun _ => 0, rfl, Nat.le_refl _, by simp, fun i hi => by simp at hi, ⟨[], get_new _ _, Nat.le_refl _, fun i hi => by simp at hi⟩, fun i hi => by simp at hi, fun i hi => by simp at hi, fun i j _ hj => by simp at hj⟩

theorem OwnM.widen {b e e' : Nat} {h : Heap} {x : H0} {L : List (List Int)} (H : OwnM b e h x L) (k : e ≤ e') : OwnM b e' h x L := by
  obtain ⟨r, ρ, g1, g2, g3, g4, m⟩ := H
  exact ⟨r, ρ, g1, g2, by omega, fun i hi => by have := g4 i hi; omega, m⟩

theorem HLit.row {z : Value} {y : H0} {h : Heap} {K : HV → Heap → Prop} (h1 : y.one = true) (hK : K (.s (.sl h.length 0 1)) (h ++ [.own [y]])) : HLit z 1 (some [y]) h K := ⟨[y], rfl, rfl, by omega, by simpa using h1, hK⟩
theorem Own.one {b e : Nat} {h : Heap} {x : H0} {l : List Int} (H : Own b e h x l) : x.one = true := by
  obtain ⟨r, t, rfl, _⟩ := H
  rfl

theorem HLit.two {z : Value} {v u : Int} {h : Heap} {K : HV → Heap → Prop} (hK : K (.s (.sl h.length 0 2)) (h ++ [.own [ci v, ci u]])) : HLit z 2 (some [ci v, ci u]) h K := ⟨[ci v, ci u], rfl, rfl, by omega, by simp [H0.one, Value.oneCell'], hK⟩

/-- A part of a slice of ints. -/
theorem Ints.slice {h : Heap} {x : H0} {l : List Int} (H : Ints h x l) {lo hi : Option HV} {K : HV → Prop} (a u : Nat) (hlo : lo = none ∧ a = 0 ∨ lo = some (I a)) (hhi : hi = none ∧ u = l.length ∨ hi = some (I u)) (h1 : a ≤ u) (h2 : u ≤ l.length)
    (hK : ∀ y, Ints h y ((l.take u).drop a) → K (.s y)) : HSlice h (.s x) lo hi K := by
  have e1 : lo = none ∧ a = 0 ∨ ∃ k, lo = some (.s (.pl (.int k (a : Int)))) := hlo.imp id fun e => ⟨_, e⟩
  have hlen : l.length = (l.map ci).length := by simp
  have main : ∀ n, n = l.length → hi = none ∧ u = n ∨ ∃ k, hi = some (.s (.pl (.int k (u : Int)))) := fun n hn => by subst hn; exact hhi.imp id fun e => ⟨_, e⟩
  have key : ((l.map ci).take u).drop a = ((l.take u).drop a).map ci := by simp
  unfold Ints at H
  generalize hL : l.map ci = L at H hlen key
  cases H with
  | nils b c =>
    have e : l = [] := by simpa using hL
    subst e
    refine ⟨0, a, u, rfl, e1, main 0 rfl, h1, Or.inl h2, hK _ ?_⟩
    show Shows _ _ _
    simp
    exact .nils b c
  | ro r off len cs hr hl =>
    have hll : l.length = len := by simp at hlen; omega
    refine ⟨len, a, u, rfl, e1, main len hll.symm, h1, Or.inl (by omega), hK _ ?_⟩
    show Shows _ _ _
    rw [← key]
    have := Shows.ro (h := h) r (off + a) (u - a) cs hr (by omega)
    rw [List.take_take, Nat.min_eq_left (by omega), List.drop_take, List.drop_drop]
    exact this
  | own r off len cs hr hl =>
    have hll : l.length = len := by simp at hlen; omega
    refine ⟨len, a, u, rfl, e1, main len hll.symm, h1, Or.inl (by omega), hK _ ?_⟩
    show Shows _ _ _
    rw [← key]
    have := Shows.own (h := h) r (off + a) (u - a) cs hr (by omega)
    rw [List.take_take, Nat.min_eq_left (by omega), List.drop_take, List.drop_drop]
    exact this

theorem Ints.take {h : Heap} {x : H0} {l : List Int} (H : Ints h x l) {K : HV → Prop} (u : Nat) (h2 : u ≤ l.length)
    (hK : ∀ y, Ints h y (l.take u) → K (.s y)) : HSlice h (.s x) none (some (I u)) K := H.slice 0 u (Or.inl ⟨rfl, rfl⟩) (Or.inr rfl) (by omega) h2 (by simpa using hK)

end Go.Proofs.Ytkkniibnlniflaa.Hx

namespace Go.Proofs.Ytkkniibnlniflaa.Hx
open Go.RowKit
variable {dm : Bool}

def signOf (a : List Int) : Int := if (a.length : Int).tmod 2 = 0 then 1 else -1

def heightOf (a : List Int) : Int := a.foldl (fun s x => IntKind.i64.wrap (s + x)) 0

theorem heightOf_snoc (a : List Int) (i : Nat) (hi : i < a.length) : heightOf (a.take (i + 1)) = IntKind.i64.wrap (heightOf (a.take i) + a.getD i 0) := by
  rw [List.take_succ_eq_append_getElem hi]
  unfold heightOf
  rw [List.foldl_append]
  simp [List.getD, hi]

theorem spec_HeightOf (h : Heap) (x : H0) (a : List Int) (hx : Ints h x a) (hal : a.length ≤ 2199023255552) : HCalls dm Try.prog 149 [.s x] h (fun r h' => r = I (heightOf a) ∧ h' = h) := by
  refine calls_of_hFun (m := 0) kd_ok mixed Try.func149 rfl (by kernel_rfl) rfl rfl (of_decide_eq_true rfl) ?_; unfold hFun; (conv => whnf)
  refine HLoop.intro [4, 3] [5, 6, 7, 8, 11, 12, 13, 14, 15, 16, 3, 9, 10, 4] (by kernel_rfl) (by kernel_rfl) (fun vs h' => ∃ i : Nat, vs = [I i, I (heightOf (a.take i))] ∧ i ≤ a.length ∧ h' = h) (fun vs _ => a.length - natAt vs 0) ⟨0, rfl, by omega, rfl⟩ ?_
  rintro vs h' ⟨i, rfl, hi, rfl⟩
  (conv => whnf)
  (repeat (first | (refine ⟨rfl, Ints.len (by assumption) ?_⟩; conv => whnf) | (refine ⟨rfl, Rows.len (by assumption) ?_⟩; conv => whnf) | (refine ⟨rfl, HLen.sl ?_⟩; conv => whnf) | (refine ⟨rfl, At.load (by assumption) ?_⟩; conv => whnf) | (refine HIf.yes ?_; conv => whnf) | (refine HIf.no ?_; conv => whnf) | (refine HIf.isT (by assumption) ?_; conv => whnf) | (refine HIf.isF (by assumption) ?_; conv => whnf) | (refine HIf.decT (by assumption) ?_; conv => whnf) | (refine HIf.decF (by assumption) ?_; conv => whnf) | (refine HIf.beqT (by assumption) ?_; conv => whnf) | (refine HIf.beqF (by assumption) ?_; conv => whnf) | (refine HIf.bneT (by assumption) ?_; conv => whnf) | (refine HIf.bneF (by assumption) ?_; conv => whnf) | (refine ⟨rfl, Ints.idxN (by assumption) (by omega) (fun p hp => ?_)⟩; conv => whnf) | (refine ⟨rfl, Rows.idxN (by assumption) (by omega) (fun p y hp hy => ?_)⟩; conv => whnf) | (refine And.intro (show Kd.isBool _ = true from rfl) ?_; conv => whnf) | (refine ⟨rfl, Ints.idx (by assumption) (by omega) (by omega) (fun p hp => ?_)⟩; conv => whnf) | (refine ⟨rfl, Rows.idx (by assumption) (by omega) (by omega) (fun p y hp hy => ?_)⟩; conv => whnf) | (refine HArith.fits (by omega) (by omega) ?_; conv => whnf) | (refine Or.inl (And.intro (show Region.lexB _ _ = true by kernel_rfl) ?_); conv => whnf)))
  refine HIf.dec (fun hlt => ?_) (fun hge => ?_)
  · (conv => whnf)
    refine ⟨rfl, Ints.idx hx (by omega) (by omega) (fun p hp => ?_)⟩
    (conv => whnf)
    refine ⟨rfl, hp.load ?_⟩
    (conv => whnf)
    refine HArith.any ?_
    (conv => whnf)
    (repeat (first | (refine ⟨rfl, Ints.len (by assumption) ?_⟩; conv => whnf) | (refine ⟨rfl, Rows.len (by assumption) ?_⟩; conv => whnf) | (refine ⟨rfl, HLen.sl ?_⟩; conv => whnf) | (refine ⟨rfl, At.load (by assumption) ?_⟩; conv => whnf) | (refine HIf.yes ?_; conv => whnf) | (refine HIf.no ?_; conv => whnf) | (refine HIf.isT (by assumption) ?_; conv => whnf) | (refine HIf.isF (by assumption) ?_; conv => whnf) | (refine HIf.decT (by assumption) ?_; conv => whnf) | (refine HIf.decF (by assumption) ?_; conv => whnf) | (refine HIf.beqT (by assumption) ?_; conv => whnf) | (refine HIf.beqF (by assumption) ?_; conv => whnf) | (refine HIf.bneT (by assumption) ?_; conv => whnf) | (refine HIf.bneF (by assumption) ?_; conv => whnf) | (refine ⟨rfl, Ints.idxN (by assumption) (by omega) (fun p hp => ?_)⟩; conv => whnf) | (refine ⟨rfl, Rows.idxN (by assumption) (by omega) (fun p y hp hy => ?_)⟩; conv => whnf) | (refine And.intro (show Kd.isBool _ = true from rfl) ?_; conv => whnf) | (refine ⟨rfl, Ints.idx (by assumption) (by omega) (by omega) (fun p hp => ?_)⟩; conv => whnf) | (refine ⟨rfl, Rows.idx (by assumption) (by omega) (by omega) (fun p y hp hy => ?_)⟩; conv => whnf) | (refine HArith.fits (by omega) (by omega) ?_; conv => whnf) | (refine Or.inl (And.intro (show Region.lexB _ _ = true by kernel_rfl) ?_); conv => whnf)))
    exact ⟨⟨i + 1, by rw [heightOf_snoc a i (by omega)]; rfl, by omega, rfl⟩, by show a.length - (i + 1) < a.length - i; omega⟩
  · (conv => whnf)
    have e : i = a.length := by omega
    rw [e, List.take_length]
    exact ⟨rfl, rfl⟩

theorem impl_HeightOf (h : Heap) (x : H0) (a : List Int) (hx : Ints h x a) (hal : a.length ≤ 2199023255552) : HCalls dm Try.prog 127 [.s x] h (fun r h' => r = I (heightOf a) ∧ h' = h) := by
  refine calls_of_hFun (m := 0) kd_ok mixed Try.func127 rfl (by kernel_rfl) rfl rfl (of_decide_eq_true rfl) ?_; unfold hFun; (conv => whnf)
  refine ⟨rfl, hx.len ?_⟩
  (conv => whnf)
  refine HLoop.intro [8, 3] [9, 10, 11, 5, 12, 13, 14, 3, 15, 8] (by kernel_rfl) (by kernel_rfl) (fun vs h' => ∃ i : Nat, vs = [I i, I (heightOf (a.take i))] ∧ i ≤ a.length ∧ h' = h) (fun vs _ => a.length - natAt vs 0) ⟨0, rfl, by omega, rfl⟩ ?_
  rintro vs h' ⟨i, rfl, hi, rfl⟩
  (conv => whnf)
  refine HIf.dec (fun hlt => ?_) (fun hge => ?_)
  · (conv => whnf)
    refine ⟨rfl, Ints.idx hx (by omega) (by omega) (fun p hp => ?_)⟩
    (conv => whnf)
    refine ⟨rfl, hp.load ?_⟩
    (conv => whnf)
    refine HArith.any ?_
    (conv => whnf)
    (repeat (first | (refine ⟨rfl, Ints.len (by assumption) ?_⟩; conv => whnf) | (refine ⟨rfl, Rows.len (by assumption) ?_⟩; conv => whnf) | (refine ⟨rfl, HLen.sl ?_⟩; conv => whnf) | (refine ⟨rfl, At.load (by assumption) ?_⟩; conv => whnf) | (refine HIf.yes ?_; conv => whnf) | (refine HIf.no ?_; conv => whnf) | (refine HIf.isT (by assumption) ?_; conv => whnf) | (refine HIf.isF (by assumption) ?_; conv => whnf) | (refine HIf.decT (by assumption) ?_; conv => whnf) | (refine HIf.decF (by assumption) ?_; conv => whnf) | (refine HIf.beqT (by assumption) ?_; conv => whnf) | (refine HIf.beqF (by assumption) ?_; conv => whnf) | (refine HIf.bneT (by assumption) ?_; conv => whnf) | (refine HIf.bneF (by assumption) ?_; conv => whnf) | (refine ⟨rfl, Ints.idxN (by assumption) (by omega) (fun p hp => ?_)⟩; conv => whnf) | (refine ⟨rfl, Rows.idxN (by assumption) (by omega) (fun p y hp hy => ?_)⟩; conv => whnf) | (refine And.intro (show Kd.isBool _ = true from rfl) ?_; conv => whnf) | (refine ⟨rfl, Ints.idx (by assumption) (by omega) (by omega) (fun p hp => ?_)⟩; conv => whnf) | (refine ⟨rfl, Rows.idx (by assumption) (by omega) (by omega) (fun p y hp hy => ?_)⟩; conv => whnf) | (refine HArith.fits (by omega) (by omega) ?_; conv => whnf) | (refine Or.inl (And.intro (show Region.lexB _ _ = true by kernel_rfl) ?_); conv => whnf)))
    exact ⟨⟨i + 1, by rw [heightOf_snoc a i (by omega)]; rfl, by omega, rfl⟩, by show a.length - (i + 1) < a.length - i; omega⟩
  · (conv => whnf)
    have e : i = a.length := by omega
    rw [e, List.take_length]
    exact ⟨rfl, rfl⟩

/-- No two neighbours are equal. -/
def sqFree (a : List Int) : Bool := (List.range a.length).all fun j => decide (j = 0) || !(a.getD j 0 == a.getD (j - 1) 0)

def anyUp (a : List Int) : Bool := a.any fun n => decide (n > 0)
def anyDown (a : List Int) : Bool := a.any fun n => decide (n < 0)
def rootSign (a : List Int) : Int := if anyUp a == anyDown a then 0 else if anyUp a then 1 else -1

theorem anyUp_snoc (a : List Int) (i : Nat) (hi : i < a.length) : anyUp (a.take (i + 1)) = (anyUp (a.take i) || decide (a.getD i 0 > 0)) := by
  rw [List.take_succ_eq_append_getElem hi]
  unfold anyUp
  rw [List.any_append]
  simp [List.getD, hi]

theorem anyDown_snoc (a : List Int) (i : Nat) (hi : i < a.length) : anyDown (a.take (i + 1)) = (anyDown (a.take i) || decide (a.getD i 0 < 0)) := by
  rw [List.take_succ_eq_append_getElem hi]
  unfold anyDown
  rw [List.any_append]
  simp [List.getD, hi]

end Go.Proofs.Ytkkniibnlniflaa.Hx
