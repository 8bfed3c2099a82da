/-
  Contracts: weights and words, of the program and of the reference.
  The contracts of the laws' own helpers over slices of slices of ints: sizes, copies, comparisons, marks; and what is made anew, with bounds on where it lies.
  The contracts of the laws' own helpers that copy and mark slices of slices of ints.
  Contracts of SimpleRoot and of the sums over rows and roots, of the program and of the reference.
  Contracts of reflections of roots, of the program and of the reference.
  Contracts of ReflectRoot, ActOnRoot, WeightOfRoot, of the program and of the reference.
  Contracts of WeightOfRoot, of the program and of the reference.
  Contracts of ActOnRoot, of the program and of the reference.
  Contracts of reflections of weights and of the image of rho, of the program and of the reference.
  Contracts of the image of rho and of equality of slices, of the program and of the reference.
-/
import Derived.Test.YtgliajcgcbnemaaGreatDoorZ08
namespace Go.Proofs.YtgliajcgcbnemaaGreatDoor.Hx
open Go.RowKit
variable {dm : Bool}
theorem decNat (a b : Nat) : ((a : Int) == (b : Int)) = decide (a = b) := by
  by_cases h : a = b
  · simp [h]
  · simp [h]; omega


theorem spec_IsWeight (h : Heap) (x y : H0) (c : List (List Int)) (v : List Int) (hx : Rows h x c) (hy : Ints h y v) (hc : c.length ≤ 2199023255552) (hv : v.length ≤ 2199023255552) :
    HCalls dm Tryz.prog 51 [.s x, .s y] h (fun r h' => r = B (isWeight c v) ∧ h' = h) := by
  refine calls_of_hFun (m := 0) kd_ok mixed Tryz.func51 rfl (by kernel_rfl) rfl rfl (of_decide_eq_true rfl) ?_; unfold hFun; (conv => whnf)
  refine HLoop.intro [5] [6, 7, 8, 9, 12, 13, 14, 15, 16, 17, 4, 10, 11, 5] (by kernel_rfl) (by kernel_rfl) (fun vs h' => ∃ i : Nat, vs = [I i] ∧ h' = h ∧ i ≤ v.length ∧ ∀ j, j < i → -1000 ≤ v.getD j 0 ∧ v.getD j 0 ≤ 1000) (fun vs _ => v.length - natAt vs 0) ⟨0, rfl, rfl, by omega, fun j hj => by omega⟩ ?_
  rintro vs h' ⟨i, rfl, rfl, hi, hall⟩
  (conv => whnf)
  (repeat (first | (refine ⟨rfl, Ints.len (by assumption) ?_⟩; conv => whnf) | (refine ⟨rfl, Rows.len (by assumption) ?_⟩; conv => whnf) | (refine ⟨rfl, HLen.sl ?_⟩; conv => whnf) | (refine ⟨rfl, At.load (by assumption) ?_⟩; conv => whnf) | (refine HIf.yes ?_; conv => whnf) | (refine HIf.no ?_; conv => whnf) | (refine HIf.isT (by assumption) ?_; conv => whnf) | (refine HIf.isF (by assumption) ?_; conv => whnf) | (refine HIf.decT (by assumption) ?_; conv => whnf) | (refine HIf.decF (by assumption) ?_; conv => whnf) | (refine HIf.beqT (by assumption) ?_; conv => whnf) | (refine HIf.beqF (by assumption) ?_; conv => whnf) | (refine HIf.bneT (by assumption) ?_; conv => whnf) | (refine HIf.bneF (by assumption) ?_; conv => whnf) | (refine ⟨rfl, Ints.idxN (by assumption) (by omega) (fun p hp => ?_)⟩; conv => whnf) | (refine ⟨rfl, Rows.idxN (by assumption) (by omega) (fun p y hp hy => ?_)⟩; conv => whnf) | (refine And.intro (show Kd.isBool _ = true from rfl) ?_; conv => whnf) | (refine ⟨rfl, Ints.idx (by assumption) (by omega) (by omega) (fun p hp => ?_)⟩; conv => whnf) | (refine ⟨rfl, Rows.idx (by assumption) (by omega) (by omega) (fun p y hp hy => ?_)⟩; conv => whnf) | (refine HArith.fits (by omega) (by omega) ?_; conv => whnf) | (refine Or.inl (And.intro (show Region.lexB _ _ = true by kernel_rfl) ?_); conv => whnf)))
  refine HIf.dec (fun hlt => ?_) (fun hge => ?_)
  · (conv => whnf)
    (repeat (first | (refine ⟨rfl, Ints.len (by assumption) ?_⟩; conv => whnf) | (refine ⟨rfl, Rows.len (by assumption) ?_⟩; conv => whnf) | (refine ⟨rfl, HLen.sl ?_⟩; conv => whnf) | (refine ⟨rfl, At.load (by assumption) ?_⟩; conv => whnf) | (refine HIf.yes ?_; conv => whnf) | (refine HIf.no ?_; conv => whnf) | (refine HIf.isT (by assumption) ?_; conv => whnf) | (refine HIf.isF (by assumption) ?_; conv => whnf) | (refine HIf.decT (by assumption) ?_; conv => whnf) | (refine HIf.decF (by assumption) ?_; conv => whnf) | (refine HIf.beqT (by assumption) ?_; conv => whnf) | (refine HIf.beqF (by assumption) ?_; conv => whnf) | (refine HIf.bneT (by assumption) ?_; conv => whnf) | (refine HIf.bneF (by assumption) ?_; conv => whnf) | (refine ⟨rfl, Ints.idxN (by assumption) (by omega) (fun p hp => ?_)⟩; conv => whnf) | (refine ⟨rfl, Rows.idxN (by assumption) (by omega) (fun p y hp hy => ?_)⟩; conv => whnf) | (refine And.intro (show Kd.isBool _ = true from rfl) ?_; conv => whnf) | (refine ⟨rfl, Ints.idx (by assumption) (by omega) (by omega) (fun p hp => ?_)⟩; conv => whnf) | (refine ⟨rfl, Rows.idx (by assumption) (by omega) (by omega) (fun p y hp hy => ?_)⟩; conv => whnf) | (refine HArith.fits (by omega) (by omega) ?_; conv => whnf) | (refine Or.inl (And.intro (show Region.lexB _ _ = true by kernel_rfl) ?_); conv => whnf)))
    refine (spec_l1In _ _ _ _).mono ?_
    rintro r h' ⟨rfl, rfl⟩
    (conv => whnf)
    refine HIf.split (fun hb => ?_) (fun hb => ?_)
    · (conv => whnf)
      exact ⟨bEq (isWeight_bad (not_weight (v := v) (i := i) (by omega) (l1_not hb))), rfl⟩
    · have hb := l1_yes hb
      (conv => whnf)
      (repeat (first | (refine ⟨rfl, Ints.len (by assumption) ?_⟩; conv => whnf) | (refine ⟨rfl, Rows.len (by assumption) ?_⟩; conv => whnf) | (refine ⟨rfl, HLen.sl ?_⟩; conv => whnf) | (refine ⟨rfl, At.load (by assumption) ?_⟩; conv => whnf) | (refine HIf.yes ?_; conv => whnf) | (refine HIf.no ?_; conv => whnf) | (refine HIf.isT (by assumption) ?_; conv => whnf) | (refine HIf.isF (by assumption) ?_; conv => whnf) | (refine HIf.decT (by assumption) ?_; conv => whnf) | (refine HIf.decF (by assumption) ?_; conv => whnf) | (refine HIf.beqT (by assumption) ?_; conv => whnf) | (refine HIf.beqF (by assumption) ?_; conv => whnf) | (refine HIf.bneT (by assumption) ?_; conv => whnf) | (refine HIf.bneF (by assumption) ?_; conv => whnf) | (refine ⟨rfl, Ints.idxN (by assumption) (by omega) (fun p hp => ?_)⟩; conv => whnf) | (refine ⟨rfl, Rows.idxN (by assumption) (by omega) (fun p y hp hy => ?_)⟩; conv => whnf) | (refine And.intro (show Kd.isBool _ = true from rfl) ?_; conv => whnf) | (refine ⟨rfl, Ints.idx (by assumption) (by omega) (by omega) (fun p hp => ?_)⟩; conv => whnf) | (refine ⟨rfl, Rows.idx (by assumption) (by omega) (by omega) (fun p y hp hy => ?_)⟩; conv => whnf) | (refine HArith.fits (by omega) (by omega) ?_; conv => whnf) | (refine Or.inl (And.intro (show Region.lexB _ _ = true by kernel_rfl) ?_); conv => whnf)))
      refine ⟨⟨i + 1, rfl, rfl, by omega, fun j hj => ?_⟩, by show v.length - (i + 1) < v.length - i; omega⟩
      by_cases hji : j = i
      · subst hji; exact hb
      · exact hall j (by omega)
  · have he := isWeight_eq (c := c) (weight_of (v := v) (fun j hj => hall j (by omega)))
    (conv => whnf)
    refine (spec_IsCartan _ _ _ hx hc).mono ?_
    rintro r h' ⟨rfl, rfl⟩
    (conv => whnf)
    cases hic : isCartan c <;> (repeat (first | (refine ⟨rfl, Ints.len (by assumption) ?_⟩; conv => whnf) | (refine ⟨rfl, Rows.len (by assumption) ?_⟩; conv => whnf) | (refine ⟨rfl, HLen.sl ?_⟩; conv => whnf) | (refine ⟨rfl, At.load (by assumption) ?_⟩; conv => whnf) | (refine HIf.yes ?_; conv => whnf) | (refine HIf.no ?_; conv => whnf) | (refine HIf.isT (by assumption) ?_; conv => whnf) | (refine HIf.isF (by assumption) ?_; conv => whnf) | (refine HIf.decT (by assumption) ?_; conv => whnf) | (refine HIf.decF (by assumption) ?_; conv => whnf) | (refine HIf.beqT (by assumption) ?_; conv => whnf) | (refine HIf.beqF (by assumption) ?_; conv => whnf) | (refine HIf.bneT (by assumption) ?_; conv => whnf) | (refine HIf.bneF (by assumption) ?_; conv => whnf) | (refine ⟨rfl, Ints.idxN (by assumption) (by omega) (fun p hp => ?_)⟩; conv => whnf) | (refine ⟨rfl, Rows.idxN (by assumption) (by omega) (fun p y hp hy => ?_)⟩; conv => whnf) | (refine And.intro (show Kd.isBool _ = true from rfl) ?_; conv => whnf) | (refine ⟨rfl, Ints.idx (by assumption) (by omega) (by omega) (fun p hp => ?_)⟩; conv => whnf) | (refine ⟨rfl, Rows.idx (by assumption) (by omega) (by omega) (fun p y hp hy => ?_)⟩; conv => whnf) | (refine HArith.fits (by omega) (by omega) ?_; conv => whnf) | (refine Or.inl (And.intro (show Region.lexB _ _ = true by kernel_rfl) ?_); conv => whnf)))
    · exact ⟨bEq (by rw [he, hic]; rfl), rfl⟩
    · exact ⟨bEq (by rw [he, hic, Bool.true_and, decNat]), rfl⟩

theorem impl_IsWeight (h : Heap) (x y : H0) (c : List (List Int)) (v : List Int) (hx : Rows h x c) (hy : Ints h y v) (hc : c.length ≤ 2199023255552) (_hv : v.length ≤ 2199023255552) :
    HCalls dm Tryz.prog 50 [.s x, .s y] h (fun r h' => r = B (isWeight c v) ∧ h' = h) := by
  refine calls_of_hFun (m := 0) kd_ok mixed Tryz.func50 rfl (by kernel_rfl) rfl rfl (of_decide_eq_true rfl) ?_; unfold hFun; (conv => whnf)
  refine (impl_IsCartan _ _ _ hx hc).mono ?_
  rintro r h' ⟨rfl, rfl⟩
  (conv => whnf)
  cases hic : isCartan c
  · (repeat (first | (refine ⟨rfl, Ints.len (by assumption) ?_⟩; conv => whnf) | (refine ⟨rfl, Rows.len (by assumption) ?_⟩; conv => whnf) | (refine ⟨rfl, HLen.sl ?_⟩; conv => whnf) | (refine ⟨rfl, At.load (by assumption) ?_⟩; conv => whnf) | (refine HIf.yes ?_; conv => whnf) | (refine HIf.no ?_; conv => whnf) | (refine HIf.isT (by assumption) ?_; conv => whnf) | (refine HIf.isF (by assumption) ?_; conv => whnf) | (refine HIf.decT (by assumption) ?_; conv => whnf) | (refine HIf.decF (by assumption) ?_; conv => whnf) | (refine HIf.beqT (by assumption) ?_; conv => whnf) | (refine HIf.beqF (by assumption) ?_; conv => whnf) | (refine HIf.bneT (by assumption) ?_; conv => whnf) | (refine HIf.bneF (by assumption) ?_; conv => whnf) | (refine ⟨rfl, Ints.idxN (by assumption) (by omega) (fun p hp => ?_)⟩; conv => whnf) | (refine ⟨rfl, Rows.idxN (by assumption) (by omega) (fun p y hp hy => ?_)⟩; conv => whnf) | (refine And.intro (show Kd.isBool _ = true from rfl) ?_; conv => whnf) | (refine ⟨rfl, Ints.idx (by assumption) (by omega) (by omega) (fun p hp => ?_)⟩; conv => whnf) | (refine ⟨rfl, Rows.idx (by assumption) (by omega) (by omega) (fun p y hp hy => ?_)⟩; conv => whnf) | (refine HArith.fits (by omega) (by omega) ?_; conv => whnf) | (refine Or.inl (And.intro (show Region.lexB _ _ = true by kernel_rfl) ?_); conv => whnf)))
    exact ⟨bEq (by simp [isWeight, hic]), rfl⟩
  (repeat (first | (refine ⟨rfl, Ints.len (by assumption) ?_⟩; conv => whnf) | (refine ⟨rfl, Rows.len (by assumption) ?_⟩; conv => whnf) | (refine ⟨rfl, HLen.sl ?_⟩; conv => whnf) | (refine ⟨rfl, At.load (by assumption) ?_⟩; conv => whnf) | (refine HIf.yes ?_; conv => whnf) | (refine HIf.no ?_; conv => whnf) | (refine HIf.isT (by assumption) ?_; conv => whnf) | (refine HIf.isF (by assumption) ?_; conv => whnf) | (refine HIf.decT (by assumption) ?_; conv => whnf) | (refine HIf.decF (by assumption) ?_; conv => whnf) | (refine HIf.beqT (by assumption) ?_; conv => whnf) | (refine HIf.beqF (by assumption) ?_; conv => whnf) | (refine HIf.bneT (by assumption) ?_; conv => whnf) | (refine HIf.bneF (by assumption) ?_; conv => whnf) | (refine ⟨rfl, Ints.idxN (by assumption) (by omega) (fun p hp => ?_)⟩; conv => whnf) | (refine ⟨rfl, Rows.idxN (by assumption) (by omega) (fun p y hp hy => ?_)⟩; conv => whnf) | (refine And.intro (show Kd.isBool _ = true from rfl) ?_; conv => whnf) | (refine ⟨rfl, Ints.idx (by assumption) (by omega) (by omega) (fun p hp => ?_)⟩; conv => whnf) | (refine ⟨rfl, Rows.idx (by assumption) (by omega) (by omega) (fun p y hp hy => ?_)⟩; conv => whnf) | (refine HArith.fits (by omega) (by omega) ?_; conv => whnf) | (refine Or.inl (And.intro (show Region.lexB _ _ = true by kernel_rfl) ?_); conv => whnf)))
  refine HIf.bne (fun hne => ?_) (fun heq => ?_)
  · (conv => whnf)
    exact ⟨bEq (by simp only [isWeight, Bool.and_eq_false_iff, decide_eq_false_iff_not]; omega), rfl⟩
  (conv => whnf)
  (repeat (first | (refine ⟨rfl, Ints.len (by assumption) ?_⟩; conv => whnf) | (refine ⟨rfl, Rows.len (by assumption) ?_⟩; conv => whnf) | (refine ⟨rfl, HLen.sl ?_⟩; conv => whnf) | (refine ⟨rfl, At.load (by assumption) ?_⟩; conv => whnf) | (refine HIf.yes ?_; conv => whnf) | (refine HIf.no ?_; conv => whnf) | (refine HIf.isT (by assumption) ?_; conv => whnf) | (refine HIf.isF (by assumption) ?_; conv => whnf) | (refine HIf.decT (by assumption) ?_; conv => whnf) | (refine HIf.decF (by assumption) ?_; conv => whnf) | (refine HIf.beqT (by assumption) ?_; conv => whnf) | (refine HIf.beqF (by assumption) ?_; conv => whnf) | (refine HIf.bneT (by assumption) ?_; conv => whnf) | (refine HIf.bneF (by assumption) ?_; conv => whnf) | (refine ⟨rfl, Ints.idxN (by assumption) (by omega) (fun p hp => ?_)⟩; conv => whnf) | (refine ⟨rfl, Rows.idxN (by assumption) (by omega) (fun p y hp hy => ?_)⟩; conv => whnf) | (refine And.intro (show Kd.isBool _ = true from rfl) ?_; conv => whnf) | (refine ⟨rfl, Ints.idx (by assumption) (by omega) (by omega) (fun p hp => ?_)⟩; conv => whnf) | (refine ⟨rfl, Rows.idx (by assumption) (by omega) (by omega) (fun p y hp hy => ?_)⟩; conv => whnf) | (refine HArith.fits (by omega) (by omega) ?_; conv => whnf) | (refine Or.inl (And.intro (show Region.lexB _ _ = true by kernel_rfl) ?_); conv => whnf)))
  refine HLoop.intro [19] [20, 21, 22, 6, 23, 24, 25, 26, 27, 28, 4, 29, 19] (by kernel_rfl) (by kernel_rfl) (fun vs h'' => ∃ i : Nat, vs = [I i] ∧ h'' = h' ∧ i ≤ v.length ∧ ∀ j, j < i → -1000 ≤ v.getD j 0 ∧ v.getD j 0 ≤ 1000) (fun vs _ => v.length - natAt vs 0) ⟨0, rfl, rfl, by omega, fun j hj => by omega⟩ ?_
  rintro vs h' ⟨i, rfl, rfl, hi, hall⟩
  (conv => whnf)
  refine HIf.dec (fun hlt => ?_) (fun hge => ?_)
  · (conv => whnf)
    refine ⟨rfl, Ints.idxN hy (by omega) (fun p hp => ?_)⟩
    (conv => whnf)
    refine ⟨rfl, hp.load ?_⟩
    (conv => whnf)
    refine HIf.split (fun h1 => ?_) (fun h1 => ?_)
    · (conv => whnf)
      (repeat (first | (refine HIf.isT h1 ?_; conv => whnf) | (refine HIf.yes ?_; conv => whnf)))
      exact ⟨bEq (isWeight_bad (not_weight (v := v) (i := i) (by omega) (by simp only [decide_eq_true_eq] at h1; omega))), rfl⟩
    · (conv => whnf)
      refine HIf.isF h1 ?_
      (conv => whnf)
      refine HIf.isF h1 ?_
      (conv => whnf)
      refine HIf.split (fun h2 => ?_) (fun h2 => ?_)
      · (conv => whnf)
        exact ⟨bEq (isWeight_bad (not_weight (v := v) (i := i) (by omega) (by simp only [decide_eq_true_eq] at h2; omega))), rfl⟩
      · (conv => whnf)
        refine HArith.fits (by omega) (by omega) ?_
        (conv => whnf)
        refine ⟨⟨i + 1, rfl, rfl, by omega, fun j hj => ?_⟩, by show v.length - (i + 1) < v.length - i; omega⟩
        by_cases hji : j = i
        · subst hji; simp only [decide_eq_false_iff_not] at h1 h2; omega
        · exact hall j (by omega)
  · have he := isWeight_eq (c := c) (weight_of (v := v) (fun j hj => hall j (by omega)))
    (conv => whnf)
    exact ⟨bEq (by rw [he, hic, Bool.true_and, decide_eq_true_eq]; omega), rfl⟩

theorem spec_IsWord (h : Heap) (x y : H0) (c : List (List Int)) (v : List Int) (hx : Rows h x c) (hy : Ints h y v) (hc : c.length ≤ 2199023255552) (hv : v.length ≤ 2199023255552) :
    HCalls dm Tryz.prog 29 [.s x, .s y] h (fun r h' => r = B (isWord c v) ∧ h' = h) := by
  refine calls_of_hFun (m := 0) kd_ok mixed Tryz.func29 rfl (by kernel_rfl) rfl rfl (of_decide_eq_true rfl) ?_; unfold hFun; (conv => whnf)
  refine HLoop.intro [5] [6, 7, 8, 9, 12, 13, 14, 15, 16, 17, 18, 19, 20, 4, 10, 11, 5] (by kernel_rfl) (by kernel_rfl) (fun vs h' => ∃ i : Nat, vs = [I i] ∧ h' = h ∧ i ≤ v.length ∧ ∀ j, j < i → 0 ≤ v.getD j 0 ∧ v.getD j 0 < c.length) (fun vs _ => v.length - natAt vs 0) ⟨0, rfl, rfl, by omega, fun j hj => by omega⟩ ?_
  rintro vs h' ⟨i, rfl, rfl, hi, hall⟩
  (conv => whnf)
  (repeat (first | (refine ⟨rfl, Ints.len (by assumption) ?_⟩; conv => whnf) | (refine ⟨rfl, Rows.len (by assumption) ?_⟩; conv => whnf) | (refine ⟨rfl, HLen.sl ?_⟩; conv => whnf) | (refine ⟨rfl, At.load (by assumption) ?_⟩; conv => whnf) | (refine HIf.yes ?_; conv => whnf) | (refine HIf.no ?_; conv => whnf) | (refine HIf.isT (by assumption) ?_; conv => whnf) | (refine HIf.isF (by assumption) ?_; conv => whnf) | (refine HIf.decT (by assumption) ?_; conv => whnf) | (refine HIf.decF (by assumption) ?_; conv => whnf) | (refine HIf.beqT (by assumption) ?_; conv => whnf) | (refine HIf.beqF (by assumption) ?_; conv => whnf) | (refine HIf.bneT (by assumption) ?_; conv => whnf) | (refine HIf.bneF (by assumption) ?_; conv => whnf) | (refine ⟨rfl, Ints.idxN (by assumption) (by omega) (fun p hp => ?_)⟩; conv => whnf) | (refine ⟨rfl, Rows.idxN (by assumption) (by omega) (fun p y hp hy => ?_)⟩; conv => whnf) | (refine And.intro (show Kd.isBool _ = true from rfl) ?_; conv => whnf) | (refine ⟨rfl, Ints.idx (by assumption) (by omega) (by omega) (fun p hp => ?_)⟩; conv => whnf) | (refine ⟨rfl, Rows.idx (by assumption) (by omega) (by omega) (fun p y hp hy => ?_)⟩; conv => whnf) | (refine HArith.fits (by omega) (by omega) ?_; conv => whnf) | (refine Or.inl (And.intro (show Region.lexB _ _ = true by kernel_rfl) ?_); conv => whnf)))
  refine HIf.dec (fun hlt => ?_) (fun hge => ?_)
  · (conv => whnf)
    (repeat (first | (refine ⟨rfl, Ints.len (by assumption) ?_⟩; conv => whnf) | (refine ⟨rfl, Rows.len (by assumption) ?_⟩; conv => whnf) | (refine ⟨rfl, HLen.sl ?_⟩; conv => whnf) | (refine ⟨rfl, At.load (by assumption) ?_⟩; conv => whnf) | (refine HIf.yes ?_; conv => whnf) | (refine HIf.no ?_; conv => whnf) | (refine HIf.isT (by assumption) ?_; conv => whnf) | (refine HIf.isF (by assumption) ?_; conv => whnf) | (refine HIf.decT (by assumption) ?_; conv => whnf) | (refine HIf.decF (by assumption) ?_; conv => whnf) | (refine HIf.beqT (by assumption) ?_; conv => whnf) | (refine HIf.beqF (by assumption) ?_; conv => whnf) | (refine HIf.bneT (by assumption) ?_; conv => whnf) | (refine HIf.bneF (by assumption) ?_; conv => whnf) | (refine ⟨rfl, Ints.idxN (by assumption) (by omega) (fun p hp => ?_)⟩; conv => whnf) | (refine ⟨rfl, Rows.idxN (by assumption) (by omega) (fun p y hp hy => ?_)⟩; conv => whnf) | (refine And.intro (show Kd.isBool _ = true from rfl) ?_; conv => whnf) | (refine ⟨rfl, Ints.idx (by assumption) (by omega) (by omega) (fun p hp => ?_)⟩; conv => whnf) | (refine ⟨rfl, Rows.idx (by assumption) (by omega) (by omega) (fun p y hp hy => ?_)⟩; conv => whnf) | (refine HArith.fits (by omega) (by omega) ?_; conv => whnf) | (refine Or.inl (And.intro (show Region.lexB _ _ = true by kernel_rfl) ?_); conv => whnf)))
    refine (spec_l1In _ _ _ _).mono ?_
    rintro r h' ⟨rfl, rfl⟩
    (conv => whnf)
    refine HIf.split (fun hb => ?_) (fun hb => ?_)
    · have hb := l1_not hb
      (conv => whnf)
      exact ⟨bEq (isWord_bad (not_letters (w := v) (i := i) (by omega) (by omega))), rfl⟩
    · have hb := l1_yes hb
      (conv => whnf)
      (repeat (first | (refine ⟨rfl, Ints.len (by assumption) ?_⟩; conv => whnf) | (refine ⟨rfl, Rows.len (by assumption) ?_⟩; conv => whnf) | (refine ⟨rfl, HLen.sl ?_⟩; conv => whnf) | (refine ⟨rfl, At.load (by assumption) ?_⟩; conv => whnf) | (refine HIf.yes ?_; conv => whnf) | (refine HIf.no ?_; conv => whnf) | (refine HIf.isT (by assumption) ?_; conv => whnf) | (refine HIf.isF (by assumption) ?_; conv => whnf) | (refine HIf.decT (by assumption) ?_; conv => whnf) | (refine HIf.decF (by assumption) ?_; conv => whnf) | (refine HIf.beqT (by assumption) ?_; conv => whnf) | (refine HIf.beqF (by assumption) ?_; conv => whnf) | (refine HIf.bneT (by assumption) ?_; conv => whnf) | (refine HIf.bneF (by assumption) ?_; conv => whnf) | (refine ⟨rfl, Ints.idxN (by assumption) (by omega) (fun p hp => ?_)⟩; conv => whnf) | (refine ⟨rfl, Rows.idxN (by assumption) (by omega) (fun p y hp hy => ?_)⟩; conv => whnf) | (refine And.intro (show Kd.isBool _ = true from rfl) ?_; conv => whnf) | (refine ⟨rfl, Ints.idx (by assumption) (by omega) (by omega) (fun p hp => ?_)⟩; conv => whnf) | (refine ⟨rfl, Rows.idx (by assumption) (by omega) (by omega) (fun p y hp hy => ?_)⟩; conv => whnf) | (refine HArith.fits (by omega) (by omega) ?_; conv => whnf) | (refine Or.inl (And.intro (show Region.lexB _ _ = true by kernel_rfl) ?_); conv => whnf)))
      refine ⟨⟨i + 1, rfl, rfl, by omega, fun j hj => ?_⟩, by show v.length - (i + 1) < v.length - i; omega⟩
      by_cases hji : j = i
      · subst hji; omega
      · exact hall j (by omega)
  · have he := isWord_eq (c := c) (letters_of (c := c) (w := v) (fun j hj => hall j (by omega)))
    (conv => whnf)
    refine (spec_IsCartan _ _ _ hx hc).mono ?_
    rintro r h' ⟨rfl, rfl⟩
    (conv => whnf)
    cases hic : isCartan c <;> (repeat (first | (refine ⟨rfl, Ints.len (by assumption) ?_⟩; conv => whnf) | (refine ⟨rfl, Rows.len (by assumption) ?_⟩; conv => whnf) | (refine ⟨rfl, HLen.sl ?_⟩; conv => whnf) | (refine ⟨rfl, At.load (by assumption) ?_⟩; conv => whnf) | (refine HIf.yes ?_; conv => whnf) | (refine HIf.no ?_; conv => whnf) | (refine HIf.isT (by assumption) ?_; conv => whnf) | (refine HIf.isF (by assumption) ?_; conv => whnf) | (refine HIf.decT (by assumption) ?_; conv => whnf) | (refine HIf.decF (by assumption) ?_; conv => whnf) | (refine HIf.beqT (by assumption) ?_; conv => whnf) | (refine HIf.beqF (by assumption) ?_; conv => whnf) | (refine HIf.bneT (by assumption) ?_; conv => whnf) | (refine HIf.bneF (by assumption) ?_; conv => whnf) | (refine ⟨rfl, Ints.idxN (by assumption) (by omega) (fun p hp => ?_)⟩; conv => whnf) | (refine ⟨rfl, Rows.idxN (by assumption) (by omega) (fun p y hp hy => ?_)⟩; conv => whnf) | (refine And.intro (show Kd.isBool _ = true from rfl) ?_; conv => whnf) | (refine ⟨rfl, Ints.idx (by assumption) (by omega) (by omega) (fun p hp => ?_)⟩; conv => whnf) | (refine ⟨rfl, Rows.idx (by assumption) (by omega) (by omega) (fun p y hp hy => ?_)⟩; conv => whnf) | (refine HArith.fits (by omega) (by omega) ?_; conv => whnf) | (refine Or.inl (And.intro (show Region.lexB _ _ = true by kernel_rfl) ?_); conv => whnf)))
    · exact ⟨bEq (by rw [he, hic]; rfl), rfl⟩
    · exact ⟨bEq (by rw [he, hic, Bool.true_and, decide_eq_decide]; omega), rfl⟩

theorem impl_isWordOf (h : Heap) (x y : H0) (c : List (List Int)) (v : List Int) (hx : Rows h x c) (hy : Ints h y v) (_hc : c.length ≤ 2199023255552) (hv : v.length ≤ 2199023255552) :
    HCalls dm Tryz.prog 146 [.s x, .s y] h (fun r h' => r = B (lettersOk c v) ∧ h' = h) := by
  refine calls_of_hFun (m := 0) kd_ok mixed Tryz.func146 rfl (by kernel_rfl) rfl rfl (of_decide_eq_true rfl) ?_; unfold hFun; (conv => whnf)
  (repeat (first | (refine ⟨rfl, Ints.len (by assumption) ?_⟩; conv => whnf) | (refine ⟨rfl, Rows.len (by assumption) ?_⟩; conv => whnf) | (refine ⟨rfl, HLen.sl ?_⟩; conv => whnf) | (refine ⟨rfl, At.load (by assumption) ?_⟩; conv => whnf) | (refine HIf.yes ?_; conv => whnf) | (refine HIf.no ?_; conv => whnf) | (refine HIf.isT (by assumption) ?_; conv => whnf) | (refine HIf.isF (by assumption) ?_; conv => whnf) | (refine HIf.decT (by assumption) ?_; conv => whnf) | (refine HIf.decF (by assumption) ?_; conv => whnf) | (refine HIf.beqT (by assumption) ?_; conv => whnf) | (refine HIf.beqF (by assumption) ?_; conv => whnf) | (refine HIf.bneT (by assumption) ?_; conv => whnf) | (refine HIf.bneF (by assumption) ?_; conv => whnf) | (refine ⟨rfl, Ints.idxN (by assumption) (by omega) (fun p hp => ?_)⟩; conv => whnf) | (refine ⟨rfl, Rows.idxN (by assumption) (by omega) (fun p y hp hy => ?_)⟩; conv => whnf) | (refine And.intro (show Kd.isBool _ = true from rfl) ?_; conv => whnf) | (refine ⟨rfl, Ints.idx (by assumption) (by omega) (by omega) (fun p hp => ?_)⟩; conv => whnf) | (refine ⟨rfl, Rows.idx (by assumption) (by omega) (by omega) (fun p y hp hy => ?_)⟩; conv => whnf) | (refine HArith.fits (by omega) (by omega) ?_; conv => whnf) | (refine Or.inl (And.intro (show Region.lexB _ _ = true by kernel_rfl) ?_); conv => whnf)))
  refine HLoop.intro [9] [10, 11, 12, 6, 13, 14, 15, 16, 4, 17, 9] (by kernel_rfl) (by kernel_rfl) (fun vs h'' => ∃ i : Nat, vs = [I i] ∧ h'' = h ∧ i ≤ v.length ∧ ∀ j, j < i → 0 ≤ v.getD j 0 ∧ v.getD j 0 < c.length) (fun vs _ => v.length - natAt vs 0) ⟨0, rfl, rfl, by omega, fun j hj => by omega⟩ ?_
  rintro vs h' ⟨i, rfl, rfl, hi, hall⟩
  (conv => whnf)
  refine HIf.dec (fun hlt => ?_) (fun hge => ?_)
  · (conv => whnf)
    (repeat (first | (refine ⟨rfl, Ints.len (by assumption) ?_⟩; conv => whnf) | (refine ⟨rfl, Rows.len (by assumption) ?_⟩; conv => whnf) | (refine ⟨rfl, HLen.sl ?_⟩; conv => whnf) | (refine ⟨rfl, At.load (by assumption) ?_⟩; conv => whnf) | (refine HIf.yes ?_; conv => whnf) | (refine HIf.no ?_; conv => whnf) | (refine HIf.isT (by assumption) ?_; conv => whnf) | (refine HIf.isF (by assumption) ?_; conv => whnf) | (refine HIf.decT (by assumption) ?_; conv => whnf) | (refine HIf.decF (by assumption) ?_; conv => whnf) | (refine HIf.beqT (by assumption) ?_; conv => whnf) | (refine HIf.beqF (by assumption) ?_; conv => whnf) | (refine HIf.bneT (by assumption) ?_; conv => whnf) | (refine HIf.bneF (by assumption) ?_; conv => whnf) | (refine ⟨rfl, Ints.idxN (by assumption) (by omega) (fun p hp => ?_)⟩; conv => whnf) | (refine ⟨rfl, Rows.idxN (by assumption) (by omega) (fun p y hp hy => ?_)⟩; conv => whnf) | (refine And.intro (show Kd.isBool _ = true from rfl) ?_; conv => whnf) | (refine ⟨rfl, Ints.idx (by assumption) (by omega) (by omega) (fun p hp => ?_)⟩; conv => whnf) | (refine ⟨rfl, Rows.idx (by assumption) (by omega) (by omega) (fun p y hp hy => ?_)⟩; conv => whnf) | (refine HArith.fits (by omega) (by omega) ?_; conv => whnf) | (refine Or.inl (And.intro (show Region.lexB _ _ = true by kernel_rfl) ?_); conv => whnf)))
    refine (impl_isPoint _ _ c _ hx).mono ?_
    rintro r h' ⟨rfl, rfl⟩
    (conv => whnf)
    refine HIf.bnot (HIf.split (fun hb => ?_) (fun hb => ?_))
    · have hb := point_of hb
      (conv => whnf)
      (repeat (first | (refine ⟨rfl, Ints.len (by assumption) ?_⟩; conv => whnf) | (refine ⟨rfl, Rows.len (by assumption) ?_⟩; conv => whnf) | (refine ⟨rfl, HLen.sl ?_⟩; conv => whnf) | (refine ⟨rfl, At.load (by assumption) ?_⟩; conv => whnf) | (refine HIf.yes ?_; conv => whnf) | (refine HIf.no ?_; conv => whnf) | (refine HIf.isT (by assumption) ?_; conv => whnf) | (refine HIf.isF (by assumption) ?_; conv => whnf) | (refine HIf.decT (by assumption) ?_; conv => whnf) | (refine HIf.decF (by assumption) ?_; conv => whnf) | (refine HIf.beqT (by assumption) ?_; conv => whnf) | (refine HIf.beqF (by assumption) ?_; conv => whnf) | (refine HIf.bneT (by assumption) ?_; conv => whnf) | (refine HIf.bneF (by assumption) ?_; conv => whnf) | (refine ⟨rfl, Ints.idxN (by assumption) (by omega) (fun p hp => ?_)⟩; conv => whnf) | (refine ⟨rfl, Rows.idxN (by assumption) (by omega) (fun p y hp hy => ?_)⟩; conv => whnf) | (refine And.intro (show Kd.isBool _ = true from rfl) ?_; conv => whnf) | (refine ⟨rfl, Ints.idx (by assumption) (by omega) (by omega) (fun p hp => ?_)⟩; conv => whnf) | (refine ⟨rfl, Rows.idx (by assumption) (by omega) (by omega) (fun p y hp hy => ?_)⟩; conv => whnf) | (refine HArith.fits (by omega) (by omega) ?_; conv => whnf) | (refine Or.inl (And.intro (show Region.lexB _ _ = true by kernel_rfl) ?_); conv => whnf)))
      refine ⟨⟨i + 1, rfl, rfl, by omega, fun j hj => ?_⟩, by show v.length - (i + 1) < v.length - i; omega⟩
      by_cases hji : j = i
      · subst hji; exact hb
      · exact hall j (by omega)
    · have hb := point_not hb
      (conv => whnf)
      exact ⟨bEq (not_letters (w := v) (i := i) (by omega) (by omega)), rfl⟩
  · have he := letters_of (c := c) (w := v) (fun j hj => hall j (by omega))
    (conv => whnf)
    exact ⟨bEq he, rfl⟩

theorem impl_IsWord (h : Heap) (x y : H0) (c : List (List Int)) (v : List Int) (hx : Rows h x c) (hy : Ints h y v) (hc : c.length ≤ 2199023255552) (hv : v.length ≤ 2199023255552) :
    HCalls dm Tryz.prog 83 [.s x, .s y] h (fun r h' => r = B (isWord c v) ∧ h' = h) := by
  refine calls_of_hFun (m := 0) kd_ok mixed Tryz.func83 rfl (by kernel_rfl) rfl rfl (of_decide_eq_true rfl) ?_; unfold hFun; (conv => whnf)
  refine (impl_IsCartan _ _ _ hx hc).mono ?_
  rintro r h' ⟨rfl, rfl⟩
  (conv => whnf)
  cases hic : isCartan c
  · (repeat (first | (refine ⟨rfl, Ints.len (by assumption) ?_⟩; conv => whnf) | (refine ⟨rfl, Rows.len (by assumption) ?_⟩; conv => whnf) | (refine ⟨rfl, HLen.sl ?_⟩; conv => whnf) | (refine ⟨rfl, At.load (by assumption) ?_⟩; conv => whnf) | (refine HIf.yes ?_; conv => whnf) | (refine HIf.no ?_; conv => whnf) | (refine HIf.isT (by assumption) ?_; conv => whnf) | (refine HIf.isF (by assumption) ?_; conv => whnf) | (refine HIf.decT (by assumption) ?_; conv => whnf) | (refine HIf.decF (by assumption) ?_; conv => whnf) | (refine HIf.beqT (by assumption) ?_; conv => whnf) | (refine HIf.beqF (by assumption) ?_; conv => whnf) | (refine HIf.bneT (by assumption) ?_; conv => whnf) | (refine HIf.bneF (by assumption) ?_; conv => whnf) | (refine ⟨rfl, Ints.idxN (by assumption) (by omega) (fun p hp => ?_)⟩; conv => whnf) | (refine ⟨rfl, Rows.idxN (by assumption) (by omega) (fun p y hp hy => ?_)⟩; conv => whnf) | (refine And.intro (show Kd.isBool _ = true from rfl) ?_; conv => whnf) | (refine ⟨rfl, Ints.idx (by assumption) (by omega) (by omega) (fun p hp => ?_)⟩; conv => whnf) | (refine ⟨rfl, Rows.idx (by assumption) (by omega) (by omega) (fun p y hp hy => ?_)⟩; conv => whnf) | (refine HArith.fits (by omega) (by omega) ?_; conv => whnf) | (refine Or.inl (And.intro (show Region.lexB _ _ = true by kernel_rfl) ?_); conv => whnf)))
    exact ⟨bEq (by simp [isWord, hic]), rfl⟩
  (repeat (first | (refine ⟨rfl, Ints.len (by assumption) ?_⟩; conv => whnf) | (refine ⟨rfl, Rows.len (by assumption) ?_⟩; conv => whnf) | (refine ⟨rfl, HLen.sl ?_⟩; conv => whnf) | (refine ⟨rfl, At.load (by assumption) ?_⟩; conv => whnf) | (refine HIf.yes ?_; conv => whnf) | (refine HIf.no ?_; conv => whnf) | (refine HIf.isT (by assumption) ?_; conv => whnf) | (refine HIf.isF (by assumption) ?_; conv => whnf) | (refine HIf.decT (by assumption) ?_; conv => whnf) | (refine HIf.decF (by assumption) ?_; conv => whnf) | (refine HIf.beqT (by assumption) ?_; conv => whnf) | (refine HIf.beqF (by assumption) ?_; conv => whnf) | (refine HIf.bneT (by assumption) ?_; conv => whnf) | (refine HIf.bneF (by assumption) ?_; conv => whnf) | (refine ⟨rfl, Ints.idxN (by assumption) (by omega) (fun p hp => ?_)⟩; conv => whnf) | (refine ⟨rfl, Rows.idxN (by assumption) (by omega) (fun p y hp hy => ?_)⟩; conv => whnf) | (refine And.intro (show Kd.isBool _ = true from rfl) ?_; conv => whnf) | (refine ⟨rfl, Ints.idx (by assumption) (by omega) (by omega) (fun p hp => ?_)⟩; conv => whnf) | (refine ⟨rfl, Rows.idx (by assumption) (by omega) (by omega) (fun p y hp hy => ?_)⟩; conv => whnf) | (refine HArith.fits (by omega) (by omega) ?_; conv => whnf) | (refine Or.inl (And.intro (show Region.lexB _ _ = true by kernel_rfl) ?_); conv => whnf)))
  by_cases h15 : (v.length : Int) ≤ 15
  · (repeat (first | (refine ⟨rfl, Ints.len (by assumption) ?_⟩; conv => whnf) | (refine ⟨rfl, Rows.len (by assumption) ?_⟩; conv => whnf) | (refine ⟨rfl, HLen.sl ?_⟩; conv => whnf) | (refine ⟨rfl, At.load (by assumption) ?_⟩; conv => whnf) | (refine HIf.yes ?_; conv => whnf) | (refine HIf.no ?_; conv => whnf) | (refine HIf.isT (by assumption) ?_; conv => whnf) | (refine HIf.isF (by assumption) ?_; conv => whnf) | (refine HIf.decT (by assumption) ?_; conv => whnf) | (refine HIf.decF (by assumption) ?_; conv => whnf) | (refine HIf.beqT (by assumption) ?_; conv => whnf) | (refine HIf.beqF (by assumption) ?_; conv => whnf) | (refine HIf.bneT (by assumption) ?_; conv => whnf) | (refine HIf.bneF (by assumption) ?_; conv => whnf) | (refine ⟨rfl, Ints.idxN (by assumption) (by omega) (fun p hp => ?_)⟩; conv => whnf) | (refine ⟨rfl, Rows.idxN (by assumption) (by omega) (fun p y hp hy => ?_)⟩; conv => whnf) | (refine And.intro (show Kd.isBool _ = true from rfl) ?_; conv => whnf) | (refine ⟨rfl, Ints.idx (by assumption) (by omega) (by omega) (fun p hp => ?_)⟩; conv => whnf) | (refine ⟨rfl, Rows.idx (by assumption) (by omega) (by omega) (fun p y hp hy => ?_)⟩; conv => whnf) | (refine HArith.fits (by omega) (by omega) ?_; conv => whnf) | (refine Or.inl (And.intro (show Region.lexB _ _ = true by kernel_rfl) ?_); conv => whnf)))
    refine (impl_isWordOf _ _ _ c v hx hy hc hv).mono ?_
    rintro r h' ⟨rfl, rfl⟩
    (conv => whnf)
    refine HIf.isT (decide_eq_true h15) ?_
    (conv => whnf)
    exact ⟨bEq (by simp only [isWord, hic, show v.length ≤ 15 by omega, decide_true, Bool.true_and]), rfl⟩
  · (repeat (first | (refine ⟨rfl, Ints.len (by assumption) ?_⟩; conv => whnf) | (refine ⟨rfl, Rows.len (by assumption) ?_⟩; conv => whnf) | (refine ⟨rfl, HLen.sl ?_⟩; conv => whnf) | (refine ⟨rfl, At.load (by assumption) ?_⟩; conv => whnf) | (refine HIf.yes ?_; conv => whnf) | (refine HIf.no ?_; conv => whnf) | (refine HIf.isT (by assumption) ?_; conv => whnf) | (refine HIf.isF (by assumption) ?_; conv => whnf) | (refine HIf.decT (by assumption) ?_; conv => whnf) | (refine HIf.decF (by assumption) ?_; conv => whnf) | (refine HIf.beqT (by assumption) ?_; conv => whnf) | (refine HIf.beqF (by assumption) ?_; conv => whnf) | (refine HIf.bneT (by assumption) ?_; conv => whnf) | (refine HIf.bneF (by assumption) ?_; conv => whnf) | (refine ⟨rfl, Ints.idxN (by assumption) (by omega) (fun p hp => ?_)⟩; conv => whnf) | (refine ⟨rfl, Rows.idxN (by assumption) (by omega) (fun p y hp hy => ?_)⟩; conv => whnf) | (refine And.intro (show Kd.isBool _ = true from rfl) ?_; conv => whnf) | (refine ⟨rfl, Ints.idx (by assumption) (by omega) (by omega) (fun p hp => ?_)⟩; conv => whnf) | (refine ⟨rfl, Rows.idx (by assumption) (by omega) (by omega) (fun p y hp hy => ?_)⟩; conv => whnf) | (refine HArith.fits (by omega) (by omega) ?_; conv => whnf) | (refine Or.inl (And.intro (show Region.lexB _ _ = true by kernel_rfl) ?_); conv => whnf)))
    exact ⟨bEq (by simp only [isWord, hic, show ¬ v.length ≤ 15 by omega, decide_false, Bool.and_false, Bool.false_and]), rfl⟩

end Go.Proofs.YtgliajcgcbnemaaGreatDoor.Hx

namespace Go.Proofs.YtgliajcgcbnemaaGreatDoor.Hx
open Go.RowKit
variable {dm : Bool}

/-- Rows from number a to number b (b not) may have changed, no other. -/
def Mid (h h' : Heap) (a b : Nat) : Prop := h'.length = h.length ∧ ∀ q, (q < a ∨ b ≤ q) → h'[q]? = h[q]?

/-- A slice of ints in a row of its own, of number between b and e. -/
def Own (b e : Nat) (h : Heap) (x : H0) (l : List Int) : Prop := ∃ r t, x = .sl r 0 l.length ∧ b ≤ r ∧ r < e ∧ h[r]? = some (.own (l.map ci ++ t))

theorem Own.ints {b e : Nat} {h : Heap} {x : H0} {l : List Int} (H : Own b e h x l) : Ints h x l := by
  obtain ⟨r, t, rfl, _, _, hr⟩ := H
  exact Ints.ofOwn hr

/-- A slice in row r whose parts are the slices in the rows that ρ names. -/
structure MatAt (h : Heap) (r : Nat) (ρ : Nat → Nat) (L : List (List Int)) : Prop where
  outer : ∃ cs, h[r]? = some (.own cs) ∧ L.length ≤ cs.length ∧ ∀ i, i < L.length → cs[i]? = some (.sl (ρ i) 0 (L.getD i []).length)
  inner : ∀ i, i < L.length → ∃ t, h[ρ i]? = some (.own ((L.getD i []).map ci ++ t))
  ne : ∀ i, i < L.length → ρ i ≠ r
  inj : ∀ i j, i < j → j < L.length → ρ i ≠ ρ j

theorem MatAt.rows {h : Heap} {r : Nat} {ρ : Nat → Nat} {L : List (List Int)} (H : MatAt h r ρ L) : Rows h (.sl r 0 L.length) L := by
  obtain ⟨cs, h1, h2, h3⟩ := H.outer
  refine ⟨(cs.drop 0).take L.length, Shows.own r 0 L.length cs h1 (by omega), by simp; omega, fun i y l hy hl => ?_⟩
  have hi : i < L.length := (List.getElem?_eq_some_iff.1 hl).1
  rw [List.drop_zero, List.getElem?_take_of_lt hi, h3 i hi] at hy
  cases hy
  obtain ⟨t, ht⟩ := H.inner i hi
  have e : L.getD i [] = l := by simp [List.getD, hl]
  rw [e] at ht ⊢
  exact Ints.ofOwn ht

def OwnM (b e : Nat) (h : Heap) (x : H0) (L : List (List Int)) : Prop := ∃ r ρ, x = .sl r 0 L.length ∧ b ≤ r ∧ r < e ∧ (∀ i, i < L.length → b ≤ ρ i ∧ ρ i < e) ∧ MatAt h r ρ L

theorem OwnM.rows {b e : Nat} {h : Heap} {x : H0} {L : List (List Int)} (H : OwnM b e h x L) : Rows h x L := by
  obtain ⟨r, ρ, rfl, _, _, _, m⟩ := H
  exact m.rows

theorem MatAt.move {h h' : Heap} {r : Nat} {ρ : Nat → Nat} {L : List (List Int)} (H : MatAt h r ρ L) (k : h'[r]? = h[r]?) (k2 : ∀ i, i < L.length → h'[ρ i]? = h[ρ i]?) : MatAt h' r ρ L := by
  obtain ⟨o, n, e, j⟩ := H
  refine ⟨?_, fun i hi => ?_, e, j⟩
  · rw [k]
    exact o
  · rw [k2 i hi]
    exact n i hi

theorem OwnM.ext {b e : Nat} {h h' : Heap} {x : H0} {L : List (List Int)} (H : OwnM b e h x L) (k : Ext h h') : OwnM b e h' x L := by
  obtain ⟨r, ρ, g1, g2, g3, g4, m⟩ := H
  refine ⟨r, ρ, g1, g2, g3, g4, m.move ?_ (fun i hi => ?_)⟩
  · obtain ⟨cs, h1, _⟩ := m.outer
    exact k.2 r (get_lt h1)
  · obtain ⟨t, h1⟩ := m.inner i hi
    exact k.2 _ (get_lt h1)

/-- How many numbers a list of lists holds. -/
def tot : List (List Int) → Nat
  | [] => 0
  | l :: ls => l.length + tot ls

theorem tot_succ : ∀ (L : List (List Int)) (i : Nat), i < L.length → tot (L.take (i + 1)) = tot (L.take i) + (L.getD i []).length
  | [], i, h => by simp at h
  | l :: ls, 0, _ => by simp [tot]
  | l :: ls, i + 1, h => by
    have := tot_succ ls i (by simpa using h)
    simp only [List.take_succ_cons, tot, List.getD_cons_succ]
    omega

theorem tot_take_le : ∀ (L : List (List Int)) (i : Nat), tot (L.take i) ≤ tot L
  | [], i => by simp
  | l :: ls, 0 => by simp [tot]
  | l :: ls, i + 1 => by
    have := tot_take_le ls i
    simp only [List.take_succ_cons, tot]
    omega

theorem len_le_tot {L : List (List Int)} {i : Nat} (h : i < L.length) : tot (L.take i) + (L.getD i []).length ≤ tot L := by
  rw [← tot_succ L i h]
  exact tot_take_le L _

end Go.Proofs.YtgliajcgcbnemaaGreatDoor.Hx

namespace Go.Proofs.YtgliajcgcbnemaaGreatDoor.Hx
open Go.RowKit
variable {dm : Bool}

/-- The marks of row j. -/
def mrkRow (k : Int) (L : List (List Int)) (j : Nat) : List Int := marks (k + tot (L.take j)) (L.getD j []).length
def mrk (k : Int) (L : List (List Int)) : List (List Int) := (List.range L.length).map (mrkRow k L)

def nilS : H0 := .pl (.slice none 0 0)

end Go.Proofs.YtgliajcgcbnemaaGreatDoor.Hx

namespace Go.Proofs.YtgliajcgcbnemaaGreatDoor.Hx
open Go.RowKit
variable {dm : Bool}

/-- A simple root; nothing where no valid matrix or no point is told. -/
def simpleRoot (c : List (List Int)) (i : Int) : List Int := if isCartan c && isPoint c i then (List.replicate c.length (0 : Int)).set i.toNat 1 else []

theorem Fresh.none (h : Heap) {l : List Int} (e : l = []) : Fresh h (h ++ [.own []]) (.sl h.length 0 0) l := by
  subst e
  exact Fresh.new h []


end Go.Proofs.YtgliajcgcbnemaaGreatDoor.Hx

namespace Go.Proofs.YtgliajcgcbnemaaGreatDoor.Hx
open Go.RowKit
variable {dm : Bool}

theorem HApp.copy {h : Heap} {x : H0} {l : List Int} {K : HV → Heap → Prop} (hx : Ints h x l) (hl : l.length ≤ 2199023255552) (hK : ∀ h' y, Ext h h' → Own h.length h'.length h' y l → K (.s y) h') : HApp (h ++ [.own []]) (.s (.sl h.length 0 0)) (.s x) K := by
  refine ⟨l.map ci, Shows.ext hx (Ext.push _ _), ci_one l, [], rfl, get_new _ _, Nat.zero_le _, Or.inl ⟨by simpa using hl, ?_⟩⟩
  have e1 : 0 + (l.map ci).length = l.length := by simp
  rw [e1]
  refine hK _ _ (((Ext.push h _).set (Nat.le_refl _) _).pushed _) ⟨_, [], rfl, by simp, by simp, ?_⟩
  rw [List.append_nil, List.take_nil, List.nil_append]
  simp

/-- A literal of one number, appended to what one has. -/
theorem HApp.snoc {hb h : Heap} {y : H0} {l : List Int} {v : Int} {K : HV → Heap → Prop} (E : Ext hb h) (H : Own hb.length h.length h y l) (hl : l.length < 2199023255552) (hK : ∀ h' y', Ext hb h' → Own hb.length h'.length h' y' (l ++ [v]) → K (.s y') h') :
    HApp (h ++ [.own [ci v]]) (.s y) (.s (.sl h.length 0 1)) K := by
  obtain ⟨r, t, rfl, h1, h2, hr⟩ := H
  refine ⟨[ci v], ?_, by simp [H0.one, Value.oneCell'], l.map ci ++ t, rfl, (Ext.push h _).row hr, by simp, Or.inl ⟨by simp; omega, ?_⟩⟩
  · have := Shows.own h.length 0 1 _ (get_new h (.own [ci v])) (by simp)
    simpa using this
  have e1 : l.length + [ci v].length = (l ++ [v]).length := by simp
  have e2 : (l.map ci ++ t).take l.length ++ [ci v] = (l ++ [v]).map ci := by rw [List.take_append_of_le_length (by simp), List.take_of_length_le (by simp)]; simp
  rw [e1, e2]
  refine hK _ _ (((E.pushed _).set h1 _).pushed _) ⟨_, [], rfl, by have := E.1; simp; omega, by simp, ?_⟩
  rw [List.append_nil]
  simp

theorem HLit.one {z : Value} {v : Int} {h : Heap} {K : HV → Heap → Prop} (hK : K (.s (.sl h.length 0 1)) (h ++ [.own [ci v]])) : HLit z 1 (some [ci v]) h K := ⟨[ci v], rfl, rfl, by omega, by simp [H0.one, Value.oneCell'], hK⟩

theorem Fresh.of {h h' : Heap} {x : H0} {l : List Int} (E : Ext h h') (H : Own h.length h'.length h' x l) : Fresh h h' x l := by
  obtain ⟨r, t, g1, g2, _, g4⟩ := H
  exact ⟨E, r, t, g1, g2, g4⟩

/-- The sum of the first products. -/
def dotTo (a b : List Int) : Nat → Int
  | 0 => 0
  | k + 1 => w64 (dotTo a b k + w64 (a.getD k 0 * b.getD k 0))

def mirror (c : List (List Int)) (i : Nat) (r : List Int) : List Int := r.set i (w64 (r.getD i 0 - dotTo (c.getD i []) r r.length))

theorem Own.store {hb h : Heap} {y : H0} {l : List Int} {i : Nat} {v : Int} (E : Ext hb h) (H : Own hb.length h.length h y l) (hi : i < l.length) :
    ∃ r cs, y = .sl r 0 l.length ∧ h[r]? = some (.own cs) ∧ i < cs.length ∧ Ext hb (h.set r (.own (cs.set i (ci v)))) ∧ Own hb.length (h.set r (.own (cs.set i (ci v)))).length (h.set r (.own (cs.set i (ci v)))) y (l.set i v) := by
  obtain ⟨r, t, rfl, h1, h2, hr⟩ := H
  refine ⟨r, _, rfl, hr, by simp; omega, E.set h1 _, r, t, by simp, h1, by simp; omega, ?_⟩
  rw [List.getElem?_set_self h2, List.set_append_left _ _ (by simpa using hi), List.map_set]


end Go.Proofs.YtgliajcgcbnemaaGreatDoor.Hx

namespace Go.Proofs.YtgliajcgcbnemaaGreatDoor.Hx
open Go.RowKit
variable {dm : Bool}

def reflectRoot (c : List (List Int)) (i : Int) (r : List Int) : List Int := if isCartan c && decide (r.length = c.length) && isPoint c i then mirror c i.toNat r else r

/-- A word applied to a root, from its end. -/
def actR (c : List (List Int)) : List Int → List Int → List Int
  | [], r => r
  | i :: w, r => mirror c i.toNat (actR c w r)

def actOnRoot (c : List (List Int)) (w r : List Int) : List Int := if isWord c w && decide (r.length = c.length) then actR c w r else r

theorem word_cartan {c : List (List Int)} {w : List Int} (h : isWord c w = true) : Cartan c ∧ w.length ≤ 15 ∧ lettersOk c w = true := by
  simp only [isWord, Bool.and_eq_true, decide_eq_true_eq] at h
  exact ⟨(isCartan_iff c).1 h.1.1, h.1.2, h.2⟩

def wrow (c : List (List Int)) (r : List Int) (k : Nat) : Int := dotTo (c.getD k []) r c.length
def weightOf (c : List (List Int)) (r : List Int) : List Int := if isCartan c && decide (r.length = c.length) then (List.range c.length).map (wrow c r) else []

theorem eq_nat {n : Int} (h : 0 ≤ n) : ∃ k : Nat, n = k := ⟨n.toNat, by omega⟩


end Go.Proofs.YtgliajcgcbnemaaGreatDoor.Hx

namespace Go.Proofs.YtgliajcgcbnemaaGreatDoor.Hx
open Go.RowKit
variable {dm : Bool}

theorem Own.none (h : Heap) : Own h.length (h ++ [Row.own []]).length (h ++ [Row.own []]) (.sl h.length 0 0) [] := ⟨h.length, [], rfl, Nat.le_refl _, by simp, get_new _ _⟩
end Go.Proofs.YtgliajcgcbnemaaGreatDoor.Hx

namespace Go.Proofs.YtgliajcgcbnemaaGreatDoor.Hx
open Go.RowKit
variable {dm : Bool}

/-- What a letter of a word is. -/
theorem letter {c : List (List Int)} {w : List Int} (h : lettersOk c w = true) {k : Nat} (hk : k < w.length) : ∃ i : Nat, w.getD k 0 = i ∧ i < c.length := by
  have := letters_get h hk
  exact ⟨(w.getD k 0).toNat, by omega, by omega⟩

def intAt (vs : List HV) (k : Nat) : Int := match vs[k]? with
  | some (.s (.pl (.int _ i))) => i
  | _ => 0


end Go.Proofs.YtgliajcgcbnemaaGreatDoor.Hx

namespace Go.Proofs.YtgliajcgcbnemaaGreatDoor.Hx
open Go.RowKit
variable {dm : Bool}

def reflNew (c : List (List Int)) (i : Nat) (v : List Int) (k : Nat) : Int := w64 (v.getD k 0 - w64 (v.getD i 0 * ent c k i))
/-- The first k numbers reflected, the others not. -/
def reflTo (c : List (List Int)) (i : Nat) (v : List Int) (k : Nat) : List Int := (List.range v.length).map fun j => if j < k then reflNew c i v j else v.getD j 0
def reflW (c : List (List Int)) (i : Nat) (v : List Int) : List Int := (List.range v.length).map (reflNew c i v)

theorem reflTo_length (c : List (List Int)) (i : Nat) (v : List Int) (k : Nat) : (reflTo c i v k).length = v.length := by simp [reflTo]
theorem reflW_length (c : List (List Int)) (i : Nat) (v : List Int) : (reflW c i v).length = v.length := by simp [reflW]
theorem reflTo_none (c : List (List Int)) (i : Nat) (v : List Int) : reflTo c i v 0 = v := by
  apply List.ext_getElem (by simp [reflTo])
  intro k h1 h2
  simp [reflTo, List.getD, h2]
theorem reflTo_all (c : List (List Int)) (i : Nat) (v : List Int) : reflTo c i v v.length = reflW c i v := by
  apply List.map_congr_left
  intro j hj
  rw [if_pos (List.mem_range.1 hj)]
theorem reflTo_get (c : List (List Int)) (i : Nat) (v : List Int) (k : Nat) (h : k < v.length) : (reflTo c i v k).getD k 0 = v.getD k 0 := by
  simp [reflTo, List.getD, h]
theorem reflTo_succ (c : List (List Int)) (i : Nat) (v : List Int) (k : Nat) : (reflTo c i v k).set k (reflNew c i v k) = reflTo c i v (k + 1) := by
  apply List.ext_getElem (by simp [reflTo])
  intro j h1 h2
  simp only [reflTo, List.getElem_set, List.getElem_map, List.getElem_range]
  by_cases hj : k = j
  · subst hj
    simp
  · rw [if_neg hj]
    by_cases hk : j < k
    · rw [if_pos hk, if_pos (by omega)]
    · rw [if_neg hk, if_neg (by omega)]

def actW (c : List (List Int)) : List Int → List Int → List Int
  | [], v => v
  | i :: w, v => reflW c i.toNat (actW c w v)

theorem actW_length (c : List (List Int)) : ∀ (w v : List Int), (actW c w v).length = v.length
  | [], _ => rfl
  | i :: w, v => by rw [actW, reflW_length, actW_length c w v]

theorem actW_drop (c : List (List Int)) (w v : List Int) {k : Nat} (h : k < w.length) : actW c (w.drop k) v = reflW c (w.getD k 0).toNat (actW c (w.drop (k + 1)) v) := by
  rw [List.drop_eq_getElem_cons h, actW]
  simp [List.getD, h]

theorem actW_end (c : List (List Int)) (w v : List Int) : actW c (w.drop w.length) v = v := by rw [List.drop_length]; rfl
theorem actW_all (c : List (List Int)) (w v : List Int) : actW c (w.drop 0) v = actW c w v := by rw [List.drop_zero]

def imageOf (c : List (List Int)) (w : List Int) : List Int := actW c w (List.replicate c.length 1)
theorem imageOf_length (c : List (List Int)) (w : List Int) : (imageOf c w).length = c.length := by rw [imageOf, actW_length, List.length_replicate]

theorem ent_eq (c : List (List Int)) (k i : Nat) : (c.getD k []).getD i 0 = ent c k i := rfl
theorem refl_snoc (c : List (List Int)) (i : Nat) (v : List Int) (k : Nat) : (List.range (k + 1)).map (reflNew c i v) = (List.range k).map (reflNew c i v) ++ [reflNew c i v k] := by rw [List.range_succ, List.map_append]; rfl
theorem refl_len (c : List (List Int)) (i : Nat) (v : List Int) (k : Nat) : ((List.range k).map (reflNew c i v)).length = k := by simp
theorem ones_snoc (k : Nat) : List.replicate (k + 1) (1 : Int) = List.replicate k 1 ++ [1] := by rw [List.replicate_succ', ]
theorem ones_len (k : Nat) : (List.replicate k (1 : Int)).length = k := by simp


theorem spec_l6Reflect (h : Heap) (x y : H0) (c : List (List Int)) (i : Nat) (v : List Int) (hx : Rows h x c) (hy : Ints h y v) (hC : Cartan c) (hi : i < c.length) (hl : v.length = c.length) :
    HCalls dm Tryz.prog 115 [.s x, I i, .s y] h (fun r h' => ∃ y', r = .s y' ∧ Fresh h h' y' (reflW c i v)) := by
  have h4 := hC.le
  have E0 := Ext.push h [Row.own []]
  have O0 := Own.none h
  refine calls_of_hFun (m := 0) kd_ok mixed Tryz.func115 rfl (by kernel_rfl) rfl rfl (of_decide_eq_true rfl) ?_; unfold hFun; (conv => whnf)
  refine HLit.empty ?_
  (conv => whnf)
  refine HLoop.intro [8, 7] [10, 11, 12, 13, 16, 17, 18, 19, 20, 21, 22, 23, 24, 25, 26, 27, 28, 29, 30, 31, 32, 33, 34, 35, 7, 14, 15, 8] (by kernel_rfl) (by kernel_rfl) (fun vs h' => ∃ (k : Nat) (z : H0), vs = [I k, .s z] ∧ k ≤ v.length ∧ Ext h h' ∧ Own h.length h'.length h' z ((List.range k).map (reflNew c i v))) (fun vs _ => v.length - natAt vs 0) ⟨0, _, rfl, by omega, E0, O0⟩ ?_
  rintro vs h' ⟨k, z, rfl, hk, E, O⟩
  have hx := hx.ext E
  have hy := hy.ext E
  (conv => whnf)
  refine ⟨rfl, hy.len ?_⟩
  (conv => whnf)
  refine HIf.dec (fun hlt => ?_) (fun hge => ?_)
  · have hrow := hC.row k (by omega)
    (conv => whnf)
    refine Or.inr (Or.inr (Or.inl (Exists.intro 19 (Exists.intro [0, 1, 2, 3, 4, 5, 6, 7, 8, 9, 10, 11, 12, 13, 14, 15, 16, 17] (Exists.intro [18, 19, 20] (And.intro (show heldOk _ _ _ _ = true by kernel_rfl) ?_)))))); (conv => whnf)
    refine ⟨rfl, Ints.idxN hy (by omega) (fun p hp => ?_)⟩
    (conv => whnf)
    refine ⟨rfl, hp.load ?_⟩
    (conv => whnf)
    refine ⟨rfl, Ints.idxN hy (by omega) (fun p1 hp1 => ?_)⟩
    (conv => whnf)
    refine ⟨rfl, hp1.load ?_⟩
    (conv => whnf)
    refine ⟨rfl, Rows.idxN hx (by omega) (fun p2 q hp2 hq => ?_)⟩
    (conv => whnf)
    refine ⟨rfl, hp2.load ?_⟩
    (conv => whnf)
    refine ⟨rfl, Ints.idxN hq (by omega) (fun p3 hp3 => ?_)⟩
    (conv => whnf)
    refine ⟨rfl, hp3.load ?_⟩
    rw [ent_eq]
    (conv => whnf)
    refine HArith.any ?_
    (conv => whnf)
    refine HArith.any ?_
    (conv => whnf)
    refine HLit.one (v := reflNew c i v k) ?_
    (conv => whnf)
    refine ⟨rfl, rfl, HApp.snoc E O (by rw [refl_len]; omega) (fun h2 y2 E2 O2 => ?_)⟩
    rw [← refl_snoc] at O2
    (conv => whnf)
    refine HArith.fits (by omega) (by omega) ?_
    (conv => whnf)
    exact ⟨⟨k + 1, y2, rfl, by omega, E2, O2⟩, by show v.length - (k + 1) < v.length - k; omega⟩
  · (conv => whnf)
    have e : k = v.length := by omega
    subst e
    exact ⟨_, rfl, Fresh.of E O⟩

theorem impl_ones (h : Heap) (n : Nat) (hn : n ≤ 1048576) : HCalls dm Tryz.prog 129 [I n] h (fun r h' => ∃ y, r = .s y ∧ Fresh h h' y (List.replicate n 1)) := by
  have E0 := Ext.push h [Row.own []]
  have O0 := Own.none h
  refine calls_of_hFun (m := 0) kd_ok mixed Tryz.func129 rfl (by kernel_rfl) rfl rfl (of_decide_eq_true rfl) ?_; unfold hFun; (conv => whnf)
  refine HLit.empty ?_
  (conv => whnf)
  refine HLoop.intro [6, 3] [7, 8, 9, 10, 3, 11, 6] (by kernel_rfl) (by kernel_rfl) (fun vs h' => ∃ (k : Nat) (z : H0), vs = [I k, .s z] ∧ k ≤ n ∧ Ext h h' ∧ Own h.length h'.length h' z (List.replicate k 1)) (fun vs _ => n - natAt vs 0) ⟨0, _, rfl, by omega, E0, O0⟩ ?_
  rintro vs h' ⟨k, z, rfl, hk, E, O⟩
  (conv => whnf)
  refine HIf.dec (fun hlt => ?_) (fun hge => ?_)
  · (conv => whnf)
    refine HLit.one ?_
    (conv => whnf)
    refine ⟨rfl, rfl, HApp.snoc E O (by rw [ones_len]; omega) (fun h2 y2 E2 O2 => ?_)⟩
    rw [← ones_snoc] at O2
    (conv => whnf)
    refine HArith.fits (by omega) (by omega) ?_
    (conv => whnf)
    exact ⟨⟨k + 1, y2, rfl, by omega, E2, O2⟩, by show n - (k + 1) < n - k; omega⟩
  · (conv => whnf)
    have e : k = n := by omega
    subst e
    exact ⟨_, rfl, Fresh.of E O⟩

end Go.Proofs.YtgliajcgcbnemaaGreatDoor.Hx

namespace Go.Proofs.YtgliajcgcbnemaaGreatDoor.Hx
open Go.RowKit
variable {dm : Bool}

theorem impl_reflected (hb h : Heap) (x y : H0) (c : List (List Int)) (i : Nat) (v : List Int) (hx : Rows hb x c) (E : Ext hb h) (O : Own hb.length h.length h y v) (hC : Cartan c) (hi : i < c.length) (hl : v.length = c.length) :
    HCalls dm Tryz.prog 114 [.s x, I i, .s y] h (fun r h' => r = .tup [] ∧ Ext hb h' ∧ Own hb.length h'.length h' y (reflW c i v)) := by
  have h4 := hC.le
  refine calls_of_hFun (m := 0) kd_ok mixed Tryz.func114 rfl (by kernel_rfl) rfl rfl (of_decide_eq_true rfl) ?_; unfold hFun; (conv => whnf)
  refine ⟨rfl, Ints.idxN O.ints (by omega) (fun p hp => ?_)⟩
  (conv => whnf)
  refine ⟨rfl, hp.load ?_⟩
  (conv => whnf)
  refine ⟨rfl, O.ints.len ?_⟩
  (conv => whnf)
  refine HLoop.intro [14] [15, 16, 7, 17, 18, 19, 20, 21, 22, 23, 24, 25, 26, 27, 28, 29, 30, 31, 32, 14] (by kernel_rfl) (by kernel_rfl) (fun vs h' => ∃ k : Nat, vs = [I k] ∧ k ≤ v.length ∧ Ext hb h' ∧ Own hb.length h'.length h' y (reflTo c i v k)) (fun vs _ => v.length - natAt vs 0) ⟨0, rfl, by omega, E, by rw [reflTo_none]; exact O⟩ ?_
  rintro vs h' ⟨k, rfl, hk, E, O⟩
  have hx := hx.ext E
  have hlen := reflTo_length c i v k
  (conv => whnf)
  refine HIf.dec (fun hlt => ?_) (fun hge => ?_)
  · have hrow := hC.row k (by omega)
    have hget := reflTo_get c i v k (by omega)
    have hsucc := reflTo_succ c i v k
    obtain ⟨q, cs, rfl, hq, hql, E2, O2⟩ := Own.store (v := reflNew c i v k) E O (show k < (reflTo c i v k).length by omega)
    rw [hsucc] at O2
    (conv => whnf)
    refine Or.inr (Or.inl (Exists.intro 15 (And.intro (show Region.lexTailB _ _ _ = true by kernel_rfl) ?_))); (conv => whnf)
    refine ⟨rfl, Ints.idxN O.ints (by omega) (fun p hp => ?_)⟩
    rw [hget] at hp
    (conv => whnf)
    refine ⟨rfl, hp.load ?_⟩
    (conv => whnf)
    refine ⟨rfl, Rows.idxN hx (by omega) (fun p2 z hp2 hz => ?_)⟩
    (conv => whnf)
    refine ⟨rfl, hp2.load ?_⟩
    (conv => whnf)
    refine ⟨rfl, Ints.idxN hz (by omega) (fun p3 hp3 => ?_)⟩
    (conv => whnf)
    refine ⟨rfl, hp3.load ?_⟩
    rw [ent_eq]
    (conv => whnf)
    refine HArith.any ?_
    (conv => whnf)
    refine HArith.any ?_
    (conv => whnf)
    refine ⟨rfl, HIdx.sl (by omega) (by omega) ?_⟩
    (conv => whnf)
    refine ⟨rfl, HStore.own hq (by omega) rfl ?_⟩
    (conv => whnf)
    refine HArith.fits (by omega) (by omega) ?_
    (conv => whnf)
    have e0 : 0 + (k : Int).toNat = k := by omega
    rw [e0]
    exact ⟨⟨k + 1, rfl, by omega, E2, O2⟩, by show v.length - (k + 1) < v.length - k; omega⟩
  · have e : k = v.length := by omega
    subst e
    rw [reflTo_all] at O
    (conv => whnf)
    exact ⟨rfl, E, O⟩

end Go.Proofs.YtgliajcgcbnemaaGreatDoor.Hx
