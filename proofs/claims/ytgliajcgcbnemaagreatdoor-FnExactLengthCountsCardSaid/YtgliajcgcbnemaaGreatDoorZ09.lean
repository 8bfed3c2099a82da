/-
  Contracts: IsCartan of the reference; points, words, weights, of the program and of the reference.
  Contracts: weights and words, of the program and of the reference.
  The contracts of the laws' own helpers over slices of slices of ints: sizes, copies, comparisons, marks; and what is made anew, with bounds on where it lies.
-/
import Derived.Test.YtgliajcgcbnemaaGreatDoorZ08
namespace Go.Proofs.YtgliajcgcbnemaaGreatDoor.Hx
open Go.RowKit
variable {dm : Bool}

theorem inRange_iff {c : List (List Int)} {x : Int} : isPoint c x = (decide (0 ≤ x) && decide (x < c.length)) := rfl
theorem isPoint_l1 (c : List (List Int)) (x : Int) : (decide (0 ≤ x) && decide (x ≤ (c.length : Int) - 1)) = isPoint c x := by
  rw [inRange_iff]
  congr 1
  exact decide_eq_decide.2 (by omega)

theorem isCartan_len (c : List (List Int)) (hs : square c = true) (hi : cartIn c = true) : (decide ((1 : Int) ≤ c.length) && decide ((c.length : Int) ≤ 4)) = isCartan c := by
  simp only [isCartan, hs, hi, Bool.and_true]
  congr 1 <;> exact decide_eq_decide.2 (by omega)

theorem bEq {b b' : Bool} (h : b' = b) : B b = B b' := by rw [h]
theorem point_of {c : List (List Int)} {x : Int} (h : isPoint c x = true) : 0 ≤ x ∧ x < c.length := by simpa [isPoint, inRange] using h
theorem spec_IsCartan (h : Heap) (x : H0) (c : List (List Int)) (hx : Rows h x c) (hc : c.length ≤ 2199023255552) : HCalls dm Tryz.prog 52 [.s x] h (fun r h' => r = B (isCartan c) ∧ h' = h) := by
  refine calls_of_hFun (m := 0) kd_ok mixed Tryz.func52 rfl (by kernel_rfl) rfl rfl (of_decide_eq_true rfl) ?_; unfold hFun; (conv => whnf)
  have fin : ∀ (b : Bool), isCartan c = b → B b = B (isCartan c) := fun b hb => by rw [hb]
  refine HLoop.intro [3] [6, 7, 8, 9, 12, 13, 14, 15, 16, 17, 18, 19, 2, 10, 11, 3] (by kernel_rfl) (by kernel_rfl) (fun vs h' => ∃ i : Nat, vs = [I i] ∧ h' = h ∧ i ≤ c.length ∧ ∀ j, j < i → (c.getD j []).length = c.length) (fun vs _ => c.length - natAt vs 0) ⟨0, rfl, rfl, by omega, fun j hj => by omega⟩ ?_
  rintro vs h' ⟨i, rfl, rfl, hi, hall⟩
  (conv => whnf)
  (repeat (first | (refine ⟨rfl, Ints.len (by assumption) ?_⟩; conv => whnf) | (refine ⟨rfl, Rows.len (by assumption) ?_⟩; conv => whnf) | (refine ⟨rfl, HLen.sl ?_⟩; conv => whnf) | (refine ⟨rfl, At.load (by assumption) ?_⟩; conv => whnf) | (refine HIf.yes ?_; conv => whnf) | (refine HIf.no ?_; conv => whnf) | (refine HIf.isT (by assumption) ?_; conv => whnf) | (refine HIf.isF (by assumption) ?_; conv => whnf) | (refine HIf.decT (by assumption) ?_; conv => whnf) | (refine HIf.decF (by assumption) ?_; conv => whnf) | (refine HIf.beqT (by assumption) ?_; conv => whnf) | (refine HIf.beqF (by assumption) ?_; conv => whnf) | (refine HIf.bneT (by assumption) ?_; conv => whnf) | (refine HIf.bneF (by assumption) ?_; conv => whnf) | (refine ⟨rfl, Ints.idxN (by assumption) (by omega) (fun p hp => ?_)⟩; conv => whnf) | (refine ⟨rfl, Rows.idxN (by assumption) (by omega) (fun p y hp hy => ?_)⟩; conv => whnf) | (refine And.intro (show Kd.isBool _ = true from rfl) ?_; conv => whnf) | (refine ⟨rfl, Ints.idx (by assumption) (by omega) (by omega) (fun p hp => ?_)⟩; conv => whnf) | (refine ⟨rfl, Rows.idx (by assumption) (by omega) (by omega) (fun p y hp hy => ?_)⟩; conv => whnf) | (refine HArith.fits (by omega) (by omega) ?_; conv => whnf) | (refine Or.inl (And.intro (show Region.lexB _ _ = true by kernel_rfl) ?_); conv => whnf)))
  refine HIf.dec (fun hlt => ?_) (fun hge => ?_)
  · (conv => whnf)
    (repeat (first | (refine ⟨rfl, Ints.len (by assumption) ?_⟩; conv => whnf) | (refine ⟨rfl, Rows.len (by assumption) ?_⟩; conv => whnf) | (refine ⟨rfl, HLen.sl ?_⟩; conv => whnf) | (refine ⟨rfl, At.load (by assumption) ?_⟩; conv => whnf) | (refine HIf.yes ?_; conv => whnf) | (refine HIf.no ?_; conv => whnf) | (refine HIf.isT (by assumption) ?_; conv => whnf) | (refine HIf.isF (by assumption) ?_; conv => whnf) | (refine HIf.decT (by assumption) ?_; conv => whnf) | (refine HIf.decF (by assumption) ?_; conv => whnf) | (refine HIf.beqT (by assumption) ?_; conv => whnf) | (refine HIf.beqF (by assumption) ?_; conv => whnf) | (refine HIf.bneT (by assumption) ?_; conv => whnf) | (refine HIf.bneF (by assumption) ?_; conv => whnf) | (refine ⟨rfl, Ints.idxN (by assumption) (by omega) (fun p hp => ?_)⟩; conv => whnf) | (refine ⟨rfl, Rows.idxN (by assumption) (by omega) (fun p y hp hy => ?_)⟩; conv => whnf) | (refine And.intro (show Kd.isBool _ = true from rfl) ?_; conv => whnf) | (refine ⟨rfl, Ints.idx (by assumption) (by omega) (by omega) (fun p hp => ?_)⟩; conv => whnf) | (refine ⟨rfl, Rows.idx (by assumption) (by omega) (by omega) (fun p y hp hy => ?_)⟩; conv => whnf) | (refine HArith.fits (by omega) (by omega) ?_; conv => whnf) | (refine Or.inl (And.intro (show Region.lexB _ _ = true by kernel_rfl) ?_); conv => whnf)))
    refine HIf.bne (fun hne => ?_) (fun he => ?_)
    · (conv => whnf)
      exact ⟨fin false (by simp [isCartan, not_square (c := c) (i := i) (by omega) (by omega)]), rfl⟩
    · (conv => whnf)
      (repeat (first | (refine ⟨rfl, Ints.len (by assumption) ?_⟩; conv => whnf) | (refine ⟨rfl, Rows.len (by assumption) ?_⟩; conv => whnf) | (refine ⟨rfl, HLen.sl ?_⟩; conv => whnf) | (refine ⟨rfl, At.load (by assumption) ?_⟩; conv => whnf) | (refine HIf.yes ?_; conv => whnf) | (refine HIf.no ?_; conv => whnf) | (refine HIf.isT (by assumption) ?_; conv => whnf) | (refine HIf.isF (by assumption) ?_; conv => whnf) | (refine HIf.decT (by assumption) ?_; conv => whnf) | (refine HIf.decF (by assumption) ?_; conv => whnf) | (refine HIf.beqT (by assumption) ?_; conv => whnf) | (refine HIf.beqF (by assumption) ?_; conv => whnf) | (refine HIf.bneT (by assumption) ?_; conv => whnf) | (refine HIf.bneF (by assumption) ?_; conv => whnf) | (refine ⟨rfl, Ints.idxN (by assumption) (by omega) (fun p hp => ?_)⟩; conv => whnf) | (refine ⟨rfl, Rows.idxN (by assumption) (by omega) (fun p y hp hy => ?_)⟩; conv => whnf) | (refine And.intro (show Kd.isBool _ = true from rfl) ?_; conv => whnf) | (refine ⟨rfl, Ints.idx (by assumption) (by omega) (by omega) (fun p hp => ?_)⟩; conv => whnf) | (refine ⟨rfl, Rows.idx (by assumption) (by omega) (by omega) (fun p y hp hy => ?_)⟩; conv => whnf) | (refine HArith.fits (by omega) (by omega) ?_; conv => whnf) | (refine Or.inl (And.intro (show Region.lexB _ _ = true by kernel_rfl) ?_); conv => whnf)))
      refine ⟨⟨i + 1, rfl, rfl, by omega, fun j hj => ?_⟩, by show c.length - (i + 1) < c.length - i; omega⟩
      by_cases hji : j = i
      · subst hji; omega
      · exact hall j (by omega)
  have hrow : ∀ j, j < c.length → (c.getD j []).length = c.length := fun j hj => hall j (by omega)
  have hsq := square_of hrow
  (conv => whnf)
  refine HLoop.intro [4] [20, 21, 22, 23, 5, 26, 27, 28, 29, 32, 33, 34, 35, 36, 37, 38, 39, 40, 41, 42, 43, 44, 45, 46, 47, 48, 49, 50, 51, 52, 53, 54, 55, 56, 57, 58, 59, 60, 61, 62, 63, 64, 65, 66, 67, 68, 69, 70, 71, 72, 73, 74, 75, 76, 77, 78, 79, 2, 30, 31, 5, 24, 25, 4] (by kernel_rfl) (by kernel_rfl) (fun vs h'' => ∃ i : Nat, vs = [I i] ∧ h'' = h' ∧ i ≤ c.length ∧ ∀ k, k < i → ∀ j, j < c.length → cartBad c k j = false) (fun vs _ => c.length - natAt vs 0) ⟨0, rfl, rfl, by omega, fun j hj => by omega⟩ ?_
  rintro vs h'' ⟨i, rfl, rfl, hi, hall⟩
  (conv => whnf)
  (repeat (first | (refine ⟨rfl, Ints.len (by assumption) ?_⟩; conv => whnf) | (refine ⟨rfl, Rows.len (by assumption) ?_⟩; conv => whnf) | (refine ⟨rfl, HLen.sl ?_⟩; conv => whnf) | (refine ⟨rfl, At.load (by assumption) ?_⟩; conv => whnf) | (refine HIf.yes ?_; conv => whnf) | (refine HIf.no ?_; conv => whnf) | (refine HIf.isT (by assumption) ?_; conv => whnf) | (refine HIf.isF (by assumption) ?_; conv => whnf) | (refine HIf.decT (by assumption) ?_; conv => whnf) | (refine HIf.decF (by assumption) ?_; conv => whnf) | (refine HIf.beqT (by assumption) ?_; conv => whnf) | (refine HIf.beqF (by assumption) ?_; conv => whnf) | (refine HIf.bneT (by assumption) ?_; conv => whnf) | (refine HIf.bneF (by assumption) ?_; conv => whnf) | (refine ⟨rfl, Ints.idxN (by assumption) (by omega) (fun p hp => ?_)⟩; conv => whnf) | (refine ⟨rfl, Rows.idxN (by assumption) (by omega) (fun p y hp hy => ?_)⟩; conv => whnf) | (refine And.intro (show Kd.isBool _ = true from rfl) ?_; conv => whnf) | (refine ⟨rfl, Ints.idx (by assumption) (by omega) (by omega) (fun p hp => ?_)⟩; conv => whnf) | (refine ⟨rfl, Rows.idx (by assumption) (by omega) (by omega) (fun p y hp hy => ?_)⟩; conv => whnf) | (refine HArith.fits (by omega) (by omega) ?_; conv => whnf) | (refine Or.inl (And.intro (show Region.lexB _ _ = true by kernel_rfl) ?_); conv => whnf)))
  refine HIf.dec (fun hlt => ?_) (fun hge => ?_)
  · (conv => whnf)
    refine HLoop.intro [5] [26, 27, 28, 29, 32, 33, 34, 35, 36, 37, 38, 39, 40, 41, 42, 43, 44, 45, 46, 47, 48, 49, 50, 51, 52, 53, 54, 55, 56, 57, 58, 59, 60, 61, 62, 63, 64, 65, 66, 67, 68, 69, 70, 71, 72, 73, 74, 75, 76, 77, 78, 79, 2, 30, 31, 5] (by kernel_rfl) (by kernel_rfl) (fun vs h' => ∃ j : Nat, vs = [I j] ∧ h' = h'' ∧ j ≤ c.length ∧ ∀ k, k < j → cartBad c i k = false) (fun vs _ => c.length - natAt vs 0) ⟨0, rfl, rfl, by omega, fun j hj => by omega⟩ ?_
    rintro vs h' ⟨j, rfl, rfl, hj, hin⟩
    (conv => whnf)
    (repeat (first | (refine ⟨rfl, Ints.len (by assumption) ?_⟩; conv => whnf) | (refine ⟨rfl, Rows.len (by assumption) ?_⟩; conv => whnf) | (refine ⟨rfl, HLen.sl ?_⟩; conv => whnf) | (refine ⟨rfl, At.load (by assumption) ?_⟩; conv => whnf) | (refine HIf.yes ?_; conv => whnf) | (refine HIf.no ?_; conv => whnf) | (refine HIf.isT (by assumption) ?_; conv => whnf) | (refine HIf.isF (by assumption) ?_; conv => whnf) | (refine HIf.decT (by assumption) ?_; conv => whnf) | (refine HIf.decF (by assumption) ?_; conv => whnf) | (refine HIf.beqT (by assumption) ?_; conv => whnf) | (refine HIf.beqF (by assumption) ?_; conv => whnf) | (refine HIf.bneT (by assumption) ?_; conv => whnf) | (refine HIf.bneF (by assumption) ?_; conv => whnf) | (refine ⟨rfl, Ints.idxN (by assumption) (by omega) (fun p hp => ?_)⟩; conv => whnf) | (refine ⟨rfl, Rows.idxN (by assumption) (by omega) (fun p y hp hy => ?_)⟩; conv => whnf) | (refine And.intro (show Kd.isBool _ = true from rfl) ?_; conv => whnf) | (refine ⟨rfl, Ints.idx (by assumption) (by omega) (by omega) (fun p hp => ?_)⟩; conv => whnf) | (refine ⟨rfl, Rows.idx (by assumption) (by omega) (by omega) (fun p y hp hy => ?_)⟩; conv => whnf) | (refine HArith.fits (by omega) (by omega) ?_; conv => whnf) | (refine Or.inl (And.intro (show Region.lexB _ _ = true by kernel_rfl) ?_); conv => whnf)))
    refine HIf.dec (fun hlj => ?_) (fun hgj => ?_)
    · have hri := hrow i (by omega)
      have hrj := hrow j (by omega)
      (conv => whnf)
      refine Or.inl (And.intro (show Region.lexB _ _ = true by kernel_rfl) ?_); (conv => whnf)
      by_cases e1 : (i : Int) = j
      · have e1' : ¬ (i : Int) ≠ j := fun h => h e1
        (repeat' (first | (refine HCallQ.of _ (spec_l1In _ _ _ _) (fun x h' e => e.1) ?_; conv => whnf) | (refine ⟨rfl, Ints.len (by assumption) ?_⟩; conv => whnf) | (refine ⟨rfl, Rows.len (by assumption) ?_⟩; conv => whnf) | (refine ⟨rfl, HLen.sl ?_⟩; conv => whnf) | (refine ⟨rfl, At.load (by assumption) ?_⟩; conv => whnf) | (refine HIf.yes ?_; conv => whnf) | (refine HIf.no ?_; conv => whnf) | (refine HIf.isT (by assumption) ?_; conv => whnf) | (refine HIf.isF (by assumption) ?_; conv => whnf) | (refine HIf.decT (by assumption) ?_; conv => whnf) | (refine HIf.decF (by assumption) ?_; conv => whnf) | (refine HIf.beqT (by assumption) ?_; conv => whnf) | (refine HIf.beqF (by assumption) ?_; conv => whnf) | (refine HIf.bneT (by assumption) ?_; conv => whnf) | (refine HIf.bneF (by assumption) ?_; conv => whnf) | (refine ⟨rfl, Ints.idxN (by assumption) (by omega) (fun p hp => ?_)⟩; conv => whnf) | (refine ⟨rfl, Rows.idxN (by assumption) (by omega) (fun p y hp hy => ?_)⟩; conv => whnf) | (refine And.intro (show Kd.isBool _ = true from rfl) ?_; conv => whnf) | (refine ⟨rfl, Ints.idx (by assumption) (by omega) (by omega) (fun p hp => ?_)⟩; conv => whnf) | (refine ⟨rfl, Rows.idx (by assumption) (by omega) (by omega) (fun p y hp hy => ?_)⟩; conv => whnf) | (refine HArith.fits (by omega) (by omega) ?_; conv => whnf) | (refine Or.inl (And.intro (show Region.lexB _ _ = true by kernel_rfl) ?_); conv => whnf) | (refine HIf.beq (fun _ => ?_) (fun _ => ?_) <;> (conv => whnf)) | (refine HIf.bne (fun _ => ?_) (fun _ => ?_) <;> (conv => whnf)) | (refine HIf.dec (fun _ => ?_) (fun _ => ?_) <;> (conv => whnf)) | (refine HIf.split (fun _ => ?_) (fun _ => ?_) <;> (conv => whnf))))
        all_goals first
          | (refine ⟨fin false ?_, rfl⟩
             simp only [isCartan, Bool.and_eq_false_iff]
             refine Or.inr (not_cartIn (i := i) (j := j) (by omega) (by omega) ?_)
             simp_all [cartBad, ent]
             try omega)
          | (refine ⟨⟨j + 1, rfl, rfl, by omega, fun k hk => ?_⟩, by show c.length - (j + 1) < c.length - j; omega⟩
             by_cases hkj : k = j
             · subst hkj
               simp_all [cartBad, ent]
               try omega
             · exact hin k (by omega))
      · have e1' : (i : Int) ≠ j := e1
        (repeat' (first | (refine HCallQ.of _ (spec_l1In _ _ _ _) (fun x h' e => e.1) ?_; conv => whnf) | (refine ⟨rfl, Ints.len (by assumption) ?_⟩; conv => whnf) | (refine ⟨rfl, Rows.len (by assumption) ?_⟩; conv => whnf) | (refine ⟨rfl, HLen.sl ?_⟩; conv => whnf) | (refine ⟨rfl, At.load (by assumption) ?_⟩; conv => whnf) | (refine HIf.yes ?_; conv => whnf) | (refine HIf.no ?_; conv => whnf) | (refine HIf.isT (by assumption) ?_; conv => whnf) | (refine HIf.isF (by assumption) ?_; conv => whnf) | (refine HIf.decT (by assumption) ?_; conv => whnf) | (refine HIf.decF (by assumption) ?_; conv => whnf) | (refine HIf.beqT (by assumption) ?_; conv => whnf) | (refine HIf.beqF (by assumption) ?_; conv => whnf) | (refine HIf.bneT (by assumption) ?_; conv => whnf) | (refine HIf.bneF (by assumption) ?_; conv => whnf) | (refine ⟨rfl, Ints.idxN (by assumption) (by omega) (fun p hp => ?_)⟩; conv => whnf) | (refine ⟨rfl, Rows.idxN (by assumption) (by omega) (fun p y hp hy => ?_)⟩; conv => whnf) | (refine And.intro (show Kd.isBool _ = true from rfl) ?_; conv => whnf) | (refine ⟨rfl, Ints.idx (by assumption) (by omega) (by omega) (fun p hp => ?_)⟩; conv => whnf) | (refine ⟨rfl, Rows.idx (by assumption) (by omega) (by omega) (fun p y hp hy => ?_)⟩; conv => whnf) | (refine HArith.fits (by omega) (by omega) ?_; conv => whnf) | (refine Or.inl (And.intro (show Region.lexB _ _ = true by kernel_rfl) ?_); conv => whnf) | (refine HIf.beq (fun _ => ?_) (fun _ => ?_) <;> (conv => whnf)) | (refine HIf.bne (fun _ => ?_) (fun _ => ?_) <;> (conv => whnf)) | (refine HIf.dec (fun _ => ?_) (fun _ => ?_) <;> (conv => whnf)) | (refine HIf.split (fun _ => ?_) (fun _ => ?_) <;> (conv => whnf))))
        all_goals first
          | (refine ⟨fin false ?_, rfl⟩
             simp only [isCartan, Bool.and_eq_false_iff]
             refine Or.inr (not_cartIn (i := i) (j := j) (by omega) (by omega) ?_)
             simp_all [cartBad, ent]
             try omega)
          | (refine ⟨⟨j + 1, rfl, rfl, by omega, fun k hk => ?_⟩, by show c.length - (j + 1) < c.length - j; omega⟩
             by_cases hkj : k = j
             · subst hkj
               simp_all [cartBad, ent]
               try omega
             · exact hin k (by omega))
    · (conv => whnf)
      (repeat (first | (refine ⟨rfl, Ints.len (by assumption) ?_⟩; conv => whnf) | (refine ⟨rfl, Rows.len (by assumption) ?_⟩; conv => whnf) | (refine ⟨rfl, HLen.sl ?_⟩; conv => whnf) | (refine ⟨rfl, At.load (by assumption) ?_⟩; conv => whnf) | (refine HIf.yes ?_; conv => whnf) | (refine HIf.no ?_; conv => whnf) | (refine HIf.isT (by assumption) ?_; conv => whnf) | (refine HIf.isF (by assumption) ?_; conv => whnf) | (refine HIf.decT (by assumption) ?_; conv => whnf) | (refine HIf.decF (by assumption) ?_; conv => whnf) | (refine HIf.beqT (by assumption) ?_; conv => whnf) | (refine HIf.beqF (by assumption) ?_; conv => whnf) | (refine HIf.bneT (by assumption) ?_; conv => whnf) | (refine HIf.bneF (by assumption) ?_; conv => whnf) | (refine ⟨rfl, Ints.idxN (by assumption) (by omega) (fun p hp => ?_)⟩; conv => whnf) | (refine ⟨rfl, Rows.idxN (by assumption) (by omega) (fun p y hp hy => ?_)⟩; conv => whnf) | (refine And.intro (show Kd.isBool _ = true from rfl) ?_; conv => whnf) | (refine ⟨rfl, Ints.idx (by assumption) (by omega) (by omega) (fun p hp => ?_)⟩; conv => whnf) | (refine ⟨rfl, Rows.idx (by assumption) (by omega) (by omega) (fun p y hp hy => ?_)⟩; conv => whnf) | (refine HArith.fits (by omega) (by omega) ?_; conv => whnf) | (refine Or.inl (And.intro (show Region.lexB _ _ = true by kernel_rfl) ?_); conv => whnf)))
      refine ⟨⟨i + 1, rfl, rfl, by omega, fun k hk j' hj' => ?_⟩, by show c.length - (i + 1) < c.length - i; omega⟩
      by_cases hki : k = i
      · subst hki; exact hin j' (by omega)
      · exact hall k (by omega) j' hj'
  · (conv => whnf)
    (repeat (first | (refine ⟨rfl, Ints.len (by assumption) ?_⟩; conv => whnf) | (refine ⟨rfl, Rows.len (by assumption) ?_⟩; conv => whnf) | (refine ⟨rfl, HLen.sl ?_⟩; conv => whnf) | (refine ⟨rfl, At.load (by assumption) ?_⟩; conv => whnf) | (refine HIf.yes ?_; conv => whnf) | (refine HIf.no ?_; conv => whnf) | (refine HIf.isT (by assumption) ?_; conv => whnf) | (refine HIf.isF (by assumption) ?_; conv => whnf) | (refine HIf.decT (by assumption) ?_; conv => whnf) | (refine HIf.decF (by assumption) ?_; conv => whnf) | (refine HIf.beqT (by assumption) ?_; conv => whnf) | (refine HIf.beqF (by assumption) ?_; conv => whnf) | (refine HIf.bneT (by assumption) ?_; conv => whnf) | (refine HIf.bneF (by assumption) ?_; conv => whnf) | (refine ⟨rfl, Ints.idxN (by assumption) (by omega) (fun p hp => ?_)⟩; conv => whnf) | (refine ⟨rfl, Rows.idxN (by assumption) (by omega) (fun p y hp hy => ?_)⟩; conv => whnf) | (refine And.intro (show Kd.isBool _ = true from rfl) ?_; conv => whnf) | (refine ⟨rfl, Ints.idx (by assumption) (by omega) (by omega) (fun p hp => ?_)⟩; conv => whnf) | (refine ⟨rfl, Rows.idx (by assumption) (by omega) (by omega) (fun p y hp hy => ?_)⟩; conv => whnf) | (refine HArith.fits (by omega) (by omega) ?_; conv => whnf) | (refine Or.inl (And.intro (show Region.lexB _ _ = true by kernel_rfl) ?_); conv => whnf)))
    refine (spec_l1In _ _ _ _).mono ?_
    rintro r h' ⟨rfl, rfl⟩
    (conv => whnf)
    exact ⟨by rw [isCartan_len c hsq (cartIn_of (c := c) (fun k hk j hj => hall k (by omega) j hj))]; rfl, rfl⟩

theorem impl_isPoint (h : Heap) (x : H0) (c : List (List Int)) (i : Int) (hx : Rows h x c) : HCalls dm Tryz.prog 113 [.s x, I i] h (fun r h' => r = B (isPoint c i) ∧ h' = h) := by
  refine calls_of_hFun (m := 0) kd_ok mixed Tryz.func113 rfl (by kernel_rfl) rfl rfl (of_decide_eq_true rfl) ?_; unfold hFun; (conv => whnf)
  by_cases h1 : i ≥ 0 <;> (repeat (first | (refine ⟨rfl, Ints.len (by assumption) ?_⟩; conv => whnf) | (refine ⟨rfl, Rows.len (by assumption) ?_⟩; conv => whnf) | (refine ⟨rfl, HLen.sl ?_⟩; conv => whnf) | (refine ⟨rfl, At.load (by assumption) ?_⟩; conv => whnf) | (refine HIf.yes ?_; conv => whnf) | (refine HIf.no ?_; conv => whnf) | (refine HIf.isT (by assumption) ?_; conv => whnf) | (refine HIf.isF (by assumption) ?_; conv => whnf) | (refine HIf.decT (by assumption) ?_; conv => whnf) | (refine HIf.decF (by assumption) ?_; conv => whnf) | (refine HIf.beqT (by assumption) ?_; conv => whnf) | (refine HIf.beqF (by assumption) ?_; conv => whnf) | (refine HIf.bneT (by assumption) ?_; conv => whnf) | (refine HIf.bneF (by assumption) ?_; conv => whnf) | (refine ⟨rfl, Ints.idxN (by assumption) (by omega) (fun p hp => ?_)⟩; conv => whnf) | (refine ⟨rfl, Rows.idxN (by assumption) (by omega) (fun p y hp hy => ?_)⟩; conv => whnf) | (refine And.intro (show Kd.isBool _ = true from rfl) ?_; conv => whnf) | (refine ⟨rfl, Ints.idx (by assumption) (by omega) (by omega) (fun p hp => ?_)⟩; conv => whnf) | (refine ⟨rfl, Rows.idx (by assumption) (by omega) (by omega) (fun p y hp hy => ?_)⟩; conv => whnf) | (refine HArith.fits (by omega) (by omega) ?_; conv => whnf) | (refine Or.inl (And.intro (show Region.lexB _ _ = true by kernel_rfl) ?_); conv => whnf)))
  · exact ⟨by rw [inRange_iff]; simp [h1], rfl⟩
  · exact ⟨by rw [inRange_iff]; simp [h1], rfl⟩

end Go.Proofs.YtgliajcgcbnemaaGreatDoor.Hx

namespace Go.Proofs.YtgliajcgcbnemaaGreatDoor.Hx
open Go.RowKit
variable {dm : Bool}
end Go.Proofs.YtgliajcgcbnemaaGreatDoor.Hx

namespace Go.Proofs.YtgliajcgcbnemaaGreatDoor.Hx
open Go.RowKit
variable {dm : Bool}

/-- Rows from number a to number b (b not) may have changed, no other. -/
def Mid (h h' : Heap) (a b : Nat) : Prop := h'.length = h.length ∧ ∀ q, (q < a ∨ b ≤ q) → h'[q]? = h[q]?

/-- A slice of ints in a row of its own, of number between b and e. -/
def Own (b e : Nat) (h : Heap) (x : H0) (l : List Int) : Prop := ∃ r t, x = .sl r 0 l.length ∧ b ≤ r ∧ r < e ∧ h[r]? = some (.own (l.map ci ++ t))

theorem Fresh.own {h h' : Heap} {x : H0} {l : List Int} (H : Fresh h h' x l) : Own h.length h'.length h' x l := by
  obtain ⟨_, r, t, e, hr, hg⟩ := H
  exact ⟨r, t, e, hr, get_lt hg, hg⟩

theorem Own.ints {b e : Nat} {h : Heap} {x : H0} {l : List Int} (H : Own b e h x l) : Ints h x l := by
  obtain ⟨r, t, rfl, _, _, hr⟩ := H
  exact Ints.ofOwn hr

theorem Own.ext {b e : Nat} {h h' : Heap} {x : H0} {l : List Int} (H : Own b e h x l) (k : Ext h h') : Own b e h' x l := by
  obtain ⟨r, t, g1, g2, g3, hr⟩ := H
  exact ⟨r, t, g1, g2, g3, k.row hr⟩

theorem Own.mid {b e a c : Nat} {h h' : Heap} {x : H0} {l : List Int} (H : Own b e h x l) (k : Mid h h' a c) (o : e ≤ a ∨ c ≤ b) : Own b e h' x l := by
  obtain ⟨r, t, g1, g2, g3, hr⟩ := H
  exact ⟨r, t, g1, g2, g3, by rw [k.2 r (by omega)]; exact hr⟩

theorem Ext.mid {h h' h'' : Heap} {a c : Nat} (e : Ext h h') (k : Mid h' h'' a c) (o : h.length ≤ a) : Ext h h'' :=
  ⟨by rw [k.1]; exact e.1, fun r hr => by rw [k.2 r (by omega)]; exact e.2 r hr⟩

theorem Mid.refl (h : Heap) (a b : Nat) : Mid h h a b := ⟨rfl, fun _ _ => rfl⟩
theorem Mid.trans {h h' h'' : Heap} {a b : Nat} (m : Mid h h' a b) (k : Mid h' h'' a b) : Mid h h'' a b := ⟨by rw [k.1, m.1], fun q hq => by rw [k.2 q hq, m.2 q hq]⟩
theorem Mid.set (h : Heap) {a b r : Nat} (h1 : a ≤ r) (h2 : r < b) (x : Row) : Mid h (h.set r x) a b := ⟨by simp, fun q hq => by rw [List.getElem?_set_ne (by omega)]⟩

/-- A slice in row r whose parts are the slices in the rows that ρ names. -/
structure MatAt (h : Heap) (r : Nat) (ρ : Nat → Nat) (L : List (List Int)) : Prop where
  outer : ∃ cs, h[r]? = some (.own cs) ∧ L.length ≤ cs.length ∧ ∀ i, i < L.length → cs[i]? = some (.sl (ρ i) 0 (L.getD i []).length)
  inner : ∀ i, i < L.length → ∃ t, h[ρ i]? = some (.own ((L.getD i []).map ci ++ t))
  ne : ∀ i, i < L.length → ρ i ≠ r
  inj : ∀ i j, i < j → j < L.length → ρ i ≠ ρ j

theorem MatAt.rows {h : Heap} {r : Nat} {ρ : Nat → Nat} {L : List (List Int)} (H : MatAt h r ρ L) : Rows h (.sl r 0 L.length) L := by
  obtain ⟨cs, h1, h2, h3⟩ := H.outer
  refine ⟨(cs.drop 0).take L.length, Shows.own r 0 L.length cs h1 (by omega), by simp; omega, fun i y l hy hl => ?_⟩
  have hi : i < L.length := (List.getElem?_eq_some_iff.1 hl).1
  rw [List.drop_zero, List.getElem?_take_of_lt hi, h3 i hi] at hy
  cases hy
  obtain ⟨t, ht⟩ := H.inner i hi
  have e : L.getD i [] = l := by simp [List.getD, hl]
  rw [e] at ht ⊢
  exact Ints.ofOwn ht

def OwnM (b e : Nat) (h : Heap) (x : H0) (L : List (List Int)) : Prop := ∃ r ρ, x = .sl r 0 L.length ∧ b ≤ r ∧ r < e ∧ (∀ i, i < L.length → b ≤ ρ i ∧ ρ i < e) ∧ MatAt h r ρ L

theorem OwnM.rows {b e : Nat} {h : Heap} {x : H0} {L : List (List Int)} (H : OwnM b e h x L) : Rows h x L := by
  obtain ⟨r, ρ, rfl, _, _, _, m⟩ := H
  exact m.rows

theorem MatAt.move {h h' : Heap} {r : Nat} {ρ : Nat → Nat} {L : List (List Int)} (H : MatAt h r ρ L) (k : h'[r]? = h[r]?) (k2 : ∀ i, i < L.length → h'[ρ i]? = h[ρ i]?) : MatAt h' r ρ L := by
  obtain ⟨o, n, e, j⟩ := H
  refine ⟨?_, fun i hi => ?_, e, j⟩
  · rw [k]
    exact o
  · rw [k2 i hi]
    exact n i hi

theorem OwnM.ext {b e : Nat} {h h' : Heap} {x : H0} {L : List (List Int)} (H : OwnM b e h x L) (k : Ext h h') : OwnM b e h' x L := by
  obtain ⟨r, ρ, g1, g2, g3, g4, m⟩ := H
  refine ⟨r, ρ, g1, g2, g3, g4, m.move ?_ (fun i hi => ?_)⟩
  · obtain ⟨cs, h1, _⟩ := m.outer
    exact k.2 r (get_lt h1)
  · obtain ⟨t, h1⟩ := m.inner i hi
    exact k.2 _ (get_lt h1)

theorem OwnM.mid {b e a c : Nat} {h h' : Heap} {x : H0} {L : List (List Int)} (H : OwnM b e h x L) (k : Mid h h' a c) (o : e ≤ a ∨ c ≤ b) : OwnM b e h' x L := by
  obtain ⟨r, ρ, g1, g2, g3, g4, m⟩ := H
  exact ⟨r, ρ, g1, g2, g3, g4, m.move (k.2 r (by omega)) (fun i hi => k.2 _ (by have := g4 i hi; omega))⟩

/-- How many numbers a list of lists holds. -/
def tot : List (List Int) → Nat
  | [] => 0
  | l :: ls => l.length + tot ls

theorem tot_succ : ∀ (L : List (List Int)) (i : Nat), i < L.length → tot (L.take (i + 1)) = tot (L.take i) + (L.getD i []).length
  | [], i, h => by simp at h
  | l :: ls, 0, _ => by simp [tot]
  | l :: ls, i + 1, h => by
    have := tot_succ ls i (by simpa using h)
    simp only [List.take_succ_cons, tot, List.getD_cons_succ]
    omega

theorem tot_take_le : ∀ (L : List (List Int)) (i : Nat), tot (L.take i) ≤ tot L
  | [], i => by simp
  | l :: ls, 0 => by simp [tot]
  | l :: ls, i + 1 => by
    have := tot_take_le ls i
    simp only [List.take_succ_cons, tot]
    omega

theorem len_le_tot {L : List (List Int)} {i : Nat} (h : i < L.length) : tot (L.take i) + (L.getD i []).length ≤ tot L := by
  rw [← tot_succ L i h]
  exact tot_take_le L _

theorem tot_none : tot [] = 0 := rfl


theorem szIntS_any (h : Heap) (x : H0) (l : List Int) (n : Nat) (hx : Ints h x l) (hn : n ≤ 2199023255552) (hl : l.length ≤ 9223372036854775807) :
    HCalls dm Tryz.prog 72 [.s x, I n] h (fun r h' => h' = h ∧ ((∃ k : Nat, r = I k ∧ l.length + k = n) ∨ r = I (-1))) := by
  refine calls_of_hFun (m := 0) kd_ok mixed Tryz.func72 rfl (by kernel_rfl) rfl rfl (of_decide_eq_true rfl) ?_; unfold hFun; (conv => whnf)
  (repeat (first | (refine ⟨rfl, Ints.len (by assumption) ?_⟩; conv => whnf) | (refine ⟨rfl, Rows.len (by assumption) ?_⟩; conv => whnf) | (refine ⟨rfl, HLen.sl ?_⟩; conv => whnf) | (refine ⟨rfl, At.load (by assumption) ?_⟩; conv => whnf) | (refine HIf.yes ?_; conv => whnf) | (refine HIf.no ?_; conv => whnf) | (refine HIf.isT (by assumption) ?_; conv => whnf) | (refine HIf.isF (by assumption) ?_; conv => whnf) | (refine HIf.decT (by assumption) ?_; conv => whnf) | (refine HIf.decF (by assumption) ?_; conv => whnf) | (refine HIf.beqT (by assumption) ?_; conv => whnf) | (refine HIf.beqF (by assumption) ?_; conv => whnf) | (refine HIf.bneT (by assumption) ?_; conv => whnf) | (refine HIf.bneF (by assumption) ?_; conv => whnf) | (refine ⟨rfl, Ints.idxN (by assumption) (by omega) (fun p hp => ?_)⟩; conv => whnf) | (refine ⟨rfl, Rows.idxN (by assumption) (by omega) (fun p y hp hy => ?_)⟩; conv => whnf) | (refine And.intro (show Kd.isBool _ = true from rfl) ?_; conv => whnf) | (refine ⟨rfl, Ints.idx (by assumption) (by omega) (by omega) (fun p hp => ?_)⟩; conv => whnf) | (refine ⟨rfl, Rows.idx (by assumption) (by omega) (by omega) (fun p y hp hy => ?_)⟩; conv => whnf) | (refine HArith.fits (by omega) (by omega) ?_; conv => whnf) | (refine Or.inl (And.intro (show Region.lexB _ _ = true by kernel_rfl) ?_); conv => whnf)))
  refine HIf.dec (fun hlt => ?_) (fun hge => ?_)
  · (conv => whnf)
    exact ⟨rfl, Or.inr rfl⟩
  · (conv => whnf)
    refine ⟨rfl, Or.inl ⟨n - l.length, ?_, by omega⟩⟩
    have : ((n - l.length : Nat) : Int) = (n : Int) - l.length := by omega
    rw [this]
    rfl

theorem szIntSS_any (h : Heap) (x : H0) (L : List (List Int)) (n : Nat) (hx : Rows h x L) (hn : n ≤ 2199023255552) (hL : L.length ≤ 9223372036854775807) (hl : ∀ i, (L.getD i []).length ≤ 9223372036854775807) :
    HCalls dm Tryz.prog 8 [.s x, I n] h (fun r h' => h' = h ∧ ((∃ k : Nat, r = I k ∧ L.length + tot L + k = n) ∨ r = I (-1))) := by
  refine calls_of_hFun (m := 0) kd_ok mixed Tryz.func8 rfl (by kernel_rfl) rfl rfl (of_decide_eq_true rfl) ?_; unfold hFun; (conv => whnf)
  (repeat (first | (refine ⟨rfl, Ints.len (by assumption) ?_⟩; conv => whnf) | (refine ⟨rfl, Rows.len (by assumption) ?_⟩; conv => whnf) | (refine ⟨rfl, HLen.sl ?_⟩; conv => whnf) | (refine ⟨rfl, At.load (by assumption) ?_⟩; conv => whnf) | (refine HIf.yes ?_; conv => whnf) | (refine HIf.no ?_; conv => whnf) | (refine HIf.isT (by assumption) ?_; conv => whnf) | (refine HIf.isF (by assumption) ?_; conv => whnf) | (refine HIf.decT (by assumption) ?_; conv => whnf) | (refine HIf.decF (by assumption) ?_; conv => whnf) | (refine HIf.beqT (by assumption) ?_; conv => whnf) | (refine HIf.beqF (by assumption) ?_; conv => whnf) | (refine HIf.bneT (by assumption) ?_; conv => whnf) | (refine HIf.bneF (by assumption) ?_; conv => whnf) | (refine ⟨rfl, Ints.idxN (by assumption) (by omega) (fun p hp => ?_)⟩; conv => whnf) | (refine ⟨rfl, Rows.idxN (by assumption) (by omega) (fun p y hp hy => ?_)⟩; conv => whnf) | (refine And.intro (show Kd.isBool _ = true from rfl) ?_; conv => whnf) | (refine ⟨rfl, Ints.idx (by assumption) (by omega) (by omega) (fun p hp => ?_)⟩; conv => whnf) | (refine ⟨rfl, Rows.idx (by assumption) (by omega) (by omega) (fun p y hp hy => ?_)⟩; conv => whnf) | (refine HArith.fits (by omega) (by omega) ?_; conv => whnf) | (refine Or.inl (And.intro (show Region.lexB _ _ = true by kernel_rfl) ?_); conv => whnf)))
  refine HIf.dec (fun hlt => ?_) (fun hge => ?_)
  · (conv => whnf)
    exact ⟨rfl, Or.inr rfl⟩
  · (conv => whnf)
    refine HLoop.intro [5, 1] [12, 13, 14, 15, 18, 19, 20, 21, 22, 23, 1, 24, 25, 4, 16, 17, 5] (by kernel_rfl) (by kernel_rfl) (fun vs h' => ∃ i k : Nat, vs = [I i, I k] ∧ h' = h ∧ i ≤ L.length ∧ L.length + tot (L.take i) + k = n) (fun vs _ => L.length - natAt vs 0) ⟨0, n - L.length, ?_, rfl, by omega, by simp [tot_none]; omega⟩ ?_
    · have : ((n - L.length : Nat) : Int) = (n : Int) - L.length := by omega
      rw [this]
      rfl
    rintro vs h' ⟨i, k, rfl, rfl, hi, hk⟩
    (conv => whnf)
    (repeat (first | (refine ⟨rfl, Ints.len (by assumption) ?_⟩; conv => whnf) | (refine ⟨rfl, Rows.len (by assumption) ?_⟩; conv => whnf) | (refine ⟨rfl, HLen.sl ?_⟩; conv => whnf) | (refine ⟨rfl, At.load (by assumption) ?_⟩; conv => whnf) | (refine HIf.yes ?_; conv => whnf) | (refine HIf.no ?_; conv => whnf) | (refine HIf.isT (by assumption) ?_; conv => whnf) | (refine HIf.isF (by assumption) ?_; conv => whnf) | (refine HIf.decT (by assumption) ?_; conv => whnf) | (refine HIf.decF (by assumption) ?_; conv => whnf) | (refine HIf.beqT (by assumption) ?_; conv => whnf) | (refine HIf.beqF (by assumption) ?_; conv => whnf) | (refine HIf.bneT (by assumption) ?_; conv => whnf) | (refine HIf.bneF (by assumption) ?_; conv => whnf) | (refine ⟨rfl, Ints.idxN (by assumption) (by omega) (fun p hp => ?_)⟩; conv => whnf) | (refine ⟨rfl, Rows.idxN (by assumption) (by omega) (fun p y hp hy => ?_)⟩; conv => whnf) | (refine And.intro (show Kd.isBool _ = true from rfl) ?_; conv => whnf) | (refine ⟨rfl, Ints.idx (by assumption) (by omega) (by omega) (fun p hp => ?_)⟩; conv => whnf) | (refine ⟨rfl, Rows.idx (by assumption) (by omega) (by omega) (fun p y hp hy => ?_)⟩; conv => whnf) | (refine HArith.fits (by omega) (by omega) ?_; conv => whnf) | (refine Or.inl (And.intro (show Region.lexB _ _ = true by kernel_rfl) ?_); conv => whnf)))
    refine HIf.dec (fun hlt => ?_) (fun hge => ?_)
    · (conv => whnf)
      (repeat (first | (refine ⟨rfl, Ints.len (by assumption) ?_⟩; conv => whnf) | (refine ⟨rfl, Rows.len (by assumption) ?_⟩; conv => whnf) | (refine ⟨rfl, HLen.sl ?_⟩; conv => whnf) | (refine ⟨rfl, At.load (by assumption) ?_⟩; conv => whnf) | (refine HIf.yes ?_; conv => whnf) | (refine HIf.no ?_; conv => whnf) | (refine HIf.isT (by assumption) ?_; conv => whnf) | (refine HIf.isF (by assumption) ?_; conv => whnf) | (refine HIf.decT (by assumption) ?_; conv => whnf) | (refine HIf.decF (by assumption) ?_; conv => whnf) | (refine HIf.beqT (by assumption) ?_; conv => whnf) | (refine HIf.beqF (by assumption) ?_; conv => whnf) | (refine HIf.bneT (by assumption) ?_; conv => whnf) | (refine HIf.bneF (by assumption) ?_; conv => whnf) | (refine ⟨rfl, Ints.idxN (by assumption) (by omega) (fun p hp => ?_)⟩; conv => whnf) | (refine ⟨rfl, Rows.idxN (by assumption) (by omega) (fun p y hp hy => ?_)⟩; conv => whnf) | (refine And.intro (show Kd.isBool _ = true from rfl) ?_; conv => whnf) | (refine ⟨rfl, Ints.idx (by assumption) (by omega) (by omega) (fun p hp => ?_)⟩; conv => whnf) | (refine ⟨rfl, Rows.idx (by assumption) (by omega) (by omega) (fun p y hp hy => ?_)⟩; conv => whnf) | (refine HArith.fits (by omega) (by omega) ?_; conv => whnf) | (refine Or.inl (And.intro (show Region.lexB _ _ = true by kernel_rfl) ?_); conv => whnf)))
      refine (szIntS_any _ _ _ k (by assumption) (by omega) (hl _)).mono ?_
      rintro r h' ⟨rfl, ⟨m, rfl, hm⟩ | rfl⟩
      · have := tot_succ L i (by omega)
        (conv => whnf)
        refine HIf.decF (by omega) ?_
        (conv => whnf)
        (repeat (first | (refine ⟨rfl, Ints.len (by assumption) ?_⟩; conv => whnf) | (refine ⟨rfl, Rows.len (by assumption) ?_⟩; conv => whnf) | (refine ⟨rfl, HLen.sl ?_⟩; conv => whnf) | (refine ⟨rfl, At.load (by assumption) ?_⟩; conv => whnf) | (refine HIf.yes ?_; conv => whnf) | (refine HIf.no ?_; conv => whnf) | (refine HIf.isT (by assumption) ?_; conv => whnf) | (refine HIf.isF (by assumption) ?_; conv => whnf) | (refine HIf.decT (by assumption) ?_; conv => whnf) | (refine HIf.decF (by assumption) ?_; conv => whnf) | (refine HIf.beqT (by assumption) ?_; conv => whnf) | (refine HIf.beqF (by assumption) ?_; conv => whnf) | (refine HIf.bneT (by assumption) ?_; conv => whnf) | (refine HIf.bneF (by assumption) ?_; conv => whnf) | (refine ⟨rfl, Ints.idxN (by assumption) (by omega) (fun p hp => ?_)⟩; conv => whnf) | (refine ⟨rfl, Rows.idxN (by assumption) (by omega) (fun p y hp hy => ?_)⟩; conv => whnf) | (refine And.intro (show Kd.isBool _ = true from rfl) ?_; conv => whnf) | (refine ⟨rfl, Ints.idx (by assumption) (by omega) (by omega) (fun p hp => ?_)⟩; conv => whnf) | (refine ⟨rfl, Rows.idx (by assumption) (by omega) (by omega) (fun p y hp hy => ?_)⟩; conv => whnf) | (refine HArith.fits (by omega) (by omega) ?_; conv => whnf) | (refine Or.inl (And.intro (show Region.lexB _ _ = true by kernel_rfl) ?_); conv => whnf)))
        exact ⟨⟨i + 1, m, rfl, rfl, by omega, by omega⟩, by show L.length - (i + 1) < L.length - i; omega⟩
      · (conv => whnf)
        refine HIf.yes ?_
        (conv => whnf)
        exact ⟨rfl, Or.inr rfl⟩
    · (conv => whnf)
      have e : i = L.length := by omega
      subst e
      rw [List.take_length] at hk
      exact ⟨rfl, Or.inl ⟨k, rfl, hk⟩⟩

theorem eqIntSS_any (h : Heap) (x y : H0) (a b : List (List Int)) (hx : Rows h x a) (hy : Rows h y b) (hal : a.length ≤ 2199023255552) (hat : tot a ≤ 2199023255552) :
    HCalls dm Tryz.prog 12 [.s x, .s y] h (fun r h' => r = B (decide (a = b)) ∧ h' = h) := by
  refine calls_of_hFun (m := 0) kd_ok mixed Tryz.func12 rfl (by kernel_rfl) rfl rfl (of_decide_eq_true rfl) ?_; unfold hFun; (conv => whnf)
  (repeat (first | (refine ⟨rfl, Ints.len (by assumption) ?_⟩; conv => whnf) | (refine ⟨rfl, Rows.len (by assumption) ?_⟩; conv => whnf) | (refine ⟨rfl, HLen.sl ?_⟩; conv => whnf) | (refine ⟨rfl, At.load (by assumption) ?_⟩; conv => whnf) | (refine HIf.yes ?_; conv => whnf) | (refine HIf.no ?_; conv => whnf) | (refine HIf.isT (by assumption) ?_; conv => whnf) | (refine HIf.isF (by assumption) ?_; conv => whnf) | (refine HIf.decT (by assumption) ?_; conv => whnf) | (refine HIf.decF (by assumption) ?_; conv => whnf) | (refine HIf.beqT (by assumption) ?_; conv => whnf) | (refine HIf.beqF (by assumption) ?_; conv => whnf) | (refine HIf.bneT (by assumption) ?_; conv => whnf) | (refine HIf.bneF (by assumption) ?_; conv => whnf) | (refine ⟨rfl, Ints.idxN (by assumption) (by omega) (fun p hp => ?_)⟩; conv => whnf) | (refine ⟨rfl, Rows.idxN (by assumption) (by omega) (fun p y hp hy => ?_)⟩; conv => whnf) | (refine And.intro (show Kd.isBool _ = true from rfl) ?_; conv => whnf) | (refine ⟨rfl, Ints.idx (by assumption) (by omega) (by omega) (fun p hp => ?_)⟩; conv => whnf) | (refine ⟨rfl, Rows.idx (by assumption) (by omega) (by omega) (fun p y hp hy => ?_)⟩; conv => whnf) | (refine HArith.fits (by omega) (by omega) ?_; conv => whnf) | (refine Or.inl (And.intro (show Region.lexB _ _ = true by kernel_rfl) ?_); conv => whnf)))
  refine HIf.bne (fun hne => ?_) (fun heq => ?_)
  · (conv => whnf)
    have : ¬ a = b := fun e => hne (by rw [e])
    rw [decide_eq_false this]
    exact ⟨rfl, rfl⟩
  · (conv => whnf)
    refine HLoop.intro [5] [11, 12, 13, 14, 17, 18, 19, 20, 21, 22, 23, 24, 25, 26, 4, 15, 16, 5] (by kernel_rfl) (by kernel_rfl) (fun vs h' => ∃ i : Nat, vs = [I i] ∧ h' = h ∧ i ≤ a.length ∧ a.take i = b.take i) (fun vs _ => a.length - natAt vs 0) ⟨0, rfl, rfl, by omega, by simp⟩ ?_
    rintro vs h' ⟨i, rfl, rfl, hi, hab⟩
    (conv => whnf)
    (repeat (first | (refine ⟨rfl, Ints.len (by assumption) ?_⟩; conv => whnf) | (refine ⟨rfl, Rows.len (by assumption) ?_⟩; conv => whnf) | (refine ⟨rfl, HLen.sl ?_⟩; conv => whnf) | (refine ⟨rfl, At.load (by assumption) ?_⟩; conv => whnf) | (refine HIf.yes ?_; conv => whnf) | (refine HIf.no ?_; conv => whnf) | (refine HIf.isT (by assumption) ?_; conv => whnf) | (refine HIf.isF (by assumption) ?_; conv => whnf) | (refine HIf.decT (by assumption) ?_; conv => whnf) | (refine HIf.decF (by assumption) ?_; conv => whnf) | (refine HIf.beqT (by assumption) ?_; conv => whnf) | (refine HIf.beqF (by assumption) ?_; conv => whnf) | (refine HIf.bneT (by assumption) ?_; conv => whnf) | (refine HIf.bneF (by assumption) ?_; conv => whnf) | (refine ⟨rfl, Ints.idxN (by assumption) (by omega) (fun p hp => ?_)⟩; conv => whnf) | (refine ⟨rfl, Rows.idxN (by assumption) (by omega) (fun p y hp hy => ?_)⟩; conv => whnf) | (refine And.intro (show Kd.isBool _ = true from rfl) ?_; conv => whnf) | (refine ⟨rfl, Ints.idx (by assumption) (by omega) (by omega) (fun p hp => ?_)⟩; conv => whnf) | (refine ⟨rfl, Rows.idx (by assumption) (by omega) (by omega) (fun p y hp hy => ?_)⟩; conv => whnf) | (refine HArith.fits (by omega) (by omega) ?_; conv => whnf) | (refine Or.inl (And.intro (show Region.lexB _ _ = true by kernel_rfl) ?_); conv => whnf)))
    refine HIf.dec (fun hlt => ?_) (fun hge => ?_)
    · have hlb : (i : Int) < b.length := by omega
      have hlt2 := len_le_tot (L := a) (i := i) (by omega)
      (conv => whnf)
      refine Or.inl (And.intro (show Region.lexB _ _ = true by kernel_rfl) ?_); (conv => whnf)
      refine ⟨rfl, Rows.idxN hx (by omega) (fun p1 y1 hp1 hy1 => ?_)⟩
      (conv => whnf)
      refine ⟨rfl, hp1.load ?_⟩
      (conv => whnf)
      refine ⟨rfl, Rows.idxN hy (by omega) (fun p2 y2 hp2 hy2 => ?_)⟩
      (conv => whnf)
      refine ⟨rfl, hp2.load ?_⟩
      (conv => whnf)
      refine HCallQ.of _ (eqIntS_any _ _ _ _ _ hy1.frz hy2.frz (by omega)) (fun x h' e => e.1) ?_
      (conv => whnf)
      have ga : a.getD i [] = a[i]'(by omega) := by simp [List.getD, show i < a.length by omega]
      have gb : b.getD i [] = b[i]'(by omega) := by simp [List.getD, show i < b.length by omega]
      by_cases he : a.getD i [] = b.getD i []
      · refine HIf.bnot (HIf.decT he ?_)
        rw [ga, gb] at he
        (conv => whnf)
        (repeat (first | (refine ⟨rfl, Ints.len (by assumption) ?_⟩; conv => whnf) | (refine ⟨rfl, Rows.len (by assumption) ?_⟩; conv => whnf) | (refine ⟨rfl, HLen.sl ?_⟩; conv => whnf) | (refine ⟨rfl, At.load (by assumption) ?_⟩; conv => whnf) | (refine HIf.yes ?_; conv => whnf) | (refine HIf.no ?_; conv => whnf) | (refine HIf.isT (by assumption) ?_; conv => whnf) | (refine HIf.isF (by assumption) ?_; conv => whnf) | (refine HIf.decT (by assumption) ?_; conv => whnf) | (refine HIf.decF (by assumption) ?_; conv => whnf) | (refine HIf.beqT (by assumption) ?_; conv => whnf) | (refine HIf.beqF (by assumption) ?_; conv => whnf) | (refine HIf.bneT (by assumption) ?_; conv => whnf) | (refine HIf.bneF (by assumption) ?_; conv => whnf) | (refine ⟨rfl, Ints.idxN (by assumption) (by omega) (fun p hp => ?_)⟩; conv => whnf) | (refine ⟨rfl, Rows.idxN (by assumption) (by omega) (fun p y hp hy => ?_)⟩; conv => whnf) | (refine And.intro (show Kd.isBool _ = true from rfl) ?_; conv => whnf) | (refine ⟨rfl, Ints.idx (by assumption) (by omega) (by omega) (fun p hp => ?_)⟩; conv => whnf) | (refine ⟨rfl, Rows.idx (by assumption) (by omega) (by omega) (fun p y hp hy => ?_)⟩; conv => whnf) | (refine HArith.fits (by omega) (by omega) ?_; conv => whnf) | (refine Or.inl (And.intro (show Region.lexB _ _ = true by kernel_rfl) ?_); conv => whnf)))
        refine ⟨⟨i + 1, rfl, rfl, by omega, ?_⟩, by show a.length - (i + 1) < a.length - i; omega⟩
        rw [List.take_succ_eq_append_getElem (by omega), List.take_succ_eq_append_getElem (by omega), hab, he]
      · refine HIf.bnot (HIf.decF he ?_)
        (conv => whnf)
        have : ¬ a = b := fun e => he (by rw [e])
        rw [decide_eq_false this]
        exact ⟨rfl, rfl⟩
    · (conv => whnf)
      have : a = b := by
        have e : i = a.length := by omega
        rw [List.take_of_length_le (by omega), List.take_of_length_le (by omega)] at hab
        exact hab
      rw [decide_eq_true this]
      exact ⟨rfl, rfl⟩

end Go.Proofs.YtgliajcgcbnemaaGreatDoor.Hx
