/-
  Contracts: IsCartan of the reference; points, words, weights, of the program and of the reference.
  Contracts: weights and words, of the program and of the reference.
  The contracts of the laws' own helpers over slices of slices of ints: sizes, copies, comparisons, marks; and what is made anew, with bounds on where it lies.
  The contracts of the laws' own helpers that copy and mark slices of slices of ints.
  Contracts of SimpleRoot and of the sums over rows and roots, of the program and of the reference.
  Contracts of reflections of roots, of the program and of the reference.
  Contracts of ReflectRoot, ActOnRoot, WeightOfRoot, of the program and of the reference.
  Contracts of WeightOfRoot, of the program and of the reference.
  Contracts of ActOnRoot, of the program and of the reference.
-/
import Derived.Test.YtjgnnjegaedinaaZ07
namespace Go.Proofs.Ytjgnnjegaedinaa.Hx
open Go.RowKit
variable {dm : Bool}

theorem inRange_iff {c : List (List Int)} {x : Int} : isPoint c x = (decide (0 ≤ x) && decide (x < c.length)) := rfl
theorem isPoint_l1 (c : List (List Int)) (x : Int) : (decide (0 ≤ x) && decide (x ≤ (c.length : Int) - 1)) = isPoint c x := by
  rw [inRange_iff]
  congr 1
  exact decide_eq_decide.2 (by omega)

theorem isWeight_bad {c : List (List Int)} {v : List Int} (h : weightOk v = false) : isWeight c v = false := by simp [isWeight, h]
theorem isWord_bad {c : List (List Int)} {v : List Int} (h : lettersOk c v = false) : isWord c v = false := by simp [isWord, h]

theorem isWeight_eq {c : List (List Int)} {v : List Int} (h : weightOk v = true) : isWeight c v = (isCartan c && decide (v.length = c.length)) := by simp [isWeight, h]
theorem isWord_eq {c : List (List Int)} {v : List Int} (h : lettersOk c v = true) : isWord c v = (isCartan c && decide (v.length ≤ 15)) := by simp [isWord, h]

theorem isCartan_len (c : List (List Int)) (hs : square c = true) (hi : cartIn c = true) : (decide ((1 : Int) ≤ c.length) && decide ((c.length : Int) ≤ 4)) = isCartan c := by
  simp only [isCartan, hs, hi, Bool.and_true]
  congr 1 <;> exact decide_eq_decide.2 (by omega)

theorem l1_not {a b x : Int} (h : (!(decide (a ≤ x) && decide (x ≤ b))) = true) : ¬ (a ≤ x ∧ x ≤ b) := by simp at h; omega
theorem l1_yes {a b x : Int} (h : (!(decide (a ≤ x) && decide (x ≤ b))) = false) : a ≤ x ∧ x ≤ b := by simpa using h
theorem bEq {b b' : Bool} (h : b' = b) : B b = B b' := by rw [h]
theorem point_of {c : List (List Int)} {x : Int} (h : isPoint c x = true) : 0 ≤ x ∧ x < c.length := by simpa [isPoint, inRange] using h
theorem point_not {c : List (List Int)} {x : Int} (h : isPoint c x = false) : ¬ (0 ≤ x ∧ x < c.length) := by
  intro hp
  have : isPoint c x = true := by simpa [isPoint, inRange] using hp
  rw [h] at this
  cases this


theorem spec_IsCartan (h : Heap) (x : H0) (c : List (List Int)) (hx : Rows h x c) (hc : c.length ≤ 2199023255552) : HCalls dm Try.prog 83 [.s x] h (fun r h' => r = B (isCartan c) ∧ h' = h) := by
  refine calls_of_hFun (m := 0) kd_ok mixed Try.func83 rfl (by kernel_rfl) rfl rfl (of_decide_eq_true rfl) ?_; unfold hFun; (conv => whnf)
  have fin : ∀ (b : Bool), isCartan c = b → B b = B (isCartan c) := fun b hb => by rw [hb]
  refine HLoop.intro [3] [6, 7, 8, 9, 12, 13, 14, 15, 16, 17, 18, 19, 2, 10, 11, 3] (by kernel_rfl) (by kernel_rfl) (fun vs h' => ∃ i : Nat, vs = [I i] ∧ h' = h ∧ i ≤ c.length ∧ ∀ j, j < i → (c.getD j []).length = c.length) (fun vs _ => c.length - natAt vs 0) ⟨0, rfl, rfl, by omega, fun j hj => by omega⟩ ?_
  rintro vs h' ⟨i, rfl, rfl, hi, hall⟩
  (conv => whnf)
  (repeat (first | (refine ⟨rfl, Ints.len (by assumption) ?_⟩; conv => whnf) | (refine ⟨rfl, Rows.len (by assumption) ?_⟩; conv => whnf) | (refine ⟨rfl, HLen.sl ?_⟩; conv => whnf) | (refine ⟨rfl, At.load (by assumption) ?_⟩; conv => whnf) | (refine HIf.yes ?_; conv => whnf) | (refine HIf.no ?_; conv => whnf) | (refine HIf.isT (by assumption) ?_; conv => whnf) | (refine HIf.isF (by assumption) ?_; conv => whnf) | (refine HIf.decT (by assumption) ?_; conv => whnf) | (refine HIf.decF (by assumption) ?_; conv => whnf) | (refine HIf.beqT (by assumption) ?_; conv => whnf) | (refine HIf.beqF (by assumption) ?_; conv => whnf) | (refine HIf.bneT (by assumption) ?_; conv => whnf) | (refine HIf.bneF (by assumption) ?_; conv => whnf) | (refine ⟨rfl, Ints.idxN (by assumption) (by omega) (fun p hp => ?_)⟩; conv => whnf) | (refine ⟨rfl, Rows.idxN (by assumption) (by omega) (fun p y hp hy => ?_)⟩; conv => whnf) | (refine And.intro (show Kd.isBool _ = true from rfl) ?_; conv => whnf) | (refine ⟨rfl, Ints.idx (by assumption) (by omega) (by omega) (fun p hp => ?_)⟩; conv => whnf) | (refine ⟨rfl, Rows.idx (by assumption) (by omega) (by omega) (fun p y hp hy => ?_)⟩; conv => whnf) | (refine HArith.fits (by omega) (by omega) ?_; conv => whnf) | (refine Or.inl (And.intro (show Region.lexB _ _ = true by kernel_rfl) ?_); conv => whnf)))
  refine HIf.dec (fun hlt => ?_) (fun hge => ?_)
  · (conv => whnf)
    (repeat (first | (refine ⟨rfl, Ints.len (by assumption) ?_⟩; conv => whnf) | (refine ⟨rfl, Rows.len (by assumption) ?_⟩; conv => whnf) | (refine ⟨rfl, HLen.sl ?_⟩; conv => whnf) | (refine ⟨rfl, At.load (by assumption) ?_⟩; conv => whnf) | (refine HIf.yes ?_; conv => whnf) | (refine HIf.no ?_; conv => whnf) | (refine HIf.isT (by assumption) ?_; conv => whnf) | (refine HIf.isF (by assumption) ?_; conv => whnf) | (refine HIf.decT (by assumption) ?_; conv => whnf) | (refine HIf.decF (by assumption) ?_; conv => whnf) | (refine HIf.beqT (by assumption) ?_; conv => whnf) | (refine HIf.beqF (by assumption) ?_; conv => whnf) | (refine HIf.bneT (by assumption) ?_; conv => whnf) | (refine HIf.bneF (by assumption) ?_; conv => whnf) | (refine ⟨rfl, Ints.idxN (by assumption) (by omega) (fun p hp => ?_)⟩; conv => whnf) | (refine ⟨rfl, Rows.idxN (by assumption) (by omega) (fun p y hp hy => ?_)⟩; conv => whnf) | (refine And.intro (show Kd.isBool _ = true from rfl) ?_; conv => whnf) | (refine ⟨rfl, Ints.idx (by assumption) (by omega) (by omega) (fun p hp => ?_)⟩; conv => whnf) | (refine ⟨rfl, Rows.idx (by assumption) (by omega) (by omega) (fun p y hp hy => ?_)⟩; conv => whnf) | (refine HArith.fits (by omega) (by omega) ?_; conv => whnf) | (refine Or.inl (And.intro (show Region.lexB _ _ = true by kernel_rfl) ?_); conv => whnf)))
    refine HIf.bne (fun hne => ?_) (fun he => ?_)
    · (conv => whnf)
      exact ⟨fin false (by simp [isCartan, not_square (c := c) (i := i) (by omega) (by omega)]), rfl⟩
    · (conv => whnf)
      (repeat (first | (refine ⟨rfl, Ints.len (by assumption) ?_⟩; conv => whnf) | (refine ⟨rfl, Rows.len (by assumption) ?_⟩; conv => whnf) | (refine ⟨rfl, HLen.sl ?_⟩; conv => whnf) | (refine ⟨rfl, At.load (by assumption) ?_⟩; conv => whnf) | (refine HIf.yes ?_; conv => whnf) | (refine HIf.no ?_; conv => whnf) | (refine HIf.isT (by assumption) ?_; conv => whnf) | (refine HIf.isF (by assumption) ?_; conv => whnf) | (refine HIf.decT (by assumption) ?_; conv => whnf) | (refine HIf.decF (by assumption) ?_; conv => whnf) | (refine HIf.beqT (by assumption) ?_; conv => whnf) | (refine HIf.beqF (by assumption) ?_; conv => whnf) | (refine HIf.bneT (by assumption) ?_; conv => whnf) | (refine HIf.bneF (by assumption) ?_; conv => whnf) | (refine ⟨rfl, Ints.idxN (by assumption) (by omega) (fun p hp => ?_)⟩; conv => whnf) | (refine ⟨rfl, Rows.idxN (by assumption) (by omega) (fun p y hp hy => ?_)⟩; conv => whnf) | (refine And.intro (show Kd.isBool _ = true from rfl) ?_; conv => whnf) | (refine ⟨rfl, Ints.idx (by assumption) (by omega) (by omega) (fun p hp => ?_)⟩; conv => whnf) | (refine ⟨rfl, Rows.idx (by assumption) (by omega) (by omega) (fun p y hp hy => ?_)⟩; conv => whnf) | (refine HArith.fits (by omega) (by omega) ?_; conv => whnf) | (refine Or.inl (And.intro (show Region.lexB _ _ = true by kernel_rfl) ?_); conv => whnf)))
      refine ⟨⟨i + 1, rfl, rfl, by omega, fun j hj => ?_⟩, by show c.length - (i + 1) < c.length - i; omega⟩
      by_cases hji : j = i
      · subst hji; omega
      · exact hall j (by omega)
  have hrow : ∀ j, j < c.length → (c.getD j []).length = c.length := fun j hj => hall j (by omega)
  have hsq := square_of hrow
  (conv => whnf)
  refine HLoop.intro [4] [20, 21, 22, 23, 5, 26, 27, 28, 29, 32, 33, 34, 35, 36, 37, 38, 39, 40, 41, 42, 43, 44, 45, 46, 47, 48, 49, 50, 51, 52, 53, 54, 55, 56, 57, 58, 59, 60, 61, 62, 63, 64, 65, 66, 67, 68, 69, 70, 71, 72, 73, 74, 75, 76, 77, 78, 79, 2, 30, 31, 5, 24, 25, 4] (by kernel_rfl) (by kernel_rfl) (fun vs h'' => ∃ i : Nat, vs = [I i] ∧ h'' = h' ∧ i ≤ c.length ∧ ∀ k, k < i → ∀ j, j < c.length → cartBad c k j = false) (fun vs _ => c.length - natAt vs 0) ⟨0, rfl, rfl, by omega, fun j hj => by omega⟩ ?_
  rintro vs h'' ⟨i, rfl, rfl, hi, hall⟩
  (conv => whnf)
  (repeat (first | (refine ⟨rfl, Ints.len (by assumption) ?_⟩; conv => whnf) | (refine ⟨rfl, Rows.len (by assumption) ?_⟩; conv => whnf) | (refine ⟨rfl, HLen.sl ?_⟩; conv => whnf) | (refine ⟨rfl, At.load (by assumption) ?_⟩; conv => whnf) | (refine HIf.yes ?_; conv => whnf) | (refine HIf.no ?_; conv => whnf) | (refine HIf.isT (by assumption) ?_; conv => whnf) | (refine HIf.isF (by assumption) ?_; conv => whnf) | (refine HIf.decT (by assumption) ?_; conv => whnf) | (refine HIf.decF (by assumption) ?_; conv => whnf) | (refine HIf.beqT (by assumption) ?_; conv => whnf) | (refine HIf.beqF (by assumption) ?_; conv => whnf) | (refine HIf.bneT (by assumption) ?_; conv => whnf) | (refine HIf.bneF (by assumption) ?_; conv => whnf) | (refine ⟨rfl, Ints.idxN (by assumption) (by omega) (fun p hp => ?_)⟩; conv => whnf) | (refine ⟨rfl, Rows.idxN (by assumption) (by omega) (fun p y hp hy => ?_)⟩; conv => whnf) | (refine And.intro (show Kd.isBool _ = true from rfl) ?_; conv => whnf) | (refine ⟨rfl, Ints.idx (by assumption) (by omega) (by omega) (fun p hp => ?_)⟩; conv => whnf) | (refine ⟨rfl, Rows.idx (by assumption) (by omega) (by omega) (fun p y hp hy => ?_)⟩; conv => whnf) | (refine HArith.fits (by omega) (by omega) ?_; conv => whnf) | (refine Or.inl (And.intro (show Region.lexB _ _ = true by kernel_rfl) ?_); conv => whnf)))
  refine HIf.dec (fun hlt => ?_) (fun hge => ?_)
  · (conv => whnf)
    refine HLoop.intro [5] [26, 27, 28, 29, 32, 33, 34, 35, 36, 37, 38, 39, 40, 41, 42, 43, 44, 45, 46, 47, 48, 49, 50, 51, 52, 53, 54, 55, 56, 57, 58, 59, 60, 61, 62, 63, 64, 65, 66, 67, 68, 69, 70, 71, 72, 73, 74, 75, 76, 77, 78, 79, 2, 30, 31, 5] (by kernel_rfl) (by kernel_rfl) (fun vs h' => ∃ j : Nat, vs = [I j] ∧ h' = h'' ∧ j ≤ c.length ∧ ∀ k, k < j → cartBad c i k = false) (fun vs _ => c.length - natAt vs 0) ⟨0, rfl, rfl, by omega, fun j hj => by omega⟩ ?_
    rintro vs h' ⟨j, rfl, rfl, hj, hin⟩
    (conv => whnf)
    (repeat (first | (refine ⟨rfl, Ints.len (by assumption) ?_⟩; conv => whnf) | (refine ⟨rfl, Rows.len (by assumption) ?_⟩; conv => whnf) | (refine ⟨rfl, HLen.sl ?_⟩; conv => whnf) | (refine ⟨rfl, At.load (by assumption) ?_⟩; conv => whnf) | (refine HIf.yes ?_; conv => whnf) | (refine HIf.no ?_; conv => whnf) | (refine HIf.isT (by assumption) ?_; conv => whnf) | (refine HIf.isF (by assumption) ?_; conv => whnf) | (refine HIf.decT (by assumption) ?_; conv => whnf) | (refine HIf.decF (by assumption) ?_; conv => whnf) | (refine HIf.beqT (by assumption) ?_; conv => whnf) | (refine HIf.beqF (by assumption) ?_; conv => whnf) | (refine HIf.bneT (by assumption) ?_; conv => whnf) | (refine HIf.bneF (by assumption) ?_; conv => whnf) | (refine ⟨rfl, Ints.idxN (by assumption) (by omega) (fun p hp => ?_)⟩; conv => whnf) | (refine ⟨rfl, Rows.idxN (by assumption) (by omega) (fun p y hp hy => ?_)⟩; conv => whnf) | (refine And.intro (show Kd.isBool _ = true from rfl) ?_; conv => whnf) | (refine ⟨rfl, Ints.idx (by assumption) (by omega) (by omega) (fun p hp => ?_)⟩; conv => whnf) | (refine ⟨rfl, Rows.idx (by assumption) (by omega) (by omega) (fun p y hp hy => ?_)⟩; conv => whnf) | (refine HArith.fits (by omega) (by omega) ?_; conv => whnf) | (refine Or.inl (And.intro (show Region.lexB _ _ = true by kernel_rfl) ?_); conv => whnf)))
    refine HIf.dec (fun hlj => ?_) (fun hgj => ?_)
    · have hri := hrow i (by omega)
      have hrj := hrow j (by omega)
      (conv => whnf)
      refine Or.inl (And.intro (show Region.lexB _ _ = true by kernel_rfl) ?_); (conv => whnf)
      by_cases e1 : (i : Int) = j
      · have e1' : ¬ (i : Int) ≠ j := fun h => h e1
        (repeat' (first | (refine HCallQ.of _ (spec_l1In _ _ _ _) (fun x h' e => e.1) ?_; conv => whnf) | (refine ⟨rfl, Ints.len (by assumption) ?_⟩; conv => whnf) | (refine ⟨rfl, Rows.len (by assumption) ?_⟩; conv => whnf) | (refine ⟨rfl, HLen.sl ?_⟩; conv => whnf) | (refine ⟨rfl, At.load (by assumption) ?_⟩; conv => whnf) | (refine HIf.yes ?_; conv => whnf) | (refine HIf.no ?_; conv => whnf) | (refine HIf.isT (by assumption) ?_; conv => whnf) | (refine HIf.isF (by assumption) ?_; conv => whnf) | (refine HIf.decT (by assumption) ?_; conv => whnf) | (refine HIf.decF (by assumption) ?_; conv => whnf) | (refine HIf.beqT (by assumption) ?_; conv => whnf) | (refine HIf.beqF (by assumption) ?_; conv => whnf) | (refine HIf.bneT (by assumption) ?_; conv => whnf) | (refine HIf.bneF (by assumption) ?_; conv => whnf) | (refine ⟨rfl, Ints.idxN (by assumption) (by omega) (fun p hp => ?_)⟩; conv => whnf) | (refine ⟨rfl, Rows.idxN (by assumption) (by omega) (fun p y hp hy => ?_)⟩; conv => whnf) | (refine And.intro (show Kd.isBool _ = true from rfl) ?_; conv => whnf) | (refine ⟨rfl, Ints.idx (by assumption) (by omega) (by omega) (fun p hp => ?_)⟩; conv => whnf) | (refine ⟨rfl, Rows.idx (by assumption) (by omega) (by omega) (fun p y hp hy => ?_)⟩; conv => whnf) | (refine HArith.fits (by omega) (by omega) ?_; conv => whnf) | (refine Or.inl (And.intro (show Region.lexB _ _ = true by kernel_rfl) ?_); conv => whnf) | (refine HIf.beq (fun _ => ?_) (fun _ => ?_) <;> (conv => whnf)) | (refine HIf.bne (fun _ => ?_) (fun _ => ?_) <;> (conv => whnf)) | (refine HIf.dec (fun _ => ?_) (fun _ => ?_) <;> (conv => whnf)) | (refine HIf.split (fun _ => ?_) (fun _ => ?_) <;> (conv => whnf))))
        all_goals first
          | (refine ⟨fin false ?_, rfl⟩
             simp only [isCartan, Bool.and_eq_false_iff]
             refine Or.inr (not_cartIn (i := i) (j := j) (by omega) (by omega) ?_)
             simp_all [cartBad, ent]
             try omega)
          | (refine ⟨⟨j + 1, rfl, rfl, by omega, fun k hk => ?_⟩, by show c.length - (j + 1) < c.length - j; omega⟩
             by_cases hkj : k = j
             · subst hkj
               simp_all [cartBad, ent]
               try omega
             · exact hin k (by omega))
      · have e1' : (i : Int) ≠ j := e1
        (repeat' (first | (refine HCallQ.of _ (spec_l1In _ _ _ _) (fun x h' e => e.1) ?_; conv => whnf) | (refine ⟨rfl, Ints.len (by assumption) ?_⟩; conv => whnf) | (refine ⟨rfl, Rows.len (by assumption) ?_⟩; conv => whnf) | (refine ⟨rfl, HLen.sl ?_⟩; conv => whnf) | (refine ⟨rfl, At.load (by assumption) ?_⟩; conv => whnf) | (refine HIf.yes ?_; conv => whnf) | (refine HIf.no ?_; conv => whnf) | (refine HIf.isT (by assumption) ?_; conv => whnf) | (refine HIf.isF (by assumption) ?_; conv => whnf) | (refine HIf.decT (by assumption) ?_; conv => whnf) | (refine HIf.decF (by assumption) ?_; conv => whnf) | (refine HIf.beqT (by assumption) ?_; conv => whnf) | (refine HIf.beqF (by assumption) ?_; conv => whnf) | (refine HIf.bneT (by assumption) ?_; conv => whnf) | (refine HIf.bneF (by assumption) ?_; conv => whnf) | (refine ⟨rfl, Ints.idxN (by assumption) (by omega) (fun p hp => ?_)⟩; conv => whnf) | (refine ⟨rfl, Rows.idxN (by assumption) (by omega) (fun p y hp hy => ?_)⟩; conv => whnf) | (refine And.intro (show Kd.isBool _ = true from rfl) ?_; conv => whnf) | (refine ⟨rfl, Ints.idx (by assumption) (by omega) (by omega) (fun p hp => ?_)⟩; conv => whnf) | (refine ⟨rfl, Rows.idx (by assumption) (by omega) (by omega) (fun p y hp hy => ?_)⟩; conv => whnf) | (refine HArith.fits (by omega) (by omega) ?_; conv => whnf) | (refine Or.inl (And.intro (show Region.lexB _ _ = true by kernel_rfl) ?_); conv => whnf) | (refine HIf.beq (fun _ => ?_) (fun _ => ?_) <;> (conv => whnf)) | (refine HIf.bne (fun _ => ?_) (fun _ => ?_) <;> (conv => whnf)) | (refine HIf.dec (fun _ => ?_) (fun _ => ?_) <;> (conv => whnf)) | (refine HIf.split (fun _ => ?_) (fun _ => ?_) <;> (conv => whnf))))
        all_goals first
          | (refine ⟨fin false ?_, rfl⟩
             simp only [isCartan, Bool.and_eq_false_iff]
             refine Or.inr (not_cartIn (i := i) (j := j) (by omega) (by omega) ?_)
             simp_all [cartBad, ent]
             try omega)
          | (refine ⟨⟨j + 1, rfl, rfl, by omega, fun k hk => ?_⟩, by show c.length - (j + 1) < c.length - j; omega⟩
             by_cases hkj : k = j
             · subst hkj
               simp_all [cartBad, ent]
               try omega
             · exact hin k (by omega))
    · (conv => whnf)
      (repeat (first | (refine ⟨rfl, Ints.len (by assumption) ?_⟩; conv => whnf) | (refine ⟨rfl, Rows.len (by assumption) ?_⟩; conv => whnf) | (refine ⟨rfl, HLen.sl ?_⟩; conv => whnf) | (refine ⟨rfl, At.load (by assumption) ?_⟩; conv => whnf) | (refine HIf.yes ?_; conv => whnf) | (refine HIf.no ?_; conv => whnf) | (refine HIf.isT (by assumption) ?_; conv => whnf) | (refine HIf.isF (by assumption) ?_; conv => whnf) | (refine HIf.decT (by assumption) ?_; conv => whnf) | (refine HIf.decF (by assumption) ?_; conv => whnf) | (refine HIf.beqT (by assumption) ?_; conv => whnf) | (refine HIf.beqF (by assumption) ?_; conv => whnf) | (refine HIf.bneT (by assumption) ?_; conv => whnf) | (refine HIf.bneF (by assumption) ?_; conv => whnf) | (refine ⟨rfl, Ints.idxN (by assumption) (by omega) (fun p hp => ?_)⟩; conv => whnf) | (refine ⟨rfl, Rows.idxN (by assumption) (by omega) (fun p y hp hy => ?_)⟩; conv => whnf) | (refine And.intro (show Kd.isBool _ = true from rfl) ?_; conv => whnf) | (refine ⟨rfl, Ints.idx (by assumption) (by omega) (by omega) (fun p hp => ?_)⟩; conv => whnf) | (refine ⟨rfl, Rows.idx (by assumption) (by omega) (by omega) (fun p y hp hy => ?_)⟩; conv => whnf) | (refine HArith.fits (by omega) (by omega) ?_; conv => whnf) | (refine Or.inl (And.intro (show Region.lexB _ _ = true by kernel_rfl) ?_); conv => whnf)))
      refine ⟨⟨i + 1, rfl, rfl, by omega, fun k hk j' hj' => ?_⟩, by show c.length - (i + 1) < c.length - i; omega⟩
      by_cases hki : k = i
      · subst hki; exact hin j' (by omega)
      · exact hall k (by omega) j' hj'
  · (conv => whnf)
    (repeat (first | (refine ⟨rfl, Ints.len (by assumption) ?_⟩; conv => whnf) | (refine ⟨rfl, Rows.len (by assumption) ?_⟩; conv => whnf) | (refine ⟨rfl, HLen.sl ?_⟩; conv => whnf) | (refine ⟨rfl, At.load (by assumption) ?_⟩; conv => whnf) | (refine HIf.yes ?_; conv => whnf) | (refine HIf.no ?_; conv => whnf) | (refine HIf.isT (by assumption) ?_; conv => whnf) | (refine HIf.isF (by assumption) ?_; conv => whnf) | (refine HIf.decT (by assumption) ?_; conv => whnf) | (refine HIf.decF (by assumption) ?_; conv => whnf) | (refine HIf.beqT (by assumption) ?_; conv => whnf) | (refine HIf.beqF (by assumption) ?_; conv => whnf) | (refine HIf.bneT (by assumption) ?_; conv => whnf) | (refine HIf.bneF (by assumption) ?_; conv => whnf) | (refine ⟨rfl, Ints.idxN (by assumption) (by omega) (fun p hp => ?_)⟩; conv => whnf) | (refine ⟨rfl, Rows.idxN (by assumption) (by omega) (fun p y hp hy => ?_)⟩; conv => whnf) | (refine And.intro (show Kd.isBool _ = true from rfl) ?_; conv => whnf) | (refine ⟨rfl, Ints.idx (by assumption) (by omega) (by omega) (fun p hp => ?_)⟩; conv => whnf) | (refine ⟨rfl, Rows.idx (by assumption) (by omega) (by omega) (fun p y hp hy => ?_)⟩; conv => whnf) | (refine HArith.fits (by omega) (by omega) ?_; conv => whnf) | (refine Or.inl (And.intro (show Region.lexB _ _ = true by kernel_rfl) ?_); conv => whnf)))
    refine (spec_l1In _ _ _ _).mono ?_
    rintro r h' ⟨rfl, rfl⟩
    (conv => whnf)
    exact ⟨by rw [isCartan_len c hsq (cartIn_of (c := c) (fun k hk j hj => hall k (by omega) j hj))]; rfl, rfl⟩

theorem impl_isPoint (h : Heap) (x : H0) (c : List (List Int)) (i : Int) (hx : Rows h x c) : HCalls dm Try.prog 99 [.s x, I i] h (fun r h' => r = B (isPoint c i) ∧ h' = h) := by
  refine calls_of_hFun (m := 0) kd_ok mixed Try.func99 rfl (by kernel_rfl) rfl rfl (of_decide_eq_true rfl) ?_; unfold hFun; (conv => whnf)
  by_cases h1 : i ≥ 0 <;> (repeat (first | (refine ⟨rfl, Ints.len (by assumption) ?_⟩; conv => whnf) | (refine ⟨rfl, Rows.len (by assumption) ?_⟩; conv => whnf) | (refine ⟨rfl, HLen.sl ?_⟩; conv => whnf) | (refine ⟨rfl, At.load (by assumption) ?_⟩; conv => whnf) | (refine HIf.yes ?_; conv => whnf) | (refine HIf.no ?_; conv => whnf) | (refine HIf.isT (by assumption) ?_; conv => whnf) | (refine HIf.isF (by assumption) ?_; conv => whnf) | (refine HIf.decT (by assumption) ?_; conv => whnf) | (refine HIf.decF (by assumption) ?_; conv => whnf) | (refine HIf.beqT (by assumption) ?_; conv => whnf) | (refine HIf.beqF (by assumption) ?_; conv => whnf) | (refine HIf.bneT (by assumption) ?_; conv => whnf) | (refine HIf.bneF (by assumption) ?_; conv => whnf) | (refine ⟨rfl, Ints.idxN (by assumption) (by omega) (fun p hp => ?_)⟩; conv => whnf) | (refine ⟨rfl, Rows.idxN (by assumption) (by omega) (fun p y hp hy => ?_)⟩; conv => whnf) | (refine And.intro (show Kd.isBool _ = true from rfl) ?_; conv => whnf) | (refine ⟨rfl, Ints.idx (by assumption) (by omega) (by omega) (fun p hp => ?_)⟩; conv => whnf) | (refine ⟨rfl, Rows.idx (by assumption) (by omega) (by omega) (fun p y hp hy => ?_)⟩; conv => whnf) | (refine HArith.fits (by omega) (by omega) ?_; conv => whnf) | (refine Or.inl (And.intro (show Region.lexB _ _ = true by kernel_rfl) ?_); conv => whnf)))
  · exact ⟨by rw [inRange_iff]; simp [h1], rfl⟩
  · exact ⟨by rw [inRange_iff]; simp [h1], rfl⟩

end Go.Proofs.Ytjgnnjegaedinaa.Hx

namespace Go.Proofs.Ytjgnnjegaedinaa.Hx
open Go.RowKit
variable {dm : Bool}
theorem decNat (a b : Nat) : ((a : Int) == (b : Int)) = decide (a = b) := by
  by_cases h : a = b
  · simp [h]
  · simp [h]; omega


theorem spec_IsWord (h : Heap) (x y : H0) (c : List (List Int)) (v : List Int) (hx : Rows h x c) (hy : Ints h y v) (hc : c.length ≤ 2199023255552) (hv : v.length ≤ 2199023255552) :
    HCalls dm Try.prog 48 [.s x, .s y] h (fun r h' => r = B (isWord c v) ∧ h' = h) := by
  refine calls_of_hFun (m := 0) kd_ok mixed Try.func48 rfl (by kernel_rfl) rfl rfl (of_decide_eq_true rfl) ?_; unfold hFun; (conv => whnf)
  refine HLoop.intro [5] [6, 7, 8, 9, 12, 13, 14, 15, 16, 17, 18, 19, 20, 4, 10, 11, 5] (by kernel_rfl) (by kernel_rfl) (fun vs h' => ∃ i : Nat, vs = [I i] ∧ h' = h ∧ i ≤ v.length ∧ ∀ j, j < i → 0 ≤ v.getD j 0 ∧ v.getD j 0 < c.length) (fun vs _ => v.length - natAt vs 0) ⟨0, rfl, rfl, by omega, fun j hj => by omega⟩ ?_
  rintro vs h' ⟨i, rfl, rfl, hi, hall⟩
  (conv => whnf)
  (repeat (first | (refine ⟨rfl, Ints.len (by assumption) ?_⟩; conv => whnf) | (refine ⟨rfl, Rows.len (by assumption) ?_⟩; conv => whnf) | (refine ⟨rfl, HLen.sl ?_⟩; conv => whnf) | (refine ⟨rfl, At.load (by assumption) ?_⟩; conv => whnf) | (refine HIf.yes ?_; conv => whnf) | (refine HIf.no ?_; conv => whnf) | (refine HIf.isT (by assumption) ?_; conv => whnf) | (refine HIf.isF (by assumption) ?_; conv => whnf) | (refine HIf.decT (by assumption) ?_; conv => whnf) | (refine HIf.decF (by assumption) ?_; conv => whnf) | (refine HIf.beqT (by assumption) ?_; conv => whnf) | (refine HIf.beqF (by assumption) ?_; conv => whnf) | (refine HIf.bneT (by assumption) ?_; conv => whnf) | (refine HIf.bneF (by assumption) ?_; conv => whnf) | (refine ⟨rfl, Ints.idxN (by assumption) (by omega) (fun p hp => ?_)⟩; conv => whnf) | (refine ⟨rfl, Rows.idxN (by assumption) (by omega) (fun p y hp hy => ?_)⟩; conv => whnf) | (refine And.intro (show Kd.isBool _ = true from rfl) ?_; conv => whnf) | (refine ⟨rfl, Ints.idx (by assumption) (by omega) (by omega) (fun p hp => ?_)⟩; conv => whnf) | (refine ⟨rfl, Rows.idx (by assumption) (by omega) (by omega) (fun p y hp hy => ?_)⟩; conv => whnf) | (refine HArith.fits (by omega) (by omega) ?_; conv => whnf) | (refine Or.inl (And.intro (show Region.lexB _ _ = true by kernel_rfl) ?_); conv => whnf)))
  refine HIf.dec (fun hlt => ?_) (fun hge => ?_)
  · (conv => whnf)
    (repeat (first | (refine ⟨rfl, Ints.len (by assumption) ?_⟩; conv => whnf) | (refine ⟨rfl, Rows.len (by assumption) ?_⟩; conv => whnf) | (refine ⟨rfl, HLen.sl ?_⟩; conv => whnf) | (refine ⟨rfl, At.load (by assumption) ?_⟩; conv => whnf) | (refine HIf.yes ?_; conv => whnf) | (refine HIf.no ?_; conv => whnf) | (refine HIf.isT (by assumption) ?_; conv => whnf) | (refine HIf.isF (by assumption) ?_; conv => whnf) | (refine HIf.decT (by assumption) ?_; conv => whnf) | (refine HIf.decF (by assumption) ?_; conv => whnf) | (refine HIf.beqT (by assumption) ?_; conv => whnf) | (refine HIf.beqF (by assumption) ?_; conv => whnf) | (refine HIf.bneT (by assumption) ?_; conv => whnf) | (refine HIf.bneF (by assumption) ?_; conv => whnf) | (refine ⟨rfl, Ints.idxN (by assumption) (by omega) (fun p hp => ?_)⟩; conv => whnf) | (refine ⟨rfl, Rows.idxN (by assumption) (by omega) (fun p y hp hy => ?_)⟩; conv => whnf) | (refine And.intro (show Kd.isBool _ = true from rfl) ?_; conv => whnf) | (refine ⟨rfl, Ints.idx (by assumption) (by omega) (by omega) (fun p hp => ?_)⟩; conv => whnf) | (refine ⟨rfl, Rows.idx (by assumption) (by omega) (by omega) (fun p y hp hy => ?_)⟩; conv => whnf) | (refine HArith.fits (by omega) (by omega) ?_; conv => whnf) | (refine Or.inl (And.intro (show Region.lexB _ _ = true by kernel_rfl) ?_); conv => whnf)))
    refine (spec_l1In _ _ _ _).mono ?_
    rintro r h' ⟨rfl, rfl⟩
    (conv => whnf)
    refine HIf.split (fun hb => ?_) (fun hb => ?_)
    · have hb := l1_not hb
      (conv => whnf)
      exact ⟨bEq (isWord_bad (not_letters (w := v) (i := i) (by omega) (by omega))), rfl⟩
    · have hb := l1_yes hb
      (conv => whnf)
      (repeat (first | (refine ⟨rfl, Ints.len (by assumption) ?_⟩; conv => whnf) | (refine ⟨rfl, Rows.len (by assumption) ?_⟩; conv => whnf) | (refine ⟨rfl, HLen.sl ?_⟩; conv => whnf) | (refine ⟨rfl, At.load (by assumption) ?_⟩; conv => whnf) | (refine HIf.yes ?_; conv => whnf) | (refine HIf.no ?_; conv => whnf) | (refine HIf.isT (by assumption) ?_; conv => whnf) | (refine HIf.isF (by assumption) ?_; conv => whnf) | (refine HIf.decT (by assumption) ?_; conv => whnf) | (refine HIf.decF (by assumption) ?_; conv => whnf) | (refine HIf.beqT (by assumption) ?_; conv => whnf) | (refine HIf.beqF (by assumption) ?_; conv => whnf) | (refine HIf.bneT (by assumption) ?_; conv => whnf) | (refine HIf.bneF (by assumption) ?_; conv => whnf) | (refine ⟨rfl, Ints.idxN (by assumption) (by omega) (fun p hp => ?_)⟩; conv => whnf) | (refine ⟨rfl, Rows.idxN (by assumption) (by omega) (fun p y hp hy => ?_)⟩; conv => whnf) | (refine And.intro (show Kd.isBool _ = true from rfl) ?_; conv => whnf) | (refine ⟨rfl, Ints.idx (by assumption) (by omega) (by omega) (fun p hp => ?_)⟩; conv => whnf) | (refine ⟨rfl, Rows.idx (by assumption) (by omega) (by omega) (fun p y hp hy => ?_)⟩; conv => whnf) | (refine HArith.fits (by omega) (by omega) ?_; conv => whnf) | (refine Or.inl (And.intro (show Region.lexB _ _ = true by kernel_rfl) ?_); conv => whnf)))
      refine ⟨⟨i + 1, rfl, rfl, by omega, fun j hj => ?_⟩, by show v.length - (i + 1) < v.length - i; omega⟩
      by_cases hji : j = i
      · subst hji; omega
      · exact hall j (by omega)
  · have he := isWord_eq (c := c) (letters_of (c := c) (w := v) (fun j hj => hall j (by omega)))
    (conv => whnf)
    refine (spec_IsCartan _ _ _ hx hc).mono ?_
    rintro r h' ⟨rfl, rfl⟩
    (conv => whnf)
    cases hic : isCartan c <;> (repeat (first | (refine ⟨rfl, Ints.len (by assumption) ?_⟩; conv => whnf) | (refine ⟨rfl, Rows.len (by assumption) ?_⟩; conv => whnf) | (refine ⟨rfl, HLen.sl ?_⟩; conv => whnf) | (refine ⟨rfl, At.load (by assumption) ?_⟩; conv => whnf) | (refine HIf.yes ?_; conv => whnf) | (refine HIf.no ?_; conv => whnf) | (refine HIf.isT (by assumption) ?_; conv => whnf) | (refine HIf.isF (by assumption) ?_; conv => whnf) | (refine HIf.decT (by assumption) ?_; conv => whnf) | (refine HIf.decF (by assumption) ?_; conv => whnf) | (refine HIf.beqT (by assumption) ?_; conv => whnf) | (refine HIf.beqF (by assumption) ?_; conv => whnf) | (refine HIf.bneT (by assumption) ?_; conv => whnf) | (refine HIf.bneF (by assumption) ?_; conv => whnf) | (refine ⟨rfl, Ints.idxN (by assumption) (by omega) (fun p hp => ?_)⟩; conv => whnf) | (refine ⟨rfl, Rows.idxN (by assumption) (by omega) (fun p y hp hy => ?_)⟩; conv => whnf) | (refine And.intro (show Kd.isBool _ = true from rfl) ?_; conv => whnf) | (refine ⟨rfl, Ints.idx (by assumption) (by omega) (by omega) (fun p hp => ?_)⟩; conv => whnf) | (refine ⟨rfl, Rows.idx (by assumption) (by omega) (by omega) (fun p y hp hy => ?_)⟩; conv => whnf) | (refine HArith.fits (by omega) (by omega) ?_; conv => whnf) | (refine Or.inl (And.intro (show Region.lexB _ _ = true by kernel_rfl) ?_); conv => whnf)))
    · exact ⟨bEq (by rw [he, hic]; rfl), rfl⟩
    · exact ⟨bEq (by rw [he, hic, Bool.true_and, decide_eq_decide]; omega), rfl⟩

theorem impl_isWordOf (h : Heap) (x y : H0) (c : List (List Int)) (v : List Int) (hx : Rows h x c) (hy : Ints h y v) (_hc : c.length ≤ 2199023255552) (hv : v.length ≤ 2199023255552) :
    HCalls dm Try.prog 79 [.s x, .s y] h (fun r h' => r = B (lettersOk c v) ∧ h' = h) := by
  refine calls_of_hFun (m := 0) kd_ok mixed Try.func79 rfl (by kernel_rfl) rfl rfl (of_decide_eq_true rfl) ?_; unfold hFun; (conv => whnf)
  (repeat (first | (refine ⟨rfl, Ints.len (by assumption) ?_⟩; conv => whnf) | (refine ⟨rfl, Rows.len (by assumption) ?_⟩; conv => whnf) | (refine ⟨rfl, HLen.sl ?_⟩; conv => whnf) | (refine ⟨rfl, At.load (by assumption) ?_⟩; conv => whnf) | (refine HIf.yes ?_; conv => whnf) | (refine HIf.no ?_; conv => whnf) | (refine HIf.isT (by assumption) ?_; conv => whnf) | (refine HIf.isF (by assumption) ?_; conv => whnf) | (refine HIf.decT (by assumption) ?_; conv => whnf) | (refine HIf.decF (by assumption) ?_; conv => whnf) | (refine HIf.beqT (by assumption) ?_; conv => whnf) | (refine HIf.beqF (by assumption) ?_; conv => whnf) | (refine HIf.bneT (by assumption) ?_; conv => whnf) | (refine HIf.bneF (by assumption) ?_; conv => whnf) | (refine ⟨rfl, Ints.idxN (by assumption) (by omega) (fun p hp => ?_)⟩; conv => whnf) | (refine ⟨rfl, Rows.idxN (by assumption) (by omega) (fun p y hp hy => ?_)⟩; conv => whnf) | (refine And.intro (show Kd.isBool _ = true from rfl) ?_; conv => whnf) | (refine ⟨rfl, Ints.idx (by assumption) (by omega) (by omega) (fun p hp => ?_)⟩; conv => whnf) | (refine ⟨rfl, Rows.idx (by assumption) (by omega) (by omega) (fun p y hp hy => ?_)⟩; conv => whnf) | (refine HArith.fits (by omega) (by omega) ?_; conv => whnf) | (refine Or.inl (And.intro (show Region.lexB _ _ = true by kernel_rfl) ?_); conv => whnf)))
  refine HLoop.intro [9] [10, 11, 12, 6, 13, 14, 15, 16, 4, 17, 9] (by kernel_rfl) (by kernel_rfl) (fun vs h'' => ∃ i : Nat, vs = [I i] ∧ h'' = h ∧ i ≤ v.length ∧ ∀ j, j < i → 0 ≤ v.getD j 0 ∧ v.getD j 0 < c.length) (fun vs _ => v.length - natAt vs 0) ⟨0, rfl, rfl, by omega, fun j hj => by omega⟩ ?_
  rintro vs h' ⟨i, rfl, rfl, hi, hall⟩
  (conv => whnf)
  refine HIf.dec (fun hlt => ?_) (fun hge => ?_)
  · (conv => whnf)
    (repeat (first | (refine ⟨rfl, Ints.len (by assumption) ?_⟩; conv => whnf) | (refine ⟨rfl, Rows.len (by assumption) ?_⟩; conv => whnf) | (refine ⟨rfl, HLen.sl ?_⟩; conv => whnf) | (refine ⟨rfl, At.load (by assumption) ?_⟩; conv => whnf) | (refine HIf.yes ?_; conv => whnf) | (refine HIf.no ?_; conv => whnf) | (refine HIf.isT (by assumption) ?_; conv => whnf) | (refine HIf.isF (by assumption) ?_; conv => whnf) | (refine HIf.decT (by assumption) ?_; conv => whnf) | (refine HIf.decF (by assumption) ?_; conv => whnf) | (refine HIf.beqT (by assumption) ?_; conv => whnf) | (refine HIf.beqF (by assumption) ?_; conv => whnf) | (refine HIf.bneT (by assumption) ?_; conv => whnf) | (refine HIf.bneF (by assumption) ?_; conv => whnf) | (refine ⟨rfl, Ints.idxN (by assumption) (by omega) (fun p hp => ?_)⟩; conv => whnf) | (refine ⟨rfl, Rows.idxN (by assumption) (by omega) (fun p y hp hy => ?_)⟩; conv => whnf) | (refine And.intro (show Kd.isBool _ = true from rfl) ?_; conv => whnf) | (refine ⟨rfl, Ints.idx (by assumption) (by omega) (by omega) (fun p hp => ?_)⟩; conv => whnf) | (refine ⟨rfl, Rows.idx (by assumption) (by omega) (by omega) (fun p y hp hy => ?_)⟩; conv => whnf) | (refine HArith.fits (by omega) (by omega) ?_; conv => whnf) | (refine Or.inl (And.intro (show Region.lexB _ _ = true by kernel_rfl) ?_); conv => whnf)))
    refine (impl_isPoint _ _ c _ hx).mono ?_
    rintro r h' ⟨rfl, rfl⟩
    (conv => whnf)
    refine HIf.bnot (HIf.split (fun hb => ?_) (fun hb => ?_))
    · have hb := point_of hb
      (conv => whnf)
      (repeat (first | (refine ⟨rfl, Ints.len (by assumption) ?_⟩; conv => whnf) | (refine ⟨rfl, Rows.len (by assumption) ?_⟩; conv => whnf) | (refine ⟨rfl, HLen.sl ?_⟩; conv => whnf) | (refine ⟨rfl, At.load (by assumption) ?_⟩; conv => whnf) | (refine HIf.yes ?_; conv => whnf) | (refine HIf.no ?_; conv => whnf) | (refine HIf.isT (by assumption) ?_; conv => whnf) | (refine HIf.isF (by assumption) ?_; conv => whnf) | (refine HIf.decT (by assumption) ?_; conv => whnf) | (refine HIf.decF (by assumption) ?_; conv => whnf) | (refine HIf.beqT (by assumption) ?_; conv => whnf) | (refine HIf.beqF (by assumption) ?_; conv => whnf) | (refine HIf.bneT (by assumption) ?_; conv => whnf) | (refine HIf.bneF (by assumption) ?_; conv => whnf) | (refine ⟨rfl, Ints.idxN (by assumption) (by omega) (fun p hp => ?_)⟩; conv => whnf) | (refine ⟨rfl, Rows.idxN (by assumption) (by omega) (fun p y hp hy => ?_)⟩; conv => whnf) | (refine And.intro (show Kd.isBool _ = true from rfl) ?_; conv => whnf) | (refine ⟨rfl, Ints.idx (by assumption) (by omega) (by omega) (fun p hp => ?_)⟩; conv => whnf) | (refine ⟨rfl, Rows.idx (by assumption) (by omega) (by omega) (fun p y hp hy => ?_)⟩; conv => whnf) | (refine HArith.fits (by omega) (by omega) ?_; conv => whnf) | (refine Or.inl (And.intro (show Region.lexB _ _ = true by kernel_rfl) ?_); conv => whnf)))
      refine ⟨⟨i + 1, rfl, rfl, by omega, fun j hj => ?_⟩, by show v.length - (i + 1) < v.length - i; omega⟩
      by_cases hji : j = i
      · subst hji; exact hb
      · exact hall j (by omega)
    · have hb := point_not hb
      (conv => whnf)
      exact ⟨bEq (not_letters (w := v) (i := i) (by omega) (by omega)), rfl⟩
  · have he := letters_of (c := c) (w := v) (fun j hj => hall j (by omega))
    (conv => whnf)
    exact ⟨bEq he, rfl⟩

theorem impl_IsWord (h : Heap) (x y : H0) (c : List (List Int)) (v : List Int) (hx : Rows h x c) (hy : Ints h y v) (hc : c.length ≤ 2199023255552) (hv : v.length ≤ 2199023255552) :
    HCalls dm Try.prog 46 [.s x, .s y] h (fun r h' => r = B (isWord c v) ∧ h' = h) := by
  refine calls_of_hFun (m := 0) kd_ok mixed Try.func46 rfl (by kernel_rfl) rfl rfl (of_decide_eq_true rfl) ?_; unfold hFun; (conv => whnf)
  refine (impl_IsCartan _ _ _ hx hc).mono ?_
  rintro r h' ⟨rfl, rfl⟩
  (conv => whnf)
  cases hic : isCartan c
  · (repeat (first | (refine ⟨rfl, Ints.len (by assumption) ?_⟩; conv => whnf) | (refine ⟨rfl, Rows.len (by assumption) ?_⟩; conv => whnf) | (refine ⟨rfl, HLen.sl ?_⟩; conv => whnf) | (refine ⟨rfl, At.load (by assumption) ?_⟩; conv => whnf) | (refine HIf.yes ?_; conv => whnf) | (refine HIf.no ?_; conv => whnf) | (refine HIf.isT (by assumption) ?_; conv => whnf) | (refine HIf.isF (by assumption) ?_; conv => whnf) | (refine HIf.decT (by assumption) ?_; conv => whnf) | (refine HIf.decF (by assumption) ?_; conv => whnf) | (refine HIf.beqT (by assumption) ?_; conv => whnf) | (refine HIf.beqF (by assumption) ?_; conv => whnf) | (refine HIf.bneT (by assumption) ?_; conv => whnf) | (refine HIf.bneF (by assumption) ?_; conv => whnf) | (refine ⟨rfl, Ints.idxN (by assumption) (by omega) (fun p hp => ?_)⟩; conv => whnf) | (refine ⟨rfl, Rows.idxN (by assumption) (by omega) (fun p y hp hy => ?_)⟩; conv => whnf) | (refine And.intro (show Kd.isBool _ = true from rfl) ?_; conv => whnf) | (refine ⟨rfl, Ints.idx (by assumption) (by omega) (by omega) (fun p hp => ?_)⟩; conv => whnf) | (refine ⟨rfl, Rows.idx (by assumption) (by omega) (by omega) (fun p y hp hy => ?_)⟩; conv => whnf) | (refine HArith.fits (by omega) (by omega) ?_; conv => whnf) | (refine Or.inl (And.intro (show Region.lexB _ _ = true by kernel_rfl) ?_); conv => whnf)))
    exact ⟨bEq (by simp [isWord, hic]), rfl⟩
  (repeat (first | (refine ⟨rfl, Ints.len (by assumption) ?_⟩; conv => whnf) | (refine ⟨rfl, Rows.len (by assumption) ?_⟩; conv => whnf) | (refine ⟨rfl, HLen.sl ?_⟩; conv => whnf) | (refine ⟨rfl, At.load (by assumption) ?_⟩; conv => whnf) | (refine HIf.yes ?_; conv => whnf) | (refine HIf.no ?_; conv => whnf) | (refine HIf.isT (by assumption) ?_; conv => whnf) | (refine HIf.isF (by assumption) ?_; conv => whnf) | (refine HIf.decT (by assumption) ?_; conv => whnf) | (refine HIf.decF (by assumption) ?_; conv => whnf) | (refine HIf.beqT (by assumption) ?_; conv => whnf) | (refine HIf.beqF (by assumption) ?_; conv => whnf) | (refine HIf.bneT (by assumption) ?_; conv => whnf) | (refine HIf.bneF (by assumption) ?_; conv => whnf) | (refine ⟨rfl, Ints.idxN (by assumption) (by omega) (fun p hp => ?_)⟩; conv => whnf) | (refine ⟨rfl, Rows.idxN (by assumption) (by omega) (fun p y hp hy => ?_)⟩; conv => whnf) | (refine And.intro (show Kd.isBool _ = true from rfl) ?_; conv => whnf) | (refine ⟨rfl, Ints.idx (by assumption) (by omega) (by omega) (fun p hp => ?_)⟩; conv => whnf) | (refine ⟨rfl, Rows.idx (by assumption) (by omega) (by omega) (fun p y hp hy => ?_)⟩; conv => whnf) | (refine HArith.fits (by omega) (by omega) ?_; conv => whnf) | (refine Or.inl (And.intro (show Region.lexB _ _ = true by kernel_rfl) ?_); conv => whnf)))
  by_cases h15 : (v.length : Int) ≤ 15
  · (repeat (first | (refine ⟨rfl, Ints.len (by assumption) ?_⟩; conv => whnf) | (refine ⟨rfl, Rows.len (by assumption) ?_⟩; conv => whnf) | (refine ⟨rfl, HLen.sl ?_⟩; conv => whnf) | (refine ⟨rfl, At.load (by assumption) ?_⟩; conv => whnf) | (refine HIf.yes ?_; conv => whnf) | (refine HIf.no ?_; conv => whnf) | (refine HIf.isT (by assumption) ?_; conv => whnf) | (refine HIf.isF (by assumption) ?_; conv => whnf) | (refine HIf.decT (by assumption) ?_; conv => whnf) | (refine HIf.decF (by assumption) ?_; conv => whnf) | (refine HIf.beqT (by assumption) ?_; conv => whnf) | (refine HIf.beqF (by assumption) ?_; conv => whnf) | (refine HIf.bneT (by assumption) ?_; conv => whnf) | (refine HIf.bneF (by assumption) ?_; conv => whnf) | (refine ⟨rfl, Ints.idxN (by assumption) (by omega) (fun p hp => ?_)⟩; conv => whnf) | (refine ⟨rfl, Rows.idxN (by assumption) (by omega) (fun p y hp hy => ?_)⟩; conv => whnf) | (refine And.intro (show Kd.isBool _ = true from rfl) ?_; conv => whnf) | (refine ⟨rfl, Ints.idx (by assumption) (by omega) (by omega) (fun p hp => ?_)⟩; conv => whnf) | (refine ⟨rfl, Rows.idx (by assumption) (by omega) (by omega) (fun p y hp hy => ?_)⟩; conv => whnf) | (refine HArith.fits (by omega) (by omega) ?_; conv => whnf) | (refine Or.inl (And.intro (show Region.lexB _ _ = true by kernel_rfl) ?_); conv => whnf)))
    refine (impl_isWordOf _ _ _ c v hx hy hc hv).mono ?_
    rintro r h' ⟨rfl, rfl⟩
    (conv => whnf)
    refine HIf.isT (decide_eq_true h15) ?_
    (conv => whnf)
    exact ⟨bEq (by simp only [isWord, hic, show v.length ≤ 15 by omega, decide_true, Bool.true_and]), rfl⟩
  · (repeat (first | (refine ⟨rfl, Ints.len (by assumption) ?_⟩; conv => whnf) | (refine ⟨rfl, Rows.len (by assumption) ?_⟩; conv => whnf) | (refine ⟨rfl, HLen.sl ?_⟩; conv => whnf) | (refine ⟨rfl, At.load (by assumption) ?_⟩; conv => whnf) | (refine HIf.yes ?_; conv => whnf) | (refine HIf.no ?_; conv => whnf) | (refine HIf.isT (by assumption) ?_; conv => whnf) | (refine HIf.isF (by assumption) ?_; conv => whnf) | (refine HIf.decT (by assumption) ?_; conv => whnf) | (refine HIf.decF (by assumption) ?_; conv => whnf) | (refine HIf.beqT (by assumption) ?_; conv => whnf) | (refine HIf.beqF (by assumption) ?_; conv => whnf) | (refine HIf.bneT (by assumption) ?_; conv => whnf) | (refine HIf.bneF (by assumption) ?_; conv => whnf) | (refine ⟨rfl, Ints.idxN (by assumption) (by omega) (fun p hp => ?_)⟩; conv => whnf) | (refine ⟨rfl, Rows.idxN (by assumption) (by omega) (fun p y hp hy => ?_)⟩; conv => whnf) | (refine And.intro (show Kd.isBool _ = true from rfl) ?_; conv => whnf) | (refine ⟨rfl, Ints.idx (by assumption) (by omega) (by omega) (fun p hp => ?_)⟩; conv => whnf) | (refine ⟨rfl, Rows.idx (by assumption) (by omega) (by omega) (fun p y hp hy => ?_)⟩; conv => whnf) | (refine HArith.fits (by omega) (by omega) ?_; conv => whnf) | (refine Or.inl (And.intro (show Region.lexB _ _ = true by kernel_rfl) ?_); conv => whnf)))
    exact ⟨bEq (by simp only [isWord, hic, show ¬ v.length ≤ 15 by omega, decide_false, Bool.and_false, Bool.false_and]), rfl⟩

end Go.Proofs.Ytjgnnjegaedinaa.Hx

namespace Go.Proofs.Ytjgnnjegaedinaa.Hx
open Go.RowKit
variable {dm : Bool}

/-- Rows from number a to number b (b not) may have changed, no other. -/
def Mid (h h' : Heap) (a b : Nat) : Prop := h'.length = h.length ∧ ∀ q, (q < a ∨ b ≤ q) → h'[q]? = h[q]?

/-- A slice of ints in a row of its own, of number between b and e. -/
def Own (b e : Nat) (h : Heap) (x : H0) (l : List Int) : Prop := ∃ r t, x = .sl r 0 l.length ∧ b ≤ r ∧ r < e ∧ h[r]? = some (.own (l.map ci ++ t))

theorem Fresh.own {h h' : Heap} {x : H0} {l : List Int} (H : Fresh h h' x l) : Own h.length h'.length h' x l := by
  obtain ⟨_, r, t, e, hr, hg⟩ := H
  exact ⟨r, t, e, hr, get_lt hg, hg⟩

theorem Own.ints {b e : Nat} {h : Heap} {x : H0} {l : List Int} (H : Own b e h x l) : Ints h x l := by
  obtain ⟨r, t, rfl, _, _, hr⟩ := H
  exact Ints.ofOwn hr

theorem Own.ext {b e : Nat} {h h' : Heap} {x : H0} {l : List Int} (H : Own b e h x l) (k : Ext h h') : Own b e h' x l := by
  obtain ⟨r, t, g1, g2, g3, hr⟩ := H
  exact ⟨r, t, g1, g2, g3, k.row hr⟩

theorem Own.mid {b e a c : Nat} {h h' : Heap} {x : H0} {l : List Int} (H : Own b e h x l) (k : Mid h h' a c) (o : e ≤ a ∨ c ≤ b) : Own b e h' x l := by
  obtain ⟨r, t, g1, g2, g3, hr⟩ := H
  exact ⟨r, t, g1, g2, g3, by rw [k.2 r (by omega)]; exact hr⟩

theorem Ext.mid {h h' h'' : Heap} {a c : Nat} (e : Ext h h') (k : Mid h' h'' a c) (o : h.length ≤ a) : Ext h h'' :=
  ⟨by rw [k.1]; exact e.1, fun r hr => by rw [k.2 r (by omega)]; exact e.2 r hr⟩

theorem Mid.refl (h : Heap) (a b : Nat) : Mid h h a b := ⟨rfl, fun _ _ => rfl⟩
theorem Mid.trans {h h' h'' : Heap} {a b : Nat} (m : Mid h h' a b) (k : Mid h' h'' a b) : Mid h h'' a b := ⟨by rw [k.1, m.1], fun q hq => by rw [k.2 q hq, m.2 q hq]⟩
theorem Mid.set (h : Heap) {a b r : Nat} (h1 : a ≤ r) (h2 : r < b) (x : Row) : Mid h (h.set r x) a b := ⟨by simp, fun q hq => by rw [List.getElem?_set_ne (by omega)]⟩

/-- A slice in row r whose parts are the slices in the rows that ρ names. -/
structure MatAt (h : Heap) (r : Nat) (ρ : Nat → Nat) (L : List (List Int)) : Prop where
  outer : ∃ cs, h[r]? = some (.own cs) ∧ L.length ≤ cs.length ∧ ∀ i, i < L.length → cs[i]? = some (.sl (ρ i) 0 (L.getD i []).length)
  inner : ∀ i, i < L.length → ∃ t, h[ρ i]? = some (.own ((L.getD i []).map ci ++ t))
  ne : ∀ i, i < L.length → ρ i ≠ r
  inj : ∀ i j, i < j → j < L.length → ρ i ≠ ρ j

theorem MatAt.rows {h : Heap} {r : Nat} {ρ : Nat → Nat} {L : List (List Int)} (H : MatAt h r ρ L) : Rows h (.sl r 0 L.length) L := by
  obtain ⟨cs, h1, h2, h3⟩ := H.outer
  refine ⟨(cs.drop 0).take L.length, Shows.own r 0 L.length cs h1 (by omega), by simp; omega, fun i y l hy hl => ?_⟩
  have hi : i < L.length := (List.getElem?_eq_some_iff.1 hl).1
  rw [List.drop_zero, List.getElem?_take_of_lt hi, h3 i hi] at hy
  cases hy
  obtain ⟨t, ht⟩ := H.inner i hi
  have e : L.getD i [] = l := by simp [List.getD, hl]
  rw [e] at ht ⊢
  exact Ints.ofOwn ht

def OwnM (b e : Nat) (h : Heap) (x : H0) (L : List (List Int)) : Prop := ∃ r ρ, x = .sl r 0 L.length ∧ b ≤ r ∧ r < e ∧ (∀ i, i < L.length → b ≤ ρ i ∧ ρ i < e) ∧ MatAt h r ρ L

theorem OwnM.rows {b e : Nat} {h : Heap} {x : H0} {L : List (List Int)} (H : OwnM b e h x L) : Rows h x L := by
  obtain ⟨r, ρ, rfl, _, _, _, m⟩ := H
  exact m.rows

theorem MatAt.move {h h' : Heap} {r : Nat} {ρ : Nat → Nat} {L : List (List Int)} (H : MatAt h r ρ L) (k : h'[r]? = h[r]?) (k2 : ∀ i, i < L.length → h'[ρ i]? = h[ρ i]?) : MatAt h' r ρ L := by
  obtain ⟨o, n, e, j⟩ := H
  refine ⟨?_, fun i hi => ?_, e, j⟩
  · rw [k]
    exact o
  · rw [k2 i hi]
    exact n i hi

theorem OwnM.ext {b e : Nat} {h h' : Heap} {x : H0} {L : List (List Int)} (H : OwnM b e h x L) (k : Ext h h') : OwnM b e h' x L := by
  obtain ⟨r, ρ, g1, g2, g3, g4, m⟩ := H
  refine ⟨r, ρ, g1, g2, g3, g4, m.move ?_ (fun i hi => ?_)⟩
  · obtain ⟨cs, h1, _⟩ := m.outer
    exact k.2 r (get_lt h1)
  · obtain ⟨t, h1⟩ := m.inner i hi
    exact k.2 _ (get_lt h1)

theorem OwnM.mid {b e a c : Nat} {h h' : Heap} {x : H0} {L : List (List Int)} (H : OwnM b e h x L) (k : Mid h h' a c) (o : e ≤ a ∨ c ≤ b) : OwnM b e h' x L := by
  obtain ⟨r, ρ, g1, g2, g3, g4, m⟩ := H
  exact ⟨r, ρ, g1, g2, g3, g4, m.move (k.2 r (by omega)) (fun i hi => k.2 _ (by have := g4 i hi; omega))⟩

/-- How many numbers a list of lists holds. -/
def tot : List (List Int) → Nat
  | [] => 0
  | l :: ls => l.length + tot ls

theorem tot_succ : ∀ (L : List (List Int)) (i : Nat), i < L.length → tot (L.take (i + 1)) = tot (L.take i) + (L.getD i []).length
  | [], i, h => by simp at h
  | l :: ls, 0, _ => by simp [tot]
  | l :: ls, i + 1, h => by
    have := tot_succ ls i (by simpa using h)
    simp only [List.take_succ_cons, tot, List.getD_cons_succ]
    omega

theorem tot_take_le : ∀ (L : List (List Int)) (i : Nat), tot (L.take i) ≤ tot L
  | [], i => by simp
  | l :: ls, 0 => by simp [tot]
  | l :: ls, i + 1 => by
    have := tot_take_le ls i
    simp only [List.take_succ_cons, tot]
    omega

theorem len_le_tot {L : List (List Int)} {i : Nat} (h : i < L.length) : tot (L.take i) + (L.getD i []).length ≤ tot L := by
  rw [← tot_succ L i h]
  exact tot_take_le L _

theorem tot_none : tot [] = 0 := rfl


theorem Ints.len_le {h : Heap} {x : H0} {l : List Int} (H : Ints h x l) {b : Nat} (hb : ∀ (r : Nat) (y : Row) (cs : List H0), h[r]? = some y → y.cells? = some cs → cs.length ≤ b) : l.length ≤ b := by
  have e : l.length = (l.map ci).length := by simp
  rw [e]
  unfold Ints at H
  generalize l.map ci = L at H
  cases H with
  | nils a c => simp
  | ro r off len cs hr hl => have := hb r _ cs hr rfl; simp; omega
  | own r off len cs hr hl => have := hb r _ cs hr rfl; simp; omega

end Go.Proofs.Ytjgnnjegaedinaa.Hx

namespace Go.Proofs.Ytjgnnjegaedinaa.Hx
open Go.RowKit
variable {dm : Bool}

/-- The marks of row j. -/
def mrkRow (k : Int) (L : List (List Int)) (j : Nat) : List Int := marks (k + tot (L.take j)) (L.getD j []).length
def mrk (k : Int) (L : List (List Int)) : List (List Int) := (List.range L.length).map (mrkRow k L)

theorem mrk_length (k : Int) (L : List (List Int)) : (mrk k L).length = L.length := by simp [mrk]
theorem mrk_get (k : Int) (L : List (List Int)) {i : Nat} (h : i < L.length) : (mrk k L).getD i [] = mrkRow k L i := by simp [mrk, List.getD, h]

theorem list_eq_of_getD {L M : List (List Int)} (h : L.length = M.length) (k : ∀ i, i < L.length → L.getD i [] = M.getD i []) : L = M := by
  apply List.ext_getElem h
  intro i h1 h2
  have := k i h1
  simpa [List.getD, h1, h2] using this

def nilS : H0 := .pl (.slice none 0 0)

theorem HMake.rows {l : Int} {h : Heap} {K : HV → Heap → Prop} (n : Nat) (hl : l = n) (hn : n ≤ 2 ^ 41) (hK : K (.s (.sl h.length 0 n)) (h ++ [.own (List.replicate n nilS)])) : HMake (.slice none 0 0) (I l) (I l) h K := by
  subst hl
  exact ⟨.i64, .i64, n, n, rfl, rfl, Nat.le_refl _, hn, hK⟩

end Go.Proofs.Ytjgnnjegaedinaa.Hx

namespace Go.Proofs.Ytjgnnjegaedinaa.Hx
open Go.RowKit
variable {dm : Bool}

/-- A simple root; nothing where no valid matrix or no point is told. -/
def simpleRoot (c : List (List Int)) (i : Int) : List Int := if isCartan c && isPoint c i then (List.replicate c.length (0 : Int)).set i.toNat 1 else []

theorem simpleRoot_length (c : List (List Int)) (i : Int) : (simpleRoot c i).length ≤ c.length := by
  unfold simpleRoot
  split <;> simp

theorem simple_cells (n : Nat) (i : Nat) : (List.replicate n (ci 0)).set i (ci 1) = ((List.replicate n (0 : Int)).set i 1).map ci := by
  rw [← List.map_replicate, List.map_set]

theorem Fresh.intro {h h' : Heap} {x : H0} {l : List Int} (n : Nat) (t : List H0) (cs : List H0) (hx : x = .sl h.length 0 n) (hn : n = l.length) (e : h' = h ++ [.own cs]) (hc : cs = l.map ci ++ t) : Fresh h h' x l := by
  subst e
  subst hx
  subst hn
  refine ⟨Ext.push _ _, h.length, t, rfl, Nat.le_refl _, ?_⟩
  rw [← hc]
  exact get_new _ _

theorem simpleRoot_eq {c : List (List Int)} {i : Int} (h1 : isCartan c = true) (h2 : isPoint c i = true) : simpleRoot c i = (List.replicate c.length (0 : Int)).set i.toNat 1 := by simp [simpleRoot, h1, h2]
theorem simpleRoot_none {c : List (List Int)} {i : Int} (h : isCartan c = false ∨ isPoint c i = false) : simpleRoot c i = [] := by
  unfold simpleRoot
  rcases h with h | h <;> simp [h]

theorem Fresh.none (h : Heap) {l : List Int} (e : l = []) : Fresh h (h ++ [.own []]) (.sl h.length 0 0) l := by
  subst e
  exact Fresh.new h []


end Go.Proofs.Ytjgnnjegaedinaa.Hx

namespace Go.Proofs.Ytjgnnjegaedinaa.Hx
open Go.RowKit
variable {dm : Bool}

theorem HApp.copy {h : Heap} {x : H0} {l : List Int} {K : HV → Heap → Prop} (hx : Ints h x l) (hl : l.length ≤ 2199023255552) (hK : ∀ h' y, Ext h h' → Own h.length h'.length h' y l → K (.s y) h') : HApp (h ++ [.own []]) (.s (.sl h.length 0 0)) (.s x) K := by
  refine ⟨l.map ci, Shows.ext hx (Ext.push _ _), ci_one l, [], rfl, get_new _ _, Nat.zero_le _, Or.inl ⟨by simpa using hl, ?_⟩⟩
  have e1 : 0 + (l.map ci).length = l.length := by simp
  rw [e1]
  refine hK _ _ (((Ext.push h _).set (Nat.le_refl _) _).pushed _) ⟨_, [], rfl, by simp, by simp, ?_⟩
  rw [List.append_nil, List.take_nil, List.nil_append]
  simp

/-- A literal of one number, appended to what one has. -/
theorem HApp.snoc {hb h : Heap} {y : H0} {l : List Int} {v : Int} {K : HV → Heap → Prop} (E : Ext hb h) (H : Own hb.length h.length h y l) (hl : l.length < 2199023255552) (hK : ∀ h' y', Ext hb h' → Own hb.length h'.length h' y' (l ++ [v]) → K (.s y') h') :
    HApp (h ++ [.own [ci v]]) (.s y) (.s (.sl h.length 0 1)) K := by
  obtain ⟨r, t, rfl, h1, h2, hr⟩ := H
  refine ⟨[ci v], ?_, by simp [H0.one, Value.oneCell'], l.map ci ++ t, rfl, (Ext.push h _).row hr, by simp, Or.inl ⟨by simp; omega, ?_⟩⟩
  · have := Shows.own h.length 0 1 _ (get_new h (.own [ci v])) (by simp)
    simpa using this
  have e1 : l.length + [ci v].length = (l ++ [v]).length := by simp
  have e2 : (l.map ci ++ t).take l.length ++ [ci v] = (l ++ [v]).map ci := by rw [List.take_append_of_le_length (by simp), List.take_of_length_le (by simp)]; simp
  rw [e1, e2]
  refine hK _ _ (((E.pushed _).set h1 _).pushed _) ⟨_, [], rfl, by have := E.1; simp; omega, by simp, ?_⟩
  rw [List.append_nil]
  simp

theorem HLit.one {z : Value} {v : Int} {h : Heap} {K : HV → Heap → Prop} (hK : K (.s (.sl h.length 0 1)) (h ++ [.own [ci v]])) : HLit z 1 (some [ci v]) h K := ⟨[ci v], rfl, rfl, by omega, by simp [H0.one, Value.oneCell'], hK⟩

theorem Fresh.of {h h' : Heap} {x : H0} {l : List Int} (E : Ext h h') (H : Own h.length h'.length h' x l) : Fresh h h' x l := by
  obtain ⟨r, t, g1, g2, _, g4⟩ := H
  exact ⟨E, r, t, g1, g2, g4⟩

theorem HCallF.same {P : Program} {k : FuncId} {args : List HV} {h : Heap} {K : HV → Heap → Prop} {R : HV → Heap → Prop} (v : HV) (hc : HCalls dm P k args (freeze h) R) (hr : ∀ x h', R x h' → x = v ∧ h' = freeze h) (hK : K v h) : HCallF dm P k args h K :=
  ⟨hc.mono fun x h' r => by
    obtain ⟨rfl, rfl⟩ := hr x h' r
    exact ⟨[], by simp, by simp, by simpa using hK⟩⟩

/-- The sum of the first products. -/
def dotTo (a b : List Int) : Nat → Int
  | 0 => 0
  | k + 1 => w64 (dotTo a b k + w64 (a.getD k 0 * b.getD k 0))

def mirror (c : List (List Int)) (i : Nat) (r : List Int) : List Int := r.set i (w64 (r.getD i 0 - dotTo (c.getD i []) r r.length))

theorem mirror_length (c : List (List Int)) (i : Nat) (r : List Int) : (mirror c i r).length = r.length := by simp [mirror]

theorem dotTo_none (a b : List Int) : dotTo a b 0 = 0 := rfl
theorem dotTo_succ (a b : List Int) (k : Nat) : dotTo a b (k + 1) = w64 (dotTo a b k + w64 (a.getD k 0 * b.getD k 0)) := rfl

theorem Own.store {hb h : Heap} {y : H0} {l : List Int} {i : Nat} {v : Int} (E : Ext hb h) (H : Own hb.length h.length h y l) (hi : i < l.length) :
    ∃ r cs, y = .sl r 0 l.length ∧ h[r]? = some (.own cs) ∧ i < cs.length ∧ Ext hb (h.set r (.own (cs.set i (ci v)))) ∧ Own hb.length (h.set r (.own (cs.set i (ci v)))).length (h.set r (.own (cs.set i (ci v)))) y (l.set i v) := by
  obtain ⟨r, t, rfl, h1, h2, hr⟩ := H
  refine ⟨r, _, rfl, hr, by simp; omega, E.set h1 _, r, t, by simp, h1, by simp; omega, ?_⟩
  rw [List.getElem?_set_self h2, List.set_append_left _ _ (by simpa using hi), List.map_set]


end Go.Proofs.Ytjgnnjegaedinaa.Hx

namespace Go.Proofs.Ytjgnnjegaedinaa.Hx
open Go.RowKit
variable {dm : Bool}

def reflectRoot (c : List (List Int)) (i : Int) (r : List Int) : List Int := if isCartan c && decide (r.length = c.length) && isPoint c i then mirror c i.toNat r else r

theorem reflectRoot_length (c : List (List Int)) (i : Int) (r : List Int) : (reflectRoot c i r).length = r.length := by
  unfold reflectRoot
  split
  · exact mirror_length _ _ _
  · rfl

theorem reflectRoot_off {c : List (List Int)} {i : Int} {r : List Int} (h : isCartan c = false ∨ r.length ≠ c.length ∨ isPoint c i = false) : reflectRoot c i r = r := by
  unfold reflectRoot
  rcases h with h | h | h <;> simp [h]

theorem reflectRoot_on {c : List (List Int)} {i : Int} {r : List Int} (h1 : isCartan c = true) (h2 : r.length = c.length) (h3 : isPoint c i = true) : reflectRoot c i r = mirror c i.toNat r := by
  unfold reflectRoot
  simp [h1, h2, h3]

/-- A word applied to a root, from its end. -/
def actR (c : List (List Int)) : List Int → List Int → List Int
  | [], r => r
  | i :: w, r => mirror c i.toNat (actR c w r)

theorem actR_length (c : List (List Int)) : ∀ (w r : List Int), (actR c w r).length = r.length
  | [], _ => rfl
  | i :: w, r => by rw [actR, mirror_length, actR_length c w r]

theorem actR_drop (c : List (List Int)) (w r : List Int) {k : Nat} (h : k < w.length) : actR c (w.drop k) r = mirror c (w.getD k 0).toNat (actR c (w.drop (k + 1)) r) := by
  rw [List.drop_eq_getElem_cons h, actR]
  simp [List.getD, h]

def actOnRoot (c : List (List Int)) (w r : List Int) : List Int := if isWord c w && decide (r.length = c.length) then actR c w r else r

theorem actOnRoot_length (c : List (List Int)) (w r : List Int) : (actOnRoot c w r).length = r.length := by
  unfold actOnRoot
  split
  · exact actR_length _ _ _
  · rfl

theorem actOnRoot_off {c : List (List Int)} {w r : List Int} (h : isWord c w = false ∨ r.length ≠ c.length) : actOnRoot c w r = r := by
  unfold actOnRoot
  rcases h with h | h <;> simp [h]

theorem actOnRoot_on {c : List (List Int)} {w r : List Int} (h1 : isWord c w = true) (h2 : r.length = c.length) : actOnRoot c w r = actR c w r := by
  unfold actOnRoot
  simp [h1, h2]

theorem word_cartan {c : List (List Int)} {w : List Int} (h : isWord c w = true) : Cartan c ∧ w.length ≤ 15 ∧ lettersOk c w = true := by
  simp only [isWord, Bool.and_eq_true, decide_eq_true_eq] at h
  exact ⟨(isCartan_iff c).1 h.1.1, h.1.2, h.2⟩

def wrow (c : List (List Int)) (r : List Int) (k : Nat) : Int := dotTo (c.getD k []) r c.length
def weightOf (c : List (List Int)) (r : List Int) : List Int := if isCartan c && decide (r.length = c.length) then (List.range c.length).map (wrow c r) else []

theorem weightOf_length (c : List (List Int)) (r : List Int) : (weightOf c r).length ≤ c.length := by
  unfold weightOf
  split <;> simp

theorem weightOf_off {c : List (List Int)} {r : List Int} (h : isCartan c = false ∨ r.length ≠ c.length) : weightOf c r = [] := by
  unfold weightOf
  rcases h with h | h <;> simp [h]

theorem weightOf_on {c : List (List Int)} {r : List Int} (h1 : isCartan c = true) (h2 : r.length = c.length) : weightOf c r = (List.range c.length).map (wrow c r) := by
  unfold weightOf
  simp [h1, h2]

theorem wrow_snoc (c : List (List Int)) (r : List Int) (k : Nat) : (List.range (k + 1)).map (wrow c r) = (List.range k).map (wrow c r) ++ [wrow c r k] := by rw [List.range_succ, List.map_append]; rfl

theorem eq_nat {n : Int} (h : 0 ≤ n) : ∃ k : Nat, n = k := ⟨n.toNat, by omega⟩


end Go.Proofs.Ytjgnnjegaedinaa.Hx

namespace Go.Proofs.Ytjgnnjegaedinaa.Hx
open Go.RowKit
variable {dm : Bool}

theorem Own.none (h : Heap) : Own h.length (h ++ [Row.own []]).length (h ++ [Row.own []]) (.sl h.length 0 0) [] := ⟨h.length, [], rfl, Nat.le_refl _, by simp, get_new _ _⟩
theorem range_none (f : Nat → Int) : (List.range 0).map f = [] := rfl
theorem wrow_len (c : List (List Int)) (r : List Int) (k : Nat) : ((List.range k).map (wrow c r)).length = k := by simp
theorem wrow_dot (c : List (List Int)) (r : List Int) (k : Nat) : dotTo (c.getD k []) r c.length = wrow c r k := rfl


end Go.Proofs.Ytjgnnjegaedinaa.Hx

namespace Go.Proofs.Ytjgnnjegaedinaa.Hx
open Go.RowKit
variable {dm : Bool}

theorem lenN (n : Nat) : (((n : Int) - 1 : Int)) = ((n : Int) - 1) := rfl
theorem actR_end (c : List (List Int)) (w r : List Int) : actR c (w.drop w.length) r = r := by rw [List.drop_length]; rfl
theorem actR_all (c : List (List Int)) (w r : List Int) : actR c (w.drop 0) r = actR c w r := by rw [List.drop_zero]

/-- What a letter of a word is. -/
theorem letter {c : List (List Int)} {w : List Int} (h : lettersOk c w = true) {k : Nat} (hk : k < w.length) : ∃ i : Nat, w.getD k 0 = i ∧ i < c.length := by
  have := letters_get h hk
  exact ⟨(w.getD k 0).toNat, by omega, by omega⟩

def intAt (vs : List HV) (k : Nat) : Int := match vs[k]? with
  | some (.s (.pl (.int _ i))) => i
  | _ => 0


end Go.Proofs.Ytjgnnjegaedinaa.Hx
