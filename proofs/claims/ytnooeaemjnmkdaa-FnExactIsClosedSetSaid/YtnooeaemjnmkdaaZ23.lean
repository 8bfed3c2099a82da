/-
  The contracts of IsClosedSet, of the program and of the reference.
-/
import Derived.Test.YtnooeaemjnmkdaaZ22
namespace Go.Proofs.Ytnooeaemjnmkdaa.Hx
open Go.RowKit

set_option smartUnfolding false

theorem impl_IsClosedSet (h : Heap) (x0 : H0) (a0 : List (List Int)) (x1 : H0) (a1 : List (List Int)) (hx0 : Rows h x0 a0) (hx1 : Rows h x1 a1) (s0 : a0.length ≤ 1048576 ∧ tot a0 ≤ 1048576) (s1 : a1.length ≤ 1048576 ∧ tot a1 ≤ 1048576) :
    HCalls Try.prog 26 [.s x0, .s x1] h (fun r h' => r = B (isClosed a0 a1) ∧ Ext h h') := by
  refine calls_of_hFun (m := 0) kd_ok mixed Try.func26 rfl (by kernel_rfl) rfl rfl (of_decide_eq_true rfl) ?_; unfold hFun; (conv => whnf)
  refine (impl_PositiveRoots _ _ a0 hx0 s0).mono ?_
  rintro r h1 ⟨y, rfl, E1, O1⟩
  have hps := posRoots_small a0
  (conv => whnf)
  cases hf : isFinite a0
  · (repeat (first | (refine HIf.yes ?_; conv => whnf) | (refine HIf.no ?_; conv => whnf)))
    exact ⟨bEq (isClosed_off fun k => by have := k.1; rw [hf] at this; cases this), E1⟩
  (repeat (first | (refine HIf.yes ?_; conv => whnf) | (refine HIf.no ?_; conv => whnf)))
  refine ⟨rfl, (hx1.ext E1).len ?_⟩
  (conv => whnf)
  refine HLoop.intro [23] [24, 25, 26, 8, 27, 28, 29, 30, 4, 31, 23] (by kernel_rfl) (by kernel_rfl) (fun vs h' => ∃ i : Nat, vs = [I i] ∧ i ≤ a1.length ∧ Ext h h' ∧ OwnM h.length h1.length h' y (posRoots a0) ∧ h1.length ≤ h'.length ∧ ∀ j, j < i → a1.getD j [] ∈ posRoots a0) (fun vs _ => a1.length - natAt vs 0) ⟨0, rfl, by omega, E1, O1, Nat.le_refl _, fun j hj => by omega⟩ ?_
  generalize h1.length = N at *
  clear E1 O1
  rintro vs h' ⟨i, rfl, hi, E, O, hN, hin⟩
  (conv => whnf)
  refine HIf.dec (fun hlt => ?_) (fun hge => ?_)
  · (conv => whnf)
    have hle := len_le_tot (L := a1) (i := i) (by omega)
    refine ⟨rfl, (hx1.ext E).idxN (by omega) (fun p z hp hz => ?_)⟩
    (conv => whnf)
    refine ⟨rfl, hp.load ?_⟩
    (conv => whnf)
    refine (impl_hasRoot _ _ (posRoots a0) _ _ O.rows hz (by omega) (by omega)).mono ?_
    rintro v h2 ⟨rfl, E2⟩
    (conv => whnf)
    by_cases hm : a1.getD i [] ∈ posRoots a0
    rotate_left
    · refine HIf.bnot (HIf.decF hm ?_)
      (conv => whnf)
      exact ⟨bEq (isClosed_off fun k => hm (k.2.1 i (by omega))), E.trans E2⟩
    refine HIf.bnot (HIf.decT hm ?_)
    (conv => whnf)
    refine HArith.fits (by omega) (by omega) ?_
    (conv => whnf)
    have := E2.1
    exact ⟨⟨i + 1, rfl, by omega, E.trans E2, O.ext E2, by omega, fun j hj => by
      by_cases e : j = i
      · subst e; exact hm
      · exact hin j (by omega)⟩, by show a1.length - (i + 1) < a1.length - i; omega⟩
  have ei : i = a1.length := by omega
  subst ei
  (conv => whnf)
  refine ⟨rfl, (hx1.ext E).len ?_⟩
  (conv => whnf)
  refine HLoop.intro [34] [35, 36, 37, 38, 9, 10, 39, 40, 41, 42, 43, 44, 45, 46, 12, 47, 48, 49, 13, 50, 51, 52, 53, 54, 55, 56, 57, 58, 4, 59, 43, 60, 34] (by kernel_rfl) (by kernel_rfl) (fun vs h' => ∃ i : Nat, vs = [I i] ∧ i ≤ a1.length ∧ Ext h h' ∧ OwnM h.length N h' y (posRoots a0) ∧ N ≤ h'.length ∧ ∀ j, j < i → ∀ k, k < j → addW (a1.getD j []) (a1.getD k []) ∈ posRoots a0 → addW (a1.getD j []) (a1.getD k []) ∈ a1) (fun vs _ => a1.length - natAt vs 0) ⟨0, rfl, by omega, E, O, hN, fun j hj => by omega⟩ ?_
  clear E O hN
  rintro vs h' ⟨i, rfl, hi, E, O, hN, hcl⟩
  (conv => whnf)
  refine HIf.dec (fun hlt => ?_) (fun hge => ?_)
  rotate_left
  · have ei : i = a1.length := by omega
    subst ei
    (conv => whnf)
    exact ⟨bEq (isClosed_on ⟨hf, hin, hcl⟩), E⟩
  have hle := len_le_tot (L := a1) (i := i) (by omega)
  (conv => whnf)
  refine ⟨rfl, (hx1.ext E).idxN (by omega) (fun p z hp hz => ?_)⟩
  (conv => whnf)
  refine ⟨rfl, hp.load ?_⟩
  (conv => whnf)
  refine ⟨rfl, (hx1.ext E).tk i (by omega) (fun ys hys => ?_)⟩
  (conv => whnf)
  refine ⟨rfl, hys.len ?_⟩
  have etl : (a1.take i).length = i := by rw [List.length_take]; omega
  rw [etl]
  (conv => whnf)
  refine HLoop.intro [43] [44, 45, 46, 12, 47, 48, 49, 13, 50, 51, 52, 53, 54, 55, 56, 57, 58, 4, 59, 43] (by kernel_rfl) (by kernel_rfl) (fun vs h2 => ∃ k : Nat, vs = [I k] ∧ k ≤ i ∧ Ext h' h2 ∧ OwnM h.length N h2 y (posRoots a0) ∧ N ≤ h2.length ∧ ∀ j, j < k → addW (a1.getD i []) (a1.getD j []) ∈ posRoots a0 → addW (a1.getD i []) (a1.getD j []) ∈ a1) (fun vs _ => i - natAt vs 0) ⟨0, rfl, by omega, Ext.refl _, O, hN, fun j hj => by omega⟩ ?_
  clear O hN
  rintro vs h2 ⟨k, rfl, hk, E2, O, hN, hck⟩
  have E3 := E.trans E2
  (conv => whnf)
  refine HIf.dec (fun hlt2 => ?_) (fun hge2 => ?_)
  · (conv => whnf)
    have hle2 := len_le_tot (L := a1) (i := k) (by omega)
    refine ⟨rfl, (hys.ext E2).idxN (by omega) (fun p2 z2 hp2 hz2 => ?_)⟩
    rw [getD_take (show k < i by omega)] at hz2
    (conv => whnf)
    refine ⟨rfl, hp2.load ?_⟩
    (conv => whnf)
    refine (impl_AddWeights _ _ _ _ _ (hz.ext E2) hz2 (by omega) (by omega)).mono ?_
    rintro v h4 ⟨z4, rfl, f4⟩
    have hal := addW_len (a1.getD i []) (a1.getD k [])
    (conv => whnf)
    generalize hS : addW (a1.getD i []) (a1.getD k []) = S at *
    refine (impl_hasRoot _ _ (posRoots a0) _ S (O.ext f4.1).rows f4.ints (by omega) (by omega)).mono ?_
    rintro v h5 ⟨rfl, E5⟩
    have E6 := f4.1.trans E5
    have := E6.1
    have next : ∀ h6, Ext h2 h6 → (S ∈ posRoots a0 → S ∈ a1) → (∃ k_1 : Nat, [I ((k : Int) + 1)] = [I k_1] ∧ k_1 ≤ i ∧ Ext h' h6 ∧ OwnM h.length N h6 y (posRoots a0) ∧ N ≤ h6.length ∧ ∀ j, j < k_1 → addW (a1.getD i []) (a1.getD j []) ∈ posRoots a0 → addW (a1.getD i []) (a1.getD j []) ∈ a1) := fun h6 F hs => by
      have := F.1
      exact ⟨k + 1, rfl, by omega, E2.trans F, O.ext F, by omega, fun j hj => by
        by_cases e : j = k
        · subst e; rw [hS]; exact hs
        · exact hck j (by omega)⟩
    (conv => whnf)
    by_cases hm : S ∈ posRoots a0
    rotate_left
    · (repeat (first | (refine HIf.decF hm ?_; conv => whnf) | (refine HIf.no ?_; conv => whnf)))
      refine HArith.fits (by omega) (by omega) ?_
      (conv => whnf)
      exact ⟨next _ E6 (fun q => absurd q hm), by show i - (k + 1) < i - k; omega⟩
    (repeat (first | (refine HIf.decT hm ?_; conv => whnf)))
    refine (impl_hasRoot _ _ a1 _ S ((hx1.ext E3).ext E6) (f4.ints.ext E5) (by omega) (by omega)).mono ?_
    rintro v h7 ⟨rfl, E7⟩
    (conv => whnf)
    (repeat (first | (refine HIf.decT hm ?_; conv => whnf)))
    by_cases hm2 : S ∈ a1
    rotate_left
    · (repeat (first | (refine HIf.bnot (HIf.decF hm2 ?_); conv => whnf) | (refine HIf.no ?_; conv => whnf) | (refine HIf.decT hm ?_; conv => whnf)))
      exact ⟨bEq (isClosed_off fun q => hm2 (by have := q.2.2 i (by omega) k (by omega); rw [hS] at this; exact this hm)), (E3.trans E6).trans E7⟩
    (repeat (first | (refine HIf.bnot (HIf.decT hm2 ?_); conv => whnf) | (refine HIf.yes ?_; conv => whnf) | (refine HIf.decT hm ?_; conv => whnf)))
    refine HArith.fits (by omega) (by omega) ?_
    (conv => whnf)
    exact ⟨next _ (E6.trans E7) (fun _ => hm2), by show i - (k + 1) < i - k; omega⟩
  · have ek : k = i := by omega
    subst ek
    (conv => whnf)
    refine HArith.fits (by omega) (by omega) ?_
    (conv => whnf)
    exact ⟨⟨k + 1, rfl, by omega, E3, O, hN, fun j hj => by
      by_cases e : j = k
      · subst e; exact hck
      · exact hcl j (by omega)⟩, by show a1.length - (k + 1) < a1.length - k; omega⟩

theorem spec_IsClosedSet (h : Heap) (x0 : H0) (a0 : List (List Int)) (x1 : H0) (a1 : List (List Int)) (hx0 : Rows h x0 a0) (hx1 : Rows h x1 a1) (s0 : a0.length ≤ 1048576 ∧ tot a0 ≤ 1048576) (s1 : a1.length ≤ 1048576 ∧ tot a1 ≤ 1048576) :
    HCalls Try.prog 25 [.s x0, .s x1] h (fun r h' => r = B (isClosed a0 a1) ∧ Ext h h') := by
  refine calls_of_hFun (m := 0) kd_ok mixed Try.func25 rfl (by kernel_rfl) rfl rfl (of_decide_eq_true rfl) ?_; unfold hFun; (conv => whnf)
  refine (spec_PositiveRoots _ _ a0 hx0 s0).mono ?_
  rintro r h1 ⟨y, rfl, E1, O1⟩
  have hps := posRoots_small a0
  (conv => whnf)
  refine HLoop.intro [7] [16, 17, 18, 19, 20, 21, 22, 8, 25, 26, 27, 30, 31, 32, 33, 34, 35, 36, 37, 38, 9, 39, 40, 41, 42, 43, 44, 45, 46, 47, 4, 28, 29, 8, 23, 24, 7] (by kernel_rfl) (by kernel_rfl) (fun vs h' => ∃ i : Nat, vs = [I i] ∧ i ≤ a1.length ∧ Ext h h' ∧ OwnM h.length h1.length h' y (posRoots a0) ∧ h1.length ≤ h'.length ∧ ∀ j, j < i → ∀ k, k < j → addW (a1.getD j []) (a1.getD k []) ∈ posRoots a0 → addW (a1.getD j []) (a1.getD k []) ∈ a1) (fun vs _ => a1.length - natAt vs 0) ⟨0, rfl, by omega, E1, O1, Nat.le_refl _, fun j hj => by omega⟩ ?_
  generalize h1.length = N at *
  clear E1 O1
  rintro vs h' ⟨i, rfl, hi, E, O, hN, hcl⟩
  (conv => whnf)
  refine ⟨rfl, (hx1.ext E).len ?_⟩
  (conv => whnf)
  by_cases hgo : i < a1.length ∧ isFinite a0 = true
  rotate_left
  · have hall : isFinite a0 = true → i = a1.length := fun hf => by
      by_cases e : i < a1.length
      · exact absurd ⟨e, hf⟩ hgo
      · omega
    by_cases hlt : (i : Int) < (a1.length : Int)
    case' pos =>
      have hf : isFinite a0 = false := by
        cases hf : isFinite a0
        · rfl
        · have := hall hf
          omega
      (repeat (first | (refine HIf.decT hlt ?_; conv => whnf) | (refine HIf.isF hf ?_; conv => whnf) | (refine HIf.no ?_; conv => whnf)))
    case' neg =>
      (repeat (first | (refine HIf.decF hlt ?_; conv => whnf) | (refine HIf.no ?_; conv => whnf)))
    all_goals
      refine HLoop.intro [10] [48, 49, 50, 51, 54, 55, 56, 57, 58, 59, 60, 4, 52, 53, 10] (by kernel_rfl) (by kernel_rfl) (fun vs h' => ∃ i : Nat, vs = [I i] ∧ i ≤ a1.length ∧ Ext h h' ∧ OwnM h.length N h' y (posRoots a0) ∧ ∀ j, j < i → a1.getD j [] ∈ posRoots a0) (fun vs _ => a1.length - natAt vs 0) ⟨0, rfl, by omega, E, O, fun j hj => by omega⟩ ?_
      clear E O hN hi hlt
      rintro vs h' ⟨t, rfl, ht, E, O, hin⟩
      (conv => whnf)
      refine ⟨rfl, (hx1.ext E).len ?_⟩
      (conv => whnf)
      refine HIf.dec (fun hlt => ?_) (fun hge => ?_)
      · (conv => whnf)
        have hle := len_le_tot (L := a1) (i := t) (by omega)
        refine ⟨rfl, (hx1.ext E).idxN (by omega) (fun p z hp hz => ?_)⟩
        (conv => whnf)
        refine ⟨rfl, hp.load ?_⟩
        (conv => whnf)
        refine (spec_l7In _ _ (posRoots a0) _ _ O.rows hz (by omega)).mono ?_
        rintro v h2 ⟨rfl, hh⟩
        subst h2
        (conv => whnf)
        by_cases hm : a1.getD t [] ∈ posRoots a0
        rotate_left
        · refine HIf.bnot (HIf.decF hm ?_)
          (conv => whnf)
          exact ⟨bEq (isClosed_off fun k => hm (k.2.1 t (by omega))), E⟩
        refine HIf.bnot (HIf.decT hm ?_)
        (conv => whnf)
        refine HArith.fits (by omega) (by omega) ?_
        (conv => whnf)
        exact ⟨⟨t + 1, rfl, by omega, E, O, fun j hj => by
          by_cases e : j = t
          · subst e; exact hm
          · exact hin j (by omega)⟩, by show a1.length - (t + 1) < a1.length - t; omega⟩
      · have et : t = a1.length := by omega
        subst et
        (conv => whnf)
        refine ⟨bEq ?_, E⟩
        cases hf : isFinite a0
        · exact isClosed_off fun k => by have := k.1; rw [hf] at this; cases this
        · have := hall hf
          subst this
          exact isClosed_on ⟨hf, hin, hcl⟩
  obtain ⟨hil, hf⟩ := hgo
  have hlt : (i : Int) < (a1.length : Int) := by omega
  have hle := len_le_tot (L := a1) (i := i) hil
  (repeat (first | (refine HIf.decT hlt ?_; conv => whnf) | (refine HIf.isT hf ?_; conv => whnf)))
  refine HLoop.intro [8] [25, 26, 27, 30, 31, 32, 33, 34, 35, 36, 37, 38, 9, 39, 40, 41, 42, 43, 44, 45, 46, 47, 4, 28, 29, 8] (by kernel_rfl) (by kernel_rfl) (fun vs h2 => ∃ k : Nat, vs = [I k] ∧ k ≤ i ∧ Ext h' h2 ∧ OwnM h.length N h2 y (posRoots a0) ∧ N ≤ h2.length ∧ ∀ j, j < k → addW (a1.getD i []) (a1.getD j []) ∈ posRoots a0 → addW (a1.getD i []) (a1.getD j []) ∈ a1) (fun vs _ => i - natAt vs 0) ⟨0, rfl, by omega, Ext.refl _, O, hN, fun j hj => by omega⟩ ?_
  clear O hN hlt
  rintro vs h2 ⟨k, rfl, hk, E2, O, hN, hck⟩
  have E3 := E.trans E2
  (conv => whnf)
  refine HIf.dec (fun hlt2 => ?_) (fun hge2 => ?_)
  · (conv => whnf)
    have hle2 := len_le_tot (L := a1) (i := k) (by omega)
    refine Or.inr (Or.inr (Or.inl (Exists.intro 10 (Exists.intro [0, 1, 2, 3, 4, 5, 6, 7] (Exists.intro [8, 9] (And.intro (show heldOk _ _ _ _ = true by kernel_rfl) ?_)))))); (conv => whnf)
    refine ⟨rfl, (hx1.ext E3).idxN hil (fun p z hp hz => ?_)⟩
    (conv => whnf)
    refine ⟨rfl, hp.load ?_⟩
    (conv => whnf)
    refine ⟨rfl, (hx1.ext E3).idxN (by omega) (fun p2 z2 hp2 hz2 => ?_)⟩
    (conv => whnf)
    refine ⟨rfl, hp2.load ?_⟩
    (conv => whnf)
    refine HCallF.fresh (spec_AddWeights _ _ _ _ _ hz.frz hz2.frz (by omega) (by omega)) (fun h4 z4 f4 => ?_)
    have hal := addW_len (a1.getD i []) (a1.getD k [])
    (conv => whnf)
    generalize hS : addW (a1.getD i []) (a1.getD k []) = S at *
    refine (spec_l7In _ _ (posRoots a0) _ S (O.ext f4.1).rows f4.ints (by omega)).mono ?_
    rintro v h5 ⟨rfl, hh⟩
    subst h5
    have E6 := f4.1
    have := E6.1
    have next : (S ∈ posRoots a0 → S ∈ a1) → (∃ k_1 : Nat, [I ((k : Int) + 1)] = [I k_1] ∧ k_1 ≤ i ∧ Ext h' h4 ∧ OwnM h.length N h4 y (posRoots a0) ∧ N ≤ h4.length ∧ ∀ j, j < k_1 → addW (a1.getD i []) (a1.getD j []) ∈ posRoots a0 → addW (a1.getD i []) (a1.getD j []) ∈ a1) := fun hs =>
      ⟨k + 1, rfl, by omega, E2.trans E6, O.ext E6, by omega, fun j hj => by
        by_cases e : j = k
        · subst e; rw [hS]; exact hs
        · exact hck j (by omega)⟩
    (conv => whnf)
    by_cases hm : S ∈ posRoots a0
    rotate_left
    · (repeat (first | (refine HIf.decF hm ?_; conv => whnf) | (refine HIf.no ?_; conv => whnf)))
      refine HArith.fits (by omega) (by omega) ?_
      (conv => whnf)
      exact ⟨next (fun q => absurd q hm), by show i - (k + 1) < i - k; omega⟩
    (repeat (first | (refine HIf.decT hm ?_; conv => whnf)))
    refine (spec_l7In _ _ a1 _ S ((hx1.ext E3).ext E6) f4.ints (by omega)).mono ?_
    rintro v h7 ⟨rfl, hh⟩
    subst h7
    (conv => whnf)
    (repeat (first | (refine HIf.decT hm ?_; conv => whnf)))
    by_cases hm2 : S ∈ a1
    rotate_left
    · (repeat (first | (refine HIf.bnot (HIf.decF hm2 ?_); conv => whnf) | (refine HIf.no ?_; conv => whnf) | (refine HIf.decT hm ?_; conv => whnf)))
      exact ⟨bEq (isClosed_off fun q => hm2 (by have := q.2.2 i (by omega) k (by omega); rw [hS] at this; exact this hm)), E3.trans E6⟩
    (repeat (first | (refine HIf.bnot (HIf.decT hm2 ?_); conv => whnf) | (refine HIf.yes ?_; conv => whnf) | (refine HIf.decT hm ?_; conv => whnf)))
    refine HArith.fits (by omega) (by omega) ?_
    (conv => whnf)
    exact ⟨next (fun _ => hm2), by show i - (k + 1) < i - k; omega⟩
  · have ek : k = i := by omega
    subst ek
    (conv => whnf)
    refine HArith.fits (by omega) (by omega) ?_
    (conv => whnf)
    exact ⟨⟨k + 1, rfl, by omega, E3, O, hN, fun j hj => by
      by_cases e : j = k
      · subst e; exact hck
      · exact hcl j (by omega)⟩, by show a1.length - (k + 1) < a1.length - k; omega⟩

end Go.Proofs.Ytnooeaemjnmkdaa.Hx
