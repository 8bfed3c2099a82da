/-
  Contracts: cmp.Compare, cmp.Or, slices.Compare, the order of roots of the program and of the reference, and the reference's insertion of a root in its place.
  Contracts of membership in lists of roots and of copies of matrices; a word read off its inversions, as plain functions.
  DERIVED: THE SHELF's CONTRACTS AT THIS DUMP, IN PLAIN WORDS (tools/lay-plain.mjs out of 'YtgliajcgcbnemaaGreatDoorSl.lean', which tools/lay-shelf.mjs wrote): THE SAME DECLARATIONS UNDER THE SAME NAMES: 'import', 'namespace', 'open', 'def', 'theorem' AND NOTHING ELSE: no command of the shelf's: FOR A HAND-IN. Each laying: the table of numbers ('.._ren') and one theorem, a field a fact of the dump's own or the kernel's comparison; each contract: ONE APPLICATION.
-/
import Derived.Test.YtgliajcgcbnemaaGreatDoorZ15
import Derived.Shelf.SlSortCmp.NoneTotal
import Derived.Shelf.SlGeneric
import Derived.Ground.SlsfProg
import Derived.Test.YtgliajcgcbnemaaGreatDoorProg
namespace Go.Proofs.YtgliajcgcbnemaaGreatDoor.Hx
open Go.RowKit
variable {dm : Bool}

theorem cmpR_swo : Go.Sort.SWO (ltOf cmpR) := ⟨fun x => by
    have := cmpR_neg x x
    simp only [ltOf, decide_eq_false_iff_not]
    omega, fun x y z h k => by
    simp only [ltOf, decide_eq_true_eq] at *
    exact cmpR_trans h k, fun x y z h k => by
    simp only [ltOf, decide_eq_false_iff_not] at *
    exact cmpR_ntrans h k⟩


def cmp1 (x y : Int) : Int := if x < y then -1 else if y < x then 1 else 0

def orOf : List Int → Int
  | [] => 0
  | a :: t => if a = 0 then orOf t else a

theorem orOf_at : ∀ (l : List Int) (i : Nat), i < l.length → (∀ k, k < i → l.getD k 0 = 0) → l.getD i 0 ≠ 0 → orOf l = l.getD i 0
  | [], _, h, _, _ => by simp at h
  | a :: t, 0, _, _, h => by
    have : a ≠ 0 := by simpa using h
    simp [orOf, this]
  | a :: t, i + 1, h, hb, hn => by
    have h0 : a = 0 := by simpa using hb 0 (by omega)
    have := orOf_at t i (by simpa using h) (fun k hk => by simpa using hb (k + 1) (by omega)) (by simpa using hn)
    simp only [orOf, if_pos h0]
    rw [this]
    simp

theorem orOf_none : ∀ (l : List Int), (∀ k, k < l.length → l.getD k 0 = 0) → orOf l = 0
  | [], _ => rfl
  | a :: t, h => by
    have h0 : a = 0 := by simpa using h 0 (by simp)
    simp only [orOf, if_pos h0]
    exact orOf_none t fun k hk => by simpa using h (k + 1) (by simpa using hk)

theorem cmpR_or (a b : List Int) : orOf [cmp1 (heightOf a) (heightOf b), lexC b a] = cmpR a b := by
  unfold cmp1 cmpR
  by_cases h1 : heightOf a < heightOf b
  · simp [orOf, h1]
  · by_cases h2 : heightOf b < heightOf a
    · simp [orOf, h1, h2]
    · simp only [if_neg h1, if_neg h2, orOf, if_true]
      by_cases h3 : lexC b a = 0
      · simp [h3]
      · simp [h3]

theorem lexC_drop {a b : List Int} {i : Nat} (ha : i < a.length) (hb : i < b.length) :
    lexC (a.drop i) (b.drop i) = if a.getD i 0 < b.getD i 0 then -1 else if b.getD i 0 < a.getD i 0 then 1 else lexC (a.drop (i + 1)) (b.drop (i + 1)) := by
  rw [List.drop_eq_getElem_cons ha, List.drop_eq_getElem_cons hb]
  simp [lexC, List.getD, ha, hb]

theorem lexGt_drop {a b : List Int} {i : Nat} (ha : i < a.length) (hb : i < b.length) :
    lexGt (a.drop i) (b.drop i) = if a.getD i 0 = b.getD i 0 then lexGt (a.drop (i + 1)) (b.drop (i + 1)) else decide (b.getD i 0 < a.getD i 0) := by
  rw [List.drop_eq_getElem_cons ha, List.drop_eq_getElem_cons hb]
  simp [lexGt, List.getD, ha, hb]

theorem lexC_end {a b : List Int} {i : Nat} (ha : a.length ≤ i) : lexC (a.drop i) (b.drop i) = if i < b.length then -1 else 0 := by
  rw [List.drop_eq_nil_of_le ha]
  by_cases hb : i < b.length
  · rw [List.drop_eq_getElem_cons hb, if_pos hb]
    rfl
  · rw [List.drop_eq_nil_of_le (by omega), if_neg hb]
    rfl

theorem lexC_over {a b : List Int} {i : Nat} (ha : i < a.length) (hb : b.length ≤ i) : lexC (a.drop i) (b.drop i) = 1 := by
  rw [List.drop_eq_nil_of_le hb, List.drop_eq_getElem_cons ha]
  rfl

theorem lexGt_end {a b : List Int} {i : Nat} (h : a.length ≤ i ∨ b.length ≤ i) : lexGt (a.drop i) (b.drop i) = false := by
  rcases h with h | h
  · rw [List.drop_eq_nil_of_le h]
    rfl
  · rw [List.drop_eq_nil_of_le h]
    cases a.drop i <;> rfl

theorem putR_at {w : List Int} {L : List (List Int)} {i : Nat} (hi : i < L.length) : putR w (L.drop i) = if beforeR w (L.getD i []) then w :: L.drop i else L.getD i [] :: putR w (L.drop (i + 1)) := by
  rw [List.drop_eq_getElem_cons hi]
  simp [putR, List.getD, hi]

theorem drop_at {L : List (List Int)} {i : Nat} (hi : i < L.length) : L.drop i = L.getD i [] :: L.drop (i + 1) := by
  rw [List.drop_eq_getElem_cons hi]
  simp [List.getD, hi]

theorem putR_length (w : List Int) (L : List (List Int)) : (putR w L).length = L.length + 1 := (putR_perm w L).length_eq


theorem lib_isNaN (h : Heap) (n : Int) : HCalls dm Tryz.prog 209 [I n] h (fun r h' => r = B false ∧ h' = h) := by
  refine calls_of_hFun (m := 0) kd_ok mixed Tryz.func209 rfl (by kernel_rfl) rfl rfl (of_decide_eq_true rfl) ?_; unfold hFun; (conv => whnf)
  exact ⟨bEq (by simp), rfl⟩

theorem lib_cmp (h : Heap) (x y : Int) : HCalls dm Tryz.prog 153 [I x, I y] h (fun r h' => r = I (cmp1 x y) ∧ h' = h) := by
  refine calls_of_hFun (m := 0) kd_ok mixed Tryz.func153 rfl (by kernel_rfl) rfl rfl (of_decide_eq_true rfl) ?_; unfold hFun; (conv => whnf)
  refine (lib_isNaN _ _).mono ?_
  rintro r h1 ⟨rfl, rfl⟩
  (conv => whnf)
  refine (lib_isNaN _ _).mono ?_
  rintro r h1 ⟨rfl, rfl⟩
  (conv => whnf)
  (repeat (first | (refine ⟨rfl, Ints.len (by assumption) ?_⟩; conv => whnf) | (refine ⟨rfl, Rows.len (by assumption) ?_⟩; conv => whnf) | (refine ⟨rfl, HLen.sl ?_⟩; conv => whnf) | (refine ⟨rfl, At.load (by assumption) ?_⟩; conv => whnf) | (refine HIf.yes ?_; conv => whnf) | (refine HIf.no ?_; conv => whnf) | (refine HIf.isT (by assumption) ?_; conv => whnf) | (refine HIf.isF (by assumption) ?_; conv => whnf) | (refine HIf.decT (by assumption) ?_; conv => whnf) | (refine HIf.decF (by assumption) ?_; conv => whnf) | (refine HIf.beqT (by assumption) ?_; conv => whnf) | (refine HIf.beqF (by assumption) ?_; conv => whnf) | (refine HIf.bneT (by assumption) ?_; conv => whnf) | (refine HIf.bneF (by assumption) ?_; conv => whnf) | (refine ⟨rfl, Ints.idxN (by assumption) (by omega) (fun p hp => ?_)⟩; conv => whnf) | (refine ⟨rfl, Rows.idxN (by assumption) (by omega) (fun p y hp hy => ?_)⟩; conv => whnf) | (refine And.intro (show Kd.isBool _ = true from rfl) ?_; conv => whnf) | (refine ⟨rfl, Ints.idx (by assumption) (by omega) (by omega) (fun p hp => ?_)⟩; conv => whnf) | (refine ⟨rfl, Rows.idx (by assumption) (by omega) (by omega) (fun p y hp hy => ?_)⟩; conv => whnf) | (refine HArith.fits (by omega) (by omega) ?_; conv => whnf) | (refine Or.inl (And.intro (show Region.lexB _ _ = true by kernel_rfl) ?_); conv => whnf)))
  refine HIf.dec (fun h1 => ?_) (fun h1 => ?_)
  · (conv => whnf)
    exact ⟨iEq' (by rw [cmp1, if_pos h1]), rfl⟩
  · (conv => whnf)
    refine HIf.dec (fun h2 => ?_) (fun h2 => ?_)
    · (conv => whnf)
      exact ⟨iEq' (by rw [cmp1, if_neg h1, if_pos h2]), rfl⟩
    · (conv => whnf)
      exact ⟨iEq' (by rw [cmp1, if_neg h1, if_neg h2]), rfl⟩

theorem lib_Or (h : Heap) (x : H0) (l : List Int) (hx : Ints h x l) (hl : l.length ≤ 1048576) : HCalls dm Tryz.prog 152 [.s x] h (fun r h' => r = I (orOf l) ∧ h' = h) := by
  refine calls_of_hFun (m := 0) kd_ok mixed Tryz.func152 rfl (by kernel_rfl) rfl rfl (of_decide_eq_true rfl) ?_; unfold hFun; (conv => whnf)
  refine ⟨rfl, hx.len ?_⟩
  (conv => whnf)
  refine HLoop.intro [8] [9, 10, 11, 5, 12, 13, 14, 15, 2, 16, 8] (by kernel_rfl) (by kernel_rfl) (fun vs h' => ∃ i : Nat, vs = [I i] ∧ h' = h ∧ i ≤ l.length ∧ ∀ k, k < i → l.getD k 0 = 0) (fun vs _ => l.length - natAt vs 0) ⟨0, rfl, rfl, by omega, fun k hk => by omega⟩ ?_
  rintro vs h' ⟨i, rfl, hh, hi, hb⟩
  subst h'
  (conv => whnf)
  refine HIf.dec (fun hlt => ?_) (fun hge => ?_)
  · (conv => whnf)
    refine ⟨rfl, Ints.idxN hx (by omega) (fun p hp => ?_)⟩
    (conv => whnf)
    refine ⟨rfl, hp.load ?_⟩
    (conv => whnf)
    refine HIf.bne (fun hne => ?_) (fun he => ?_)
    · (conv => whnf)
      exact ⟨iEq' (by rw [orOf_at l i (by omega) hb hne]), rfl⟩
    · (conv => whnf)
      refine HArith.fits (by omega) (by omega) ?_
      (conv => whnf)
      exact ⟨⟨i + 1, rfl, rfl, by omega, fun k hk => by
        by_cases e : k = i
        · rw [e]; exact he
        · exact hb k (by omega)⟩, by show l.length - (i + 1) < l.length - i; omega⟩
  · have e : i = l.length := by omega
    subst e
    (conv => whnf)
    exact ⟨iEq' (by rw [orOf_none l hb]), rfl⟩

theorem lib_sCompare (h : Heap) (x y : H0) (a b : List Int) (hx : Ints h x a) (hy : Ints h y b) (hal : a.length ≤ 1048576) : HCalls dm Tryz.prog 155 [.s x, .s y] h (fun r h' => r = I (lexC a b) ∧ h' = h) := by
  refine calls_of_hFun (m := 0) kd_ok mixed Tryz.func155 rfl (by kernel_rfl) rfl rfl (of_decide_eq_true rfl) ?_; unfold hFun; (conv => whnf)
  refine ⟨rfl, hx.len ?_⟩
  (conv => whnf)
  refine HLoop.intro [11] [12, 13, 14, 15, 5, 6, 16, 17, 18, 19, 4, 20, 21, 22, 23, 7, 24, 25, 26, 8, 27, 28, 29, 4, 30, 11] (by kernel_rfl) (by kernel_rfl) (fun vs h' => ∃ i : Nat, vs = [I i] ∧ h' = h ∧ i ≤ a.length ∧ i ≤ b.length ∧ lexC a b = lexC (a.drop i) (b.drop i)) (fun vs _ => a.length - natAt vs 0) ⟨0, rfl, rfl, by omega, by omega, rfl⟩ ?_
  rintro vs h' ⟨i, rfl, hh, hi, hib, hb⟩
  subst h'
  (conv => whnf)
  refine HIf.dec (fun hlt => ?_) (fun hge => ?_)
  · (conv => whnf)
    refine ⟨rfl, Ints.idxN hx (by omega) (fun p hp => ?_)⟩
    (conv => whnf)
    refine ⟨rfl, hp.load ?_⟩
    (conv => whnf)
    refine ⟨rfl, hy.len ?_⟩
    (conv => whnf)
    refine HIf.dec (fun hov => ?_) (fun hin => ?_)
    · (conv => whnf)
      exact ⟨iEq' (by rw [hb, lexC_over (by omega) (by omega)]), rfl⟩
    · have hd := lexC_drop (a := a) (b := b) (i := i) (by omega) (by omega)
      (conv => whnf)
      refine ⟨rfl, Ints.idxN hy (by omega) (fun p2 hp2 => ?_)⟩
      (conv => whnf)
      refine ⟨rfl, hp2.load ?_⟩
      (conv => whnf)
      refine (lib_cmp _ _ _).mono ?_
      rintro r h1 ⟨rfl, rfl⟩
      (conv => whnf)
      refine HIf.bne (fun hne => ?_) (fun he => ?_)
      · have : lexC a b = cmp1 (a.getD i 0) (b.getD i 0) := by
          rw [hb, hd]
          unfold cmp1 at hne ⊢
          by_cases h1 : a.getD i 0 < b.getD i 0
          · rw [if_pos h1, if_pos h1]
          · by_cases h2 : b.getD i 0 < a.getD i 0
            · rw [if_neg h1, if_neg h1, if_pos h2, if_pos h2]
            · rw [if_neg h1, if_neg h2] at hne; omega
        (conv => whnf)
        exact ⟨iEq' (by rw [this]), rfl⟩
      · have h3 : lexC a b = lexC (a.drop (i + 1)) (b.drop (i + 1)) := by
          rw [hb, hd]
          unfold cmp1 at he
          by_cases h1 : a.getD i 0 < b.getD i 0
          · rw [if_pos h1] at he; omega
          · by_cases h2 : b.getD i 0 < a.getD i 0
            · rw [if_neg h1, if_pos h2] at he; omega
            · rw [if_neg h1, if_neg h2]
        (conv => whnf)
        refine HArith.fits (by omega) (by omega) ?_
        (conv => whnf)
        exact ⟨⟨i + 1, rfl, rfl, by omega, by omega, h3⟩, by show a.length - (i + 1) < a.length - i; omega⟩
  · have e : i = a.length := by omega
    have he := lexC_end (a := a) (b := b) (i := i) (by omega)
    (conv => whnf)
    refine ⟨rfl, hx.len ?_⟩
    (conv => whnf)
    refine ⟨rfl, hy.len ?_⟩
    (conv => whnf)
    refine HIf.dec (fun h1 => ?_) (fun h1 => ?_)
    · (conv => whnf)
      exact ⟨iEq' (by rw [hb, he, if_pos (by omega)]), rfl⟩
    · (conv => whnf)
      exact ⟨iEq' (by rw [hb, he, if_neg (by omega)]), rfl⟩

theorem impl_compareRoots (h : Heap) (x y : H0) (a b : List Int) (hx : Ints h x a) (hy : Ints h y b) (hal : a.length ≤ 1048576) (hbl : b.length ≤ 1048576) :
    HCalls dm Tryz.prog 87 [.s x, .s y] h (fun r h' => r = I (cmpR a b) ∧ Ext h h') := by
  refine calls_of_hFun (m := 0) kd_ok mixed Tryz.func87 rfl (by kernel_rfl) rfl rfl (of_decide_eq_true rfl) ?_; unfold hFun; (conv => whnf)
  refine (impl_HeightOf _ _ _ hx (by omega)).mono ?_
  rintro r h1 ⟨rfl, hh⟩
  subst h1
  (conv => whnf)
  refine (impl_HeightOf _ _ _ hy (by omega)).mono ?_
  rintro r h1 ⟨rfl, hh⟩
  subst h1
  (conv => whnf)
  refine (lib_cmp _ _ _).mono ?_
  rintro r h1 ⟨rfl, hh⟩
  subst h1
  (conv => whnf)
  refine (lib_sCompare _ _ _ _ _ hy hx (by omega)).mono ?_
  rintro r h1 ⟨rfl, hh⟩
  subst h1
  (conv => whnf)
  refine HLit.two ?_
  (conv => whnf)
  have hor := (OwnR.push h [cmp1 (heightOf a) (heightOf b), lexC b a]).ints
  refine (lib_Or _ _ _ hor (by simp)).mono ?_
  rintro r h1 ⟨rfl, hh⟩
  subst h1
  (conv => whnf)
  exact ⟨iEq' (cmpR_or _ _), Ext.push _ _⟩

theorem spec_l7Before (h : Heap) (x y : H0) (a b : List Int) (hx : Ints h x a) (hy : Ints h y b) (hal : a.length ≤ 1048576) (hbl : b.length ≤ 1048576) :
    HCalls dm Tryz.prog 156 [.s x, .s y] h (fun r h' => r = B (beforeR a b) ∧ h' = h) := by
  refine calls_of_hFun (m := 0) kd_ok mixed Tryz.func156 rfl (by kernel_rfl) rfl rfl (of_decide_eq_true rfl) ?_; unfold hFun; (conv => whnf)
  refine (spec_HeightOf _ _ _ hx (by omega)).mono ?_
  rintro r h1 ⟨rfl, hh⟩
  subst h1
  (conv => whnf)
  refine (spec_HeightOf _ _ _ hy (by omega)).mono ?_
  rintro r h1 ⟨rfl, hh⟩
  subst h1
  (conv => whnf)
  refine HIf.bne (fun hne => ?_) (fun heq => ?_)
  · (conv => whnf)
    exact ⟨bEq (by rw [beforeR, if_neg hne]), rfl⟩
  · have hbf : beforeR a b = lexGt a b := by rw [beforeR, if_pos heq]
    (conv => whnf)
    refine HLoop.intro [7] [18, 19, 20, 21, 22, 23, 24, 25, 26, 27, 30, 31, 32, 33, 34, 35, 36, 37, 38, 39, 40, 41, 42, 43, 44, 45, 46, 47, 4, 28, 29, 7] (by kernel_rfl) (by kernel_rfl) (fun vs h' => ∃ i : Nat, vs = [I i] ∧ h' = h ∧ i ≤ a.length ∧ i ≤ b.length ∧ lexGt a b = lexGt (a.drop i) (b.drop i)) (fun vs _ => a.length - natAt vs 0) ⟨0, rfl, rfl, by omega, by omega, rfl⟩ ?_
    rintro vs h' ⟨i, rfl, hh, hi, hib, hb⟩
    subst h'
    (conv => whnf)
    refine ⟨rfl, hx.len ?_⟩
    (conv => whnf)
    refine HIf.dec (fun hlt => ?_) (fun hge => ?_)
    · (conv => whnf)
      (repeat (first | (refine ⟨rfl, Ints.len (by assumption) ?_⟩; conv => whnf) | (refine ⟨rfl, Rows.len (by assumption) ?_⟩; conv => whnf) | (refine ⟨rfl, HLen.sl ?_⟩; conv => whnf) | (refine ⟨rfl, At.load (by assumption) ?_⟩; conv => whnf) | (refine HIf.yes ?_; conv => whnf) | (refine HIf.no ?_; conv => whnf) | (refine HIf.isT (by assumption) ?_; conv => whnf) | (refine HIf.isF (by assumption) ?_; conv => whnf) | (refine HIf.decT (by assumption) ?_; conv => whnf) | (refine HIf.decF (by assumption) ?_; conv => whnf) | (refine HIf.beqT (by assumption) ?_; conv => whnf) | (refine HIf.beqF (by assumption) ?_; conv => whnf) | (refine HIf.bneT (by assumption) ?_; conv => whnf) | (refine HIf.bneF (by assumption) ?_; conv => whnf) | (refine ⟨rfl, Ints.idxN (by assumption) (by omega) (fun p hp => ?_)⟩; conv => whnf) | (refine ⟨rfl, Rows.idxN (by assumption) (by omega) (fun p y hp hy => ?_)⟩; conv => whnf) | (refine And.intro (show Kd.isBool _ = true from rfl) ?_; conv => whnf) | (refine ⟨rfl, Ints.idx (by assumption) (by omega) (by omega) (fun p hp => ?_)⟩; conv => whnf) | (refine ⟨rfl, Rows.idx (by assumption) (by omega) (by omega) (fun p y hp hy => ?_)⟩; conv => whnf) | (refine HArith.fits (by omega) (by omega) ?_; conv => whnf) | (refine Or.inl (And.intro (show Region.lexB _ _ = true by kernel_rfl) ?_); conv => whnf)))
      refine HIf.dec (fun hlt2 => ?_) (fun hge2 => ?_)
      · have hd := lexGt_drop (a := a) (b := b) (i := i) (by omega) (by omega)
        (conv => whnf)
        refine Or.inl (And.intro (show Region.lexB _ _ = true by kernel_rfl) ?_); (conv => whnf)
        refine ⟨rfl, Ints.idxN hx (by omega) (fun p hp => ?_)⟩
        (conv => whnf)
        refine ⟨rfl, hp.load ?_⟩
        (conv => whnf)
        refine ⟨rfl, Ints.idxN hy (by omega) (fun p2 hp2 => ?_)⟩
        (conv => whnf)
        refine ⟨rfl, hp2.load ?_⟩
        (conv => whnf)
        refine HIf.bne (fun hne => ?_) (fun he => ?_)
        · rw [if_neg hne] at hd
          (conv => whnf)
          refine Or.inl (And.intro (show Region.lexB _ _ = true by kernel_rfl) ?_); (conv => whnf)
          refine ⟨rfl, Ints.idxN hx (by omega) (fun p3 hp3 => ?_)⟩
          (conv => whnf)
          refine ⟨rfl, hp3.load ?_⟩
          (conv => whnf)
          refine ⟨rfl, Ints.idxN hy (by omega) (fun p4 hp4 => ?_)⟩
          (conv => whnf)
          refine ⟨rfl, hp4.load ?_⟩
          (conv => whnf)
          exact ⟨bEq (by rw [hbf, hb, hd]), rfl⟩
        · rw [if_pos he] at hd
          (conv => whnf)
          refine HArith.fits (by omega) (by omega) ?_
          (conv => whnf)
          exact ⟨⟨i + 1, rfl, rfl, by omega, by omega, hb.trans hd⟩, by show a.length - (i + 1) < a.length - i; omega⟩
      · (conv => whnf)
        exact ⟨bEq (by rw [hbf, hb, lexGt_end (Or.inr (by omega))]), rfl⟩
    · (conv => whnf)
      (repeat (first | (refine ⟨rfl, Ints.len (by assumption) ?_⟩; conv => whnf) | (refine ⟨rfl, Rows.len (by assumption) ?_⟩; conv => whnf) | (refine ⟨rfl, HLen.sl ?_⟩; conv => whnf) | (refine ⟨rfl, At.load (by assumption) ?_⟩; conv => whnf) | (refine HIf.yes ?_; conv => whnf) | (refine HIf.no ?_; conv => whnf) | (refine HIf.isT (by assumption) ?_; conv => whnf) | (refine HIf.isF (by assumption) ?_; conv => whnf) | (refine HIf.decT (by assumption) ?_; conv => whnf) | (refine HIf.decF (by assumption) ?_; conv => whnf) | (refine HIf.beqT (by assumption) ?_; conv => whnf) | (refine HIf.beqF (by assumption) ?_; conv => whnf) | (refine HIf.bneT (by assumption) ?_; conv => whnf) | (refine HIf.bneF (by assumption) ?_; conv => whnf) | (refine ⟨rfl, Ints.idxN (by assumption) (by omega) (fun p hp => ?_)⟩; conv => whnf) | (refine ⟨rfl, Rows.idxN (by assumption) (by omega) (fun p y hp hy => ?_)⟩; conv => whnf) | (refine And.intro (show Kd.isBool _ = true from rfl) ?_; conv => whnf) | (refine ⟨rfl, Ints.idx (by assumption) (by omega) (by omega) (fun p hp => ?_)⟩; conv => whnf) | (refine ⟨rfl, Rows.idx (by assumption) (by omega) (by omega) (fun p y hp hy => ?_)⟩; conv => whnf) | (refine HArith.fits (by omega) (by omega) ?_; conv => whnf) | (refine Or.inl (And.intro (show Region.lexB _ _ = true by kernel_rfl) ?_); conv => whnf)))
      exact ⟨bEq (by rw [hbf, hb, lexGt_end (Or.inl (by omega))]), rfl⟩

end Go.Proofs.YtgliajcgcbnemaaGreatDoor.Hx

namespace Go.Proofs.YtgliajcgcbnemaaGreatDoor.Hx
open Go.RowKit
variable {dm : Bool}

theorem takeL_snoc (L : List (List Int)) {k : Nat} (h : k < L.length) : L.take (k + 1) = L.take k ++ [L.getD k []] := by
  rw [List.take_succ_eq_append_getElem h]
  simp [List.getD, h]
theorem memL_snoc {L : List (List Int)} {a : List Int} {k : Nat} (hk : k < L.length) (h : a ∉ L.take k) (h2 : L.getD k [] ≠ a) : a ∉ L.take (k + 1) := by
  rw [takeL_snoc L hk]
  simp only [List.mem_append, List.mem_singleton, not_or]
  exact ⟨h, fun e => h2 e.symm⟩
theorem memL_at {L : List (List Int)} {a : List Int} {k : Nat} (hk : k < L.length) (h2 : L.getD k [] = a) : a ∈ L := by
  have : L[k] = a := by simpa [List.getD, hk] using h2
  rw [← this]
  exact List.getElem_mem hk

/-- The first simple root in a list. -/
def firstS (c : List (List Int)) (L : List (List Int)) : Option Nat := (List.range c.length).find? fun i => decide (simpleRoot c (i : Nat) ∈ L)
/-- The first k roots reflected, the simple one left out; nothing if one of them is not positive or comes twice. -/
def nextTo (c : List (List Int)) (i : Nat) (L : List (List Int)) : Nat → Option (List (List Int))
  | 0 => some []
  | k + 1 => match nextTo c i L k with
    | none => none
    | some R => if L.getD k [] = simpleRoot c (i : Nat) then some R else if rootSign (reflectRoot c (i : Nat) (L.getD k [])) = 1 ∧ reflectRoot c (i : Nat) (L.getD k []) ∉ R then some (R ++ [reflectRoot c (i : Nat) (L.getD k [])]) else none
def woi (c : List (List Int)) : Nat → List (List Int) → List Int → Option (List Int)
  | 0, _, _ => none
  | f + 1, L, o => if L.length = 0 then some o else match firstS c L with
    | none => none
    | some i => match nextTo c i L L.length with
      | none => none
      | some R => woi c f R (o ++ [(i : Int)])
def woiOk (c : List (List Int)) (L : List (List Int)) : Bool := isCartan c && (woi c 16 L []).isSome
def woiW (c : List (List Int)) (L : List (List Int)) : List Int := if isCartan c then (woi c 16 L []).getD [] else []

theorem firstS_at {c L : List (List Int)} {i : Nat} (hi : i < c.length) (h : simpleRoot c (i : Nat) ∈ L) (hb : ∀ t : Nat, t < i → simpleRoot c (t : Nat) ∉ L) : firstS c L = some i := by
  unfold firstS
  rw [List.find?_range_eq_some]
  exact ⟨decide_eq_true h, by simpa using hi, fun t ht => by simp [hb t ht]⟩
theorem firstS_none {c L : List (List Int)} (hb : ∀ t : Nat, t < c.length → simpleRoot c (t : Nat) ∉ L) : firstS c L = none := by
  unfold firstS
  rw [List.find?_range_eq_none]
  intro t ht
  simp [hb t ht]
theorem nextTo_skip {c L R : List (List Int)} {i k : Nat} (h : nextTo c i L k = some R) (h2 : L.getD k [] = simpleRoot c (i : Nat)) : nextTo c i L (k + 1) = some R := by
  rw [nextTo, h]
  simp only
  rw [if_pos h2]
theorem nextTo_add {c L R : List (List Int)} {i k : Nat} (h : nextTo c i L k = some R) (h2 : L.getD k [] ≠ simpleRoot c (i : Nat)) (h3 : rootSign (reflectRoot c (i : Nat) (L.getD k [])) = 1) (h4 : reflectRoot c (i : Nat) (L.getD k []) ∉ R) :
    nextTo c i L (k + 1) = some (R ++ [reflectRoot c (i : Nat) (L.getD k [])]) := by
  rw [nextTo, h]
  simp only
  rw [if_neg h2, if_pos ⟨h3, h4⟩]
theorem nextTo_bad {c L R : List (List Int)} {i k : Nat} (h : nextTo c i L k = some R) (h2 : L.getD k [] ≠ simpleRoot c (i : Nat)) (h3 : rootSign (reflectRoot c (i : Nat) (L.getD k [])) ≠ 1 ∨ reflectRoot c (i : Nat) (L.getD k []) ∈ R) : nextTo c i L (k + 1) = none := by
  rw [nextTo, h]
  simp only
  rw [if_neg h2, if_neg]
  rintro ⟨a, b⟩
  rcases h3 with h3 | h3
  · exact h3 a
  · exact b h3
theorem nextTo_none {c L : List (List Int)} {i k : Nat} (h : nextTo c i L k = none) : ∀ m, k ≤ m → nextTo c i L m = none := by
  intro m hm
  induction m with
  | zero =>
    have : k = 0 := by omega
    subst this
    exact h
  | succ m ih =>
    by_cases e : k = m + 1
    · subst e; exact h
    · rw [nextTo, ih (by omega)]
theorem woi_done {c L : List (List Int)} {f : Nat} {o : List Int} (h : L.length = 0) : woi c (f + 1) L o = some o := by
  rw [woi, if_pos h]
theorem woi_nofirst {c L : List (List Int)} {f : Nat} {o : List Int} (h : L.length ≠ 0) (h2 : firstS c L = none) : woi c (f + 1) L o = none := by
  rw [woi, if_neg h, h2]
theorem woi_nonext {c L : List (List Int)} {f i : Nat} {o : List Int} (h : L.length ≠ 0) (h2 : firstS c L = some i) (h3 : nextTo c i L L.length = none) : woi c (f + 1) L o = none := by
  rw [woi, if_neg h, h2]
  simp only
  rw [h3]
theorem woi_next {c L R : List (List Int)} {f i : Nat} {o : List Int} (h : L.length ≠ 0) (h2 : firstS c L = some i) (h3 : nextTo c i L L.length = some R) : woi c (f + 1) L o = woi c f R (o ++ [(i : Int)]) := by
  rw [woi, if_neg h, h2]
  simp only
  rw [h3]
theorem woi_one {c L : List (List Int)} {o : List Int} (h : L.length ≠ 0) : woi c 1 L o = none := by
  cases h2 : firstS c L with
  | none => exact woi_nofirst h h2
  | some i =>
    cases h3 : nextTo c i L L.length with
    | none => exact woi_nonext h h2 h3
    | some R => rw [woi_next h h2 h3, woi]
theorem woi_off {c L : List (List Int)} (h : isCartan c = false) : woiOk c L = false ∧ woiW c L = [] := by simp [woiOk, woiW, h]
theorem woi_some {c L : List (List Int)} {o : List Int} (h : isCartan c = true) (h2 : woi c 16 L [] = some o) : woiOk c L = true ∧ woiW c L = o := by simp [woiOk, woiW, h, h2]
theorem woi_none {c L : List (List Int)} (h2 : woi c 16 L [] = none) : woiOk c L = false ∧ woiW c L = [] := by
  refine ⟨by simp [woiOk, h2], ?_⟩
  unfold woiW
  rw [h2]
  split <;> rfl
theorem woi_len {c : List (List Int)} : ∀ (f : Nat) (L : List (List Int)) (o y : List Int), woi c f L o = some y → y.length ≤ o.length + f
  | 0, _, _, _, h => by rw [woi] at h; cases h
  | f + 1, L, o, y, h => by
    rw [woi] at h
    split at h
    · injection h with h
      subst h
      omega
    · split at h
      · cases h
      · split at h
        · cases h
        · have := woi_len f _ _ y h
          simp only [List.length_append, List.length_cons, List.length_nil] at this
          omega
theorem woiW_len (c L : List (List Int)) : (woiW c L).length ≤ 16 := by
  unfold woiW
  split
  · cases h : woi c 16 L [] with
    | none => simp
    | some y =>
      have := woi_len 16 L [] y h
      simpa using this
  · simp
theorem rootSign_cases (a : List Int) : rootSign a = 0 ∨ rootSign a = 1 ∨ rootSign a = -1 := by
  unfold rootSign
  split
  · exact Or.inl rfl
  · split
    · exact Or.inr (Or.inl rfl)
    · exact Or.inr (Or.inr rfl)
theorem letter_root {c : List (List Int)} (h : isCartan c = true) {i : Nat} (hi : i < c.length) : simpleRoot c (i : Nat) = (List.replicate c.length (0 : Int)).set (i : Int).toNat 1 :=
  simpleRoot_eq h (by simp [isPoint, inRange]; omega)
theorem tot_app (L : List (List Int)) (l : List Int) : tot (L ++ [l]) = tot L + l.length := by
  rw [← flat_len, ← flat_len, List.flatten_append]
  simp

/-- A slice of slices that is only read: it lay there before, or lies in rows of its own, not row r. -/
def RdM (h0 : Heap) (r : Nat) (h : Heap) (y : H0) (L : List (List Int)) : Prop := Rows h0 y L ∨ ∃ b e, e ≤ h.length ∧ (r < b ∨ e ≤ r) ∧ OwnM b e h y L
theorem OwnM.but {b e r : Nat} {h h' : Heap} {x : H0} {L : List (List Int)} (H : OwnM b e h x L) (k : But r h h') (o : r < b ∨ e ≤ r) : OwnM b e h' x L := by
  obtain ⟨q, ρ, g1, g2, g3, g4, m⟩ := H
  refine ⟨q, ρ, g1, g2, g3, g4, m.move ?_ (fun i hi => ?_)⟩
  · obtain ⟨cs, h1, _⟩ := m.outer
    exact k.2 q (get_lt h1) (by omega)
  · obtain ⟨t, h1⟩ := m.inner i hi
    have := g4 i hi
    exact k.2 _ (get_lt h1) (by omega)
theorem RdM.rows {h0 h : Heap} {r : Nat} {y : H0} {L : List (List Int)} (H : RdM h0 r h y L) (E : Ext h0 h) : Rows h y L := by
  rcases H with H | ⟨b, e, _, _, O⟩
  · exact H.ext E
  · exact O.rows
theorem RdM.ext {h0 h h' : Heap} {r : Nat} {y : H0} {L : List (List Int)} (H : RdM h0 r h y L) (E : Ext h h') : RdM h0 r h' y L := by
  rcases H with H | ⟨b, e, g1, g2, O⟩
  · exact Or.inl H
  · have := E.1
    exact Or.inr ⟨b, e, by omega, g2, O.ext E⟩
theorem RdM.but {h0 h h' : Heap} {r r' : Nat} {y : H0} {L : List (List Int)} (H : RdM h0 r h y L) (B : But r h h') (hr : h.length ≤ r') : RdM h0 r' h' y L := by
  rcases H with H | ⟨b, e, g1, g2, O⟩
  · exact Or.inl H
  · have := B.1
    exact Or.inr ⟨b, e, by omega, Or.inr (by omega), O.but B g2⟩


theorem impl_hasRoot_1 (h : Heap) (x : H0) (r : Nat) (y : H0) (a b : List Int) (hx : Ints h x a) (hr : At h (.ptr r 0) y) (hy : Ints h y b) (hbl : b.length ≤ 2199023255552) :
    HCalls dm Tryz.prog 159 [.s x, .s (.ptr r 0)] h (fun v h' => v = B (decide (b = a)) ∧ h' = h) := by
  refine calls_of_hFun (m := 0) kd_ok mixed Tryz.func159 rfl (by kernel_rfl) rfl rfl (of_decide_eq_true rfl) ?_; unfold hFun; (conv => whnf)
  refine ⟨rfl, hr.load ?_⟩
  (conv => whnf)
  refine (lib_Equal _ _ _ b a hy hx hbl).mono ?_
  rintro v h' ⟨rfl, rfl⟩
  (conv => whnf)
  exact ⟨rfl, rfl⟩

theorem lib_IndexFunc_root (h : Heap) (x : H0) (r : Nat) (y : H0) (L : List (List Int)) (w : List Int) (hx : Rows h x L) (hr : At h (.ptr r 0) y) (hy : Ints h y w) (hL : L.length ≤ 1048576) (hw : w.length ≤ 1048576) :
    HCalls dm Tryz.prog 210 [.s x, .fn 159 [.ptr r 0]] h (fun v h' => ∃ k : Int, v = I k ∧ (0 ≤ k ↔ w ∈ L) ∧ h' = h) := by
  refine calls_of_hFun (m := 0) kd_ok mixed Tryz.func210 rfl (by kernel_rfl) rfl rfl (of_decide_eq_true rfl) ?_; unfold hFun; (conv => whnf)
  refine ⟨rfl, hx.len ?_⟩
  (conv => whnf)
  refine HLoop.intro [8] [9, 10, 5, 11, 12, 13, 14, 15, 16, 17, 4, 18, 8] (by kernel_rfl) (by kernel_rfl) (fun vs h' => ∃ i : Nat, vs = [I i] ∧ h' = h ∧ i ≤ L.length ∧ w ∉ L.take i) (fun vs _ => L.length - natAt vs 0) ⟨0, rfl, rfl, by omega, by simp⟩ ?_
  rintro vs h' ⟨i, rfl, hh, hi, hb⟩
  subst h'
  (conv => whnf)
  refine HIf.dec (fun hlt => ?_) (fun hge => ?_)
  · (conv => whnf)
    refine ⟨rfl, Rows.idxN hx (by omega) (fun p z hp hz => ?_)⟩
    (conv => whnf)
    refine ⟨rfl, hp.load ?_⟩
    (conv => whnf)
    refine (impl_hasRoot_1 _ _ r y _ w hz hr hy (by omega)).mono ?_
    rintro v h2 ⟨rfl, hh⟩
    subst h2
    (conv => whnf)
    refine HIf.dec (fun he => ?_) (fun hne => ?_)
    · (conv => whnf)
      exact ⟨_, rfl, ⟨fun _ => memL_at (by omega) he.symm, fun _ => by omega⟩, rfl⟩
    · (conv => whnf)
      refine HArith.fits (by omega) (by omega) ?_
      (conv => whnf)
      exact ⟨⟨i + 1, rfl, rfl, by omega, memL_snoc (by omega) hb (Ne.symm hne)⟩, by show L.length - (i + 1) < L.length - i; omega⟩
  · have e : i = L.length := by omega
    subst e
    rw [List.take_length] at hb
    (conv => whnf)
    exact ⟨_, rfl, ⟨fun h => by omega, fun h => absurd h hb⟩, rfl⟩

theorem impl_hasRoot (h : Heap) (x0 : H0) (L : List (List Int)) (x1 : H0) (w : List Int) (hx0 : Rows h x0 L) (hx1 : Ints h x1 w) (hL : L.length ≤ 1048576) (hw : w.length ≤ 1048576) :
    HCalls dm Tryz.prog 94 [.s x0, .s x1] h (fun r h' => r = B (decide (w ∈ L)) ∧ Ext h h') := by
  have index : ∀ (r : Nat) (h2 : Heap), Ext h h2 → At h2 (.ptr r 0) x1 → HCalls dm Tryz.prog 158 [.s x0, .fn 159 [.ptr r 0]] h2 (fun v h' => v = B (decide (w ∈ L)) ∧ h' = h2) := by
    intro r h2 E hr
    refine calls_of_hFun (m := 0) kd_ok mixed Tryz.func158 rfl (by kernel_rfl) rfl rfl (of_decide_eq_true rfl) ?_; unfold hFun; (conv => whnf)
    refine (lib_IndexFunc_root _ _ r x1 L w (hx0.ext E) hr (hx1.ext E) hL hw).mono ?_
    rintro v h3 ⟨k, rfl, hk, hh⟩
    subst h3
    (conv => whnf)
    refine ⟨bEq ?_, rfl⟩
    by_cases h0 : w ∈ L
    · have := hk.2 h0
      simp [h0, this]
    · have : ¬ 0 ≤ k := fun h => h0 (hk.1 h)
      simp [h0]
      omega
  have E := Ext.push h [Row.own [x1]]
  refine calls_of_hFun (m := 0) kd_ok mixed Tryz.func94 rfl (by kernel_rfl) rfl rfl (of_decide_eq_true rfl) ?_; unfold hFun; (conv => whnf)
  refine ⟨rfl, ⟨x1, rfl, hx1.one, ?_⟩⟩
  (conv => whnf)
  refine (index h.length _ E (At.own (get_new _ _))).mono ?_
  rintro v h2 ⟨rfl, hh⟩
  subst h2
  (conv => whnf)
  exact ⟨rfl, E⟩

theorem spec_l7In (h : Heap) (x0 : H0) (L : List (List Int)) (x1 : H0) (w : List Int) (hx0 : Rows h x0 L) (hx1 : Ints h x1 w) (hL : L.length ≤ 1048576 ∧ tot L ≤ 1048576) :
    HCalls dm Tryz.prog 105 [.s x0, .s x1] h (fun r h' => r = B (decide (w ∈ L)) ∧ h' = h) := by
  refine calls_of_hFun (m := 0) kd_ok mixed Tryz.func105 rfl (by kernel_rfl) rfl rfl (of_decide_eq_true rfl) ?_; unfold hFun; (conv => whnf)
  refine HLoop.intro [5] [6, 7, 8, 9, 12, 13, 14, 15, 16, 17, 4, 10, 11, 5] (by kernel_rfl) (by kernel_rfl) (fun vs h' => ∃ i : Nat, vs = [I i] ∧ h' = h ∧ i ≤ L.length ∧ w ∉ L.take i) (fun vs _ => L.length - natAt vs 0) ⟨0, rfl, rfl, by omega, by simp⟩ ?_
  rintro vs h' ⟨i, rfl, hh, hi, hb⟩
  subst h'
  (conv => whnf)
  refine ⟨rfl, hx0.len ?_⟩
  (conv => whnf)
  refine HIf.dec (fun hlt => ?_) (fun hge => ?_)
  · have hle := len_le_tot (L := L) (i := i) (by omega)
    (conv => whnf)
    refine ⟨rfl, Rows.idxN hx0 (by omega) (fun p z hp hz => ?_)⟩
    (conv => whnf)
    refine ⟨rfl, hp.load ?_⟩
    (conv => whnf)
    refine (spec_EqualWords _ _ _ _ w hz hx1 (by omega)).mono ?_
    rintro v h2 ⟨rfl, hh⟩
    subst h2
    (conv => whnf)
    refine HIf.dec (fun he => ?_) (fun hne => ?_)
    · (conv => whnf)
      exact ⟨bEq (decide_eq_true (memL_at (by omega) he)), rfl⟩
    · (conv => whnf)
      refine HArith.fits (by omega) (by omega) ?_
      (conv => whnf)
      exact ⟨⟨i + 1, rfl, rfl, by omega, memL_snoc (by omega) hb hne⟩, by show L.length - (i + 1) < L.length - i; omega⟩
  · have e : i = L.length := by omega
    subst e
    rw [List.take_length] at hb
    (conv => whnf)
    exact ⟨bEq (decide_eq_false hb), rfl⟩

theorem spec_l2Copy (h : Heap) (x0 : H0) (L : List (List Int)) (hx0 : Rows h x0 L) (hL : L.length ≤ 1048576 ∧ tot L ≤ 1048576) :
    HCalls dm Tryz.prog 104 [.s x0] h (fun r h' => ∃ y, r = .s y ∧ Ext h h' ∧ OwnM h.length h'.length h' y L) := by
  refine calls_of_hFun (m := 0) kd_ok mixed Tryz.func104 rfl (by kernel_rfl) rfl rfl (of_decide_eq_true rfl) ?_; unfold hFun; (conv => whnf)
  refine HLit.empty ?_
  (conv => whnf)
  refine HLoop.intro [4, 3] [6, 7, 8, 9, 12, 13, 14, 15, 16, 17, 18, 19, 20, 3, 10, 11, 4] (by kernel_rfl) (by kernel_rfl) (fun vs h' => ∃ (k : Nat) (z : H0), vs = [I k, .s z] ∧ k ≤ L.length ∧ Ext h h' ∧ OwnM h.length h'.length h' z (L.take k)) (fun vs _ => L.length - natAt vs 0) ⟨0, _, rfl, by omega, Ext.push _ _, OwnM.none h⟩ ?_
  rintro vs h' ⟨k, z, rfl, hk, E, O⟩
  have hx0 := hx0.ext E
  (conv => whnf)
  refine ⟨rfl, hx0.len ?_⟩
  (conv => whnf)
  refine HIf.dec (fun hlt => ?_) (fun hge => ?_)
  · have hle := len_le_tot (L := L) (i := k) (by omega)
    have E1 := Ext.push h' [Row.own []]
    (conv => whnf)
    refine HLit.empty ?_
    (conv => whnf)
    refine ⟨rfl, Rows.idxN (hx0.ext E1) (by omega) (fun p y hp hy => ?_)⟩
    (conv => whnf)
    refine ⟨rfl, hp.load ?_⟩
    (conv => whnf)
    refine ⟨rfl, rfl, HApp.moreR (OwnR.push h' []) hy (by rw [List.length_nil]; omega) (fun h2 r2 y2 B2 hr2 O2 => ?_)⟩
    have E2 := E1.but B2 (Nat.le_refl _)
    have hE1 := E1.1
    rw [List.nil_append] at O2
    (conv => whnf)
    refine HLit.row (O2.own (Nat.zero_le _)).one ?_
    (conv => whnf)
    refine ⟨rfl, rfl, HApp.snocM E O E2 (O2.own (by omega)) (by simp; omega) (fun h4 y4 E4 O4 => ?_)⟩
    rw [← takeL_snoc L (by omega)] at O4
    (conv => whnf)
    refine HArith.fits (by omega) (by omega) ?_
    (conv => whnf)
    exact ⟨⟨k + 1, y4, rfl, by omega, E4, O4⟩, by show L.length - (k + 1) < L.length - k; omega⟩
  · have e : k = L.length := by omega
    subst e
    rw [List.take_length] at O
    (conv => whnf)
    exact ⟨_, rfl, E, O⟩

end Go.Proofs.YtgliajcgcbnemaaGreatDoor.Hx

namespace Go.Proofs
open Go.Shelf
def Tryz.sortL_ren : Go.Shelf.Ren := ⟨fun | 6 => 86 | 15 => 151 | 14 => 150 | 28 => 207 | 29 => 208 | 20 => 199 | 21 => 200 | 22 => 201 | 23 => 202 | 24 => 203 | 25 => 204 | 26 => 205 | 27 => 206 | 46 => 234 | 47 => 235 | 48 => 236 | 49 => 237 | 50 => 238 | 57 => 264 | n => n, fun | 22 => 22 | 24 => 30 | 25 => 71 | 3 => 3 | 39 => 99 | 0 => 0 | 53 => 139 | 55 => 141 | 4 => 4 | 46 => 133 | 45 => 132 | 50 => 116 | 5 => 5 | 9 => 9 | 66 => 154 | 70 => 158 | 76 => 181 | 77 => 182 | n => n, fun | n => n⟩
theorem Tryz.sortL : Go.Proofs.SlLaysF.n6 Tryz.prog Tryz.sortL_ren := {
  mixed := by kernel_rfl
  f6 := ⟨Tryz.f86.name, by decide, Tryz.func86.trans (congrArg some (by kernel_rfl))⟩
  f14 := ⟨Tryz.f150.name, by decide, Tryz.func150.trans (congrArg some (by kernel_rfl))⟩
  f15 := Tryz.func151.trans (congrArg some (by kernel_rfl))
  f20 := ⟨Tryz.f199.name, by decide, Tryz.func199.trans (congrArg some (by kernel_rfl))⟩
  f21 := ⟨Tryz.f200.name, by decide, Tryz.func200.trans (congrArg some (by kernel_rfl))⟩
  f22 := ⟨Tryz.f201.name, by decide, Tryz.func201.trans (congrArg some (by kernel_rfl))⟩
  f23 := ⟨Tryz.f202.name, by decide, Tryz.func202.trans (congrArg some (by kernel_rfl))⟩
  f24 := ⟨Tryz.f203.name, by decide, Tryz.func203.trans (congrArg some (by kernel_rfl))⟩
  f25 := ⟨Tryz.f204.name, by decide, Tryz.func204.trans (congrArg some (by kernel_rfl))⟩
  f26 := ⟨Tryz.f205.name, by decide, Tryz.func205.trans (congrArg some (by kernel_rfl))⟩
  f27 := ⟨Tryz.f206.name, by decide, Tryz.func206.trans (congrArg some (by kernel_rfl))⟩
  f28 := Tryz.func207.trans (congrArg some (by kernel_rfl))
  f29 := Tryz.func208.trans (congrArg some (by kernel_rfl))
  f46 := ⟨Tryz.f234.name, by decide, Tryz.func234.trans (congrArg some (by kernel_rfl))⟩
  f47 := Tryz.func235.trans (congrArg some (by kernel_rfl))
  f48 := Tryz.func236.trans (congrArg some (by kernel_rfl))
  f49 := ⟨Tryz.f237.name, by decide, Tryz.func237.trans (congrArg some (by kernel_rfl))⟩
  f50 := ⟨Tryz.f238.name, by decide, Tryz.func238.trans (congrArg some (by kernel_rfl))⟩
  f57 := ⟨Tryz.f264.name, by decide, Tryz.func264.trans (congrArg some (by kernel_rfl))⟩
  t0 := Tryz.underlying0
  a0 := Tryz.isAgg0
  z0 := Tryz.sizeOf0
  v0 := Tryz.zeroValue0
  t3 := Tryz.underlying3
  a3 := Tryz.isAgg3
  z3 := Tryz.sizeOf3
  v3 := Tryz.zeroValue3
  t4 := Tryz.underlying4
  a4 := Tryz.isAgg4
  z4 := Tryz.sizeOf4
  v4 := Tryz.zeroValue4
  t5 := Tryz.underlying5
  a5 := Tryz.isAgg5
  z5 := Tryz.sizeOf5
  v5 := Tryz.zeroValue5
  t9 := Tryz.underlying9
  a9 := Tryz.isAgg9
  z9 := Tryz.sizeOf9
  v9 := Tryz.zeroValue9
  t22 := Tryz.underlying22
  a22 := Tryz.isAgg22
  z22 := Tryz.sizeOf22
  v22 := Tryz.zeroValue22
  a24 := Tryz.isAgg30
  z24 := Tryz.sizeOf30
  t25 := Tryz.underlying71
  a25 := Tryz.isAgg71
  z25 := Tryz.sizeOf71
  v25 := Tryz.zeroValue71
  t39 := Tryz.underlying99
  a39 := Tryz.isAgg99
  z39 := Tryz.sizeOf99
  v39 := Tryz.zeroValue99
  t45 := Tryz.underlying132
  a45 := Tryz.isAgg132
  z45 := Tryz.sizeOf132
  v45 := Tryz.zeroValue132
  t46 := Tryz.underlying133
  a46 := Tryz.isAgg133
  z46 := Tryz.sizeOf133
  v46 := Tryz.zeroValue133
  t50 := Tryz.underlying116
  a50 := Tryz.isAgg116
  z50 := Tryz.sizeOf116
  v50 := Tryz.zeroValue116
  t53 := Tryz.underlying139
  a53 := Tryz.isAgg139
  z53 := Tryz.sizeOf139
  v53 := Tryz.zeroValue139
  t55 := Tryz.underlying141
  a55 := Tryz.isAgg141
  z55 := Tryz.sizeOf141
  v55 := Tryz.zeroValue141
  t66 := Tryz.underlying154
  a66 := Tryz.isAgg154
  z66 := Tryz.sizeOf154
  v66 := Tryz.zeroValue154
  t70 := Tryz.underlying158
  a70 := Tryz.isAgg158
  z70 := Tryz.sizeOf158
  v70 := Tryz.zeroValue158
  t76 := Tryz.underlying181
  a76 := Tryz.isAgg181
  z76 := Tryz.sizeOf181
  v76 := Tryz.zeroValue181
  t77 := Tryz.underlying182
  a77 := Tryz.isAgg182
  z77 := Tryz.sizeOf182
  v77 := Tryz.zeroValue182 }
end Go.Proofs
