
/-
  Contracts: cmp.Compare, cmp.Or, slices.Compare, the order of roots of the program and of the reference, and the reference's insertion of a root in its place.
-/
import Derived.Test.YtkkniibnlniflaaMb
namespace Go.Proofs.Ytkkniibnlniflaa.Hx
open Go.RowKit

def cmp1 (x y : Int) : Int := if x < y then -1 else if y < x then 1 else 0

def orOf : List Int → Int
  | [] => 0
  | a :: t => if a = 0 then orOf t else a

theorem orOf_at : ∀ (l : List Int) (i : Nat), i < l.length → (∀ k, k < i → l.getD k 0 = 0) → l.getD i 0 ≠ 0 → orOf l = l.getD i 0
  | [], _, h, _, _ => by simp at h
  | a :: t, 0, _, _, h => by
    have : a ≠ 0 := by simpa using h
    simp [orOf, this]
  | a :: t, i + 1, h, hb, hn => by
    have h0 : a = 0 := by simpa using hb 0 (by omega)
    have := orOf_at t i (by simpa using h) (fun k hk => by simpa using hb (k + 1) (by omega)) (by simpa using hn)
    simp only [orOf, if_pos h0]
    rw [this]
    simp

theorem orOf_none : ∀ (l : List Int), (∀ k, k < l.length → l.getD k 0 = 0) → orOf l = 0
  | [], _ => rfl
  | a :: t, h => by
    have h0 : a = 0 := by simpa using h 0 (by simp)
    simp only [orOf, if_pos h0]
    exact orOf_none t fun k hk => by simpa using h (k + 1) (by simpa using hk)

theorem cmpR_or (a b : List Int) : orOf [cmp1 (heightOf a) (heightOf b), lexC b a] = cmpR a b := by
  unfold cmp1 cmpR
  by_cases h1 : heightOf a < heightOf b
  · simp [orOf, h1]
  · by_cases h2 : heightOf b < heightOf a
    · simp [orOf, h1, h2]
    · simp only [if_neg h1, if_neg h2, orOf, if_true]
      by_cases h3 : lexC b a = 0
      · simp [h3]
      · simp [h3]

theorem lexC_drop {a b : List Int} {i : Nat} (ha : i < a.length) (hb : i < b.length) :
    lexC (a.drop i) (b.drop i) = if a.getD i 0 < b.getD i 0 then -1 else if b.getD i 0 < a.getD i 0 then 1 else lexC (a.drop (i + 1)) (b.drop (i + 1)) := by
  rw [List.drop_eq_getElem_cons ha, List.drop_eq_getElem_cons hb]
  simp [lexC, List.getD, ha, hb]

theorem lexGt_drop {a b : List Int} {i : Nat} (ha : i < a.length) (hb : i < b.length) :
    lexGt (a.drop i) (b.drop i) = if a.getD i 0 = b.getD i 0 then lexGt (a.drop (i + 1)) (b.drop (i + 1)) else decide (b.getD i 0 < a.getD i 0) := by
  rw [List.drop_eq_getElem_cons ha, List.drop_eq_getElem_cons hb]
  simp [lexGt, List.getD, ha, hb]

theorem lexC_end {a b : List Int} {i : Nat} (ha : a.length ≤ i) : lexC (a.drop i) (b.drop i) = if i < b.length then -1 else 0 := by
  rw [List.drop_eq_nil_of_le ha]
  by_cases hb : i < b.length
  · rw [List.drop_eq_getElem_cons hb, if_pos hb]
    rfl
  · rw [List.drop_eq_nil_of_le (by omega), if_neg hb]
    rfl

theorem lexC_over {a b : List Int} {i : Nat} (ha : i < a.length) (hb : b.length ≤ i) : lexC (a.drop i) (b.drop i) = 1 := by
  rw [List.drop_eq_nil_of_le hb, List.drop_eq_getElem_cons ha]
  rfl

theorem lexGt_end {a b : List Int} {i : Nat} (h : a.length ≤ i ∨ b.length ≤ i) : lexGt (a.drop i) (b.drop i) = false := by
  rcases h with h | h
  · rw [List.drop_eq_nil_of_le h]
    rfl
  · rw [List.drop_eq_nil_of_le h]
    cases a.drop i <;> rfl

theorem putR_at {w : List Int} {L : List (List Int)} {i : Nat} (hi : i < L.length) : putR w (L.drop i) = if beforeR w (L.getD i []) then w :: L.drop i else L.getD i [] :: putR w (L.drop (i + 1)) := by
  rw [List.drop_eq_getElem_cons hi]
  simp [putR, List.getD, hi]

theorem drop_at {L : List (List Int)} {i : Nat} (hi : i < L.length) : L.drop i = L.getD i [] :: L.drop (i + 1) := by
  rw [List.drop_eq_getElem_cons hi]
  simp [List.getD, hi]

theorem putR_length (w : List Int) (L : List (List Int)) : (putR w L).length = L.length + 1 := (putR_perm w L).length_eq

theorem MatAt.idx {h : Heap} {r : Nat} {ρ : Nat → Nat} {L : List (List Int)} (m : MatAt h r ρ L) {n : Nat} (h1 : n < L.length) {k : IntKind} {K : HV → Prop} (hK : ∀ p, At h p (.sl (ρ n) 0 (L.getD n []).length) → K (.s p)) :
    HIdx h (.s (.sl r 0 L.length)) (.s (.pl (.int k (n : Int)))) K := by
  obtain ⟨cs, g1, g2, g3⟩ := m.outer
  refine HIdx.sl (by omega) (by omega) (hK _ ⟨r, _, _, cs, rfl, g1, rfl, ?_⟩)
  rw [Int.toNat_natCast, Nat.zero_add]
  exact g3 n h1

theorem MatAt.inner' {h : Heap} {r : Nat} {ρ : Nat → Nat} {L : List (List Int)} (m : MatAt h r ρ L) {n : Nat} (h1 : n < L.length) : OwnR (ρ n) h (.sl (ρ n) 0 (L.getD n []).length) (L.getD n []) := by
  obtain ⟨t, ht⟩ := m.inner n h1
  exact ⟨t, rfl, ht⟩

theorem iEq' {a b : Int} (h : a = b) : I a = I b := by rw [h]

set_option smartUnfolding false

theorem lib_isNaN (h : Heap) (n : Int) : HCalls Try.prog 163 [I n] h (fun r h' => r = B false ∧ h' = h) := by
  refine calls_of_hFun (m := 0) kd_ok mixed Try.func163 rfl (by kernel_rfl) rfl rfl (of_decide_eq_true rfl) ?_; unfold hFun; (conv => whnf)
  exact ⟨bEq (by simp), rfl⟩

theorem lib_cmp (h : Heap) (x y : Int) : HCalls Try.prog 126 [I x, I y] h (fun r h' => r = I (cmp1 x y) ∧ h' = h) := by
  refine calls_of_hFun (m := 0) kd_ok mixed Try.func126 rfl (by kernel_rfl) rfl rfl (of_decide_eq_true rfl) ?_; unfold hFun; (conv => whnf)
  refine (lib_isNaN _ _).mono ?_
  rintro r h1 ⟨rfl, rfl⟩
  (conv => whnf)
  refine (lib_isNaN _ _).mono ?_
  rintro r h1 ⟨rfl, rfl⟩
  (conv => whnf)
  (repeat (first | (refine ⟨rfl, Ints.len (by assumption) ?_⟩; conv => whnf) | (refine ⟨rfl, Rows.len (by assumption) ?_⟩; conv => whnf) | (refine ⟨rfl, HLen.sl ?_⟩; conv => whnf) | (refine ⟨rfl, At.load (by assumption) ?_⟩; conv => whnf) | (refine HIf.yes ?_; conv => whnf) | (refine HIf.no ?_; conv => whnf) | (refine HIf.isT (by assumption) ?_; conv => whnf) | (refine HIf.isF (by assumption) ?_; conv => whnf) | (refine HIf.decT (by assumption) ?_; conv => whnf) | (refine HIf.decF (by assumption) ?_; conv => whnf) | (refine HIf.beqT (by assumption) ?_; conv => whnf) | (refine HIf.beqF (by assumption) ?_; conv => whnf) | (refine HIf.bneT (by assumption) ?_; conv => whnf) | (refine HIf.bneF (by assumption) ?_; conv => whnf) | (refine ⟨rfl, Ints.idxN (by assumption) (by omega) (fun p hp => ?_)⟩; conv => whnf) | (refine ⟨rfl, Rows.idxN (by assumption) (by omega) (fun p y hp hy => ?_)⟩; conv => whnf) | (refine And.intro (show Kd.isBool _ = true from rfl) ?_; conv => whnf) | (refine ⟨rfl, Ints.idx (by assumption) (by omega) (by omega) (fun p hp => ?_)⟩; conv => whnf) | (refine ⟨rfl, Rows.idx (by assumption) (by omega) (by omega) (fun p y hp hy => ?_)⟩; conv => whnf) | (refine HArith.fits (by omega) (by omega) ?_; conv => whnf) | (refine Or.inl (And.intro (show Region.lexB _ _ = true by kernel_rfl) ?_); conv => whnf)))
  refine HIf.dec (fun h1 => ?_) (fun h1 => ?_)
  · (conv => whnf)
    exact ⟨iEq' (by rw [cmp1, if_pos h1]), rfl⟩
  · (conv => whnf)
    refine HIf.dec (fun h2 => ?_) (fun h2 => ?_)
    · (conv => whnf)
      exact ⟨iEq' (by rw [cmp1, if_neg h1, if_pos h2]), rfl⟩
    · (conv => whnf)
      exact ⟨iEq' (by rw [cmp1, if_neg h1, if_neg h2]), rfl⟩

theorem lib_Or (h : Heap) (x : H0) (l : List Int) (hx : Ints h x l) (hl : l.length ≤ 1048576) : HCalls Try.prog 125 [.s x] h (fun r h' => r = I (orOf l) ∧ h' = h) := by
  refine calls_of_hFun (m := 0) kd_ok mixed Try.func125 rfl (by kernel_rfl) rfl rfl (of_decide_eq_true rfl) ?_; unfold hFun; (conv => whnf)
  refine ⟨rfl, hx.len ?_⟩
  (conv => whnf)
  refine HLoop.intro [8] [9, 10, 11, 5, 12, 13, 14, 15, 2, 16, 8] (by kernel_rfl) (by kernel_rfl) (fun vs h' => ∃ i : Nat, vs = [I i] ∧ h' = h ∧ i ≤ l.length ∧ ∀ k, k < i → l.getD k 0 = 0) (fun vs _ => l.length - natAt vs 0) ⟨0, rfl, rfl, by omega, fun k hk => by omega⟩ ?_
  rintro vs h' ⟨i, rfl, hh, hi, hb⟩
  subst h'
  (conv => whnf)
  refine HIf.dec (fun hlt => ?_) (fun hge => ?_)
  · (conv => whnf)
    refine ⟨rfl, Ints.idxN hx (by omega) (fun p hp => ?_)⟩
    (conv => whnf)
    refine ⟨rfl, hp.load ?_⟩
    (conv => whnf)
    refine HIf.bne (fun hne => ?_) (fun he => ?_)
    · (conv => whnf)
      exact ⟨iEq' (by rw [orOf_at l i (by omega) hb hne]), rfl⟩
    · (conv => whnf)
      refine HArith.fits (by omega) (by omega) ?_
      (conv => whnf)
      exact ⟨⟨i + 1, rfl, rfl, by omega, fun k hk => by
        by_cases e : k = i
        · rw [e]; exact he
        · exact hb k (by omega)⟩, by show l.length - (i + 1) < l.length - i; omega⟩
  · have e : i = l.length := by omega
    subst e
    (conv => whnf)
    exact ⟨iEq' (by rw [orOf_none l hb]), rfl⟩

theorem lib_sCompare (h : Heap) (x y : H0) (a b : List Int) (hx : Ints h x a) (hy : Ints h y b) (hal : a.length ≤ 1048576) : HCalls Try.prog 128 [.s x, .s y] h (fun r h' => r = I (lexC a b) ∧ h' = h) := by
  refine calls_of_hFun (m := 0) kd_ok mixed Try.func128 rfl (by kernel_rfl) rfl rfl (of_decide_eq_true rfl) ?_; unfold hFun; (conv => whnf)
  refine ⟨rfl, hx.len ?_⟩
  (conv => whnf)
  refine HLoop.intro [11] [12, 13, 14, 15, 5, 6, 16, 17, 18, 19, 4, 20, 21, 22, 23, 7, 24, 25, 26, 8, 27, 28, 29, 4, 30, 11] (by kernel_rfl) (by kernel_rfl) (fun vs h' => ∃ i : Nat, vs = [I i] ∧ h' = h ∧ i ≤ a.length ∧ i ≤ b.length ∧ lexC a b = lexC (a.drop i) (b.drop i)) (fun vs _ => a.length - natAt vs 0) ⟨0, rfl, rfl, by omega, by omega, rfl⟩ ?_
  rintro vs h' ⟨i, rfl, hh, hi, hib, hb⟩
  subst h'
  (conv => whnf)
  refine HIf.dec (fun hlt => ?_) (fun hge => ?_)
  · (conv => whnf)
    refine ⟨rfl, Ints.idxN hx (by omega) (fun p hp => ?_)⟩
    (conv => whnf)
    refine ⟨rfl, hp.load ?_⟩
    (conv => whnf)
    refine ⟨rfl, hy.len ?_⟩
    (conv => whnf)
    refine HIf.dec (fun hov => ?_) (fun hin => ?_)
    · (conv => whnf)
      exact ⟨iEq' (by rw [hb, lexC_over (by omega) (by omega)]), rfl⟩
    · have hd := lexC_drop (a := a) (b := b) (i := i) (by omega) (by omega)
      (conv => whnf)
      refine ⟨rfl, Ints.idxN hy (by omega) (fun p2 hp2 => ?_)⟩
      (conv => whnf)
      refine ⟨rfl, hp2.load ?_⟩
      (conv => whnf)
      refine (lib_cmp _ _ _).mono ?_
      rintro r h1 ⟨rfl, rfl⟩
      (conv => whnf)
      refine HIf.bne (fun hne => ?_) (fun he => ?_)
      · have : lexC a b = cmp1 (a.getD i 0) (b.getD i 0) := by
          rw [hb, hd]
          unfold cmp1 at hne ⊢
          by_cases h1 : a.getD i 0 < b.getD i 0
          · rw [if_pos h1, if_pos h1]
          · by_cases h2 : b.getD i 0 < a.getD i 0
            · rw [if_neg h1, if_neg h1, if_pos h2, if_pos h2]
            · rw [if_neg h1, if_neg h2] at hne; omega
        (conv => whnf)
        exact ⟨iEq' (by rw [this]), rfl⟩
      · have h3 : lexC a b = lexC (a.drop (i + 1)) (b.drop (i + 1)) := by
          rw [hb, hd]
          unfold cmp1 at he
          by_cases h1 : a.getD i 0 < b.getD i 0
          · rw [if_pos h1] at he; omega
          · by_cases h2 : b.getD i 0 < a.getD i 0
            · rw [if_neg h1, if_pos h2] at he; omega
            · rw [if_neg h1, if_neg h2]
        (conv => whnf)
        refine HArith.fits (by omega) (by omega) ?_
        (conv => whnf)
        exact ⟨⟨i + 1, rfl, rfl, by omega, by omega, h3⟩, by show a.length - (i + 1) < a.length - i; omega⟩
  · have e : i = a.length := by omega
    have he := lexC_end (a := a) (b := b) (i := i) (by omega)
    (conv => whnf)
    refine ⟨rfl, hx.len ?_⟩
    (conv => whnf)
    refine ⟨rfl, hy.len ?_⟩
    (conv => whnf)
    refine HIf.dec (fun h1 => ?_) (fun h1 => ?_)
    · (conv => whnf)
      exact ⟨iEq' (by rw [hb, he, if_pos (by omega)]), rfl⟩
    · (conv => whnf)
      exact ⟨iEq' (by rw [hb, he, if_neg (by omega)]), rfl⟩

theorem impl_compareRoots (h : Heap) (x y : H0) (a b : List Int) (hx : Ints h x a) (hy : Ints h y b) (hal : a.length ≤ 1048576) (hbl : b.length ≤ 1048576) :
    HCalls Try.prog 76 [.s x, .s y] h (fun r h' => r = I (cmpR a b) ∧ Ext h h') := by
  refine calls_of_hFun (m := 0) kd_ok mixed Try.func76 rfl (by kernel_rfl) rfl rfl (of_decide_eq_true rfl) ?_; unfold hFun; (conv => whnf)
  refine (impl_HeightOf _ _ _ hx (by omega)).mono ?_
  rintro r h1 ⟨rfl, hh⟩
  subst h1
  (conv => whnf)
  refine (impl_HeightOf _ _ _ hy (by omega)).mono ?_
  rintro r h1 ⟨rfl, hh⟩
  subst h1
  (conv => whnf)
  refine (lib_cmp _ _ _).mono ?_
  rintro r h1 ⟨rfl, hh⟩
  subst h1
  (conv => whnf)
  refine (lib_sCompare _ _ _ _ _ hy hx (by omega)).mono ?_
  rintro r h1 ⟨rfl, hh⟩
  subst h1
  (conv => whnf)
  refine HLit.two ?_
  (conv => whnf)
  have hor := (OwnR.push h [cmp1 (heightOf a) (heightOf b), lexC b a]).ints
  refine (lib_Or _ _ _ hor (by simp)).mono ?_
  rintro r h1 ⟨rfl, hh⟩
  subst h1
  (conv => whnf)
  exact ⟨iEq' (cmpR_or _ _), Ext.push _ _⟩

theorem spec_l7Before (h : Heap) (x y : H0) (a b : List Int) (hx : Ints h x a) (hy : Ints h y b) (hal : a.length ≤ 1048576) (hbl : b.length ≤ 1048576) :
    HCalls Try.prog 117 [.s x, .s y] h (fun r h' => r = B (beforeR a b) ∧ h' = h) := by
  refine calls_of_hFun (m := 0) kd_ok mixed Try.func117 rfl (by kernel_rfl) rfl rfl (of_decide_eq_true rfl) ?_; unfold hFun; (conv => whnf)
  refine (spec_HeightOf _ _ _ hx (by omega)).mono ?_
  rintro r h1 ⟨rfl, hh⟩
  subst h1
  (conv => whnf)
  refine (spec_HeightOf _ _ _ hy (by omega)).mono ?_
  rintro r h1 ⟨rfl, hh⟩
  subst h1
  (conv => whnf)
  refine HIf.bne (fun hne => ?_) (fun heq => ?_)
  · (conv => whnf)
    exact ⟨bEq (by rw [beforeR, if_neg hne]), rfl⟩
  · have hbf : beforeR a b = lexGt a b := by rw [beforeR, if_pos heq]
    (conv => whnf)
    refine HLoop.intro [7] [18, 19, 20, 21, 22, 23, 24, 25, 26, 27, 30, 31, 32, 33, 34, 35, 36, 37, 38, 39, 40, 41, 42, 43, 44, 45, 46, 47, 4, 28, 29, 7] (by kernel_rfl) (by kernel_rfl) (fun vs h' => ∃ i : Nat, vs = [I i] ∧ h' = h ∧ i ≤ a.length ∧ i ≤ b.length ∧ lexGt a b = lexGt (a.drop i) (b.drop i)) (fun vs _ => a.length - natAt vs 0) ⟨0, rfl, rfl, by omega, by omega, rfl⟩ ?_
    rintro vs h' ⟨i, rfl, hh, hi, hib, hb⟩
    subst h'
    (conv => whnf)
    refine ⟨rfl, hx.len ?_⟩
    (conv => whnf)
    refine HIf.dec (fun hlt => ?_) (fun hge => ?_)
    · (conv => whnf)
      (repeat (first | (refine ⟨rfl, Ints.len (by assumption) ?_⟩; conv => whnf) | (refine ⟨rfl, Rows.len (by assumption) ?_⟩; conv => whnf) | (refine ⟨rfl, HLen.sl ?_⟩; conv => whnf) | (refine ⟨rfl, At.load (by assumption) ?_⟩; conv => whnf) | (refine HIf.yes ?_; conv => whnf) | (refine HIf.no ?_; conv => whnf) | (refine HIf.isT (by assumption) ?_; conv => whnf) | (refine HIf.isF (by assumption) ?_; conv => whnf) | (refine HIf.decT (by assumption) ?_; conv => whnf) | (refine HIf.decF (by assumption) ?_; conv => whnf) | (refine HIf.beqT (by assumption) ?_; conv => whnf) | (refine HIf.beqF (by assumption) ?_; conv => whnf) | (refine HIf.bneT (by assumption) ?_; conv => whnf) | (refine HIf.bneF (by assumption) ?_; conv => whnf) | (refine ⟨rfl, Ints.idxN (by assumption) (by omega) (fun p hp => ?_)⟩; conv => whnf) | (refine ⟨rfl, Rows.idxN (by assumption) (by omega) (fun p y hp hy => ?_)⟩; conv => whnf) | (refine And.intro (show Kd.isBool _ = true from rfl) ?_; conv => whnf) | (refine ⟨rfl, Ints.idx (by assumption) (by omega) (by omega) (fun p hp => ?_)⟩; conv => whnf) | (refine ⟨rfl, Rows.idx (by assumption) (by omega) (by omega) (fun p y hp hy => ?_)⟩; conv => whnf) | (refine HArith.fits (by omega) (by omega) ?_; conv => whnf) | (refine Or.inl (And.intro (show Region.lexB _ _ = true by kernel_rfl) ?_); conv => whnf)))
      refine HIf.dec (fun hlt2 => ?_) (fun hge2 => ?_)
      · have hd := lexGt_drop (a := a) (b := b) (i := i) (by omega) (by omega)
        (conv => whnf)
        refine Or.inl (And.intro (show Region.lexB _ _ = true by kernel_rfl) ?_); (conv => whnf)
        refine ⟨rfl, Ints.idxN hx (by omega) (fun p hp => ?_)⟩
        (conv => whnf)
        refine ⟨rfl, hp.load ?_⟩
        (conv => whnf)
        refine ⟨rfl, Ints.idxN hy (by omega) (fun p2 hp2 => ?_)⟩
        (conv => whnf)
        refine ⟨rfl, hp2.load ?_⟩
        (conv => whnf)
        refine HIf.bne (fun hne => ?_) (fun he => ?_)
        · rw [if_neg hne] at hd
          (conv => whnf)
          refine Or.inl (And.intro (show Region.lexB _ _ = true by kernel_rfl) ?_); (conv => whnf)
          refine ⟨rfl, Ints.idxN hx (by omega) (fun p3 hp3 => ?_)⟩
          (conv => whnf)
          refine ⟨rfl, hp3.load ?_⟩
          (conv => whnf)
          refine ⟨rfl, Ints.idxN hy (by omega) (fun p4 hp4 => ?_)⟩
          (conv => whnf)
          refine ⟨rfl, hp4.load ?_⟩
          (conv => whnf)
          exact ⟨bEq (by rw [hbf, hb, hd]), rfl⟩
        · rw [if_pos he] at hd
          (conv => whnf)
          refine HArith.fits (by omega) (by omega) ?_
          (conv => whnf)
          exact ⟨⟨i + 1, rfl, rfl, by omega, by omega, hb.trans hd⟩, by show a.length - (i + 1) < a.length - i; omega⟩
      · (conv => whnf)
        exact ⟨bEq (by rw [hbf, hb, lexGt_end (Or.inr (by omega))]), rfl⟩
    · (conv => whnf)
      (repeat (first | (refine ⟨rfl, Ints.len (by assumption) ?_⟩; conv => whnf) | (refine ⟨rfl, Rows.len (by assumption) ?_⟩; conv => whnf) | (refine ⟨rfl, HLen.sl ?_⟩; conv => whnf) | (refine ⟨rfl, At.load (by assumption) ?_⟩; conv => whnf) | (refine HIf.yes ?_; conv => whnf) | (refine HIf.no ?_; conv => whnf) | (refine HIf.isT (by assumption) ?_; conv => whnf) | (refine HIf.isF (by assumption) ?_; conv => whnf) | (refine HIf.decT (by assumption) ?_; conv => whnf) | (refine HIf.decF (by assumption) ?_; conv => whnf) | (refine HIf.beqT (by assumption) ?_; conv => whnf) | (refine HIf.beqF (by assumption) ?_; conv => whnf) | (refine HIf.bneT (by assumption) ?_; conv => whnf) | (refine HIf.bneF (by assumption) ?_; conv => whnf) | (refine ⟨rfl, Ints.idxN (by assumption) (by omega) (fun p hp => ?_)⟩; conv => whnf) | (refine ⟨rfl, Rows.idxN (by assumption) (by omega) (fun p y hp hy => ?_)⟩; conv => whnf) | (refine And.intro (show Kd.isBool _ = true from rfl) ?_; conv => whnf) | (refine ⟨rfl, Ints.idx (by assumption) (by omega) (by omega) (fun p hp => ?_)⟩; conv => whnf) | (refine ⟨rfl, Rows.idx (by assumption) (by omega) (by omega) (fun p y hp hy => ?_)⟩; conv => whnf) | (refine HArith.fits (by omega) (by omega) ?_; conv => whnf) | (refine Or.inl (And.intro (show Region.lexB _ _ = true by kernel_rfl) ?_); conv => whnf)))
      exact ⟨bEq (by rw [hbf, hb, lexGt_end (Or.inl (by omega))]), rfl⟩

end Go.Proofs.Ytkkniibnlniflaa.Hx
