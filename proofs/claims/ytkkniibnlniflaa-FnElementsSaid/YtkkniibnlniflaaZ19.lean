/-
  Contracts of powers, exchange places, replayed and repeated deletions, of the program and of the reference.
  Sets of points as bits, matrices of some points, determinants: plain functions, and the contracts of their makers.
-/
import Derived.Test.YtkkniibnlniflaaZ18
namespace Go.Proofs.Ytkkniibnlniflaa.Hx
open Go.RowKit
variable {dm : Bool}

def powTo (c : List (List Int)) (w : List Int) : Nat → Option (List Int)
  | 0 => some []
  | k + 1 => match powTo c w k with
    | none => none
    | some y => if mulOk c y w then some (mul c y w) else none
def in60 (k : Int) : Bool := decide (0 ≤ k) && decide (k ≤ 60)
theorem in60_eq (k : Int) : in60 k = (decide (0 ≤ k) && decide (k ≤ 60)) := rfl
def powOk (c : List (List Int)) (w : List Int) (k : Int) : Bool := isWord c w && in60 k && (powTo c w k.toNat).isSome
def pow (c : List (List Int)) (w : List Int) (k : Int) : List Int := if powOk c w k then (powTo c w k.toNat).getD [] else []

theorem powTo_fail {c : List (List Int)} {w l : List Int} {i : Nat} (h : powTo c w i = some l) (hm : mulOk c l w = false) : powTo c w (i + 1) = none := by
  rw [powTo, h]
  simp [hm]
theorem powTo_next {c : List (List Int)} {w l : List Int} {i : Nat} (h : powTo c w i = some l) (hm : mulOk c l w = true) : powTo c w (i + 1) = some (mul c l w) := by
  rw [powTo, h]
  simp [hm]
theorem powTo_none {c : List (List Int)} {w : List Int} {i : Nat} (h : powTo c w i = none) : ∀ k, i ≤ k → powTo c w k = none := by
  intro k hk
  induction k with
  | zero =>
    have : i = 0 := by omega
    subst this
    exact h
  | succ k ih =>
    by_cases e : i = k + 1
    · subst e; exact h
    · rw [powTo, ih (by omega)]
theorem powTo_len {c : List (List Int)} {w l : List Int} : ∀ {i : Nat}, powTo c w i = some l → l.length ≤ 31
  | 0, h => by
    rw [powTo] at h
    injection h with h
    subst h
    simp
  | i + 1, h => by
    rw [powTo] at h
    split at h
    · cases h
    · split at h
      · injection h with h
        subst h
        exact mul_le _ _ _
      · cases h
theorem mul_norm {c : List (List Int)} {w : List Int} (h : isWord c w = true) (y : List Int) : mulOk c y (normF c w) = mulOk c y w ∧ mul c y (normF c w) = mul c y w := by
  obtain ⟨hC, hl, hw⟩ := word_cartan h
  have h1 := normF_app (c := c) (a := y) hC hw (by omega)
  have h2 := (normF_word h).2
  have e : mulOk c y (normF c w) = mulOk c y w := by simp [mulOk, h1, h, h2]
  refine ⟨e, ?_⟩
  unfold mul
  rw [e, h1]
theorem pow_off {c : List (List Int)} {w : List Int} {k : Int} (h : powOk c w k = false) : pow c w k = [] := by simp [pow, h]
theorem pow_on {c : List (List Int)} {w l : List Int} {k : Int} (h : isWord c w = true) (hk : in60 k = true) (hp : powTo c w k.toNat = some l) : powOk c w k = true ∧ pow c w k = l := by
  have e : powOk c w k = true := by simp [powOk, h, hk, hp]
  exact ⟨e, by simp [pow, e, hp]⟩
theorem powOk_none {c : List (List Int)} {w : List Int} {k : Int} (hp : powTo c w k.toNat = none) : powOk c w k = false := by simp [powOk, hp]
theorem powOk_off {c : List (List Int)} {w : List Int} {k : Int} (h : isWord c w = false ∨ in60 k = false) : powOk c w k = false := by
  rcases h with h | h <;> simp [powOk, h]
theorem pow_le (c : List (List Int)) (w : List Int) (k : Int) : (pow c w k).length ≤ 31 := by
  unfold pow
  split
  · cases h : powTo c w k.toNat with
    | none => simp
    | some l => exact powTo_len h
  · simp

theorem descs_range {v : List Int} {k : Nat} {n : Int} (h : n ∈ descs v k) : 0 ≤ n ∧ n < k := by
  obtain ⟨j, hj, rfl⟩ := List.mem_map.1 h
  have := List.mem_range.1 (List.mem_filter.1 hj).1
  omega
theorem descents_range {c : List (List Int)} {w : List Int} {n : Int} (h : n ∈ leftDescents c w) : 0 ≤ n ∧ n < c.length := by
  unfold leftDescents at h
  split at h
  · exact descs_range h
  · simp at h

def exAt (c : List (List Int)) (w : List Int) (n : Int) (k : Nat) : Bool := decide (imageOf c (del w k) = imageOf c (n :: w))
def exIdx (c : List (List Int)) (w : List Int) (n : Int) : Int :=
  if isReduced c w && decide (n ∈ leftDescents c w) then
    match (List.range w.length).find? (exAt c w n) with
    | some k => k
    | none => -1
  else -1
theorem exIdx_off {c : List (List Int)} {w : List Int} {n : Int} (h : isReduced c w = false ∨ n ∉ leftDescents c w) : exIdx c w n = -1 := by
  rcases h with h | h <;> simp [exIdx, h]
theorem exIdx_at {c : List (List Int)} {w : List Int} {n : Int} {i : Nat} (h : isReduced c w = true) (h2 : n ∈ leftDescents c w) (hi : i < w.length) (he : exAt c w n i = true) (hb : ∀ k, k < i → exAt c w n k = false) : exIdx c w n = i := by
  have : (List.range w.length).find? (exAt c w n) = some i := by
    rw [List.find?_range_eq_some]
    exact ⟨he, by simpa using hi, fun k hk => by simp [hb k hk]⟩
  simp [exIdx, h, h2, this]
theorem exIdx_none {c : List (List Int)} {w : List Int} {n : Int} (hb : ∀ k, k < w.length → exAt c w n k = false) : exIdx c w n = -1 := by
  have : (List.range w.length).find? (exAt c w n) = none := by
    rw [List.find?_range_eq_none]
    intro k hk
    simp [hb k hk]
  unfold exIdx
  rw [this]
  split <;> rfl
theorem lettersOk_cons {c : List (List Int)} {w : List Int} {n : Int} (h : lettersOk c w = true) (h1 : 0 ≤ n ∧ n < c.length) : lettersOk c (n :: w) = true := by
  have hp : isPoint c n = true := by simp [isPoint, inRange]; omega
  simp only [lettersOk, List.all_cons, Bool.and_eq_true] at h ⊢
  exact ⟨hp, h⟩
theorem isReduced_word {c : List (List Int)} {w : List Int} (h : isReduced c w = true) : isWord c w = true := by
  simp only [isReduced, Bool.and_eq_true] at h
  exact h.1

/-- Letters left out at told places, two by two. -/
def replay : List Int → List Int → Option (List Int)
  | x, i :: j :: l => if i < 0 ∨ j ≤ i ∨ (x.length : Int) ≤ j then none else replay (del (del x j) i) l
  | x, _ => some x
def repW (w l : List Int) : List Int := (replay w l).getD w
def repOk (w l : List Int) : Bool := (replay w l).isSome && ((l.length : Int).tmod 2 == 0)
theorem replay_end {x l : List Int} (h : l.length < 2) : replay x l = some x := by
  match l, h with
  | [], _ => rfl
  | [_], _ => rfl
theorem replay_step {x l : List Int} {k : Nat} (h : k + 1 < l.length) : replay x (l.drop k) = if l.getD k 0 < 0 ∨ l.getD (k + 1) 0 ≤ l.getD k 0 ∨ (x.length : Int) ≤ l.getD (k + 1) 0 then none else replay (del (del x (l.getD (k + 1) 0)) (l.getD k 0)) (l.drop (k + 2)) := by
  rw [List.drop_eq_getElem_cons (by omega), List.drop_eq_getElem_cons (by omega), replay]
  have e1 : l.getD k 0 = l[k] := by simp [List.getD, (by omega : k < l.length)]
  have e2 : l.getD (k + 1) 0 = l[k + 1] := by simp [List.getD, h]
  rw [e1, e2]
theorem repW_le (w : List Int) : ∀ (x l : List Int), x.length ≤ w.length → ((replay x l).getD w).length ≤ w.length
  | x, i :: j :: l, h => by
    rw [replay]
    split
    · exact Nat.le_refl _
    · exact repW_le w _ l (Nat.le_trans (del_len _ _) (Nat.le_trans (del_len _ _) h))
  | x, [], h => h
  | x, [_], h => h

/-- Pairs of letters left out, as often as f. -/
def red (c : List (List Int)) : Nat → List Int → List Int → List Int × List Int
  | 0, x, o => (x, o)
  | f + 1, x, o => if (delPair c x).2.2 then red c f (del (del x (delPair c x).2.1) (delPair c x).1) (o ++ [(delPair c x).1, (delPair c x).2.1]) else (x, o)
theorem red_none (c : List (List Int)) (x o : List Int) : red c 0 x o = (x, o) := rfl
theorem red_stop {c : List (List Int)} {f : Nat} {x o : List Int} (h : (delPair c x).2.2 = false) : red c f x o = (x, o) := by
  cases f with
  | zero => rfl
  | succ f => simp [red, h]
theorem red_step {c : List (List Int)} {f : Nat} {x o : List Int} {i j : Int} (h : delPair c x = (i, j, true)) : red c (f + 1) x o = red c f (del (del x j) i) (o ++ [i, j]) := by simp [red, h]
theorem delPair_yes {c : List (List Int)} {x : List Int} (h : (delPair c x).2.2 = true) : isWord c x = true ∧ ∃ i j : Nat, i < j ∧ j < x.length ∧ delPair c x = ((i : Int), (j : Int), true) := by
  cases hw : isWord c x
  · rw [delPair_off hw] at h; cases h
  refine ⟨rfl, ?_⟩
  unfold delPair at h ⊢
  rw [hw] at h ⊢
  simp only [if_true] at h ⊢
  split at h
  · rename_i i hi
    split at h
    · rename_i j hj
      refine ⟨i, j, ?_, ?_, rfl⟩
      · have := List.find?_some hj
        simp only [Bool.and_eq_true, decide_eq_true_eq] at this
        exact this.1
      · exact List.mem_range.1 (List.mem_of_find?_eq_some hj)
    · cases h
  · cases h
theorem del2_length {x : List Int} {i j : Nat} (h1 : i < j) (h2 : j < x.length) : (del (del x (j : Int)) (i : Int)).length = x.length - 2 := by
  rw [del_at, del_at]
  simp
  omega
theorem red_le (c : List (List Int)) : ∀ (f : Nat) (x o : List Int), (red c f x o).1.length ≤ x.length ∧ (red c f x o).2.length ≤ o.length + 2 * f
  | 0, x, o => ⟨Nat.le_refl _, by simp [red]⟩
  | f + 1, x, o => by
    rw [red]
    split
    · have := red_le c f (del (del x (delPair c x).2.1) (delPair c x).1) (o ++ [(delPair c x).1, (delPair c x).2.1])
      have h1 := del_len (del x (delPair c x).2.1) (delPair c x).1
      have h2 := del_len x (delPair c x).2.1
      simp only [List.length_append, List.length_cons, List.length_nil] at this
      omega
    · exact ⟨Nat.le_refl _, Nat.le_add_right _ _⟩


theorem impl_PowerElement (h : Heap) (x0 : H0) (a0 : List (List Int)) (x1 : H0) (a1 : List Int) (n2 : Int) (hx0 : Rows h x0 a0) (hx1 : Ints h x1 a1) (s0 : a0.length ≤ 1048576 ∧ tot a0 ≤ 1048576) (s1 : a1.length ≤ 1048576) (_s2 : -9223372036854775808 ≤ n2 ∧ n2 ≤ 9223372036854775807) :
    HCalls dm Try.prog 54 [.s x0, .s x1, I n2] h (fun r h' => ∃ y, r = T2 y (powOk a0 a1 n2) ∧ Fresh h h' y (pow a0 a1 n2)) := by
  refine calls_of_hFun (m := 0) kd_ok mixed Try.func54 rfl (by kernel_rfl) rfl rfl (of_decide_eq_true rfl) ?_; unfold hFun; (conv => whnf)
  refine (impl_IsWord _ _ _ a0 a1 hx0 hx1 (by omega) (by omega)).mono ?_
  rintro r h1 ⟨rfl, rfl⟩
  (conv => whnf)
  have bad : powOk a0 a1 n2 = false → Fresh h1 (h1 ++ [Row.own []]) (.sl h1.length 0 0) (pow a0 a1 n2) := fun hp => Fresh.none _ (pow_off hp)
  cases hic : isWord a0 a1
  · have hp := powOk_off (c := a0) (w := a1) (k := n2) (Or.inl hic)
    rw [hp]
    (repeat (first | (refine ⟨rfl, Ints.len (by assumption) ?_⟩; conv => whnf) | (refine ⟨rfl, Rows.len (by assumption) ?_⟩; conv => whnf) | (refine ⟨rfl, HLen.sl ?_⟩; conv => whnf) | (refine ⟨rfl, At.load (by assumption) ?_⟩; conv => whnf) | (refine HIf.yes ?_; conv => whnf) | (refine HIf.no ?_; conv => whnf) | (refine HIf.isT (by assumption) ?_; conv => whnf) | (refine HIf.isF (by assumption) ?_; conv => whnf) | (refine HIf.decT (by assumption) ?_; conv => whnf) | (refine HIf.decF (by assumption) ?_; conv => whnf) | (refine HIf.beqT (by assumption) ?_; conv => whnf) | (refine HIf.beqF (by assumption) ?_; conv => whnf) | (refine HIf.bneT (by assumption) ?_; conv => whnf) | (refine HIf.bneF (by assumption) ?_; conv => whnf) | (refine ⟨rfl, Ints.idxN (by assumption) (by omega) (fun p hp => ?_)⟩; conv => whnf) | (refine ⟨rfl, Rows.idxN (by assumption) (by omega) (fun p y hp hy => ?_)⟩; conv => whnf) | (refine And.intro (show Kd.isBool _ = true from rfl) ?_; conv => whnf) | (refine ⟨rfl, Ints.idx (by assumption) (by omega) (by omega) (fun p hp => ?_)⟩; conv => whnf) | (refine ⟨rfl, Rows.idx (by assumption) (by omega) (by omega) (fun p y hp hy => ?_)⟩; conv => whnf) | (refine HArith.fits (by omega) (by omega) ?_; conv => whnf) | (refine Or.inl (And.intro (show Region.lexB _ _ = true by kernel_rfl) ?_); conv => whnf)))
    refine HLit.empty ?_
    (conv => whnf)
    exact ⟨_, rfl, bad hp⟩
  by_cases hn0 : n2 < 0
  · have hp := powOk_off (c := a0) (w := a1) (k := n2) (Or.inr (by simp [in60]; omega))
    rw [hp]
    (repeat (first | (refine ⟨rfl, Ints.len (by assumption) ?_⟩; conv => whnf) | (refine ⟨rfl, Rows.len (by assumption) ?_⟩; conv => whnf) | (refine ⟨rfl, HLen.sl ?_⟩; conv => whnf) | (refine ⟨rfl, At.load (by assumption) ?_⟩; conv => whnf) | (refine HIf.yes ?_; conv => whnf) | (refine HIf.no ?_; conv => whnf) | (refine HIf.isT (by assumption) ?_; conv => whnf) | (refine HIf.isF (by assumption) ?_; conv => whnf) | (refine HIf.decT (by assumption) ?_; conv => whnf) | (refine HIf.decF (by assumption) ?_; conv => whnf) | (refine HIf.beqT (by assumption) ?_; conv => whnf) | (refine HIf.beqF (by assumption) ?_; conv => whnf) | (refine HIf.bneT (by assumption) ?_; conv => whnf) | (refine HIf.bneF (by assumption) ?_; conv => whnf) | (refine ⟨rfl, Ints.idxN (by assumption) (by omega) (fun p hp => ?_)⟩; conv => whnf) | (refine ⟨rfl, Rows.idxN (by assumption) (by omega) (fun p y hp hy => ?_)⟩; conv => whnf) | (refine And.intro (show Kd.isBool _ = true from rfl) ?_; conv => whnf) | (refine ⟨rfl, Ints.idx (by assumption) (by omega) (by omega) (fun p hp => ?_)⟩; conv => whnf) | (refine ⟨rfl, Rows.idx (by assumption) (by omega) (by omega) (fun p y hp hy => ?_)⟩; conv => whnf) | (refine HArith.fits (by omega) (by omega) ?_; conv => whnf) | (refine Or.inl (And.intro (show Region.lexB _ _ = true by kernel_rfl) ?_); conv => whnf)))
    refine HLit.empty ?_
    (conv => whnf)
    exact ⟨_, rfl, bad hp⟩
  by_cases hn60 : n2 > 60
  · have hp := powOk_off (c := a0) (w := a1) (k := n2) (Or.inr (by simp [in60]; omega))
    rw [hp]
    (repeat (first | (refine ⟨rfl, Ints.len (by assumption) ?_⟩; conv => whnf) | (refine ⟨rfl, Rows.len (by assumption) ?_⟩; conv => whnf) | (refine ⟨rfl, HLen.sl ?_⟩; conv => whnf) | (refine ⟨rfl, At.load (by assumption) ?_⟩; conv => whnf) | (refine HIf.yes ?_; conv => whnf) | (refine HIf.no ?_; conv => whnf) | (refine HIf.isT (by assumption) ?_; conv => whnf) | (refine HIf.isF (by assumption) ?_; conv => whnf) | (refine HIf.decT (by assumption) ?_; conv => whnf) | (refine HIf.decF (by assumption) ?_; conv => whnf) | (refine HIf.beqT (by assumption) ?_; conv => whnf) | (refine HIf.beqF (by assumption) ?_; conv => whnf) | (refine HIf.bneT (by assumption) ?_; conv => whnf) | (refine HIf.bneF (by assumption) ?_; conv => whnf) | (refine ⟨rfl, Ints.idxN (by assumption) (by omega) (fun p hp => ?_)⟩; conv => whnf) | (refine ⟨rfl, Rows.idxN (by assumption) (by omega) (fun p y hp hy => ?_)⟩; conv => whnf) | (refine And.intro (show Kd.isBool _ = true from rfl) ?_; conv => whnf) | (refine ⟨rfl, Ints.idx (by assumption) (by omega) (by omega) (fun p hp => ?_)⟩; conv => whnf) | (refine ⟨rfl, Rows.idx (by assumption) (by omega) (by omega) (fun p y hp hy => ?_)⟩; conv => whnf) | (refine HArith.fits (by omega) (by omega) ?_; conv => whnf) | (refine Or.inl (And.intro (show Region.lexB _ _ = true by kernel_rfl) ?_); conv => whnf)))
    refine HLit.empty ?_
    (conv => whnf)
    exact ⟨_, rfl, bad hp⟩
  have hin : in60 n2 = true := by simp [in60]; omega
  (repeat (first | (refine ⟨rfl, Ints.len (by assumption) ?_⟩; conv => whnf) | (refine ⟨rfl, Rows.len (by assumption) ?_⟩; conv => whnf) | (refine ⟨rfl, HLen.sl ?_⟩; conv => whnf) | (refine ⟨rfl, At.load (by assumption) ?_⟩; conv => whnf) | (refine HIf.yes ?_; conv => whnf) | (refine HIf.no ?_; conv => whnf) | (refine HIf.isT (by assumption) ?_; conv => whnf) | (refine HIf.isF (by assumption) ?_; conv => whnf) | (refine HIf.decT (by assumption) ?_; conv => whnf) | (refine HIf.decF (by assumption) ?_; conv => whnf) | (refine HIf.beqT (by assumption) ?_; conv => whnf) | (refine HIf.beqF (by assumption) ?_; conv => whnf) | (refine HIf.bneT (by assumption) ?_; conv => whnf) | (refine HIf.bneF (by assumption) ?_; conv => whnf) | (refine ⟨rfl, Ints.idxN (by assumption) (by omega) (fun p hp => ?_)⟩; conv => whnf) | (refine ⟨rfl, Rows.idxN (by assumption) (by omega) (fun p y hp hy => ?_)⟩; conv => whnf) | (refine And.intro (show Kd.isBool _ = true from rfl) ?_; conv => whnf) | (refine ⟨rfl, Ints.idx (by assumption) (by omega) (by omega) (fun p hp => ?_)⟩; conv => whnf) | (refine ⟨rfl, Rows.idx (by assumption) (by omega) (by omega) (fun p y hp hy => ?_)⟩; conv => whnf) | (refine HArith.fits (by omega) (by omega) ?_; conv => whnf) | (refine Or.inl (And.intro (show Region.lexB _ _ = true by kernel_rfl) ?_); conv => whnf)))
  refine HLit.empty ?_
  (conv => whnf)
  have E0 := Ext.push h1 [Row.own []]
  refine HLoop.intro [25, 8] [26, 28, 29, 30, 31, 27, 32, 33, 8, 9, 34, 35, 36, 6, 7, 37, 25] (by kernel_rfl) (by kernel_rfl) (fun vs h' => ∃ (i : Nat) (y : H0) (l : List Int), vs = [I i, .s y] ∧ (i : Int) ≤ n2 ∧ Ext h1 h' ∧ Own h1.length h'.length h' y l ∧ powTo a0 a1 i = some l) (fun vs _ => n2.toNat - natAt vs 0) ⟨0, _, [], rfl, by omega, E0, Own.none h1, rfl⟩ ?_
  rintro vs h' ⟨i, y, l, rfl, hi, E, O, hpw⟩
  have hll := powTo_len hpw
  (conv => whnf)
  refine HIf.dec (fun hlt => ?_) (fun hge => ?_)
  · (conv => whnf)
    refine (impl_MultiplyElements _ _ a0 _ l _ a1 (hx0.ext E) O.ints (hx1.ext E) s0 (by omega) s1).mono ?_
    rintro r h3 ⟨y2, rfl, f2⟩
    have hz := Fresh.inner E f2
    (conv => whnf)
    cases hm : mulOk a0 l a1
    · have hp := powOk_none (powTo_none (powTo_fail hpw hm) n2.toNat (by omega))
      rw [hp, pow_off hp]
      (repeat (first | (refine ⟨rfl, Ints.len (by assumption) ?_⟩; conv => whnf) | (refine ⟨rfl, Rows.len (by assumption) ?_⟩; conv => whnf) | (refine ⟨rfl, HLen.sl ?_⟩; conv => whnf) | (refine ⟨rfl, At.load (by assumption) ?_⟩; conv => whnf) | (refine HIf.yes ?_; conv => whnf) | (refine HIf.no ?_; conv => whnf) | (refine HIf.isT (by assumption) ?_; conv => whnf) | (refine HIf.isF (by assumption) ?_; conv => whnf) | (refine HIf.decT (by assumption) ?_; conv => whnf) | (refine HIf.decF (by assumption) ?_; conv => whnf) | (refine HIf.beqT (by assumption) ?_; conv => whnf) | (refine HIf.beqF (by assumption) ?_; conv => whnf) | (refine HIf.bneT (by assumption) ?_; conv => whnf) | (refine HIf.bneF (by assumption) ?_; conv => whnf) | (refine ⟨rfl, Ints.idxN (by assumption) (by omega) (fun p hp => ?_)⟩; conv => whnf) | (refine ⟨rfl, Rows.idxN (by assumption) (by omega) (fun p y hp hy => ?_)⟩; conv => whnf) | (refine And.intro (show Kd.isBool _ = true from rfl) ?_; conv => whnf) | (refine ⟨rfl, Ints.idx (by assumption) (by omega) (by omega) (fun p hp => ?_)⟩; conv => whnf) | (refine ⟨rfl, Rows.idx (by assumption) (by omega) (by omega) (fun p y hp hy => ?_)⟩; conv => whnf) | (refine HArith.fits (by omega) (by omega) ?_; conv => whnf) | (refine Or.inl (And.intro (show Region.lexB _ _ = true by kernel_rfl) ?_); conv => whnf)))
      refine HLit.empty ?_
      (conv => whnf)
      exact ⟨_, rfl, Fresh.of (hz.1.trans (Ext.push _ _)) ((OwnR.push _ []).own hz.1.1)⟩
    · (repeat (first | (refine ⟨rfl, Ints.len (by assumption) ?_⟩; conv => whnf) | (refine ⟨rfl, Rows.len (by assumption) ?_⟩; conv => whnf) | (refine ⟨rfl, HLen.sl ?_⟩; conv => whnf) | (refine ⟨rfl, At.load (by assumption) ?_⟩; conv => whnf) | (refine HIf.yes ?_; conv => whnf) | (refine HIf.no ?_; conv => whnf) | (refine HIf.isT (by assumption) ?_; conv => whnf) | (refine HIf.isF (by assumption) ?_; conv => whnf) | (refine HIf.decT (by assumption) ?_; conv => whnf) | (refine HIf.decF (by assumption) ?_; conv => whnf) | (refine HIf.beqT (by assumption) ?_; conv => whnf) | (refine HIf.beqF (by assumption) ?_; conv => whnf) | (refine HIf.bneT (by assumption) ?_; conv => whnf) | (refine HIf.bneF (by assumption) ?_; conv => whnf) | (refine ⟨rfl, Ints.idxN (by assumption) (by omega) (fun p hp => ?_)⟩; conv => whnf) | (refine ⟨rfl, Rows.idxN (by assumption) (by omega) (fun p y hp hy => ?_)⟩; conv => whnf) | (refine And.intro (show Kd.isBool _ = true from rfl) ?_; conv => whnf) | (refine ⟨rfl, Ints.idx (by assumption) (by omega) (by omega) (fun p hp => ?_)⟩; conv => whnf) | (refine ⟨rfl, Rows.idx (by assumption) (by omega) (by omega) (fun p y hp hy => ?_)⟩; conv => whnf) | (refine HArith.fits (by omega) (by omega) ?_; conv => whnf) | (refine Or.inl (And.intro (show Region.lexB _ _ = true by kernel_rfl) ?_); conv => whnf)))
      exact ⟨⟨i + 1, y2, _, rfl, by omega, hz.1, hz.2, powTo_next hpw hm⟩, by show n2.toNat - (i + 1) < n2.toNat - i; omega⟩
  · have e : n2.toNat = i := by omega
    rw [← e] at hpw
    obtain ⟨g1, g2⟩ := pow_on hic hin hpw
    rw [g1, g2]
    (conv => whnf)
    exact ⟨_, rfl, Fresh.of E O⟩

theorem spec_PowerElement (h : Heap) (x0 : H0) (a0 : List (List Int)) (x1 : H0) (a1 : List Int) (n2 : Int) (hx0 : Rows h x0 a0) (hx1 : Ints h x1 a1) (s0 : a0.length ≤ 1048576 ∧ tot a0 ≤ 1048576) (s1 : a1.length ≤ 1048576) (_s2 : -9223372036854775808 ≤ n2 ∧ n2 ≤ 9223372036854775807) :
    HCalls dm Try.prog 55 [.s x0, .s x1, I n2] h (fun r h' => ∃ y, r = T2 y (powOk a0 a1 n2) ∧ Fresh h h' y (pow a0 a1 n2)) := by
  refine calls_of_hFun (m := 0) kd_ok mixed Try.func55 rfl (by kernel_rfl) rfl rfl (of_decide_eq_true rfl) ?_; unfold hFun; (conv => whnf)
  refine (spec_NormalForm _ _ a0 _ a1 hx0 hx1 s0 s1).mono ?_
  rintro r h1 ⟨y1, rfl, f1⟩
  have E1 := f1.1
  (conv => whnf)
  have bad : powOk a0 a1 n2 = false → Fresh h (h1 ++ [Row.own []]) (.sl h1.length 0 0) (pow a0 a1 n2) := fun hp => by
    rw [pow_off hp]
    exact Fresh.of (E1.trans (Ext.push _ _)) ((OwnR.push _ []).own E1.1)
  cases hic : isWord a0 a1
  · have hp := powOk_off (c := a0) (w := a1) (k := n2) (Or.inl hic)
    rw [hp]
    (repeat (first | (refine ⟨rfl, Ints.len (by assumption) ?_⟩; conv => whnf) | (refine ⟨rfl, Rows.len (by assumption) ?_⟩; conv => whnf) | (refine ⟨rfl, HLen.sl ?_⟩; conv => whnf) | (refine ⟨rfl, At.load (by assumption) ?_⟩; conv => whnf) | (refine HIf.yes ?_; conv => whnf) | (refine HIf.no ?_; conv => whnf) | (refine HIf.isT (by assumption) ?_; conv => whnf) | (refine HIf.isF (by assumption) ?_; conv => whnf) | (refine HIf.decT (by assumption) ?_; conv => whnf) | (refine HIf.decF (by assumption) ?_; conv => whnf) | (refine HIf.beqT (by assumption) ?_; conv => whnf) | (refine HIf.beqF (by assumption) ?_; conv => whnf) | (refine HIf.bneT (by assumption) ?_; conv => whnf) | (refine HIf.bneF (by assumption) ?_; conv => whnf) | (refine ⟨rfl, Ints.idxN (by assumption) (by omega) (fun p hp => ?_)⟩; conv => whnf) | (refine ⟨rfl, Rows.idxN (by assumption) (by omega) (fun p y hp hy => ?_)⟩; conv => whnf) | (refine And.intro (show Kd.isBool _ = true from rfl) ?_; conv => whnf) | (refine ⟨rfl, Ints.idx (by assumption) (by omega) (by omega) (fun p hp => ?_)⟩; conv => whnf) | (refine ⟨rfl, Rows.idx (by assumption) (by omega) (by omega) (fun p y hp hy => ?_)⟩; conv => whnf) | (refine HArith.fits (by omega) (by omega) ?_; conv => whnf) | (refine Or.inl (And.intro (show Region.lexB _ _ = true by kernel_rfl) ?_); conv => whnf)))
    refine HLit.empty ?_
    (conv => whnf)
    exact ⟨_, rfl, bad hp⟩
  rw [normalForm_on hic] at f1
  have hnw := normF_word hic
  (repeat (first | (refine ⟨rfl, Ints.len (by assumption) ?_⟩; conv => whnf) | (refine ⟨rfl, Rows.len (by assumption) ?_⟩; conv => whnf) | (refine ⟨rfl, HLen.sl ?_⟩; conv => whnf) | (refine ⟨rfl, At.load (by assumption) ?_⟩; conv => whnf) | (refine HIf.yes ?_; conv => whnf) | (refine HIf.no ?_; conv => whnf) | (refine HIf.isT (by assumption) ?_; conv => whnf) | (refine HIf.isF (by assumption) ?_; conv => whnf) | (refine HIf.decT (by assumption) ?_; conv => whnf) | (refine HIf.decF (by assumption) ?_; conv => whnf) | (refine HIf.beqT (by assumption) ?_; conv => whnf) | (refine HIf.beqF (by assumption) ?_; conv => whnf) | (refine HIf.bneT (by assumption) ?_; conv => whnf) | (refine HIf.bneF (by assumption) ?_; conv => whnf) | (refine ⟨rfl, Ints.idxN (by assumption) (by omega) (fun p hp => ?_)⟩; conv => whnf) | (refine ⟨rfl, Rows.idxN (by assumption) (by omega) (fun p y hp hy => ?_)⟩; conv => whnf) | (refine And.intro (show Kd.isBool _ = true from rfl) ?_; conv => whnf) | (refine ⟨rfl, Ints.idx (by assumption) (by omega) (by omega) (fun p hp => ?_)⟩; conv => whnf) | (refine ⟨rfl, Rows.idx (by assumption) (by omega) (by omega) (fun p y hp hy => ?_)⟩; conv => whnf) | (refine HArith.fits (by omega) (by omega) ?_; conv => whnf) | (refine Or.inl (And.intro (show Region.lexB _ _ = true by kernel_rfl) ?_); conv => whnf)))
  refine (spec_l1In _ _ _ _).mono ?_
  rintro r h2 ⟨rfl, rfl⟩
  rw [← in60_eq]
  (conv => whnf)
  cases hin : in60 n2
  · have hp := powOk_off (c := a0) (w := a1) (k := n2) (Or.inr hin)
    rw [hp]
    (repeat (first | (refine ⟨rfl, Ints.len (by assumption) ?_⟩; conv => whnf) | (refine ⟨rfl, Rows.len (by assumption) ?_⟩; conv => whnf) | (refine ⟨rfl, HLen.sl ?_⟩; conv => whnf) | (refine ⟨rfl, At.load (by assumption) ?_⟩; conv => whnf) | (refine HIf.yes ?_; conv => whnf) | (refine HIf.no ?_; conv => whnf) | (refine HIf.isT (by assumption) ?_; conv => whnf) | (refine HIf.isF (by assumption) ?_; conv => whnf) | (refine HIf.decT (by assumption) ?_; conv => whnf) | (refine HIf.decF (by assumption) ?_; conv => whnf) | (refine HIf.beqT (by assumption) ?_; conv => whnf) | (refine HIf.beqF (by assumption) ?_; conv => whnf) | (refine HIf.bneT (by assumption) ?_; conv => whnf) | (refine HIf.bneF (by assumption) ?_; conv => whnf) | (refine ⟨rfl, Ints.idxN (by assumption) (by omega) (fun p hp => ?_)⟩; conv => whnf) | (refine ⟨rfl, Rows.idxN (by assumption) (by omega) (fun p y hp hy => ?_)⟩; conv => whnf) | (refine And.intro (show Kd.isBool _ = true from rfl) ?_; conv => whnf) | (refine ⟨rfl, Ints.idx (by assumption) (by omega) (by omega) (fun p hp => ?_)⟩; conv => whnf) | (refine ⟨rfl, Rows.idx (by assumption) (by omega) (by omega) (fun p y hp hy => ?_)⟩; conv => whnf) | (refine HArith.fits (by omega) (by omega) ?_; conv => whnf) | (refine Or.inl (And.intro (show Region.lexB _ _ = true by kernel_rfl) ?_); conv => whnf)))
    refine HLit.empty ?_
    (conv => whnf)
    exact ⟨_, rfl, bad hp⟩
  have hn : 0 ≤ n2 ∧ n2 ≤ 60 := by simpa [in60] using hin
  (repeat (first | (refine ⟨rfl, Ints.len (by assumption) ?_⟩; conv => whnf) | (refine ⟨rfl, Rows.len (by assumption) ?_⟩; conv => whnf) | (refine ⟨rfl, HLen.sl ?_⟩; conv => whnf) | (refine ⟨rfl, At.load (by assumption) ?_⟩; conv => whnf) | (refine HIf.yes ?_; conv => whnf) | (refine HIf.no ?_; conv => whnf) | (refine HIf.isT (by assumption) ?_; conv => whnf) | (refine HIf.isF (by assumption) ?_; conv => whnf) | (refine HIf.decT (by assumption) ?_; conv => whnf) | (refine HIf.decF (by assumption) ?_; conv => whnf) | (refine HIf.beqT (by assumption) ?_; conv => whnf) | (refine HIf.beqF (by assumption) ?_; conv => whnf) | (refine HIf.bneT (by assumption) ?_; conv => whnf) | (refine HIf.bneF (by assumption) ?_; conv => whnf) | (refine ⟨rfl, Ints.idxN (by assumption) (by omega) (fun p hp => ?_)⟩; conv => whnf) | (refine ⟨rfl, Rows.idxN (by assumption) (by omega) (fun p y hp hy => ?_)⟩; conv => whnf) | (refine And.intro (show Kd.isBool _ = true from rfl) ?_; conv => whnf) | (refine ⟨rfl, Ints.idx (by assumption) (by omega) (by omega) (fun p hp => ?_)⟩; conv => whnf) | (refine ⟨rfl, Rows.idx (by assumption) (by omega) (by omega) (fun p y hp hy => ?_)⟩; conv => whnf) | (refine HArith.fits (by omega) (by omega) ?_; conv => whnf) | (refine Or.inl (And.intro (show Region.lexB _ _ = true by kernel_rfl) ?_); conv => whnf)))
  refine HLit.empty ?_
  (conv => whnf)
  have E0 := E1.trans (Ext.push h2 [Row.own []])
  refine HLoop.intro [11, 10] [29, 30, 31, 35, 36, 37, 38, 34, 39, 40, 12, 13, 41, 42, 43, 6, 7, 44, 10, 32, 33, 11] (by kernel_rfl) (by kernel_rfl) (fun vs h' => ∃ (i : Nat) (y : H0) (l : List Int), vs = [I i, .s y] ∧ (i : Int) ≤ n2 ∧ Ext h2 h' ∧ Own h2.length h'.length h' y l ∧ powTo a0 a1 i = some l) (fun vs _ => n2.toNat - natAt vs 0) ⟨0, _, [], rfl, by omega, Ext.push _ _, Own.none h2, rfl⟩ ?_
  rintro vs h' ⟨i, y, l, rfl, hi, E, O, hpw⟩
  have hll := powTo_len hpw
  have EE := E1.trans E
  have hEl := E1.1
  have mn := mul_norm hic l
  (conv => whnf)
  refine HIf.dec (fun hlt => ?_) (fun hge => ?_)
  · (conv => whnf)
    refine (spec_MultiplyElements _ _ a0 _ l _ _ (hx0.ext EE) O.ints (f1.ints.ext E) s0 (by omega) (by omega)).mono ?_
    rintro r h3 ⟨y2, rfl, f2⟩
    rw [mn.2] at f2
    have hz := Fresh.inner E f2
    (conv => whnf)
    rw [mn.1]
    cases hm : mulOk a0 l a1
    · have hp := powOk_none (powTo_none (powTo_fail hpw hm) n2.toNat (by omega))
      rw [hp, pow_off hp]
      have Ez := E1.trans hz.1
      (repeat (first | (refine ⟨rfl, Ints.len (by assumption) ?_⟩; conv => whnf) | (refine ⟨rfl, Rows.len (by assumption) ?_⟩; conv => whnf) | (refine ⟨rfl, HLen.sl ?_⟩; conv => whnf) | (refine ⟨rfl, At.load (by assumption) ?_⟩; conv => whnf) | (refine HIf.yes ?_; conv => whnf) | (refine HIf.no ?_; conv => whnf) | (refine HIf.isT (by assumption) ?_; conv => whnf) | (refine HIf.isF (by assumption) ?_; conv => whnf) | (refine HIf.decT (by assumption) ?_; conv => whnf) | (refine HIf.decF (by assumption) ?_; conv => whnf) | (refine HIf.beqT (by assumption) ?_; conv => whnf) | (refine HIf.beqF (by assumption) ?_; conv => whnf) | (refine HIf.bneT (by assumption) ?_; conv => whnf) | (refine HIf.bneF (by assumption) ?_; conv => whnf) | (refine ⟨rfl, Ints.idxN (by assumption) (by omega) (fun p hp => ?_)⟩; conv => whnf) | (refine ⟨rfl, Rows.idxN (by assumption) (by omega) (fun p y hp hy => ?_)⟩; conv => whnf) | (refine And.intro (show Kd.isBool _ = true from rfl) ?_; conv => whnf) | (refine ⟨rfl, Ints.idx (by assumption) (by omega) (by omega) (fun p hp => ?_)⟩; conv => whnf) | (refine ⟨rfl, Rows.idx (by assumption) (by omega) (by omega) (fun p y hp hy => ?_)⟩; conv => whnf) | (refine HArith.fits (by omega) (by omega) ?_; conv => whnf) | (refine Or.inl (And.intro (show Region.lexB _ _ = true by kernel_rfl) ?_); conv => whnf)))
      refine HLit.empty ?_
      (conv => whnf)
      exact ⟨_, rfl, Fresh.of (Ez.trans (Ext.push _ _)) ((OwnR.push _ []).own Ez.1)⟩
    · (repeat (first | (refine ⟨rfl, Ints.len (by assumption) ?_⟩; conv => whnf) | (refine ⟨rfl, Rows.len (by assumption) ?_⟩; conv => whnf) | (refine ⟨rfl, HLen.sl ?_⟩; conv => whnf) | (refine ⟨rfl, At.load (by assumption) ?_⟩; conv => whnf) | (refine HIf.yes ?_; conv => whnf) | (refine HIf.no ?_; conv => whnf) | (refine HIf.isT (by assumption) ?_; conv => whnf) | (refine HIf.isF (by assumption) ?_; conv => whnf) | (refine HIf.decT (by assumption) ?_; conv => whnf) | (refine HIf.decF (by assumption) ?_; conv => whnf) | (refine HIf.beqT (by assumption) ?_; conv => whnf) | (refine HIf.beqF (by assumption) ?_; conv => whnf) | (refine HIf.bneT (by assumption) ?_; conv => whnf) | (refine HIf.bneF (by assumption) ?_; conv => whnf) | (refine ⟨rfl, Ints.idxN (by assumption) (by omega) (fun p hp => ?_)⟩; conv => whnf) | (refine ⟨rfl, Rows.idxN (by assumption) (by omega) (fun p y hp hy => ?_)⟩; conv => whnf) | (refine And.intro (show Kd.isBool _ = true from rfl) ?_; conv => whnf) | (refine ⟨rfl, Ints.idx (by assumption) (by omega) (by omega) (fun p hp => ?_)⟩; conv => whnf) | (refine ⟨rfl, Rows.idx (by assumption) (by omega) (by omega) (fun p y hp hy => ?_)⟩; conv => whnf) | (refine HArith.fits (by omega) (by omega) ?_; conv => whnf) | (refine Or.inl (And.intro (show Region.lexB _ _ = true by kernel_rfl) ?_); conv => whnf)))
      exact ⟨⟨i + 1, y2, _, rfl, by omega, hz.1, hz.2, powTo_next hpw hm⟩, by show n2.toNat - (i + 1) < n2.toNat - i; omega⟩
  · have e : n2.toNat = i := by omega
    rw [← e] at hpw
    obtain ⟨g1, g2⟩ := pow_on hic hin hpw
    rw [g1, g2]
    (conv => whnf)
    obtain ⟨q, hq1, hq2, Oq⟩ := O.row
    exact ⟨_, rfl, Fresh.ofRow EE Oq (by omega)⟩

end Go.Proofs.Ytkkniibnlniflaa.Hx

namespace Go.Proofs.Ytkkniibnlniflaa.Hx
open Go.RowKit
variable {dm : Bool}

/-- A call in a region that draws its order: whatever it says of rows of one's own that it makes. -/
theorem HCallF.soft {P : Program} {k : FuncId} {args : List HV} {h : Heap} {K : HV → Heap → Prop} {Q : HV → Heap → Prop} (hc : HCalls dm P k args (freeze h) (fun r h' => Ext (freeze h) h' ∧ Q r h'))
    (hK : ∀ r h' h'', Q r h' → Ext (freeze h) h' → Ext h h'' → h''.length = h'.length → (∀ (q : Nat) (cs : List H0), h.length ≤ q → h'[q]? = some (Row.own cs) → h''[q]? = some (Row.own cs)) → K r h'') : HCallF dm P k args h K := by
  refine ⟨⟨hc.enters, fun B0 φ w vargs R a => (hc.out B0 φ w vargs R a).mono ?_⟩⟩
  rintro e w' ⟨v, x, h', φ', rfl, ⟨E, hq⟩, g2, g3, g4, g5⟩
  have hfl := freeze_length h
  have hEl := E.1
  have hget : ∀ (q : Nat) (x : Row), (freeze h ++ (h'.drop h.length).map softRow)[q]? = some x → x ≠ .gone → h'[q]? = some x := fun q x hx hne => by
    by_cases hq : q < h.length
    · rw [List.getElem?_append_left (by omega)] at hx
      rw [E.2 q (by omega)]
      exact hx
    · rw [List.getElem?_append_right (by omega), List.getElem?_map, List.getElem?_drop] at hx
      have e : h.length + (q - (freeze h).length) = q := by omega
      rw [e] at hx
      cases hh : h'[q]? with
      | none => rw [hh] at hx; cases hx
      | some z =>
        rw [hh] at hx
        cases z <;> simp [softRow] at hx
        · exact absurd hx.symm hne
        · rw [hx]
        · exact absurd hx.symm hne
        · rw [hx]
  refine ⟨v, x, freeze h ++ (h'.drop h.length).map softRow, φ', rfl, ⟨(h'.drop h.length).map softRow, rfl, fun z hz => ?_, hK x h' _ hq E (Ext.push _ _) (by simp; omega) (fun q cs hql hcs => ?_)⟩, g2, ?_, g4, g5⟩
  · obtain ⟨z0, _, rfl⟩ := List.mem_map.1 hz
    cases z0 <;> rfl
  · rw [List.getElem?_append_right (by omega), List.getElem?_map, List.getElem?_drop]
    have e : h.length + (q - h.length) = q := by omega
    rw [e, hcs]
    rfl
  · exact g3.soft (by simp; omega) (fun q cs hq => hget q _ hq (by simp)) (fun q cs hq => hget q _ hq (by simp)) (fun q so ks hq => hget q _ hq (by simp))

theorem HCallF.mat {P : Program} {k : FuncId} {args : List HV} {h : Heap} {K : HV → Heap → Prop} {L : List (List Int)} (hc : HCalls dm P k args (freeze h) (fun r h' => ∃ y, r = .s y ∧ Ext (freeze h) h' ∧ OwnM (freeze h).length h'.length h' y L))
    (hK : ∀ h' y, Ext h h' → OwnM h.length h'.length h' y L → K (.s y) h') : HCallF dm P k args h K := by
  refine HCallF.soft (Q := fun r h' => ∃ y, r = .s y ∧ OwnM (freeze h).length h'.length h' y L) (hc.mono fun r h' ⟨y, e, E, O⟩ => ⟨E, y, e, O⟩) ?_
  rintro r h' h'' ⟨y, rfl, q, ρ, rfl, g1, g2, g3, m⟩ E E2 hl hk
  rw [freeze_length] at g1
  refine hK _ _ E2 ⟨q, ρ, rfl, g1, by omega, fun i hi => ?_, m.move ?_ (fun i hi => ?_)⟩
  · have := g3 i hi
    rw [freeze_length] at this
    omega
  · obtain ⟨cs, h1, _⟩ := m.outer
    rw [h1]
    exact hk q cs g1 h1
  · obtain ⟨t, h1⟩ := m.inner i hi
    have := g3 i hi
    rw [freeze_length] at this
    rw [h1]
    exact hk _ _ this.1 h1

theorem HCallF.val {P : Program} {k : FuncId} {args : List HV} {h : Heap} {K : HV → Heap → Prop} {v : HV} (hc : HCalls dm P k args (freeze h) (fun r h' => r = v ∧ Ext (freeze h) h'))
    (hK : ∀ h', Ext h h' → K v h') : HCallF dm P k args h K := by
  refine HCallF.soft (Q := fun r _ => r = v) (hc.mono fun r h' ⟨e, E⟩ => ⟨E, e⟩) ?_
  rintro r h' h'' rfl _ E _ _
  exact hK _ E

theorem Rows.tl {h : Heap} {r off len : Nat} {L : List (List Int)} (H : Rows h (.sl r off len) L) (hl : 1 ≤ len) : Rows h (.sl r (off + 1) (len - 1)) (L.drop 1) := by
  obtain ⟨xs, h1, h2, h3⟩ := H
  have part : ∀ y, Shows h (.s y) (xs.drop 1) → Rows h y (L.drop 1) := fun y hy => ⟨xs.drop 1, hy, by simp; omega, fun i z l a b => h3 (1 + i) z l (by rw [List.getElem?_drop] at a; exact a) (by rw [List.getElem?_drop] at b; exact b)⟩
  generalize hxs : xs = X at h1 part h2
  cases h1 with
  | ro _ _ _ cs hr hl2 =>
    refine part _ ?_
    have := Shows.ro (h := h) r (off + 1) (len - 1) cs hr (by omega)
    rw [List.drop_take, List.drop_drop]
    exact this
  | own _ _ _ cs hr hl2 =>
    refine part _ ?_
    have := Shows.own (h := h) r (off + 1) (len - 1) cs hr (by omega)
    rw [List.drop_take, List.drop_drop]
    exact this

/-- A slice of slices without its first entry. -/
theorem Rows.drop1 {h : Heap} {x : H0} {L : List (List Int)} (H : Rows h x L) (hL : 1 ≤ L.length) {K : HV → Prop} (hK : ∀ y, (∀ h2, Rows h2 x L → Rows h2 y (L.drop 1)) → K (.s y)) : HSlice h (.s x) (some (I ((1 : Nat) : Int))) none K := by
  have H0 := H
  obtain ⟨xs, h1, h2, h3⟩ := H
  generalize hxs : xs = X at h1 h2
  cases h1 with
  | nils b c => simp at h2; omega
  | ro r off len cs hr hl =>
    have e : len = L.length := by simp at h2; omega
    exact ⟨len, 1, len, rfl, Or.inr ⟨.i64, rfl⟩, Or.inl ⟨rfl, rfl⟩, by omega, Or.inl (Nat.le_refl _), hK _ fun h2 H2 => H2.tl (by omega)⟩
  | own r off len cs hr hl =>
    have e : len = L.length := by simp at h2; omega
    exact ⟨len, 1, len, rfl, Or.inr ⟨.i64, rfl⟩, Or.inl ⟨rfl, rfl⟩, by omega, Or.inl (Nat.le_refl _), hK _ fun h2 H2 => H2.tl (by omega)⟩

/-! Bits -/

def bit (m i : Nat) : Bool := m / 2 ^ i % 2 == 1
def setTo (m k : Nat) : List Int := ((List.range k).filter (bit m)).map fun (i : Nat) => (i : Int)
def setB (m : Nat) : List Int := setTo m 4

theorem setTo_none (m : Nat) : setTo m 0 = [] := rfl
theorem setTo_len (m k : Nat) : (setTo m k).length ≤ k := by
  have := List.length_filter_le (bit m) (List.range k)
  simp [setTo] at this ⊢
  exact this
theorem setTo_in {m k : Nat} (h : bit m k = true) : setTo m (k + 1) = setTo m k ++ [(k : Int)] := by
  unfold setTo
  rw [List.range_succ, List.filter_append, List.map_append, List.filter_cons_of_pos h, List.filter_nil]
  rfl
theorem setTo_out {m k : Nat} (h : bit m k = false) : setTo m (k + 1) = setTo m k := by
  unfold setTo
  rw [List.range_succ, List.filter_append, List.map_append, List.filter_cons_of_neg (by rw [h]; decide), List.filter_nil, List.map_nil, List.append_nil]
theorem setTo_all : ∀ i, i < 5 → ∀ m, m < 2 ^ i → setTo m i = setB m := by decide
def fitB (n m : Nat) : Bool := !((setB m).length == 0) && ((List.range (setB m).length).all fun k => decide (0 ≤ (setB m).getD k 0) && decide ((setB m).getD k 0 < (n : Nat))) && ((List.range (setB m).length).all fun k => k == 0 || decide ((setB m).getD (k - 1) 0 < (setB m).getD k 0))
theorem fitB_all : ((List.range 5).all fun n => (List.range (2 ^ n)).all fun m => m == 0 || fitB n m) = true := by decide
theorem setB_fits (n : Nat) (hn : n < 5) (m : Nat) (hm : m < 2 ^ n) (h1 : 1 ≤ m) : (setB m).length ≠ 0 ∧ (∀ k, k < (setB m).length → 0 ≤ (setB m).getD k 0 ∧ (setB m).getD k 0 < (n : Nat)) ∧ (∀ k, k < (setB m).length → k = 0 ∨ (setB m).getD (k - 1) 0 < (setB m).getD k 0) := by
  have h := List.all_eq_true.1 (List.all_eq_true.1 fitB_all n (List.mem_range.2 hn)) m (List.mem_range.2 hm)
  have h0 : (m == 0) = false := by simp; omega
  rw [h0, Bool.false_or] at h
  simp only [fitB, Bool.and_eq_true, Bool.not_eq_true', beq_eq_false_iff_ne] at h
  refine ⟨h.1.1, fun k hk => ?_, fun k hk => ?_⟩
  · have := List.all_eq_true.1 h.1.2 k (List.mem_range.2 hk)
    simpa only [Bool.and_eq_true, decide_eq_true_eq] using this
  · have := List.all_eq_true.1 h.2 k (List.mem_range.2 hk)
    simpa only [Bool.or_eq_true, beq_iff_eq, decide_eq_true_eq] using this
theorem shr_fact : ∀ m, m < 16 → ∀ i, i < 5 → ((m : Nat) : Int).fdiv (2 ^ (min ((i : Nat) : Int).toNat IntKind.i64.bits)) = ((m / 2 ^ i : Nat) : Int) := by decide
theorem and_fact : ∀ v, v < 16 → IntKind.i64.wrap ((BitVec.ofInt IntKind.i64.bits ((v : Nat) : Int) &&& BitVec.ofInt IntKind.i64.bits 1).toNat : Int) = ((v % 2 : Nat) : Int) := by decide
theorem shl_fact : ∀ n, n < 5 → IntKind.i64.wrap (1 * 2 ^ (min ((n : Nat) : Int).toNat IntKind.i64.bits)) = ((2 ^ n : Nat) : Int) := by decide

theorem HShl.one {n : Nat} {K : HV → Prop} (hn : n < 5) (hK : K (I ((2 ^ n : Nat) : Int))) : HShl .i64 1 (n : Int) K := ⟨by omega, by rw [shl_fact n hn]; exact hK⟩
theorem HShr.bits {m i : Nat} {K : HV → Prop} (hm : m < 16) (hi : i < 5) (hK : K (I ((m / 2 ^ i : Nat) : Int))) : HShr .i64 (m : Int) (i : Int) K := ⟨by omega, by rw [shr_fact m hm i hi]; exact hK⟩
theorem HAnd.one {v : Nat} {K : HV → Prop} (hv : v < 16) (hK : K (I ((v % 2 : Nat) : Int))) : HAnd .i64 (v : Int) 1 K := ⟨by rw [and_fact v hv]; exact hK⟩
theorem bit_one {m i : Nat} : ((((m / 2 ^ i % 2 : Nat) : Int)) == 1) = bit m i := by
  unfold bit
  by_cases h : m / 2 ^ i % 2 = 1
  · simp [h]
  · have h2 : m / 2 ^ i % 2 = 0 := by omega
    simp [h2]
theorem pow_le16 {n : Nat} (h : n < 5) : 2 ^ n ≤ 16 := by
  have : 2 ^ n ≤ 2 ^ 4 := Nat.pow_le_pow_right (by omega) (by omega)
  simpa using this
theorem div_pos_iff {m i : Nat} : (((m / 2 ^ i : Nat) : Int) > 0) ↔ ¬ m < 2 ^ i := by
  have : 0 < 2 ^ i := Nat.pow_pos (by omega)
  constructor
  · intro h h2
    rw [Nat.div_eq_of_lt h2] at h
    omega
  · intro h
    have := Nat.div_pos (Nat.le_of_not_lt h) this
    omega

/-! Matrices of some points -/

def pickRow (c : List (List Int)) (o : List Int) (i : Nat) (k : Nat) : List Int := (List.range k).map fun b => ent c i (o.getD b 0).toNat
def pickTo (c : List (List Int)) (o : List Int) (k : Nat) : List (List Int) := (List.range k).map fun a => pickRow c o (o.getD a 0).toNat o.length
def pick (c : List (List Int)) (o : List Int) : List (List Int) := pickTo c o o.length
theorem pickRow_none (c : List (List Int)) (o : List Int) (i : Nat) : pickRow c o i 0 = [] := rfl
theorem pickTo_none (c : List (List Int)) (o : List Int) : pickTo c o 0 = [] := rfl
theorem pickRow_len (c : List (List Int)) (o : List Int) (i k : Nat) : (pickRow c o i k).length = k := by simp [pickRow]
theorem pickTo_len (c : List (List Int)) (o : List Int) (k : Nat) : (pickTo c o k).length = k := by simp [pickTo]
theorem pickRow_succ (c : List (List Int)) (o : List Int) (i k : Nat) : pickRow c o i (k + 1) = pickRow c o i k ++ [ent c i (o.getD k 0).toNat] := by
  unfold pickRow
  rw [List.range_succ, List.map_append]
  rfl
theorem pickTo_succ (c : List (List Int)) (o : List Int) (k : Nat) : pickTo c o (k + 1) = pickTo c o k ++ [pickRow c o (o.getD k 0).toNat o.length] := by
  unfold pickTo
  rw [List.range_succ, List.map_append]
  rfl

/-- A square matrix of small numbers. -/
structure Sq (n : Nat) (m : List (List Int)) : Prop where
  len : m.length = n
  row : ∀ i, i < n → (m.getD i []).length = n
  low : ∀ i j, i < n → j < n → -3 ≤ ent m i j ∧ ent m i j ≤ 3

theorem pick_sq {c : List (List Int)} {o : List Int} (hC : Cartan c) (ho : ∀ k, k < o.length → 0 ≤ o.getD k 0 ∧ o.getD k 0 < c.length) : Sq o.length (pick c o) := by
  have row : ∀ i, i < o.length → (pick c o).getD i [] = pickRow c o (o.getD i 0).toNat o.length := fun i hi => by simp [pick, pickTo, List.getD, hi]
  refine ⟨pickTo_len _ _ _, fun i hi => by rw [row i hi, pickRow_len], fun i j hi hj => ?_⟩
  have e : ent (pick c o) i j = ent c (o.getD i 0).toNat (o.getD j 0).toNat := by
    unfold ent
    rw [row i hi]
    simp [pickRow, List.getD, hj, ent]
  rw [e]
  have h1 := ho i hi
  have h2 := ho j hj
  by_cases hij : (o.getD i 0).toNat = (o.getD j 0).toNat
  · rw [← hij, (matOk hC).diag _ (by omega)]
    omega
  · have := (matOk hC).off (o.getD i 0).toNat (o.getD j 0).toNat (by omega) (by omega) hij
    omega

/-! Determinants -/

def sumTo (f : Nat → Int) : Nat → Int
  | 0 => 0
  | k + 1 => sumTo f k + f k
def minTo (m : List (List Int)) (j : Nat) (k : Nat) : List (List Int) := (List.range k).map fun t => del (m.getD (t + 1) []) (j : Nat)
def sg (j : Nat) : Int := if j % 2 = 0 then 1 else -1
def detZ : Nat → List (List Int) → Int
  | 0, _ => 1
  | n + 1, m => sumTo (fun j => sg j * (ent m 0 j * detZ n (minTo m j n))) (n + 1)
def term (n : Nat) (m : List (List Int)) (j : Nat) : Int := sg j * (ent m 0 j * detZ n (minTo m j n))
theorem detZ_succ (n : Nat) (m : List (List Int)) : detZ (n + 1) m = sumTo (term n m) (n + 1) := rfl
theorem sumTo_none (f : Nat → Int) : sumTo f 0 = 0 := rfl
theorem sumTo_succ (f : Nat → Int) (k : Nat) : sumTo f (k + 1) = sumTo f k + f k := rfl
theorem sg_zero : sg 0 = 1 := rfl
theorem sg_succ (j : Nat) : sg (j + 1) = - sg j := by
  unfold sg
  by_cases h : j % 2 = 0
  · rw [if_pos h, if_neg (by omega)]
  · rw [if_neg h, if_pos (by omega)]
    rfl
theorem sg_cases (j : Nat) : sg j = 1 ∨ sg j = -1 := by
  unfold sg
  split
  · exact Or.inl rfl
  · exact Or.inr rfl
theorem minTo_none (m : List (List Int)) (j : Nat) : minTo m j 0 = [] := rfl
theorem minTo_len (m : List (List Int)) (j k : Nat) : (minTo m j k).length = k := by simp [minTo]
theorem minTo_succ (m : List (List Int)) (j k : Nat) : minTo m j (k + 1) = minTo m j k ++ [del (m.getD (k + 1) []) (j : Nat)] := by
  unfold minTo
  rw [List.range_succ, List.map_append]
  rfl
theorem min_sq {n j : Nat} {m : List (List Int)} (S : Sq (n + 1) m) (hj : j < n + 1) : Sq n (minTo m j n) := by
  have row : ∀ i, i < n → (minTo m j n).getD i [] = del (m.getD (i + 1) []) (j : Nat) := fun i hi => by simp [minTo, List.getD, hi]
  have dl : ∀ i, i < n → (del (m.getD (i + 1) []) (j : Nat)).length = n := fun i hi => by
    have := S.row (i + 1) (by omega)
    rw [del_at]
    simp only [List.length_append, List.length_take, List.length_drop]
    omega
  refine ⟨minTo_len _ _ _, fun i hi => by rw [row i hi]; exact dl i hi, fun i k hi hk => ?_⟩
  have hr := S.row (i + 1) (by omega)
  have hr' : (m[i + 1]?.getD []).length = n + 1 := hr
  have e : ent (minTo m j n) i k = if k < j then ent m (i + 1) k else ent m (i + 1) (k + 1) := by
    unfold ent
    rw [row i hi, del_at]
    split
    · rename_i h
      simp only [List.getD]
      rw [List.getElem?_append_left (by simp; omega), List.getElem?_take_of_lt h]
    · rename_i h
      simp only [List.getD]
      rw [List.getElem?_append_right (by simp; omega), List.getElem?_drop]
      congr 2
      simp only [List.length_take]
      have : min j (m[i + 1]?.getD []).length = j := by
        have : (m[i + 1]?.getD []).length = n + 1 := hr
        omega
      rw [this]
      omega
  rw [e]
  split
  · exact S.low _ _ (by omega) (by omega)
  · exact S.low _ _ (by omega) (by omega)
theorem mul_small {x d : Int} {b : Nat} (h1 : -3 ≤ x ∧ x ≤ 3) (h2 : -(b : Int) ≤ d ∧ d ≤ b) : -(3 * b : Int) ≤ x * d ∧ x * d ≤ 3 * b := by
  have : x = -3 ∨ x = -2 ∨ x = -1 ∨ x = 0 ∨ x = 1 ∨ x = 2 ∨ x = 3 := by omega
  rcases this with h | h | h | h | h | h | h <;> subst h <;> omega
theorem sg_mul {s x : Int} (h : s = 1 ∨ s = -1) : s * x = x ∨ s * x = -x := by
  rcases h with h | h <;> subst h <;> omega
def detB : Nat → Nat
  | 0 => 1
  | n + 1 => (n + 1) * (3 * detB n)
theorem detB_mono : detB 0 = 1 ∧ detB 1 = 3 ∧ detB 2 = 18 ∧ detB 3 = 162 ∧ detB 4 = 1944 := by decide
theorem sumTo_small {f : Nat → Int} {b : Nat} : ∀ k, (∀ j, j < k → -(b : Int) ≤ f j ∧ f j ≤ b) → -((k * b : Nat) : Int) ≤ sumTo f k ∧ sumTo f k ≤ ((k * b : Nat) : Int)
  | 0, _ => by simp [sumTo]
  | k + 1, h => by
    have h1 := sumTo_small k (fun j hj => h j (by omega))
    have h2 := h k (by omega)
    have e : (k + 1) * b = k * b + b := Nat.succ_mul k b
    rw [sumTo, e]
    generalize k * b = q at *
    omega
theorem detZ_small : ∀ (n : Nat) (m : List (List Int)), Sq n m → -(detB n : Int) ≤ detZ n m ∧ detZ n m ≤ detB n
  | 0, m, _ => by simp [detZ, detB]
  | n + 1, m, S => by
    have h := sumTo_small (f := term n m) (b := 3 * detB n) (n + 1) (fun j hj => by
      have h1 := detZ_small n _ (min_sq S hj)
      have h2 := mul_small (S.low 0 j (by omega) hj) h1
      rcases sg_mul (x := ent m 0 j * detZ n (minTo m j n)) (sg_cases j) with e | e <;> unfold term <;> rw [e] <;> omega)
    exact h
theorem term_small {n : Nat} {m : List (List Int)} (hn : n < 4) (S : Sq (n + 1) m) {j : Nat} (hj : j < n + 1) : (-162 ≤ detZ n (minTo m j n) ∧ detZ n (minTo m j n) ≤ 162) ∧ (-486 ≤ ent m 0 j * detZ n (minTo m j n) ∧ ent m 0 j * detZ n (minTo m j n) ≤ 486) ∧ (-486 ≤ term n m j ∧ term n m j ≤ 486) := by
  have h1 := detZ_small n _ (min_sq S hj)
  have hb := detB_mono
  have h3 : n = 0 ∨ n = 1 ∨ n = 2 ∨ n = 3 := by omega
  have h4 : detB n ≤ 162 := by rcases h3 with e | e | e | e <;> subst e <;> omega
  have h2 := mul_small (S.low 0 j (by omega) hj) h1
  refine ⟨by omega, by omega, ?_⟩
  rcases sg_mul (x := ent m 0 j * detZ n (minTo m j n)) (sg_cases j) with e | e <;> unfold term <;> rw [e] <;> omega
theorem sum_small {n : Nat} {m : List (List Int)} (hn : n < 4) (S : Sq (n + 1) m) {k : Nat} (hk : k ≤ n + 1) : -1944 ≤ sumTo (term n m) k ∧ sumTo (term n m) k ≤ 1944 := by
  have h := sumTo_small (f := term n m) (b := 486) k (fun j hj => (term_small hn S (by omega)).2.2)
  omega

def dt (c : List (List Int)) (m : Nat) : Int := detZ (setB m).length (pick c (setB m))
def allPos (c : List (List Int)) : Bool := (List.range (2 ^ c.length - 1)).all fun k => decide (0 < dt c (k + 1))
def isFinite (c : List (List Int)) : Bool := isCartan c && allPos c
theorem allPos_of {c : List (List Int)} (h : ∀ k, k < 2 ^ c.length - 1 → 0 < dt c (k + 1)) : allPos c = true :=
  List.all_eq_true.2 fun k hk => decide_eq_true (h k (List.mem_range.1 hk))
theorem allPos_not {c : List (List Int)} {k : Nat} (hk : k < 2 ^ c.length - 1) (h : dt c (k + 1) ≤ 0) : allPos c = false := by
  rw [Bool.eq_false_iff]
  intro ha
  have := of_decide_eq_true (List.all_eq_true.1 ha k (List.mem_range.2 hk))
  omega

end Go.Proofs.Ytkkniibnlniflaa.Hx
