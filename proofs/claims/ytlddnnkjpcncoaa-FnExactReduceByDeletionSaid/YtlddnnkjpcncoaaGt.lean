
/-
  Contracts of powers, exchange places, replayed and repeated deletions, of the program and of the reference.
-/
import Derived.Test.YtlddnnkjpcncoaaGs
namespace Go.Proofs.Ytlddnnkjpcncoaa.Hx
open Go.RowKit
variable {dm : Bool}

def powTo (c : List (List Int)) (w : List Int) : Nat → Option (List Int)
  | 0 => some []
  | k + 1 => match powTo c w k with
    | none => none
    | some y => if mulOk c y w then some (mul c y w) else none
def in60 (k : Int) : Bool := decide (0 ≤ k) && decide (k ≤ 60)
theorem in60_eq (k : Int) : in60 k = (decide (0 ≤ k) && decide (k ≤ 60)) := rfl
def powOk (c : List (List Int)) (w : List Int) (k : Int) : Bool := isWord c w && in60 k && (powTo c w k.toNat).isSome
def pow (c : List (List Int)) (w : List Int) (k : Int) : List Int := if powOk c w k then (powTo c w k.toNat).getD [] else []

theorem powTo_fail {c : List (List Int)} {w l : List Int} {i : Nat} (h : powTo c w i = some l) (hm : mulOk c l w = false) : powTo c w (i + 1) = none := by
  rw [powTo, h]
  simp [hm]
theorem powTo_next {c : List (List Int)} {w l : List Int} {i : Nat} (h : powTo c w i = some l) (hm : mulOk c l w = true) : powTo c w (i + 1) = some (mul c l w) := by
  rw [powTo, h]
  simp [hm]
theorem powTo_none {c : List (List Int)} {w : List Int} {i : Nat} (h : powTo c w i = none) : ∀ k, i ≤ k → powTo c w k = none := by
  intro k hk
  induction k with
  | zero =>
    have : i = 0 := by omega
    subst this
    exact h
  | succ k ih =>
    by_cases e : i = k + 1
    · subst e; exact h
    · rw [powTo, ih (by omega)]
theorem powTo_len {c : List (List Int)} {w l : List Int} : ∀ {i : Nat}, powTo c w i = some l → l.length ≤ 31
  | 0, h => by
    rw [powTo] at h
    injection h with h
    subst h
    simp
  | i + 1, h => by
    rw [powTo] at h
    split at h
    · cases h
    · split at h
      · injection h with h
        subst h
        exact mul_le _ _ _
      · cases h
theorem mul_norm {c : List (List Int)} {w : List Int} (h : isWord c w = true) (y : List Int) : mulOk c y (normF c w) = mulOk c y w ∧ mul c y (normF c w) = mul c y w := by
  obtain ⟨hC, hl, hw⟩ := word_cartan h
  have h1 := normF_app (c := c) (a := y) hC hw (by omega)
  have h2 := (normF_word h).2
  have e : mulOk c y (normF c w) = mulOk c y w := by simp [mulOk, h1, h, h2]
  refine ⟨e, ?_⟩
  unfold mul
  rw [e, h1]
theorem pow_off {c : List (List Int)} {w : List Int} {k : Int} (h : powOk c w k = false) : pow c w k = [] := by simp [pow, h]
theorem pow_on {c : List (List Int)} {w l : List Int} {k : Int} (h : isWord c w = true) (hk : in60 k = true) (hp : powTo c w k.toNat = some l) : powOk c w k = true ∧ pow c w k = l := by
  have e : powOk c w k = true := by simp [powOk, h, hk, hp]
  exact ⟨e, by simp [pow, e, hp]⟩
theorem powOk_none {c : List (List Int)} {w : List Int} {k : Int} (hp : powTo c w k.toNat = none) : powOk c w k = false := by simp [powOk, hp]
theorem powOk_off {c : List (List Int)} {w : List Int} {k : Int} (h : isWord c w = false ∨ in60 k = false) : powOk c w k = false := by
  rcases h with h | h <;> simp [powOk, h]
theorem pow_le (c : List (List Int)) (w : List Int) (k : Int) : (pow c w k).length ≤ 31 := by
  unfold pow
  split
  · cases h : powTo c w k.toNat with
    | none => simp
    | some l => exact powTo_len h
  · simp

theorem descs_range {v : List Int} {k : Nat} {n : Int} (h : n ∈ descs v k) : 0 ≤ n ∧ n < k := by
  obtain ⟨j, hj, rfl⟩ := List.mem_map.1 h
  have := List.mem_range.1 (List.mem_filter.1 hj).1
  omega
theorem descents_range {c : List (List Int)} {w : List Int} {n : Int} (h : n ∈ leftDescents c w) : 0 ≤ n ∧ n < c.length := by
  unfold leftDescents at h
  split at h
  · exact descs_range h
  · simp at h

def exAt (c : List (List Int)) (w : List Int) (n : Int) (k : Nat) : Bool := decide (imageOf c (del w k) = imageOf c (n :: w))
def exIdx (c : List (List Int)) (w : List Int) (n : Int) : Int :=
  if isReduced c w && decide (n ∈ leftDescents c w) then
    match (List.range w.length).find? (exAt c w n) with
    | some k => k
    | none => -1
  else -1
theorem exIdx_off {c : List (List Int)} {w : List Int} {n : Int} (h : isReduced c w = false ∨ n ∉ leftDescents c w) : exIdx c w n = -1 := by
  rcases h with h | h <;> simp [exIdx, h]
theorem exIdx_at {c : List (List Int)} {w : List Int} {n : Int} {i : Nat} (h : isReduced c w = true) (h2 : n ∈ leftDescents c w) (hi : i < w.length) (he : exAt c w n i = true) (hb : ∀ k, k < i → exAt c w n k = false) : exIdx c w n = i := by
  have : (List.range w.length).find? (exAt c w n) = some i := by
    rw [List.find?_range_eq_some]
    exact ⟨he, by simpa using hi, fun k hk => by simp [hb k hk]⟩
  simp [exIdx, h, h2, this]
theorem exIdx_none {c : List (List Int)} {w : List Int} {n : Int} (hb : ∀ k, k < w.length → exAt c w n k = false) : exIdx c w n = -1 := by
  have : (List.range w.length).find? (exAt c w n) = none := by
    rw [List.find?_range_eq_none]
    intro k hk
    simp [hb k hk]
  unfold exIdx
  rw [this]
  split <;> rfl
theorem lettersOk_cons {c : List (List Int)} {w : List Int} {n : Int} (h : lettersOk c w = true) (h1 : 0 ≤ n ∧ n < c.length) : lettersOk c (n :: w) = true := by
  have hp : isPoint c n = true := by simp [isPoint, inRange]; omega
  simp only [lettersOk, List.all_cons, Bool.and_eq_true] at h ⊢
  exact ⟨hp, h⟩
theorem isReduced_word {c : List (List Int)} {w : List Int} (h : isReduced c w = true) : isWord c w = true := by
  simp only [isReduced, Bool.and_eq_true] at h
  exact h.1

/-- Letters left out at told places, two by two. -/
def replay : List Int → List Int → Option (List Int)
  | x, i :: j :: l => if i < 0 ∨ j ≤ i ∨ (x.length : Int) ≤ j then none else replay (del (del x j) i) l
  | x, _ => some x
def repW (w l : List Int) : List Int := (replay w l).getD w
def repOk (w l : List Int) : Bool := (replay w l).isSome && ((l.length : Int).tmod 2 == 0)
theorem replay_end {x l : List Int} (h : l.length < 2) : replay x l = some x := by
  match l, h with
  | [], _ => rfl
  | [_], _ => rfl
theorem replay_step {x l : List Int} {k : Nat} (h : k + 1 < l.length) : replay x (l.drop k) = if l.getD k 0 < 0 ∨ l.getD (k + 1) 0 ≤ l.getD k 0 ∨ (x.length : Int) ≤ l.getD (k + 1) 0 then none else replay (del (del x (l.getD (k + 1) 0)) (l.getD k 0)) (l.drop (k + 2)) := by
  rw [List.drop_eq_getElem_cons (by omega), List.drop_eq_getElem_cons (by omega), replay]
  have e1 : l.getD k 0 = l[k] := by simp [List.getD, (by omega : k < l.length)]
  have e2 : l.getD (k + 1) 0 = l[k + 1] := by simp [List.getD, h]
  rw [e1, e2]
theorem repW_le (w : List Int) : ∀ (x l : List Int), x.length ≤ w.length → ((replay x l).getD w).length ≤ w.length
  | x, i :: j :: l, h => by
    rw [replay]
    split
    · exact Nat.le_refl _
    · exact repW_le w _ l (Nat.le_trans (del_len _ _) (Nat.le_trans (del_len _ _) h))
  | x, [], h => h
  | x, [_], h => h

/-- Pairs of letters left out, as often as f. -/
def red (c : List (List Int)) : Nat → List Int → List Int → List Int × List Int
  | 0, x, o => (x, o)
  | f + 1, x, o => if (delPair c x).2.2 then red c f (del (del x (delPair c x).2.1) (delPair c x).1) (o ++ [(delPair c x).1, (delPair c x).2.1]) else (x, o)
theorem red_none (c : List (List Int)) (x o : List Int) : red c 0 x o = (x, o) := rfl
theorem red_stop {c : List (List Int)} {f : Nat} {x o : List Int} (h : (delPair c x).2.2 = false) : red c f x o = (x, o) := by
  cases f with
  | zero => rfl
  | succ f => simp [red, h]
theorem red_step {c : List (List Int)} {f : Nat} {x o : List Int} {i j : Int} (h : delPair c x = (i, j, true)) : red c (f + 1) x o = red c f (del (del x j) i) (o ++ [i, j]) := by simp [red, h]
theorem delPair_yes {c : List (List Int)} {x : List Int} (h : (delPair c x).2.2 = true) : isWord c x = true ∧ ∃ i j : Nat, i < j ∧ j < x.length ∧ delPair c x = ((i : Int), (j : Int), true) := by
  cases hw : isWord c x
  · rw [delPair_off hw] at h; cases h
  refine ⟨rfl, ?_⟩
  unfold delPair at h ⊢
  rw [hw] at h ⊢
  simp only [if_true] at h ⊢
  split at h
  · rename_i i hi
    split at h
    · rename_i j hj
      refine ⟨i, j, ?_, ?_, rfl⟩
      · have := List.find?_some hj
        simp only [Bool.and_eq_true, decide_eq_true_eq] at this
        exact this.1
      · exact List.mem_range.1 (List.mem_of_find?_eq_some hj)
    · cases h
  · cases h
theorem del2_length {x : List Int} {i j : Nat} (h1 : i < j) (h2 : j < x.length) : (del (del x (j : Int)) (i : Int)).length = x.length - 2 := by
  rw [del_at, del_at]
  simp
  omega
theorem red_le (c : List (List Int)) : ∀ (f : Nat) (x o : List Int), (red c f x o).1.length ≤ x.length ∧ (red c f x o).2.length ≤ o.length + 2 * f
  | 0, x, o => ⟨Nat.le_refl _, by simp [red]⟩
  | f + 1, x, o => by
    rw [red]
    split
    · have := red_le c f (del (del x (delPair c x).2.1) (delPair c x).1) (o ++ [(delPair c x).1, (delPair c x).2.1])
      have h1 := del_len (del x (delPair c x).2.1) (delPair c x).1
      have h2 := del_len x (delPair c x).2.1
      simp only [List.length_append, List.length_cons, List.length_nil] at this
      omega
    · exact ⟨Nat.le_refl _, Nat.le_add_right _ _⟩


theorem impl_PowerElement (h : Heap) (x0 : H0) (a0 : List (List Int)) (x1 : H0) (a1 : List Int) (n2 : Int) (hx0 : Rows h x0 a0) (hx1 : Ints h x1 a1) (s0 : a0.length ≤ 1048576 ∧ tot a0 ≤ 1048576) (s1 : a1.length ≤ 1048576) (_s2 : -9223372036854775808 ≤ n2 ∧ n2 ≤ 9223372036854775807) :
    HCalls dm Try.prog 28 [.s x0, .s x1, I n2] h (fun r h' => ∃ y, r = T2 y (powOk a0 a1 n2) ∧ Fresh h h' y (pow a0 a1 n2)) := by
  refine calls_of_hFun (m := 0) kd_ok mixed Try.func28 rfl (by kernel_rfl) rfl rfl (of_decide_eq_true rfl) ?_; unfold hFun; (conv => whnf)
  refine (impl_IsWord _ _ _ a0 a1 hx0 hx1 (by omega) (by omega)).mono ?_
  rintro r h1 ⟨rfl, rfl⟩
  (conv => whnf)
  have bad : powOk a0 a1 n2 = false → Fresh h1 (h1 ++ [Row.own []]) (.sl h1.length 0 0) (pow a0 a1 n2) := fun hp => Fresh.none _ (pow_off hp)
  cases hic : isWord a0 a1
  · have hp := powOk_off (c := a0) (w := a1) (k := n2) (Or.inl hic)
    rw [hp]
    (repeat (first | (refine ⟨rfl, Ints.len (by assumption) ?_⟩; conv => whnf) | (refine ⟨rfl, Rows.len (by assumption) ?_⟩; conv => whnf) | (refine ⟨rfl, HLen.sl ?_⟩; conv => whnf) | (refine ⟨rfl, At.load (by assumption) ?_⟩; conv => whnf) | (refine HIf.yes ?_; conv => whnf) | (refine HIf.no ?_; conv => whnf) | (refine HIf.isT (by assumption) ?_; conv => whnf) | (refine HIf.isF (by assumption) ?_; conv => whnf) | (refine HIf.decT (by assumption) ?_; conv => whnf) | (refine HIf.decF (by assumption) ?_; conv => whnf) | (refine HIf.beqT (by assumption) ?_; conv => whnf) | (refine HIf.beqF (by assumption) ?_; conv => whnf) | (refine HIf.bneT (by assumption) ?_; conv => whnf) | (refine HIf.bneF (by assumption) ?_; conv => whnf) | (refine ⟨rfl, Ints.idxN (by assumption) (by omega) (fun p hp => ?_)⟩; conv => whnf) | (refine ⟨rfl, Rows.idxN (by assumption) (by omega) (fun p y hp hy => ?_)⟩; conv => whnf) | (refine And.intro (show Kd.isBool _ = true from rfl) ?_; conv => whnf) | (refine ⟨rfl, Ints.idx (by assumption) (by omega) (by omega) (fun p hp => ?_)⟩; conv => whnf) | (refine ⟨rfl, Rows.idx (by assumption) (by omega) (by omega) (fun p y hp hy => ?_)⟩; conv => whnf) | (refine HArith.fits (by omega) (by omega) ?_; conv => whnf) | (refine Or.inl (And.intro (show Region.lexB _ _ = true by kernel_rfl) ?_); conv => whnf)))
    refine HLit.empty ?_
    (conv => whnf)
    exact ⟨_, rfl, bad hp⟩
  by_cases hn0 : n2 < 0
  · have hp := powOk_off (c := a0) (w := a1) (k := n2) (Or.inr (by simp [in60]; omega))
    rw [hp]
    (repeat (first | (refine ⟨rfl, Ints.len (by assumption) ?_⟩; conv => whnf) | (refine ⟨rfl, Rows.len (by assumption) ?_⟩; conv => whnf) | (refine ⟨rfl, HLen.sl ?_⟩; conv => whnf) | (refine ⟨rfl, At.load (by assumption) ?_⟩; conv => whnf) | (refine HIf.yes ?_; conv => whnf) | (refine HIf.no ?_; conv => whnf) | (refine HIf.isT (by assumption) ?_; conv => whnf) | (refine HIf.isF (by assumption) ?_; conv => whnf) | (refine HIf.decT (by assumption) ?_; conv => whnf) | (refine HIf.decF (by assumption) ?_; conv => whnf) | (refine HIf.beqT (by assumption) ?_; conv => whnf) | (refine HIf.beqF (by assumption) ?_; conv => whnf) | (refine HIf.bneT (by assumption) ?_; conv => whnf) | (refine HIf.bneF (by assumption) ?_; conv => whnf) | (refine ⟨rfl, Ints.idxN (by assumption) (by omega) (fun p hp => ?_)⟩; conv => whnf) | (refine ⟨rfl, Rows.idxN (by assumption) (by omega) (fun p y hp hy => ?_)⟩; conv => whnf) | (refine And.intro (show Kd.isBool _ = true from rfl) ?_; conv => whnf) | (refine ⟨rfl, Ints.idx (by assumption) (by omega) (by omega) (fun p hp => ?_)⟩; conv => whnf) | (refine ⟨rfl, Rows.idx (by assumption) (by omega) (by omega) (fun p y hp hy => ?_)⟩; conv => whnf) | (refine HArith.fits (by omega) (by omega) ?_; conv => whnf) | (refine Or.inl (And.intro (show Region.lexB _ _ = true by kernel_rfl) ?_); conv => whnf)))
    refine HLit.empty ?_
    (conv => whnf)
    exact ⟨_, rfl, bad hp⟩
  by_cases hn60 : n2 > 60
  · have hp := powOk_off (c := a0) (w := a1) (k := n2) (Or.inr (by simp [in60]; omega))
    rw [hp]
    (repeat (first | (refine ⟨rfl, Ints.len (by assumption) ?_⟩; conv => whnf) | (refine ⟨rfl, Rows.len (by assumption) ?_⟩; conv => whnf) | (refine ⟨rfl, HLen.sl ?_⟩; conv => whnf) | (refine ⟨rfl, At.load (by assumption) ?_⟩; conv => whnf) | (refine HIf.yes ?_; conv => whnf) | (refine HIf.no ?_; conv => whnf) | (refine HIf.isT (by assumption) ?_; conv => whnf) | (refine HIf.isF (by assumption) ?_; conv => whnf) | (refine HIf.decT (by assumption) ?_; conv => whnf) | (refine HIf.decF (by assumption) ?_; conv => whnf) | (refine HIf.beqT (by assumption) ?_; conv => whnf) | (refine HIf.beqF (by assumption) ?_; conv => whnf) | (refine HIf.bneT (by assumption) ?_; conv => whnf) | (refine HIf.bneF (by assumption) ?_; conv => whnf) | (refine ⟨rfl, Ints.idxN (by assumption) (by omega) (fun p hp => ?_)⟩; conv => whnf) | (refine ⟨rfl, Rows.idxN (by assumption) (by omega) (fun p y hp hy => ?_)⟩; conv => whnf) | (refine And.intro (show Kd.isBool _ = true from rfl) ?_; conv => whnf) | (refine ⟨rfl, Ints.idx (by assumption) (by omega) (by omega) (fun p hp => ?_)⟩; conv => whnf) | (refine ⟨rfl, Rows.idx (by assumption) (by omega) (by omega) (fun p y hp hy => ?_)⟩; conv => whnf) | (refine HArith.fits (by omega) (by omega) ?_; conv => whnf) | (refine Or.inl (And.intro (show Region.lexB _ _ = true by kernel_rfl) ?_); conv => whnf)))
    refine HLit.empty ?_
    (conv => whnf)
    exact ⟨_, rfl, bad hp⟩
  have hin : in60 n2 = true := by simp [in60]; omega
  (repeat (first | (refine ⟨rfl, Ints.len (by assumption) ?_⟩; conv => whnf) | (refine ⟨rfl, Rows.len (by assumption) ?_⟩; conv => whnf) | (refine ⟨rfl, HLen.sl ?_⟩; conv => whnf) | (refine ⟨rfl, At.load (by assumption) ?_⟩; conv => whnf) | (refine HIf.yes ?_; conv => whnf) | (refine HIf.no ?_; conv => whnf) | (refine HIf.isT (by assumption) ?_; conv => whnf) | (refine HIf.isF (by assumption) ?_; conv => whnf) | (refine HIf.decT (by assumption) ?_; conv => whnf) | (refine HIf.decF (by assumption) ?_; conv => whnf) | (refine HIf.beqT (by assumption) ?_; conv => whnf) | (refine HIf.beqF (by assumption) ?_; conv => whnf) | (refine HIf.bneT (by assumption) ?_; conv => whnf) | (refine HIf.bneF (by assumption) ?_; conv => whnf) | (refine ⟨rfl, Ints.idxN (by assumption) (by omega) (fun p hp => ?_)⟩; conv => whnf) | (refine ⟨rfl, Rows.idxN (by assumption) (by omega) (fun p y hp hy => ?_)⟩; conv => whnf) | (refine And.intro (show Kd.isBool _ = true from rfl) ?_; conv => whnf) | (refine ⟨rfl, Ints.idx (by assumption) (by omega) (by omega) (fun p hp => ?_)⟩; conv => whnf) | (refine ⟨rfl, Rows.idx (by assumption) (by omega) (by omega) (fun p y hp hy => ?_)⟩; conv => whnf) | (refine HArith.fits (by omega) (by omega) ?_; conv => whnf) | (refine Or.inl (And.intro (show Region.lexB _ _ = true by kernel_rfl) ?_); conv => whnf)))
  refine HLit.empty ?_
  (conv => whnf)
  have E0 := Ext.push h1 [Row.own []]
  refine HLoop.intro [25, 8] [26, 28, 29, 30, 31, 27, 32, 33, 8, 9, 34, 35, 36, 6, 7, 37, 25] (by kernel_rfl) (by kernel_rfl) (fun vs h' => ∃ (i : Nat) (y : H0) (l : List Int), vs = [I i, .s y] ∧ (i : Int) ≤ n2 ∧ Ext h1 h' ∧ Own h1.length h'.length h' y l ∧ powTo a0 a1 i = some l) (fun vs _ => n2.toNat - natAt vs 0) ⟨0, _, [], rfl, by omega, E0, Own.none h1, rfl⟩ ?_
  rintro vs h' ⟨i, y, l, rfl, hi, E, O, hpw⟩
  have hll := powTo_len hpw
  (conv => whnf)
  refine HIf.dec (fun hlt => ?_) (fun hge => ?_)
  · (conv => whnf)
    refine (impl_MultiplyElements _ _ a0 _ l _ a1 (hx0.ext E) O.ints (hx1.ext E) s0 (by omega) s1).mono ?_
    rintro r h3 ⟨y2, rfl, f2⟩
    have hz := Fresh.inner E f2
    (conv => whnf)
    cases hm : mulOk a0 l a1
    · have hp := powOk_none (powTo_none (powTo_fail hpw hm) n2.toNat (by omega))
      rw [hp, pow_off hp]
      (repeat (first | (refine ⟨rfl, Ints.len (by assumption) ?_⟩; conv => whnf) | (refine ⟨rfl, Rows.len (by assumption) ?_⟩; conv => whnf) | (refine ⟨rfl, HLen.sl ?_⟩; conv => whnf) | (refine ⟨rfl, At.load (by assumption) ?_⟩; conv => whnf) | (refine HIf.yes ?_; conv => whnf) | (refine HIf.no ?_; conv => whnf) | (refine HIf.isT (by assumption) ?_; conv => whnf) | (refine HIf.isF (by assumption) ?_; conv => whnf) | (refine HIf.decT (by assumption) ?_; conv => whnf) | (refine HIf.decF (by assumption) ?_; conv => whnf) | (refine HIf.beqT (by assumption) ?_; conv => whnf) | (refine HIf.beqF (by assumption) ?_; conv => whnf) | (refine HIf.bneT (by assumption) ?_; conv => whnf) | (refine HIf.bneF (by assumption) ?_; conv => whnf) | (refine ⟨rfl, Ints.idxN (by assumption) (by omega) (fun p hp => ?_)⟩; conv => whnf) | (refine ⟨rfl, Rows.idxN (by assumption) (by omega) (fun p y hp hy => ?_)⟩; conv => whnf) | (refine And.intro (show Kd.isBool _ = true from rfl) ?_; conv => whnf) | (refine ⟨rfl, Ints.idx (by assumption) (by omega) (by omega) (fun p hp => ?_)⟩; conv => whnf) | (refine ⟨rfl, Rows.idx (by assumption) (by omega) (by omega) (fun p y hp hy => ?_)⟩; conv => whnf) | (refine HArith.fits (by omega) (by omega) ?_; conv => whnf) | (refine Or.inl (And.intro (show Region.lexB _ _ = true by kernel_rfl) ?_); conv => whnf)))
      refine HLit.empty ?_
      (conv => whnf)
      exact ⟨_, rfl, Fresh.of (hz.1.trans (Ext.push _ _)) ((OwnR.push _ []).own hz.1.1)⟩
    · (repeat (first | (refine ⟨rfl, Ints.len (by assumption) ?_⟩; conv => whnf) | (refine ⟨rfl, Rows.len (by assumption) ?_⟩; conv => whnf) | (refine ⟨rfl, HLen.sl ?_⟩; conv => whnf) | (refine ⟨rfl, At.load (by assumption) ?_⟩; conv => whnf) | (refine HIf.yes ?_; conv => whnf) | (refine HIf.no ?_; conv => whnf) | (refine HIf.isT (by assumption) ?_; conv => whnf) | (refine HIf.isF (by assumption) ?_; conv => whnf) | (refine HIf.decT (by assumption) ?_; conv => whnf) | (refine HIf.decF (by assumption) ?_; conv => whnf) | (refine HIf.beqT (by assumption) ?_; conv => whnf) | (refine HIf.beqF (by assumption) ?_; conv => whnf) | (refine HIf.bneT (by assumption) ?_; conv => whnf) | (refine HIf.bneF (by assumption) ?_; conv => whnf) | (refine ⟨rfl, Ints.idxN (by assumption) (by omega) (fun p hp => ?_)⟩; conv => whnf) | (refine ⟨rfl, Rows.idxN (by assumption) (by omega) (fun p y hp hy => ?_)⟩; conv => whnf) | (refine And.intro (show Kd.isBool _ = true from rfl) ?_; conv => whnf) | (refine ⟨rfl, Ints.idx (by assumption) (by omega) (by omega) (fun p hp => ?_)⟩; conv => whnf) | (refine ⟨rfl, Rows.idx (by assumption) (by omega) (by omega) (fun p y hp hy => ?_)⟩; conv => whnf) | (refine HArith.fits (by omega) (by omega) ?_; conv => whnf) | (refine Or.inl (And.intro (show Region.lexB _ _ = true by kernel_rfl) ?_); conv => whnf)))
      exact ⟨⟨i + 1, y2, _, rfl, by omega, hz.1, hz.2, powTo_next hpw hm⟩, by show n2.toNat - (i + 1) < n2.toNat - i; omega⟩
  · have e : n2.toNat = i := by omega
    rw [← e] at hpw
    obtain ⟨g1, g2⟩ := pow_on hic hin hpw
    rw [g1, g2]
    (conv => whnf)
    exact ⟨_, rfl, Fresh.of E O⟩

theorem spec_PowerElement (h : Heap) (x0 : H0) (a0 : List (List Int)) (x1 : H0) (a1 : List Int) (n2 : Int) (hx0 : Rows h x0 a0) (hx1 : Ints h x1 a1) (s0 : a0.length ≤ 1048576 ∧ tot a0 ≤ 1048576) (s1 : a1.length ≤ 1048576) (_s2 : -9223372036854775808 ≤ n2 ∧ n2 ≤ 9223372036854775807) :
    HCalls dm Try.prog 27 [.s x0, .s x1, I n2] h (fun r h' => ∃ y, r = T2 y (powOk a0 a1 n2) ∧ Fresh h h' y (pow a0 a1 n2)) := by
  refine calls_of_hFun (m := 0) kd_ok mixed Try.func27 rfl (by kernel_rfl) rfl rfl (of_decide_eq_true rfl) ?_; unfold hFun; (conv => whnf)
  refine (spec_NormalForm _ _ a0 _ a1 hx0 hx1 s0 s1).mono ?_
  rintro r h1 ⟨y1, rfl, f1⟩
  have E1 := f1.1
  (conv => whnf)
  have bad : powOk a0 a1 n2 = false → Fresh h (h1 ++ [Row.own []]) (.sl h1.length 0 0) (pow a0 a1 n2) := fun hp => by
    rw [pow_off hp]
    exact Fresh.of (E1.trans (Ext.push _ _)) ((OwnR.push _ []).own E1.1)
  cases hic : isWord a0 a1
  · have hp := powOk_off (c := a0) (w := a1) (k := n2) (Or.inl hic)
    rw [hp]
    (repeat (first | (refine ⟨rfl, Ints.len (by assumption) ?_⟩; conv => whnf) | (refine ⟨rfl, Rows.len (by assumption) ?_⟩; conv => whnf) | (refine ⟨rfl, HLen.sl ?_⟩; conv => whnf) | (refine ⟨rfl, At.load (by assumption) ?_⟩; conv => whnf) | (refine HIf.yes ?_; conv => whnf) | (refine HIf.no ?_; conv => whnf) | (refine HIf.isT (by assumption) ?_; conv => whnf) | (refine HIf.isF (by assumption) ?_; conv => whnf) | (refine HIf.decT (by assumption) ?_; conv => whnf) | (refine HIf.decF (by assumption) ?_; conv => whnf) | (refine HIf.beqT (by assumption) ?_; conv => whnf) | (refine HIf.beqF (by assumption) ?_; conv => whnf) | (refine HIf.bneT (by assumption) ?_; conv => whnf) | (refine HIf.bneF (by assumption) ?_; conv => whnf) | (refine ⟨rfl, Ints.idxN (by assumption) (by omega) (fun p hp => ?_)⟩; conv => whnf) | (refine ⟨rfl, Rows.idxN (by assumption) (by omega) (fun p y hp hy => ?_)⟩; conv => whnf) | (refine And.intro (show Kd.isBool _ = true from rfl) ?_; conv => whnf) | (refine ⟨rfl, Ints.idx (by assumption) (by omega) (by omega) (fun p hp => ?_)⟩; conv => whnf) | (refine ⟨rfl, Rows.idx (by assumption) (by omega) (by omega) (fun p y hp hy => ?_)⟩; conv => whnf) | (refine HArith.fits (by omega) (by omega) ?_; conv => whnf) | (refine Or.inl (And.intro (show Region.lexB _ _ = true by kernel_rfl) ?_); conv => whnf)))
    refine HLit.empty ?_
    (conv => whnf)
    exact ⟨_, rfl, bad hp⟩
  rw [normalForm_on hic] at f1
  have hnw := normF_word hic
  (repeat (first | (refine ⟨rfl, Ints.len (by assumption) ?_⟩; conv => whnf) | (refine ⟨rfl, Rows.len (by assumption) ?_⟩; conv => whnf) | (refine ⟨rfl, HLen.sl ?_⟩; conv => whnf) | (refine ⟨rfl, At.load (by assumption) ?_⟩; conv => whnf) | (refine HIf.yes ?_; conv => whnf) | (refine HIf.no ?_; conv => whnf) | (refine HIf.isT (by assumption) ?_; conv => whnf) | (refine HIf.isF (by assumption) ?_; conv => whnf) | (refine HIf.decT (by assumption) ?_; conv => whnf) | (refine HIf.decF (by assumption) ?_; conv => whnf) | (refine HIf.beqT (by assumption) ?_; conv => whnf) | (refine HIf.beqF (by assumption) ?_; conv => whnf) | (refine HIf.bneT (by assumption) ?_; conv => whnf) | (refine HIf.bneF (by assumption) ?_; conv => whnf) | (refine ⟨rfl, Ints.idxN (by assumption) (by omega) (fun p hp => ?_)⟩; conv => whnf) | (refine ⟨rfl, Rows.idxN (by assumption) (by omega) (fun p y hp hy => ?_)⟩; conv => whnf) | (refine And.intro (show Kd.isBool _ = true from rfl) ?_; conv => whnf) | (refine ⟨rfl, Ints.idx (by assumption) (by omega) (by omega) (fun p hp => ?_)⟩; conv => whnf) | (refine ⟨rfl, Rows.idx (by assumption) (by omega) (by omega) (fun p y hp hy => ?_)⟩; conv => whnf) | (refine HArith.fits (by omega) (by omega) ?_; conv => whnf) | (refine Or.inl (And.intro (show Region.lexB _ _ = true by kernel_rfl) ?_); conv => whnf)))
  refine (spec_l1In _ _ _ _).mono ?_
  rintro r h2 ⟨rfl, rfl⟩
  rw [← in60_eq]
  (conv => whnf)
  cases hin : in60 n2
  · have hp := powOk_off (c := a0) (w := a1) (k := n2) (Or.inr hin)
    rw [hp]
    (repeat (first | (refine ⟨rfl, Ints.len (by assumption) ?_⟩; conv => whnf) | (refine ⟨rfl, Rows.len (by assumption) ?_⟩; conv => whnf) | (refine ⟨rfl, HLen.sl ?_⟩; conv => whnf) | (refine ⟨rfl, At.load (by assumption) ?_⟩; conv => whnf) | (refine HIf.yes ?_; conv => whnf) | (refine HIf.no ?_; conv => whnf) | (refine HIf.isT (by assumption) ?_; conv => whnf) | (refine HIf.isF (by assumption) ?_; conv => whnf) | (refine HIf.decT (by assumption) ?_; conv => whnf) | (refine HIf.decF (by assumption) ?_; conv => whnf) | (refine HIf.beqT (by assumption) ?_; conv => whnf) | (refine HIf.beqF (by assumption) ?_; conv => whnf) | (refine HIf.bneT (by assumption) ?_; conv => whnf) | (refine HIf.bneF (by assumption) ?_; conv => whnf) | (refine ⟨rfl, Ints.idxN (by assumption) (by omega) (fun p hp => ?_)⟩; conv => whnf) | (refine ⟨rfl, Rows.idxN (by assumption) (by omega) (fun p y hp hy => ?_)⟩; conv => whnf) | (refine And.intro (show Kd.isBool _ = true from rfl) ?_; conv => whnf) | (refine ⟨rfl, Ints.idx (by assumption) (by omega) (by omega) (fun p hp => ?_)⟩; conv => whnf) | (refine ⟨rfl, Rows.idx (by assumption) (by omega) (by omega) (fun p y hp hy => ?_)⟩; conv => whnf) | (refine HArith.fits (by omega) (by omega) ?_; conv => whnf) | (refine Or.inl (And.intro (show Region.lexB _ _ = true by kernel_rfl) ?_); conv => whnf)))
    refine HLit.empty ?_
    (conv => whnf)
    exact ⟨_, rfl, bad hp⟩
  have hn : 0 ≤ n2 ∧ n2 ≤ 60 := by simpa [in60] using hin
  (repeat (first | (refine ⟨rfl, Ints.len (by assumption) ?_⟩; conv => whnf) | (refine ⟨rfl, Rows.len (by assumption) ?_⟩; conv => whnf) | (refine ⟨rfl, HLen.sl ?_⟩; conv => whnf) | (refine ⟨rfl, At.load (by assumption) ?_⟩; conv => whnf) | (refine HIf.yes ?_; conv => whnf) | (refine HIf.no ?_; conv => whnf) | (refine HIf.isT (by assumption) ?_; conv => whnf) | (refine HIf.isF (by assumption) ?_; conv => whnf) | (refine HIf.decT (by assumption) ?_; conv => whnf) | (refine HIf.decF (by assumption) ?_; conv => whnf) | (refine HIf.beqT (by assumption) ?_; conv => whnf) | (refine HIf.beqF (by assumption) ?_; conv => whnf) | (refine HIf.bneT (by assumption) ?_; conv => whnf) | (refine HIf.bneF (by assumption) ?_; conv => whnf) | (refine ⟨rfl, Ints.idxN (by assumption) (by omega) (fun p hp => ?_)⟩; conv => whnf) | (refine ⟨rfl, Rows.idxN (by assumption) (by omega) (fun p y hp hy => ?_)⟩; conv => whnf) | (refine And.intro (show Kd.isBool _ = true from rfl) ?_; conv => whnf) | (refine ⟨rfl, Ints.idx (by assumption) (by omega) (by omega) (fun p hp => ?_)⟩; conv => whnf) | (refine ⟨rfl, Rows.idx (by assumption) (by omega) (by omega) (fun p y hp hy => ?_)⟩; conv => whnf) | (refine HArith.fits (by omega) (by omega) ?_; conv => whnf) | (refine Or.inl (And.intro (show Region.lexB _ _ = true by kernel_rfl) ?_); conv => whnf)))
  refine HLit.empty ?_
  (conv => whnf)
  have E0 := E1.trans (Ext.push h2 [Row.own []])
  refine HLoop.intro [11, 10] [29, 30, 31, 35, 36, 37, 38, 34, 39, 40, 12, 13, 41, 42, 43, 6, 7, 44, 10, 32, 33, 11] (by kernel_rfl) (by kernel_rfl) (fun vs h' => ∃ (i : Nat) (y : H0) (l : List Int), vs = [I i, .s y] ∧ (i : Int) ≤ n2 ∧ Ext h2 h' ∧ Own h2.length h'.length h' y l ∧ powTo a0 a1 i = some l) (fun vs _ => n2.toNat - natAt vs 0) ⟨0, _, [], rfl, by omega, Ext.push _ _, Own.none h2, rfl⟩ ?_
  rintro vs h' ⟨i, y, l, rfl, hi, E, O, hpw⟩
  have hll := powTo_len hpw
  have EE := E1.trans E
  have hEl := E1.1
  have mn := mul_norm hic l
  (conv => whnf)
  refine HIf.dec (fun hlt => ?_) (fun hge => ?_)
  · (conv => whnf)
    refine (spec_MultiplyElements _ _ a0 _ l _ _ (hx0.ext EE) O.ints (f1.ints.ext E) s0 (by omega) (by omega)).mono ?_
    rintro r h3 ⟨y2, rfl, f2⟩
    rw [mn.2] at f2
    have hz := Fresh.inner E f2
    (conv => whnf)
    rw [mn.1]
    cases hm : mulOk a0 l a1
    · have hp := powOk_none (powTo_none (powTo_fail hpw hm) n2.toNat (by omega))
      rw [hp, pow_off hp]
      have Ez := E1.trans hz.1
      (repeat (first | (refine ⟨rfl, Ints.len (by assumption) ?_⟩; conv => whnf) | (refine ⟨rfl, Rows.len (by assumption) ?_⟩; conv => whnf) | (refine ⟨rfl, HLen.sl ?_⟩; conv => whnf) | (refine ⟨rfl, At.load (by assumption) ?_⟩; conv => whnf) | (refine HIf.yes ?_; conv => whnf) | (refine HIf.no ?_; conv => whnf) | (refine HIf.isT (by assumption) ?_; conv => whnf) | (refine HIf.isF (by assumption) ?_; conv => whnf) | (refine HIf.decT (by assumption) ?_; conv => whnf) | (refine HIf.decF (by assumption) ?_; conv => whnf) | (refine HIf.beqT (by assumption) ?_; conv => whnf) | (refine HIf.beqF (by assumption) ?_; conv => whnf) | (refine HIf.bneT (by assumption) ?_; conv => whnf) | (refine HIf.bneF (by assumption) ?_; conv => whnf) | (refine ⟨rfl, Ints.idxN (by assumption) (by omega) (fun p hp => ?_)⟩; conv => whnf) | (refine ⟨rfl, Rows.idxN (by assumption) (by omega) (fun p y hp hy => ?_)⟩; conv => whnf) | (refine And.intro (show Kd.isBool _ = true from rfl) ?_; conv => whnf) | (refine ⟨rfl, Ints.idx (by assumption) (by omega) (by omega) (fun p hp => ?_)⟩; conv => whnf) | (refine ⟨rfl, Rows.idx (by assumption) (by omega) (by omega) (fun p y hp hy => ?_)⟩; conv => whnf) | (refine HArith.fits (by omega) (by omega) ?_; conv => whnf) | (refine Or.inl (And.intro (show Region.lexB _ _ = true by kernel_rfl) ?_); conv => whnf)))
      refine HLit.empty ?_
      (conv => whnf)
      exact ⟨_, rfl, Fresh.of (Ez.trans (Ext.push _ _)) ((OwnR.push _ []).own Ez.1)⟩
    · (repeat (first | (refine ⟨rfl, Ints.len (by assumption) ?_⟩; conv => whnf) | (refine ⟨rfl, Rows.len (by assumption) ?_⟩; conv => whnf) | (refine ⟨rfl, HLen.sl ?_⟩; conv => whnf) | (refine ⟨rfl, At.load (by assumption) ?_⟩; conv => whnf) | (refine HIf.yes ?_; conv => whnf) | (refine HIf.no ?_; conv => whnf) | (refine HIf.isT (by assumption) ?_; conv => whnf) | (refine HIf.isF (by assumption) ?_; conv => whnf) | (refine HIf.decT (by assumption) ?_; conv => whnf) | (refine HIf.decF (by assumption) ?_; conv => whnf) | (refine HIf.beqT (by assumption) ?_; conv => whnf) | (refine HIf.beqF (by assumption) ?_; conv => whnf) | (refine HIf.bneT (by assumption) ?_; conv => whnf) | (refine HIf.bneF (by assumption) ?_; conv => whnf) | (refine ⟨rfl, Ints.idxN (by assumption) (by omega) (fun p hp => ?_)⟩; conv => whnf) | (refine ⟨rfl, Rows.idxN (by assumption) (by omega) (fun p y hp hy => ?_)⟩; conv => whnf) | (refine And.intro (show Kd.isBool _ = true from rfl) ?_; conv => whnf) | (refine ⟨rfl, Ints.idx (by assumption) (by omega) (by omega) (fun p hp => ?_)⟩; conv => whnf) | (refine ⟨rfl, Rows.idx (by assumption) (by omega) (by omega) (fun p y hp hy => ?_)⟩; conv => whnf) | (refine HArith.fits (by omega) (by omega) ?_; conv => whnf) | (refine Or.inl (And.intro (show Region.lexB _ _ = true by kernel_rfl) ?_); conv => whnf)))
      exact ⟨⟨i + 1, y2, _, rfl, by omega, hz.1, hz.2, powTo_next hpw hm⟩, by show n2.toNat - (i + 1) < n2.toNat - i; omega⟩
  · have e : n2.toNat = i := by omega
    rw [← e] at hpw
    obtain ⟨g1, g2⟩ := pow_on hic hin hpw
    rw [g1, g2]
    (conv => whnf)
    obtain ⟨q, hq1, hq2, Oq⟩ := O.row
    exact ⟨_, rfl, Fresh.ofRow EE Oq (by omega)⟩

end Go.Proofs.Ytlddnnkjpcncoaa.Hx
