/-
  The list of all reduced words in the order of letters, and what a search by braid moves finds. Plain theory.
  Contracts of powers, exchange places, replayed and repeated deletions, of the program and of the reference.
  Sets of points as bits, matrices of some points, determinants: plain functions, and the contracts of their makers.
  Contracts of sets of points, matrices of some points and determinants, of the program and of the reference.
-/
import Derived.Test.YtjgnnjegaedinaaZ14
namespace Go.Proofs.Ytjgnnjegaedinaa.Hx
open Go.RowKit

/-! ### Words by length, then by letters -/

def cmpW (a b : List Int) : Int := if a.length < b.length then -1 else if b.length < a.length then 1 else lexC a b

theorem cmpW_neg (a b : List Int) : cmpW b a = - cmpW a b := by
  have := lexC_neg a b
  unfold cmpW
  by_cases h1 : a.length < b.length
  · rw [if_neg (by omega), if_pos h1, if_pos h1]; rfl
  · by_cases h2 : b.length < a.length
    · rw [if_pos h2, if_neg h1, if_pos h2]
    · rw [if_neg h2, if_neg h1, if_neg h1, if_neg h2]; omega
theorem cmpW_lt {a b : List Int} : cmpW a b < 0 ↔ a.length < b.length ∨ a.length = b.length ∧ lexC a b < 0 := by
  unfold cmpW
  by_cases h1 : a.length < b.length
  · rw [if_pos h1]; simp [h1]
  · by_cases h2 : b.length < a.length
    · rw [if_neg h1, if_pos h2]
      constructor
      · intro h; omega
      · rintro (h | h) <;> omega
    · rw [if_neg h1, if_neg h2]
      constructor
      · intro h; exact Or.inr ⟨by omega, h⟩
      · rintro (h | h)
        · omega
        · exact h.2
theorem cmpW_eq {a b : List Int} (h : cmpW a b = 0) : a = b := by
  unfold cmpW at h
  by_cases h1 : a.length < b.length
  · rw [if_pos h1] at h; omega
  · by_cases h2 : b.length < a.length
    · rw [if_neg h1, if_pos h2] at h; omega
    · rw [if_neg h1, if_neg h2] at h
      exact lexC_eq a b h
theorem cmpW_self (a : List Int) : cmpW a a = 0 := by
  have := cmpW_neg a a
  omega
theorem cmpW_trans {a b c : List Int} (h : cmpW a b < 0) (k : cmpW b c < 0) : cmpW a c < 0 := by
  rw [cmpW_lt] at *
  rcases h with h | ⟨h, h2⟩ <;> rcases k with k | ⟨k, k2⟩
  · exact Or.inl (by omega)
  · exact Or.inl (by omega)
  · exact Or.inl (by omega)
  · exact Or.inr ⟨by omega, lexC_trans a b c h2 k2⟩

def SortedW (L : List (List Int)) : Prop := L.Pairwise (fun a b => cmpW a b < 0)

theorem SortedW.nodup {L : List (List Int)} (h : SortedW L) : L.Nodup := List.Pairwise.imp (fun {a b} hab e => by
  subst e
  rw [cmpW_self] at hab
  omega) h

theorem sortedW_one {A B : List (List Int)} (hA : SortedW A) (hB : SortedW B) (h : ∀ w, w ∈ A ↔ w ∈ B) : A = B :=
  List.Perm.eq_of_pairwise (le := fun a b => cmpW a b < 0) (fun a b _ _ h k => by
    have := cmpW_neg a b
    omega) hA hB ((List.perm_ext_iff_of_nodup hA.nodup hB.nodup).2 h)

/-- One word put in its place, unless it is there. -/
def putW (r : List Int) : List (List Int) → List (List Int)
  | [] => [r]
  | a :: t => if cmpW r a = 0 then a :: t else if cmpW r a < 0 then r :: a :: t else a :: putW r t

theorem mem_putW (r w : List Int) : ∀ L, w ∈ putW r L ↔ w = r ∨ w ∈ L
  | [] => by simp [putW]
  | a :: t => by
    have ih := mem_putW r w t
    simp only [putW]
    split
    · rename_i h
      have := cmpW_eq h
      subst this
      simp
    · split
      · simp
      · simp only [List.mem_cons, ih]
        constructor
        · rintro (h | h | h)
          · exact Or.inr (Or.inl h)
          · exact Or.inl h
          · exact Or.inr (Or.inr h)
        · rintro (h | h | h)
          · exact Or.inr (Or.inl h)
          · exact Or.inl h
          · exact Or.inr (Or.inr h)

theorem putW_sorted (r : List Int) : ∀ {L : List (List Int)}, SortedW L → SortedW (putW r L)
  | [], _ => by simp [putW, SortedW]
  | a :: t, hs => by
    have hs' := List.pairwise_cons.1 hs
    simp only [putW]
    split
    · exact hs
    · rename_i h0
      split
      · rename_i h
        refine List.pairwise_cons.2 ⟨fun b hb => ?_, hs⟩
        rcases List.mem_cons.1 hb with rfl | hb
        · exact h
        · exact cmpW_trans h (hs'.1 b hb)
      · rename_i h
        refine List.pairwise_cons.2 ⟨fun b hb => ?_, putW_sorted r hs'.2⟩
        rcases (mem_putW r b t).1 hb with rfl | hb
        · have := cmpW_neg a b
          omega
        · exact hs'.1 b hb

theorem putW_le (r : List Int) : ∀ L, L.length ≤ (putW r L).length ∧ (putW r L).length ≤ L.length + 1
  | [] => by simp [putW]
  | a :: t => by
    have ih := putW_le r t
    simp only [putW]
    split
    · simp
    · split
      · simp
      · simp only [List.length_cons]; omega

def insW (L : List (List Int)) : List (List Int) := L.foldl (fun o r => putW r o) []

theorem insW_snoc (L : List (List Int)) (k : Nat) (hk : k < L.length) : insW (L.take (k + 1)) = putW (L.getD k []) (insW (L.take k)) := by
  rw [List.take_succ_eq_append_getElem hk]
  unfold insW
  rw [List.foldl_append]
  simp [List.getD, hk]

theorem insW_facts (L : List (List Int)) : SortedW (insW L) ∧ (∀ w, w ∈ insW L ↔ w ∈ L) ∧ (insW L).length ≤ L.length := by
  have main : ∀ (L o : List (List Int)), SortedW o → SortedW (L.foldl (fun o r => putW r o) o) ∧ (∀ w, w ∈ L.foldl (fun o r => putW r o) o ↔ w ∈ o ∨ w ∈ L) ∧ (L.foldl (fun o r => putW r o) o).length ≤ o.length + L.length := by
    intro L
    induction L with
    | nil => intro o h; exact ⟨h, by simp, by simp⟩
    | cons r t ih =>
      intro o h
      obtain ⟨h1, h2, h3⟩ := ih (putW r o) (putW_sorted r h)
      have := putW_le r o
      refine ⟨h1, fun w => ?_, by simp only [List.foldl_cons, List.length_cons]; omega⟩
      rw [List.foldl_cons, h2, mem_putW]
      simp only [List.mem_cons]
      constructor
      · rintro ((h | h) | h)
        · exact Or.inr (Or.inl h)
        · exact Or.inl h
        · exact Or.inr (Or.inr h)
      · rintro (h | h | h)
        · exact Or.inl (Or.inr h)
        · exact Or.inl (Or.inl h)
        · exact Or.inr h
  obtain ⟨h1, h2, h3⟩ := main L [] List.Pairwise.nil
  refine ⟨h1, fun w => ?_, ?_⟩
  · rw [insW, h2]; simp
  · rw [insW]; simpa using h3

/-! ### All reduced words -/

def spellW (c : List (List Int)) : Nat → List Int → List (List Int)
  | 0, _ => [[]]
  | n + 1, v => (descs v v.length).flatMap fun i => (spellW c n (reflW c i.toNat v)).map (i :: ·)

theorem mem_descs {v : List Int} {k : Nat} {i : Int} : i ∈ descs v k ↔ 0 ≤ i ∧ i < k ∧ v.getD i.toNat 0 < 0 := by
  unfold descs
  simp only [List.mem_map, List.mem_filter, List.mem_range, decide_eq_true_eq]
  constructor
  · rintro ⟨j, ⟨h1, h2⟩, rfl⟩
    exact ⟨by omega, by omega, by simpa using h2⟩
  · rintro ⟨h1, h2, h3⟩
    exact ⟨i.toNat, ⟨by omega, h3⟩, by omega⟩

theorem descs_sorted (v : List Int) (k : Nat) : (descs v k).Pairwise (· < ·) := by
  unfold descs
  rw [List.pairwise_map]
  refine List.Pairwise.imp ?_ (List.Pairwise.filter _ List.pairwise_lt_range)
  intro a b h
  omega

theorem spell_mem {c : List (List Int)} (hC : Cartan c) : ∀ (n : Nat) (v : List Int), PlayL c n v → n ≤ 29 → ∀ w, w ∈ spellW c n v ↔ Red c n v w
  | 0, v, P, _, w => by
    have h0 := nf_image hC 0 v 0 P (by omega) (by omega)
    rw [nf_zero] at h0
    constructor
    · intro h
      have e : w = [] := by simpa [spellW] using h
      subst e
      exact ⟨rfl, rfl, h0⟩
    · intro h
      have e : w = [] := List.eq_nil_of_length_eq_zero h.1
      rw [e]
      simp [spellW]
  | n + 1, v, P, hn, w => by
    have hvl := P.1
    rw [spellW]
    simp only [List.mem_flatMap, List.mem_map]
    constructor
    · rintro ⟨i, hi, u, hu, rfl⟩
      obtain ⟨h1, h2, h3⟩ := mem_descs.1 hi
      have hp : isPoint c i = true := by simp [isPoint, inRange]; omega
      obtain ⟨m, e, Q⟩ := P.down hC (by omega) (i := i.toNat) (by omega) h3
      have e2 : m = n := by omega
      subst e2
      exact Red.cons hC P (by omega) hp h3 ((spell_mem hC m _ Q (by omega) u).1 hu)
    · intro R
      cases w with
      | nil => have := R.1; simp at this
      | cons i u =>
        obtain ⟨hp, h3, Q, R'⟩ := R.tail hC P hn
        have p1 := point_of hp
        exact ⟨i, mem_descs.2 ⟨by omega, by omega, h3⟩, u, (spell_mem hC n _ Q (by omega) u).2 R', rfl⟩

theorem lexC_cons (i : Int) (a b : List Int) : lexC (i :: a) (i :: b) = lexC a b := by simp [lexC]

theorem spell_sorted {c : List (List Int)} (hC : Cartan c) : ∀ (n : Nat) (v : List Int), PlayL c n v → n ≤ 29 → SortedW (spellW c n v)
  | 0, v, P, _ => by simp [spellW, SortedW]
  | n + 1, v, P, hn => by
    have hvl := P.1
    have down : ∀ i ∈ descs v v.length, PlayL c n (reflW c i.toNat v) := fun i hi => by
      obtain ⟨h1, h2, h3⟩ := mem_descs.1 hi
      obtain ⟨m, e, Q⟩ := P.down hC (by omega) (i := i.toNat) (by omega) h3
      have e2 : m = n := by omega
      subst e2
      exact Q
    have len : ∀ i ∈ descs v v.length, ∀ u ∈ spellW c n (reflW c i.toNat v), u.length = n := fun i hi u hu => ((spell_mem hC n _ (down i hi) (by omega) u).1 hu).1
    unfold SortedW
    rw [spellW, List.pairwise_flatMap]
    refine ⟨fun i hi => ?_, ?_⟩
    · rw [List.pairwise_map]
      refine List.Pairwise.imp_of_mem ?_ (spell_sorted hC n _ (down i hi) (by omega))
      intro a b ha hb h
      rw [cmpW_lt] at h ⊢
      rcases h with h | h
      · exact Or.inl (by simpa using h)
      · exact Or.inr ⟨by simpa using h.1, by rw [lexC_cons]; exact h.2⟩
    · refine List.Pairwise.imp_of_mem ?_ (descs_sorted v v.length)
      intro i j hi hj hij x hx y hy
      obtain ⟨a, ha, rfl⟩ := List.mem_map.1 hx
      obtain ⟨b, hb, rfl⟩ := List.mem_map.1 hy
      rw [cmpW_lt]
      refine Or.inr ⟨by simp [len i hi a ha, len j hj b hb], ?_⟩
      simp [lexC, hij]

theorem nodup_le : ∀ {A B : List (List Int)}, A.Nodup → (∀ x ∈ A, x ∈ B) → A.length ≤ B.length
  | [], _, _, _ => by simp
  | a :: A, B, hn, h => by
    have hn' := List.nodup_cons.1 hn
    have ha := h a (by simp)
    have ih := nodup_le (A := A) (B := B.erase a) hn'.2 fun x hx => (List.mem_erase_of_ne (fun e => hn'.1 (by rw [← e]; exact hx))).2 (h x (by simp [hx]))
    have hl := List.length_erase_of_mem ha
    have hp : 0 < B.length := List.length_pos_of_mem ha
    simp only [List.length_cons]
    omega

/-- What a search by braid moves has found so far. -/
structure Found (c : List (List Int)) (n : Nat) (v x : List Int) (Q : List (List Int)) : Prop where
  red : ∀ q ∈ Q, Red c n v q
  nodup : Q.Nodup
  head : x ∈ Q

theorem Found.full {c : List (List Int)} (hC : Cartan c) {n : Nat} {v x : List Int} {Q : List (List Int)} (P : PlayL c n v) (hn : n ≤ 15) (F : Found c n v x Q) (h : ∀ q ∈ Q, ∀ k : Nat, brOk c q k = true → braid c q k ∈ Q) : insW Q = spellW c n v := by
  obtain ⟨h1, h2, _⟩ := insW_facts Q
  refine sortedW_one h1 (spell_sorted hC n v P (by omega)) fun w => ?_
  rw [h2, spell_mem hC n v P (by omega)]
  refine ⟨F.red w, fun R => conn_closed (fun q hq b hb => ?_) F.head (conn_all hC n v P (by omega) x w (F.red x F.head) R)⟩
  have R := F.red q hq
  have hw : isWord c q = true := by
    simp only [isWord, Bool.and_eq_true, decide_eq_true_eq]
    exact ⟨⟨(isCartan_iff c).2 hC, by rw [R.1]; exact hn⟩, R.2.1⟩
  obtain ⟨k, _, hk, e⟩ := braid_of_br hw hb
  rw [← e]
  exact h q hq k hk

theorem Found.step {c : List (List Int)} {n : Nat} {v x : List Int} {Q : List (List Int)} (F : Found c n v x Q) (hn : n ≤ 31) {q : List Int} (hq : q ∈ Q) {k : Nat} (hk : brOk c q k = true) (hy : braid c q k ∉ Q) : Found c n v x (Q ++ [braid c q k]) := by
  refine ⟨fun w hw => ?_, ?_, by simp [F.head]⟩
  · rcases List.mem_append.1 hw with hw | hw
    · exact F.red w hw
    · have e : w = braid c q k := by simpa using hw
      rw [e]
      exact (br_of_braid hk).red hn (F.red q hq)
  · rw [List.nodup_append]
    refine ⟨F.nodup, by simp, fun a ha b hb => ?_⟩
    have e : b = braid c q k := by simpa using hb
    rw [e]
    exact fun e => hy (by rw [← e]; exact ha)

theorem Found.le {c : List (List Int)} (hC : Cartan c) {n : Nat} {v x : List Int} {Q : List (List Int)} (P : PlayL c n v) (hn : n ≤ 29) (F : Found c n v x Q) : Q.length ≤ (spellW c n v).length :=
  nodup_le F.nodup fun q hq => (spell_mem hC n v P hn q).2 (F.red q hq)

/-! ### The answer -/

def redAll (c : List (List Int)) (w : List Int) : List (List Int) := spellW c (normF c w).length (imageOf c w)
def redOk (c : List (List Int)) (w : List Int) : Bool := isWord c w && decide ((redAll c w).length ≤ 120)
def reducedWords (c : List (List Int)) (w : List Int) : List (List Int) := if redOk c w then redAll c w else []

theorem normF_red {c : List (List Int)} {w : List Int} (h : isWord c w = true) : PlayL c (normF c w).length (imageOf c w) ∧ (normF c w).length ≤ 15 ∧ Red c (normF c w).length (imageOf c w) (normF c w) := by
  obtain ⟨hC, hl, hw⟩ := word_cartan h
  obtain ⟨n, hn, P⟩ := play_image hC hw (by omega)
  have e : (normF c w).length = n := nf_len hC n _ 31 P (by omega) (by omega)
  refine ⟨by rw [e]; exact P, by omega, rfl, normF_letters hC hw (by omega), normF_image hC hw (by omega)⟩

theorem redOk_off {c : List (List Int)} {w : List Int} (h : isWord c w = false) : redOk c w = false := by simp [redOk, h]
theorem redOk_over {c : List (List Int)} {w : List Int} (h : 120 < (redAll c w).length) : redOk c w = false := by
  have : decide ((redAll c w).length ≤ 120) = false := decide_eq_false (by omega)
  simp [redOk, this]
theorem redOk_on {c : List (List Int)} {w : List Int} (h : isWord c w = true) (h2 : (redAll c w).length ≤ 120) : redOk c w = true := by simp [redOk, h, h2]
theorem reducedWords_off {c : List (List Int)} {w : List Int} (h : redOk c w = false) : reducedWords c w = [] := by simp [reducedWords, h]
theorem reducedWords_on {c : List (List Int)} {w : List Int} (h : redOk c w = true) : reducedWords c w = redAll c w := by simp [reducedWords, h]

end Go.Proofs.Ytjgnnjegaedinaa.Hx

namespace Go.Proofs.Ytjgnnjegaedinaa.Hx
open Go.RowKit
variable {dm : Bool}

def powTo (c : List (List Int)) (w : List Int) : Nat → Option (List Int)
  | 0 => some []
  | k + 1 => match powTo c w k with
    | none => none
    | some y => if mulOk c y w then some (mul c y w) else none
def in60 (k : Int) : Bool := decide (0 ≤ k) && decide (k ≤ 60)
theorem in60_eq (k : Int) : in60 k = (decide (0 ≤ k) && decide (k ≤ 60)) := rfl
def powOk (c : List (List Int)) (w : List Int) (k : Int) : Bool := isWord c w && in60 k && (powTo c w k.toNat).isSome
def pow (c : List (List Int)) (w : List Int) (k : Int) : List Int := if powOk c w k then (powTo c w k.toNat).getD [] else []

theorem powTo_fail {c : List (List Int)} {w l : List Int} {i : Nat} (h : powTo c w i = some l) (hm : mulOk c l w = false) : powTo c w (i + 1) = none := by
  rw [powTo, h]
  simp [hm]
theorem powTo_next {c : List (List Int)} {w l : List Int} {i : Nat} (h : powTo c w i = some l) (hm : mulOk c l w = true) : powTo c w (i + 1) = some (mul c l w) := by
  rw [powTo, h]
  simp [hm]
theorem powTo_none {c : List (List Int)} {w : List Int} {i : Nat} (h : powTo c w i = none) : ∀ k, i ≤ k → powTo c w k = none := by
  intro k hk
  induction k with
  | zero =>
    have : i = 0 := by omega
    subst this
    exact h
  | succ k ih =>
    by_cases e : i = k + 1
    · subst e; exact h
    · rw [powTo, ih (by omega)]
theorem powTo_len {c : List (List Int)} {w l : List Int} : ∀ {i : Nat}, powTo c w i = some l → l.length ≤ 31
  | 0, h => by
    rw [powTo] at h
    injection h with h
    subst h
    simp
  | i + 1, h => by
    rw [powTo] at h
    split at h
    · cases h
    · split at h
      · injection h with h
        subst h
        exact mul_le _ _ _
      · cases h
theorem mul_norm {c : List (List Int)} {w : List Int} (h : isWord c w = true) (y : List Int) : mulOk c y (normF c w) = mulOk c y w ∧ mul c y (normF c w) = mul c y w := by
  obtain ⟨hC, hl, hw⟩ := word_cartan h
  have h1 := normF_app (c := c) (a := y) hC hw (by omega)
  have h2 := (normF_word h).2
  have e : mulOk c y (normF c w) = mulOk c y w := by simp [mulOk, h1, h, h2]
  refine ⟨e, ?_⟩
  unfold mul
  rw [e, h1]
theorem pow_off {c : List (List Int)} {w : List Int} {k : Int} (h : powOk c w k = false) : pow c w k = [] := by simp [pow, h]
theorem pow_on {c : List (List Int)} {w l : List Int} {k : Int} (h : isWord c w = true) (hk : in60 k = true) (hp : powTo c w k.toNat = some l) : powOk c w k = true ∧ pow c w k = l := by
  have e : powOk c w k = true := by simp [powOk, h, hk, hp]
  exact ⟨e, by simp [pow, e, hp]⟩
theorem powOk_none {c : List (List Int)} {w : List Int} {k : Int} (hp : powTo c w k.toNat = none) : powOk c w k = false := by simp [powOk, hp]
theorem powOk_off {c : List (List Int)} {w : List Int} {k : Int} (h : isWord c w = false ∨ in60 k = false) : powOk c w k = false := by
  rcases h with h | h <;> simp [powOk, h]
theorem pow_le (c : List (List Int)) (w : List Int) (k : Int) : (pow c w k).length ≤ 31 := by
  unfold pow
  split
  · cases h : powTo c w k.toNat with
    | none => simp
    | some l => exact powTo_len h
  · simp

theorem descs_range {v : List Int} {k : Nat} {n : Int} (h : n ∈ descs v k) : 0 ≤ n ∧ n < k := by
  obtain ⟨j, hj, rfl⟩ := List.mem_map.1 h
  have := List.mem_range.1 (List.mem_filter.1 hj).1
  omega
theorem descents_range {c : List (List Int)} {w : List Int} {n : Int} (h : n ∈ leftDescents c w) : 0 ≤ n ∧ n < c.length := by
  unfold leftDescents at h
  split at h
  · exact descs_range h
  · simp at h

def exAt (c : List (List Int)) (w : List Int) (n : Int) (k : Nat) : Bool := decide (imageOf c (del w k) = imageOf c (n :: w))
def exIdx (c : List (List Int)) (w : List Int) (n : Int) : Int :=
  if isReduced c w && decide (n ∈ leftDescents c w) then
    match (List.range w.length).find? (exAt c w n) with
    | some k => k
    | none => -1
  else -1
theorem exIdx_off {c : List (List Int)} {w : List Int} {n : Int} (h : isReduced c w = false ∨ n ∉ leftDescents c w) : exIdx c w n = -1 := by
  rcases h with h | h <;> simp [exIdx, h]
theorem exIdx_at {c : List (List Int)} {w : List Int} {n : Int} {i : Nat} (h : isReduced c w = true) (h2 : n ∈ leftDescents c w) (hi : i < w.length) (he : exAt c w n i = true) (hb : ∀ k, k < i → exAt c w n k = false) : exIdx c w n = i := by
  have : (List.range w.length).find? (exAt c w n) = some i := by
    rw [List.find?_range_eq_some]
    exact ⟨he, by simpa using hi, fun k hk => by simp [hb k hk]⟩
  simp [exIdx, h, h2, this]
theorem exIdx_none {c : List (List Int)} {w : List Int} {n : Int} (hb : ∀ k, k < w.length → exAt c w n k = false) : exIdx c w n = -1 := by
  have : (List.range w.length).find? (exAt c w n) = none := by
    rw [List.find?_range_eq_none]
    intro k hk
    simp [hb k hk]
  unfold exIdx
  rw [this]
  split <;> rfl
theorem lettersOk_cons {c : List (List Int)} {w : List Int} {n : Int} (h : lettersOk c w = true) (h1 : 0 ≤ n ∧ n < c.length) : lettersOk c (n :: w) = true := by
  have hp : isPoint c n = true := by simp [isPoint, inRange]; omega
  simp only [lettersOk, List.all_cons, Bool.and_eq_true] at h ⊢
  exact ⟨hp, h⟩
theorem isReduced_word {c : List (List Int)} {w : List Int} (h : isReduced c w = true) : isWord c w = true := by
  simp only [isReduced, Bool.and_eq_true] at h
  exact h.1

/-- Letters left out at told places, two by two. -/
def replay : List Int → List Int → Option (List Int)
  | x, i :: j :: l => if i < 0 ∨ j ≤ i ∨ (x.length : Int) ≤ j then none else replay (del (del x j) i) l
  | x, _ => some x
def repW (w l : List Int) : List Int := (replay w l).getD w
def repOk (w l : List Int) : Bool := (replay w l).isSome && ((l.length : Int).tmod 2 == 0)
theorem replay_end {x l : List Int} (h : l.length < 2) : replay x l = some x := by
  match l, h with
  | [], _ => rfl
  | [_], _ => rfl
theorem replay_step {x l : List Int} {k : Nat} (h : k + 1 < l.length) : replay x (l.drop k) = if l.getD k 0 < 0 ∨ l.getD (k + 1) 0 ≤ l.getD k 0 ∨ (x.length : Int) ≤ l.getD (k + 1) 0 then none else replay (del (del x (l.getD (k + 1) 0)) (l.getD k 0)) (l.drop (k + 2)) := by
  rw [List.drop_eq_getElem_cons (by omega), List.drop_eq_getElem_cons (by omega), replay]
  have e1 : l.getD k 0 = l[k] := by simp [List.getD, (by omega : k < l.length)]
  have e2 : l.getD (k + 1) 0 = l[k + 1] := by simp [List.getD, h]
  rw [e1, e2]
theorem repW_le (w : List Int) : ∀ (x l : List Int), x.length ≤ w.length → ((replay x l).getD w).length ≤ w.length
  | x, i :: j :: l, h => by
    rw [replay]
    split
    · exact Nat.le_refl _
    · exact repW_le w _ l (Nat.le_trans (del_len _ _) (Nat.le_trans (del_len _ _) h))
  | x, [], h => h
  | x, [_], h => h

/-- Pairs of letters left out, as often as f. -/
def red (c : List (List Int)) : Nat → List Int → List Int → List Int × List Int
  | 0, x, o => (x, o)
  | f + 1, x, o => if (delPair c x).2.2 then red c f (del (del x (delPair c x).2.1) (delPair c x).1) (o ++ [(delPair c x).1, (delPair c x).2.1]) else (x, o)
theorem red_none (c : List (List Int)) (x o : List Int) : red c 0 x o = (x, o) := rfl
theorem red_stop {c : List (List Int)} {f : Nat} {x o : List Int} (h : (delPair c x).2.2 = false) : red c f x o = (x, o) := by
  cases f with
  | zero => rfl
  | succ f => simp [red, h]
theorem red_step {c : List (List Int)} {f : Nat} {x o : List Int} {i j : Int} (h : delPair c x = (i, j, true)) : red c (f + 1) x o = red c f (del (del x j) i) (o ++ [i, j]) := by simp [red, h]
theorem delPair_yes {c : List (List Int)} {x : List Int} (h : (delPair c x).2.2 = true) : isWord c x = true ∧ ∃ i j : Nat, i < j ∧ j < x.length ∧ delPair c x = ((i : Int), (j : Int), true) := by
  cases hw : isWord c x
  · rw [delPair_off hw] at h; cases h
  refine ⟨rfl, ?_⟩
  unfold delPair at h ⊢
  rw [hw] at h ⊢
  simp only [if_true] at h ⊢
  split at h
  · rename_i i hi
    split at h
    · rename_i j hj
      refine ⟨i, j, ?_, ?_, rfl⟩
      · have := List.find?_some hj
        simp only [Bool.and_eq_true, decide_eq_true_eq] at this
        exact this.1
      · exact List.mem_range.1 (List.mem_of_find?_eq_some hj)
    · cases h
  · cases h
theorem del2_length {x : List Int} {i j : Nat} (h1 : i < j) (h2 : j < x.length) : (del (del x (j : Int)) (i : Int)).length = x.length - 2 := by
  rw [del_at, del_at]
  simp
  omega
theorem red_le (c : List (List Int)) : ∀ (f : Nat) (x o : List Int), (red c f x o).1.length ≤ x.length ∧ (red c f x o).2.length ≤ o.length + 2 * f
  | 0, x, o => ⟨Nat.le_refl _, by simp [red]⟩
  | f + 1, x, o => by
    rw [red]
    split
    · have := red_le c f (del (del x (delPair c x).2.1) (delPair c x).1) (o ++ [(delPair c x).1, (delPair c x).2.1])
      have h1 := del_len (del x (delPair c x).2.1) (delPair c x).1
      have h2 := del_len x (delPair c x).2.1
      simp only [List.length_append, List.length_cons, List.length_nil] at this
      omega
    · exact ⟨Nat.le_refl _, Nat.le_add_right _ _⟩


end Go.Proofs.Ytjgnnjegaedinaa.Hx

namespace Go.Proofs.Ytjgnnjegaedinaa.Hx
open Go.RowKit
variable {dm : Bool}

/-- A call in a region that draws its order: whatever it says of rows of one's own that it makes. -/
theorem HCallF.soft {P : Program} {k : FuncId} {args : List HV} {h : Heap} {K : HV → Heap → Prop} {Q : HV → Heap → Prop} (hc : HCalls dm P k args (freeze h) (fun r h' => Ext (freeze h) h' ∧ Q r h'))
    (hK : ∀ r h' h'', Q r h' → Ext (freeze h) h' → Ext h h'' → h''.length = h'.length → (∀ (q : Nat) (cs : List H0), h.length ≤ q → h'[q]? = some (Row.own cs) → h''[q]? = some (Row.own cs)) → K r h'') : HCallF dm P k args h K := by
  refine ⟨⟨hc.enters, fun B0 φ w vargs R a => (hc.out B0 φ w vargs R a).mono ?_⟩⟩
  rintro e w' ⟨v, x, h', φ', rfl, ⟨E, hq⟩, g2, g3, g4, g5⟩
  have hfl := freeze_length h
  have hEl := E.1
  have hget : ∀ (q : Nat) (x : Row), (freeze h ++ (h'.drop h.length).map softRow)[q]? = some x → x ≠ .gone → h'[q]? = some x := fun q x hx hne => by
    by_cases hq : q < h.length
    · rw [List.getElem?_append_left (by omega)] at hx
      rw [E.2 q (by omega)]
      exact hx
    · rw [List.getElem?_append_right (by omega), List.getElem?_map, List.getElem?_drop] at hx
      have e : h.length + (q - (freeze h).length) = q := by omega
      rw [e] at hx
      cases hh : h'[q]? with
      | none => rw [hh] at hx; cases hx
      | some z =>
        rw [hh] at hx
        cases z <;> simp [softRow] at hx
        · exact absurd hx.symm hne
        · rw [hx]
        · exact absurd hx.symm hne
        · rw [hx]
  refine ⟨v, x, freeze h ++ (h'.drop h.length).map softRow, φ', rfl, ⟨(h'.drop h.length).map softRow, rfl, fun z hz => ?_, hK x h' _ hq E (Ext.push _ _) (by simp; omega) (fun q cs hql hcs => ?_)⟩, g2, ?_, g4, g5⟩
  · obtain ⟨z0, _, rfl⟩ := List.mem_map.1 hz
    cases z0 <;> rfl
  · rw [List.getElem?_append_right (by omega), List.getElem?_map, List.getElem?_drop]
    have e : h.length + (q - h.length) = q := by omega
    rw [e, hcs]
    rfl
  · exact g3.soft (by simp; omega) (fun q cs hq => hget q _ hq (by simp)) (fun q cs hq => hget q _ hq (by simp)) (fun q so ks hq => hget q _ hq (by simp))

theorem HCallF.mat {P : Program} {k : FuncId} {args : List HV} {h : Heap} {K : HV → Heap → Prop} {L : List (List Int)} (hc : HCalls dm P k args (freeze h) (fun r h' => ∃ y, r = .s y ∧ Ext (freeze h) h' ∧ OwnM (freeze h).length h'.length h' y L))
    (hK : ∀ h' y, Ext h h' → OwnM h.length h'.length h' y L → K (.s y) h') : HCallF dm P k args h K := by
  refine HCallF.soft (Q := fun r h' => ∃ y, r = .s y ∧ OwnM (freeze h).length h'.length h' y L) (hc.mono fun r h' ⟨y, e, E, O⟩ => ⟨E, y, e, O⟩) ?_
  rintro r h' h'' ⟨y, rfl, q, ρ, rfl, g1, g2, g3, m⟩ E E2 hl hk
  rw [freeze_length] at g1
  refine hK _ _ E2 ⟨q, ρ, rfl, g1, by omega, fun i hi => ?_, m.move ?_ (fun i hi => ?_)⟩
  · have := g3 i hi
    rw [freeze_length] at this
    omega
  · obtain ⟨cs, h1, _⟩ := m.outer
    rw [h1]
    exact hk q cs g1 h1
  · obtain ⟨t, h1⟩ := m.inner i hi
    have := g3 i hi
    rw [freeze_length] at this
    rw [h1]
    exact hk _ _ this.1 h1

theorem HCallF.val {P : Program} {k : FuncId} {args : List HV} {h : Heap} {K : HV → Heap → Prop} {v : HV} (hc : HCalls dm P k args (freeze h) (fun r h' => r = v ∧ Ext (freeze h) h'))
    (hK : ∀ h', Ext h h' → K v h') : HCallF dm P k args h K := by
  refine HCallF.soft (Q := fun r _ => r = v) (hc.mono fun r h' ⟨e, E⟩ => ⟨E, e⟩) ?_
  rintro r h' h'' rfl _ E _ _
  exact hK _ E

theorem Rows.tl {h : Heap} {r off len : Nat} {L : List (List Int)} (H : Rows h (.sl r off len) L) (hl : 1 ≤ len) : Rows h (.sl r (off + 1) (len - 1)) (L.drop 1) := by
  obtain ⟨xs, h1, h2, h3⟩ := H
  have part : ∀ y, Shows h (.s y) (xs.drop 1) → Rows h y (L.drop 1) := fun y hy => ⟨xs.drop 1, hy, by simp; omega, fun i z l a b => h3 (1 + i) z l (by rw [List.getElem?_drop] at a; exact a) (by rw [List.getElem?_drop] at b; exact b)⟩
  generalize hxs : xs = X at h1 part h2
  cases h1 with
  | ro _ _ _ cs hr hl2 =>
    refine part _ ?_
    have := Shows.ro (h := h) r (off + 1) (len - 1) cs hr (by omega)
    rw [List.drop_take, List.drop_drop]
    exact this
  | own _ _ _ cs hr hl2 =>
    refine part _ ?_
    have := Shows.own (h := h) r (off + 1) (len - 1) cs hr (by omega)
    rw [List.drop_take, List.drop_drop]
    exact this

/-- A slice of slices without its first entry. -/
theorem Rows.drop1 {h : Heap} {x : H0} {L : List (List Int)} (H : Rows h x L) (hL : 1 ≤ L.length) {K : HV → Prop} (hK : ∀ y, (∀ h2, Rows h2 x L → Rows h2 y (L.drop 1)) → K (.s y)) : HSlice h (.s x) (some (I ((1 : Nat) : Int))) none K := by
  have H0 := H
  obtain ⟨xs, h1, h2, h3⟩ := H
  generalize hxs : xs = X at h1 h2
  cases h1 with
  | nils b c => simp at h2; omega
  | ro r off len cs hr hl =>
    have e : len = L.length := by simp at h2; omega
    exact ⟨len, 1, len, rfl, Or.inr ⟨.i64, rfl⟩, Or.inl ⟨rfl, rfl⟩, by omega, Or.inl (Nat.le_refl _), hK _ fun h2 H2 => H2.tl (by omega)⟩
  | own r off len cs hr hl =>
    have e : len = L.length := by simp at h2; omega
    exact ⟨len, 1, len, rfl, Or.inr ⟨.i64, rfl⟩, Or.inl ⟨rfl, rfl⟩, by omega, Or.inl (Nat.le_refl _), hK _ fun h2 H2 => H2.tl (by omega)⟩

/-! Bits -/

def bit (m i : Nat) : Bool := m / 2 ^ i % 2 == 1
def setTo (m k : Nat) : List Int := ((List.range k).filter (bit m)).map fun (i : Nat) => (i : Int)
def setB (m : Nat) : List Int := setTo m 4

theorem setTo_none (m : Nat) : setTo m 0 = [] := rfl
theorem setTo_len (m k : Nat) : (setTo m k).length ≤ k := by
  have := List.length_filter_le (bit m) (List.range k)
  simp [setTo] at this ⊢
  exact this
theorem setTo_in {m k : Nat} (h : bit m k = true) : setTo m (k + 1) = setTo m k ++ [(k : Int)] := by
  unfold setTo
  rw [List.range_succ, List.filter_append, List.map_append, List.filter_cons_of_pos h, List.filter_nil]
  rfl
theorem setTo_out {m k : Nat} (h : bit m k = false) : setTo m (k + 1) = setTo m k := by
  unfold setTo
  rw [List.range_succ, List.filter_append, List.map_append, List.filter_cons_of_neg (by rw [h]; decide), List.filter_nil, List.map_nil, List.append_nil]
theorem setTo_all : ∀ i, i < 5 → ∀ m, m < 2 ^ i → setTo m i = setB m := by decide
def fitB (n m : Nat) : Bool := !((setB m).length == 0) && ((List.range (setB m).length).all fun k => decide (0 ≤ (setB m).getD k 0) && decide ((setB m).getD k 0 < (n : Nat))) && ((List.range (setB m).length).all fun k => k == 0 || decide ((setB m).getD (k - 1) 0 < (setB m).getD k 0))
theorem fitB_all : ((List.range 5).all fun n => (List.range (2 ^ n)).all fun m => m == 0 || fitB n m) = true := by decide
theorem setB_fits (n : Nat) (hn : n < 5) (m : Nat) (hm : m < 2 ^ n) (h1 : 1 ≤ m) : (setB m).length ≠ 0 ∧ (∀ k, k < (setB m).length → 0 ≤ (setB m).getD k 0 ∧ (setB m).getD k 0 < (n : Nat)) ∧ (∀ k, k < (setB m).length → k = 0 ∨ (setB m).getD (k - 1) 0 < (setB m).getD k 0) := by
  have h := List.all_eq_true.1 (List.all_eq_true.1 fitB_all n (List.mem_range.2 hn)) m (List.mem_range.2 hm)
  have h0 : (m == 0) = false := by simp; omega
  rw [h0, Bool.false_or] at h
  simp only [fitB, Bool.and_eq_true, Bool.not_eq_true', beq_eq_false_iff_ne] at h
  refine ⟨h.1.1, fun k hk => ?_, fun k hk => ?_⟩
  · have := List.all_eq_true.1 h.1.2 k (List.mem_range.2 hk)
    simpa only [Bool.and_eq_true, decide_eq_true_eq] using this
  · have := List.all_eq_true.1 h.2 k (List.mem_range.2 hk)
    simpa only [Bool.or_eq_true, beq_iff_eq, decide_eq_true_eq] using this
theorem shr_fact : ∀ m, m < 16 → ∀ i, i < 5 → ((m : Nat) : Int).fdiv (2 ^ (min ((i : Nat) : Int).toNat IntKind.i64.bits)) = ((m / 2 ^ i : Nat) : Int) := by decide
theorem and_fact : ∀ v, v < 16 → IntKind.i64.wrap ((BitVec.ofInt IntKind.i64.bits ((v : Nat) : Int) &&& BitVec.ofInt IntKind.i64.bits 1).toNat : Int) = ((v % 2 : Nat) : Int) := by decide
theorem shl_fact : ∀ n, n < 5 → IntKind.i64.wrap (1 * 2 ^ (min ((n : Nat) : Int).toNat IntKind.i64.bits)) = ((2 ^ n : Nat) : Int) := by decide

theorem HShl.one {n : Nat} {K : HV → Prop} (hn : n < 5) (hK : K (I ((2 ^ n : Nat) : Int))) : HShl .i64 1 (n : Int) K := ⟨by omega, by rw [shl_fact n hn]; exact hK⟩
theorem HShr.bits {m i : Nat} {K : HV → Prop} (hm : m < 16) (hi : i < 5) (hK : K (I ((m / 2 ^ i : Nat) : Int))) : HShr .i64 (m : Int) (i : Int) K := ⟨by omega, by rw [shr_fact m hm i hi]; exact hK⟩
theorem HAnd.one {v : Nat} {K : HV → Prop} (hv : v < 16) (hK : K (I ((v % 2 : Nat) : Int))) : HAnd .i64 (v : Int) 1 K := ⟨by rw [and_fact v hv]; exact hK⟩
theorem bit_one {m i : Nat} : ((((m / 2 ^ i % 2 : Nat) : Int)) == 1) = bit m i := by
  unfold bit
  by_cases h : m / 2 ^ i % 2 = 1
  · simp [h]
  · have h2 : m / 2 ^ i % 2 = 0 := by omega
    simp [h2]
theorem pow_le16 {n : Nat} (h : n < 5) : 2 ^ n ≤ 16 := by
  have : 2 ^ n ≤ 2 ^ 4 := Nat.pow_le_pow_right (by omega) (by omega)
  simpa using this
theorem div_pos_iff {m i : Nat} : (((m / 2 ^ i : Nat) : Int) > 0) ↔ ¬ m < 2 ^ i := by
  have : 0 < 2 ^ i := Nat.pow_pos (by omega)
  constructor
  · intro h h2
    rw [Nat.div_eq_of_lt h2] at h
    omega
  · intro h
    have := Nat.div_pos (Nat.le_of_not_lt h) this
    omega

/-! Matrices of some points -/

def pickRow (c : List (List Int)) (o : List Int) (i : Nat) (k : Nat) : List Int := (List.range k).map fun b => ent c i (o.getD b 0).toNat
def pickTo (c : List (List Int)) (o : List Int) (k : Nat) : List (List Int) := (List.range k).map fun a => pickRow c o (o.getD a 0).toNat o.length
def pick (c : List (List Int)) (o : List Int) : List (List Int) := pickTo c o o.length
theorem pickRow_none (c : List (List Int)) (o : List Int) (i : Nat) : pickRow c o i 0 = [] := rfl
theorem pickTo_none (c : List (List Int)) (o : List Int) : pickTo c o 0 = [] := rfl
theorem pickRow_len (c : List (List Int)) (o : List Int) (i k : Nat) : (pickRow c o i k).length = k := by simp [pickRow]
theorem pickTo_len (c : List (List Int)) (o : List Int) (k : Nat) : (pickTo c o k).length = k := by simp [pickTo]
theorem pickRow_succ (c : List (List Int)) (o : List Int) (i k : Nat) : pickRow c o i (k + 1) = pickRow c o i k ++ [ent c i (o.getD k 0).toNat] := by
  unfold pickRow
  rw [List.range_succ, List.map_append]
  rfl
theorem pickTo_succ (c : List (List Int)) (o : List Int) (k : Nat) : pickTo c o (k + 1) = pickTo c o k ++ [pickRow c o (o.getD k 0).toNat o.length] := by
  unfold pickTo
  rw [List.range_succ, List.map_append]
  rfl

/-- A square matrix of small numbers. -/
structure Sq (n : Nat) (m : List (List Int)) : Prop where
  len : m.length = n
  row : ∀ i, i < n → (m.getD i []).length = n
  low : ∀ i j, i < n → j < n → -3 ≤ ent m i j ∧ ent m i j ≤ 3

theorem pick_sq {c : List (List Int)} {o : List Int} (hC : Cartan c) (ho : ∀ k, k < o.length → 0 ≤ o.getD k 0 ∧ o.getD k 0 < c.length) : Sq o.length (pick c o) := by
  have row : ∀ i, i < o.length → (pick c o).getD i [] = pickRow c o (o.getD i 0).toNat o.length := fun i hi => by simp [pick, pickTo, List.getD, hi]
  refine ⟨pickTo_len _ _ _, fun i hi => by rw [row i hi, pickRow_len], fun i j hi hj => ?_⟩
  have e : ent (pick c o) i j = ent c (o.getD i 0).toNat (o.getD j 0).toNat := by
    unfold ent
    rw [row i hi]
    simp [pickRow, List.getD, hj, ent]
  rw [e]
  have h1 := ho i hi
  have h2 := ho j hj
  by_cases hij : (o.getD i 0).toNat = (o.getD j 0).toNat
  · rw [← hij, (matOk hC).diag _ (by omega)]
    omega
  · have := (matOk hC).off (o.getD i 0).toNat (o.getD j 0).toNat (by omega) (by omega) hij
    omega

/-! Determinants -/

def sumTo (f : Nat → Int) : Nat → Int
  | 0 => 0
  | k + 1 => sumTo f k + f k
def minTo (m : List (List Int)) (j : Nat) (k : Nat) : List (List Int) := (List.range k).map fun t => del (m.getD (t + 1) []) (j : Nat)
def sg (j : Nat) : Int := if j % 2 = 0 then 1 else -1
def detZ : Nat → List (List Int) → Int
  | 0, _ => 1
  | n + 1, m => sumTo (fun j => sg j * (ent m 0 j * detZ n (minTo m j n))) (n + 1)
def term (n : Nat) (m : List (List Int)) (j : Nat) : Int := sg j * (ent m 0 j * detZ n (minTo m j n))
theorem detZ_succ (n : Nat) (m : List (List Int)) : detZ (n + 1) m = sumTo (term n m) (n + 1) := rfl
theorem sumTo_none (f : Nat → Int) : sumTo f 0 = 0 := rfl
theorem sumTo_succ (f : Nat → Int) (k : Nat) : sumTo f (k + 1) = sumTo f k + f k := rfl
theorem sg_zero : sg 0 = 1 := rfl
theorem sg_succ (j : Nat) : sg (j + 1) = - sg j := by
  unfold sg
  by_cases h : j % 2 = 0
  · rw [if_pos h, if_neg (by omega)]
  · rw [if_neg h, if_pos (by omega)]
    rfl
theorem sg_cases (j : Nat) : sg j = 1 ∨ sg j = -1 := by
  unfold sg
  split
  · exact Or.inl rfl
  · exact Or.inr rfl
theorem minTo_none (m : List (List Int)) (j : Nat) : minTo m j 0 = [] := rfl
theorem minTo_len (m : List (List Int)) (j k : Nat) : (minTo m j k).length = k := by simp [minTo]
theorem minTo_succ (m : List (List Int)) (j k : Nat) : minTo m j (k + 1) = minTo m j k ++ [del (m.getD (k + 1) []) (j : Nat)] := by
  unfold minTo
  rw [List.range_succ, List.map_append]
  rfl
theorem min_sq {n j : Nat} {m : List (List Int)} (S : Sq (n + 1) m) (hj : j < n + 1) : Sq n (minTo m j n) := by
  have row : ∀ i, i < n → (minTo m j n).getD i [] = del (m.getD (i + 1) []) (j : Nat) := fun i hi => by simp [minTo, List.getD, hi]
  have dl : ∀ i, i < n → (del (m.getD (i + 1) []) (j : Nat)).length = n := fun i hi => by
    have := S.row (i + 1) (by omega)
    rw [del_at]
    simp only [List.length_append, List.length_take, List.length_drop]
    omega
  refine ⟨minTo_len _ _ _, fun i hi => by rw [row i hi]; exact dl i hi, fun i k hi hk => ?_⟩
  have hr := S.row (i + 1) (by omega)
  have hr' : (m[i + 1]?.getD []).length = n + 1 := hr
  have e : ent (minTo m j n) i k = if k < j then ent m (i + 1) k else ent m (i + 1) (k + 1) := by
    unfold ent
    rw [row i hi, del_at]
    split
    · rename_i h
      simp only [List.getD]
      rw [List.getElem?_append_left (by simp; omega), List.getElem?_take_of_lt h]
    · rename_i h
      simp only [List.getD]
      rw [List.getElem?_append_right (by simp; omega), List.getElem?_drop]
      congr 2
      simp only [List.length_take]
      have : min j (m[i + 1]?.getD []).length = j := by
        have : (m[i + 1]?.getD []).length = n + 1 := hr
        omega
      rw [this]
      omega
  rw [e]
  split
  · exact S.low _ _ (by omega) (by omega)
  · exact S.low _ _ (by omega) (by omega)
theorem mul_small {x d : Int} {b : Nat} (h1 : -3 ≤ x ∧ x ≤ 3) (h2 : -(b : Int) ≤ d ∧ d ≤ b) : -(3 * b : Int) ≤ x * d ∧ x * d ≤ 3 * b := by
  have : x = -3 ∨ x = -2 ∨ x = -1 ∨ x = 0 ∨ x = 1 ∨ x = 2 ∨ x = 3 := by omega
  rcases this with h | h | h | h | h | h | h <;> subst h <;> omega
theorem sg_mul {s x : Int} (h : s = 1 ∨ s = -1) : s * x = x ∨ s * x = -x := by
  rcases h with h | h <;> subst h <;> omega
def detB : Nat → Nat
  | 0 => 1
  | n + 1 => (n + 1) * (3 * detB n)
theorem detB_mono : detB 0 = 1 ∧ detB 1 = 3 ∧ detB 2 = 18 ∧ detB 3 = 162 ∧ detB 4 = 1944 := by decide
theorem sumTo_small {f : Nat → Int} {b : Nat} : ∀ k, (∀ j, j < k → -(b : Int) ≤ f j ∧ f j ≤ b) → -((k * b : Nat) : Int) ≤ sumTo f k ∧ sumTo f k ≤ ((k * b : Nat) : Int)
  | 0, _ => by simp [sumTo]
  | k + 1, h => by
    have h1 := sumTo_small k (fun j hj => h j (by omega))
    have h2 := h k (by omega)
    have e : (k + 1) * b = k * b + b := Nat.succ_mul k b
    rw [sumTo, e]
    generalize k * b = q at *
    omega
theorem detZ_small : ∀ (n : Nat) (m : List (List Int)), Sq n m → -(detB n : Int) ≤ detZ n m ∧ detZ n m ≤ detB n
  | 0, m, _ => by simp [detZ, detB]
  | n + 1, m, S => by
    have h := sumTo_small (f := term n m) (b := 3 * detB n) (n + 1) (fun j hj => by
      have h1 := detZ_small n _ (min_sq S hj)
      have h2 := mul_small (S.low 0 j (by omega) hj) h1
      rcases sg_mul (x := ent m 0 j * detZ n (minTo m j n)) (sg_cases j) with e | e <;> unfold term <;> rw [e] <;> omega)
    exact h
theorem term_small {n : Nat} {m : List (List Int)} (hn : n < 4) (S : Sq (n + 1) m) {j : Nat} (hj : j < n + 1) : (-162 ≤ detZ n (minTo m j n) ∧ detZ n (minTo m j n) ≤ 162) ∧ (-486 ≤ ent m 0 j * detZ n (minTo m j n) ∧ ent m 0 j * detZ n (minTo m j n) ≤ 486) ∧ (-486 ≤ term n m j ∧ term n m j ≤ 486) := by
  have h1 := detZ_small n _ (min_sq S hj)
  have hb := detB_mono
  have h3 : n = 0 ∨ n = 1 ∨ n = 2 ∨ n = 3 := by omega
  have h4 : detB n ≤ 162 := by rcases h3 with e | e | e | e <;> subst e <;> omega
  have h2 := mul_small (S.low 0 j (by omega) hj) h1
  refine ⟨by omega, by omega, ?_⟩
  rcases sg_mul (x := ent m 0 j * detZ n (minTo m j n)) (sg_cases j) with e | e <;> unfold term <;> rw [e] <;> omega
theorem sum_small {n : Nat} {m : List (List Int)} (hn : n < 4) (S : Sq (n + 1) m) {k : Nat} (hk : k ≤ n + 1) : -1944 ≤ sumTo (term n m) k ∧ sumTo (term n m) k ≤ 1944 := by
  have h := sumTo_small (f := term n m) (b := 486) k (fun j hj => (term_small hn S (by omega)).2.2)
  omega

def dt (c : List (List Int)) (m : Nat) : Int := detZ (setB m).length (pick c (setB m))
def allPos (c : List (List Int)) : Bool := (List.range (2 ^ c.length - 1)).all fun k => decide (0 < dt c (k + 1))
def isFinite (c : List (List Int)) : Bool := isCartan c && allPos c
theorem allPos_of {c : List (List Int)} (h : ∀ k, k < 2 ^ c.length - 1 → 0 < dt c (k + 1)) : allPos c = true :=
  List.all_eq_true.2 fun k hk => decide_eq_true (h k (List.mem_range.1 hk))
theorem allPos_not {c : List (List Int)} {k : Nat} (hk : k < 2 ^ c.length - 1) (h : dt c (k + 1) ≤ 0) : allPos c = false := by
  rw [Bool.eq_false_iff]
  intro ha
  have := of_decide_eq_true (List.all_eq_true.1 ha k (List.mem_range.2 hk))
  omega

end Go.Proofs.Ytjgnnjegaedinaa.Hx

namespace Go.Proofs.Ytjgnnjegaedinaa.Hx
open Go.RowKit
variable {dm : Bool}

theorem del_takeM (m : List (List Int)) (i k : Nat) (hk : k < (m.getD i []).length) : (m.getD i []).take (k + 1) = (m.getD i []).take k ++ [ent m i k] := take_snoc _ hk
theorem sgInt (j : Nat) : ((j : Int).tmod 2 == 1) = decide (sg j = -1) := by
  have e : (j : Int).tmod 2 = ((j % 2 : Nat) : Int) := rfl
  rw [e]
  unfold sg
  by_cases h : j % 2 = 0
  · simp [h]
  · have h2 : j % 2 = 1 := by omega
    simp [h2]


theorem impl_setOf (h : Heap) (m : Nat) (hm : m < 16) : HCalls dm Try.prog 103 [I m] h (fun r h' => ∃ y, r = .s y ∧ Fresh h h' y (setB m)) := by
  refine calls_of_hFun (m := 0) kd_ok mixed Try.func103 rfl (by kernel_rfl) rfl rfl (of_decide_eq_true rfl) ?_; unfold hFun; (conv => whnf)
  refine HLit.empty ?_
  (conv => whnf)
  refine HLoop.intro [4, 3] [6, 7, 8, 9, 12, 13, 14, 15, 16, 17, 18, 19, 20, 3, 10, 11, 4] (by kernel_rfl) (by kernel_rfl) (fun vs h' => ∃ (k : Nat) (z : H0) (r : Nat), vs = [I k, .s z] ∧ k ≤ 4 ∧ Ext h h' ∧ h.length ≤ r ∧ OwnR r h' z (setTo m k)) (fun vs _ => 4 - natAt vs 0) ⟨0, _, h.length, rfl, by omega, Ext.push _ _, Nat.le_refl _, OwnR.push h []⟩ ?_
  rintro vs h' ⟨k, z, r, rfl, hk, E, hr, O⟩
  have hsl := setTo_len m k
  have hE := E.1
  have hdp := div_pos_iff (m := m) (i := k)
  have hdl : m / 2 ^ k ≤ m := Nat.div_le_self _ _
  (conv => whnf)
  refine HShr.bits hm (by omega) ?_
  (conv => whnf)
  refine HIf.dec (fun hpos => ?_) (fun hno => ?_)
  · have hnp := hdp.1 hpos
    have hk4 : k < 4 := by
      by_cases h4 : k = 4
      · subst h4
        exact absurd hm hnp
      · omega
    (conv => whnf)
    refine HShr.bits hm (by omega) ?_
    (conv => whnf)
    refine HAnd.one (by omega) ?_
    (conv => whnf)
    rw [bit_one]
    cases hb : bit m k
    · rw [← setTo_out hb] at O
      refine HIf.no ?_
      (conv => whnf)
      refine HArith.fits (by omega) (by omega) ?_
      (conv => whnf)
      exact ⟨⟨k + 1, z, r, rfl, by omega, E, hr, O⟩, by show 4 - (k + 1) < 4 - k; omega⟩
    · refine HIf.yes ?_
      (conv => whnf)
      refine HLit.one ?_
      (conv => whnf)
      refine ⟨rfl, rfl, HApp.snocR O (by omega) (fun h3 r3 y3 B3 hr3 O3 => ?_)⟩
      rw [← setTo_in hb] at O3
      (conv => whnf)
      refine HArith.fits (by omega) (by omega) ?_
      (conv => whnf)
      exact ⟨⟨k + 1, y3, r3, rfl, by omega, E.but B3 hr, by omega, O3⟩, by show 4 - (k + 1) < 4 - k; omega⟩
  · have hlt : m < 2 ^ k := by
      by_cases hh : m < 2 ^ k
      · exact hh
      · exact absurd (hdp.2 hh) hno
    rw [setTo_all k (by omega) m hlt] at O
    (conv => whnf)
    exact ⟨_, rfl, Fresh.ofRow E O hr⟩

theorem impl_picked (h : Heap) (x0 : H0) (c : List (List Int)) (x1 : H0) (o : List Int) (hx0 : Rows h x0 c) (hx1 : Ints h x1 o) (hC : Cartan c) (ho : ∀ k, k < o.length → 0 ≤ o.getD k 0 ∧ o.getD k 0 < c.length) (hol : o.length ≤ 4) :
    HCalls dm Try.prog 110 [.s x0, .s x1] h (fun r h' => ∃ y, r = .s y ∧ Ext h h' ∧ OwnM h.length h'.length h' y (pick c o)) := by
  have h4 := hC.le
  have hx10 := hx1.ext (Ext.push h [Row.own []])
  refine calls_of_hFun (m := 0) kd_ok mixed Try.func110 rfl (by kernel_rfl) rfl rfl (of_decide_eq_true rfl) ?_; unfold hFun; (conv => whnf)
  refine HLit.empty ?_
  (conv => whnf)
  refine ⟨rfl, hx10.len ?_⟩
  (conv => whnf)
  refine HLoop.intro [14, 5] [15, 16, 17, 7, 18, 8, 19, 20, 21, 22, 23, 24, 10, 25, 26, 27, 28, 29, 30, 31, 32, 33, 34, 8, 35, 21, 36, 37, 38, 39, 5, 40, 14] (by kernel_rfl) (by kernel_rfl) (fun vs h' => ∃ (a : Nat) (z : H0), vs = [I a, .s z] ∧ a ≤ o.length ∧ Ext h h' ∧ OwnM h.length h'.length h' z (pickTo c o a)) (fun vs _ => o.length - natAt vs 0) ⟨0, _, rfl, by omega, Ext.push _ _, OwnM.none h⟩ ?_
  rintro vs h' ⟨a, z, rfl, ha, E, OM⟩
  have hpl := pickTo_len c o a
  have hx1 := hx1.ext E
  (conv => whnf)
  refine HIf.dec (fun hlt => ?_) (fun hge => ?_)
  · have hoa := ho a (by omega)
    obtain ⟨i, hi⟩ : ∃ i : Nat, o.getD a 0 = (i : Int) := ⟨(o.getD a 0).toNat, by omega⟩
    rw [hi] at hoa
    have hir := hC.row i (by omega)
    have Ep := Ext.push h' [Row.own []]
    have hx1p := hx1.ext Ep
    (conv => whnf)
    refine ⟨rfl, Ints.idxN hx1 (by omega) (fun p hp => ?_)⟩
    rw [hi] at hp
    (conv => whnf)
    refine ⟨rfl, hp.load ?_⟩
    (conv => whnf)
    refine HLit.empty ?_
    (conv => whnf)
    refine ⟨rfl, hx1p.len ?_⟩
    (conv => whnf)
    refine HLoop.intro [21, 8] [22, 23, 24, 10, 25, 26, 27, 28, 29, 30, 31, 32, 33, 34, 8, 35, 21] (by kernel_rfl) (by kernel_rfl) (fun vs h2 => ∃ (b : Nat) (y : H0) (r : Nat), vs = [I b, .s y] ∧ b ≤ o.length ∧ Ext h' h2 ∧ h'.length ≤ r ∧ OwnR r h2 y (pickRow c o i b)) (fun vs _ => o.length - natAt vs 0) ⟨0, _, h'.length, rfl, by omega, Ep, Nat.le_refl _, OwnR.push h' []⟩ ?_
    rintro vs h2 ⟨b, y, r, rfl, hb, E2, hr, O⟩
    have hrl := pickRow_len c o i b
    have hE2 := E2.1
    (conv => whnf)
    refine HIf.dec (fun hltb => ?_) (fun hgeb => ?_)
    · have hob := ho b (by omega)
      obtain ⟨j, hj⟩ : ∃ j : Nat, o.getD b 0 = (j : Int) := ⟨(o.getD b 0).toNat, by omega⟩
      rw [hj] at hob
      have hx02 := (hx0.ext E).ext E2
      (conv => whnf)
      refine ⟨rfl, Ints.idxN (hx1.ext E2) (by omega) (fun p2 hp2 => ?_)⟩
      rw [hj] at hp2
      (conv => whnf)
      refine ⟨rfl, hp2.load ?_⟩
      (conv => whnf)
      refine ⟨rfl, Rows.idxN hx02 (by omega) (fun p3 y3 hp3 hy3 => ?_)⟩
      (conv => whnf)
      refine ⟨rfl, hp3.load ?_⟩
      (conv => whnf)
      refine ⟨rfl, Ints.idxN hy3 (by omega) (fun p4 hp4 => ?_)⟩
      (conv => whnf)
      refine ⟨rfl, hp4.load ?_⟩
      rw [ent_eq]
      (conv => whnf)
      refine HLit.one ?_
      (conv => whnf)
      refine ⟨rfl, rfl, HApp.snocR O (by omega) (fun h3 r3 y5 B3 hr3 O3 => ?_)⟩
      have es : pickRow c o i (b + 1) = pickRow c o i b ++ [ent c i j] := by rw [pickRow_succ, hj]; rfl
      rw [← es] at O3
      (conv => whnf)
      refine HArith.fits (by omega) (by omega) ?_
      (conv => whnf)
      exact ⟨⟨b + 1, y5, r3, rfl, by omega, E2.but B3 hr, by omega, O3⟩, by show o.length - (b + 1) < o.length - b; omega⟩
    · have e : b = o.length := by omega
      subst e
      have er : pickTo c o (a + 1) = pickTo c o a ++ [pickRow c o i o.length] := by rw [pickTo_succ, hi]; rfl
      have F := O.own hr
      (conv => whnf)
      refine HLit.row F.one ?_
      (conv => whnf)
      refine ⟨rfl, rfl, HApp.snocM E OM E2 F (by omega) (fun h5 y5 E5 O5 => ?_)⟩
      rw [← er] at O5
      (conv => whnf)
      refine HArith.fits (by omega) (by omega) ?_
      (conv => whnf)
      exact ⟨⟨a + 1, y5, rfl, by omega, E5, O5⟩, by show o.length - (a + 1) < o.length - a; omega⟩
  · have e : a = o.length := by omega
    subst e
    (conv => whnf)
    exact ⟨_, rfl, E, OM⟩

theorem impl_determinant : ∀ (n : Nat), n ≤ 4 → ∀ (h : Heap) (x : H0) (m : List (List Int)), Rows h x m → Sq n m → HCalls dm Try.prog 109 [.s x] h (fun r h' => r = I (detZ n m) ∧ Ext h h') := by
  intro n
  induction n with
  | zero =>
    intro _ h x m hx S
    have hl := S.len
    refine calls_of_hFun (m := 0) kd_ok mixed Try.func109 rfl (by kernel_rfl) rfl rfl (of_decide_eq_true rfl) ?_; unfold hFun; (conv => whnf)
    refine ⟨rfl, hx.len ?_⟩
    (conv => whnf)
    refine HIf.beqT (by omega) ?_
    (conv => whnf)
    exact ⟨rfl, Ext.refl _⟩
  | succ n ih =>
    intro hn h x m hx S
    have hl := S.len
    have hr0 := S.row 0 (by omega)
    rw [detZ_succ]
    refine calls_of_hFun (m := 0) kd_ok mixed Try.func109 rfl (by kernel_rfl) rfl rfl (of_decide_eq_true rfl) ?_; unfold hFun; (conv => whnf)
    refine ⟨rfl, hx.len ?_⟩
    (conv => whnf)
    refine HIf.beqF (by omega) ?_
    (conv => whnf)
    refine ⟨rfl, Rows.idxN (n := 0) hx (by omega) (fun p y hp hy => ?_)⟩
    (conv => whnf)
    refine ⟨rfl, hp.load ?_⟩
    (conv => whnf)
    refine ⟨rfl, hy.len ?_⟩
    (conv => whnf)
    refine HLoop.intro [17, 3, 4] [18, 19, 20, 21, 5, 6, 22, 23, 24, 7, 25, 26, 27, 28, 29, 30, 31, 9, 32, 33, 34, 35, 36, 37, 38, 39, 40, 41, 42, 43, 44, 7, 45, 28, 46, 47, 48, 49, 50, 51, 52, 53, 3, 54, 55, 4, 56, 17] (by kernel_rfl) (by kernel_rfl) (fun vs h' => ∃ j : Nat, vs = [I j, I (sumTo (term n m) j), I (sg j)] ∧ j ≤ n + 1 ∧ Ext h h') (fun vs _ => n + 1 - natAt vs 0) ⟨0, rfl, by omega, Ext.refl _⟩ ?_
    rintro vs h' ⟨j, rfl, hj, E⟩
    have hsum := sum_small (by omega) S hj
    have hsg := sg_cases j
    have hsgs := sg_succ j
    (conv => whnf)
    refine HIf.dec (fun hlt => ?_) (fun hge => ?_)
    · have hts := term_small (by omega) S (j := j) (by omega)
      have hxl := S.low 0 j (by omega) (by omega)
      have hsum2 := sum_small (by omega) S (k := j + 1) (by omega)
      have hss := sumTo_succ (term n m) j
      (conv => whnf)
      refine ⟨rfl, Ints.idxN (hy.ext E) (by omega) (fun p2 hp2 => ?_)⟩
      (conv => whnf)
      refine ⟨rfl, hp2.load ?_⟩
      rw [ent_eq]
      (conv => whnf)
      refine HIf.bne (fun hne => ?_) (fun heq => ?_)
      · have E0 := Ext.push h' [Row.own []]
        have hx1 := (hx.ext E).ext E0
        (conv => whnf)
        refine HLit.empty ?_
        (conv => whnf)
        refine ⟨rfl, Rows.drop1 hx1 (by omega) (fun y3 hy3 => ?_)⟩
        have hy31 := hy3 _ hx1
        (conv => whnf)
        refine ⟨rfl, hy31.len ?_⟩
        have hdl : (m.drop 1).length = n := by simp; omega
        (conv => whnf)
        refine HLoop.intro [28, 7] [29, 30, 31, 9, 32, 33, 34, 35, 36, 37, 38, 39, 40, 41, 42, 43, 44, 7, 45, 28] (by kernel_rfl) (by kernel_rfl) (fun vs h2 => ∃ (t : Nat) (z : H0), vs = [I t, .s z] ∧ t ≤ n ∧ Ext h' h2 ∧ OwnM h'.length h2.length h2 z (minTo m j t)) (fun vs _ => n - natAt vs 0) ⟨0, _, rfl, by omega, E0, OwnM.none h'⟩ ?_
        rintro vs h2 ⟨t, z, rfl, ht, E2, OM⟩
        have hml := minTo_len m j t
        (conv => whnf)
        refine HIf.dec (fun hltt => ?_) (fun hget => ?_)
        · have hgd : (m.drop 1).getD t [] = m.getD (t + 1) [] := by
            simp only [List.getD, List.getElem?_drop]
            rw [Nat.add_comm]
          have hrt := S.row (t + 1) (by omega)
          have hrt' : (m[t + 1]?.getD []).length = n + 1 := hrt
          have hx2 := hx.ext (E.trans E2)
          have hE2 := E2.1
          (conv => whnf)
          refine ⟨rfl, Rows.idxN (hy3 _ hx2) (by omega) (fun p3 y5 hp3 hy5 => ?_)⟩
          rw [hgd] at hy5
          (conv => whnf)
          refine ⟨rfl, hp3.load ?_⟩
          (conv => whnf)
          refine Or.inr (Or.inr (Or.inl (Exists.intro 5 (Exists.intro [0, 2, 3, 4, 6, 7, 8, 9] (Exists.intro [1, 5, 10, 11, 12, 13] (And.intro (show heldOk _ _ _ _ = true by kernel_rfl) ?_)))))); (conv => whnf)
          refine ⟨rfl, Ints.take hy5 j (by omega) (fun y6 hy6 => ?_)⟩
          (conv => whnf)
          refine HArith.to (e' := ((j + 1 : Nat) : Int)) (by omega) (by omega) (by omega) ?_
          (conv => whnf)
          refine ⟨rfl, Ints.slice hy5 (j + 1) (m.getD (t + 1) []).length (Or.inr rfl) (Or.inl ⟨rfl, rfl⟩) (by omega) (Nat.le_refl _) (fun y7 hy7 => ?_)⟩
          rw [List.take_length] at hy7
          have E3 := Ext.push h2 [Row.own []]
          (conv => whnf)
          refine HLit.empty ?_
          (conv => whnf)
          refine ⟨rfl, rfl, HApp.moreR (OwnR.push h2 []) (hy6.ext E3) (by simp; omega) (fun h4 r4 y8 B4 hr4 O4 => ?_)⟩
          have E4 := E3.but B4 (Nat.le_refl _)
          have hE3 := E3.1
          rw [List.nil_append] at O4
          (conv => whnf)
          refine ⟨rfl, rfl, HApp.moreR O4 (hy7.ext E4) (by simp; omega) (fun h5 r5 y9 B5 hr5 O5 => ?_)⟩
          have E5 := E4.but B5 (by omega)
          have hE4 := E4.1
          rw [← del_at] at O5
          have F := O5.own (show h2.length ≤ r5 by omega)
          (conv => whnf)
          refine HLit.row F.one ?_
          (conv => whnf)
          refine ⟨rfl, rfl, HApp.snocM E2 OM E5 F (by omega) (fun h6 y10 E6 O6 => ?_)⟩
          rw [← minTo_succ] at O6
          (conv => whnf)
          refine HArith.fits (by omega) (by omega) ?_
          (conv => whnf)
          exact ⟨⟨t + 1, y10, rfl, by omega, E6, O6⟩, by show n - (t + 1) < n - t; omega⟩
        · have e : t = n := by omega
          subst e
          have b1 : -3 ≤ sg j * ent m 0 j ∧ sg j * ent m 0 j ≤ 3 := by rcases sg_mul (x := ent m 0 j) hsg with e | e <;> rw [e] <;> omega
          (conv => whnf)
          refine HArith.fits (by omega) (by omega) ?_
          (conv => whnf)
          refine (ih (by omega) _ _ _ OM.rows (min_sq S (by omega))).mono ?_
          rintro v h4 ⟨rfl, E4⟩
          (conv => whnf)
          refine HArith.to (e' := term t m j) (by unfold term; rw [Int.mul_assoc]) (by omega) (by omega) ?_
          (conv => whnf)
          refine HArith.to (e' := sumTo (term t m) (j + 1)) hss.symm (by omega) (by omega) ?_
          (conv => whnf)
          refine HArith.to (e' := sg (j + 1)) (by omega) (by omega) (by omega) ?_
          (conv => whnf)
          refine HArith.fits (by omega) (by omega) ?_
          (conv => whnf)
          exact ⟨⟨j + 1, rfl, by omega, (E.trans E2).trans E4⟩, by show t + 1 - (j + 1) < t + 1 - j; omega⟩
      · have et : term n m j = 0 := by unfold term; rw [heq]; simp
        have e2 : sumTo (term n m) (j + 1) = sumTo (term n m) j := by rw [hss, et]; omega
        (conv => whnf)
        refine HArith.to (e' := sg (j + 1)) (by omega) (by omega) (by omega) ?_
        (conv => whnf)
        refine HArith.fits (by omega) (by omega) ?_
        (conv => whnf)
        exact ⟨⟨j + 1, by rw [e2]; rfl, by omega, E⟩, by show n + 1 - (j + 1) < n + 1 - j; omega⟩
    · have e : j = n + 1 := by omega
      subst e
      (conv => whnf)
      exact ⟨rfl, E⟩

end Go.Proofs.Ytjgnnjegaedinaa.Hx
