
/-
  The list of all reduced words in the order of letters, and what a search by braid moves finds. Plain theory.
-/
import Derived.Test.YtkkniibnlniflaaNb
import Derived.Test.YtkkniibnlniflaaGs
import Derived.Test.YtkkniibnlniflaaMb
namespace Go.Proofs.Ytkkniibnlniflaa.Hx
open Go.RowKit

/-! ### Words by length, then by letters -/

def cmpW (a b : List Int) : Int := if a.length < b.length then -1 else if b.length < a.length then 1 else lexC a b

theorem cmpW_neg (a b : List Int) : cmpW b a = - cmpW a b := by
  have := lexC_neg a b
  unfold cmpW
  by_cases h1 : a.length < b.length
  · rw [if_neg (by omega), if_pos h1, if_pos h1]; rfl
  · by_cases h2 : b.length < a.length
    · rw [if_pos h2, if_neg h1, if_pos h2]
    · rw [if_neg h2, if_neg h1, if_neg h1, if_neg h2]; omega
theorem cmpW_lt {a b : List Int} : cmpW a b < 0 ↔ a.length < b.length ∨ a.length = b.length ∧ lexC a b < 0 := by
  unfold cmpW
  by_cases h1 : a.length < b.length
  · rw [if_pos h1]; simp [h1]
  · by_cases h2 : b.length < a.length
    · rw [if_neg h1, if_pos h2]
      constructor
      · intro h; omega
      · rintro (h | h) <;> omega
    · rw [if_neg h1, if_neg h2]
      constructor
      · intro h; exact Or.inr ⟨by omega, h⟩
      · rintro (h | h)
        · omega
        · exact h.2
theorem cmpW_eq {a b : List Int} (h : cmpW a b = 0) : a = b := by
  unfold cmpW at h
  by_cases h1 : a.length < b.length
  · rw [if_pos h1] at h; omega
  · by_cases h2 : b.length < a.length
    · rw [if_neg h1, if_pos h2] at h; omega
    · rw [if_neg h1, if_neg h2] at h
      exact lexC_eq a b h
theorem cmpW_self (a : List Int) : cmpW a a = 0 := by
  have := cmpW_neg a a
  omega
theorem cmpW_trans {a b c : List Int} (h : cmpW a b < 0) (k : cmpW b c < 0) : cmpW a c < 0 := by
  rw [cmpW_lt] at *
  rcases h with h | ⟨h, h2⟩ <;> rcases k with k | ⟨k, k2⟩
  · exact Or.inl (by omega)
  · exact Or.inl (by omega)
  · exact Or.inl (by omega)
  · exact Or.inr ⟨by omega, lexC_trans a b c h2 k2⟩

def SortedW (L : List (List Int)) : Prop := L.Pairwise (fun a b => cmpW a b < 0)

theorem SortedW.nodup {L : List (List Int)} (h : SortedW L) : L.Nodup := List.Pairwise.imp (fun {a b} hab e => by
  subst e
  rw [cmpW_self] at hab
  omega) h

theorem sortedW_one {A B : List (List Int)} (hA : SortedW A) (hB : SortedW B) (h : ∀ w, w ∈ A ↔ w ∈ B) : A = B :=
  List.Perm.eq_of_pairwise (le := fun a b => cmpW a b < 0) (fun a b _ _ h k => by
    have := cmpW_neg a b
    omega) hA hB ((List.perm_ext_iff_of_nodup hA.nodup hB.nodup).2 h)

/-- One word put in its place, unless it is there. -/
def putW (r : List Int) : List (List Int) → List (List Int)
  | [] => [r]
  | a :: t => if cmpW r a = 0 then a :: t else if cmpW r a < 0 then r :: a :: t else a :: putW r t

theorem mem_putW (r w : List Int) : ∀ L, w ∈ putW r L ↔ w = r ∨ w ∈ L
  | [] => by simp [putW]
  | a :: t => by
    have ih := mem_putW r w t
    simp only [putW]
    split
    · rename_i h
      have := cmpW_eq h
      subst this
      simp
    · split
      · simp
      · simp only [List.mem_cons, ih]
        constructor
        · rintro (h | h | h)
          · exact Or.inr (Or.inl h)
          · exact Or.inl h
          · exact Or.inr (Or.inr h)
        · rintro (h | h | h)
          · exact Or.inr (Or.inl h)
          · exact Or.inl h
          · exact Or.inr (Or.inr h)

theorem putW_sorted (r : List Int) : ∀ {L : List (List Int)}, SortedW L → SortedW (putW r L)
  | [], _ => by simp [putW, SortedW]
  | a :: t, hs => by
    have hs' := List.pairwise_cons.1 hs
    simp only [putW]
    split
    · exact hs
    · rename_i h0
      split
      · rename_i h
        refine List.pairwise_cons.2 ⟨fun b hb => ?_, hs⟩
        rcases List.mem_cons.1 hb with rfl | hb
        · exact h
        · exact cmpW_trans h (hs'.1 b hb)
      · rename_i h
        refine List.pairwise_cons.2 ⟨fun b hb => ?_, putW_sorted r hs'.2⟩
        rcases (mem_putW r b t).1 hb with rfl | hb
        · have := cmpW_neg a b
          omega
        · exact hs'.1 b hb

theorem putW_le (r : List Int) : ∀ L, L.length ≤ (putW r L).length ∧ (putW r L).length ≤ L.length + 1
  | [] => by simp [putW]
  | a :: t => by
    have ih := putW_le r t
    simp only [putW]
    split
    · simp
    · split
      · simp
      · simp only [List.length_cons]; omega

def insW (L : List (List Int)) : List (List Int) := L.foldl (fun o r => putW r o) []

theorem insW_snoc (L : List (List Int)) (k : Nat) (hk : k < L.length) : insW (L.take (k + 1)) = putW (L.getD k []) (insW (L.take k)) := by
  rw [List.take_succ_eq_append_getElem hk]
  unfold insW
  rw [List.foldl_append]
  simp [List.getD, hk]

theorem insW_facts (L : List (List Int)) : SortedW (insW L) ∧ (∀ w, w ∈ insW L ↔ w ∈ L) ∧ (insW L).length ≤ L.length := by
  have main : ∀ (L o : List (List Int)), SortedW o → SortedW (L.foldl (fun o r => putW r o) o) ∧ (∀ w, w ∈ L.foldl (fun o r => putW r o) o ↔ w ∈ o ∨ w ∈ L) ∧ (L.foldl (fun o r => putW r o) o).length ≤ o.length + L.length := by
    intro L
    induction L with
    | nil => intro o h; exact ⟨h, by simp, by simp⟩
    | cons r t ih =>
      intro o h
      obtain ⟨h1, h2, h3⟩ := ih (putW r o) (putW_sorted r h)
      have := putW_le r o
      refine ⟨h1, fun w => ?_, by simp only [List.foldl_cons, List.length_cons]; omega⟩
      rw [List.foldl_cons, h2, mem_putW]
      simp only [List.mem_cons]
      constructor
      · rintro ((h | h) | h)
        · exact Or.inr (Or.inl h)
        · exact Or.inl h
        · exact Or.inr (Or.inr h)
      · rintro (h | h | h)
        · exact Or.inl (Or.inr h)
        · exact Or.inl (Or.inl h)
        · exact Or.inr h
  obtain ⟨h1, h2, h3⟩ := main L [] List.Pairwise.nil
  refine ⟨h1, fun w => ?_, ?_⟩
  · rw [insW, h2]; simp
  · rw [insW]; simpa using h3

/-! ### All reduced words -/

def spellW (c : List (List Int)) : Nat → List Int → List (List Int)
  | 0, _ => [[]]
  | n + 1, v => (descs v v.length).flatMap fun i => (spellW c n (reflW c i.toNat v)).map (i :: ·)

theorem mem_descs {v : List Int} {k : Nat} {i : Int} : i ∈ descs v k ↔ 0 ≤ i ∧ i < k ∧ v.getD i.toNat 0 < 0 := by
  unfold descs
  simp only [List.mem_map, List.mem_filter, List.mem_range, decide_eq_true_eq]
  constructor
  · rintro ⟨j, ⟨h1, h2⟩, rfl⟩
    exact ⟨by omega, by omega, by simpa using h2⟩
  · rintro ⟨h1, h2, h3⟩
    exact ⟨i.toNat, ⟨by omega, h3⟩, by omega⟩

theorem descs_sorted (v : List Int) (k : Nat) : (descs v k).Pairwise (· < ·) := by
  unfold descs
  rw [List.pairwise_map]
  refine List.Pairwise.imp ?_ (List.Pairwise.filter _ List.pairwise_lt_range)
  intro a b h
  omega

theorem spell_mem {c : List (List Int)} (hC : Cartan c) : ∀ (n : Nat) (v : List Int), PlayL c n v → n ≤ 29 → ∀ w, w ∈ spellW c n v ↔ Red c n v w
  | 0, v, P, _, w => by
    have h0 := nf_image hC 0 v 0 P (by omega) (by omega)
    rw [nf_zero] at h0
    constructor
    · intro h
      have e : w = [] := by simpa [spellW] using h
      subst e
      exact ⟨rfl, rfl, h0⟩
    · intro h
      have e : w = [] := List.eq_nil_of_length_eq_zero h.1
      rw [e]
      simp [spellW]
  | n + 1, v, P, hn, w => by
    have hvl := P.1
    rw [spellW]
    simp only [List.mem_flatMap, List.mem_map]
    constructor
    · rintro ⟨i, hi, u, hu, rfl⟩
      obtain ⟨h1, h2, h3⟩ := mem_descs.1 hi
      have hp : isPoint c i = true := by simp [isPoint, inRange]; omega
      obtain ⟨m, e, Q⟩ := P.down hC (by omega) (i := i.toNat) (by omega) h3
      have e2 : m = n := by omega
      subst e2
      exact Red.cons hC P (by omega) hp h3 ((spell_mem hC m _ Q (by omega) u).1 hu)
    · intro R
      cases w with
      | nil => have := R.1; simp at this
      | cons i u =>
        obtain ⟨hp, h3, Q, R'⟩ := R.tail hC P hn
        have p1 := point_of hp
        exact ⟨i, mem_descs.2 ⟨by omega, by omega, h3⟩, u, (spell_mem hC n _ Q (by omega) u).2 R', rfl⟩

theorem lexC_cons (i : Int) (a b : List Int) : lexC (i :: a) (i :: b) = lexC a b := by simp [lexC]

theorem spell_sorted {c : List (List Int)} (hC : Cartan c) : ∀ (n : Nat) (v : List Int), PlayL c n v → n ≤ 29 → SortedW (spellW c n v)
  | 0, v, P, _ => by simp [spellW, SortedW]
  | n + 1, v, P, hn => by
    have hvl := P.1
    have down : ∀ i ∈ descs v v.length, PlayL c n (reflW c i.toNat v) := fun i hi => by
      obtain ⟨h1, h2, h3⟩ := mem_descs.1 hi
      obtain ⟨m, e, Q⟩ := P.down hC (by omega) (i := i.toNat) (by omega) h3
      have e2 : m = n := by omega
      subst e2
      exact Q
    have len : ∀ i ∈ descs v v.length, ∀ u ∈ spellW c n (reflW c i.toNat v), u.length = n := fun i hi u hu => ((spell_mem hC n _ (down i hi) (by omega) u).1 hu).1
    unfold SortedW
    rw [spellW, List.pairwise_flatMap]
    refine ⟨fun i hi => ?_, ?_⟩
    · rw [List.pairwise_map]
      refine List.Pairwise.imp_of_mem ?_ (spell_sorted hC n _ (down i hi) (by omega))
      intro a b ha hb h
      rw [cmpW_lt] at h ⊢
      rcases h with h | h
      · exact Or.inl (by simpa using h)
      · exact Or.inr ⟨by simpa using h.1, by rw [lexC_cons]; exact h.2⟩
    · refine List.Pairwise.imp_of_mem ?_ (descs_sorted v v.length)
      intro i j hi hj hij x hx y hy
      obtain ⟨a, ha, rfl⟩ := List.mem_map.1 hx
      obtain ⟨b, hb, rfl⟩ := List.mem_map.1 hy
      rw [cmpW_lt]
      refine Or.inr ⟨by simp [len i hi a ha, len j hj b hb], ?_⟩
      simp [lexC, hij]

theorem nodup_le : ∀ {A B : List (List Int)}, A.Nodup → (∀ x ∈ A, x ∈ B) → A.length ≤ B.length
  | [], _, _, _ => by simp
  | a :: A, B, hn, h => by
    have hn' := List.nodup_cons.1 hn
    have ha := h a (by simp)
    have ih := nodup_le (A := A) (B := B.erase a) hn'.2 fun x hx => (List.mem_erase_of_ne (fun e => hn'.1 (by rw [← e]; exact hx))).2 (h x (by simp [hx]))
    have hl := List.length_erase_of_mem ha
    have hp : 0 < B.length := List.length_pos_of_mem ha
    simp only [List.length_cons]
    omega

/-- What a search by braid moves has found so far. -/
structure Found (c : List (List Int)) (n : Nat) (v x : List Int) (Q : List (List Int)) : Prop where
  red : ∀ q ∈ Q, Red c n v q
  nodup : Q.Nodup
  head : x ∈ Q

theorem Found.full {c : List (List Int)} (hC : Cartan c) {n : Nat} {v x : List Int} {Q : List (List Int)} (P : PlayL c n v) (hn : n ≤ 15) (F : Found c n v x Q) (h : ∀ q ∈ Q, ∀ k : Nat, brOk c q k = true → braid c q k ∈ Q) : insW Q = spellW c n v := by
  obtain ⟨h1, h2, _⟩ := insW_facts Q
  refine sortedW_one h1 (spell_sorted hC n v P (by omega)) fun w => ?_
  rw [h2, spell_mem hC n v P (by omega)]
  refine ⟨F.red w, fun R => conn_closed (fun q hq b hb => ?_) F.head (conn_all hC n v P (by omega) x w (F.red x F.head) R)⟩
  have R := F.red q hq
  have hw : isWord c q = true := by
    simp only [isWord, Bool.and_eq_true, decide_eq_true_eq]
    exact ⟨⟨(isCartan_iff c).2 hC, by rw [R.1]; exact hn⟩, R.2.1⟩
  obtain ⟨k, _, hk, e⟩ := braid_of_br hw hb
  rw [← e]
  exact h q hq k hk

theorem Found.step {c : List (List Int)} {n : Nat} {v x : List Int} {Q : List (List Int)} (F : Found c n v x Q) (hn : n ≤ 31) {q : List Int} (hq : q ∈ Q) {k : Nat} (hk : brOk c q k = true) (hy : braid c q k ∉ Q) : Found c n v x (Q ++ [braid c q k]) := by
  refine ⟨fun w hw => ?_, ?_, by simp [F.head]⟩
  · rcases List.mem_append.1 hw with hw | hw
    · exact F.red w hw
    · have e : w = braid c q k := by simpa using hw
      rw [e]
      exact (br_of_braid hk).red hn (F.red q hq)
  · rw [List.nodup_append]
    refine ⟨F.nodup, by simp, fun a ha b hb => ?_⟩
    have e : b = braid c q k := by simpa using hb
    rw [e]
    exact fun e => hy (by rw [← e]; exact ha)

theorem Found.le {c : List (List Int)} (hC : Cartan c) {n : Nat} {v x : List Int} {Q : List (List Int)} (P : PlayL c n v) (hn : n ≤ 29) (F : Found c n v x Q) : Q.length ≤ (spellW c n v).length :=
  nodup_le F.nodup fun q hq => (spell_mem hC n v P hn q).2 (F.red q hq)

/-! ### The answer -/

def redAll (c : List (List Int)) (w : List Int) : List (List Int) := spellW c (normF c w).length (imageOf c w)
def redOk (c : List (List Int)) (w : List Int) : Bool := isWord c w && decide ((redAll c w).length ≤ 120)
def reducedWords (c : List (List Int)) (w : List Int) : List (List Int) := if redOk c w then redAll c w else []

theorem normF_red {c : List (List Int)} {w : List Int} (h : isWord c w = true) : PlayL c (normF c w).length (imageOf c w) ∧ (normF c w).length ≤ 15 ∧ Red c (normF c w).length (imageOf c w) (normF c w) := by
  obtain ⟨hC, hl, hw⟩ := word_cartan h
  obtain ⟨n, hn, P⟩ := play_image hC hw (by omega)
  have e : (normF c w).length = n := nf_len hC n _ 31 P (by omega) (by omega)
  refine ⟨by rw [e]; exact P, by omega, rfl, normF_letters hC hw (by omega), normF_image hC hw (by omega)⟩

theorem redOk_off {c : List (List Int)} {w : List Int} (h : isWord c w = false) : redOk c w = false := by simp [redOk, h]
theorem redOk_over {c : List (List Int)} {w : List Int} (h : 120 < (redAll c w).length) : redOk c w = false := by
  have : decide ((redAll c w).length ≤ 120) = false := decide_eq_false (by omega)
  simp [redOk, this]
theorem redOk_on {c : List (List Int)} {w : List Int} (h : isWord c w = true) (h2 : (redAll c w).length ≤ 120) : redOk c w = true := by simp [redOk, h, h2]
theorem reducedWords_off {c : List (List Int)} {w : List Int} (h : redOk c w = false) : reducedWords c w = [] := by simp [reducedWords, h]
theorem reducedWords_on {c : List (List Int)} {w : List Int} (h : redOk c w = true) : reducedWords c w = redAll c w := by simp [reducedWords, h]

end Go.Proofs.Ytkkniibnlniflaa.Hx
