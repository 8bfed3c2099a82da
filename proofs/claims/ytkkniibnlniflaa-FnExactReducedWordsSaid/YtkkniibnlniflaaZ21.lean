/-
  The list of all reduced words in the order of letters, and what a search by braid moves finds. Plain theory.
  Contracts of ReducedWords, of the program: words are spelled one after the other into a slice of slices that moves.
  Sets of points as bits, matrices of some points, determinants: plain functions, and the contracts of their makers.
  Contracts of braid moves, of the program.
-/
import Derived.Test.YtkkniibnlniflaaZ20
namespace Go.Proofs.Ytkkniibnlniflaa.Hx
open Go.RowKit

/-! ### Words by length, then by letters -/

def cmpW (a b : List Int) : Int := if a.length < b.length then -1 else if b.length < a.length then 1 else lexC a b

theorem cmpW_neg (a b : List Int) : cmpW b a = - cmpW a b := by
  have := lexC_neg a b
  unfold cmpW
  by_cases h1 : a.length < b.length
  · rw [if_neg (by omega), if_pos h1, if_pos h1]; rfl
  · by_cases h2 : b.length < a.length
    · rw [if_pos h2, if_neg h1, if_pos h2]
    · rw [if_neg h2, if_neg h1, if_neg h1, if_neg h2]; omega
theorem cmpW_lt {a b : List Int} : cmpW a b < 0 ↔ a.length < b.length ∨ a.length = b.length ∧ lexC a b < 0 := by
  unfold cmpW
  by_cases h1 : a.length < b.length
  · rw [if_pos h1]; simp [h1]
  · by_cases h2 : b.length < a.length
    · rw [if_neg h1, if_pos h2]
      constructor
      · intro h; omega
      · rintro (h | h) <;> omega
    · rw [if_neg h1, if_neg h2]
      constructor
      · intro h; exact Or.inr ⟨by omega, h⟩
      · rintro (h | h)
        · omega
        · exact h.2
theorem cmpW_eq {a b : List Int} (h : cmpW a b = 0) : a = b := by
  unfold cmpW at h
  by_cases h1 : a.length < b.length
  · rw [if_pos h1] at h; omega
  · by_cases h2 : b.length < a.length
    · rw [if_neg h1, if_pos h2] at h; omega
    · rw [if_neg h1, if_neg h2] at h
      exact lexC_eq a b h
theorem cmpW_self (a : List Int) : cmpW a a = 0 := by
  have := cmpW_neg a a
  omega
theorem cmpW_trans {a b c : List Int} (h : cmpW a b < 0) (k : cmpW b c < 0) : cmpW a c < 0 := by
  rw [cmpW_lt] at *
  rcases h with h | ⟨h, h2⟩ <;> rcases k with k | ⟨k, k2⟩
  · exact Or.inl (by omega)
  · exact Or.inl (by omega)
  · exact Or.inl (by omega)
  · exact Or.inr ⟨by omega, lexC_trans a b c h2 k2⟩

def SortedW (L : List (List Int)) : Prop := L.Pairwise (fun a b => cmpW a b < 0)

theorem SortedW.nodup {L : List (List Int)} (h : SortedW L) : L.Nodup := List.Pairwise.imp (fun {a b} hab e => by
  subst e
  rw [cmpW_self] at hab
  omega) h

theorem sortedW_one {A B : List (List Int)} (hA : SortedW A) (hB : SortedW B) (h : ∀ w, w ∈ A ↔ w ∈ B) : A = B :=
  List.Perm.eq_of_pairwise (le := fun a b => cmpW a b < 0) (fun a b _ _ h k => by
    have := cmpW_neg a b
    omega) hA hB ((List.perm_ext_iff_of_nodup hA.nodup hB.nodup).2 h)

/-- One word put in its place, unless it is there. -/
def putW (r : List Int) : List (List Int) → List (List Int)
  | [] => [r]
  | a :: t => if cmpW r a = 0 then a :: t else if cmpW r a < 0 then r :: a :: t else a :: putW r t

theorem mem_putW (r w : List Int) : ∀ L, w ∈ putW r L ↔ w = r ∨ w ∈ L
  | [] => by simp [putW]
  | a :: t => by
    have ih := mem_putW r w t
    simp only [putW]
    split
    · rename_i h
      have := cmpW_eq h
      subst this
      simp
    · split
      · simp
      · simp only [List.mem_cons, ih]
        constructor
        · rintro (h | h | h)
          · exact Or.inr (Or.inl h)
          · exact Or.inl h
          · exact Or.inr (Or.inr h)
        · rintro (h | h | h)
          · exact Or.inr (Or.inl h)
          · exact Or.inl h
          · exact Or.inr (Or.inr h)

theorem putW_sorted (r : List Int) : ∀ {L : List (List Int)}, SortedW L → SortedW (putW r L)
  | [], _ => by simp [putW, SortedW]
  | a :: t, hs => by
    have hs' := List.pairwise_cons.1 hs
    simp only [putW]
    split
    · exact hs
    · rename_i h0
      split
      · rename_i h
        refine List.pairwise_cons.2 ⟨fun b hb => ?_, hs⟩
        rcases List.mem_cons.1 hb with rfl | hb
        · exact h
        · exact cmpW_trans h (hs'.1 b hb)
      · rename_i h
        refine List.pairwise_cons.2 ⟨fun b hb => ?_, putW_sorted r hs'.2⟩
        rcases (mem_putW r b t).1 hb with rfl | hb
        · have := cmpW_neg a b
          omega
        · exact hs'.1 b hb

theorem putW_le (r : List Int) : ∀ L, L.length ≤ (putW r L).length ∧ (putW r L).length ≤ L.length + 1
  | [] => by simp [putW]
  | a :: t => by
    have ih := putW_le r t
    simp only [putW]
    split
    · simp
    · split
      · simp
      · simp only [List.length_cons]; omega

def insW (L : List (List Int)) : List (List Int) := L.foldl (fun o r => putW r o) []

theorem insW_snoc (L : List (List Int)) (k : Nat) (hk : k < L.length) : insW (L.take (k + 1)) = putW (L.getD k []) (insW (L.take k)) := by
  rw [List.take_succ_eq_append_getElem hk]
  unfold insW
  rw [List.foldl_append]
  simp [List.getD, hk]

theorem insW_facts (L : List (List Int)) : SortedW (insW L) ∧ (∀ w, w ∈ insW L ↔ w ∈ L) ∧ (insW L).length ≤ L.length := by
  have main : ∀ (L o : List (List Int)), SortedW o → SortedW (L.foldl (fun o r => putW r o) o) ∧ (∀ w, w ∈ L.foldl (fun o r => putW r o) o ↔ w ∈ o ∨ w ∈ L) ∧ (L.foldl (fun o r => putW r o) o).length ≤ o.length + L.length := by
    intro L
    induction L with
    | nil => intro o h; exact ⟨h, by simp, by simp⟩
    | cons r t ih =>
      intro o h
      obtain ⟨h1, h2, h3⟩ := ih (putW r o) (putW_sorted r h)
      have := putW_le r o
      refine ⟨h1, fun w => ?_, by simp only [List.foldl_cons, List.length_cons]; omega⟩
      rw [List.foldl_cons, h2, mem_putW]
      simp only [List.mem_cons]
      constructor
      · rintro ((h | h) | h)
        · exact Or.inr (Or.inl h)
        · exact Or.inl h
        · exact Or.inr (Or.inr h)
      · rintro (h | h | h)
        · exact Or.inl (Or.inr h)
        · exact Or.inl (Or.inl h)
        · exact Or.inr h
  obtain ⟨h1, h2, h3⟩ := main L [] List.Pairwise.nil
  refine ⟨h1, fun w => ?_, ?_⟩
  · rw [insW, h2]; simp
  · rw [insW]; simpa using h3

/-! ### All reduced words -/

def spellW (c : List (List Int)) : Nat → List Int → List (List Int)
  | 0, _ => [[]]
  | n + 1, v => (descs v v.length).flatMap fun i => (spellW c n (reflW c i.toNat v)).map (i :: ·)

theorem mem_descs {v : List Int} {k : Nat} {i : Int} : i ∈ descs v k ↔ 0 ≤ i ∧ i < k ∧ v.getD i.toNat 0 < 0 := by
  unfold descs
  simp only [List.mem_map, List.mem_filter, List.mem_range, decide_eq_true_eq]
  constructor
  · rintro ⟨j, ⟨h1, h2⟩, rfl⟩
    exact ⟨by omega, by omega, by simpa using h2⟩
  · rintro ⟨h1, h2, h3⟩
    exact ⟨i.toNat, ⟨by omega, h3⟩, by omega⟩

theorem descs_sorted (v : List Int) (k : Nat) : (descs v k).Pairwise (· < ·) := by
  unfold descs
  rw [List.pairwise_map]
  refine List.Pairwise.imp ?_ (List.Pairwise.filter _ List.pairwise_lt_range)
  intro a b h
  omega

theorem spell_mem {c : List (List Int)} (hC : Cartan c) : ∀ (n : Nat) (v : List Int), PlayL c n v → n ≤ 29 → ∀ w, w ∈ spellW c n v ↔ Red c n v w
  | 0, v, P, _, w => by
    have h0 := nf_image hC 0 v 0 P (by omega) (by omega)
    rw [nf_zero] at h0
    constructor
    · intro h
      have e : w = [] := by simpa [spellW] using h
      subst e
      exact ⟨rfl, rfl, h0⟩
    · intro h
      have e : w = [] := List.eq_nil_of_length_eq_zero h.1
      rw [e]
      simp [spellW]
  | n + 1, v, P, hn, w => by
    have hvl := P.1
    rw [spellW]
    simp only [List.mem_flatMap, List.mem_map]
    constructor
    · rintro ⟨i, hi, u, hu, rfl⟩
      obtain ⟨h1, h2, h3⟩ := mem_descs.1 hi
      have hp : isPoint c i = true := by simp [isPoint, inRange]; omega
      obtain ⟨m, e, Q⟩ := P.down hC (by omega) (i := i.toNat) (by omega) h3
      have e2 : m = n := by omega
      subst e2
      exact Red.cons hC P (by omega) hp h3 ((spell_mem hC m _ Q (by omega) u).1 hu)
    · intro R
      cases w with
      | nil => have := R.1; simp at this
      | cons i u =>
        obtain ⟨hp, h3, Q, R'⟩ := R.tail hC P hn
        have p1 := point_of hp
        exact ⟨i, mem_descs.2 ⟨by omega, by omega, h3⟩, u, (spell_mem hC n _ Q (by omega) u).2 R', rfl⟩

theorem lexC_cons (i : Int) (a b : List Int) : lexC (i :: a) (i :: b) = lexC a b := by simp [lexC]

theorem spell_sorted {c : List (List Int)} (hC : Cartan c) : ∀ (n : Nat) (v : List Int), PlayL c n v → n ≤ 29 → SortedW (spellW c n v)
  | 0, v, P, _ => by simp [spellW, SortedW]
  | n + 1, v, P, hn => by
    have hvl := P.1
    have down : ∀ i ∈ descs v v.length, PlayL c n (reflW c i.toNat v) := fun i hi => by
      obtain ⟨h1, h2, h3⟩ := mem_descs.1 hi
      obtain ⟨m, e, Q⟩ := P.down hC (by omega) (i := i.toNat) (by omega) h3
      have e2 : m = n := by omega
      subst e2
      exact Q
    have len : ∀ i ∈ descs v v.length, ∀ u ∈ spellW c n (reflW c i.toNat v), u.length = n := fun i hi u hu => ((spell_mem hC n _ (down i hi) (by omega) u).1 hu).1
    unfold SortedW
    rw [spellW, List.pairwise_flatMap]
    refine ⟨fun i hi => ?_, ?_⟩
    · rw [List.pairwise_map]
      refine List.Pairwise.imp_of_mem ?_ (spell_sorted hC n _ (down i hi) (by omega))
      intro a b ha hb h
      rw [cmpW_lt] at h ⊢
      rcases h with h | h
      · exact Or.inl (by simpa using h)
      · exact Or.inr ⟨by simpa using h.1, by rw [lexC_cons]; exact h.2⟩
    · refine List.Pairwise.imp_of_mem ?_ (descs_sorted v v.length)
      intro i j hi hj hij x hx y hy
      obtain ⟨a, ha, rfl⟩ := List.mem_map.1 hx
      obtain ⟨b, hb, rfl⟩ := List.mem_map.1 hy
      rw [cmpW_lt]
      refine Or.inr ⟨by simp [len i hi a ha, len j hj b hb], ?_⟩
      simp [lexC, hij]

theorem nodup_le : ∀ {A B : List (List Int)}, A.Nodup → (∀ x ∈ A, x ∈ B) → A.length ≤ B.length
  | [], _, _, _ => by simp
  | a :: A, B, hn, h => by
    have hn' := List.nodup_cons.1 hn
    have ha := h a (by simp)
    have ih := nodup_le (A := A) (B := B.erase a) hn'.2 fun x hx => (List.mem_erase_of_ne (fun e => hn'.1 (by rw [← e]; exact hx))).2 (h x (by simp [hx]))
    have hl := List.length_erase_of_mem ha
    have hp : 0 < B.length := List.length_pos_of_mem ha
    simp only [List.length_cons]
    omega

/-- What a search by braid moves has found so far. -/
structure Found (c : List (List Int)) (n : Nat) (v x : List Int) (Q : List (List Int)) : Prop where
  red : ∀ q ∈ Q, Red c n v q
  nodup : Q.Nodup
  head : x ∈ Q

theorem Found.full {c : List (List Int)} (hC : Cartan c) {n : Nat} {v x : List Int} {Q : List (List Int)} (P : PlayL c n v) (hn : n ≤ 15) (F : Found c n v x Q) (h : ∀ q ∈ Q, ∀ k : Nat, brOk c q k = true → braid c q k ∈ Q) : insW Q = spellW c n v := by
  obtain ⟨h1, h2, _⟩ := insW_facts Q
  refine sortedW_one h1 (spell_sorted hC n v P (by omega)) fun w => ?_
  rw [h2, spell_mem hC n v P (by omega)]
  refine ⟨F.red w, fun R => conn_closed (fun q hq b hb => ?_) F.head (conn_all hC n v P (by omega) x w (F.red x F.head) R)⟩
  have R := F.red q hq
  have hw : isWord c q = true := by
    simp only [isWord, Bool.and_eq_true, decide_eq_true_eq]
    exact ⟨⟨(isCartan_iff c).2 hC, by rw [R.1]; exact hn⟩, R.2.1⟩
  obtain ⟨k, _, hk, e⟩ := braid_of_br hw hb
  rw [← e]
  exact h q hq k hk

theorem Found.step {c : List (List Int)} {n : Nat} {v x : List Int} {Q : List (List Int)} (F : Found c n v x Q) (hn : n ≤ 31) {q : List Int} (hq : q ∈ Q) {k : Nat} (hk : brOk c q k = true) (hy : braid c q k ∉ Q) : Found c n v x (Q ++ [braid c q k]) := by
  refine ⟨fun w hw => ?_, ?_, by simp [F.head]⟩
  · rcases List.mem_append.1 hw with hw | hw
    · exact F.red w hw
    · have e : w = braid c q k := by simpa using hw
      rw [e]
      exact (br_of_braid hk).red hn (F.red q hq)
  · rw [List.nodup_append]
    refine ⟨F.nodup, by simp, fun a ha b hb => ?_⟩
    have e : b = braid c q k := by simpa using hb
    rw [e]
    exact fun e => hy (by rw [← e]; exact ha)

theorem Found.le {c : List (List Int)} (hC : Cartan c) {n : Nat} {v x : List Int} {Q : List (List Int)} (P : PlayL c n v) (hn : n ≤ 29) (F : Found c n v x Q) : Q.length ≤ (spellW c n v).length :=
  nodup_le F.nodup fun q hq => (spell_mem hC n v P hn q).2 (F.red q hq)

/-! ### The answer -/

def redAll (c : List (List Int)) (w : List Int) : List (List Int) := spellW c (normF c w).length (imageOf c w)
def redOk (c : List (List Int)) (w : List Int) : Bool := isWord c w && decide ((redAll c w).length ≤ 120)
def reducedWords (c : List (List Int)) (w : List Int) : List (List Int) := if redOk c w then redAll c w else []

theorem normF_red {c : List (List Int)} {w : List Int} (h : isWord c w = true) : PlayL c (normF c w).length (imageOf c w) ∧ (normF c w).length ≤ 15 ∧ Red c (normF c w).length (imageOf c w) (normF c w) := by
  obtain ⟨hC, hl, hw⟩ := word_cartan h
  obtain ⟨n, hn, P⟩ := play_image hC hw (by omega)
  have e : (normF c w).length = n := nf_len hC n _ 31 P (by omega) (by omega)
  refine ⟨by rw [e]; exact P, by omega, rfl, normF_letters hC hw (by omega), normF_image hC hw (by omega)⟩

theorem redOk_off {c : List (List Int)} {w : List Int} (h : isWord c w = false) : redOk c w = false := by simp [redOk, h]
theorem redOk_over {c : List (List Int)} {w : List Int} (h : 120 < (redAll c w).length) : redOk c w = false := by
  have : decide ((redAll c w).length ≤ 120) = false := decide_eq_false (by omega)
  simp [redOk, this]
theorem redOk_on {c : List (List Int)} {w : List Int} (h : isWord c w = true) (h2 : (redAll c w).length ≤ 120) : redOk c w = true := by simp [redOk, h, h2]
theorem reducedWords_off {c : List (List Int)} {w : List Int} (h : redOk c w = false) : reducedWords c w = [] := by simp [reducedWords, h]
theorem reducedWords_on {c : List (List Int)} {w : List Int} (h : redOk c w = true) : reducedWords c w = redAll c w := by simp [reducedWords, h]

end Go.Proofs.Ytkkniibnlniflaa.Hx

namespace Go.Proofs.Ytkkniibnlniflaa.Hx
open Go.RowKit
variable {dm : Bool}

/-- All rows of which F does not hold are as they were. -/
def KeepN (F : Nat → Prop) (h h' : Heap) : Prop := h.length ≤ h'.length ∧ ∀ q, q < h.length → ¬ F q → h'[q]? = h[q]?

def IntsN (F : Nat → Prop) (h : Heap) (x : H0) (l : List Int) : Prop := Ints h x l ∧ ∀ r off n, x = .sl r off n → ¬ F r

def RowsN (F : Nat → Prop) (h : Heap) (x : H0) (L : List (List Int)) : Prop :=
  ∃ xs : List H0, Shows h (.s x) xs ∧ (∀ r off n, x = .sl r off n → ¬ F r) ∧ xs.length = L.length ∧ ∀ (i : Nat) (y : H0) (l : List Int), xs[i]? = some y → L[i]? = some l → IntsN F h y l

theorem KeepN.refl (F : Nat → Prop) (h : Heap) : KeepN F h h := ⟨Nat.le_refl _, fun _ _ _ => rfl⟩
theorem KeepN.ofExt {F : Nat → Prop} {h h' : Heap} (E : Ext h h') : KeepN F h h' := ⟨E.1, fun q hq _ => E.2 q hq⟩
theorem KeepN.trans {F G : Nat → Prop} {h h' h'' : Heap} (k : KeepN F h h') (m : KeepN G h' h'') (hg : ∀ q, q < h.length → G q → F q) : KeepN F h h'' :=
  ⟨Nat.le_trans k.1 m.1, fun q hq hn => by rw [m.2 q (Nat.lt_of_lt_of_le hq k.1) (fun g => hn (hg q hq g))]; exact k.2 q hq hn⟩

theorem Shows.keep {F : Nat → Prop} {h h' : Heap} {x : H0} {l : List H0} (H : Shows h (.s x) l) (hf : ∀ r off n, x = .sl r off n → ¬ F r) (k : KeepN F h h') : Shows h' (.s x) l := by
  cases H with
  | nils a c => exact .nils a c
  | ro r off len cs hr hl => exact .ro r off len cs (by rw [k.2 r (get_lt hr) (hf _ _ _ rfl)]; exact hr) hl
  | own r off len cs hr hl => exact .own r off len cs (by rw [k.2 r (get_lt hr) (hf _ _ _ rfl)]; exact hr) hl

theorem Shows.in_lt {h : Heap} {r off n : Nat} {l : List H0} (H : Shows h (.s (.sl r off n)) l) : r < h.length := by
  cases H with
  | ro _ _ _ cs hr hl => exact get_lt hr
  | own _ _ _ cs hr hl => exact get_lt hr

theorem IntsN.keep {F G : Nat → Prop} {h h' : Heap} {x : H0} {l : List Int} (H : IntsN F h x l) (k : KeepN F h h') (hg : ∀ q, q < h.length → G q → F q) : IntsN G h' x l :=
  ⟨Shows.keep H.1 H.2 k, fun r off n e g => H.2 r off n e (hg r (by
    have := H.1
    subst e
    exact Shows.in_lt this) g)⟩

theorem RowsN.rows {F : Nat → Prop} {h : Heap} {x : H0} {L : List (List Int)} (H : RowsN F h x L) : Rows h x L := by
  obtain ⟨xs, h1, _, h3, h4⟩ := H
  exact ⟨xs, h1, h3, fun i y l a b => (h4 i y l a b).1⟩

theorem RowsN.keep {F G : Nat → Prop} {h h' : Heap} {x : H0} {L : List (List Int)} (H : RowsN F h x L) (k : KeepN F h h') (hg : ∀ q, q < h.length → G q → F q) : RowsN G h' x L := by
  obtain ⟨xs, h1, h2, h3, h4⟩ := H
  refine ⟨xs, h1.keep h2 k, fun r off n e g => h2 r off n e (hg r (by subst e; exact Shows.in_lt h1) g), h3, fun i y l a b => (h4 i y l a b).keep k hg⟩

theorem Rows.noF {h : Heap} {x : H0} {L : List (List Int)} (H : Rows h x L) : RowsN (fun _ => False) h x L := by
  obtain ⟨xs, h1, h3, h4⟩ := H
  exact ⟨xs, h1, fun _ _ _ _ g => g, h3, fun i y l a b => ⟨h4 i y l a b, fun _ _ _ _ g => g⟩⟩

theorem OwnR.keep {F : Nat → Prop} {h h' : Heap} {r : Nat} {x : H0} {l : List Int} (H : OwnR r h x l) (k : KeepN F h h') (hf : ¬ F r) : OwnR r h' x l := by
  have hlt := H.lt
  obtain ⟨t, g1, g2⟩ := H
  exact ⟨t, g1, by rw [k.2 r hlt hf]; exact g2⟩
theorem KeepN.ext {F : Nat → Prop} {hb h h' : Heap} (k : KeepN F h h') (hf : ∀ q, F q → hb.length ≤ q) (E : Ext hb h) : Ext hb h' :=
  ⟨Nat.le_trans E.1 k.1, fun q hq => by rw [k.2 q (Nat.lt_of_lt_of_le hq E.1) (fun f => by have := hf q f; omega)]; exact E.2 q hq⟩

/-- Nothing yet, or a slice of slices whose rows are of F. -/
def OutM (F : Nat → Prop) (h : Heap) (x : H0) (L : List (List Int)) : Prop :=
  (x = .pl (.slice none 0 0) ∧ L = []) ∨ ∃ r ρ, x = .sl r 0 L.length ∧ F r ∧ (∀ i, i < L.length → F (ρ i)) ∧ MatAt h r ρ L

theorem OutM.ext {F : Nat → Prop} {h h' : Heap} {x : H0} {L : List (List Int)} (O : OutM F h x L) (E : Ext h h') : OutM F h' x L := by
  rcases O with O | ⟨r, ρ, g1, g2, g3, m⟩
  · exact Or.inl O
  · exact Or.inr ⟨r, ρ, g1, g2, g3, m.ext E⟩
theorem OutM.weaken {F G : Nat → Prop} {h : Heap} {x : H0} {L : List (List Int)} (O : OutM F h x L) (k : ∀ q, q < h.length → F q → G q) : OutM G h x L := by
  rcases O with O | ⟨r, ρ, g1, g2, g3, m⟩
  · exact Or.inl O
  · exact Or.inr ⟨r, ρ, g1, k _ m.lt.1 g2, fun i hi => k _ (m.lt.2 i hi) (g3 i hi), m⟩

theorem OutM.len {F : Nat → Prop} {h : Heap} {x : H0} {L : List (List Int)} (O : OutM F h x L) {K : HV → Prop} (hK : K (I L.length)) : HLen (.s x) K := by
  rcases O with ⟨rfl, rfl⟩ | ⟨r, ρ, rfl, g2, g3, m⟩
  · exact ⟨0, rfl, hK⟩
  · exact m.rows.len hK

/-- A slice of ints, appended to what is there. -/
theorem HApp.snocO {F : Nat → Prop} {h h2 : Heap} {z y : H0} {L : List (List Int)} {l : List Int} {q : Nat} {K : HV → Heap → Prop} (O : OutM F h z L) (E2 : Ext h h2) (R : OwnR q h2 y l) (hq : h.length ≤ q) (hl : L.length < 2199023255552)
    (hK : ∀ h' z', KeepN F h h' → OutM (fun x => F x ∨ h.length ≤ x) h' z' (L ++ [l]) → K (.s z') h') : HApp (h2 ++ [.own [y]]) (.s z) (.s (.sl h2.length 0 1)) K := by
  have l2 := E2.1
  have hq2 := R.lt
  obtain ⟨t, rfl, hqo⟩ := R
  have hshow : Shows (h2 ++ [.own [.sl q 0 l.length]]) (.s (.sl h2.length 0 1)) [.sl q 0 l.length] := by
    have := Shows.own h2.length 0 1 _ (get_new h2 (.own [.sl q 0 l.length])) (by simp)
    simpa using this
  rcases O with ⟨rfl, rfl⟩ | ⟨r, ρ, rfl, hFr, hFρ, m⟩
  · refine ⟨[.sl q 0 l.length], hshow, by simp [H0.one], by simp, ?_⟩
    rw [if_neg (by simp)]
    refine hK _ _ ⟨by simp; omega, fun p hp _ => ?_⟩ (Or.inr ⟨h2.length + 1, fun _ => q, by simp, Or.inr (by omega), fun i hi => Or.inr hq, ⟨[.sl q 0 l.length], ?_, by simp, fun i hi => ?_⟩, fun i hi => ⟨t, ?_⟩, fun i hi => by omega, fun i j hij hj => by simp at hj; omega⟩)
    · rw [List.getElem?_append_left (by simp; omega), List.getElem?_append_left (by omega)]
      exact E2.2 p hp
    · rw [List.getElem?_append_right (by simp)]
      simp
    · have e : i = 0 := by simp at hi; omega
      subst e
      simp
    · have e : i = 0 := by simp at hi; omega
      subst e
      rw [List.getElem?_append_left (by simp; omega), List.getElem?_append_left (by omega)]
      simpa using hqo
  · obtain ⟨hr2, hρ⟩ := m.lt
    obtain ⟨cs, ho, hcl, hoc⟩ := m.outer
    refine ⟨[.sl q 0 l.length], hshow, by simp [H0.one], cs, rfl, (Ext.push h2 _).row (E2.row ho), hcl, Or.inl ⟨by simp; omega, ?_⟩⟩
    have e1 : L.length + [H0.sl q 0 l.length].length = (L ++ [l]).length := by simp
    rw [e1]
    have old : ∀ p, p < h2.length → p ≠ r → ((h2 ++ [Row.own [.sl q 0 l.length]]).set r .gone ++ [Row.own (cs.take L.length ++ [.sl q 0 l.length])])[p]? = h2[p]? := fun p hp hn => by
      rw [List.getElem?_append_left (by simp; omega), List.getElem?_set_ne (Ne.symm hn), List.getElem?_append_left hp]
    have gd1 : ∀ i, i < L.length → (L ++ [l]).getD i [] = L.getD i [] := fun i hi => by
      simp only [List.getD]
      rw [List.getElem?_append_left hi]
    have gd2 : (L ++ [l]).getD L.length [] = l := by simp [List.getD]
    have hlen : ((h2 ++ [Row.own [.sl q 0 l.length]]).set r .gone ++ [Row.own (cs.take L.length ++ [.sl q 0 l.length])]).length = h2.length + 2 := by simp
    have hqr2 : q ≠ r := by omega
    refine hK _ _ ⟨by rw [hlen]; omega, fun p hp hn => ?_⟩ (Or.inr ⟨h2.length + 1, fun i => if i < L.length then ρ i else q, by simp, Or.inr (by omega), fun i hi => ?_, ⟨cs.take L.length ++ [.sl q 0 l.length], ?_, by simp; omega, fun i hi => ?_⟩, fun i hi => ?_, fun i hi => ?_, fun i j hij hj => ?_⟩)
    · rw [old p (by omega) (fun e => hn (by rw [e]; exact hFr))]
      exact E2.2 p hp
    · by_cases hi2 : i < L.length
      · simp only [hi2, if_true]
        exact Or.inl (hFρ i hi2)
      · show F (if i < L.length then ρ i else q) ∨ h.length ≤ (if i < L.length then ρ i else q)
        rw [if_neg hi2]
        exact Or.inr hq
    · rw [List.getElem?_append_right (by simp)]
      simp
    · by_cases hi2 : i < L.length
      · rw [List.getElem?_append_left (by simp; omega), List.getElem?_take_of_lt hi2, hoc i hi2, gd1 i hi2]
        simp [hi2]
      · have e : i = L.length := by simp at hi; omega
        subst e
        rw [gd2, List.getElem?_append_right (by simp; omega)]
        have : L.length - (cs.take L.length).length = 0 := by simp; omega
        rw [this]
        simp
    · by_cases hi2 : i < L.length
      · obtain ⟨t2, ht2⟩ := m.inner i hi2
        have hb2 := hρ i hi2
        have hne := m.ne i hi2
        refine ⟨t2, ?_⟩
        rw [gd1 i hi2, if_pos hi2, old _ (by omega) hne]
        exact E2.row ht2
      · have e : i = L.length := by simp at hi; omega
        subst e
        refine ⟨t, ?_⟩
        rw [gd2, if_neg (by omega), old _ (by omega) (by omega)]
        exact hqo
    · by_cases hi2 : i < L.length
      · have := hρ i hi2
        simp only [hi2, if_true]
        omega
      · simp only [hi2, if_false]
        omega
    · have hj' : j ≤ L.length := by simp at hj; omega
      have hi2 : i < L.length := by omega
      have := hρ i hi2
      by_cases hj2 : j < L.length
      · simp only [hi2, hj2, if_true]
        exact m.inj i j hij hj2
      · simp only [hi2, hj2, if_true, if_false]
        omega

theorem OwnM.lower {b c e : Nat} {h : Heap} {x : H0} {L : List (List Int)} (H : OwnM b e h x L) (k : c ≤ b) : OwnM c e h x L := by
  obtain ⟨r, ρ, g1, g2, g3, g4, m⟩ := H
  exact ⟨r, ρ, g1, by omega, g3, fun i hi => by have := g4 i hi; omega, m⟩

/-- What comes of the first k descents. -/
def spellTo (c : List (List Int)) (n : Nat) (v : List Int) (k : Nat) : List (List Int) := ((descs v v.length).take k).flatMap fun i => (spellW c n (reflW c i.toNat v)).map (i :: ·)

theorem spellTo_succ (c : List (List Int)) (n : Nat) (v : List Int) {k : Nat} (hk : k < (descs v v.length).length) :
    spellTo c n v (k + 1) = spellTo c n v k ++ (spellW c n (reflW c ((descs v v.length).getD k 0).toNat v)).map ((descs v v.length).getD k 0 :: ·) := by
  unfold spellTo
  rw [List.take_succ_eq_append_getElem hk, List.flatMap_append]
  simp [List.getD, hk]
theorem spellTo_all (c : List (List Int)) (n : Nat) (v : List Int) : spellTo c n v (descs v v.length).length = spellW c (n + 1) v := by
  unfold spellTo
  rw [List.take_length, spellW]
theorem spellTo_pre (c : List (List Int)) (n : Nat) (v : List Int) (k : Nat) : ∃ t, spellW c (n + 1) v = spellTo c n v k ++ t := by
  unfold spellTo
  refine ⟨((descs v v.length).drop k).flatMap fun i => (spellW c n (reflW c i.toNat v)).map (i :: ·), ?_⟩
  rw [spellW, ← List.flatMap_append, List.take_append_drop]

theorem take_full {α : Type} {A B : List α} {n : Nat} (h : (A.take n).length = n) : (A ++ B).take n = A.take n := by
  rw [List.length_take] at h
  exact List.take_append_of_le_length (by omega)
theorem take_part {α : Type} {A : List α} {n : Nat} (h : (A.take (n + 1)).length ≤ n) : A.take (n + 1) = A := by
  rw [List.length_take] at h
  exact List.take_of_length_le (by omega)

theorem no_descents {c : List (List Int)} {n : Nat} {v : List Int} (P : PlayL c n v) (h : (descs v v.length).length = 0) : n = 0 := by
  refine (P.2.stop fun i hi => ?_).1
  by_cases hlt : posOf v i < 0
  · have : (i : Int) ∈ descs v v.length := mem_descs.2 ⟨by omega, by have := P.1; omega, by simpa [posOf] using hlt⟩
    rw [List.eq_nil_of_length_eq_zero h] at this
    simp at this
  · omega
theorem no_descents' {c : List (List Int)} {v : List Int} (hC : Cartan c) (P : PlayL c 0 v) : descs v v.length = [] := by
  cases hd : descs v v.length with
  | nil => rfl
  | cons i t =>
    have hi : i ∈ descs v v.length := by rw [hd]; simp
    obtain ⟨h1, h2, h3⟩ := mem_descs.1 hi
    obtain ⟨m, e, _⟩ := P.down hC (by omega) (i := i.toNat) (by have := P.1; omega) h3
    omega


theorem lib_CloneR (h : Heap) (r : Nat) (x : H0) (l : List Int) (hx : OwnR r h x l) (hl : l.length ≤ 1048576) :
    HCalls dm Try.prog 135 [.s x] h (fun v h' => ∃ y, v = .s y ∧ Fresh h h' y l) := by
  have hi := hx.ints
  obtain ⟨t, rfl, hr⟩ := hx
  refine calls_of_hFun (m := 0) kd_ok mixed Try.func135 rfl (by kernel_rfl) rfl rfl (of_decide_eq_true rfl) ?_; unfold hFun; (conv => whnf)
  refine ⟨rfl, ?_⟩
  (conv => whnf)
  refine HIf.no ?_
  (conv => whnf)
  refine HLit.empty ?_
  (conv => whnf)
  refine ⟨rfl, rfl, HApp.copy hi (by omega) (fun h2 y2 E2 O2 => ?_)⟩
  (conv => whnf)
  exact ⟨_, rfl, Fresh.of E2 O2⟩

set_option maxHeartbeats 1000000 in
theorem impl_spelled {c : List (List Int)} (hC : Cartan c) : ∀ (n : Nat) (h : Heap) (F : Nat → Prop) (xc xv xh xo : H0) (v hd : List Int) (rh : Nat) (L : List (List Int)), (∀ q, F q → q < h.length) → RowsN F h xc c → IntsN F h xv v → OwnR rh h xh hd → ¬ F rh →
    PlayL c n v → n + hd.length ≤ 15 → OutM F h xo L → L.length ≤ 120 →
    HCalls dm Try.prog 83 [.s xc, .s xv, .s xh, .s xo, I 120] h (fun r h' => ∃ y, r = .s y ∧ KeepN F h h' ∧ OutM (fun q => F q ∨ h.length ≤ q) h' y ((L ++ (spellW c n v).map (hd ++ ·)).take 121)) := by
  intro n
  induction n using Nat.strongRecOn with
  | ind n ih =>
  intro h F xc xv xh xo v hd rh L hF hxc hxv hxh hrh P hn O hL
  have hc4 := hC.le
  have hvl := P.1
  have hdl := descs_le v v.length
  refine calls_of_hFun (m := 0) kd_ok mixed Try.func83 rfl (by kernel_rfl) rfl rfl (of_decide_eq_true rfl) ?_; unfold hFun; (conv => whnf)
  refine (impl_descents _ _ v hxv.1 (by omega)).mono ?_
  rintro r h1 ⟨y1, rfl, f1⟩
  obtain ⟨r1, hr1, O1⟩ := f1.row
  have E1 := f1.1
  have hE1 := E1.1
  (conv => whnf)
  refine ⟨rfl, O1.ints.len ?_⟩
  (conv => whnf)
  refine HIf.beq (fun h0 => ?_) (fun h0 => ?_)
  · have e0 := no_descents P (by omega)
    subst e0
    (conv => whnf)
    refine (lib_CloneR _ rh _ hd (hxh.ext E1) (by omega)).mono ?_
    rintro r h2 ⟨y2, rfl, f2⟩
    obtain ⟨r2, hr2, O2⟩ := f2.row
    have E2 := E1.trans f2.1
    (conv => whnf)
    refine HLit.row f2.own.one ?_
    (conv => whnf)
    refine ⟨rfl, rfl, HApp.snocO O E2 O2 (by omega) (by omega) (fun h3 z3 k3 O3 => ?_)⟩
    (conv => whnf)
    refine ⟨_, rfl, k3, ?_⟩
    have e : (L ++ (spellW c 0 v).map (hd ++ ·)).take 121 = L ++ [hd] := by
      rw [spellW, List.map_cons, List.map_nil, List.append_nil]
      exact List.take_of_length_le (by simp; omega)
    rw [e]
    exact O3
  · obtain ⟨m, rfl⟩ : ∃ m, n = m + 1 := by
      cases n with
      | zero => exact absurd (by rw [no_descents' hC P]; rfl) h0
      | succ m => exact ⟨m, rfl⟩
    (conv => whnf)
    refine ⟨rfl, O1.ints.len ?_⟩
    (conv => whnf)
    refine HLoop.intro [27, 3] [28, 29, 30, 13, 31, 32, 33, 34, 35, 36, 37, 14, 38, 39, 40, 41, 42, 43, 44, 45, 46, 47, 48, 49, 50, 51, 3, 52, 27] (by kernel_rfl) (by kernel_rfl) (fun vs h' => ∃ (k : Nat) (z : H0) (G : Nat → Prop), vs = [I k, .s z] ∧ k ≤ (descs v v.length).length ∧ KeepN F h1 h' ∧ (∀ q, G q → (F q ∨ h1.length ≤ q) ∧ q < h'.length) ∧ OutM G h' z ((L ++ (spellTo c m v k).map (hd ++ ·)).take 121)) (fun vs _ => (descs v v.length).length - natAt vs 0) ⟨0, _, F, rfl, by omega, KeepN.refl F h1, fun q hq => ⟨Or.inl hq, by have := hF q hq; omega⟩, by
      have e : (L ++ (spellTo c m v 0).map (hd ++ ·)).take 121 = L := by
        simp only [spellTo, List.take_zero, List.flatMap_nil, List.map_nil, List.append_nil]
        exact List.take_of_length_le (by omega)
      rw [e]
      exact O.ext E1⟩ ?_
    rintro vs h' ⟨k, z, G, rfl, hk, K, hG, OG⟩
    have fromF : ∀ q, q < h1.length → G q → F q := fun q hq g => by
      rcases (hG q g).1 with h | h
      · exact h
      · omega
    have fromF0 : ∀ q, q < h.length → G q → F q := fun q hq g => fromF q (by omega) g
    have hF1 : ∀ q, h.length ≤ q → q < h1.length → ¬ F q := fun q h2 _ g => by have := hF q g; omega
    have k0 : KeepN F h h' := (KeepN.ofExt E1).trans K (fun q _ g => g)
    have xc' := hxc.keep k0 fromF0
    have xv' := hxv.keep k0 fromF0
    have O1' : OwnR r1 h' y1 (descs v v.length) := by
      have hlt := O1.lt
      obtain ⟨t, g1, g2⟩ := O1
      exact ⟨t, g1, by rw [K.2 r1 hlt (hF1 r1 hr1 hlt)]; exact g2⟩
    have xh' : OwnR rh h' xh hd := by
      have hlt := hxh.lt
      obtain ⟨t, g1, g2⟩ := hxh
      exact ⟨t, g1, by rw [k0.2 rh hlt hrh]; exact g2⟩
    have hrhl := hxh.lt
    have hK1 := K.1
    obtain ⟨tt, hpre⟩ := spellTo_pre c m v k
    (conv => whnf)
    refine HIf.dec (fun hlt => ?_) (fun hge => ?_)
    · have hkd : k < (descs v v.length).length := by omega
      have hmem : (descs v v.length).getD k 0 ∈ descs v v.length := by
        have e : (descs v v.length).getD k 0 = (descs v v.length)[k] := by simp [List.getD, hkd]
        rw [e]
        exact List.getElem_mem hkd
      have hstep := spellTo_succ c m v hkd
      obtain ⟨d1, d2, d3⟩ := mem_descs.1 hmem
      obtain ⟨m', em, Pm⟩ := P.down hC (by omega) (i := ((descs v v.length).getD k 0).toNat) (by omega) d3
      have em2 : m' = m := by omega
      subst em2
      (conv => whnf)
      refine ⟨rfl, Ints.idxN O1'.ints hkd (fun p hp => ?_)⟩
      (conv => whnf)
      refine ⟨rfl, hp.load ?_⟩
      (conv => whnf)
      generalize (descs v v.length).getD k 0 = i at *
      refine ⟨rfl, OG.len ?_⟩
      (conv => whnf)
      refine HIf.dec (fun hover => ?_) (fun hfit => ?_)
      · (conv => whnf)
        refine ⟨_, rfl, k0, ?_⟩
        have hlen : ((L ++ (spellTo c m' v k).map (hd ++ ·)).take 121).length = 121 := by
          have := List.length_take_le 121 (L ++ (spellTo c m' v k).map (hd ++ ·))
          omega
        have e : (L ++ (spellW c (m' + 1) v).map (hd ++ ·)).take 121 = (L ++ (spellTo c m' v k).map (hd ++ ·)).take 121 := by
          rw [hpre, List.map_append, ← List.append_assoc]
          exact take_full hlen
        rw [e]
        refine OG.weaken fun q _ g => ?_
        rcases (hG q g).1 with h | h
        · exact Or.inl h
        · exact Or.inr (by omega)
      · have hlen : ((L ++ (spellTo c m' v k).map (hd ++ ·)).take 121).length ≤ 120 := by omega
        have hpart := take_part hlen
        have hi : isPoint c i = true := by simp [isPoint, inRange]; omega
        obtain ⟨ii, rfl⟩ : ∃ ii : Nat, i = ii := ⟨i.toNat, by omega⟩
        rw [hpart] at OG
        have hLl : (L ++ (spellTo c m' v k).map (hd ++ ·)).length ≤ 120 := by rw [← hpart]; exact hlen
        generalize hLk : L ++ (spellTo c m' v k).map (hd ++ ·) = Lk at OG hLl
        (conv => whnf)
        refine HLit.empty ?_
        (conv => whnf)
        refine ⟨rfl, rfl, HApp.moreR (OwnR.push h' []) ((xv'.1).ext (Ext.push _ _)) (by simp; omega) (fun h2 r2 y2 B2 hr2 O2 => ?_)⟩
        have E2 : Ext h' h2 := (Ext.push h' [Row.own []]).but B2 (Nat.le_refl _)
        have hl2 : h'.length ≤ r2 := by simp at hr2; omega
        rw [List.nil_append] at O2
        (conv => whnf)
        refine (impl_reflectedR h' h2 r2 _ _ c ii v xc'.rows E2 hl2 O2 hC (by simp [isPoint, inRange] at hi; omega) hvl).mono ?_
        rintro r h3 ⟨rfl, B3, O3⟩
        have E3 : Ext h' h3 := E2.but B3 hl2
        (conv => whnf)
        refine (lib_CloneR _ rh _ hd (xh'.ext E3) (by omega)).mono ?_
        rintro r h4 ⟨y4, rfl, f4⟩
        obtain ⟨r4, hr4, O4⟩ := f4.row
        have E4 := E3.trans f4.1
        have hE3 := E3.1
        have O3' := O3.ext f4.1
        have hr2l := O3.lt
        (conv => whnf)
        refine HLit.one ?_
        (conv => whnf)
        refine ⟨rfl, rfl, HApp.snocR O4 (by omega) (fun h5 r5 y5 B5 hr5 O5 => ?_)⟩
        have E5 : Ext h' h5 := E4.but B5 (by omega)
        have hE4 := E4.1
        have hE5 := E5.1
        have O3'' := O3'.but B5 (by omega)
        have hnG2 : ¬ G r2 := fun g => by have := (hG r2 g).2; omega
        have hnG5 : ¬ G r5 := fun g => by have := (hG r5 g).2; omega
        have i2 : IntsN G h5 y2 (reflW c ii v) := ⟨O3''.ints, fun r off n e => by
          obtain ⟨t, e2, _⟩ := O3''
          rw [e2] at e
          cases e
          exact hnG2⟩
        (conv => whnf)
        refine (ih m' (by omega) h5 G _ _ _ _ (reflW c ii v) (hd ++ [(ii : Int)]) r5 Lk (fun q g => by have := (hG q g).2; omega) (xc'.keep (KeepN.ofExt E5) (fun q _ g => g)) i2 O5 hnG5 (by simpa using Pm) (by simp; omega) (OG.ext E5) hLl).mono ?_
        rintro r h6 ⟨y6, rfl, k6, O6⟩
        have hk6 := k6.1
        have e : (L ++ (spellTo c m' v (k + 1)).map (hd ++ ·)).take 121 = (Lk ++ (spellW c m' (reflW c ii v)).map ((hd ++ [(ii : Int)]) ++ ·)).take 121 := by
          rw [hstep, List.map_append, ← List.append_assoc, hLk, List.map_map]
          refine congrArg (fun z => (Lk ++ z).take 121) ?_
          have ei : (ii : Int).toNat = ii := by omega
          rw [ei]
          refine List.map_congr_left fun a _ => ?_
          simp
        (conv => whnf)
        refine HArith.fits (by omega) (by omega) ?_
        (conv => whnf)
        refine ⟨⟨k + 1, y6, fun q => (G q ∨ h5.length ≤ q) ∧ q < h6.length, rfl, by omega, K.trans ((KeepN.ofExt E5).trans k6 (fun q _ g => g)) fromF, fun q g => ⟨?_, g.2⟩, ?_⟩, by show (descs v v.length).length - (k + 1) < (descs v v.length).length - k; omega⟩
        · rcases g.1 with g | g
          · exact (hG q g).1
          · exact Or.inr (by omega)
        · rw [e]
          exact O6.weaken fun q hq g => ⟨g, hq⟩
    · have ek : k = (descs v v.length).length := by omega
      subst ek
      rw [spellTo_all] at OG
      (conv => whnf)
      refine ⟨_, rfl, k0, OG.weaken fun q _ g => ?_⟩
      rcases (hG q g).1 with h | h
      · exact Or.inl h
      · exact Or.inr (by omega)

abbrev TM (y : H0) (b : Bool) : HV := .tup [y, .pl (.bool b)]

theorem impl_ReducedWords (h : Heap) (x0 : H0) (a0 : List (List Int)) (x1 : H0) (a1 : List Int) (hx0 : Rows h x0 a0) (hx1 : Ints h x1 a1) (s0 : a0.length ≤ 1048576 ∧ tot a0 ≤ 1048576) (s1 : a1.length ≤ 1048576) :
    HCalls dm Try.prog 21 [.s x0, .s x1] h (fun r h' => ∃ y, r = TM y (redOk a0 a1) ∧ Ext h h' ∧ OwnM h.length h'.length h' y (reducedWords a0 a1)) := by
  refine calls_of_hFun (m := 0) kd_ok mixed Try.func21 rfl (by kernel_rfl) rfl rfl (of_decide_eq_true rfl) ?_; unfold hFun; (conv => whnf)
  refine (impl_IsWord _ _ _ a0 a1 hx0 hx1 (by omega) (by omega)).mono ?_
  rintro r h1 ⟨rfl, hh⟩
  subst h1
  (conv => whnf)
  cases hic : isWord a0 a1
  · rw [redOk_off hic, reducedWords_off (redOk_off hic)]
    (repeat (first | (refine ⟨rfl, Ints.len (by assumption) ?_⟩; conv => whnf) | (refine ⟨rfl, Rows.len (by assumption) ?_⟩; conv => whnf) | (refine ⟨rfl, HLen.sl ?_⟩; conv => whnf) | (refine ⟨rfl, At.load (by assumption) ?_⟩; conv => whnf) | (refine HIf.yes ?_; conv => whnf) | (refine HIf.no ?_; conv => whnf) | (refine HIf.isT (by assumption) ?_; conv => whnf) | (refine HIf.isF (by assumption) ?_; conv => whnf) | (refine HIf.decT (by assumption) ?_; conv => whnf) | (refine HIf.decF (by assumption) ?_; conv => whnf) | (refine HIf.beqT (by assumption) ?_; conv => whnf) | (refine HIf.beqF (by assumption) ?_; conv => whnf) | (refine HIf.bneT (by assumption) ?_; conv => whnf) | (refine HIf.bneF (by assumption) ?_; conv => whnf) | (refine ⟨rfl, Ints.idxN (by assumption) (by omega) (fun p hp => ?_)⟩; conv => whnf) | (refine ⟨rfl, Rows.idxN (by assumption) (by omega) (fun p y hp hy => ?_)⟩; conv => whnf) | (refine And.intro (show Kd.isBool _ = true from rfl) ?_; conv => whnf) | (refine ⟨rfl, Ints.idx (by assumption) (by omega) (by omega) (fun p hp => ?_)⟩; conv => whnf) | (refine ⟨rfl, Rows.idx (by assumption) (by omega) (by omega) (fun p y hp hy => ?_)⟩; conv => whnf) | (refine HArith.fits (by omega) (by omega) ?_; conv => whnf) | (refine Or.inl (And.intro (show Region.lexB _ _ = true by kernel_rfl) ?_); conv => whnf)))
    refine HLit.empty ?_
    (conv => whnf)
    exact ⟨_, rfl, Ext.push _ _, OwnM.none _⟩
  obtain ⟨hC, hl, hw⟩ := word_cartan hic
  obtain ⟨P, hn15, R⟩ := normF_red hic
  (repeat (first | (refine ⟨rfl, Ints.len (by assumption) ?_⟩; conv => whnf) | (refine ⟨rfl, Rows.len (by assumption) ?_⟩; conv => whnf) | (refine ⟨rfl, HLen.sl ?_⟩; conv => whnf) | (refine ⟨rfl, At.load (by assumption) ?_⟩; conv => whnf) | (refine HIf.yes ?_; conv => whnf) | (refine HIf.no ?_; conv => whnf) | (refine HIf.isT (by assumption) ?_; conv => whnf) | (refine HIf.isF (by assumption) ?_; conv => whnf) | (refine HIf.decT (by assumption) ?_; conv => whnf) | (refine HIf.decF (by assumption) ?_; conv => whnf) | (refine HIf.beqT (by assumption) ?_; conv => whnf) | (refine HIf.beqF (by assumption) ?_; conv => whnf) | (refine HIf.bneT (by assumption) ?_; conv => whnf) | (refine HIf.bneF (by assumption) ?_; conv => whnf) | (refine ⟨rfl, Ints.idxN (by assumption) (by omega) (fun p hp => ?_)⟩; conv => whnf) | (refine ⟨rfl, Rows.idxN (by assumption) (by omega) (fun p y hp hy => ?_)⟩; conv => whnf) | (refine And.intro (show Kd.isBool _ = true from rfl) ?_; conv => whnf) | (refine ⟨rfl, Ints.idx (by assumption) (by omega) (by omega) (fun p hp => ?_)⟩; conv => whnf) | (refine ⟨rfl, Rows.idx (by assumption) (by omega) (by omega) (fun p y hp hy => ?_)⟩; conv => whnf) | (refine HArith.fits (by omega) (by omega) ?_; conv => whnf) | (refine Or.inl (And.intro (show Region.lexB _ _ = true by kernel_rfl) ?_); conv => whnf)))
  refine (impl_image _ _ a0 _ a1 hx0 hx1 hC hw s1).mono ?_
  rintro r h1 ⟨y1, rfl, f1⟩
  (conv => whnf)
  refine HLit.empty ?_
  (conv => whnf)
  have E1 := f1.1
  have E2 := E1.pushed [Row.own []]
  have hE1 := E1.1
  refine (impl_spelled hC _ _ (fun _ => False) _ _ _ _ (imageOf a0 a1) [] h1.length [] (fun q g => g.elim) (hx0.ext E2).noF ⟨f1.ints.ext (Ext.push _ _), fun _ _ _ _ g => g⟩ (OwnR.push h1 []) (fun g => g) P (by simpa using hn15) (Or.inl ⟨rfl, rfl⟩) (by simp)).mono ?_
  rintro r h3 ⟨y3, rfl, k3, O3⟩
  have e0 : ([] ++ (spellW a0 (normF a0 a1).length (imageOf a0 a1)).map ([] ++ ·)).take 121 = (redAll a0 a1).take 121 := by
    rw [List.nil_append]
    refine congrArg (List.take 121) ?_
    exact List.map_id _
  rw [e0] at O3
  have E3 : Ext h h3 := E2.trans ⟨k3.1, fun q hq => k3.2 q hq (fun g => g)⟩
  (conv => whnf)
  refine ⟨rfl, O3.len ?_⟩
  (conv => whnf)
  refine HIf.dec (fun hov => ?_) (fun hfit => ?_)
  · have hov2 : 120 < (redAll a0 a1).length := by
      have := List.length_take_le 121 (redAll a0 a1)
      rw [List.length_take] at hov
      omega
    rw [redOk_over hov2, reducedWords_off (redOk_over hov2)]
    (conv => whnf)
    refine HLit.empty ?_
    (conv => whnf)
    exact ⟨_, rfl, E3.pushed _, (OwnM.none h3).lower E3.1⟩
  · have hfit2 : (redAll a0 a1).length ≤ 120 := by
      rw [List.length_take] at hfit
      omega
    rw [redOk_on hic hfit2, reducedWords_on (redOk_on hic hfit2)]
    rw [List.take_of_length_le (by omega)] at O3
    have hne : redAll a0 a1 ≠ [] := fun e => by
      have := (spell_mem hC _ _ P (by omega) _).2 R
      rw [show spellW a0 (normF a0 a1).length (imageOf a0 a1) = [] from e] at this
      simp at this
    (conv => whnf)
    rcases O3 with ⟨_, e⟩ | ⟨r, ρ, rfl, g2, g3, m⟩
    · exact absurd e hne
    refine ⟨_, rfl, E3, r, ρ, rfl, ?_, m.lt.1, fun i hi => ⟨?_, m.lt.2 i hi⟩, m⟩
    · rcases g2 with g | g
      · exact g.elim
      · have := E2.1
        simp at g
        omega
    · rcases g3 i hi with g | g
      · exact g.elim
      · have := E2.1
        simp at g
        omega

end Go.Proofs.Ytkkniibnlniflaa.Hx

namespace Go.Proofs.Ytkkniibnlniflaa.Hx
open Go.RowKit
variable {dm : Bool}

/-- A call in a region that draws its order: whatever it says of rows of one's own that it makes. -/
theorem HCallF.soft {P : Program} {k : FuncId} {args : List HV} {h : Heap} {K : HV → Heap → Prop} {Q : HV → Heap → Prop} (hc : HCalls dm P k args (freeze h) (fun r h' => Ext (freeze h) h' ∧ Q r h'))
    (hK : ∀ r h' h'', Q r h' → Ext (freeze h) h' → Ext h h'' → h''.length = h'.length → (∀ (q : Nat) (cs : List H0), h.length ≤ q → h'[q]? = some (Row.own cs) → h''[q]? = some (Row.own cs)) → K r h'') : HCallF dm P k args h K := by
  refine ⟨⟨hc.enters, fun B0 φ w vargs R a => (hc.out B0 φ w vargs R a).mono ?_⟩⟩
  rintro e w' ⟨v, x, h', φ', rfl, ⟨E, hq⟩, g2, g3, g4, g5⟩
  have hfl := freeze_length h
  have hEl := E.1
  have hget : ∀ (q : Nat) (x : Row), (freeze h ++ (h'.drop h.length).map softRow)[q]? = some x → x ≠ .gone → h'[q]? = some x := fun q x hx hne => by
    by_cases hq : q < h.length
    · rw [List.getElem?_append_left (by omega)] at hx
      rw [E.2 q (by omega)]
      exact hx
    · rw [List.getElem?_append_right (by omega), List.getElem?_map, List.getElem?_drop] at hx
      have e : h.length + (q - (freeze h).length) = q := by omega
      rw [e] at hx
      cases hh : h'[q]? with
      | none => rw [hh] at hx; cases hx
      | some z =>
        rw [hh] at hx
        cases z <;> simp [softRow] at hx
        · exact absurd hx.symm hne
        · rw [hx]
        · exact absurd hx.symm hne
        · rw [hx]
  refine ⟨v, x, freeze h ++ (h'.drop h.length).map softRow, φ', rfl, ⟨(h'.drop h.length).map softRow, rfl, fun z hz => ?_, hK x h' _ hq E (Ext.push _ _) (by simp; omega) (fun q cs hql hcs => ?_)⟩, g2, ?_, g4, g5⟩
  · obtain ⟨z0, _, rfl⟩ := List.mem_map.1 hz
    cases z0 <;> rfl
  · rw [List.getElem?_append_right (by omega), List.getElem?_map, List.getElem?_drop]
    have e : h.length + (q - h.length) = q := by omega
    rw [e, hcs]
    rfl
  · exact g3.soft (by simp; omega) (fun q cs hq => hget q _ hq (by simp)) (fun q cs hq => hget q _ hq (by simp)) (fun q so ks hq => hget q _ hq (by simp))

theorem HCallF.mat {P : Program} {k : FuncId} {args : List HV} {h : Heap} {K : HV → Heap → Prop} {L : List (List Int)} (hc : HCalls dm P k args (freeze h) (fun r h' => ∃ y, r = .s y ∧ Ext (freeze h) h' ∧ OwnM (freeze h).length h'.length h' y L))
    (hK : ∀ h' y, Ext h h' → OwnM h.length h'.length h' y L → K (.s y) h') : HCallF dm P k args h K := by
  refine HCallF.soft (Q := fun r h' => ∃ y, r = .s y ∧ OwnM (freeze h).length h'.length h' y L) (hc.mono fun r h' ⟨y, e, E, O⟩ => ⟨E, y, e, O⟩) ?_
  rintro r h' h'' ⟨y, rfl, q, ρ, rfl, g1, g2, g3, m⟩ E E2 hl hk
  rw [freeze_length] at g1
  refine hK _ _ E2 ⟨q, ρ, rfl, g1, by omega, fun i hi => ?_, m.move ?_ (fun i hi => ?_)⟩
  · have := g3 i hi
    rw [freeze_length] at this
    omega
  · obtain ⟨cs, h1, _⟩ := m.outer
    rw [h1]
    exact hk q cs g1 h1
  · obtain ⟨t, h1⟩ := m.inner i hi
    have := g3 i hi
    rw [freeze_length] at this
    rw [h1]
    exact hk _ _ this.1 h1

theorem HCallF.val {P : Program} {k : FuncId} {args : List HV} {h : Heap} {K : HV → Heap → Prop} {v : HV} (hc : HCalls dm P k args (freeze h) (fun r h' => r = v ∧ Ext (freeze h) h'))
    (hK : ∀ h', Ext h h' → K v h') : HCallF dm P k args h K := by
  refine HCallF.soft (Q := fun r _ => r = v) (hc.mono fun r h' ⟨e, E⟩ => ⟨E, e⟩) ?_
  rintro r h' h'' rfl _ E _ _
  exact hK _ E

theorem Rows.tl {h : Heap} {r off len : Nat} {L : List (List Int)} (H : Rows h (.sl r off len) L) (hl : 1 ≤ len) : Rows h (.sl r (off + 1) (len - 1)) (L.drop 1) := by
  obtain ⟨xs, h1, h2, h3⟩ := H
  have part : ∀ y, Shows h (.s y) (xs.drop 1) → Rows h y (L.drop 1) := fun y hy => ⟨xs.drop 1, hy, by simp; omega, fun i z l a b => h3 (1 + i) z l (by rw [List.getElem?_drop] at a; exact a) (by rw [List.getElem?_drop] at b; exact b)⟩
  generalize hxs : xs = X at h1 part h2
  cases h1 with
  | ro _ _ _ cs hr hl2 =>
    refine part _ ?_
    have := Shows.ro (h := h) r (off + 1) (len - 1) cs hr (by omega)
    rw [List.drop_take, List.drop_drop]
    exact this
  | own _ _ _ cs hr hl2 =>
    refine part _ ?_
    have := Shows.own (h := h) r (off + 1) (len - 1) cs hr (by omega)
    rw [List.drop_take, List.drop_drop]
    exact this

/-- A slice of slices without its first entry. -/
theorem Rows.drop1 {h : Heap} {x : H0} {L : List (List Int)} (H : Rows h x L) (hL : 1 ≤ L.length) {K : HV → Prop} (hK : ∀ y, (∀ h2, Rows h2 x L → Rows h2 y (L.drop 1)) → K (.s y)) : HSlice h (.s x) (some (I ((1 : Nat) : Int))) none K := by
  have H0 := H
  obtain ⟨xs, h1, h2, h3⟩ := H
  generalize hxs : xs = X at h1 h2
  cases h1 with
  | nils b c => simp at h2; omega
  | ro r off len cs hr hl =>
    have e : len = L.length := by simp at h2; omega
    exact ⟨len, 1, len, rfl, Or.inr ⟨.i64, rfl⟩, Or.inl ⟨rfl, rfl⟩, by omega, Or.inl (Nat.le_refl _), hK _ fun h2 H2 => H2.tl (by omega)⟩
  | own r off len cs hr hl =>
    have e : len = L.length := by simp at h2; omega
    exact ⟨len, 1, len, rfl, Or.inr ⟨.i64, rfl⟩, Or.inl ⟨rfl, rfl⟩, by omega, Or.inl (Nat.le_refl _), hK _ fun h2 H2 => H2.tl (by omega)⟩

/-! Bits -/

def bit (m i : Nat) : Bool := m / 2 ^ i % 2 == 1
def setTo (m k : Nat) : List Int := ((List.range k).filter (bit m)).map fun (i : Nat) => (i : Int)
def setB (m : Nat) : List Int := setTo m 4

theorem setTo_none (m : Nat) : setTo m 0 = [] := rfl
theorem setTo_len (m k : Nat) : (setTo m k).length ≤ k := by
  have := List.length_filter_le (bit m) (List.range k)
  simp [setTo] at this ⊢
  exact this
theorem setTo_in {m k : Nat} (h : bit m k = true) : setTo m (k + 1) = setTo m k ++ [(k : Int)] := by
  unfold setTo
  rw [List.range_succ, List.filter_append, List.map_append, List.filter_cons_of_pos h, List.filter_nil]
  rfl
theorem setTo_out {m k : Nat} (h : bit m k = false) : setTo m (k + 1) = setTo m k := by
  unfold setTo
  rw [List.range_succ, List.filter_append, List.map_append, List.filter_cons_of_neg (by rw [h]; decide), List.filter_nil, List.map_nil, List.append_nil]
theorem setTo_all : ∀ i, i < 5 → ∀ m, m < 2 ^ i → setTo m i = setB m := by decide
def fitB (n m : Nat) : Bool := !((setB m).length == 0) && ((List.range (setB m).length).all fun k => decide (0 ≤ (setB m).getD k 0) && decide ((setB m).getD k 0 < (n : Nat))) && ((List.range (setB m).length).all fun k => k == 0 || decide ((setB m).getD (k - 1) 0 < (setB m).getD k 0))
theorem fitB_all : ((List.range 5).all fun n => (List.range (2 ^ n)).all fun m => m == 0 || fitB n m) = true := by decide
theorem setB_fits (n : Nat) (hn : n < 5) (m : Nat) (hm : m < 2 ^ n) (h1 : 1 ≤ m) : (setB m).length ≠ 0 ∧ (∀ k, k < (setB m).length → 0 ≤ (setB m).getD k 0 ∧ (setB m).getD k 0 < (n : Nat)) ∧ (∀ k, k < (setB m).length → k = 0 ∨ (setB m).getD (k - 1) 0 < (setB m).getD k 0) := by
  have h := List.all_eq_true.1 (List.all_eq_true.1 fitB_all n (List.mem_range.2 hn)) m (List.mem_range.2 hm)
  have h0 : (m == 0) = false := by simp; omega
  rw [h0, Bool.false_or] at h
  simp only [fitB, Bool.and_eq_true, Bool.not_eq_true', beq_eq_false_iff_ne] at h
  refine ⟨h.1.1, fun k hk => ?_, fun k hk => ?_⟩
  · have := List.all_eq_true.1 h.1.2 k (List.mem_range.2 hk)
    simpa only [Bool.and_eq_true, decide_eq_true_eq] using this
  · have := List.all_eq_true.1 h.2 k (List.mem_range.2 hk)
    simpa only [Bool.or_eq_true, beq_iff_eq, decide_eq_true_eq] using this
theorem shr_fact : ∀ m, m < 16 → ∀ i, i < 5 → ((m : Nat) : Int).fdiv (2 ^ (min ((i : Nat) : Int).toNat IntKind.i64.bits)) = ((m / 2 ^ i : Nat) : Int) := by decide
theorem and_fact : ∀ v, v < 16 → IntKind.i64.wrap ((BitVec.ofInt IntKind.i64.bits ((v : Nat) : Int) &&& BitVec.ofInt IntKind.i64.bits 1).toNat : Int) = ((v % 2 : Nat) : Int) := by decide
theorem shl_fact : ∀ n, n < 5 → IntKind.i64.wrap (1 * 2 ^ (min ((n : Nat) : Int).toNat IntKind.i64.bits)) = ((2 ^ n : Nat) : Int) := by decide

theorem HShl.one {n : Nat} {K : HV → Prop} (hn : n < 5) (hK : K (I ((2 ^ n : Nat) : Int))) : HShl .i64 1 (n : Int) K := ⟨by omega, by rw [shl_fact n hn]; exact hK⟩
theorem HShr.bits {m i : Nat} {K : HV → Prop} (hm : m < 16) (hi : i < 5) (hK : K (I ((m / 2 ^ i : Nat) : Int))) : HShr .i64 (m : Int) (i : Int) K := ⟨by omega, by rw [shr_fact m hm i hi]; exact hK⟩
theorem HAnd.one {v : Nat} {K : HV → Prop} (hv : v < 16) (hK : K (I ((v % 2 : Nat) : Int))) : HAnd .i64 (v : Int) 1 K := ⟨by rw [and_fact v hv]; exact hK⟩
theorem bit_one {m i : Nat} : ((((m / 2 ^ i % 2 : Nat) : Int)) == 1) = bit m i := by
  unfold bit
  by_cases h : m / 2 ^ i % 2 = 1
  · simp [h]
  · have h2 : m / 2 ^ i % 2 = 0 := by omega
    simp [h2]
theorem pow_le16 {n : Nat} (h : n < 5) : 2 ^ n ≤ 16 := by
  have : 2 ^ n ≤ 2 ^ 4 := Nat.pow_le_pow_right (by omega) (by omega)
  simpa using this
theorem div_pos_iff {m i : Nat} : (((m / 2 ^ i : Nat) : Int) > 0) ↔ ¬ m < 2 ^ i := by
  have : 0 < 2 ^ i := Nat.pow_pos (by omega)
  constructor
  · intro h h2
    rw [Nat.div_eq_of_lt h2] at h
    omega
  · intro h
    have := Nat.div_pos (Nat.le_of_not_lt h) this
    omega

/-! Matrices of some points -/

def pickRow (c : List (List Int)) (o : List Int) (i : Nat) (k : Nat) : List Int := (List.range k).map fun b => ent c i (o.getD b 0).toNat
def pickTo (c : List (List Int)) (o : List Int) (k : Nat) : List (List Int) := (List.range k).map fun a => pickRow c o (o.getD a 0).toNat o.length
def pick (c : List (List Int)) (o : List Int) : List (List Int) := pickTo c o o.length
theorem pickRow_none (c : List (List Int)) (o : List Int) (i : Nat) : pickRow c o i 0 = [] := rfl
theorem pickTo_none (c : List (List Int)) (o : List Int) : pickTo c o 0 = [] := rfl
theorem pickRow_len (c : List (List Int)) (o : List Int) (i k : Nat) : (pickRow c o i k).length = k := by simp [pickRow]
theorem pickTo_len (c : List (List Int)) (o : List Int) (k : Nat) : (pickTo c o k).length = k := by simp [pickTo]
theorem pickRow_succ (c : List (List Int)) (o : List Int) (i k : Nat) : pickRow c o i (k + 1) = pickRow c o i k ++ [ent c i (o.getD k 0).toNat] := by
  unfold pickRow
  rw [List.range_succ, List.map_append]
  rfl
theorem pickTo_succ (c : List (List Int)) (o : List Int) (k : Nat) : pickTo c o (k + 1) = pickTo c o k ++ [pickRow c o (o.getD k 0).toNat o.length] := by
  unfold pickTo
  rw [List.range_succ, List.map_append]
  rfl

/-- A square matrix of small numbers. -/
structure Sq (n : Nat) (m : List (List Int)) : Prop where
  len : m.length = n
  row : ∀ i, i < n → (m.getD i []).length = n
  low : ∀ i j, i < n → j < n → -3 ≤ ent m i j ∧ ent m i j ≤ 3

theorem pick_sq {c : List (List Int)} {o : List Int} (hC : Cartan c) (ho : ∀ k, k < o.length → 0 ≤ o.getD k 0 ∧ o.getD k 0 < c.length) : Sq o.length (pick c o) := by
  have row : ∀ i, i < o.length → (pick c o).getD i [] = pickRow c o (o.getD i 0).toNat o.length := fun i hi => by simp [pick, pickTo, List.getD, hi]
  refine ⟨pickTo_len _ _ _, fun i hi => by rw [row i hi, pickRow_len], fun i j hi hj => ?_⟩
  have e : ent (pick c o) i j = ent c (o.getD i 0).toNat (o.getD j 0).toNat := by
    unfold ent
    rw [row i hi]
    simp [pickRow, List.getD, hj, ent]
  rw [e]
  have h1 := ho i hi
  have h2 := ho j hj
  by_cases hij : (o.getD i 0).toNat = (o.getD j 0).toNat
  · rw [← hij, (matOk hC).diag _ (by omega)]
    omega
  · have := (matOk hC).off (o.getD i 0).toNat (o.getD j 0).toNat (by omega) (by omega) hij
    omega

/-! Determinants -/

def sumTo (f : Nat → Int) : Nat → Int
  | 0 => 0
  | k + 1 => sumTo f k + f k
def minTo (m : List (List Int)) (j : Nat) (k : Nat) : List (List Int) := (List.range k).map fun t => del (m.getD (t + 1) []) (j : Nat)
def sg (j : Nat) : Int := if j % 2 = 0 then 1 else -1
def detZ : Nat → List (List Int) → Int
  | 0, _ => 1
  | n + 1, m => sumTo (fun j => sg j * (ent m 0 j * detZ n (minTo m j n))) (n + 1)
def term (n : Nat) (m : List (List Int)) (j : Nat) : Int := sg j * (ent m 0 j * detZ n (minTo m j n))
theorem detZ_succ (n : Nat) (m : List (List Int)) : detZ (n + 1) m = sumTo (term n m) (n + 1) := rfl
theorem sumTo_none (f : Nat → Int) : sumTo f 0 = 0 := rfl
theorem sumTo_succ (f : Nat → Int) (k : Nat) : sumTo f (k + 1) = sumTo f k + f k := rfl
theorem sg_zero : sg 0 = 1 := rfl
theorem sg_succ (j : Nat) : sg (j + 1) = - sg j := by
  unfold sg
  by_cases h : j % 2 = 0
  · rw [if_pos h, if_neg (by omega)]
  · rw [if_neg h, if_pos (by omega)]
    rfl
theorem sg_cases (j : Nat) : sg j = 1 ∨ sg j = -1 := by
  unfold sg
  split
  · exact Or.inl rfl
  · exact Or.inr rfl
theorem minTo_none (m : List (List Int)) (j : Nat) : minTo m j 0 = [] := rfl
theorem minTo_len (m : List (List Int)) (j k : Nat) : (minTo m j k).length = k := by simp [minTo]
theorem minTo_succ (m : List (List Int)) (j k : Nat) : minTo m j (k + 1) = minTo m j k ++ [del (m.getD (k + 1) []) (j : Nat)] := by
  unfold minTo
  rw [List.range_succ, List.map_append]
  rfl
theorem min_sq {n j : Nat} {m : List (List Int)} (S : Sq (n + 1) m) (hj : j < n + 1) : Sq n (minTo m j n) := by
  have row : ∀ i, i < n → (minTo m j n).getD i [] = del (m.getD (i + 1) []) (j : Nat) := fun i hi => by simp [minTo, List.getD, hi]
  have dl : ∀ i, i < n → (del (m.getD (i + 1) []) (j : Nat)).length = n := fun i hi => by
    have := S.row (i + 1) (by omega)
    rw [del_at]
    simp only [List.length_append, List.length_take, List.length_drop]
    omega
  refine ⟨minTo_len _ _ _, fun i hi => by rw [row i hi]; exact dl i hi, fun i k hi hk => ?_⟩
  have hr := S.row (i + 1) (by omega)
  have hr' : (m[i + 1]?.getD []).length = n + 1 := hr
  have e : ent (minTo m j n) i k = if k < j then ent m (i + 1) k else ent m (i + 1) (k + 1) := by
    unfold ent
    rw [row i hi, del_at]
    split
    · rename_i h
      simp only [List.getD]
      rw [List.getElem?_append_left (by simp; omega), List.getElem?_take_of_lt h]
    · rename_i h
      simp only [List.getD]
      rw [List.getElem?_append_right (by simp; omega), List.getElem?_drop]
      congr 2
      simp only [List.length_take]
      have : min j (m[i + 1]?.getD []).length = j := by
        have : (m[i + 1]?.getD []).length = n + 1 := hr
        omega
      rw [this]
      omega
  rw [e]
  split
  · exact S.low _ _ (by omega) (by omega)
  · exact S.low _ _ (by omega) (by omega)
theorem mul_small {x d : Int} {b : Nat} (h1 : -3 ≤ x ∧ x ≤ 3) (h2 : -(b : Int) ≤ d ∧ d ≤ b) : -(3 * b : Int) ≤ x * d ∧ x * d ≤ 3 * b := by
  have : x = -3 ∨ x = -2 ∨ x = -1 ∨ x = 0 ∨ x = 1 ∨ x = 2 ∨ x = 3 := by omega
  rcases this with h | h | h | h | h | h | h <;> subst h <;> omega
theorem sg_mul {s x : Int} (h : s = 1 ∨ s = -1) : s * x = x ∨ s * x = -x := by
  rcases h with h | h <;> subst h <;> omega
def detB : Nat → Nat
  | 0 => 1
  | n + 1 => (n + 1) * (3 * detB n)
theorem detB_mono : detB 0 = 1 ∧ detB 1 = 3 ∧ detB 2 = 18 ∧ detB 3 = 162 ∧ detB 4 = 1944 := by decide
theorem sumTo_small {f : Nat → Int} {b : Nat} : ∀ k, (∀ j, j < k → -(b : Int) ≤ f j ∧ f j ≤ b) → -((k * b : Nat) : Int) ≤ sumTo f k ∧ sumTo f k ≤ ((k * b : Nat) : Int)
  | 0, _ => by simp [sumTo]
  | k + 1, h => by
    have h1 := sumTo_small k (fun j hj => h j (by omega))
    have h2 := h k (by omega)
    have e : (k + 1) * b = k * b + b := Nat.succ_mul k b
    rw [sumTo, e]
    generalize k * b = q at *
    omega
theorem detZ_small : ∀ (n : Nat) (m : List (List Int)), Sq n m → -(detB n : Int) ≤ detZ n m ∧ detZ n m ≤ detB n
  | 0, m, _ => by simp [detZ, detB]
  | n + 1, m, S => by
    have h := sumTo_small (f := term n m) (b := 3 * detB n) (n + 1) (fun j hj => by
      have h1 := detZ_small n _ (min_sq S hj)
      have h2 := mul_small (S.low 0 j (by omega) hj) h1
      rcases sg_mul (x := ent m 0 j * detZ n (minTo m j n)) (sg_cases j) with e | e <;> unfold term <;> rw [e] <;> omega)
    exact h
theorem term_small {n : Nat} {m : List (List Int)} (hn : n < 4) (S : Sq (n + 1) m) {j : Nat} (hj : j < n + 1) : (-162 ≤ detZ n (minTo m j n) ∧ detZ n (minTo m j n) ≤ 162) ∧ (-486 ≤ ent m 0 j * detZ n (minTo m j n) ∧ ent m 0 j * detZ n (minTo m j n) ≤ 486) ∧ (-486 ≤ term n m j ∧ term n m j ≤ 486) := by
  have h1 := detZ_small n _ (min_sq S hj)
  have hb := detB_mono
  have h3 : n = 0 ∨ n = 1 ∨ n = 2 ∨ n = 3 := by omega
  have h4 : detB n ≤ 162 := by rcases h3 with e | e | e | e <;> subst e <;> omega
  have h2 := mul_small (S.low 0 j (by omega) hj) h1
  refine ⟨by omega, by omega, ?_⟩
  rcases sg_mul (x := ent m 0 j * detZ n (minTo m j n)) (sg_cases j) with e | e <;> unfold term <;> rw [e] <;> omega
theorem sum_small {n : Nat} {m : List (List Int)} (hn : n < 4) (S : Sq (n + 1) m) {k : Nat} (hk : k ≤ n + 1) : -1944 ≤ sumTo (term n m) k ∧ sumTo (term n m) k ≤ 1944 := by
  have h := sumTo_small (f := term n m) (b := 486) k (fun j hj => (term_small hn S (by omega)).2.2)
  omega

def dt (c : List (List Int)) (m : Nat) : Int := detZ (setB m).length (pick c (setB m))
def allPos (c : List (List Int)) : Bool := (List.range (2 ^ c.length - 1)).all fun k => decide (0 < dt c (k + 1))
def isFinite (c : List (List Int)) : Bool := isCartan c && allPos c
theorem allPos_of {c : List (List Int)} (h : ∀ k, k < 2 ^ c.length - 1 → 0 < dt c (k + 1)) : allPos c = true :=
  List.all_eq_true.2 fun k hk => decide_eq_true (h k (List.mem_range.1 hk))
theorem allPos_not {c : List (List Int)} {k : Nat} (hk : k < 2 ^ c.length - 1) (h : dt c (k + 1) ≤ 0) : allPos c = false := by
  rw [Bool.eq_false_iff]
  intro ha
  have := of_decide_eq_true (List.all_eq_true.1 ha k (List.mem_range.2 hk))
  omega

end Go.Proofs.Ytkkniibnlniflaa.Hx

namespace Go.Proofs.Ytkkniibnlniflaa.Hx
open Go.RowKit
variable {dm : Bool}

theorem Fresh.one {h h' : Heap} {x : H0} {l : List Int} (H : Fresh h h' x l) : x.one = true := H.own.one


end Go.Proofs.Ytkkniibnlniflaa.Hx
