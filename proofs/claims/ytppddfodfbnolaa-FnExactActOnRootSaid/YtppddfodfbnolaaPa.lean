
/-
  Plain functions on lists that the contracts name: matrices, words, weights, roots. Nothing of a program is named here.
-/
import Derived.Test.YtppddfodfbnolaaHi
namespace Go.Proofs.Ytppddfodfbnolaa.Hx
open Go.RowKit

abbrev w64 (n : Int) : Int := IntKind.i64.wrap n

/-- An entry of a matrix. -/
def ent (c : List (List Int)) (i j : Nat) : Int := (c.getD i []).getD j 0

def cartBad (c : List (List Int)) (i j : Nat) : Bool :=
  (decide (i = j) && !(ent c i j == 2)) || (!decide (i = j) && (decide (ent c i j < -3) || decide (ent c i j > 0) || !((ent c i j == 0) == (ent c j i == 0))))

def square (c : List (List Int)) : Bool := c.all fun r => decide (r.length = c.length)
def cartIn (c : List (List Int)) : Bool := (List.range c.length).all fun i => (List.range c.length).all fun j => !cartBad c i j
def isCartan (c : List (List Int)) : Bool := decide (1 ≤ c.length) && decide (c.length ≤ 4) && square c && cartIn c

theorem square_row {c : List (List Int)} (h : square c = true) {i : Nat} (hi : i < c.length) : (c.getD i []).length = c.length := by
  have := List.all_eq_true.1 h c[i] (List.getElem_mem hi)
  simpa [List.getD, hi] using this

theorem not_square {c : List (List Int)} {i : Nat} (hi : i < c.length) (h : (c.getD i []).length ≠ c.length) : square c = false := by
  rw [Bool.eq_false_iff]
  exact fun hs => h (square_row hs hi)

theorem square_of {c : List (List Int)} (h : ∀ i, i < c.length → (c.getD i []).length = c.length) : square c = true := by
  refine List.all_eq_true.2 (fun r hr => ?_)
  obtain ⟨i, hi, rfl⟩ := List.getElem_of_mem hr
  have := h i hi
  simpa [List.getD, hi] using this

theorem cartIn_of {c : List (List Int)} (h : ∀ i, i < c.length → ∀ j, j < c.length → cartBad c i j = false) : cartIn c = true := by
  refine List.all_eq_true.2 (fun i hi => List.all_eq_true.2 (fun j hj => ?_))
  rw [h i (List.mem_range.1 hi) j (List.mem_range.1 hj)]
  rfl

theorem cartIn_get {c : List (List Int)} (h : cartIn c = true) {i j : Nat} (hi : i < c.length) (hj : j < c.length) : cartBad c i j = false := by
  have := List.all_eq_true.1 (List.all_eq_true.1 h i (List.mem_range.2 hi)) j (List.mem_range.2 hj)
  simpa using this

theorem not_cartIn {c : List (List Int)} {i j : Nat} (hi : i < c.length) (hj : j < c.length) (h : cartBad c i j = true) : cartIn c = false := by
  rw [Bool.eq_false_iff]
  intro hc
  rw [cartIn_get hc hi hj] at h
  cases h

structure Cartan (c : List (List Int)) : Prop where
  pos : 1 ≤ c.length
  le : c.length ≤ 4
  row : ∀ i, i < c.length → (c.getD i []).length = c.length
  ok : ∀ i, i < c.length → ∀ j, j < c.length → cartBad c i j = false

theorem isCartan_iff (c : List (List Int)) : isCartan c = true ↔ Cartan c := by
  unfold isCartan
  simp only [Bool.and_eq_true, decide_eq_true_eq]
  constructor
  · rintro ⟨⟨⟨h1, h2⟩, h3⟩, h4⟩
    exact ⟨h1, h2, fun i hi => square_row h3 hi, fun i hi j hj => cartIn_get h4 hi hj⟩
  · rintro ⟨h1, h2, h3, h4⟩
    exact ⟨⟨⟨h1, h2⟩, square_of h3⟩, cartIn_of h4⟩

def inRange (n : Int) (x : Int) : Bool := decide (0 ≤ x) && decide (x < n)
def isPoint (c : List (List Int)) (i : Int) : Bool := inRange c.length i
def lettersOk (c : List (List Int)) (w : List Int) : Bool := w.all (isPoint c)
def isWord (c : List (List Int)) (w : List Int) : Bool := isCartan c && decide (w.length ≤ 15) && lettersOk c w

theorem letters_get {c : List (List Int)} {w : List Int} (h : lettersOk c w = true) {i : Nat} (hi : i < w.length) : 0 ≤ w.getD i 0 ∧ w.getD i 0 < c.length := by
  have := List.all_eq_true.1 h w[i] (List.getElem_mem hi)
  simp only [isPoint, inRange, Bool.and_eq_true, decide_eq_true_eq] at this
  simpa [List.getD, hi] using this

theorem letters_of {c : List (List Int)} {w : List Int} (h : ∀ i, i < w.length → 0 ≤ w.getD i 0 ∧ w.getD i 0 < c.length) : lettersOk c w = true := by
  refine List.all_eq_true.2 (fun x hx => ?_)
  obtain ⟨i, hi, rfl⟩ := List.getElem_of_mem hx
  have := h i hi
  simp only [isPoint, inRange, Bool.and_eq_true, decide_eq_true_eq]
  simpa [List.getD, hi] using this

theorem not_letters {c : List (List Int)} {w : List Int} {i : Nat} (hi : i < w.length) (h : ¬ (0 ≤ w.getD i 0 ∧ w.getD i 0 < c.length)) : lettersOk c w = false := by
  rw [Bool.eq_false_iff]
  exact fun hs => h (letters_get hs hi)

def weightOk (v : List Int) : Bool := v.all fun x => decide (-1000 ≤ x) && decide (x ≤ 1000)
def isWeight (c : List (List Int)) (v : List Int) : Bool := isCartan c && decide (v.length = c.length) && weightOk v

theorem weight_of {v : List Int} (h : ∀ i, i < v.length → -1000 ≤ v.getD i 0 ∧ v.getD i 0 ≤ 1000) : weightOk v = true := by
  refine List.all_eq_true.2 (fun x hx => ?_)
  obtain ⟨i, hi, rfl⟩ := List.getElem_of_mem hx
  have := h i hi
  simp only [Bool.and_eq_true, decide_eq_true_eq]
  simpa [List.getD, hi] using this

theorem not_weight {v : List Int} {i : Nat} (hi : i < v.length) (h : ¬ (-1000 ≤ v.getD i 0 ∧ v.getD i 0 ≤ 1000)) : weightOk v = false := by
  rw [Bool.eq_false_iff]
  intro hs
  have := List.all_eq_true.1 hs v[i] (List.getElem_mem hi)
  simp only [Bool.and_eq_true, decide_eq_true_eq] at this
  exact h (by simpa [List.getD, hi] using this)

end Go.Proofs.Ytppddfodfbnolaa.Hx
