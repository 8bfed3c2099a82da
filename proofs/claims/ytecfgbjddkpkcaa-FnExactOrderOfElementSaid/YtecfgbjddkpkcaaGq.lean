
/-
  Contracts of commuting words, of the roots of a word's letters and of the first two letters that can be left out, of the program and of the reference.
-/
import Derived.Test.YtecfgbjddkpkcaaGp
namespace Go.Proofs.Ytecfgbjddkpkcaa.Hx
open Go.RowKit
variable {dm : Bool}

theorem commute_on {c : List (List Int)} {a b : List Int} (h1 : isWord c a = true) (h2 : isWord c b = true) : decide (imageOf c (a ++ b) = imageOf c (b ++ a)) = commute c a b := by simp [commute, h1, h2]

def rootAt (c : List (List Int)) (w : List Int) (k : Nat) : List Int := actR c (w.take k) ((List.replicate c.length (0 : Int)).set (w.getD k 0).toNat 1)
def rootsTo (c : List (List Int)) (w : List Int) (k : Nat) : List (List Int) := (List.range k).map (rootAt c w)
def rootSeq (c : List (List Int)) (w : List Int) : List (List Int) := if isWord c w then rootsTo c w w.length else []

theorem rootsTo_length (c : List (List Int)) (w : List Int) (k : Nat) : (rootsTo c w k).length = k := by simp [rootsTo]
theorem rootsTo_none (c : List (List Int)) (w : List Int) : rootsTo c w 0 = [] := rfl
theorem rootsTo_succ (c : List (List Int)) (w : List Int) (k : Nat) : rootsTo c w (k + 1) = rootsTo c w k ++ [rootAt c w k] := by
  unfold rootsTo
  rw [List.range_succ, List.map_append]
  rfl
theorem rootAt_length (c : List (List Int)) (w : List Int) (k : Nat) : (rootAt c w k).length = c.length := by simp [rootAt, actR_length]
theorem tot_le (n : Nat) : ∀ L : List (List Int), (∀ l, l ∈ L → l.length ≤ n) → tot L ≤ n * L.length
  | [], _ => by simp [tot]
  | l :: L, h => by
    have h1 := h l (List.mem_cons_self ..)
    have h2 := tot_le n L (fun l hl => h l (List.mem_cons_of_mem _ hl))
    simp only [tot, List.length_cons, Nat.mul_add, Nat.mul_one]
    omega
theorem rootSeq_off {c : List (List Int)} {w : List Int} (h : isWord c w = false) : rootSeq c w = [] := by simp [rootSeq, h]
theorem rootSeq_on {c : List (List Int)} {w : List Int} (h : isWord c w = true) : rootSeq c w = rootsTo c w w.length := by simp [rootSeq, h]
theorem rootSeq_size (c : List (List Int)) (w : List Int) (hc : c.length ≤ 1048576) (hw : w.length ≤ 1048576) : (rootSeq c w).length ≤ 1099511627776 ∧ tot (rootSeq c w) ≤ 1099511627776 := by
  cases h : isWord c w
  · rw [rootSeq_off h]
    exact ⟨by simp, by simp [tot]⟩
  · rw [rootSeq_on h]
    have := tot_le c.length (rootsTo c w w.length) (fun l hl => by
      obtain ⟨k, _, rfl⟩ := List.mem_map.1 hl
      rw [rootAt_length]
      exact Nat.le_refl _)
    rw [rootsTo_length] at this ⊢
    have h2 : c.length * w.length ≤ 1048576 * 1048576 := Nat.mul_le_mul hc hw
    omega
theorem lettersOk_take {c : List (List Int)} {w : List Int} (h : lettersOk c w = true) (k : Nat) : lettersOk c (w.take k) = true := by
  refine List.all_eq_true.2 (fun x hx => List.all_eq_true.1 h x (List.mem_of_mem_take hx))
theorem isWord_take {c : List (List Int)} {w : List Int} (h : isWord c w = true) (k : Nat) : isWord c (w.take k) = true := by
  simp only [isWord, Bool.and_eq_true, decide_eq_true_eq] at h ⊢
  exact ⟨⟨h.1.1, by rw [List.length_take]; omega⟩, lettersOk_take h.2 k⟩
theorem letter_simple {c : List (List Int)} {w : List Int} (h : isWord c w = true) {k : Nat} (hk : k < w.length) : simpleRoot c (w.getD k 0) = (List.replicate c.length (0 : Int)).set (w.getD k 0).toNat 1 := by
  have h2 := h
  simp only [isWord, Bool.and_eq_true, decide_eq_true_eq] at h2
  refine simpleRoot_eq h2.1.1 ?_
  have := List.all_eq_true.1 h2.2 w[k] (List.getElem_mem hk)
  simpa [List.getD, hk] using this
theorem actOn_letter {c : List (List Int)} {w : List Int} (h : isWord c w = true) {k : Nat} (hk : k < w.length) : actOnRoot c (w.take k) (simpleRoot c (w.getD k 0)) = rootAt c w k := by
  rw [letter_simple h hk]
  simp [actOnRoot, isWord_take h, rootAt]

/-- The letters numbers j and i, left out. -/
def del2 (w : List Int) (i j : Nat) : List Int := del (del w j) i
def hit (c : List (List Int)) (w : List Int) (i j : Nat) : Bool := decide (imageOf c (del2 w i j) = imageOf c w)
def firstJ (c : List (List Int)) (w : List Int) (i : Nat) : Option Nat := (List.range w.length).find? fun j => decide (i < j) && hit c w i j
def firstI (c : List (List Int)) (w : List Int) : Option Nat := (List.range w.length).find? fun i => (firstJ c w i).isSome
def delPair (c : List (List Int)) (w : List Int) : Int × Int × Bool :=
  if isWord c w then
    match firstI c w with
    | some i => match firstJ c w i with
      | some j => (i, j, true)
      | none => (-1, -1, false)
    | none => (-1, -1, false)
  else (-1, -1, false)

theorem firstJ_at {c : List (List Int)} {w : List Int} {i j : Nat} (hj : j < w.length) (hij : i < j) (h : hit c w i j = true) (hb : ∀ k, i < k → k < j → hit c w i k = false) : firstJ c w i = some j := by
  unfold firstJ
  rw [List.find?_range_eq_some]
  refine ⟨by simp [hij, h], by simpa using hj, fun k hk => ?_⟩
  by_cases hik : i < k
  · simp [hb k hik hk]
  · simp [hik]
theorem firstJ_none {c : List (List Int)} {w : List Int} {i : Nat} (hb : ∀ k, i < k → k < w.length → hit c w i k = false) : firstJ c w i = none := by
  unfold firstJ
  rw [List.find?_range_eq_none]
  intro k hk
  by_cases hik : i < k
  · simp [hb k hik hk]
  · simp [hik]
theorem delPair_at {c : List (List Int)} {w : List Int} {i j : Nat} (hw : isWord c w = true) (hi : i < w.length) (hj : firstJ c w i = some j) (hb : ∀ k, k < i → firstJ c w k = none) : delPair c w = ((i : Int), (j : Int), true) := by
  have : firstI c w = some i := by
    unfold firstI
    rw [List.find?_range_eq_some]
    refine ⟨by simp [hj], by simpa using hi, fun k hk => by simp [hb k hk]⟩
  simp [delPair, hw, this, hj]
theorem delPair_none {c : List (List Int)} {w : List Int} (hw : isWord c w = true) (hb : ∀ k, k < w.length → firstJ c w k = none) : delPair c w = (-1, -1, false) := by
  have : firstI c w = none := by
    unfold firstI
    rw [List.find?_range_eq_none]
    intro k hk
    simp [hb k hk]
  simp [delPair, hw, this]
theorem delPair_off {c : List (List Int)} {w : List Int} (hw : isWord c w = false) : delPair c w = (-1, -1, false) := by simp [delPair, hw]
theorem lettersOk_del {c : List (List Int)} {w : List Int} (h : lettersOk c w = true) (n : Int) : lettersOk c (del w n) = true := by
  refine List.all_eq_true.2 (fun x hx => List.all_eq_true.1 h x ?_)
  unfold del at hx
  split at hx
  · exact List.mem_of_mem_eraseIdx hx
  · exact hx
theorem del2_len (w : List Int) (i j : Nat) : (del2 w i j).length ≤ w.length := Nat.le_trans (del_len _ _) (del_len _ _)

/-- A pair of results as a tuple. -/
abbrev T3 (p : Int × Int × Bool) : HV := .tup [.pl (.int .i64 p.1), .pl (.int .i64 p.2.1), .pl (.bool p.2.2)]


end Go.Proofs.Ytecfgbjddkpkcaa.Hx
