
/-
  Contracts of ReflectRoot, ActOnRoot, WeightOfRoot, of the program and of the reference.
-/
import Derived.Test.YtfibapndkibmiaaGd
namespace Go.Proofs.Ytfibapndkibmiaa.Hx
open Go.RowKit
variable {dm : Bool}

def reflectRoot (c : List (List Int)) (i : Int) (r : List Int) : List Int := if isCartan c && decide (r.length = c.length) && isPoint c i then mirror c i.toNat r else r

theorem reflectRoot_length (c : List (List Int)) (i : Int) (r : List Int) : (reflectRoot c i r).length = r.length := by
  unfold reflectRoot
  split
  · exact mirror_length _ _ _
  · rfl

theorem reflectRoot_off {c : List (List Int)} {i : Int} {r : List Int} (h : isCartan c = false ∨ r.length ≠ c.length ∨ isPoint c i = false) : reflectRoot c i r = r := by
  unfold reflectRoot
  rcases h with h | h | h <;> simp [h]

theorem reflectRoot_on {c : List (List Int)} {i : Int} {r : List Int} (h1 : isCartan c = true) (h2 : r.length = c.length) (h3 : isPoint c i = true) : reflectRoot c i r = mirror c i.toNat r := by
  unfold reflectRoot
  simp [h1, h2, h3]

/-- A word applied to a root, from its end. -/
def actR (c : List (List Int)) : List Int → List Int → List Int
  | [], r => r
  | i :: w, r => mirror c i.toNat (actR c w r)

theorem actR_length (c : List (List Int)) : ∀ (w r : List Int), (actR c w r).length = r.length
  | [], _ => rfl
  | i :: w, r => by rw [actR, mirror_length, actR_length c w r]

theorem actR_drop (c : List (List Int)) (w r : List Int) {k : Nat} (h : k < w.length) : actR c (w.drop k) r = mirror c (w.getD k 0).toNat (actR c (w.drop (k + 1)) r) := by
  rw [List.drop_eq_getElem_cons h, actR]
  simp [List.getD, h]

def actOnRoot (c : List (List Int)) (w r : List Int) : List Int := if isWord c w && decide (r.length = c.length) then actR c w r else r

theorem actOnRoot_length (c : List (List Int)) (w r : List Int) : (actOnRoot c w r).length = r.length := by
  unfold actOnRoot
  split
  · exact actR_length _ _ _
  · rfl

theorem actOnRoot_off {c : List (List Int)} {w r : List Int} (h : isWord c w = false ∨ r.length ≠ c.length) : actOnRoot c w r = r := by
  unfold actOnRoot
  rcases h with h | h <;> simp [h]

theorem actOnRoot_on {c : List (List Int)} {w r : List Int} (h1 : isWord c w = true) (h2 : r.length = c.length) : actOnRoot c w r = actR c w r := by
  unfold actOnRoot
  simp [h1, h2]

theorem word_cartan {c : List (List Int)} {w : List Int} (h : isWord c w = true) : Cartan c ∧ w.length ≤ 15 ∧ lettersOk c w = true := by
  simp only [isWord, Bool.and_eq_true, decide_eq_true_eq] at h
  exact ⟨(isCartan_iff c).1 h.1.1, h.1.2, h.2⟩

def wrow (c : List (List Int)) (r : List Int) (k : Nat) : Int := dotTo (c.getD k []) r c.length
def weightOf (c : List (List Int)) (r : List Int) : List Int := if isCartan c && decide (r.length = c.length) then (List.range c.length).map (wrow c r) else []

theorem weightOf_length (c : List (List Int)) (r : List Int) : (weightOf c r).length ≤ c.length := by
  unfold weightOf
  split <;> simp

theorem weightOf_off {c : List (List Int)} {r : List Int} (h : isCartan c = false ∨ r.length ≠ c.length) : weightOf c r = [] := by
  unfold weightOf
  rcases h with h | h <;> simp [h]

theorem weightOf_on {c : List (List Int)} {r : List Int} (h1 : isCartan c = true) (h2 : r.length = c.length) : weightOf c r = (List.range c.length).map (wrow c r) := by
  unfold weightOf
  simp [h1, h2]

theorem wrow_snoc (c : List (List Int)) (r : List Int) (k : Nat) : (List.range (k + 1)).map (wrow c r) = (List.range k).map (wrow c r) ++ [wrow c r k] := by rw [List.range_succ, List.map_append]; rfl

theorem eq_nat {n : Int} (h : 0 ≤ n) : ∃ k : Nat, n = k := ⟨n.toNat, by omega⟩


end Go.Proofs.Ytfibapndkibmiaa.Hx
