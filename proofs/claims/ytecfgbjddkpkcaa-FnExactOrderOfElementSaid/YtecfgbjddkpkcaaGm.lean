
/-
  Contracts of LeftDescents, of the program.
-/
import Derived.Test.YtecfgbjddkpkcaaGk
namespace Go.Proofs.Ytecfgbjddkpkcaa.Hx
open Go.RowKit
variable {dm : Bool}

def descs (v : List Int) (k : Nat) : List Int := ((List.range k).filter fun j => decide (v.getD j 0 < 0)).map fun (j : Nat) => (j : Int)

theorem descs_none (v : List Int) : descs v 0 = [] := rfl
theorem descs_le (v : List Int) (k : Nat) : (descs v k).length ≤ k := by
  have := List.length_filter_le (fun j => decide (v.getD j 0 < 0)) (List.range k)
  simp [descs] at this ⊢
  exact this
theorem descs_in (v : List Int) (k : Nat) (h : v.getD k 0 < 0) : descs v (k + 1) = descs v k ++ [(k : Int)] := by
  unfold descs
  rw [List.range_succ, List.filter_append, List.map_append, List.filter_cons_of_pos (p := fun j => decide (v.getD j 0 < 0)) (decide_eq_true h), List.filter_nil]
  rfl
theorem descs_out (v : List Int) (k : Nat) (h : ¬ v.getD k 0 < 0) : descs v (k + 1) = descs v k := by
  unfold descs
  rw [List.range_succ, List.filter_append, List.map_append, List.filter_cons_of_neg (p := fun j => decide (v.getD j 0 < 0)) (by simp only [decide_eq_true_eq]; exact h), List.filter_nil, List.map_nil, List.append_nil]

def leftDescents (c : List (List Int)) (w : List Int) : List Int := if isWord c w then descs (imageOf c w) c.length else []
theorem leftDescents_length (c : List (List Int)) (w : List Int) : (leftDescents c w).length ≤ c.length := by
  unfold leftDescents
  split
  · exact descs_le _ _
  · simp
theorem leftDescents_off {c : List (List Int)} {w : List Int} (h : isWord c w = false) : leftDescents c w = [] := by simp [leftDescents, h]
theorem leftDescents_on {c : List (List Int)} {w : List Int} (h : isWord c w = true) : leftDescents c w = descs (imageOf c w) (imageOf c w).length := by rw [imageOf_length]; simp [leftDescents, h]

theorem Own.widen {b e e' : Nat} {h : Heap} {x : H0} {l : List Int} (H : Own b e h x l) (k : e ≤ e') : Own b e' h x l := by
  obtain ⟨r, t, g1, g2, g3, hr⟩ := H
  exact ⟨r, t, g1, g2, by omega, hr⟩


end Go.Proofs.Ytecfgbjddkpkcaa.Hx
