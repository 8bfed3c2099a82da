
/-
  Contracts of the descents of the reference, of reversed words, of words with a letter left out, of the program and of the reference.
-/
import Derived.Test.YtecfgbjddkpkcaaGn
namespace Go.Proofs.Ytecfgbjddkpkcaa.Hx
open Go.RowKit
variable {dm : Bool}

theorem HApp.snocR {r : Nat} {h : Heap} {y : H0} {l : List Int} {v : Int} {K : HV → Heap → Prop} (H : OwnR r h y l) (hl : l.length < 2199023255552)
    (hK : ∀ h' r' y', But r h h' → h.length ≤ r' → OwnR r' h' y' (l ++ [v]) → K (.s y') h') : HApp (h ++ [.own [ci v]]) (.s y) (.s (.sl h.length 0 1)) K :=
  HApp.litR [v] H (by simp; omega) hK

/-- A list without its entry at a place, if there is one. -/
def del (l : List Int) (n : Int) : List Int := if 0 ≤ n then l.eraseIdx n.toNat else l

theorem del_neg {l : List Int} {n : Int} (h : n < 0) : del l n = l := by
  unfold del
  rw [if_neg (by omega)]
theorem del_off {l : List Int} {n : Int} (h : (l.length : Int) ≤ n) : del l n = l := by
  unfold del
  split
  · exact List.eraseIdx_of_length_le (by omega)
  · rfl
theorem del_ne (l : List Int) (x n : Int) (h : (l.length : Int) ≠ n) : del (l ++ [x]) n = del l n ++ [x] := by
  unfold del
  split
  · by_cases h2 : n.toNat < l.length
    · rw [List.eraseIdx_append_of_lt_length h2]
    · rw [List.eraseIdx_of_length_le (by simp; omega), List.eraseIdx_of_length_le (by omega)]
  · rfl
theorem del_eq (l : List Int) (x : Int) : del (l ++ [x]) l.length = del l l.length := by
  unfold del
  have e : ((l.length : Nat) : Int).toNat = l.length := by omega
  rw [if_pos (by omega), if_pos (by omega), e, List.eraseIdx_append_of_length_le (Nat.le_refl _), List.eraseIdx_of_length_le (l := l) (Nat.le_refl _)]
  simp
theorem del_len (l : List Int) (n : Int) : (del l n).length ≤ l.length := by
  unfold del
  split
  · rw [List.length_eraseIdx]
    split <;> omega
  · exact Nat.le_refl _
theorem del_at (l : List Int) {i : Nat} : del l (i : Int) = l.take i ++ l.drop (i + 1) := by
  unfold del
  rw [if_pos (by omega), List.eraseIdx_eq_take_drop_succ]
  rfl
theorem del_none (n : Int) : del [] n = [] := by
  unfold del
  split
  · rfl
  · rfl
theorem take_snoc (w : List Int) {k : Nat} (h : k < w.length) : w.take (k + 1) = w.take k ++ [w.getD k 0] := by
  rw [List.take_succ_eq_append_getElem h]
  simp [List.getD, h]
theorem drop_rev (w : List Int) {k : Nat} (h : k < w.length) : (w.drop k).reverse = (w.drop (k + 1)).reverse ++ [w.getD k 0] := by
  rw [List.drop_eq_getElem_cons h]
  simp [List.getD, h]

/-- The first i and the last i numbers have changed places. -/
def revTo (l : List Int) (i : Nat) : List Int := (List.range l.length).map fun k => if k < i ∨ l.length ≤ k + i then l.getD (l.length - 1 - k) 0 else l.getD k 0

theorem revTo_length (l : List Int) (i : Nat) : (revTo l i).length = l.length := by simp [revTo]
theorem revTo_get (l : List Int) (i k : Nat) (h : k < l.length) (h1 : i ≤ k) (h2 : k + i < l.length) : (revTo l i).getD k 0 = l.getD k 0 := by
  unfold revTo
  simp only [List.getD, List.getElem?_map, List.getElem?_range h, Option.map_some, Option.getD_some]
  rw [if_neg (by omega)]
theorem revTo_none (l : List Int) : revTo l 0 = l := by
  apply List.ext_getElem (by simp [revTo])
  intro k h1 h2
  simp only [revTo, List.getElem_map, List.getElem_range]
  rw [if_neg (by omega)]
  simp [List.getD, h2]
theorem revTo_all (l : List Int) (i : Nat) (h : l.length ≤ 2 * i + 1) : revTo l i = l.reverse := by
  apply List.ext_getElem (by simp [revTo])
  intro k h1 h2
  simp only [revTo, List.getElem_map, List.getElem_range, List.getElem_reverse]
  have h2 : k < l.length := by simpa using h2
  split
  · have : l.length - 1 - k < l.length := by omega
    simp [List.getD, this]
  · have e : l.length - 1 - k = k := by omega
    simp [List.getD, e, h2]
theorem revTo_succ (l : List Int) (i : Nat) (h : 2 * i + 1 < l.length) : ((revTo l i).set i (l.getD (l.length - 1 - i) 0)).set (l.length - 1 - i) (l.getD i 0) = revTo l (i + 1) := by
  apply List.ext_getElem (by simp [revTo])
  intro k h1 h2
  have h2 : k < l.length := by simpa [revTo] using h2
  simp only [List.getElem_set, revTo, List.getElem_map, List.getElem_range]
  by_cases e1 : l.length - 1 - i = k
  · rw [if_pos e1, if_pos (by omega)]
    have : l.length - 1 - k = i := by omega
    rw [this]
  · rw [if_neg e1]
    by_cases e2 : i = k
    · subst e2
      rw [if_pos rfl, if_pos (by omega)]
    · rw [if_neg e2]
      by_cases e3 : k < i ∨ l.length ≤ k + i
      · rw [if_pos e3, if_pos (by omega)]
      · rw [if_neg e3, if_neg (by omega)]

/-- One number of one's own is written anew. -/
theorem OwnR.store {r : Nat} {h : Heap} {y : H0} {l : List Int} {i : Nat} {v : Int} (H : OwnR r h y l) (hi : i < l.length) :
    ∃ cs, y = .sl r 0 l.length ∧ h[r]? = some (.own cs) ∧ i < cs.length ∧ But r h (h.set r (.own (cs.set i (ci v)))) ∧ OwnR r (h.set r (.own (cs.set i (ci v)))) y (l.set i v) := by
  have hr' := H.lt
  obtain ⟨t, rfl, hr⟩ := H
  refine ⟨_, rfl, hr, by simp; omega, ⟨by simp, fun q _ hn => by rw [List.getElem?_set_ne (Ne.symm hn)]⟩, t, by simp, ?_⟩
  rw [List.getElem?_set_self hr', List.set_append_left _ _ (by simpa using hi), List.map_set]
theorem But.trans {r : Nat} {h h' h'' : Heap} (k : But r h h') (k2 : But r h' h'') : But r h h'' :=
  ⟨Nat.le_trans k.1 k2.1, fun q hq hn => by rw [k2.2 q (Nat.lt_of_lt_of_le hq k.1) hn]; exact k.2 q hq hn⟩
theorem But.refl (r : Nat) (h : Heap) : But r h h := ⟨Nat.le_refl _, fun _ _ _ => rfl⟩

theorem pair_eq {a b : Int} {k : Nat} (h1 : a = k) (h2 : b = k) : a = b := by omega


end Go.Proofs.Ytecfgbjddkpkcaa.Hx
