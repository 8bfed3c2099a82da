
/-
  Contracts of ActOnRoot, of the program and of the reference.
-/
import Derived.Test.YtecfgbjddkpkcaaGe
namespace Go.Proofs.Ytecfgbjddkpkcaa.Hx
open Go.RowKit
variable {dm : Bool}

theorem lenN (n : Nat) : (((n : Int) - 1 : Int)) = ((n : Int) - 1) := rfl
theorem actR_end (c : List (List Int)) (w r : List Int) : actR c (w.drop w.length) r = r := by rw [List.drop_length]; rfl
theorem actR_all (c : List (List Int)) (w r : List Int) : actR c (w.drop 0) r = actR c w r := by rw [List.drop_zero]

/-- What a letter of a word is. -/
theorem letter {c : List (List Int)} {w : List Int} (h : lettersOk c w = true) {k : Nat} (hk : k < w.length) : ∃ i : Nat, w.getD k 0 = i ∧ i < c.length := by
  have := letters_get h hk
  exact ⟨(w.getD k 0).toNat, by omega, by omega⟩

def intAt (vs : List HV) (k : Nat) : Int := match vs[k]? with
  | some (.s (.pl (.int _ i))) => i
  | _ => 0


end Go.Proofs.Ytecfgbjddkpkcaa.Hx
