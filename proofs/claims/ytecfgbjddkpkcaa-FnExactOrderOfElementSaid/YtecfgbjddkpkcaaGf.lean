
/-
  Contracts of WeightOfRoot, of the program and of the reference.
-/
import Derived.Test.YtecfgbjddkpkcaaGe
namespace Go.Proofs.Ytecfgbjddkpkcaa.Hx
open Go.RowKit
variable {dm : Bool}

theorem Own.none (h : Heap) : Own h.length (h ++ [Row.own []]).length (h ++ [Row.own []]) (.sl h.length 0 0) [] := ⟨h.length, [], rfl, Nat.le_refl _, by simp, get_new _ _⟩
theorem range_none (f : Nat → Int) : (List.range 0).map f = [] := rfl
theorem wrow_len (c : List (List Int)) (r : List Int) (k : Nat) : ((List.range k).map (wrow c r)).length = k := by simp
theorem wrow_dot (c : List (List Int)) (r : List Int) (k : Nat) : dotTo (c.getD k []) r c.length = wrow c r k := rfl


end Go.Proofs.Ytecfgbjddkpkcaa.Hx
