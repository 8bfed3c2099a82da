
/-
  Contracts of SimpleRoot and of the sums over rows and roots, of the program and of the reference.
-/
import Derived.Test.YtfibapndkibmiaaFd
import Derived.Test.YtfibapndkibmiaaLc
namespace Go.Proofs.Ytfibapndkibmiaa.Hx
open Go.RowKit
variable {dm : Bool}

/-- A simple root; nothing where no valid matrix or no point is told. -/
def simpleRoot (c : List (List Int)) (i : Int) : List Int := if isCartan c && isPoint c i then (List.replicate c.length (0 : Int)).set i.toNat 1 else []

theorem simpleRoot_length (c : List (List Int)) (i : Int) : (simpleRoot c i).length ≤ c.length := by
  unfold simpleRoot
  split <;> simp

theorem simple_cells (n : Nat) (i : Nat) : (List.replicate n (ci 0)).set i (ci 1) = ((List.replicate n (0 : Int)).set i 1).map ci := by
  rw [← List.map_replicate, List.map_set]

theorem Fresh.intro {h h' : Heap} {x : H0} {l : List Int} (n : Nat) (t : List H0) (cs : List H0) (hx : x = .sl h.length 0 n) (hn : n = l.length) (e : h' = h ++ [.own cs]) (hc : cs = l.map ci ++ t) : Fresh h h' x l := by
  subst e
  subst hx
  subst hn
  refine ⟨Ext.push _ _, h.length, t, rfl, Nat.le_refl _, ?_⟩
  rw [← hc]
  exact get_new _ _

theorem simpleRoot_eq {c : List (List Int)} {i : Int} (h1 : isCartan c = true) (h2 : isPoint c i = true) : simpleRoot c i = (List.replicate c.length (0 : Int)).set i.toNat 1 := by simp [simpleRoot, h1, h2]
theorem simpleRoot_none {c : List (List Int)} {i : Int} (h : isCartan c = false ∨ isPoint c i = false) : simpleRoot c i = [] := by
  unfold simpleRoot
  rcases h with h | h <;> simp [h]

theorem Fresh.none (h : Heap) {l : List Int} (e : l = []) : Fresh h (h ++ [.own []]) (.sl h.length 0 0) l := by
  subst e
  exact Fresh.new h []


end Go.Proofs.Ytfibapndkibmiaa.Hx
