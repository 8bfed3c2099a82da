/- The tables of start-up code that the calculus of rows knows of: the block, the cells. -/
import Derived.WalkKit

namespace Go.Proofs.Ytecfgbjddkpkcaa.Hx
def tabG : Nat := 0
def tabI : List Nat := []
def tabE : List Nat := []
def tabs : List (Nat × Array Value) := []
end Go.Proofs.Ytecfgbjddkpkcaa.Hx
