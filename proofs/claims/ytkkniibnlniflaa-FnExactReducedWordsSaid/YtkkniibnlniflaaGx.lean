
/-
  Contracts of braid moves, of the program.
-/
import Derived.Test.YtkkniibnlniflaaGw
namespace Go.Proofs.Ytkkniibnlniflaa.Hx
open Go.RowKit

theorem Fresh.one {h h' : Heap} {x : H0} {l : List Int} (H : Fresh h h' x l) : x.one = true := H.own.one

set_option smartUnfolding false

end Go.Proofs.Ytkkniibnlniflaa.Hx
