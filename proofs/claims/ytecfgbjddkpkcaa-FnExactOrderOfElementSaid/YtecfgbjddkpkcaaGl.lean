
/-
  Contract of AreSame of the reference.
-/
import Derived.Test.YtecfgbjddkpkcaaGk
namespace Go.Proofs.Ytecfgbjddkpkcaa.Hx
open Go.RowKit
variable {dm : Bool}



end Go.Proofs.Ytecfgbjddkpkcaa.Hx
