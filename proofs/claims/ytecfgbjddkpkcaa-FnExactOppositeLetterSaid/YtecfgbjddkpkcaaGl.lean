
/-
  Contract of AreSame of the reference.
-/
import Derived.Test.YtecfgbjddkpkcaaGk
namespace Go.Proofs.Ytecfgbjddkpkcaa.Hx
open Go.RowKit


set_option smartUnfolding false

end Go.Proofs.Ytecfgbjddkpkcaa.Hx
