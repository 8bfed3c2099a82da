
/-
  Contract of AreSame of the reference.
-/
import Derived.Test.YtlddnnkjpcncoaaGk
namespace Go.Proofs.Ytlddnnkjpcncoaa.Hx
open Go.RowKit
variable {dm : Bool}



end Go.Proofs.Ytlddnnkjpcncoaa.Hx
