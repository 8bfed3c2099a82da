
/-
  Contract of AreSame of the reference.
-/
import Derived.Test.YtlddnnkjpcncoaaGk
namespace Go.Proofs.Ytlddnnkjpcncoaa.Hx
open Go.RowKit


set_option smartUnfolding false

end Go.Proofs.Ytlddnnkjpcncoaa.Hx
