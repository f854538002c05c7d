/- What is known of the program's variables: block, kind, content. -/
import Derived.Calls
import Derived.Lib.ItoaNum
namespace Go.Proofs.YtmbbapeiikifgaaGreatDoor
open Go
inductive GK where
  | tab (k : IntKind) (zs : List Int) | ifc | num (k : IntKind)
def glbs : List (Nat × GK) := [(0, .ifc), (1, .ifc), (2, .tab .u64 Lib.pow10Tab)]
end Go.Proofs.YtmbbapeiikifgaaGreatDoor
