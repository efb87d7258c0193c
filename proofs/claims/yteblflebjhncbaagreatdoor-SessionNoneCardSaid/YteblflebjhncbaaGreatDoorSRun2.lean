/-
  SessionNone, by the kernel.
-/
import Derived.Test.YteblflebjhncbaaGreatDoorSRun
namespace Go.Proofs.YteblflebjhncbaaGreatDoor.SessionNone
open Go.RowKit
set_option maxRecDepth 1000000 in
theorem run_none : trueR (callE' env0 I1 100000 5 [.agg ssyms] .leaf 38) = true := by decide +kernel
end Go.Proofs.YteblflebjhncbaaGreatDoor.SessionNone
