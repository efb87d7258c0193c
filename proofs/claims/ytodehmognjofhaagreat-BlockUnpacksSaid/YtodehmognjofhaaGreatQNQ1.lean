/-
  The document's digest of a block, by the kernel: for any words and bytes.
-/
import Derived.Test.YtodehmognjofhaaGreatQNQD
namespace Go.Proofs.YtodehmognjofhaaGreat
open Go.RowKit
set_option maxRecDepth 1000000 in
theorem q_run : genOk env0 (fun _ _ _ _ => none) 100000 214 20 qS [(6608, qEnd, 92)] = true := by decide +kernel
end Go.Proofs.YtodehmognjofhaaGreat
