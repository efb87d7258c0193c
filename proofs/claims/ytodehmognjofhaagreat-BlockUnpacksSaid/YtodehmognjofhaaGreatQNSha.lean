/-
  The program's digest of a block, by the kernel: the run.
-/
import Derived.Test.YtodehmognjofhaaGreatQNB
namespace Go.Proofs.YtodehmognjofhaaGreat
open Go.RowKit
set_option maxRecDepth 1000000 in
theorem sha_run : genOk env0 (fun _ _ _ _ => none) 100000 233 23 shaS [] = true := by decide +kernel
end Go.Proofs.YtodehmognjofhaaGreat
