/-
  cofferlaw11.alive, by the kernel.
-/
import Derived.Test.YtodehmognjofhaaGreatQJFill
namespace Go.Proofs.YtodehmognjofhaaGreat
open Go.RowKit
set_option maxRecDepth 1000000
theorem run_alive11 : trueR (callE' env0 I11 100000 11 [] .leaf 0) = true := by decide +kernel
theorem alive11_any (w : World) : Calls Tryz.prog 11 #[] w fun e w' => e = .returned (.bool true) ∧ Touch [] w w' := closed_true envOk (fun [Orig] => I11_ok) run_alive11 w
end Go.Proofs.YtodehmognjofhaaGreat
