/-
  cofferlaw16.alive by the kernel: true in any world.
-/
import Derived.Test.YtkjecdelolkkdaaGreatQNFilC
namespace Go.Proofs.YtkjecdelolkkdaaGreat
open Go.RowKit
set_option maxRecDepth 1000000
theorem run_alive16 : trueR (callE' env0 nfilI 100000 9 [] .leaf 0) = true := by decide +kernel
theorem alive16_any (w : World) : Calls Tryz.prog 9 #[] w fun e w' => e = .returned (.bool true) ∧ Touch [] w w' := closed_true envOk (fun [Orig] => nfilI_ok) run_alive16 w
end Go.Proofs.YtkjecdelolkkdaaGreat
