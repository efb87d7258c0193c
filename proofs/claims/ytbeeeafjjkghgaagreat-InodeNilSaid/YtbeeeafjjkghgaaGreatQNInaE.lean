/-
  cofferlaw15.alive by the kernel: true in any world.
-/
import Derived.Test.YtbeeeafjjkghgaaGreatQNInaC
namespace Go.Proofs.YtbeeeafjjkghgaaGreat
open Go.RowKit
set_option maxRecDepth 1000000
theorem run_alive15 : trueR (callE' env0 ninaI 100000 22 [] .leaf 0) = true := by decide +kernel
theorem alive15_any (w : World) : Calls Tryz.prog 22 #[] w fun e w' => e = .returned (.bool true) ∧ Touch [] w w' := closed_true envOk (fun [Orig] => ninaI_ok) run_alive15 w
end Go.Proofs.YtbeeeafjjkghgaaGreat
