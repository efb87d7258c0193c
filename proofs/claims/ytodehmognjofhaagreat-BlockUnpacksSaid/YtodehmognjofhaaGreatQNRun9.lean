/-
  cofferlaw09.alive, by the kernel: Filled and the document's digest run by themselves.
-/
import Derived.Test.YtodehmognjofhaaGreatQNRun
namespace Go.Proofs.YtodehmognjofhaaGreat
open Go.RowKit
set_option maxRecDepth 1000000
noncomputable def fillA : List SV := [.str [97]]
noncomputable def filledA : SV := .str (repN [97] 448)
noncomputable def supA : List SV := [.str [67, 79, 70, 77, 1, 0, 0, 0, 0, 0, 0, 0, 7, 0, 0, 0]]
noncomputable def superA : SV := .str [21, 60, 115, 191, 128, 23, 142, 56, 57, 77, 200, 196, 42, 2, 216, 64, 127, 47, 24, 157, 208, 198, 86, 114, 202, 11, 51, 230, 219, 219, 227, 64]
theorem run_filled : resIs filledA (callE' env0 I0 100000 19 fillA .leaf 0) = true := by decide +kernel
theorem run_super : resIs superA (callE' env0 I0 100000 138 supA .leaf 0) = true := by decide +kernel
noncomputable def I9 : CalF := orI 19 (retI fillA filledA) (orI 138 (retI supA superA) I0)
theorem I9_ok [Orig] : FnOk Tryz.prog I9 := orI_ok (ret_ok envOk (fun [Orig] => I0_ok) run_filled (by decide +kernel) rfl) (orI_ok (ret_ok envOk (fun [Orig] => I0_ok) run_super (by decide +kernel) rfl) I0_ok)
theorem run_alive09 : trueR (callE' env0 I9 100000 6 [] .leaf 0) = true := by decide +kernel
theorem alive09_any (w : World) : Calls Tryz.prog 6 #[] w fun e w' => e = .returned (.bool true) ∧ Touch [] w w' := closed_true envOk (fun [Orig] => I9_ok) run_alive09 w
end Go.Proofs.YtodehmognjofhaaGreat
