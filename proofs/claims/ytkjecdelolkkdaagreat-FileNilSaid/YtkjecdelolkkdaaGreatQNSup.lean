/-
  The document's digest of one text, by the kernel.
-/
import Derived.Test.YtkjecdelolkkdaaGreatQNRun
namespace Go.Proofs.YtkjecdelolkkdaaGreat
open Go.RowKit
set_option maxRecDepth 1000000
noncomputable def supB : List SV := [.str [67, 79, 70, 77, 1, 0, 0, 0, 0, 0, 0, 0, 77, 0, 0, 0]]
noncomputable def superB : SV := .str [54, 71, 29, 158, 20, 88, 33, 20, 29, 238, 225, 100, 196, 68, 101, 52, 43, 128, 224, 226, 103, 220, 16, 194, 192, 135, 107, 55, 221, 194, 150, 95]
theorem run_supB : resIs superB (callE' env0 I0 100000 194 supB .leaf 0) = true := by decide +kernel
noncomputable def Is : CalF := orf 194 (retI supB superB) I0
theorem Is_ok [Orig] : FnOk Tryz.prog Is := orf_ok (ret_ok envOk (fun [Orig] => I0_ok) run_supB (by decide +kernel) rfl) I0_ok
end Go.Proofs.YtkjecdelolkkdaaGreat
