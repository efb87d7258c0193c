/-
  cofferlaw11.alive: its sectors.
-/
import Derived.Test.YtodehmognjofhaaGreatQNRun
namespace Go.Proofs.YtodehmognjofhaaGreat
open Go.RowKit
set_option maxRecDepth 1000000
noncomputable def flA (c : Nat) : List SV := [.int .u8 (.ofNat c)]
noncomputable def flV (c : Nat) : SV := .str (repN [c] 512)
theorem run_flr : resIs (flV 114) (callE' env0 I0 100000 82 (flA 114) .leaf 0) = true := by decide +kernel
theorem run_fla : resIs (flV 97) (callE' env0 I0 100000 82 (flA 97) .leaf 0) = true := by decide +kernel
theorem run_flb : resIs (flV 98) (callE' env0 I0 100000 82 (flA 98) .leaf 0) = true := by decide +kernel
noncomputable def I11 : CalF := orf 82 (retI (flA 114) (flV 114)) (orf 82 (retI (flA 97) (flV 97)) (orf 82 (retI (flA 98) (flV 98)) I0))
theorem I11_ok [Orig] : FnOk Tryz.prog I11 := orf_ok (ret_ok envOk (fun [Orig] => I0_ok) run_flr (by decide +kernel) rfl) (orf_ok (ret_ok envOk (fun [Orig] => I0_ok) run_fla (by decide +kernel) rfl) (orf_ok (ret_ok envOk (fun [Orig] => I0_ok) run_flb (by decide +kernel) rfl) I0_ok))
end Go.Proofs.YtodehmognjofhaaGreat
