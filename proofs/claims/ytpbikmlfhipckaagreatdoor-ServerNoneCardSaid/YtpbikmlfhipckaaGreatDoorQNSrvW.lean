/-
  cofferlaw28.works by the kernel: true in any world.
-/
import Derived.Test.YtpbikmlfhipckaaGreatDoorQNTE
namespace Go.Proofs.YtpbikmlfhipckaaGreatDoor
open Go.RowKit
set_option maxRecDepth 1000000
noncomputable def Isw : CalF := orf 256 (retI tuaA tuaV) (orf 256 (retI tubA tubV) Ix)
theorem Isw_ok [Orig] : FnOk Tryz.prog Isw := orf_ok (ret_ok envOk (fun [Orig] => ntuaI_ok) run_tua (by decide +kernel) rfl) (orf_ok (ret_ok envOk (fun [Orig] => ntubI_ok) run_tub (by decide +kernel) rfl) Ix_ok)
theorem run_works28 : trueR (callE' env0 Isw 100000 4 [] .leaf 0) = true := by decide +kernel
theorem works28_any (w : World) : Calls Tryz.prog 4 #[] w fun e w' => e = .returned (.bool true) ∧ Touch [] w w' := closed_true envOk (fun [Orig] => Isw_ok) run_works28 w
end Go.Proofs.YtpbikmlfhipckaaGreatDoor
