/-
  cofferlaw12.alive by the kernel: true in any world.
-/
import Derived.Test.YtbeeeafjjkghgaaGreatQNStr1
import Derived.Test.YtbeeeafjjkghgaaGreatQNStr2
import Derived.Test.YtbeeeafjjkghgaaGreatQNStr3
namespace Go.Proofs.YtbeeeafjjkghgaaGreat
open Go.RowKit
set_option maxRecDepth 1000000
noncomputable def Ia : CalF := orf 86 (ckI ckpa .leaf ckpn ckpv ckpo ckpx) (orf 32 (ckI ck1a ck1i ck1n ck1v ck1o ck1x) (orf 32 (ckI ck2a ck2i ck2n ck2v ck2o ck2x) In))
theorem Ia_ok [Orig] : FnOk Tryz.prog Ia := orf_ok (ck_ok envOk run_made In_ok) (orf_ok (ck_ok envOk run_mount1 In_ok) (orf_ok (ck_ok envOk run_mount2 In_ok) In_ok))
theorem run_alive12 : trueR (callE' env0 Ia 100000 29 [] .leaf 0) = true := by decide +kernel
theorem alive12_any (w : World) : Calls Tryz.prog 29 #[] w fun e w' => e = .returned (.bool true) ∧ Touch [] w w' := closed_true envOk (fun [Orig] => Ia_ok) run_alive12 w
end Go.Proofs.YtbeeeafjjkghgaaGreat
