/-
  cofferlaw12.alive by the kernel, in parts: it is mounted by another epoch.
-/
import Derived.Test.YtbeeeafjjkghgaaGreatQNStrD
namespace Go.Proofs.YtbeeeafjjkghgaaGreat
set_option maxRecDepth 1000000
theorem run_mount2 : ckB (callE' env0 In 100000 32 ck2a ck2i ck2n) ck2v ck2o ck2x = true := by decide +kernel
end Go.Proofs.YtbeeeafjjkghgaaGreat
