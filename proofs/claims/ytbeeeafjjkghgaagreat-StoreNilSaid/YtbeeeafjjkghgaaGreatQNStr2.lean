/-
  cofferlaw12.alive by the kernel, in parts: it is mounted.
-/
import Derived.Test.YtbeeeafjjkghgaaGreatQNStrD
namespace Go.Proofs.YtbeeeafjjkghgaaGreat
set_option maxRecDepth 1000000
theorem run_mount1 : ckB (callE' env0 In 100000 32 ck1a ck1i ck1n) ck1v ck1o ck1x = true := by decide +kernel
end Go.Proofs.YtbeeeafjjkghgaaGreat
