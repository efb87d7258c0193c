/-
  cofferlaw15.alive by the kernel, in parts: inode.Get.
-/
import Derived.Test.YtbeeeafjjkghgaaGreatQNInaD
namespace Go.Proofs.YtbeeeafjjkghgaaGreat
set_option maxRecDepth 1000000
theorem run_nina6 : ckB (callE' env0 Is 100000 13 nina6a nina6i nina6n) nina6v nina6o nina6x = true := by decide +kernel
end Go.Proofs.YtbeeeafjjkghgaaGreat
