/-
  cofferlaw15.alive by the kernel, in parts: inode.New.
-/
import Derived.Test.YtbeeeafjjkghgaaGreatQNInaD
namespace Go.Proofs.YtbeeeafjjkghgaaGreat
set_option maxRecDepth 1000000
theorem run_nina3 : ckB (callE' env0 Is 100000 11 nina3a nina3i nina3n) nina3v nina3o nina3x = true := by decide +kernel
end Go.Proofs.YtbeeeafjjkghgaaGreat
