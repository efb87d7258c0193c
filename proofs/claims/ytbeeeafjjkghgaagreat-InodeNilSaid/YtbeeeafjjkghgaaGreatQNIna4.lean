/-
  cofferlaw15.alive by the kernel, in parts: inode.Drop.
-/
import Derived.Test.YtbeeeafjjkghgaaGreatQNInaD
namespace Go.Proofs.YtbeeeafjjkghgaaGreat
set_option maxRecDepth 1000000
theorem run_nina4 : ckB (callE' env0 Is 100000 19 nina4a nina4i nina4n) nina4v nina4o nina4x = true := by decide +kernel
end Go.Proofs.YtbeeeafjjkghgaaGreat
