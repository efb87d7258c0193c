/-
  cofferlaw15.alive by the kernel, in parts: inode.New.
-/
import Derived.Test.YtbeeeafjjkghgaaGreatQNInaD
namespace Go.Proofs.YtbeeeafjjkghgaaGreat
set_option maxRecDepth 1000000
theorem run_nina5 : ckB (callE' env0 Is 100000 11 nina5a nina5i nina5n) nina5v nina5o nina5x = true := by decide +kernel
end Go.Proofs.YtbeeeafjjkghgaaGreat
