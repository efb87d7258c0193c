/-
  cofferlaw15.alive by the kernel, in parts: cofferref12.Make.
-/
import Derived.Test.YtbeeeafjjkghgaaGreatQNInaD
namespace Go.Proofs.YtbeeeafjjkghgaaGreat
set_option maxRecDepth 1000000
theorem run_nina2 : ckB (callE' env0 Is 100000 72 nina2a nina2i nina2n) nina2v nina2o nina2x = true := by decide +kernel
end Go.Proofs.YtbeeeafjjkghgaaGreat
