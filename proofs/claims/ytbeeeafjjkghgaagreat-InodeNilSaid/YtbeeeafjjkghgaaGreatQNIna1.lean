/-
  cofferlaw15.alive by the kernel, in parts: store.Make.
-/
import Derived.Test.YtbeeeafjjkghgaaGreatQNInaD
namespace Go.Proofs.YtbeeeafjjkghgaaGreat
set_option maxRecDepth 1000000
theorem run_nina1 : ckB (callE' env0 Is 100000 30 nina1a nina1i nina1n) nina1v nina1o nina1x = true := by decide +kernel
end Go.Proofs.YtbeeeafjjkghgaaGreat
