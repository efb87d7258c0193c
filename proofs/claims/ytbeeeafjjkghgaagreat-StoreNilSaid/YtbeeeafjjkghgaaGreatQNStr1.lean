/-
  cofferlaw12.alive by the kernel, in parts: a store is made.
-/
import Derived.Test.YtbeeeafjjkghgaaGreatQNStrD
namespace Go.Proofs.YtbeeeafjjkghgaaGreat
set_option maxRecDepth 1000000
theorem run_made : ckB (callE' env0 In 100000 86 ckpa .leaf ckpn) ckpv ckpo ckpx = true := by decide +kernel
end Go.Proofs.YtbeeeafjjkghgaaGreat
