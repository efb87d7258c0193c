/-
  InodeNil by the kernel, in parts: store.Make.
-/
import Derived.Test.YtbeeeafjjkghgaaGreatQNInbD
namespace Go.Proofs.YtbeeeafjjkghgaaGreat
set_option maxRecDepth 1000000
theorem run_ninb1 : ckB (callE' env0 Is 100000 30 ninb1a ninb1i ninb1n) ninb1v ninb1o ninb1x = true := by decide +kernel
end Go.Proofs.YtbeeeafjjkghgaaGreat
