/-
  InodeNil by the kernel, in parts: cofferref12.Make.
-/
import Derived.Test.YtbeeeafjjkghgaaGreatQNInbD
namespace Go.Proofs.YtbeeeafjjkghgaaGreat
set_option maxRecDepth 1000000
theorem run_ninb2 : ckB (callE' env0 Is 100000 72 ninb2a ninb2i ninb2n) ninb2v ninb2o ninb2x = true := by decide +kernel
end Go.Proofs.YtbeeeafjjkghgaaGreat
