/-
  InodeNil by the kernel, in parts: all of them as contracts of a run.
-/
import Derived.Test.YtbeeeafjjkghgaaGreatQNInb1
import Derived.Test.YtbeeeafjjkghgaaGreatQNInb2
namespace Go.Proofs.YtbeeeafjjkghgaaGreat
set_option maxRecDepth 1000000
noncomputable def ninbI : CalF := orf 30 (ckI ninb1a ninb1i ninb1n ninb1v ninb1o ninb1x) (orf 72 (ckI ninb2a ninb2i ninb2n ninb2v ninb2o ninb2x) Is)
theorem ninbI_ok [Orig] : FnOk Tryz.prog ninbI := orf_ok (ck_ok envOk run_ninb1 Is_ok) (orf_ok (ck_ok envOk run_ninb2 Is_ok) Is_ok)
end Go.Proofs.YtbeeeafjjkghgaaGreat
