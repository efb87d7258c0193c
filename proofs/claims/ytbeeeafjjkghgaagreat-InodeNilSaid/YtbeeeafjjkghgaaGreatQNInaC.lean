/-
  cofferlaw15.alive by the kernel, in parts: all of them as contracts of a run.
-/
import Derived.Test.YtbeeeafjjkghgaaGreatQNIna1
import Derived.Test.YtbeeeafjjkghgaaGreatQNIna2
import Derived.Test.YtbeeeafjjkghgaaGreatQNIna3
import Derived.Test.YtbeeeafjjkghgaaGreatQNIna4
import Derived.Test.YtbeeeafjjkghgaaGreatQNIna5
import Derived.Test.YtbeeeafjjkghgaaGreatQNIna6
namespace Go.Proofs.YtbeeeafjjkghgaaGreat
set_option maxRecDepth 1000000
noncomputable def ninaI : CalF := orf 30 (ckI nina1a nina1i nina1n nina1v nina1o nina1x) (orf 72 (ckI nina2a nina2i nina2n nina2v nina2o nina2x) (orf 11 (ckI nina3a nina3i nina3n nina3v nina3o nina3x) (orf 19 (ckI nina4a nina4i nina4n nina4v nina4o nina4x) (orf 11 (ckI nina5a nina5i nina5n nina5v nina5o nina5x) (orf 13 (ckI nina6a nina6i nina6n nina6v nina6o nina6x) Is)))))
theorem ninaI_ok [Orig] : FnOk Tryz.prog ninaI := orf_ok (ck_ok envOk run_nina1 Is_ok) (orf_ok (ck_ok envOk run_nina2 Is_ok) (orf_ok (ck_ok envOk run_nina3 Is_ok) (orf_ok (ck_ok envOk run_nina4 Is_ok) (orf_ok (ck_ok envOk run_nina5 Is_ok) (orf_ok (ck_ok envOk run_nina6 Is_ok) Is_ok)))))
end Go.Proofs.YtbeeeafjjkghgaaGreat
