/-
  cofferlaw16.alive by the kernel, in parts: all of them as contracts of a run.
-/
import Derived.Test.YtkjecdelolkkdaaGreatQNFil1
import Derived.Test.YtkjecdelolkkdaaGreatQNFil2
import Derived.Test.YtkjecdelolkkdaaGreatQNFil3
import Derived.Test.YtkjecdelolkkdaaGreatQNFil4
import Derived.Test.YtkjecdelolkkdaaGreatQNFil5
namespace Go.Proofs.YtkjecdelolkkdaaGreat
set_option maxRecDepth 1000000
noncomputable def nfilI : CalF := orf 43 (ckI nfil1a nfil1i nfil1n nfil1v nfil1o nfil1x) (orf 44 (ckI nfil2a nfil2i nfil2n nfil2v nfil2o nfil2x) (orf 5 (ckI nfil3a nfil3i nfil3n nfil3v nfil3o nfil3x) (orf 4 (ckI nfil4a nfil4i nfil4n nfil4v nfil4o nfil4x) (orf 7 (ckI nfil5a nfil5i nfil5n nfil5v nfil5o nfil5x) Is))))
theorem nfilI_ok [Orig] : FnOk Tryz.prog nfilI := orf_ok (ck_ok envOk run_nfil1 Is_ok) (orf_ok (ck_ok envOk run_nfil2 Is_ok) (orf_ok (ck_ok envOk run_nfil3 Is_ok) (orf_ok (ck_ok envOk run_nfil4 Is_ok) (orf_ok (ck_ok envOk run_nfil5 Is_ok) Is_ok))))
end Go.Proofs.YtkjecdelolkkdaaGreat
