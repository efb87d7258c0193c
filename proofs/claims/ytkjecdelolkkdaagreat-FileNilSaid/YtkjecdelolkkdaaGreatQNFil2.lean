/-
  cofferlaw16.alive by the kernel, in parts: cofferref12.Make.
-/
import Derived.Test.YtkjecdelolkkdaaGreatQNFilD
namespace Go.Proofs.YtkjecdelolkkdaaGreat
set_option maxRecDepth 1000000
theorem run_nfil2 : ckB (callE' env0 Is 100000 44 nfil2a nfil2i nfil2n) nfil2v nfil2o nfil2x = true := by decide +kernel
end Go.Proofs.YtkjecdelolkkdaaGreat
