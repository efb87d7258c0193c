/-
  cofferlaw16.alive by the kernel, in parts: store.Make.
-/
import Derived.Test.YtkjecdelolkkdaaGreatQNFilD
namespace Go.Proofs.YtkjecdelolkkdaaGreat
set_option maxRecDepth 1000000
theorem run_nfil1 : ckB (callE' env0 Is 100000 43 nfil1a nfil1i nfil1n) nfil1v nfil1o nfil1x = true := by decide +kernel
end Go.Proofs.YtkjecdelolkkdaaGreat
