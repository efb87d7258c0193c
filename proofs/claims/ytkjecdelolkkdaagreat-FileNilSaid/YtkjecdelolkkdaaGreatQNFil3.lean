/-
  cofferlaw16.alive by the kernel, in parts: file.Write.
-/
import Derived.Test.YtkjecdelolkkdaaGreatQNFilD
namespace Go.Proofs.YtkjecdelolkkdaaGreat
set_option maxRecDepth 1000000
theorem run_nfil3 : ckB (callE' env0 Is 100000 5 nfil3a nfil3i nfil3n) nfil3v nfil3o nfil3x = true := by decide +kernel
end Go.Proofs.YtkjecdelolkkdaaGreat
