/-
  cofferlaw16.alive by the kernel, in parts: file.Truncate.
-/
import Derived.Test.YtkjecdelolkkdaaGreatQNFilD
namespace Go.Proofs.YtkjecdelolkkdaaGreat
set_option maxRecDepth 1000000
theorem run_nfil5 : ckB (callE' env0 Is 100000 7 nfil5a nfil5i nfil5n) nfil5v nfil5o nfil5x = true := by decide +kernel
end Go.Proofs.YtkjecdelolkkdaaGreat
