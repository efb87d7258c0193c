/-
  cofferlaw16.alive by the kernel, in parts: file.Read.
-/
import Derived.Test.YtkjecdelolkkdaaGreatQNFilD
namespace Go.Proofs.YtkjecdelolkkdaaGreat
set_option maxRecDepth 1000000
theorem run_nfil4 : ckB (callE' env0 Is 100000 4 nfil4a nfil4i nfil4n) nfil4v nfil4o nfil4x = true := by decide +kernel
end Go.Proofs.YtkjecdelolkkdaaGreat
