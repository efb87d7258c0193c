/-
  cofferref03.Turn of the client's record, in parts: cofferref03.Block.
-/
import Derived.Test.YtpbikmlfhipckaaGreatDoorQNSA
namespace Go.Proofs.YtpbikmlfhipckaaGreatDoor
set_option maxRecDepth 1000000
theorem run_ntua5 : ckB (callE' env0 Ix 100000 364 ntua5a ntua5i ntua5n) ntua5v ntua5o ntua5x = true := by decide +kernel
end Go.Proofs.YtpbikmlfhipckaaGreatDoor
