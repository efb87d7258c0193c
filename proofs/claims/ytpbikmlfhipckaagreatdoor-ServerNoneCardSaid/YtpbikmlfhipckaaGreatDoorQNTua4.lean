/-
  cofferref03.Turn of the client's record, in parts: cofferref03.Block.
-/
import Derived.Test.YtpbikmlfhipckaaGreatDoorQNSA
namespace Go.Proofs.YtpbikmlfhipckaaGreatDoor
set_option maxRecDepth 1000000
theorem run_ntua4 : ckB (callE' env0 Ix 100000 364 ntua4a ntua4i ntua4n) ntua4v ntua4o ntua4x = true := by decide +kernel
end Go.Proofs.YtpbikmlfhipckaaGreatDoor
