/-
  cofferref03.Turn of the client's record, in parts: cofferref03.Block.
-/
import Derived.Test.YtpbikmlfhipckaaGreatDoorQNSA
namespace Go.Proofs.YtpbikmlfhipckaaGreatDoor
set_option maxRecDepth 1000000
theorem run_ntua3 : ckB (callE' env0 Ix 100000 364 ntua3a ntua3i ntua3n) ntua3v ntua3o ntua3x = true := by decide +kernel
end Go.Proofs.YtpbikmlfhipckaaGreatDoor
