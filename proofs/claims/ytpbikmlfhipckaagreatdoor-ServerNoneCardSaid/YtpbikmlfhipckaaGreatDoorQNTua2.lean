/-
  cofferref03.Turn of the client's record, in parts: cofferref03.Block.
-/
import Derived.Test.YtpbikmlfhipckaaGreatDoorQNSA
namespace Go.Proofs.YtpbikmlfhipckaaGreatDoor
set_option maxRecDepth 1000000
theorem run_ntua2 : ckB (callE' env0 Ix 100000 364 ntua2a ntua2i ntua2n) ntua2v ntua2o ntua2x = true := by decide +kernel
end Go.Proofs.YtpbikmlfhipckaaGreatDoor
