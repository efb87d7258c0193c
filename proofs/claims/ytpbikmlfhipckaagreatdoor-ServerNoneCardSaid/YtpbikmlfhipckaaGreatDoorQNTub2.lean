/-
  cofferref03.Turn of the server's record, in parts: cofferref03.Block.
-/
import Derived.Test.YtpbikmlfhipckaaGreatDoorQNSA
namespace Go.Proofs.YtpbikmlfhipckaaGreatDoor
set_option maxRecDepth 1000000
theorem run_ntub2 : ckB (callE' env0 Ix 100000 364 ntub2a ntub2i ntub2n) ntub2v ntub2o ntub2x = true := by decide +kernel
end Go.Proofs.YtpbikmlfhipckaaGreatDoor
