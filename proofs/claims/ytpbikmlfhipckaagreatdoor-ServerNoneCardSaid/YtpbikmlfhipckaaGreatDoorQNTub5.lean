/-
  cofferref03.Turn of the server's record, in parts: cofferref03.Block.
-/
import Derived.Test.YtpbikmlfhipckaaGreatDoorQNSA
namespace Go.Proofs.YtpbikmlfhipckaaGreatDoor
set_option maxRecDepth 1000000
theorem run_ntub5 : ckB (callE' env0 Ix 100000 364 ntub5a ntub5i ntub5n) ntub5v ntub5o ntub5x = true := by decide +kernel
end Go.Proofs.YtpbikmlfhipckaaGreatDoor
