/-
  cofferref03.Turn of the server's record, in parts: cofferref03.Block.
-/
import Derived.Test.YtpbikmlfhipckaaGreatDoorQNSA
namespace Go.Proofs.YtpbikmlfhipckaaGreatDoor
set_option maxRecDepth 1000000
theorem run_ntub4 : ckB (callE' env0 Ix 100000 364 ntub4a ntub4i ntub4n) ntub4v ntub4o ntub4x = true := by decide +kernel
end Go.Proofs.YtpbikmlfhipckaaGreatDoor
