/-
  cofferref03.Turn of the server's record, in parts: cofferref03.Block.
-/
import Derived.Test.YtpbikmlfhipckaaGreatDoorQNSA
namespace Go.Proofs.YtpbikmlfhipckaaGreatDoor
set_option maxRecDepth 1000000
theorem run_ntub3 : ckB (callE' env0 Ix 100000 364 ntub3a ntub3i ntub3n) ntub3v ntub3o ntub3x = true := by decide +kernel
end Go.Proofs.YtpbikmlfhipckaaGreatDoor
