/-
  cofferref03.Turn of the client's record, in parts: cofferref03.Rounds.
-/
import Derived.Test.YtpbikmlfhipckaaGreatDoorQNSA
namespace Go.Proofs.YtpbikmlfhipckaaGreatDoor
set_option maxRecDepth 1000000
theorem run_ntua1 : ckB (callE' env0 Ix 100000 363 ntua1a ntua1i ntua1n) ntua1v ntua1o ntua1x = true := by decide +kernel
end Go.Proofs.YtpbikmlfhipckaaGreatDoor

namespace Go.Proofs.YtpbikmlfhipckaaGreatDoor
set_option maxRecDepth 1000000
theorem run_ntub1 : ckB (callE' env0 Ix 100000 363 ntub1a ntub1i ntub1n) ntub1v ntub1o ntub1x = true := by decide +kernel
end Go.Proofs.YtpbikmlfhipckaaGreatDoor
