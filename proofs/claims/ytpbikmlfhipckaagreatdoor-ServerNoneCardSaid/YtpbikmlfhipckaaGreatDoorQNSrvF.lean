/-
  ServerNone: the row's closed facts.
-/
import Derived.Test.YtpbikmlfhipckaaGreatDoorRows
import Derived.ProofKit
import Derived.OpenShut
import Derived.ChangeOld
import Derived.LaidMore
import Derived.Lay
import Derived.SevenTiedAt
import Derived.Stop.Joined
namespace Go.Proofs.YtpbikmlfhipckaaGreatDoor.ServerNone
theorem band {a b : Bool} (h1 : a = true) (h2 : b = true) : (a && b) = true := by rw [h1, h2]; rfl
theorem asc {a b c : Bool} (h : (a && (b && c)) = true) : ((a && b) && c) = true := by rw [Bool.and_assoc]; exact h
set_option maxHeartbeats 16000000 in
theorem facts : joinedFacts Tryz.pinned.checked.prog 3 Tryz.f3 Rows.serverNoneSpec Rows.serverNoneRow = true := by
  unfold joinedFacts
  with_reducible iterate 8 refine asc ?_
  with_reducible refine band ?_ ?_
  with_reducible iterate 9 refine asc ?_
  with_reducible refine band ?_ ?_
  with_reducible iterate 3 refine asc ?_
  with_reducible refine band ?_ ?_
  all_goals (as_aux_lemma => kernel_rfl)
end Go.Proofs.YtpbikmlfhipckaaGreatDoor.ServerNone
