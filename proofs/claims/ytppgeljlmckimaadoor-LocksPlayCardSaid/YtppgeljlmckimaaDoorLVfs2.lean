/-
  The known files at hand: out, trim, New, Hits.
-/
import Derived.Test.YtppgeljlmckimaaDoorLVfs
import Derived.Test.YtppgeljlmckimaaDoorMapLen
namespace Go.Proofs.YtppgeljlmckimaaDoor
open Go.RowKit

set_option maxRecDepth 100000 in
set_option maxHeartbeats 1600000 in
/-- An entry that lies alone in the ring is taken out of it. -/
theorem out_alone (w : World) (r n : Nat) (hr hn : List Value) (x y : Value) (R : Ent w r hr x y) (N : Ent w n hn (ptr r) (ptr r)) (hrn : r ≠ n) :
    Calls Tryd.prog 33 #[.pointer (some ⟨n, 0, none⟩)] w fun e w' => e = .returned (.tuple #[]) ∧ Ent w' r hr (ptr r) (ptr r) ∧ Touch [r] w w' := by
  have e14 := R.c14
  have e15 := R.c15
  have d14 := N.c14
  have d15 := N.c15
  unfold ptr at d14 d15
  have f1 := fun o => R.at_.frozen o
  have lr := R.at_.lt
  have ln := N.at_.lt
  have HR := Lib.hid R
  clear R N
  go_enter Tryd.func33, Tryd.ntmps33
  go_wp2
  go_region_held3 (fun W => W.cell? ⟨n, 14, none⟩ = some (.pointer (some ⟨r, 0, none⟩)) ∧ W.cell? ⟨n, 15, none⟩ = some (.pointer (some ⟨r, 0, none⟩))) (first | assumption | (exact ⟨keep_cell (l := [r]) (by repeat' (first | exact Touch.refl _ _ | refine Touch.drew ?_ | refine Touch.setCell ?_ _ (by simp) _)) d14 (by simpa using hrn.symm), keep_cell (l := [r]) (by repeat' (first | exact Touch.refl _ _ | refine Touch.drew ?_ | refine Touch.setCell ?_ _ (by simp) _)) d15 (by simpa using hrn.symm)⟩) | go_keep) (fail)
  all_goals go_wp2_with fail
  all_goals go_end0
  all_goals
    have fin : ∀ wx, Links w r hr (ptr r) (ptr r) wx → Ent wx r hr (ptr r) (ptr r) ∧ Touch [r] w wx := fun wx L => ⟨L.1, L.2⟩
    first
    | exact ⟨rfl, fin _ (links_of HR.out _ _).drew⟩
    | exact ⟨rfl, fin _ (links_of' HR.out _ _).drew⟩

end Go.Proofs.YtppgeljlmckimaaDoor
