/-
  SessionNone: what the law computes, for any step.
-/
import Derived.Test.YteblflebjhncbaaGreatDoorSRun2
namespace Go.Proofs.YteblflebjhncbaaGreatDoor.SessionNone
open Go.RowKit

theorem walk (x : StepV) (w : World) (hx : StepIn w x) : Calls Tryz.prog 5 #[x.val] w fun e w' => e = .returned (.bool true) ∧ Below w.heap.size w w' := by
  have h := run_none
  cases hr : callE' env0 I1 100000 5 [.agg ssyms] .leaf 38 with
  | none => rw [hr] at h; cases h
  | some r =>
    obtain ⟨v, m, n⟩ := r
    rw [hr] at h
    have hd : denL ⟨fun _ => none, fun i => x.cells[i]?⟩ [.agg ssyms] = some [x.val] :=
      denL_cons.2 ⟨_, _, den_agg_mk (den_ssyms (fun i v hv => hv) hx.wt hx.wg) (by unfold ssyms; rfl), denL_nil _, rfl⟩
    refine (sym_run envOk w (fun i => x.cells[i]?) (nx := 38) (fun b hb => List.getElem?_eq_none (by simpa [StepV.cells] using hb)) (@I1_ok ⟨w, fun i => x.cells[i]?⟩ x hx (fun _ => rfl)) (v := v) (by rw [hr]; rfl) hd).mono ?_
    rintro e w' ⟨ρ', u, -, rfl, h2, h3⟩
    cases v <;> try cases h
    rename_i b
    cases b <;> try cases h
    rw [den_bool] at h2
    cases h2
    exact ⟨rfl, h3.toBelow (Nat.le_refl _) (by simp)⟩
end Go.Proofs.YteblflebjhncbaaGreatDoor.SessionNone
