/-
  A run by the kernel: closed contracts; values that come as a run goes.
-/
import Derived.Test.YteblflebjhncbaaGreatDoorE25
namespace Go.Proofs.YteblflebjhncbaaGreatDoor
open Go.RowKit

/-- a function that answers true and leaves memory as it is. -/
noncomputable def yesI (args : List SV) (m : T SObj) (nx : Nat) : Option Res := match args with
  | [] => some (.bool true, m, nx)
  | _ => none
variable [Orig]
theorem yesI_ok {P : Program} {g : FuncId} (hg : ∀ w : World, Calls P g #[] w fun e w' => e = .returned (.bool true) ∧ Touch [] w w') :
    ∀ args m nx r, yesI args m nx = some r → ∀ (ρ : Pl) (us : List Value) (w0 : Base) (w : World), denL ρ args = some us → Emb P ρ m nx w0 w →
    Calls P g us.toArray w fun e w' => ∃ ρ' u, e = .returned u ∧ Le ρ ρ' ∧ den ρ' r.1 = some u ∧ Emb P ρ' r.2.1 r.2.2 w0 w' := by
  intro args m nx r e ρ us w0 w hd hm
  unfold yesI at e
  split at e <;> cases e
  rw [denL_nil] at hd
  cases hd
  refine (hg w).mono ?_
  rintro e w' ⟨rfl, t⟩
  exact ⟨ρ, _, rfl, Le.refl ρ, den_bool _ _, hm.below (t.toBelow (Nat.le_refl _) (by simp))⟩
def Pl.vset (ρ : Pl) (i : Nat) (v : Value) : Pl := ⟨ρ.f, fun j => if j = i then some v else ρ.val j⟩
omit [Orig] in
theorem vset_le {ρ : Pl} {i : Nat} (v : Value) (h : ρ.val i = none) : Le ρ (ρ.vset i v) := by
  refine ⟨fun j u hj => ?_, fun _ _ h => h⟩
  show (if j = i then some v else ρ.val j) = some u
  by_cases e : j = i
  · subst e; rw [h] at hj; cases hj
  · rw [if_neg e]; exact hj
omit [Orig] in
theorem vset_same (ρ : Pl) (i : Nat) (v : Value) : (ρ.vset i v).val i = some v := if_pos rfl
/-- a value that was not known before. -/
theorem Emb.vset {P : Program} {ρ : Pl} {m : T SObj} {nx : Nat} {w0 : Base} {w : World} (h : Emb P ρ m nx w0 w) (v : Value) : Emb P (ρ.vset nx v) m (nx + 1) w0 w ∧ Le ρ (ρ.vset nx v) := by
  have hle := vset_le v (h.x.vfr nx (Nat.le_refl _))
  refine ⟨⟨h.touch, fun b o hb => let ⟨x, ob, a1, a2, a3, a4⟩ := h.obj b o hb; ⟨x, ob, a1, a2, a3, a4.mono hle⟩, h.inj, fun b hb => h.fresh b (by omega), h.old, fun b hb => ⟨Nat.lt_succ_of_lt (h.hole b hb).1, (h.hole b hb).2⟩, fun b hb => ?_, fun i u hi => hle.val i u (h.x.vals i u hi), h.x.org⟩, hle⟩
  show (if b = nx then some v else ρ.val b) = none
  rw [if_neg (by omega)]
  exact h.x.vfr b (by omega)
end Go.Proofs.YteblflebjhncbaaGreatDoor
