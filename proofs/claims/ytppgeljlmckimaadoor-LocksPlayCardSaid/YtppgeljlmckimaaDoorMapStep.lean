/-
  The laws of maps at one operation of a region (for go_region_law).
-/
import Derived.Test.YtppgeljlmckimaaDoorMapAt
namespace Go.Proofs.YtppgeljlmckimaaDoor
open Go.RowKit

section
variable {P : Program} {kt : TypeId} {κ : Type} [DecidableEq κ] (KE : KK P kt κ) {ops : Array Oper} {o : Oper} {ac : Act} {w : World} {K : Act → World → Prop} {Q : Exit → Act → World → Prop} {E : Prop}
theorem wanted_plain {o : Oper} (hgd : o.guard = none) (y : Nat → Option Bool) : Region.wanted o y = true := by simp [Region.wanted, hgd]
theorem step_update_imap (hgd : o.guard = none) (m x y : Operand) {t : TypeId} (ho : o.op = .mapUpdate t m x y)
    {e : TypeId} (ht : P.underlying t = some (.map kt e)) {b : Nat} {kv : List (κ × Value)} (hm : ac.eval m = .map (some b)) (h : IMap w KE.f b kv) (k : κ) (hx : ac.eval x = KE.f k) (v : Value) (hv : ac.eval y = v)
    (hK : ∀ w', IMap w' KE.f b (putKey kv k v) → Touch [b] w w' → K (ac.put o.dst undef) w') : if Region.wanted o (yielded ops ac.tmps) = true then Oper.wp P o ac w K Q else E := by
  rw [if_pos (show Region.wanted o (yielded ops ac.tmps) = true from wanted_plain hgd _)]
  obtain ⟨w', hr, h1, h2⟩ := run_update_imap KE w ht h k v
  unfold Oper.wp execOp
  simp only [ho, Sem.run_bind, hm, hx, hv, hr, Result.andThen_ok, Sem.run_pure]
  exact hK w' h1 h2
theorem step_delete_imap (hgd : o.guard = none) (m x : Operand) {t : TypeId} (ho : o.op = .call { callee := .builtin .delete, args := #[m, x], argTypes := #[t, kt] })
    {e : TypeId} (ht : P.underlying t = some (.map kt e)) {b : Nat} {kv : List (κ × Value)} (hm : ac.eval m = .map (some b)) (h : IMap w KE.f b kv) (k : κ) (hx : ac.eval x = KE.f k)
    (hK : ∀ w', IMap w' KE.f b (delKey kv k) → Touch [b] w w' → K (ac.put o.dst (.tuple #[])) w') : if Region.wanted o (yielded ops ac.tmps) = true then Oper.wp P o ac w K Q else E := by
  rw [if_pos (show Region.wanted o (yielded ops ac.tmps) = true from wanted_plain hgd _)]
  obtain ⟨w', hr, h1, h2⟩ := run_delete_imap KE w ht h k o.type
  unfold Oper.wp execOp
  simp only [ho, resolve, invoke, builtin, Sem.run_bind, Sem.run_pure, Result.andThen_ok, List.map_toArray, List.map_cons, List.map_nil, hm, hx, hr]
  exact hK w' h1 h2
theorem wpList_insert_imap {rest : List Oper} (hgd : o.guard = none) (m x y : Operand) {t : TypeId} (ho : o.op = .insert t m x y)
    {e : TypeId} (ht : P.underlying t = some (.map kt e)) {b : Nat} {kv : List (κ × Value)} (hm : ac.eval m = .map (some b)) (h : IMap w KE.f b kv) (k : κ) (hx : ac.eval x = KE.f k) (v : Value) (hv : ac.eval y = v)
    (hK : ∀ w', IMap w' KE.f b (putKey kv k v) → Touch [b] w w' → wpList P ops Q rest (ac.put o.dst undef) w') : wpList P ops Q (o :: rest) ac w :=
  wpList_plain hgd fun K' hK' => by
    obtain ⟨w', hr, h1, h2⟩ := run_update_imap KE w ht h k v
    unfold Oper.wp execOp
    simp only [ho, Sem.run_bind, hm, hx, hv, hr, Result.andThen_ok, Sem.run_pure]
    exact hK' _ _ (hK w' h1 h2)
end
end Go.Proofs.YtppgeljlmckimaaDoor
