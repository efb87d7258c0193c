/-
  A run by the kernel: calls, results.
-/
import Derived.Test.YteblflebjhncbaaGreatDoorE18
namespace Go.Proofs.YteblflebjhncbaaGreatDoor
open Go.RowKit

noncomputable def ldP (E : Env) (m : T SObj) (t : TypeId) (v : SV) : Option SV := match v with
  | .ptr b o => ldE E m t b o
  | _ => none
noncomputable def resE (E : Env) (m : T SObj) (F : T SV) (l : List ResultVar) : Option (List SV) := List.rec (motive := fun _ => Option (List SV)) (some []) (fun r _ ih => ob (match r with | .tmp t => F.get t | .cell a t => ob (F.get a) fun v => ldP E m t v) fun v => ob ih fun vs => some (v :: vs)) l
noncomputable def resV (l : List SV) : SV := match l with
  | [v] => v
  | l => .tup l
variable [Orig]
theorem resE_ok {P : Program} {E : Env} (hE : EnvOk P E) {ρ : Pl} {m : T SObj} {nx : Nat} {w0 : Base} {w : World} (h : Emb P ρ m nx w0 w) {N : Nat} {F : T SV} {a : Act} (hF : FRel ρ N F a) {R : ResultVar → Sem Value} (hR1 : ∀ t, R (.tmp t) = pure (a.tmps.getD t undef)) (hR2 : ∀ a' t, R (.cell a' t) = do loadVar t (← asAddr (a.tmps.getD a' undef))) : ∀ {l : List ResultVar} {vs : List SV}, resE E m F l = some vs →
    ∃ us, denL ρ vs = some us ∧ (l.mapM R).run P w = .ok us w
  | [], vs, e => by cases e; exact ⟨[], denL_nil ρ, rfl⟩
  | r :: l, vs, e => by
    have e' : (ob (match r with | .tmp t => F.get t | .cell a t => ob (F.get a) fun v => ldP E m t v) fun v => ob (resE E m F l) fun vs => some (v :: vs)) = some vs := e
    obtain ⟨v, h1, h2⟩ := ob_eq.1 e'
    obtain ⟨ws, h3, h4⟩ := ob_eq.1 h2
    cases h4
    obtain ⟨us, g1, g2⟩ := resE_ok hE h hF hR1 hR2 h3
    rw [List.mapM_cons]
    cases r with
    | tmp t =>
      obtain ⟨u, k1, k2⟩ := hF.at_ t v h1
      refine ⟨u :: us, denL_cons.2 ⟨u, us, k2, g1, rfl⟩, ?_⟩
      simp only [hR1, Sem.run_bind, Sem.run_pure, Result.andThen_ok, g2, Array.getD_eq_getD_getElem?, k1, Option.getD_some]
    | cell a' t =>
      have h1' : (ob (F.get a') fun v => ldP E m t v) = some v := h1
      obtain ⟨p, k1, k2⟩ := ob_eq.1 h1'
      unfold ldP at k2
      split at k2
      · obtain ⟨u0, k3, k4⟩ := hF.at_ a' _ k1
        obtain ⟨u, k5, k6⟩ := ldE_ok hE h k2 k4
        obtain ⟨x, -, rfl⟩ := den_ptr k4
        refine ⟨u :: us, denL_cons.2 ⟨u, us, k6, g1, rfl⟩, ?_⟩
        simp only [Instr.loadAt, Instr.sureAddr, Sem.run_bind, Sem.run_pure, Result.andThen_ok] at k5
        simp only [hR2, Sem.run_bind, Sem.run_pure, Result.andThen_ok, g2, Array.getD_eq_getD_getElem?, k3, Option.getD_some, asAddr, k5]
      · cases k2
theorem resV_ok {P : Program} {E : Env} (hE : EnvOk P E) {ρ : Pl} {m : T SObj} {nx : Nat} {w0 : Base} {w : World} (h : Emb P ρ m nx w0 w) {N : Nat} {F : T SV} {a : Act} (hF : FRel ρ N F a) {g : Func} {vs : List SV} (e : resE E m F g.results.toList = some vs) :
    ∃ u, (results g a.tmps).run P w = .ok u w ∧ den ρ (resV vs) = some u := by
  obtain ⟨R, hR1, hR2, hR3⟩ : ∃ R : ResultVar → Sem Value, (∀ t, R (.tmp t) = pure (a.tmps.getD t undef)) ∧ (∀ a' t, R (.cell a' t) = do loadVar t (← asAddr (a.tmps.getD a' undef))) ∧ results g a.tmps = (do let vs ← g.results.mapM R; pure (if h : vs.size = 1 then vs[0] else .tuple vs)) := ⟨_, fun _ => rfl, fun _ _ => rfl, rfl⟩
  obtain ⟨us, h1, h2⟩ := resE_ok hE h hF hR1 hR2 e
  refine ⟨if us.length = 1 then us.headD undef else .tuple us.toArray, ?_, ?_⟩
  · rw [hR3, Array.mapM_eq_mapM_toList]
    simp only [Sem.run_bind, map_eq_pure_bind, h2, Result.andThen_ok, Sem.run_pure]
    congr 1
    by_cases hl : us.length = 1
    · obtain ⟨x, rfl⟩ := List.length_eq_one_iff.1 hl
      rfl
    · rw [if_neg hl, dif_neg (by simpa using hl)]
  · have hlen := denL_len h1
    unfold resV
    split
    · obtain ⟨u, us', k1, k2, rfl⟩ := denL_cons.1 h1
      rw [denL_nil] at k2
      cases k2
      exact k1
    · rename_i hne
      have : us.length ≠ 1 := by
        intro hl
        rw [hlen] at hl
        obtain ⟨x, hx⟩ := List.length_eq_one_iff.1 hl
        exact hne x hx
      rw [if_neg this]
      exact den_tup_mk h1

noncomputable def findM (name : String) (l : List Method) : Option Method := List.rec (motive := fun _ => Option Method) none (fun m _ ih => Bool.rec (motive := fun _ => Option Method) ih (some m) (m.name == name)) l
omit [Orig] in
theorem findM_ok (name : String) : ∀ l : List Method, findM name l = l.find? (·.name == name)
  | [] => rfl
  | m :: l => by
    show Bool.rec (motive := fun _ => Option Method) (findM name l) (some m) (m.name == name) = _
    rw [findM_ok name l, List.find?_cons]
    cases m.name == name <;> rfl
def rcvE (d : TypeDesc) (pr : Bool) : Bool := match d, pr with
  | .pointer _, true => true
  | .pointer _, false => false
  | _, true => false
  | _, false => true
noncomputable def methE (E : Env) (t : TypeId) (name : String) : Option FuncId := ob (E.ty.get t) fun i => ob (findM name i.methods.toList) fun m => match m.path.toList, m.func with
  | [], some (g, pr) => ob (und E t) fun d => oi (rcvE d pr) (some g)
  | _, _ => none
omit [Orig] in
theorem methE_ok {P : Program} {E : Env} (hE : EnvOk P E) {t : TypeId} {name : String} {g : FuncId} (e : methE E t name = some g) (v : Value) (w : World) (k : Nat) : (method (k + 1) t v name).run P w = .ok (g, v) w := by
  obtain ⟨i, h1, h2⟩ := ob_eq.1 e
  obtain ⟨m, h3, h4⟩ := ob_eq.1 h2
  split at h4
  · rename_i g' pr hp hf
    obtain ⟨d, h5, h6⟩ := ob_eq.1 h4
    obtain ⟨h7, h8⟩ := oi_eq.1 h6
    cases h8
    rw [findM_ok] at h3
    have hfi : i.methods.find? (·.name == name) = some m := by rw [← Array.find?_toList]; exact h3
    have hu := und_ok hE h5
    unfold method
    simp only [Sem.run_bind, run_typeInfo w (hE.ty _ _ h1), Result.andThen_ok, hfi, hp, follow, Sem.run_pure, hf]
    have hrec : ∀ wr, (receiverAt t (.val v) pr wr).run P w = .ok v w := by
      intro wr
      unfold receiverAt
      simp only [Sem.run_bind, run_underlying hu w, Result.andThen_ok]
      cases d <;> cases pr <;> first | rfl | cases h7
    simp only [hrec, Result.andThen_ok]
  · cases h4
/-- whom a call calls, and by what. -/
noncomputable def tgtE (E : Env) (F : T SV) (c : Call) : Option (FuncId × List SV) := ob (evL F c.args.toList) fun vs => match c.callee with
  | .value f => ob (ev F f) fun fv => match fv with
    | .fn (.func g) a cap => some (g, app a (app vs cap))
    | _ => none
  | .invoke r name => ob (ev F r) fun rv => match rv with
    | .ifc t v => ob (methE E t name) fun g => some (g, v :: vs)
    | _ => none
  | _ => none
omit [Orig] in
theorem callFunc_ok {P : Program} {E : Env} (hE : EnvOk P E) {f : FuncId} {g : Func} {c : Code} (h : E.fn.get f = some g) (hb : g.body = some c) (args : Array Value) (w : World) : (callFunc f args).run P w = .ok (.enter f args) w := by
  obtain ⟨h1, h2⟩ := hE.fn f g h
  unfold callFunc
  simp only [Sem.run_bind, run_program, Result.andThen_ok, h1, h2, Bool.false_eq_true, if_false, hb, Option.isNone_some, Sem.run_pure]
omit [Orig] in
theorem tgtE_ok {P : Program} {E : Env} (hE : EnvOk P E) {ρ : Pl} {N : Nat} {F : T SV} {a : Act} (hF : FRel ρ N F a) {o : Oper} {c : Call} (ho : o.op = .call c) {f : FuncId} {args : List SV} (e : tgtE E F c = some (f, args)) {g : Func} {b : Code} (hg : E.fn.get f = some g) (hb : g.body = some b) (w : World) :
    ∃ us, denL ρ args = some us ∧ (execOp a.eval o).run P w = .ok (.enter f us.toArray) w := by
  obtain ⟨vs, h1, h2⟩ := ob_eq.1 e
  have hd := evL_den hF h1
  have hargs : c.args.map a.eval = (c.args.toList.map a.eval).toArray := map_toArray_eval a c.args
  split at h2
  · rename_i fo hc
    obtain ⟨fv, h3, h4⟩ := ob_eq.1 h2
    have hf := ev_den hF h3
    split at h4
    · rename_i g' x cap
      cases h4
      obtain ⟨y1, y2, k1, k2, k3, k4⟩ := den_fn hf
      refine ⟨y1 ++ (c.args.toList.map a.eval ++ y2), by rw [app_ok, app_ok]; exact denL_append k1 (denL_append hd k2), ?_⟩
      simp only [execOp, ho, resolve, hc, hargs, Deferred.ofValue, k4, Sem.run_bind, Sem.run_pure, Result.andThen_ok, invoke]
      rw [callFunc_ok hE hg hb]
      congr 2
      simp
    · cases h4
  · rename_i ro name hc
    obtain ⟨rv, h3, h4⟩ := ob_eq.1 h2
    have hr := ev_den hF h3
    split at h4
    · rename_i t v
      obtain ⟨g', h5, h6⟩ := ob_eq.1 h4
      cases h6
      obtain ⟨x, k1, k2⟩ := den_ifc hr
      refine ⟨x :: c.args.toList.map a.eval, denL_cons.2 ⟨_, _, k1, hd, rfl⟩, ?_⟩
      obtain ⟨k, hk⟩ : ∃ k, P.types.size + Made.depth = k + 1 := ⟨P.types.size + Made.depth - 1, (by have h0 : 0 < Made.depth := (by decide); omega)⟩
      have hm := methE_ok hE h5 x w k
      have e0 : ∀ A : Array Value, (#[Value.iface t x] ++ A)[0]? = some (Value.iface t x) := fun A => by
        rw [Array.getElem?_append_left (by simp)]
        rfl
      have e1 : ∀ A : Array Value, (#[Value.iface t x] ++ A).extract 1 = A := fun A => by
        obtain ⟨l⟩ := A
        simp
      simp only [execOp, ho, resolve, hc, k2, Sem.run_bind, Sem.run_pure, Result.andThen_ok, invoke]
      rw [e0, e1]
      simp only [callMethod, Sem.run_bind, run_program, Result.andThen_ok, hk, hm]
      rw [callFunc_ok hE hg hb]
      congr 2
      rw [hargs]
      simp
    · cases h4
  · cases h2
end Go.Proofs.YteblflebjhncbaaGreatDoor
