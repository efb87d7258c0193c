/-
  A run by the kernel: one operation that leaves memory as it is.
-/
import Derived.Test.YteblflebjhncbaaGreatDoorE11
namespace Go.Proofs.YteblflebjhncbaaGreatDoor
open Go.RowKit

noncomputable def evO (F : T SV) (o : Option Operand) : Option (Option SV) := Option.rec (motive := fun _ => Option (Option SV)) (some none) (fun x => ob (ev F x) fun v => some (some v)) o
theorem evO_den {ρ : Pl} {N : Nat} {F : T SV} {a : Act} (hF : FRel ρ N F a) {o : Option Operand} {v : Option SV} (h : evO F o = some v) : denO ρ v (o.map a.eval) := by
  cases o with
  | none => cases h; trivial
  | some x =>
    have h' : (ob (ev F x) fun v => some (some v)) = some v := h
    obtain ⟨y, h1, h2⟩ := ob_eq.1 h'
    cases h2
    exact ev_den hF h1
noncomputable def evPs (F : T SV) (l : List (Nat × Operand)) : Option (List (Nat × SV)) := List.rec (motive := fun _ => Option (List (Nat × SV))) (some []) (fun x _ ih => ob (ev F x.2) fun v => ob ih fun vs => some ((x.1, v) :: vs)) l
theorem evPs_den {ρ : Pl} {N : Nat} {F : T SV} {a : Act} (hF : FRel ρ N F a) : ∀ {l : List (Nat × Operand)} {vs : List (Nat × SV)}, evPs F l = some vs → denP ρ vs (l.map fun x => (x.1, a.eval x.2))
  | [], vs, h => by cases h; trivial
  | x :: l, vs, h => by
    have h' : (ob (ev F x.2) fun v => ob (evPs F l) fun vs => some ((x.1, v) :: vs)) = some vs := h
    obtain ⟨v, h1, h2⟩ := ob_eq.1 h'
    obtain ⟨ws, h3, h4⟩ := ob_eq.1 h2
    cases h4
    exact ⟨rfl, ev_den hF h1, evPs_den hF h3⟩
noncomputable def pkE (F : T SV) (v : SV) (a b : Operand) : Option SV := match v with
  | .bool t => Bool.rec (motive := fun _ => Option SV) (ev F b) (ev F a) t
  | _ => none
noncomputable def ldV (E : Env) (m : T SObj) (t : TypeId) (v : SV) : Option SV := match v with
  | .ptr b o => ldE E m t b o
  | .pix b o n x => pixE E m t b o n x
  | _ => none
noncomputable def clE (E : Env) (m : T SObj) (F : T SV) (c : Call) : Option SV := match c.callee with
  | .builtin b => ob (evL F c.args.toList) fun vs => biE E m b c.argTypes vs
  | _ => none
noncomputable def evP (E : Env) (m : T SObj) (F : T SV) (o : Oper) : Option SV := match o.op with
  | .move x => ev F x
  | .assign x => ev F x
  | .pick c a b => ob (ev F c) fun v => pkE F v a b
  | .build t ps => ob (evPs F ps.toList) fun l => bldE E t l
  | .load t x => ob (ev F x) fun v => ldV E m t v
  | .nilCheck x => ob (ev F x) fun v => ncE v
  | .binOp op t x y _ => ob (ev F x) fun a => ob (ev F y) fun b => binE E op t (cst x y) a b
  | .unOp op _ x => ob (ev F x) fun v => unE op v
  | .convert s d x => ob (ev F x) fun v => convE E m s d v
  | .makeInterface t x => ob (ev F x) fun v => miE E t v
  | .makeFunc f a c => ob (evL F a.toList) fun x => ob (evL F c.toList) fun y => mfE f x y
  | .slice t x lo hi mx => ob (ev F x) fun v => ob (evO F lo) fun l => ob (evO F hi) fun h => ob (evO F mx) fun q => slE E t v l h q
  | .fieldAddr t x i => ob (ev F x) fun v => faE E t v i
  | .field t x i => ob (ev F x) fun v => fieldE E t v i
  | .indexAddr t x i => ob (ev F x) fun v => ob (ev F i) fun j => iaE E t v j
  | .index t x i => ob (ev F x) fun v => ob (ev F i) fun j => inE E t v j
  | .lookup t x i ok => ob (ev F x) fun v => ob (ev F i) fun j => lkE E m t v j ok
  | .typeAssert x _ t ok => ob (ev F x) fun v => taE E v t ok
  | .extract x i => ob (ev F x) fun v => exE v i
  | .call c => clE E m F c
  | _ => none
theorem map_toA {α β : Type} (f : α → β) (xs : Array α) : xs.map f = (xs.toList.map f).toArray := by rw [← Array.toList_map, Array.toArray_toList]
theorem map_toArray_eval (a : Act) (xs : Array Operand) : xs.map a.eval = (xs.toList.map a.eval).toArray := map_toA _ _
variable [Orig]
theorem evP_ok {P : Program} {E : Env} (hE : EnvOk P E) {ρ : Pl} {m : T SObj} {nx : Nat} {w0 : Base} {w : World} (h : Emb P ρ m nx w0 w) {N : Nat} {F : T SV} {a : Act} (hF : FRel ρ N F a) {o : Oper} {r : SV} (e : evP E m F o = some r) :
    ∃ u, (execOp a.eval o).run P w = .ok (.value u) w ∧ den ρ r = some u := by
  have fin : ∀ {s : Sem Value}, (∃ u, s.run P w = .ok u w ∧ den ρ r = some u) → ∃ u, (do pure (Next.value (← s)) : Sem Next).run P w = .ok (.value u) w ∧ den ρ r = some u := by
    rintro s ⟨u, h1, h2⟩
    refine ⟨u, ?_, h2⟩
    show ((s.bind fun x => pure (Next.value x)) : Sem Next).run P w = _
    rw [show (s.bind fun x => pure (Next.value x)) = (s >>= fun x => pure (Next.value x)) from rfl, Sem.run_bind, h1]
    rfl
  obtain ⟨dst, op, ty, pos, after, guard⟩ := o
  unfold evP at e
  cases op <;> simp only at e <;> try cases e
  case move x => exact ⟨_, rfl, ev_den hF e⟩
  case assign x => exact ⟨_, rfl, ev_den hF e⟩
  case pick c x y =>
    obtain ⟨v, h1, h2⟩ := ob_eq.1 e
    have hv := ev_den hF h1
    unfold pkE at h2
    split at h2
    · rename_i t
      rw [den_bool] at hv
      have hc : a.eval c = .bool t := (Option.some.inj hv).symm
      cases t with
      | true => exact ⟨_, by simp [execOp, hc, asBool], ev_den hF h2⟩
      | false => exact ⟨_, by simp [execOp, hc, asBool], ev_den hF h2⟩
    · cases h2
  case build t ps =>
    obtain ⟨l, h1, h2⟩ := ob_eq.1 e
    have := bldE_ok hE h2 (evPs_den hF h1) w
    refine fin ?_
    have e1 : (ps.map fun (i, x) => (i, a.eval x)) = (ps.toList.map fun x => (x.1, a.eval x.2)).toArray := map_toA _ _
    rw [e1]
    exact this
  case load t x =>
    obtain ⟨v, h1, h2⟩ := ob_eq.1 e
    unfold ldV at h2
    split at h2
    · exact fin (ldE_ok hE h h2 (ev_den hF h1))
    · exact fin (pixE_ok hE h h2 (ev_den hF h1))
    · cases h2
  case nilCheck x =>
    obtain ⟨v, h1, h2⟩ := ob_eq.1 e
    exact ncE_ok rfl rfl h2 (ev_den hF h1) w
  case binOp op t x y yt =>
    obtain ⟨v, h1, h2⟩ := ob_eq.1 e
    obtain ⟨v2, h3, h4⟩ := ob_eq.1 h2
    exact fin (binE_ok hE h4 (ev_den hF h1) (ev_den hF h3) w)
  case unOp op t x =>
    obtain ⟨v, h1, h2⟩ := ob_eq.1 e
    exact fin (unE_ok h2 (ev_den hF h1) w)
  case convert s d x =>
    obtain ⟨v, h1, h2⟩ := ob_eq.1 e
    exact fin (convE_ok hE h h2 (ev_den hF h1))
  case makeInterface t x =>
    obtain ⟨v, h1, h2⟩ := ob_eq.1 e
    exact fin (miE_ok hE h2 (ev_den hF h1) w)
  case makeFunc f x c =>
    obtain ⟨v, h1, h2⟩ := ob_eq.1 e
    obtain ⟨v2, h3, h4⟩ := ob_eq.1 h2
    have := mfE_ok h4 (evL_den hF h1) (evL_den hF h3)
    rw [← map_toArray_eval, ← map_toArray_eval] at this
    exact ⟨_, rfl, this⟩
  case slice t x lo hi mx =>
    obtain ⟨v, h1, h2⟩ := ob_eq.1 e
    obtain ⟨l, h3, h4⟩ := ob_eq.1 h2
    obtain ⟨hh, h5, h6⟩ := ob_eq.1 h4
    obtain ⟨q, h7, h8⟩ := ob_eq.1 h6
    exact fin (slE_ok hE h8 (ev_den hF h1) (evO_den hF h3) (evO_den hF h5) (evO_den hF h7) w)
  case fieldAddr t x i =>
    obtain ⟨v, h1, h2⟩ := ob_eq.1 e
    exact fin (faE_ok hE h2 (ev_den hF h1) w)
  case field t x i =>
    obtain ⟨v, h1, h2⟩ := ob_eq.1 e
    exact fin (fieldE_ok hE h2 (ev_den hF h1) w)
  case indexAddr t x i =>
    obtain ⟨v, h1, h2⟩ := ob_eq.1 e
    obtain ⟨v2, h3, h4⟩ := ob_eq.1 h2
    exact fin (iaE_ok hE h4 (ev_den hF h1) (ev_den hF h3) w)
  case index t x i =>
    obtain ⟨v, h1, h2⟩ := ob_eq.1 e
    obtain ⟨v2, h3, h4⟩ := ob_eq.1 h2
    exact fin (inE_ok hE h4 (ev_den hF h1) (ev_den hF h3) w)
  case lookup t x i ok =>
    obtain ⟨v, h1, h2⟩ := ob_eq.1 e
    obtain ⟨v2, h3, h4⟩ := ob_eq.1 h2
    exact fin (lkE_ok hE h h4 (ev_den hF h1) (ev_den hF h3))
  case typeAssert x xt t ok =>
    obtain ⟨v, h1, h2⟩ := ob_eq.1 e
    exact fin (taE_ok hE h2 (ev_den hF h1) w)
  case extract x i =>
    obtain ⟨v, h1, h2⟩ := ob_eq.1 e
    exact fin (exE_ok h2 (ev_den hF h1) w)
  case call c =>
    unfold clE at e
    split at e
    · rename_i b hb
      obtain ⟨vs, h1, h2⟩ := ob_eq.1 e
      obtain ⟨u, c1, c2⟩ := biE_ok hE h (ty := ty) (cs := c.args.map fun | .const _ => true | _ => false) h2 (evL_den hF h1)
      refine ⟨u, ?_, c2⟩
      rw [← c1, ← map_toArray_eval]
      simp only [execOp, resolve, hb, Sem.run_bind, Sem.run_pure, Result.andThen_ok, invoke]
      rfl
    · cases e
end Go.Proofs.YteblflebjhncbaaGreatDoor
