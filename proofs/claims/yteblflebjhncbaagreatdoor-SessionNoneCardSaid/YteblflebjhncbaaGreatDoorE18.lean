/-
  A run by the kernel: one operation that writes.
-/
import Derived.Test.YteblflebjhncbaaGreatDoorE17C
namespace Go.Proofs.YteblflebjhncbaaGreatDoor
open Go.RowKit

noncomputable def clA (E : Env) (m : T SObj) (nx : Nat) (F : T SV) (c : Call) : Option (SV × T SObj × Nat) := match c.callee with
  | .builtin b => ob (evL F c.args.toList) fun vs => match b, vs with
    | .append, [s, x] => apE E m nx c.argTypes.toList s x
    | .copy, [d, x] => ob c.argTypes.toList.head? fun t => ob (cpE E m t d x) fun r => some (r.1, r.2, nx)
    | .delete, [a, x] => ob c.argTypes.toList.head? fun t => ob (dlE E m t a x) fun m' => some (.tup [], m', nx)
    | _, _ => none
  | _ => none
noncomputable def evA (E : Env) (m : T SObj) (nx : Nat) (F : T SV) (o : Oper) : Option (SV × T SObj × Nat) := match o.op with
  | .alloc t => ob (zrE E t) fun z => newE m nx t z
  | .box t x => ob (ev F x) fun v => newE m nx t v
  | .store t a x => ob (ev F a) fun p => ob (ev F x) fun v => ob (stE E m t p v) fun m' => some (.tup [], m', nx)
  | .buildSlice t n ps => ob (evPs F ps.toList) fun l => bslE E m nx t n l
  | .makeMap t r => ob (evO F r) fun q => ob (und E t) fun d => oi (match d with | .map _ _ => true | _ => false) (oi (match q with | some (.int _ _) => true | none => true | _ => false) (some (mmkE m nx)))
  | .makeSlice t l c => ob (ev F l) fun x => ob (ev F c) fun y => mslE E m nx t x y
  | .mapUpdate t a k x => ob (ev F a) fun p => ob (ev F k) fun q => ob (ev F x) fun v => ob (muE E m t p q v) fun m' => some (.tup [], m', nx)
  | .insert t a k x => ob (ev F a) fun p => ob (ev F k) fun q => ob (ev F x) fun v => ob (muE E m t p q v) fun m' => some (.tup [], m', nx)
  | .convert s d x => ob (ev F x) fun v => bcE E m nx s d v
  | .range t x => ob (ev F x) fun v => rmE E m nx t v
  | .next x isS => ob (ev F x) fun v => ob (nmE m v isS) fun r => some (r.1, r.2, nx)
  | .entry x => ob (ev F x) fun v => ob (etE m v) fun r => some (r, m, nx)
  | .mapEntry t a k => ob (ev F a) fun p => ob (ev F k) fun q => ob (meE E m t p q) fun r => some (r.1, r.2, nx)
  | .entryStore _ a st x => ob (ev F a) fun p => ob (ev F st) fun q => ob (ev F x) fun v => ob (esE m p q v) fun m' => some (.tup [], m', nx)
  | .call c => clA E m nx F c
  | _ => none
theorem run_val {P : Program} {w w' : World} {s : Sem Value} {u : Value} (h : s.run P w = .ok u w') : (do pure (Next.value (← s)) : Sem Next).run P w = .ok (.value u) w' := by
  show ((s >>= fun x => pure (Next.value x)) : Sem Next).run P w = _
  rw [Sem.run_bind, h]
  rfl
theorem run_unit {P : Program} {w w' : World} {s : Sem Unit} (h : s.run P w = .ok () w') : (do s; pure Next.skip : Sem Next).run P w = .ok .skip w' := by
  show ((s >>= fun _ => pure Next.skip) : Sem Next).run P w = _
  rw [Sem.run_bind, h]
  rfl
variable [Orig]
theorem evA_ok {P : Program} {E : Env} (hE : EnvOk P E) {ρ : Pl} {m : T SObj} {nx : Nat} {w0 : Base} {w : World} (h : Emb P ρ m nx w0 w) {N : Nat} {F : T SV} {a : Act} (hF : FRel ρ N F a) {o : Oper} {r : SV × T SObj × Nat} (e : evA E m nx F o = some r) :
    AOk P ρ w0 r.1 r.2.1 r.2.2 ((execOp a.eval o).run P w) := by
  have val : ∀ {s : Sem Value}, execOp a.eval o = (do pure (Next.value (← s)) : Sem Next) → (∃ ρ' u w', Le ρ ρ' ∧ s.run P w = .ok u w' ∧ den ρ' r.1 = some u ∧ Emb P ρ' r.2.1 r.2.2 w0 w') → AOk P ρ w0 r.1 r.2.1 r.2.2 ((execOp a.eval o).run P w) := by
    rintro s hs ⟨ρ', u, w', h1, h2, h3, h4⟩
    rw [hs]
    exact ⟨ρ', u, w', _, h1, run_val h2, .inl rfl, h3, h4⟩
  have uni : ∀ {s : Sem Unit} {m' : T SObj}, execOp a.eval o = (do s; pure Next.skip : Sem Next) → r = (.tup [], m', nx) → (∃ w', s.run P w = .ok () w' ∧ Emb P ρ m' nx w0 w') → AOk P ρ w0 r.1 r.2.1 r.2.2 ((execOp a.eval o).run P w) := by
    rintro s m' hs rfl ⟨w', h2, h4⟩
    rw [hs]
    exact ⟨ρ, _, w', _, Le.refl ρ, run_unit h2, .inr ⟨rfl, rfl⟩, den_undef ρ, h4⟩
  obtain ⟨dst, op, ty, pos, after, guard⟩ := o
  unfold evA at e
  cases op <;> simp only at e <;> try cases e
  case alloc t =>
    obtain ⟨z, h1, h2⟩ := ob_eq.1 e
    obtain ⟨u, c1, c2, -⟩ := zrE_ok hE h1 ρ w
    obtain ⟨ρ', w', p, d1, d2, d3, d4⟩ := newE_ok h h2 c2
    refine val rfl ⟨ρ', _, w', d1, ?_, d3, d4⟩
    simp only [Instr.alloc, Sem.run_bind, c1, Result.andThen_ok, d2, Sem.run_pure]
  case box t x =>
    obtain ⟨v, h1, h2⟩ := ob_eq.1 e
    obtain ⟨ρ', w', p, d1, d2, d3, d4⟩ := newE_ok h h2 (ev_den hF h1)
    refine val rfl ⟨ρ', _, w', d1, ?_, d3, d4⟩
    simp only [Instr.box, Sem.run_bind, Result.andThen_ok, d2, Sem.run_pure]
  case store t p x =>
    obtain ⟨v, h1, h2⟩ := ob_eq.1 e
    obtain ⟨v2, h3, h4⟩ := ob_eq.1 h2
    obtain ⟨m', h5, h6⟩ := ob_eq.1 h4
    cases h6
    exact uni rfl rfl (stE_ok hE h h5 (ev_den hF h1) (ev_den hF h3))
  case buildSlice t n ps =>
    obtain ⟨l, h1, h2⟩ := ob_eq.1 e
    have := bslE_ok hE h h2 (evPs_den hF h1)
    have e1 : (ps.map fun (i, x) => (i, a.eval x)) = (ps.toList.map fun x => (x.1, a.eval x.2)).toArray := map_toA _ _
    rw [← e1] at this
    exact val rfl this
  case makeMap t q =>
    obtain ⟨v, h1, h2⟩ := ob_eq.1 e
    obtain ⟨d, h3, h4⟩ := ob_eq.1 h2
    obtain ⟨h5, h6⟩ := oi_eq.1 h4
    obtain ⟨h7, h8⟩ := oi_eq.1 h6
    cases h8
    refine val rfl (mmkE_ok h t (q.map a.eval) fun u hu => ?_)
    have hd := evO_den hF h1
    rw [hu] at hd
    have hu' := und_ok hE h3
    refine ⟨?_, ?_⟩
    · cases d <;> first | exact ⟨_, _, hu'⟩ | cases h5
    · cases v with
      | none => exact hd.elim
      | some v =>
        cases v <;> first | cases h7 | skip
        have hd' : den ρ (SV.int _ _) = some u := hd
        rw [den_int] at hd'
        exact ⟨_, _, (Option.some.inj hd').symm⟩
  case makeSlice t l c =>
    obtain ⟨v, h1, h2⟩ := ob_eq.1 e
    obtain ⟨v2, h3, h4⟩ := ob_eq.1 h2
    exact val rfl (mslE_ok hE h h4 (ev_den hF h1) (ev_den hF h3))
  case mapUpdate t p k x =>
    obtain ⟨v, h1, h2⟩ := ob_eq.1 e
    obtain ⟨v2, h3, h4⟩ := ob_eq.1 h2
    obtain ⟨v3, h5, h6⟩ := ob_eq.1 h4
    obtain ⟨m', h7, h8⟩ := ob_eq.1 h6
    cases h8
    exact uni rfl rfl (muE_ok hE h h7 (ev_den hF h1) (ev_den hF h3) (ev_den hF h5))
  case insert t p k x =>
    obtain ⟨v, h1, h2⟩ := ob_eq.1 e
    obtain ⟨v2, h3, h4⟩ := ob_eq.1 h2
    obtain ⟨v3, h5, h6⟩ := ob_eq.1 h4
    obtain ⟨m', h7, h8⟩ := ob_eq.1 h6
    cases h8
    exact uni rfl rfl (muE_ok hE h h7 (ev_den hF h1) (ev_den hF h3) (ev_den hF h5))
  case convert s d x =>
    obtain ⟨v, h1, h2⟩ := ob_eq.1 e
    exact val rfl (bcE_ok hE h h2 (ev_den hF h1))
  case range t x =>
    obtain ⟨v, h1, h2⟩ := ob_eq.1 e
    exact val rfl (rmE_ok hE h h2 (ev_den hF h1))
  case next x isS =>
    obtain ⟨v, h1, h2⟩ := ob_eq.1 e
    obtain ⟨q, h3, h4⟩ := ob_eq.1 h2
    cases h4
    obtain ⟨u, w', k1, k2, k3⟩ := nmE_ok h (ty := ty) h3 (ev_den hF h1)
    exact val rfl ⟨ρ, u, w', Le.refl ρ, k1, k2, k3⟩
  case entry x =>
    obtain ⟨v, h1, h2⟩ := ob_eq.1 e
    obtain ⟨q, h3, h4⟩ := ob_eq.1 h2
    cases h4
    obtain ⟨u, k1, k2⟩ := etE_ok h h3 (ev_den hF h1)
    exact val rfl ⟨ρ, u, w, Le.refl ρ, k1, k2, h⟩
  case mapEntry t p k =>
    obtain ⟨v, h1, h2⟩ := ob_eq.1 e
    obtain ⟨v2, h3, h4⟩ := ob_eq.1 h2
    obtain ⟨q, h5, h6⟩ := ob_eq.1 h4
    cases h6
    obtain ⟨u, w', k1, k2, k3⟩ := meE_ok hE h h5 (ev_den hF h1) (ev_den hF h3)
    exact val rfl ⟨ρ, u, w', Le.refl ρ, k1, k2, k3⟩
  case entryStore t p st x =>
    obtain ⟨v, h1, h2⟩ := ob_eq.1 e
    obtain ⟨v2, h3, h4⟩ := ob_eq.1 h2
    obtain ⟨v3, h5, h6⟩ := ob_eq.1 h4
    obtain ⟨m', h7, h8⟩ := ob_eq.1 h6
    cases h8
    exact uni rfl rfl (esE_ok h h7 (ev_den hF h1) (ev_den hF h3) (ev_den hF h5))
  case call c =>
    unfold clA at e
    split at e
    · rename_i b hb
      obtain ⟨vs, h1, h2⟩ := ob_eq.1 e
      have hd := evL_den hF h1
      have hargs : c.args.map a.eval = (c.args.toList.map a.eval).toArray := map_toArray_eval a c.args
      split at h2
      · obtain ⟨u, us', g1, g2, g3⟩ := denL_cons.1 hd
        obtain ⟨u2, us2, g4, g5, g6⟩ := denL_cons.1 g2
        rw [denL_nil] at g5
        cases g5
        subst g6
        rw [g3] at hargs
        refine val ?_ (apE_ok hE h (ty := ty) h2 g1 g4)
        simp only [execOp, resolve, hb, hargs]
        rfl
      · obtain ⟨u, us', g1, g2, g3⟩ := denL_cons.1 hd
        obtain ⟨u2, us2, g4, g5, g6⟩ := denL_cons.1 g2
        rw [denL_nil] at g5
        cases g5
        subst g6
        rw [g3] at hargs
        obtain ⟨t, h3, h4⟩ := ob_eq.1 h2
        obtain ⟨q, h5, h6⟩ := ob_eq.1 h4
        cases h6
        obtain ⟨u', w', k1, k2, k3⟩ := cpE_ok hE h (ty := ty) (head_get h3) h5 g1 g4
        refine val ?_ ⟨ρ, u', w', Le.refl ρ, k1, k2, k3⟩
        simp only [execOp, resolve, hb, hargs]
        rfl
      · obtain ⟨u, us', g1, g2, g3⟩ := denL_cons.1 hd
        obtain ⟨u2, us2, g4, g5, g6⟩ := denL_cons.1 g2
        rw [denL_nil] at g5
        cases g5
        subst g6
        rw [g3] at hargs
        obtain ⟨t, h3, h4⟩ := ob_eq.1 h2
        obtain ⟨m', h5, h6⟩ := ob_eq.1 h4
        cases h6
        obtain ⟨w', k1, k2⟩ := dlE_ok hE h (ty := ty) (head_get h3) h5 g1 g4
        refine val ?_ ⟨ρ, undef, w', Le.refl ρ, k1, den_undef ρ, k2⟩
        simp only [execOp, resolve, hb, hargs]
        rfl
      · cases h2
    · cases e
end Go.Proofs.YteblflebjhncbaaGreatDoor
