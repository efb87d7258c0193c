/-
  A run by the kernel: ranging over a function: the records.
-/
import Derived.Test.YteblflebjhncbaaGreatDoorE19
import Derived.RangeFuncLeaves
namespace Go.Proofs.YteblflebjhncbaaGreatDoor
open Go.RowKit

/-- marks among the deferred calls. -/
def DRel (ρ : Pl) : List Nat → List Deferred → Prop
  | [], [] => True
  | d :: l, D :: L => (∃ y, ρ d = some y ∧ D = { target := .collected y.1, args := #[] }) ∧ DRel ρ l L
  | _, _ => False
theorem DRel.mono {ρ ρ' : Pl} (h : Le ρ ρ') : ∀ {l : List Nat} {L : List Deferred}, DRel ρ l L → DRel ρ' l L
  | [], [], _ => trivial
  | _ :: _, _ :: _, ⟨⟨y, h1, h2⟩, h3⟩ => ⟨⟨y, h _ y h1, h2⟩, DRel.mono h h3⟩
theorem DRel.append {ρ : Pl} : ∀ {l : List Nat} {L : List Deferred} {l' : List Nat} {L' : List Deferred}, DRel ρ l L → DRel ρ l' L' → DRel ρ (app l l') (L ++ L')
  | [], [], _, _, _, h => h
  | _ :: _, _ :: _, _, _, ⟨h1, h2⟩, h => ⟨h1, DRel.append h2 h⟩
/-- the round that a frame is of. -/
def RO (ρ : Pl) : Option Nat → Option Nat → Prop
  | none, none => True
  | some i, some l => ∃ c, ρ i = some (l, c)
  | _, _ => False
theorem RO.mono {ρ ρ' : Pl} (h : Le ρ ρ') : ∀ {i r : Option Nat}, RO ρ i r → RO ρ' i r
  | none, none, _ => trivial
  | some _, some _, ⟨c, h1⟩ => ⟨c, h _ _ h1⟩
variable [Orig]
section
variable {P : Program} {ρ : Pl} {m : T SObj} {nx : Nat} {w0 : Base} {w : World}
theorem Emb.turn (h : Emb P ρ m nx w0 w) {b : Nat} {o o' : SObj} {x : Nat × Nat} {ob ob' : Obj} (hb : m.get b = some o) (hx : ρ b = some x) (hw : w.heap[x.1]? = some ob) (hc : ∀ a t z, ob ≠ .cells a t z) (k : ObjRel P ρ x o' ob') :
    (Go.setObj x.1 ob').run P w = .ok () { w with heap := w.heap.setIfInBounds x.1 ob' } ∧ Emb P ρ (m.put (some o') b) nx w0 { w with heap := w.heap.setIfInBounds x.1 ob' } := by
  have hlt := (Array.getElem?_eq_some_iff.1 hw).1
  refine ⟨by cases ob <;> first | exact absurd rfl (hc _ _ _) | simp [Go.setObj, Sem.run, hw], ?_⟩
  exact h.upd (o' := o') (ob' := ob') hb hx rfl rfl rfl (by simp) (by simp [hlt]) (fun j hj => by simp [Array.getElem?_setIfInBounds_ne (Ne.symm hj)]) k
theorem Emb.loop (h : Emb P ρ m nx w0 w) {l : Nat} {st : LoopState} {pd : Option Code} {n : Nat} {F : T SV} {ps : List Tmp} {x y : Code} {d : Nat} (e : m.get l = some (.lp st pd n F ps x y d)) :
    ∃ z r, ρ l = some z ∧ w.heap[z.1]? = some (.loop r) ∧ (Instr.getLoop z.1).run P w = .ok r w ∧ LoopRel ρ st pd n F ps x y d r := by
  obtain ⟨z, ob, h1, -, h3, h4⟩ := h.obj l _ e
  cases ob <;> try exact h4.elim
  rename_i r
  refine ⟨z, r, h1, h3, ?_, h4⟩
  have hget : (getObj z.1).run P w = .ok (.loop r) w := by simp [getObj, Sem.run, h3]
  simp only [Instr.getLoop, Sem.run_bind, hget, Result.andThen_ok, Sem.run_pure]
end

noncomputable def enterE (ro : Option Nat) (N : Nat) (F : T SV) (ps : List Tmp) (x y : Code) (m : T SObj) (nx : Nat) : Option (T SObj × Nat × List Nat × Nat) := match ro with
  | none => some (T.put (T.put m (some (.defr true)) nx) (some (.lp .ready none N F ps x y nx)) (nx + 1), nx + 2, [nx], nx + 1)
  | some l0 => ob (m.get l0) fun o => match o with
    | .lp _ _ _ _ _ _ _ d => some (T.put m (some (.lp .ready none N F ps x y d)) nx, nx + 1, [], nx)
    | _ => none
noncomputable def putPs (N : Nat) : List Tmp → List SV → T SV → Option (T SV) := fun ps => List.rec (motive := fun _ => List SV → T SV → Option (T SV)) (fun vs F => match vs with
  | [] => some F
  | _ => none) (fun p _ ih vs F => match vs with
  | v :: vs => oi (Nat.blt p N) (ih vs (T.put F (some v) p))
  | _ => none) ps
noncomputable def ynE (m : T SObj) (l : Nat) (vs : List SV) : Option (Nat × T SV × Code × Code) := ob (m.get l) fun o => match o with
  | .lp _ _ n F ps x y _ => ob (putPs n ps vs F) fun F' => some (n, F', x, y)
  | _ => none
noncomputable def begE (m : T SObj) (l : Nat) : Option (T SObj) := ob (m.get l) fun o => match o with
  | .lp .ready pd n F ps x y d => some (T.put m (some (.lp .busy pd n F ps x y d)) l)
  | _ => none
noncomputable def endRE (m : T SObj) (l : Nat) (jump : Option Code) : Option (T SObj) := ob (m.get l) fun o => match o with
  | .lp _ _ n F ps x y d => some (T.put m (some (.lp (Option.rec (motive := fun _ => LoopState) .ready (fun _ => .done) jump) jump n F ps x y d)) l)
  | _ => none
def notBusy : LoopState → Bool
  | .busy => false
  | _ => true
noncomputable def endLE (m : T SObj) (l : Nat) : Option (Option Code × T SObj) := ob (m.get l) fun o => match o with
  | .lp st pd n F ps x y d => oi (notBusy st) (some (pd, T.put m (some (.lp .exhausted pd n F ps x y d)) l))
  | _ => none
noncomputable def takE (m : T SObj) (d : Nat) : Option (T SObj) := ob (m.get d) fun o => match o with
  | .defr true => some (T.put m (some (.defr false)) d)
  | _ => none

section
variable {P : Program} {ρ : Pl} {m : T SObj} {nx : Nat} {w0 : Base} {w : World}
omit [Orig] in
theorem pset_ne (ρ : Pl) {b c : Nat} (x : Nat × Nat) (h : c ≠ b) : pset ρ b x c = ρ c := by rw [pset_at, if_neg h]
theorem enterE_ok (h : Emb P ρ m nx w0 w) {ro r : Option Nat} (hr : RO ρ ro r) {N : Nat} {F : T SV} {a : Act} (hF : FRel ρ N F a) {ps : Array Tmp} {x y : Code} {q : T SObj × Nat × List Nat × Nat} (e : enterE ro N F ps.toList x y m nx = some q) :
    ∃ ρ' lw, Le ρ ρ' ∧ ρ' q.2.2.2 = some (lw, 0) ∧ ∃ mark, DRel ρ' q.2.2.1 mark ∧ ∀ fn, ∃ w', (Instr.enterLoop fn a.tmps ps x y r).run P w = .ok (lw, mark) w' ∧ Emb P ρ' q.1 q.2.1 w0 w' := by
  unfold enterE at e
  cases ro with
  | none =>
    cases r with
    | some l => exact hr.elim
    | none =>
      cases e
      obtain ⟨g1, g2⟩ := h.new 0 (o := .defr true) (ob := .deferred (some [])) rfl
      have hsz : (w.alloc (.deferred (some []))).heap.size = w.heap.size + 1 := by simp
      refine ⟨pset (pset ρ nx (w.heap.size, 0)) (nx + 1) (w.heap.size + 1, 0), w.heap.size + 1, ?_, pset_same _ _ _, [{ target := .collected w.heap.size, args := #[] }], ⟨⟨(w.heap.size, 0), ?_, rfl⟩, trivial⟩, fun fn => ?_⟩
      · have := (g1.fresh (nx + 1) (Nat.le_refl _)).1
        exact g2.trans (pset_le _ this)
      · show pset _ _ _ nx = _
        rw [pset_ne _ _ (by omega)]
        exact pset_same _ _ _
      · have hle2 : Le ρ (pset (pset ρ nx (w.heap.size, 0)) (nx + 1) (w.heap.size + 1, 0)) := g2.trans (pset_le _ (g1.fresh (nx + 1) (Nat.le_refl _)).1)
        obtain ⟨k1, k2⟩ := g1.new 0 (o := .lp .ready none N F ps.toList x y nx) (ob := .loop { state := .ready, pending := none, fn := fn, tmps := a.tmps, params := ps, assign := x, body := y, defers := w.heap.size }) (by
          refine ⟨rfl, rfl, ⟨hF.size, ?_⟩, rfl, rfl, rfl, (w.heap.size, 0), ?_, rfl⟩
          · intro i v hi
            obtain ⟨u, j1, j2⟩ := hF.at_ i v hi
            rw [hsz]
            exact ⟨u, j1, den_mono hle2 v j2⟩
          · rw [pset_ne _ _ (by omega)]
            exact pset_same _ _ _)
        rw [hsz] at k1
        refine ⟨_, ?_, k1⟩
        simp only [Instr.enterLoop, Sem.run_bind, Sem.run_pure, run_newObj_alloc, Result.andThen_ok, hsz]
  | some l0 =>
    cases r with
    | none => exact hr.elim
    | some l =>
      obtain ⟨c, hc⟩ := hr
      obtain ⟨o, h1, h2⟩ := ob_eq.1 e
      split at h2
      case h_2 => cases h2
      cases h2
      obtain ⟨z, r, k1, k2, k3, -, -, -, -, -, -, zz, k4, k5⟩ := h.loop h1
      rw [hc] at k1
      cases k1
      have hle : Le ρ (pset ρ nx (w.heap.size, 0)) := pset_le _ (h.fresh nx (Nat.le_refl _)).1
      refine ⟨pset ρ nx (w.heap.size, 0), w.heap.size, hle, pset_same _ _ _, [], trivial, fun fn => ?_⟩
      obtain ⟨g1, g2⟩ := h.new 0 (o := .lp .ready none N F ps.toList x y _) (ob := .loop { state := .ready, pending := none, fn := fn, tmps := a.tmps, params := ps, assign := x, body := y, defers := r.defers })
        ⟨rfl, rfl, ⟨hF.size, fun i v hi => let ⟨u, j1, j2⟩ := hF.at_ i v hi; ⟨u, j1, den_mono hle v j2⟩⟩, rfl, rfl, rfl, zz, hle _ _ k4, k5⟩
      refine ⟨_, ?_, g1⟩
      simp only [Instr.enterLoop, Sem.run_bind, k3, Result.andThen_ok, Sem.run_pure, run_newObj_alloc]
omit [Orig] in
theorem putPs_ok {n : Nat} {ρ : Pl} : ∀ (ps : List Tmp) (vs : List SV) (us : List Value) (F F' : T SV) (t : Array Value), putPs n ps vs F = some F' → denL ρ vs = some us → TRel ρ n F t → us.length = ps.length ∧ TRel ρ n F' ((ps.zip us).foldl (fun tmps (t, a) => tmps.setIfInBounds t a) t)
  | [], [], us, F, F', t, e, hd, h => by
    cases e
    rw [denL_nil] at hd
    cases hd
    exact ⟨rfl, h⟩
  | [], _ :: _, us, F, F', t, e, hd, h => by cases e
  | _ :: _, [], us, F, F', t, e, hd, h => by cases e
  | p :: ps, v :: vs, us, F, F', t, e, hd, h => by
    have e' : oi (Nat.blt p n) (putPs n ps vs (T.put F (some v) p)) = some F' := e
    obtain ⟨h1, h2⟩ := oi_eq.1 e'
    obtain ⟨u, us', d1, d2, rfl⟩ := denL_cons.1 hd
    have hp : p < n := blt_true h1
    have h' : TRel ρ n (T.put F (some v) p) (t.setIfInBounds p u) := by
      refine ⟨by simp [h.size], fun j x hj => ?_⟩
      rw [T.get_put] at hj
      by_cases e : j = p
      · subst e
        rw [if_pos rfl] at hj
        cases hj
        exact ⟨u, by simp [h.size, hp], d1⟩
      · rw [if_neg e] at hj
        obtain ⟨x', h3, h4⟩ := h.at_ j x hj
        exact ⟨x', by rw [Array.getElem?_setIfInBounds_ne (Ne.symm e)]; exact h3, h4⟩
    obtain ⟨k1, k2⟩ := putPs_ok ps vs us' _ F' _ h2 d2 h'
    exact ⟨by simp [k1], k2⟩
theorem ynE_ok (h : Emb P ρ m nx w0 w) {l : Nat} {z : Nat × Nat} (hz : ρ l = some z) {vs : List SV} {us : List Value} {q : Nat × T SV × Code × Code} (e : ynE m l vs = some q) (hd : denL ρ vs = some us) :
    ∃ fn tmps, (Instr.yield z.1 us.toArray).run P w = .ok (.round z.1 fn tmps q.2.2.1 q.2.2.2) w ∧ TRel ρ q.1 q.2.1 tmps := by
  obtain ⟨o, h1, h2⟩ := ob_eq.1 e
  split at h2
  case h_2 => cases h2
  obtain ⟨F', h3, h4⟩ := ob_eq.1 h2
  cases h4
  obtain ⟨z', r, k1, k2, k3, a1, a2, a3, a4, rfl, rfl, -⟩ := h.loop h1
  rw [hz] at k1
  cases k1
  obtain ⟨b1, b2⟩ := putPs_ok _ _ _ _ _ _ h3 hd a3
  have hsz : us.toArray.size = r.params.size := by rw [← a4] at b1; simpa using b1
  refine ⟨r.fn, _, ?_, b2⟩
  have hz2 : r.params.zip us.toArray = (r.params.toList.zip us).toArray := by
    apply Array.toList_inj.1
    simp
  simp only [Instr.yield, Sem.run_bind, k3, Result.andThen_ok, ne_eq, hsz, not_true_eq_false, if_false, Sem.run_pure, hz2, a4]
  simp
theorem begE_ok (h : Emb P ρ m nx w0 w) {l : Nat} {z : Nat × Nat} (hz : ρ l = some z) {m' : T SObj} (e : begE m l = some m') : ∃ w', (Instr.beginRound z.1).run P w = .ok () w' ∧ Emb P ρ m' nx w0 w' := by
  obtain ⟨o, h1, h2⟩ := ob_eq.1 e
  split at h2
  case h_2 => cases h2
  cases h2
  obtain ⟨z', r, k1, k2, k3, a1, a2, a3, a4, a5, a6, a7⟩ := h.loop h1
  rw [hz] at k1
  cases k1
  obtain ⟨b1, b2⟩ := h.turn h1 hz k2 (fun _ _ _ e => by cases e) (o' := .lp .busy _ _ _ _ _ _ _) (ob' := .loop { r with state := .busy }) ⟨rfl, a2, a3, a4, a5, a6, a7⟩
  refine ⟨_, ?_, b2⟩
  simp only [Instr.beginRound, Sem.run_bind, k3, Result.andThen_ok, b1, a1, Sem.run_pure]
theorem endRE_ok (h : Emb P ρ m nx w0 w) {l : Nat} {z : Nat × Nat} (hz : ρ l = some z) {jump : Option Code} {m' : T SObj} (e : endRE m l jump = some m') : ∃ w', (Instr.endRound z.1 jump).run P w = .ok (.bool jump.isNone) w' ∧ Emb P ρ m' nx w0 w' := by
  obtain ⟨o, h1, h2⟩ := ob_eq.1 e
  split at h2
  case h_2 => cases h2
  cases h2
  obtain ⟨z', r, k1, k2, k3, a1, a2, a3, a4, a5, a6, a7⟩ := h.loop h1
  rw [hz] at k1
  cases k1
  obtain ⟨b1, b2⟩ := h.turn h1 hz k2 (fun _ _ _ e => by cases e) (o' := .lp _ jump _ _ _ _ _ _) (ob' := .loop { r with state := if jump.isNone then .ready else .done, pending := jump }) ⟨rfl, rfl, a3, a4, a5, a6, a7⟩
  refine ⟨{ w with heap := w.heap.setIfInBounds z.1 (.loop { r with state := if jump.isNone then .ready else .done, pending := jump }) }, ?_, ?_⟩
  rotate_left
  · have : (Option.rec (motive := fun _ => LoopState) LoopState.ready (fun _ => .done) jump) = (if jump.isNone then LoopState.ready else LoopState.done) := by cases jump <;> rfl
    rw [this]
    exact b2
  · simp only [Instr.endRound, Sem.run_bind, k3, Result.andThen_ok, b1, Sem.run_pure]
theorem endLE_ok (h : Emb P ρ m nx w0 w) {l : Nat} {z : Nat × Nat} (hz : ρ l = some z) {q : Option Code × T SObj} (e : endLE m l = some q) : ∃ w', (Instr.endLoop z.1).run P w = .ok q.1 w' ∧ Emb P ρ q.2 nx w0 w' := by
  obtain ⟨o, h1, h2⟩ := ob_eq.1 e
  split at h2
  case h_2 => cases h2
  obtain ⟨h3, h4⟩ := oi_eq.1 h2
  cases h4
  obtain ⟨z', r, k1, k2, k3, rfl, rfl, a3, a4, a5, a6, a7⟩ := h.loop h1
  rw [hz] at k1
  cases k1
  obtain ⟨b1, b2⟩ := h.turn h1 hz k2 (fun _ _ _ e => by cases e) (o' := .lp .exhausted _ _ _ _ _ _ _) (ob' := .loop { r with state := .exhausted }) ⟨rfl, rfl, a3, a4, a5, a6, a7⟩
  refine ⟨_, ?_, b2⟩
  have hb : (r.state == LoopState.busy) = false := by
    cases hs : r.state <;> first | rfl | (rw [hs] at h3; cases h3)
  simp only [Instr.endLoop, Sem.run_bind, k3, Result.andThen_ok, hb, Bool.false_eq_true, if_false, b1, Sem.run_pure]
theorem takE_ok (h : Emb P ρ m nx w0 w) {d : Nat} {z : Nat × Nat} (hz : ρ d = some z) {m' : T SObj} (e : takE m d = some m') : ∃ w', (Instr.takeDeferred z.1).run P w = .ok [] w' ∧ Emb P ρ m' nx w0 w' := by
  obtain ⟨o, h1, h2⟩ := ob_eq.1 e
  split at h2
  case h_2 => cases h2
  cases h2
  obtain ⟨z', ob, k1, -, k3, k4⟩ := h.obj d _ h1
  rw [hz] at k1
  cases k1
  cases ob <;> try exact k4.elim
  rename_i ls
  have k4' : ls = some [] := k4
  subst k4'
  obtain ⟨b1, b2⟩ := h.turn h1 hz k3 (fun _ _ _ e => by cases e) (o' := .defr false) (ob' := .deferred none) rfl
  refine ⟨_, ?_, b2⟩
  have hget : (getObj z.1).run P w = .ok (.deferred (some [])) w := by simp [getObj, Sem.run, k3]
  simp only [Instr.takeDeferred, Sem.run_bind, hget, Result.andThen_ok, b1, Sem.run_pure]
end
/-- is yield called, and by what? -/
noncomputable def yldE (F : T SV) (c : Call) : Option (Nat × List SV) := match c.callee with
  | .value f => ob (evL F c.args.toList) fun vs => ob (ev F f) fun fv => match fv with
    | .yld l => some (l, vs)
    | _ => none
  | _ => none
omit [Orig] in
theorem yldE_ok {P : Program} {ρ : Pl} {N : Nat} {F : T SV} {a : Act} (hF : FRel ρ N F a) {o : Oper} {c : Call} (ho : o.op = .call c) {l : Nat} {args : List SV} (e : yldE F c = some (l, args)) (w : World) :
    ∃ us z, denL ρ args = some us ∧ ρ l = some z ∧ (execOp a.eval o).run P w = (Instr.yield z.1 us.toArray).run P w := by
  unfold yldE at e
  split at e
  case h_2 => cases e
  rename_i f hc
  obtain ⟨vs, h1, h2⟩ := ob_eq.1 e
  obtain ⟨fv, h3, h4⟩ := ob_eq.1 h2
  have hf := ev_den hF h3
  split at h4
  case h_2 => cases h4
  cases h4
  have hf' : (ρ l).map (fun p => Value.func (.yield p.1) #[] #[]) = some (a.eval f) := by unfold den at hf; exact hf
  obtain ⟨z, k1, k2⟩ := Option.map_eq_some_iff.1 hf'
  refine ⟨_, z, evL_den hF h1, k1, ?_⟩
  simp only [execOp, ho, resolve, hc, Deferred.ofValue, ← k2, Sem.run_bind, Sem.run_pure, Result.andThen_ok, invoke]
  rw [map_toArray_eval]
  simp
end Go.Proofs.YteblflebjhncbaaGreatDoor
