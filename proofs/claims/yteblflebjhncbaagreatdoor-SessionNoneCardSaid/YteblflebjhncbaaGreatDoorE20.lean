/-
  A run by the kernel: code.
-/
import Derived.Test.YteblflebjhncbaaGreatDoorE19B
import Derived.TacticsIn
import Derived.Scope
namespace Go.Proofs.YteblflebjhncbaaGreatDoor
open Go.RowKit

structure St where
  F : T SV
  m : T SObj
  nx : Nat
inductive Ex where
  | normal
  | exit (id : Nat)
  | goto (l : Nat)
  | ret
def Ex.toE : Ex → Exit
  | .normal => .normal
  | .exit id => .exit id
  | .goto l => .goto l
  | .ret => .ret
abbrev Res := SV × T SObj × Nat
abbrev CalF := FuncId → List SV → T SObj → Nat → Option Res
/-- functions, and rounds of loops over functions. -/
structure Cal where
  fn : CalF
  rd : Nat → List SV → T SObj → Nat → Option Res
def FW (r : Option Nat) : Fence := { Fence.wide with round := r }
theorem calls_FW {P : Program} {r : Option Nat} {n : Nat} {f : FuncId} {args : Array Value} {w : World} {R : Ending → World → Prop} (h : Calls P f args w R) : CallsIn (FW r) n P f args w R := (callsIn_wide (n := n)).2 h
theorem callsIn_FW {P : Program} {r r' : Option Nat} {n n' : Nat} {f : FuncId} {args : Array Value} {w : World} {R : Ending → World → Prop} (h : CallsIn (FW r) n P f args w R) : CallsIn (FW r') n' P f args w R :=
  calls_FW (h.calls fun k d hd => by cases hd)
variable [Orig]
def FnOk (P : Program) (cal : CalF) : Prop := ∀ f args m nx r, cal f args m nx = some r → ∀ (ρ : Pl) (us : List Value) (w0 : Base) (w : World), denL ρ args = some us → Emb P ρ m nx w0 w →
  Calls P f us.toArray w fun e w' => ∃ ρ' u, e = .returned u ∧ Le ρ ρ' ∧ den ρ' r.1 = some u ∧ Emb P ρ' r.2.1 r.2.2 w0 w'
def RdOk (P : Program) (rd : Nat → List SV → T SObj → Nat → Option Res) : Prop := ∀ l args m nx r, rd l args m nx = some r → ∀ (ρ : Pl) (us : List Value) (z : Nat × Nat) (w0 : Base) (w : World), denL ρ args = some us → ρ l = some z → Emb P ρ m nx w0 w →
  ∃ fn tmps x y, (Instr.yield z.1 us.toArray).run P w = .ok (.round z.1 fn tmps x y) w ∧ RoundIn Fence.wide 0 P z.1 fn tmps x y w fun e w' => ∃ ρ' u, e = .returned u ∧ Le ρ ρ' ∧ den ρ' r.1 = some u ∧ Emb P ρ' r.2.1 r.2.2 w0 w'
structure CalOk (P : Program) (cal : Cal) : Prop where
  fn : FnOk P cal.fn
  rd : RdOk P cal.rd
structure Rel (P : Program) (ρ : Pl) (N : Nat) (s : St) (D : List Deferred) (a : Act) (w0 : Base) (w : World) : Prop where
  F : FRel ρ N s.F a
  m : Emb P ρ s.m s.nx w0 w
  d : a.defers = D

/-- is a guarded operation wanted? -/
noncomputable def wantE (all : List Oper) (F : T SV) (g : Option (Nat × Bool)) : Option Bool := match g with
  | none => some true
  | some (j, want) => ob (nth j all) fun o => ob o.dst fun d => ob (F.get d) fun v => match v with
    | .bool b => some (Bool.rec (motive := fun _ => Bool) (not want) want b)
    | .tup _ => some false
    | _ => none
omit [Orig] in
theorem wantE_ok {ρ : Pl} {N : Nat} {F : T SV} {a : Act} (hF : FRel ρ N F a) {all : List Oper} {o : Oper} {b : Bool} (e : wantE all F o.guard = some b) : Region.wanted o (yielded all.toArray a.tmps) = b := by
  unfold Region.wanted
  unfold wantE at e
  split at e
  · rename_i hg
    rw [hg]
    cases e
    rfl
  · rename_i j want hg
    rw [hg]
    obtain ⟨o', h1, h2⟩ := ob_eq.1 e
    obtain ⟨d, h3, h4⟩ := ob_eq.1 h2
    obtain ⟨v, h5, h6⟩ := ob_eq.1 h4
    rw [nth_ok] at h1
    obtain ⟨u, k1, k2⟩ := hF.at_ d v h5
    have hy : yielded all.toArray a.tmps j = (match u with | .bool b => some b | _ => none) := by
      unfold yielded
      simp only [List.getElem?_toArray, h1, Option.bind_some, h3, k1]
      cases u <;> rfl
    simp only [hy]
    split at h6
    · rename_i b'
      rw [den_bool] at k2
      cases k2
      cases h6
      cases b' <;> cases want <;> rfl
    · obtain ⟨us, -, rfl⟩ := den_tup k2
      cases h6
      cases want <;> rfl
    · cases h6
noncomputable def callE (E : Env) (cal : Cal) (o : Oper) (s : St) : Option Res := match o.op with
  | .call c => Option.rec (motive := fun _ => Option Res) (ob (yldE s.F c) fun t => cal.rd t.1 t.2 s.m s.nx) (fun r => some r) (ob (tgtE E s.F c) fun t => ob (E.fn.get t.1) fun g => ob g.body fun _ => cal.fn t.1 t.2 s.m s.nx)
  | _ => none
noncomputable def valE (E : Env) (cal : Cal) (o : Oper) (s : St) : Option Res :=
  Option.rec (motive := fun _ => Option Res) (Option.rec (motive := fun _ => Option Res) (callE E cal o s) (fun r => some r) (evA E s.m s.nx s.F o)) (fun v => some (v, s.m, s.nx)) (evP E s.m s.F o)
noncomputable def doE (E : Env) (cal : Cal) (N : Nat) (o : Oper) (s : St) : Option St := ob (valE E cal o s) fun r => ob (fput N s.F o.dst r.1) fun F' => some ⟨F', r.2.1, r.2.2⟩
omit [Orig] in
theorem nd_P {E : Env} {m : T SObj} {F : T SV} {o : Oper} {v : SV} (e : evP E m F o = some v) : ∀ c, o.op ≠ .defer c := by
  intro c h
  unfold evP at e
  rw [h] at e
  cases e
omit [Orig] in
theorem nd_A {E : Env} {m : T SObj} {nx : Nat} {F : T SV} {o : Oper} {v : SV × T SObj × Nat} (e : evA E m nx F o = some v) : ∀ c, o.op ≠ .defer c := by
  intro c h
  unfold evA at e
  rw [h] at e
  cases e
section
variable {P : Program} {r : Option Nat}
theorem valE_ok {E : Env} (hE : EnvOk P E) {cal : Cal} (hcal : CalOk P cal) {ρ : Pl} {N : Nat} {s : St} {D : List Deferred} {a : Act} {w0 : Base} {w : World} (h : Rel P ρ N s D a w0 w) {o : Oper} {q : Res} (e : valE E cal o s = some q) {K : Act → World → Prop} {Q : Exit → Act → World → Prop}
    (hK : ∀ ρ' u w', Le ρ ρ' → den ρ' q.1 = some u → Emb P ρ' q.2.1 q.2.2 w0 w' → K (a.put o.dst u) w') : o.wpIn (FW r) 0 P a w K Q := by
  refine ⟨fun _ _ => trivial, ?_⟩
  unfold valE at e
  cases hp : evP E s.m s.F o with
  | some v =>
    rw [hp] at e
    cases e
    rw [Oper.semAt_eq _ _ _ (nd_P hp)]
    obtain ⟨u, h1, h2⟩ := evP_ok hE h.m h.F hp
    rw [h1]
    exact hK ρ u w (Le.refl ρ) h2 h.m
  | none =>
    rw [hp] at e
    cases ha : evA E s.m s.nx s.F o with
    | some r' =>
      rw [ha] at e
      cases e
      rw [Oper.semAt_eq _ _ _ (nd_A ha)]
      obtain ⟨ρ', u, w', n, h1, h2, h3, h4, h5⟩ := evA_ok hE h.m h.F ha
      rw [h2]
      rcases h3 with rfl | ⟨rfl, rfl⟩
      · exact hK ρ' u w' h1 h4 h5
      · exact hK ρ' undef w' h1 h4 h5
    | none =>
      rw [ha] at e
      have e' : callE E cal o s = some q := e
      unfold callE at e'
      split at e'
      case h_2 => cases e'
      rename_i c ho
      rw [Oper.semAt_eq _ _ _ (fun c' h' => by rw [ho] at h'; cases h')]
      cases ht : (ob (tgtE E s.F c) fun t => ob (E.fn.get t.1) fun g => ob g.body fun _ => cal.fn t.1 t.2 s.m s.nx) with
      | some q' =>
        rw [ht] at e'
        cases e'
        obtain ⟨⟨f, args⟩, h1, h2⟩ := ob_eq.1 ht
        obtain ⟨g, h3, h4⟩ := ob_eq.1 h2
        obtain ⟨b, h5, h6⟩ := ob_eq.1 h4
        obtain ⟨us, k1, k2⟩ := tgtE_ok hE h.F ho h1 h3 h5 w
        rw [k2]
        refine ⟨fun hd => (by cases hd), calls_FW ((hcal.fn f args s.m s.nx q h6 ρ us w0 w k1 h.m).mono ?_)⟩
        rintro e1 w' ⟨ρ', u, rfl, h7, h8, h9⟩
        exact hK ρ' u w' h7 h8 h9
      | none =>
        rw [ht] at e'
        have e2 : (ob (yldE s.F c) fun t => cal.rd t.1 t.2 s.m s.nx) = some q := e'
        obtain ⟨⟨l, args⟩, h1, h2⟩ := ob_eq.1 e2
        obtain ⟨us, z, k1, k2, k3⟩ := yldE_ok h.F ho h1 w
        obtain ⟨fn, tmps, x, y, j1, j2⟩ := hcal.rd l args s.m s.nx q h2 ρ us z w0 w k1 k2 h.m
        rw [k3, j1]
        refine ⟨fun hd => (by cases hd), RoundIn.mono (F := FW r) (R := fun e w' => ∃ ρ' u, e = .returned u ∧ Le ρ ρ' ∧ den ρ' q.1 = some u ∧ Emb P ρ' q.2.1 q.2.2 w0 w') j2 ?_⟩
        rintro e1 w' ⟨ρ', u, rfl, h7, h8, h9⟩
        exact hK ρ' u w' h7 h8 h9
noncomputable def stepE (E : Env) (cal : Cal) (N : Nat) (all : List Oper) (o : Oper) (s : St) : Option St := ob (wantE all s.F o.guard) fun b =>
  Bool.rec (motive := fun _ => Option St) (ob (fput N s.F o.dst (.tup [])) fun F' => some ⟨F', s.m, s.nx⟩) (doE E cal N o s) b
theorem stepE_ok {E : Env} (hE : EnvOk P E) {cal : Cal} (hcal : CalOk P cal) {ρ : Pl} {N : Nat} {all : List Oper} {s s' : St} {D : List Deferred} {a : Act} {w0 : Base} {w : World} (h : Rel P ρ N s D a w0 w) {o : Oper} (e : stepE E cal N all o s = some s') {K : Act → World → Prop} {Q : Exit → Act → World → Prop}
    (hK : ∀ ρ' a' w', Le ρ ρ' → Rel P ρ' N s' D a' w0 w' → K a' w') : if Region.wanted o (yielded all.toArray a.tmps) = true then o.wpIn (FW r) 0 P a w K Q else (∀ f, o.about P w a.eval = some f → (FW r).fn f) ∧ K (a.put o.dst undef) w := by
  obtain ⟨b, h1, h2⟩ := ob_eq.1 e
  rw [wantE_ok h.F h1]
  cases b with
  | true =>
    rw [if_pos rfl]
    have h2' : doE E cal N o s = some s' := h2
    obtain ⟨q, h3, h4⟩ := ob_eq.1 h2'
    obtain ⟨F', h5, h6⟩ := ob_eq.1 h4
    cases h6
    refine valE_ok hE hcal h h3 fun ρ' u w' k1 k2 k3 => hK ρ' _ w' k1 ⟨(h.F.mono k1).put h5 k2, k3, ?_⟩
    rw [put_defers]; exact h.d
  | false =>
    rw [if_neg (by simp)]
    have h2' : (ob (fput N s.F o.dst (.tup [])) fun F' => some (St.mk F' s.m s.nx)) = some s' := h2
    obtain ⟨F', h5, h6⟩ := ob_eq.1 h2'
    cases h6
    exact ⟨fun _ _ => trivial, hK ρ _ w (Le.refl ρ) ⟨h.F.put h5 (den_undef ρ), h.m, by rw [put_defers]; exact h.d⟩⟩
noncomputable def opsE (E : Env) (cal : Cal) (N : Nat) (all l : List Oper) : St → Option St := List.rec (motive := fun _ => St → Option St) (fun s => some s) (fun o _ ih s => ob (stepE E cal N all o s) fun s' => ih s') l
theorem opsE_ok {E : Env} (hE : EnvOk P E) {cal : Cal} (hcal : CalOk P cal) {N : Nat} {all : List Oper} {w0 : Base} {Q : Exit → Act → World → Prop} : ∀ {l : List Oper} {ρ : Pl} {s s' : St} {D : List Deferred} {a : Act} {w : World}, Rel P ρ N s D a w0 w → opsE E cal N all l s = some s' →
    (∀ ρ' a' w', Le ρ ρ' → Rel P ρ' N s' D a' w0 w' → Q .normal a' w') → wpListIn (FW r) 0 P all.toArray Q l a w
  | [], ρ, s, s', D, a, w, h, e, hQ => by cases e; exact wpListIn_nil (hQ ρ a w (Le.refl ρ) h)
  | o :: l, ρ, s, s', D, a, w, h, e, hQ => by
    have e' : (ob (stepE E cal N all o s) fun s' => opsE E cal N all l s') = some s' := e
    obtain ⟨s1, h1, h2⟩ := ob_eq.1 e'
    refine wpListIn_step fun K hK => stepE_ok hE hcal h h1 fun ρ' a' w' k1 k2 => hK a' w' ?_
    exact opsE_ok hE hcal k2 h2 fun ρ2 a2 w2 j1 j2 => hQ ρ2 a2 w2 (k1.trans j1) j2
end
section
variable {F : Fence} {n : Nat} {P : Program} {Q : Exit → Act → World → Prop} {a : Act} {w : World}
/-- a loop, behind a round. -/
def LW (F : Fence) (n : Nat) (P : Program) (c : Code) (Q : Exit → Act → World → Prop) (a : Act) (w : World) : Prop :=
  ∀ (b : Frame) (k : List Item) (cs : List Frame), b.roundOf = F.round → F.fn b.fn → F.room (cs.length + 1 + n) → ∃ e a' w', Q e a' w' ∧ ArrivesIn (Machine.fenced P F) P (lone (b.atR a (.code c :: .inLoop c :: k)) cs w) b k cs e a' w'
omit [Orig] in
theorem LW_step {c : Code} (h : c.wpIn F n P (Exit.then (LW F n P c Q) Q) a w) : LW F n P c Q a w := by
  intro b k cs hro hb hr
  obtain ⟨e, a₁, w₁, hq, harr⟩ := h b (.inLoop c :: k) cs hro hb hr
  cases e with
  | normal =>
    obtain ⟨e₂, a₂, w₂, hq₂, harr₂⟩ := hq b k cs hro hb hr
    exact ⟨e₂, a₂, w₂, hq₂, .of_steps (StepsIn.trans harr (.one (fenced_calm hb hr rfl) stepR_inLoop)) harr₂⟩
  | exit id => exact ⟨_, a₁, w₁, hq, .pass (x := .inLoop c) rfl (fun _ _ => .inl (by simp)) harr⟩
  | goto l => exact ⟨_, a₁, w₁, hq, .pass (x := .inLoop c) rfl (fun _ _ => .inl (by simp)) harr⟩
  | ret => exact ⟨_, a₁, w₁, hq, .pass (x := .inLoop c) rfl (fun _ _ => .inl (by simp)) harr⟩
  | panic ch => exact ⟨_, a₁, w₁, hq, .pass (x := .inLoop c) rfl (fun _ _ => .inl (by simp)) harr⟩
  | outgrown => exact ⟨_, a₁, w₁, hq, .pass (x := .inLoop c) rfl (fun _ _ => .inl (by simp)) harr⟩
omit [Orig] in
theorem wpIn_of_LW {c : Code} (h : LW F n P c Q a w) : (Code.loop c).wpIn F n P Q a w := by
  intro b k cs hro hb hr
  obtain ⟨e, a', w', hq, harr⟩ := h b k cs hro hb hr
  exact ⟨e, a', w', hq, .of_steps (.one (fenced_calm hb hr rfl) stepR_loop) harr⟩
omit [Orig] in
theorem LW_mono {c : Code} {Q' : Exit → Act → World → Prop} (h : LW F n P c Q a w) (hq : ∀ e a w, Q e a w → Q' e a w) : LW F n P c Q' a w :=
  fun b k cs h1 h2 h3 => let ⟨e, a', w', q, r⟩ := h b k cs h1 h2 h3; ⟨e, a', w', hq _ _ _ q, r⟩
omit [Orig] in
theorem stepR_scope {b : Frame} {k : List Item} {cs : List Frame} {c : Code} : step P (lone (b.atR a (.code (.scope c) :: k)) cs w) = .next (lone (b.atR a (.code c :: .inScope c :: k)) cs w) :=
  step_lone_go (by simp [stepG, stepG.exec, Frame.atR])
omit [Orig] in
theorem stepR_inScope {b : Frame} {k : List Item} {cs : List Frame} {c : Code} : step P (lone (b.atR a (.inScope c :: k)) cs w) = .next (lone (b.atR a k) cs w) :=
  step_lone_go (by simp [stepG, stepG.exec, Frame.atR])
omit [Orig] in
theorem wpIn_scope_straight {c : Code} (h : c.wpIn F n P (Exit.noGoto Q) a w) : (Code.scope c).wpIn F n P Q a w := by
  intro b k cs hro hb hr
  have h0 : (lone (b.atR a (.code (.scope c) :: k)) cs w).fenced P F := fenced_calm hb hr rfl
  obtain ⟨e, a₁, w₁, hq, harr⟩ := h b (.inScope c :: k) cs hro hb hr
  cases e with
  | normal => exact ⟨.normal, a₁, w₁, hq, .head h0 stepR_scope (StepsIn.trans harr (.one (fenced_calm hb hr rfl) stepR_inScope))⟩
  | exit id =>
    have hx : exitTo id (.inScope c :: k) = exitTo id k := by simp [exitTo]
    exact ⟨.exit id, a₁, w₁, hq, fun k' hk => .head h0 stepR_scope (harr.1 k' (by rw [hx]; exact hk)),
      fun hr' hk => let ⟨k₁, h1, h2⟩ := harr.2 hr' (by rw [hx]; exact hk); ⟨k₁, h1, .head h0 stepR_scope h2⟩⟩
  | goto l => exact hq.elim
  | ret => exact ⟨_, a₁, w₁, hq, .of_steps (.one h0 stepR_scope) harr⟩
  | panic ch => exact ⟨_, a₁, w₁, hq, .of_steps (.one h0 stepR_scope) harr⟩
  | outgrown => exact ⟨_, a₁, w₁, hq, .of_steps (.one h0 stepR_scope) harr⟩
end
end Go.Proofs.YteblflebjhncbaaGreatDoor
