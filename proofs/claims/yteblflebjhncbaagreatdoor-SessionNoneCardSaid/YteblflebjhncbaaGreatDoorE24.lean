/-
  A run by the kernel: calls and code, with fuel.
-/
import Derived.Test.YteblflebjhncbaaGreatDoorE23B
namespace Go.Proofs.YteblflebjhncbaaGreatDoor
open Go.RowKit

/-- the state of code: the marks among its deferred calls, the loop it is a round of. -/
structure SC where
  s : St
  ds : List Nat
  ro : Option Nat
abbrev Go2 := Nat → Code → SC → Option (Out (Ex × SC))
noncomputable def takAll (ds : List Nat) : T SObj → Option (T SObj) := List.rec (motive := fun _ => T SObj → Option (T SObj)) (fun m => some m) (fun d _ ih m => ob (takE m d) ih) ds
noncomputable def leaveE (E : Env) (g : Func) (c : SC) : Option Res := ob (takAll c.ds c.s.m) fun m => ob (resE E m c.s.F g.results.toList) fun vs => some (resV vs, m, c.s.nx)
noncomputable def backE (E : Env) (g : Func) (r : Ex × SC) : Option Res := match r.1 with
  | .normal => leaveE E g r.2
  | .ret => leaveE E g r.2
  | _ => none
noncomputable def calF (E : Env) (I : CalF) (go : Go2) : CalF := fun f args m nx => Option.rec (motive := fun _ => Option Res)
  (ob (E.fn.get f) fun g => ob g.body fun c => oi (Nat.ble (len args) g.ntmps) (ob (go g.ntmps c ⟨⟨T.ofL args 0 .leaf, m, nx⟩, [], none⟩) fun o => joinE (backE E g) o)) (fun r => some r) (I f args m nx)
noncomputable def jumpE (x : Ex) : Option Code := match x with
  | .normal => none
  | .exit id => some (.exit id)
  | .goto l => some (.goto l)
  | .ret => some .ret
def onE (x : Ex) : Bool := match x with
  | .normal => true
  | _ => false
noncomputable def endE (l : Nat) (r : Ex × SC) : Option Res := ob (endRE r.2.s.m l (jumpE r.1)) fun m => some (.bool (onE r.1), m, r.2.s.nx)
noncomputable def rdB (go : Nat → Code → SC → Option (Out (Ex × SC))) (n l : Nat) (y : Code) (r : Ex × SC) : Option Res := match r.1 with
  | .normal => ob (begE r.2.s.m l) fun m1 => ob (go n y ⟨⟨r.2.s.F, m1, r.2.s.nx⟩, r.2.ds, r.2.ro⟩) fun o => joinE (endE l) o
  | _ => none
noncomputable def rdF (go : Go2) : Nat → List SV → T SObj → Nat → Option Res := fun l args m nx => ob (ynE m l args) fun q => ob (go q.1 q.2.2.1 ⟨⟨q.2.1, m, nx⟩, [], some l⟩) fun o => joinE (rdB go q.1 l q.2.2.2) o
noncomputable def rfE (E : Env) (cal : Cal) (N : Nat) (go : Code → SC → Option (Out (Ex × SC))) (g : Operand) (ps : List Tmp) (x y : Code) (c : SC) : Option (Out (Ex × SC)) := ob (ev c.s.F g) fun fv => match fv with
  | .fn (.func gi) a cap => ob (E.fn.get gi) fun fg => ob fg.body fun _ => ob (enterE c.ro N c.s.F ps x y c.s.m c.s.nx) fun q => ob (cal.fn gi (app a (app [.yld q.2.2.2] cap)) q.1 q.2.1) fun r => ob (endLE r.2.1 q.2.2.2) fun e => match e.1 with
    | none => some (.one (.normal, ⟨⟨c.s.F, e.2, r.2.2⟩, app q.2.2.1 c.ds, c.ro⟩))
    | some j => go j ⟨⟨c.s.F, e.2, r.2.2⟩, app q.2.2.1 c.ds, c.ro⟩
  | _ => none
noncomputable def condE (v : SV) (x y : Code) : Option Code := match v with
  | .bool t => some (Bool.rec (motive := fun _ => Code) y x t)
  | _ => none
noncomputable def blkE (id : Nat) (x : Ex) : Option Ex := match x with
  | .exit j => some (Bool.rec (motive := fun _ => Ex) (.exit j) .normal (Nat.beq j id))
  | x => some x
noncomputable def scpE (x : Ex) : Option Ex := match x with
  | .goto _ => none
  | x => some x
noncomputable def stepC (E : Env) (cal : Cal) (N : Nat) (go : Code → SC → Option (Out (Ex × SC))) (c : Code) (s : SC) : Option (Out (Ex × SC)) := match c with
  | .skip => some (.one (.normal, s))
  | .label _ => some (.one (.normal, s))
  | .region _ ops draw => Bool.rec (motive := fun _ => Option (Out (Ex × SC))) (ob (opsO E cal N ops.toList ops.toList s.s) fun o => bindO o fun s' => some (.one (.normal, ⟨s', s.ds, s.ro⟩))) (ob (drawE E cal N ops.toList s.s) fun s' => some (.one (.normal, ⟨s', s.ds, s.ro⟩))) draw
  | .seq a b => ob (go a s) fun o => bindO o fun r => match r.1 with
    | .normal => go b r.2
    | x => some (.one (x, r.2))
  | .cond v x y => ob (ev s.s.F v) fun v => Option.rec (motive := fun _ => Option (Out (Ex × SC))) (oi (isB v) (ob (go x s) fun o1 => ob (go y s) fun o2 => some (.two o1 o2))) (fun c => go c s) (condE v x y)
  | .block id c => ob (go c s) fun o => bindO o fun r => ob (blkE id r.1) fun x => some (.one (x, r.2))
  | .loop c => ob (go c s) fun o => bindO o fun r => match r.1 with
    | .normal => go (.loop c) r.2
    | x => some (.one (x, r.2))
  | .exit id => some (.one (.exit id, s))
  | .goto l => some (.one (.goto l, s))
  | .ret => some (.one (.ret, s))
  | .scope c => ob (go c s) fun o => bindO o fun r => ob (scpE r.1) fun x => some (.one (x, r.2))
  | .rangeFunc g ps x y => rfE E cal N go g ps.toList x y s
  | _ => none
noncomputable def runE (E : Env) (I : CalF) (n : Nat) : Go2 := Nat.rec (motive := fun _ => Go2) (fun _ _ _ => none) (fun _ ih N c s => stepC E ⟨calF E I ih, rdF ih⟩ N (ih N) c s) n
noncomputable def callE' (E : Env) (I : CalF) (n : Nat) : CalF := calF E I (runE E I n)

variable [Orig]
structure RelC (P : Program) (ρ : Pl) (N : Nat) (c : SC) (r : Option Nat) (a : Act) (w0 : Base) (w : World) : Prop where
  F : FRel ρ N c.s.F a
  m : Emb P ρ c.s.m c.s.nx w0 w
  d : DRel ρ c.ds a.defers
  ro : RO ρ c.ro r
def PostE (P : Program) (w0 : Base) (ρ : Pl) (N : Nat) (r : Option Nat) (o : Out (Ex × SC)) : Exit → Act → World → Prop := fun e a w => ∃ q, o.Mem q ∧ e = q.1.toE ∧ ∃ ρ', Le ρ ρ' ∧ RelC P ρ' N q.2 r a w0 w
def GoOk (P : Program) (go : Go2) : Prop := ∀ N c s o, go N c s = some o → ∀ ρ r a w0 w, RelC P ρ N s r a w0 w → c.wpIn (FW r) 0 P (PostE P w0 ρ N r o) a w ∧ ∀ c0, c = .loop c0 → LW (FW r) 0 P c0 (PostE P w0 ρ N r o) a w
section
variable {P : Program}
theorem PostE.mono {w0 : Base} {ρ ρ' : Pl} {N : Nat} {r : Option Nat} {o o' : Out (Ex × SC)} (h : Le ρ ρ') (ho : ∀ q, o'.Mem q → o.Mem q) {e : Exit} {a : Act} {w : World} (k : PostE P w0 ρ' N r o' e a w) : PostE P w0 ρ N r o e a w :=
  let ⟨q, h0, h1, ρ2, h2, h3⟩ := k; ⟨q, ho q h0, h1, ρ2, h.trans h2, h3⟩
theorem RelC.rel {ρ : Pl} {N : Nat} {c : SC} {r : Option Nat} {a : Act} {w0 : Base} {w : World} (h : RelC P ρ N c r a w0 w) : Rel P ρ N c.s a.defers a w0 w := ⟨h.F, h.m, rfl⟩
theorem RelC.next {ρ ρ' : Pl} {N : Nat} {c : SC} {r : Option Nat} {a a' : Act} {w0 : Base} {w w' : World} (h : RelC P ρ N c r a w0 w) (hle : Le ρ ρ') {s' : St} (k : Rel P ρ' N s' a.defers a' w0 w') : RelC P ρ' N ⟨s', c.ds, c.ro⟩ r a' w0 w' :=
  ⟨k.F, k.m, by rw [k.d]; exact h.d.mono hle, h.ro.mono hle⟩
theorem leaves_ok {g : Func} {tmps : Array Value} {R : Ending → World → Prop} {ρ : Pl} {nx : Nat} {w0 : Base} : ∀ {ds : List Nat} {D : List Deferred} {m m' : T SObj} {w : World}, DRel ρ ds D → takAll ds m = some m' → Emb P ρ m nx w0 w →
    (∀ w', Emb P ρ m' nx w0 w' → ∃ v, (results g tmps).run P w' = .ok v w' ∧ R (.returned v) w') → LeavesInM Fence.wide 0 P g tmps R D .returning w
  | [], [], m, m', w, _, e, h, k => by
    cases e
    exact k w h
  | [], _ :: _, _, _, _, h, _, _, _ => h.elim
  | _ :: _, [], _, _, _, h, _, _, _ => h.elim
  | d :: ds, D0 :: D, m, m', w, ⟨⟨y, h1, h2⟩, h3⟩, e, h, k => by
    have e' : ob (takE m d) (takAll ds) = some m' := e
    obtain ⟨m1, e1, e2⟩ := ob_eq.1 e'
    obtain ⟨w', k1, k2⟩ := takE_ok h h1 e1
    refine ⟨by simp, .inl ⟨y.1, w', by rw [h2], k1, leaves_ok h3 e2 k2 k⟩⟩
theorem calF_ok {E : Env} (hE : EnvOk P E) {I : CalF} (hI : FnOk P I) {go : Go2} (hgo : GoOk P go) : FnOk P (calF E I go) := by
  intro f args m nx r e ρ us w0 w hargs hm
  unfold calF at e
  cases hi : I f args m nx with
  | some r' =>
    rw [hi] at e
    exact hI f args m nx r (by rw [hi]; exact e) ρ us w0 w hargs hm
  | none =>
    rw [hi] at e
    have e' : (ob (E.fn.get f) fun g => ob g.body fun c => oi (Nat.ble (len args) g.ntmps) (ob (go g.ntmps c ⟨⟨T.ofL args 0 .leaf, m, nx⟩, [], none⟩) fun o => joinE (backE E g) o)) = some r := e
    obtain ⟨g, h1, h2⟩ := ob_eq.1 e'
    obtain ⟨c, h3, h4⟩ := ob_eq.1 h2
    obtain ⟨h5, h6⟩ := oi_eq.1 h4
    obtain ⟨o, h7, h8⟩ := ob_eq.1 h6
    rw [nble_iff, len_ok] at h5
    obtain ⟨hf, -⟩ := hE.fn f g h1
    have hul := denL_len hargs
    have hsz : us.toArray.size = us.length := rfl
    have R0 : RelC P ρ g.ntmps ⟨⟨T.ofL args 0 .leaf, m, nx⟩, [], none⟩ none ({ tmps := us.toArray ++ Array.replicate (g.ntmps - us.toArray.size) undef, defers := [] } : Act) w0 w := by
      refine ⟨⟨by simp; omega, fun i v hv => ?_⟩, hm, trivial, trivial⟩
      rw [T.get_ofL0] at hv
      obtain ⟨u, k1, k2⟩ := denL_get i hargs hv
      refine ⟨u, ?_, k1⟩
      rw [Array.getElem?_append_left (by have := (List.getElem?_eq_some_iff.1 k2).1; simpa using this)]
      simpa using k2
    refine (callsIn_wide (n := 0)).1 (callsIn_of_wp_marks hf h3 trivial (wpIn_mono (F := Fence.wide) (Q := PostE P w0 ρ g.ntmps none o) (hgo g.ntmps c _ _ h7 ρ none _ w0 w R0).1 ?_))
    rintro e1 a1 w1 ⟨⟨x, s⟩, k0, rfl, ρ', k1, k2⟩
    obtain ⟨z, z1, z2, z3, z4⟩ := joinE_ok h8 k0
    have fin : leaveE E g s = some z → LeavesInM Fence.wide 0 P g a1.tmps (fun e w' => ∃ ρ' u, e = .returned u ∧ Le ρ ρ' ∧ den ρ' r.1 = some u ∧ Emb P ρ' r.2.1 r.2.2 w0 w') a1.defers .returning w1 := by
      intro h9
      obtain ⟨m', h10, h11⟩ := ob_eq.1 h9
      obtain ⟨vs, h12, h13⟩ := ob_eq.1 h11
      cases h13
      refine leaves_ok k2.d h10 k2.m fun w' hw' => ?_
      obtain ⟨u, j1, j2⟩ := resV_ok hE hw' k2.F h12
      exact ⟨u, j1, ρ', u, rfl, k1, z2 ▸ j2, hw'.weak z3 z4⟩
    unfold backE at z1
    cases x with
    | normal => exact fin z1
    | ret => exact fin z1
    | exit id => cases z1
    | goto l => cases z1
theorem rdF_ok {go : Go2} (hgo : GoOk P go) : RdOk P (rdF go) := by
  intro l args m nx r e ρ us z w0 w hargs hz hm
  obtain ⟨⟨n, F, x, y⟩, h1, h2⟩ := ob_eq.1 e
  obtain ⟨o1, h3, h4⟩ := ob_eq.1 h2
  obtain ⟨fn, tmps, k1, k2⟩ := ynE_ok hm hz h1 hargs
  refine ⟨fn, tmps, x, y, k1, roundIn_of_wpIn trivial ?_⟩
  have R0 : RelC P ρ n ⟨⟨F, m, nx⟩, [], some l⟩ (some z.1) ({ tmps := tmps, defers := [] } : Act) w0 w := ⟨⟨k2.size, k2.at_⟩, hm, trivial, z.2, hz⟩
  refine wpIn_mono (F := FW (some z.1)) (hgo n x _ _ h3 ρ (some z.1) _ w0 w R0).1 ?_
  rintro e2 a2 w2 ⟨⟨e1, c1⟩, j0, rfl, ρ2, j1, j2⟩
  obtain ⟨t1, v1, v2, v3, v4⟩ := joinE_ok h4 j0
  unfold rdB at v1
  cases e1 <;> try cases v1
  have v1' : (ob (begE c1.s.m l) fun m1 => ob (go n y ⟨⟨c1.s.F, m1, c1.s.nx⟩, c1.ds, c1.ro⟩) fun o => joinE (endE l) o) = some t1 := v1
  obtain ⟨m1, h5, h6⟩ := ob_eq.1 v1'
  obtain ⟨o2, h7, h8⟩ := ob_eq.1 h6
  obtain ⟨w3, i1, i2⟩ := begE_ok j2.m (j1 l z hz) h5
  refine ⟨w3, i1, ?_⟩
  have R1 : RelC P ρ2 n ⟨⟨c1.s.F, m1, c1.s.nx⟩, c1.ds, c1.ro⟩ (some z.1) a2 w0 w3 := ⟨j2.F, i2, j2.d, j2.ro⟩
  refine wpIn_mono (F := FW (some z.1)) (hgo n y _ _ h7 ρ2 (some z.1) a2 w0 w3 R1).1 ?_
  rintro e4 a4 w4 ⟨⟨e3, c3⟩, q0, rfl, ρ4, q1, q2⟩
  obtain ⟨t2, y1, y2, y3, y4⟩ := joinE_ok h8 q0
  obtain ⟨m2, h9, h10⟩ := ob_eq.1 y1
  cases h10
  obtain ⟨w5, p1, p2⟩ := endRE_ok q2.m (q1 l z (j1 l z hz)) h9
  have fin : ∃ v w', (Instr.endRound z.1 (jumpE e3)).run P w4 = .ok v w' ∧ ∃ ρ' u, Ending.returned v = .returned u ∧ Le ρ ρ' ∧ den ρ' r.1 = some u ∧ Emb P ρ' r.2.1 r.2.2 w0 w' :=
    ⟨_, w5, p1, ρ4, _, rfl, j1.trans q1, by rw [← v2, ← y2, den_bool]; cases e3 <;> rfl, (p2.weak y3 y4).weak v3 v4⟩
  cases e3 <;> exact fin
theorem rfE_ok {E : Env} (hE : EnvOk P E) {cal : Cal} (hcal : CalOk P cal) {go : Go2} (hgo : GoOk P go) {N : Nat} {g : Operand} {ps : Array Tmp} {x y : Code} {s : SC} {o : Out (Ex × SC)} (e : rfE E cal N (go N) g ps.toList x y s = some o) {ρ : Pl} {r : Option Nat} {a : Act} {w0 : Base} {w : World} (h : RelC P ρ N s r a w0 w) :
    (Code.rangeFunc g ps x y).wpIn (FW r) 0 P (PostE P w0 ρ N r o) a w := by
  obtain ⟨fv, h1, h2⟩ := ob_eq.1 e
  have hf := ev_den h.F h1
  split at h2
  case h_2 => cases h2
  rename_i gi fa cap
  obtain ⟨fg, h3, h4⟩ := ob_eq.1 h2
  obtain ⟨fb, h5, h6⟩ := ob_eq.1 h4
  obtain ⟨⟨m1, nx1, ds1, l⟩, h7, h8⟩ := ob_eq.1 h6
  obtain ⟨⟨v, m2, nx2⟩, h9, h10⟩ := ob_eq.1 h8
  obtain ⟨⟨pd, m3⟩, h11, h12⟩ := ob_eq.1 h10
  obtain ⟨y1, y2, k1, k2, k3, k4⟩ := den_fn hf
  obtain ⟨ρ1, lw, i1, i2, mark, i3, i4⟩ := enterE_ok h.m h.ro h.F h7
  refine wpIn_rangeFunc fun fn _ => ?_
  obtain ⟨w1, i5, i6⟩ := i4 fn
  have hyl : den ρ1 (.yld l) = some (.func (.yield lw) #[] #[]) := by unfold den; rw [i2]; rfl
  refine ⟨lw, mark, w1, { target := .fn (.func gi) y2.toArray, args := y1.toArray ++ #[Value.func (.yield lw) #[] #[]] }, w1, gi, (y1 ++ ([Value.func (.yield lw) #[] #[]] ++ y2)).toArray, w1, i5, ?_, fun _ _ => trivial, ?_, fun hd => (by cases hd), ?_⟩
  · simp only [resolve, Deferred.ofValue, k4, Sem.run_bind, Sem.run_pure, Result.andThen_ok]
    rw [map_toArray_eval]
    rfl
  · simp only [invoke]
    rw [callFunc_ok hE h3 h5]
    congr 2
    simp
  · have hargs : denL ρ1 (app fa (app [.yld l] cap)) = some (y1 ++ ([Value.func (.yield lw) #[] #[]] ++ y2)) := by
      rw [app_ok, app_ok]
      exact denL_append (denL_mono i1 _ k1) (denL_append (denL_cons.2 ⟨_, _, hyl, denL_nil _, rfl⟩) (denL_mono i1 _ k2))
    refine calls_FW ((hcal.fn gi _ m1 nx1 _ h9 ρ1 _ w0 w1 hargs i6).mono ?_)
    rintro e1 w2 ⟨ρ2, u, rfl, j1, j2, j3⟩
    obtain ⟨w3, p1, p2⟩ := endLE_ok j3 (j1 l _ i2) h11
    have hle : Le ρ ρ2 := i1.trans j1
    have R1 : RelC P ρ2 N ⟨⟨s.s.F, m3, nx2⟩, app ds1 s.ds, s.ro⟩ r { a with defers := mark ++ a.defers } w0 w3 :=
      ⟨⟨h.F.size, (h.F.mono hle).at_⟩, p2, DRel.append (i3.mono j1) (h.d.mono hle), h.ro.mono hle⟩
    refine ⟨pd, w3, p1, ?_⟩
    cases pd with
    | none =>
      cases h12
      exact ⟨_, rfl, rfl, ρ2, hle, R1⟩
    | some j =>
      exact wpIn_mono (hgo N j _ _ h12 ρ2 r _ w0 w3 R1).1 fun e2 a2 w2 j => j.mono hle fun q hq => hq
theorem stepC_ok {E : Env} (hE : EnvOk P E) {cal : Cal} (hcal : CalOk P cal) {go : Go2} (hgo : GoOk P go) {N : Nat} {c : Code} {s : SC} {o : Out (Ex × SC)} (e : stepC E cal N (go N) c s = some o) {ρ : Pl} {r : Option Nat} {a : Act} {w0 : Base} {w : World} (h : RelC P ρ N s r a w0 w) :
    c.wpIn (FW r) 0 P (PostE P w0 ρ N r o) a w ∧ ∀ c0, c = .loop c0 → LW (FW r) 0 P c0 (PostE P w0 ρ N r o) a w := by
  have at1 : ∀ {q : Ex × SC} {o : Out (Ex × SC)} {ρ1 : Pl} {e1 : Exit} {a1 : Act} {w1 : World}, o.Mem q → e1 = q.1.toE → Le ρ ρ1 → RelC P ρ1 N q.2 r a1 w0 w1 → PostE P w0 ρ N r o e1 a1 w1 := fun h0 h1 h2 h3 => ⟨_, h0, h1, _, h2, h3⟩
  unfold stepC at e
  cases c <;> simp only at e
  case skip => cases e; exact ⟨wpIn_skip (at1 (q := (.normal, s)) rfl rfl (Le.refl ρ) h), fun c0 hc => by cases hc⟩
  case label l => cases e; exact ⟨wpIn_label (at1 (q := (.normal, s)) rfl rfl (Le.refl ρ) h), fun c0 hc => by cases hc⟩
  case exit id => cases e; exact ⟨wpIn_exit (at1 (q := (.exit id, s)) rfl rfl (Le.refl ρ) h), fun c0 hc => by cases hc⟩
  case goto l => cases e; exact ⟨wpIn_goto (at1 (q := (.goto l, s)) rfl rfl (Le.refl ρ) h), fun c0 hc => by cases hc⟩
  case ret => cases e; exact ⟨wpIn_ret (at1 (q := (.ret, s)) rfl rfl (Le.refl ρ) h), fun c0 hc => by cases hc⟩
  case rangeFunc g ps x y => exact ⟨rfE_ok hE hcal hgo e h, fun c0 hc => by cases hc⟩
  case refuse => cases e
  case region id ops draw =>
    refine ⟨?_, fun c0 hc => by cases hc⟩
    have hops : ops = ops.toList.toArray := by simp
    cases draw with
    | false =>
      have e' : (ob (opsO E cal N ops.toList ops.toList s.s) fun o => bindO o fun s' => some (Out.one (Ex.normal, SC.mk s' s.ds s.ro))) = some o := e
      obtain ⟨o1, h1, h2⟩ := ob_eq.1 e'
      rw [hops]
      refine wpIn_region_lit ?_
      refine opsO_ok hE hcal h.rel (by simpa using h1) fun s' hs' ρ' a' w' k1 k2 => ?_
      obtain ⟨o2, g1, g2⟩ := bindO_mem h2 hs'
      cases g1
      exact at1 (g2 _ rfl) rfl k1 (h.next k1 k2)
    | true =>
      have e' : (ob (drawE E cal N ops.toList s.s) fun s' => some (Out.one (Ex.normal, SC.mk s' s.ds s.ro))) = some o := e
      obtain ⟨s', h1, h2⟩ := ob_eq.1 e'
      cases h2
      rw [hops]
      exact drawE_ok hE hcal h.rel (by simpa using h1) fun ρ' a' w' k1 k2 => at1 (q := (.normal, _)) rfl rfl k1 (h.next k1 k2)
  case seq x y =>
    refine ⟨?_, fun c0 hc => by cases hc⟩
    obtain ⟨o1, h1, h2⟩ := ob_eq.1 e
    refine wpIn_seq (wpIn_mono (hgo N x s _ h1 ρ r a w0 w h).1 ?_)
    rintro e1 a1 w1 ⟨⟨x1, s1⟩, k0, rfl, ρ1, k1, k2⟩
    obtain ⟨o2, g1, g2⟩ := bindO_mem h2 k0
    cases x1 with
    | normal => exact wpIn_mono (hgo N y s1 _ g1 ρ1 r a1 w0 w1 k2).1 fun e2 a2 w2 j => j.mono k1 g2
    | exit id => cases g1; exact at1 (g2 _ rfl) rfl k1 k2
    | goto l => cases g1; exact at1 (g2 _ rfl) rfl k1 k2
    | ret => cases g1; exact at1 (g2 _ rfl) rfl k1 k2
  case cond v x y =>
    refine ⟨?_, fun c0 hc => by cases hc⟩
    obtain ⟨v', h1, h2⟩ := ob_eq.1 e
    have hv := ev_den h.F h1
    cases h3 : condE v' x y with
    | none =>
      rw [h3] at h2
      obtain ⟨h4, h5⟩ := oi_eq.1 h2
      obtain ⟨o1, h6, h7⟩ := ob_eq.1 h5
      obtain ⟨o2, h8, h9⟩ := ob_eq.1 h7
      cases h9
      obtain ⟨t, ht⟩ := isB_ok h4 hv
      refine wpIn_cond ht ?_
      cases t with
      | true => exact wpIn_mono (hgo N x s _ h6 ρ r a w0 w h).1 fun e2 a2 w2 j => j.mono (o := .two o1 o2) (Le.refl ρ) fun q hq => show Out.Mem q o1 ∨ Out.Mem q o2 from Or.inl hq
      | false => exact wpIn_mono (hgo N y s _ h8 ρ r a w0 w h).1 fun e2 a2 w2 j => j.mono (o := .two o1 o2) (Le.refl ρ) fun q hq => show Out.Mem q o1 ∨ Out.Mem q o2 from Or.inr hq
    | some c' =>
      rw [h3] at h2
      have h4 : go N c' s = some o := h2
      unfold condE at h3
      split at h3
      · rename_i t
        rw [den_bool] at hv
        cases h3
        refine wpIn_cond (Option.some.inj hv).symm ?_
        cases t with
        | true => exact (hgo N x s _ h4 ρ r a w0 w h).1
        | false => exact (hgo N y s _ h4 ρ r a w0 w h).1
      · cases h3
  case block id c =>
    refine ⟨?_, fun c0 hc => by cases hc⟩
    obtain ⟨o1, h1, h2⟩ := ob_eq.1 e
    refine wpIn_block (wpIn_mono (hgo N c s _ h1 ρ r a w0 w h).1 ?_)
    rintro e1 a1 w1 ⟨⟨x1, s1⟩, k0, rfl, ρ1, k1, k2⟩
    obtain ⟨o2, g1, g2⟩ := bindO_mem h2 k0
    obtain ⟨x2, h3, h4⟩ := ob_eq.1 g1
    cases h4
    cases x1 with
    | normal => cases h3; exact at1 (g2 _ rfl) rfl k1 k2
    | goto l => cases h3; exact at1 (g2 _ rfl) rfl k1 k2
    | ret => cases h3; exact at1 (g2 _ rfl) rfl k1 k2
    | exit j =>
      have h3' : some (Bool.rec (motive := fun _ => Ex) (Ex.exit j) .normal (Nat.beq j id)) = some x2 := h3
      have h3 := Option.some.inj h3'
      show if j = id then PostE P w0 ρ N r o .normal a1 w1 else PostE P w0 ρ N r o (.exit j) a1 w1
      by_cases hj : j = id
      · rw [if_pos hj]
        rw [nbeq_iff.2 hj] at h3
        subst h3
        exact at1 (g2 _ rfl) rfl k1 k2
      · rw [if_neg hj]
        rw [nbeq hj] at h3
        subst h3
        exact at1 (g2 _ rfl) rfl k1 k2
  case loop c =>
    have lw : LW (FW r) 0 P c (PostE P w0 ρ N r o) a w := by
      obtain ⟨o1, h1, h2⟩ := ob_eq.1 e
      refine LW_step (wpIn_mono (hgo N c s _ h1 ρ r a w0 w h).1 ?_)
      rintro e1 a1 w1 ⟨⟨x1, s1⟩, k0, rfl, ρ1, k1, k2⟩
      obtain ⟨o2, g1, g2⟩ := bindO_mem h2 k0
      cases x1 with
      | normal => exact LW_mono ((hgo N (.loop c) s1 _ g1 ρ1 r a1 w0 w1 k2).2 c rfl) fun e2 a2 w2 j => j.mono k1 g2
      | exit id => cases g1; exact at1 (g2 _ rfl) rfl k1 k2
      | goto l => cases g1; exact at1 (g2 _ rfl) rfl k1 k2
      | ret => cases g1; exact at1 (g2 _ rfl) rfl k1 k2
    exact ⟨wpIn_of_LW lw, fun c0 hc => by cases hc; exact lw⟩
  case scope c =>
    refine ⟨?_, fun c0 hc => by cases hc⟩
    obtain ⟨o1, h1, h2⟩ := ob_eq.1 e
    refine wpIn_scope_straight (wpIn_mono (hgo N c s _ h1 ρ r a w0 w h).1 ?_)
    rintro e1 a1 w1 ⟨⟨x1, s1⟩, k0, rfl, ρ1, k1, k2⟩
    obtain ⟨o2, g1, g2⟩ := bindO_mem h2 k0
    obtain ⟨x2, h3, h4⟩ := ob_eq.1 g1
    cases h4
    cases x1 with
    | normal => cases h3; exact at1 (g2 _ rfl) rfl k1 k2
    | goto l => cases h3
    | ret => cases h3; exact at1 (g2 _ rfl) rfl k1 k2
    | exit j => cases h3; exact at1 (g2 _ rfl) rfl k1 k2
end
theorem runE_ok {P : Program} {E : Env} (hE : EnvOk P E) {I : CalF} (hI : FnOk P I) : ∀ n, GoOk P (runE E I n)
  | 0 => fun N c s q h => by cases h
  | n + 1 => fun N c s q h ρ r a w0 w hR => stepC_ok hE ⟨calF_ok hE hI (runE_ok hE hI n), rdF_ok (runE_ok hE hI n)⟩ (runE_ok hE hI n) h hR
theorem callE_ok {P : Program} {E : Env} (hE : EnvOk P E) {I : CalF} (hI : FnOk P I) (n : Nat) : FnOk P (callE' E I n) := calF_ok hE hI (runE_ok hE hI n)
theorem noI_ok (P : Program) : FnOk P fun _ _ _ _ => none := fun f args m nx r h => by cases h
/-- a closed run, in any world. -/
def trueR (r : Option Res) : Bool := match r with
  | some (.bool true, _, _) => true
  | _ => false
omit [Orig] in
/-- a run whose arguments are not known. -/
theorem sym_run {P : Program} {E : Env} (hE : EnvOk P E) (w : World) (V : Nat → Option Value) {nx : Nat} (hV : ∀ b, nx ≤ b → V b = none) {I : CalF} (hI : letI : Orig := ⟨w, V⟩; FnOk P I) {n : Nat} {f : FuncId} {args : List SV} {v : SV} (h : (callE' E I n f args .leaf nx).map (·.1) = some v) {us : List Value} (hd : denL ⟨fun _ => none, V⟩ args = some us) :
    Calls P f us.toArray w fun e w' => ∃ ρ' u, (∀ i v, V i = some v → ρ'.val i = some v) ∧ e = .returned u ∧ den ρ' v = some u ∧ Touch [] w w' := by
  letI : Orig := ⟨w, V⟩
  obtain ⟨r, hr, rfl⟩ := Option.map_eq_some_iff.1 h
  refine (callE_ok hE hI n f args .leaf nx _ hr ⟨fun _ => none, V⟩ us (.of w) w hd (Emb.empty P w rfl hV)).mono ?_
  rintro e w' ⟨ρ', u, rfl, h1, h2, h3⟩
  exact ⟨ρ', u, h1.val, rfl, h2, h3.touch.touch⟩
omit [Orig] in
theorem closed_true {P : Program} {E : Env} (hE : EnvOk P E) {I : CalF} (hI : ∀ [Orig], FnOk P I) {n : Nat} {f : FuncId} (h : trueR (callE' E I n f [] .leaf 0) = true) (w : World) : Calls P f #[] w fun e w' => e = .returned (.bool true) ∧ Touch [] w w' := by
  cases hr : callE' E I n f [] .leaf 0 with
  | none => rw [hr] at h; cases h
  | some r =>
    obtain ⟨v, m, x⟩ := r
    rw [hr] at h
    refine (sym_run hE w (fun _ => none) (fun _ _ => rfl) (@hI ⟨w, fun _ => none⟩) (args := []) (v := v) (by rw [hr]; rfl) (denL_nil _)).mono ?_
    rintro e w' ⟨ρ', u, -, rfl, h2, h3⟩
    cases v <;> try cases h
    rename_i b
    cases b <;> try cases h
    rw [den_bool] at h2
    cases h2
    exact ⟨rfl, h3⟩
/-- the program's tables. -/
noncomputable def envOf (P : Program) : Env := ⟨T.ofL P.types.toList 0 .leaf, T.ofL P.funcs.toList 0 .leaf, fun t => and (not (P.stoodInHeld t)) (not (P.eqGuardType P.depth t))⟩
omit [Orig] in
theorem envOf_ok (P : Program) (h : (P.funcs.toList.all fun g => !(g.name == "runtime.NumGoroutine")) = true) (hm : P.follows .mixedOrders = true) : EnvOk P (envOf P) := by
  refine ⟨fun t i ht => ?_, fun f g hf => ?_, hm, fun t ht => by
    have ht' : and (not (P.stoodInHeld t)) (not (P.eqGuardType P.depth t)) = true := ht
    simpa using ht'⟩
  · have ht' : (T.ofL P.types.toList 0 .leaf).get t = some i := ht
    rw [T.get_ofL0] at ht'
    have hlt := (List.getElem?_eq_some_iff.1 ht').1
    have : P.types[t]? = some i := by simpa using ht'
    unfold Tables.info?
    rw [if_pos (by simpa using hlt)]
    exact this
  · have hf' : (T.ofL P.funcs.toList 0 .leaf).get f = some g := hf
    rw [T.get_ofL0] at hf'
    refine ⟨by simpa using hf', ?_⟩
    have := List.all_eq_true.1 h g (List.mem_of_getElem? hf')
    simpa using this
end Go.Proofs.YteblflebjhncbaaGreatDoor
