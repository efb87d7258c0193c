/-
  A run by the kernel: where the order of a map's entries is not known: all of them, and what they have in common.
-/
import Derived.Test.YteblflebjhncbaaGreatDoorE23
namespace Go.Proofs.YteblflebjhncbaaGreatDoor
open Go.RowKit

inductive Out (α : Type) where
  | one (a : α)
  | two (x y : Out α)
def Out.Mem {α : Type} (a : α) : Out α → Prop
  | .one b => a = b
  | .two x y => Out.Mem a x ∨ Out.Mem a y
noncomputable def bindO {α β : Type} (o : Out α) (f : α → Option (Out β)) : Option (Out β) := Out.rec (motive := fun _ => Option (Out β)) (fun a => f a) (fun _ _ ih1 ih2 => ob ih1 fun x => ob ih2 fun y => some (.two x y)) o
theorem bindO_mem {α β : Type} {f : α → Option (Out β)} {a : α} : ∀ {o : Out α} {r : Out β}, bindO o f = some r → o.Mem a → ∃ r2, f a = some r2 ∧ ∀ b, r2.Mem b → r.Mem b
  | .one b, r, h, e => by
    obtain rfl : a = b := e
    exact ⟨r, h, fun b hb => hb⟩
  | .two x y, r, h, e => by
    have h' : (ob (bindO x f) fun x => ob (bindO y f) fun y => some (Out.two x y)) = some r := h
    obtain ⟨x1, h1, h2⟩ := ob_eq.1 h'
    obtain ⟨y1, h3, h4⟩ := ob_eq.1 h2
    cases h4
    rcases e with e | e
    · obtain ⟨r2, k1, k2⟩ := bindO_mem h1 e
      exact ⟨r2, k1, fun b hb => .inl (k2 b hb)⟩
    · obtain ⟨r2, k1, k2⟩ := bindO_mem h3 e
      exact ⟨r2, k1, fun b hb => .inr (k2 b hb)⟩
noncomputable def outR {α β : Type} (f : α → Option β) (qs : List α) : α → Option (Out β) := List.rec (motive := fun _ => α → Option (Out β)) (fun q => ob (f q) fun x => some (.one x)) (fun q' _ ih q => ob (f q) fun x => ob (ih q') fun y => some (.two (.one x) y)) qs
theorem outR_mem {α β : Type} {f : α → Option β} : ∀ {qs : List α} {q : α} {r : Out β}, outR f qs q = some r → ∀ a ∈ q :: qs, ∃ b, f a = some b ∧ r.Mem b
  | [], q, r, h, a, ha => by
    have h' : (ob (f q) fun x => some (Out.one x)) = some r := h
    obtain ⟨x, h1, h2⟩ := ob_eq.1 h'
    cases h2
    obtain rfl : a = q := by simpa using ha
    exact ⟨x, h1, rfl⟩
  | q' :: qs, q, r, h, a, ha => by
    have h' : (ob (f q) fun x => ob (outR f qs q') fun y => some (Out.two (.one x) y)) = some r := h
    obtain ⟨x, h1, h2⟩ := ob_eq.1 h'
    obtain ⟨y, h3, h4⟩ := ob_eq.1 h2
    cases h4
    rcases List.mem_cons.1 ha with rfl | ha
    · exact ⟨x, h1, .inl rfl⟩
    · obtain ⟨b, k1, k2⟩ := outR_mem h3 a ha
      exact ⟨b, k1, .inr k2⟩
noncomputable def outL {α β : Type} (f : α → Option β) (l : List α) : Option (Out β) := match l with
  | [] => none
  | q :: qs => outR f qs q
theorem outL_mem {α β : Type} {f : α → Option β} {l : List α} {r : Out β} (h : outL f l = some r) : ∀ a ∈ l, ∃ b, f a = some b ∧ r.Mem b := by
  cases l with
  | nil => cases h
  | cons q qs => exact outR_mem h

/-- an operation that goes several ways. -/
noncomputable def branE (N : Nat) (all : List Oper) (o : Oper) (s : St) : Option (Out St) := match o.op with
  | .next x false => ob (wantE all s.F o.guard) fun b => oi b (ob (ev s.F x) fun v => ob (nlE s.m v) fun l => outL (fun r => ob (fput N s.F o.dst r.1) fun F' => some ⟨F', r.2, s.nx⟩) l)
  | _ => none
noncomputable def opsO (E : Env) (cal : Cal) (N : Nat) (all l : List Oper) : St → Option (Out St) := List.rec (motive := fun _ => St → Option (Out St)) (fun s => some (.one s)) (fun o _ ih s => Option.rec (motive := fun _ => Option (Out St)) (ob (branE N all o s) fun out => bindO out ih) (fun s' => ih s') (stepE E cal N all o s)) l
variable [Orig]
section
variable {P : Program} {r : Option Nat}
theorem branE_ok {ρ : Pl} {N : Nat} {all : List Oper} {s : St} {D : List Deferred} {a : Act} {w0 : Base} {w : World} (h : Rel P ρ N s D a w0 w) {o : Oper} {out : Out St} (e : branE N all o s = some out) {K : Act → World → Prop} {Q : Exit → Act → World → Prop}
    (hK : ∀ s', out.Mem s' → ∀ a' w', Rel P ρ N s' D a' w0 w' → K a' w') : if Region.wanted o (yielded all.toArray a.tmps) = true then o.wpIn (FW r) 0 P a w K Q else (∀ f, o.about P w a.eval = some f → (FW r).fn f) ∧ K (a.put o.dst undef) w := by
  unfold branE at e
  split at e
  case h_2 => cases e
  rename_i x hop
  obtain ⟨b, h1, h2⟩ := ob_eq.1 e
  obtain ⟨rfl, h3⟩ := oi_eq.1 h2
  obtain ⟨v, h4, h5⟩ := ob_eq.1 h3
  obtain ⟨l, h6, h7⟩ := ob_eq.1 h5
  rw [wantE_ok h.F h1, if_pos rfl]
  refine ⟨fun _ _ => trivial, ?_⟩
  rw [Oper.semAt_eq _ _ _ (fun c' h' => by rw [hop] at h'; cases h')]
  obtain ⟨q, k1, u, w', k2, k3, k4⟩ := nlE_ok (P := P) (ty := o.type) h.m h6 (ev_den h.F h4)
  obtain ⟨s', k5, k6⟩ := outL_mem h7 q k1
  obtain ⟨F', k7, k8⟩ := ob_eq.1 k5
  cases k8
  have hrun : (execOp a.eval o).run P w = .ok (.value u) w' := by
    have : execOp a.eval o = (do pure (Next.value (← Instr.next (a.eval x) false o.type)) : Sem Next) := by
      unfold execOp
      rw [hop]
    rw [this]
    exact run_val k2
  rw [hrun]
  exact hK _ k6 _ w' ⟨h.F.put k7 k3, k4, by rw [put_defers]; exact h.d⟩
theorem opsO_ok {E : Env} (hE : EnvOk P E) {cal : Cal} (hcal : CalOk P cal) {N : Nat} {all : List Oper} {w0 : Base} {Q : Exit → Act → World → Prop} : ∀ {l : List Oper} {ρ : Pl} {s : St} {out : Out St} {D : List Deferred} {a : Act} {w : World}, Rel P ρ N s D a w0 w → opsO E cal N all l s = some out →
    (∀ s', out.Mem s' → ∀ ρ' a' w', Le ρ ρ' → Rel P ρ' N s' D a' w0 w' → Q .normal a' w') → wpListIn (FW r) 0 P all.toArray Q l a w
  | [], ρ, s, out, D, a, w, h, e, hQ => by cases e; exact wpListIn_nil (hQ s rfl ρ a w (Le.refl ρ) h)
  | o :: l, ρ, s, out, D, a, w, h, e, hQ => by
    have e' : Option.rec (motive := fun _ => Option (Out St)) (ob (branE N all o s) fun out => bindO out (opsO E cal N all l)) (fun s' => opsO E cal N all l s') (stepE E cal N all o s) = some out := e
    cases h1 : stepE E cal N all o s with
    | some s1 =>
      rw [h1] at e'
      refine wpListIn_step fun K hK => stepE_ok hE hcal h h1 fun ρ' a' w' k1 k2 => hK a' w' ?_
      exact opsO_ok hE hcal k2 e' fun s2 j0 ρ2 a2 w2 j1 j2 => hQ s2 j0 ρ2 a2 w2 (k1.trans j1) j2
    | none =>
      rw [h1] at e'
      have e2 : (ob (branE N all o s) fun out => bindO out (opsO E cal N all l)) = some out := e'
      obtain ⟨o1, h2, h3⟩ := ob_eq.1 e2
      refine wpListIn_step fun K hK => branE_ok h h2 fun s1 hs1 a' w' k2 => hK a' w' ?_
      obtain ⟨o2, g1, g2⟩ := bindO_mem h3 hs1
      exact opsO_ok hE hcal k2 g1 fun s2 j0 ρ2 a2 w2 j1 j2 => hQ s2 (g2 s2 j0) ρ2 a2 w2 j1 j2
end
/-! what several ways have in common -/
noncomputable def enEq : List SE → List SE → Bool := fun l => List.rec (motive := fun _ => List SE → Bool) (fun m => match m with | [] => true | _ => false) (fun x _ ih m => match m with
  | y :: m => and (Nat.beq x.born y.born) (and (svEq x.key y.key) (and (svEq x.val y.val) (ih m)))
  | [] => false) l
omit [Orig] in
theorem enEq_ok : ∀ {l m : List SE}, enEq l m = true → l = m
  | [], [], _ => rfl
  | [], _ :: _, h => by cases h
  | _ :: _, [], h => by cases h
  | x :: l, y :: m, h => by
    have h' : (and (Nat.beq x.born y.born) (and (svEq x.key y.key) (and (svEq x.val y.val) (enEq l m)))) = true := h
    simp only [Bool.and_eq_true, nbeq_iff] at h'
    obtain ⟨h1, h2, h3, h4⟩ := h'
    rw [enEq_ok h4]
    have := svEq_ok h2
    have := svEq_ok h3
    cases x; cases y
    simp_all
noncomputable def obEq (x y : SObj) : Bool := match x with
  | .cells cs e o => match y with
    | .cells cs' e' o' => and (Nat.beq e e') (and (o == o') (svEqL cs cs'))
    | _ => false
  | .map es c => match y with
    | .map es' c' => and (Nat.beq c c') (enEq es es')
    | _ => false
  | .defr b => match y with
    | .defr b' => b == b'
    | _ => false
  | _ => false
omit [Orig] in
theorem obEq_ok {x y : SObj} (h : obEq x y = true) : x = y := by
  unfold obEq at h
  split at h
  · split at h
    · simp only [Bool.and_eq_true, nbeq_iff, beq_iff_eq] at h
      obtain ⟨h1, h2, h3⟩ := h
      rw [h1, h2, svEqL_ok h3]
    · cases h
  · split at h
    · simp only [Bool.and_eq_true, nbeq_iff] at h
      rw [h.1, enEq_ok h.2]
    · cases h
  · split at h
    · rw [eq_of_beq h]
    · cases h
  · cases h
noncomputable def meetV (x y : Option SObj) : Option SObj := Option.rec (motive := fun _ => Option SObj) none (fun a => Option.rec (motive := fun _ => Option SObj) none (fun b => Bool.rec (motive := fun _ => Option SObj) none (some a) (obEq a b)) y) x
omit [Orig] in
theorem meetV_ok {x y : Option SObj} {o : SObj} (h : meetV x y = some o) : x = some o ∧ y = some o := by
  cases x with
  | none => cases h
  | some a =>
    cases y with
    | none => cases h
    | some b =>
      have h' : Bool.rec (motive := fun _ => Option SObj) none (some a) (obEq a b) = some o := h
      cases hb : obEq a b with
      | false => rw [hb] at h'; cases h'
      | true =>
        rw [hb] at h'
        cases h'
        rw [obEq_ok hb]
        exact ⟨rfl, rfl⟩
noncomputable def meetT (t : T SObj) : T SObj → T SObj := T.rec (motive := fun _ => T SObj → T SObj) (fun _ => .leaf) (fun v _ _ il ir u => match u with
  | .leaf => .leaf
  | .node v' l' r' => .node (meetV v v') (il l') (ir r')) t
omit [Orig] in
theorem meetT_ok : ∀ {t u : T SObj} {k : Nat} {o : SObj}, (meetT t u).get k = some o → t.get k = some o ∧ u.get k = some o := by
  intro t
  induction t with
  | leaf => intro u k o h; rw [show meetT .leaf u = .leaf from rfl, T.get_leaf] at h; cases h
  | node v l r il ir =>
    intro u k o h
    cases u with
    | leaf => rw [show meetT (.node v l r) .leaf = .leaf from rfl, T.get_leaf] at h; cases h
    | node v' l' r' =>
      rw [show meetT (.node v l r) (.node v' l' r') = .node (meetV v v') (meetT l l') (meetT r r') from rfl, T.get_node] at h
      rw [T.get_node, T.get_node]
      by_cases h0 : k = 0
      · rw [if_pos h0] at h
        rw [if_pos h0, if_pos h0]
        exact meetV_ok h
      · rw [if_neg h0] at h
        rw [if_neg h0, if_neg h0]
        by_cases h1 : k % 2 = 0
        · rw [if_pos h1] at h
          rw [if_pos h1, if_pos h1]
          exact il h
        · rw [if_neg h1] at h
          rw [if_neg h1, if_neg h1]
          exact ir h
theorem Emb.weak {P : Program} {ρ : Pl} {m m' : T SObj} {nx nx' : Nat} {w0 : Base} {w : World} (h : Emb P ρ m nx w0 w) (hm : ∀ b o, m'.get b = some o → m.get b = some o) (hn : nx ≤ nx') : Emb P ρ m' nx' w0 w := by
  have hs : ∀ b, (m'.get b).isSome = true → (m.get b).isSome = true := by
    intro b hb
    obtain ⟨o, ho⟩ := Option.isSome_iff_exists.1 hb
    rw [hm b o ho]; rfl
  refine ⟨h.touch, fun b o hb => h.obj b o (hm b o hb), fun b b' x x' hb hb' => h.inj b b' x x' (hs b hb) (hs b' hb'), fun b hb => ⟨(h.fresh b (by omega)).1, ?_⟩, h.old, fun b hb => ⟨by have := (h.hole b hb).1; omega, (h.hole b hb).2⟩, h.x.bump hn⟩
  cases hg : m'.get b with
  | none => rfl
  | some o => have := (h.fresh b (by omega)).2; rw [hm b o hg] at this; cases this
noncomputable def maxN (a b : Nat) : Nat := Bool.rec (motive := fun _ => Nat) a b (Nat.ble a b)
omit [Orig] in
theorem maxN_ok (a b : Nat) : a ≤ maxN a b ∧ b ≤ maxN a b := by
  unfold maxN
  cases h : Nat.ble a b with
  | true => exact ⟨nble_iff.1 h, Nat.le_refl _⟩
  | false => exact ⟨Nat.le_refl _, by
      have : ¬ a ≤ b := fun hh => by rw [nble_iff.2 hh] at h; cases h
      show b ≤ a
      omega⟩
noncomputable def mergeE (x y : Res) : Option Res := oi (svEq x.1 y.1) (some (x.1, meetT x.2.1 y.2.1, maxN x.2.2 y.2.2))
/-- x is what r says, with less known. -/
def Less (x r : Res) : Prop := x.1 = r.1 ∧ (∀ b o, r.2.1.get b = some o → x.2.1.get b = some o) ∧ x.2.2 ≤ r.2.2
noncomputable def joinE {α : Type} (f : α → Option Res) (o : Out α) : Option Res := Out.rec (motive := fun _ => Option Res) (fun a => f a) (fun _ _ ih1 ih2 => ob ih1 fun x => ob ih2 fun y => mergeE x y) o
omit [Orig] in
theorem joinE_ok {α : Type} {f : α → Option Res} {a : α} : ∀ {o : Out α} {r : Res}, joinE f o = some r → o.Mem a → ∃ x, f a = some x ∧ Less x r
  | .one b, r, h, e => by
    obtain rfl : a = b := e
    exact ⟨r, h, rfl, fun _ _ hb => hb, Nat.le_refl _⟩
  | .two x y, r, h, e => by
    have h' : (ob (joinE f x) fun x => ob (joinE f y) fun y => mergeE x y) = some r := h
    obtain ⟨x1, h1, h2⟩ := ob_eq.1 h'
    obtain ⟨y1, h3, h4⟩ := ob_eq.1 h2
    obtain ⟨h5, h6⟩ := oi_eq.1 h4
    cases h6
    have hv := svEq_ok h5
    rcases e with e | e
    · obtain ⟨z, k1, k2, k3, k4⟩ := joinE_ok h1 e
      exact ⟨z, k1, k2, fun b o hb => k3 b o (meetT_ok hb).1, Nat.le_trans k4 (maxN_ok _ _).1⟩
    · obtain ⟨z, k1, k2, k3, k4⟩ := joinE_ok h3 e
      exact ⟨z, k1, k2.trans hv.symm, fun b o hb => k3 b o (meetT_ok hb).2, Nat.le_trans k4 (maxN_ok _ _).2⟩
end Go.Proofs.YteblflebjhncbaaGreatDoor
