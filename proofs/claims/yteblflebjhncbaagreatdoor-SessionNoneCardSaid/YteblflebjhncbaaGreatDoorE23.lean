/-
  A run by the kernel: a region that draws its order: the check.
-/
import Derived.Test.YteblflebjhncbaaGreatDoorE22
namespace Go.Proofs.YteblflebjhncbaaGreatDoor
open Go.RowKit

mutual
def svEq : SV → SV → Bool
  | .bool a, .bool b => a == b
  | .int k a, .int l b => kq k l && ieq a b
  | .str a, .str b => a == b
  | .ptr a b, .ptr c d => Nat.beq a c && Nat.beq b d
  | .nptr, .nptr => true
  | .slc a b c d, .slc e f g h => Nat.beq a e && (Nat.beq b f && (Nat.beq c g && Nat.beq d h))
  | .slu a b c d, .slu e f g h => Nat.beq a e && (Nat.beq b f && (Nat.beq c g && Nat.beq d h))
  | .nslc, .nslc => true
  | .map a, .map b => Nat.beq a b
  | .nmap, .nmap => true
  | .fn (.func f) a c, .fn (.func g) b d => Nat.beq f g && (svEqL a b && svEqL c d)
  | .nfn, .nfn => true
  | .ifc t v, .ifc u w => Nat.beq t u && svEq v w
  | .nifc, .nifc => true
  | .agg a, .agg b => svEqL a b
  | .tup a, .tup b => svEqL a b
  | .sym .any i, .sym .any j => Nat.beq i j
  | .sym .str i, .sym .str j => Nat.beq i j
  | .sym (.int k) i, .sym (.int l) j => kq k l && Nat.beq i j
  | _, _ => false
def svEqL : List SV → List SV → Bool
  | [], [] => true
  | a :: l, b :: m => svEq a b && svEqL l m
  | _, _ => false
end
theorem ieq_eq {a b : Int} (h : ieq a b = true) : a = b := by rw [ieq_ok] at h; simpa using h
mutual
theorem svEq_ok : ∀ {a b : SV}, svEq a b = true → a = b
  | a, b, h => by
    unfold svEq at h
    split at h
    · simpa using h
    · simp only [Bool.and_eq_true] at h; rw [kq_ok h.1, ieq_eq h.2]
    · simpa using h
    · simp only [Bool.and_eq_true, nbeq_iff] at h; rw [h.1, h.2]
    · rfl
    · simp only [Bool.and_eq_true, nbeq_iff] at h; rw [h.1, h.2.1, h.2.2.1, h.2.2.2]
    · simp only [Bool.and_eq_true, nbeq_iff] at h; rw [h.1, h.2.1, h.2.2.1, h.2.2.2]
    · rfl
    · rw [nbeq_iff] at h; rw [h]
    · rfl
    · simp only [Bool.and_eq_true, nbeq_iff] at h; rw [h.1, svEqL_ok h.2.1, svEqL_ok h.2.2]
    · rfl
    · simp only [Bool.and_eq_true, nbeq_iff] at h; rw [h.1, svEq_ok h.2]
    · rfl
    · rw [svEqL_ok h]
    · rw [svEqL_ok h]
    · rw [nbeq_iff] at h; rw [h]
    · rw [nbeq_iff] at h; rw [h]
    · simp only [Bool.and_eq_true, nbeq_iff] at h; rw [kq_ok h.1, h.2]
    · cases h
theorem svEqL_ok : ∀ {a b : List SV}, svEqL a b = true → a = b
  | a, b, h => by
    unfold svEqL at h
    split at h
    · rfl
    · simp only [Bool.and_eq_true] at h; rw [svEq_ok h.1, svEqL_ok h.2]
    · cases h
end
/-- may an operation turn memory? -/
noncomputable def actO (E : Env) (o : Oper) : Bool := match o.op with
  | .alloc _ => match o.guard with
    | none => false
    | some _ => true
  | .box .. | .store .. | .buildSlice .. | .makeMap .. | .makeSlice .. | .mapUpdate .. | .insert .. => true
  | .convert _ d _ => match und E d with
    | some (.slice _) => true
    | _ => false
  | .call c => match c.callee with
    | .builtin b => match b with
      | .len | .cap | .min | .max => false
      | _ => true
    | _ => true
  | .mapEntry .. | .entryStore .. | .range .. | .next .. | .entry .. => true
  | _ => false
noncomputable def rstE (F : T SV) (l : List Tmp) : T SV := List.rec (motive := fun _ => T SV) .leaf (fun t _ ih => ih.put (F.get t) t) l
theorem rstE_ok (F : T SV) : ∀ (l : List Tmp) (d : Tmp) (x : SV), (rstE F l).get d = some x → d ∈ l ∧ F.get d = some x
  | [], d, x, h => by rw [show rstE F [] = .leaf from rfl, T.get_leaf] at h; cases h
  | t :: l, d, x, h => by
    rw [show rstE F (t :: l) = (rstE F l).put (F.get t) t from rfl, T.get_put] at h
    by_cases e : d = t
    · rw [if_pos e] at h
      subst e
      exact ⟨by simp, h⟩
    · rw [if_neg e] at h
      obtain ⟨h1, h2⟩ := rstE_ok F l d x h
      exact ⟨by simp [h1], h2⟩
/-- a block that floats. -/
def isFl (o : Oper) : Bool := match o.op with
  | .alloc _ => match o.guard with
    | none => true
    | some _ => false
  | _ => false
noncomputable def fltE (E : Env) (o : Oper) : Option SObj := match o.op with
  | .alloc t => ob (zrE E t) fun z => oi (match z with | .tup _ => false | _ => true) (some (.cells (cellsOf z) t false))
  | _ => none
variable [Orig]
omit [Orig] in
theorem fltE_ok {P : Program} {E : Env} (hE : EnvOk P E) {o : Oper} {z : SObj} (e : fltE E o = some z) : AllocOk P o z := by
  obtain ⟨dst, op, ty, pos, after, guard⟩ := o
  unfold fltE at e
  cases op <;> try cases e
  rename_i t
  have e' : (ob (zrE E t) fun z => oi (match z with | .tup _ => false | _ => true) (some (SObj.cells (cellsOf z) t false))) = some z := e
  obtain ⟨v, h1, h2⟩ := ob_eq.1 e'
  obtain ⟨h3, h4⟩ := oi_eq.1 h2
  cases h4
  refine ⟨fun c hc => (by cases hc), fun a w => ?_⟩
  obtain ⟨u, c1, c2, i, c3, c4⟩ := zrE_ok hE h1 ⟨fun _ => none, fun _ => none⟩ w
  have hone := cellsOf_one c2 (fun l hl => by rw [hl] at h3; cases h3)
  refine ⟨.cells u.cells t, ?_, fun ρ => ?_⟩
  rotate_left
  · obtain ⟨u', -, d2, i', d3, d4⟩ := zrE_ok hE h1 ρ w
    rw [c3] at d3
    cases d3
    rw [c4] at d4
    cases d4
    exact obj_cells (cellsOf_den d2) hone
  refine run_val ?_
  simp only [Instr.alloc, Sem.run_bind, c1, Result.andThen_ok, newVar, newRow, run_newObj_alloc, Sem.run_pure]
abbrev PD := List (Nat × (Nat × SObj))
noncomputable def selE (k : Nat) (l : PD) : List (Nat × SObj) := List.rec (motive := fun _ => List (Nat × SObj)) [] (fun x _ ih => Bool.rec (motive := fun _ => List (Nat × SObj)) ih (x.2 :: ih) (k.testBit x.1)) l
noncomputable def rstP (k : Nat) (l : PD) : PD := List.rec (motive := fun _ => PD) [] (fun x _ ih => Bool.rec (motive := fun _ => PD) (x :: ih) ih (k.testBit x.1)) l
omit [Orig] in
theorem selE_ok (k : Nat) : ∀ l : PD, selE k l = (l.filter fun x => k.testBit x.1).map (·.2)
  | [] => rfl
  | x :: l => by
    show Bool.rec (motive := fun _ => List (Nat × SObj)) (selE k l) (x.2 :: selE k l) (k.testBit x.1) = _
    rw [selE_ok k l, List.filter_cons]
    cases k.testBit x.1 <;> rfl
omit [Orig] in
theorem rstP_ok (k : Nat) : ∀ l : PD, rstP k l = l.filter fun x => !k.testBit x.1
  | [] => rfl
  | x :: l => by
    show Bool.rec (motive := fun _ => PD) (x :: rstP k l) (rstP k l) (k.testBit x.1) = _
    rw [rstP_ok k l, List.filter_cons]
    cases k.testBit x.1 <;> rfl
structure TR where
  F : T SV
  G : T SV
  m : T SObj
  x : Nat
  p : PD
  v : SV
  w : Bool
  A : List (Nat × SObj)
  f : Option (Nat × SObj)
abbrev S3 := T SV × T SObj × Nat × PD
abbrev SR := SV × T SObj × Nat × PD × List (Nat × SObj) × Option (Nat × SObj)
noncomputable def stepD (E : Env) (cal : Cal) (pt : T Nat) (n0 k : Nat) (o : Oper) (G : T SV) (m : T SObj) (x : Nat) (p : PD) (b : Bool) : Option SR :=
  Bool.rec (motive := fun _ => Option SR) (some (.tup [], m, x, p, [], none)) (Bool.rec (motive := fun _ => Option SR)
    (Bool.rec (motive := fun _ => Option SR) (ob (evP E m G o) fun v => some (v, m, x, p, [], none)) (ob (valE E cal o ⟨G, adM (selE ((pt.get k).getD 0) p) m, x⟩) fun r => some (r.1, r.2.1, r.2.2, rstP ((pt.get k).getD 0) p, selE ((pt.get k).getD 0) p, none)) (actO E o))
    (ob (fltE E o) fun z => some (.ptr (Nat.add n0 k) 0, m, x, (k, (Nat.add n0 k, z)) :: p, [], some (Nat.add n0 k, z))) (isFl o)) b
noncomputable def canE (E : Env) (cal : Cal) (pt : T Nat) (n0 N : Nat) (all l : List Oper) : Nat → S3 → Option (List TR × S3) := List.rec (motive := fun _ => Nat → S3 → Option (List TR × S3)) (fun _ s => some ([], s))
  (fun o _ ih k s => ob (wantE all (rstE s.1 (o.looksAt all.toArray)) o.guard) fun b => ob (stepD E cal pt n0 k o (rstE s.1 (o.looksAt all.toArray)) s.2.1 s.2.2.1 s.2.2.2 b) fun r => ob (fput N s.1 o.dst r.1) fun F' => ob (ih (Nat.succ k) (F', r.2.1, r.2.2.1, r.2.2.2.1)) fun q =>
    some (⟨s.1, rstE s.1 (o.looksAt all.toArray), s.2.1, s.2.2.1, s.2.2.2, r.1, b, r.2.2.2.2.1, r.2.2.2.2.2⟩ :: q.1, q.2)) l
def stAt (trs : List TR) (fin : S3) (i : Nat) : S3 := match trs[i]? with
  | some r => (r.F, r.m, r.x, r.p)
  | none => fin
structure StepOk (E : Env) (cal : Cal) (pt : T Nat) (n0 N : Nat) (all : List Oper) (k : Nat) (o : Oper) (s s' : S3) (r : TR) : Prop where
  G : r.G = rstE s.1 (o.looksAt all.toArray)
  w : wantE all r.G o.guard = some r.w
  d : stepD E cal pt n0 k o r.G s.2.1 s.2.2.1 s.2.2.2 r.w = some (r.v, s'.2.1, s'.2.2.1, s'.2.2.2, r.A, r.f)
  put : fput N s.1 o.dst r.v = some s'.1
omit [Orig] in
theorem canE_ok {E : Env} {cal : Cal} {pt : T Nat} {n0 N : Nat} {all : List Oper} : ∀ {l : List Oper} {k : Nat} {s : S3} {trs : List TR} {fin : S3}, canE E cal pt n0 N all l k s = some (trs, fin) →
    trs.length = l.length ∧ stAt trs fin 0 = s ∧ ∀ i o, l[i]? = some o → ∃ r, trs[i]? = some r ∧ StepOk E cal pt n0 N all (k + i) o (stAt trs fin i) (stAt trs fin (i + 1)) r
  | [], k, s, trs, fin, h => by cases h; exact ⟨rfl, rfl, fun i o h => by simp at h⟩
  | o :: l, k, s, trs, fin, h => by
    have h' : (ob (wantE all (rstE s.1 (o.looksAt all.toArray)) o.guard) fun b => ob (stepD E cal pt n0 k o (rstE s.1 (o.looksAt all.toArray)) s.2.1 s.2.2.1 s.2.2.2 b) fun r => ob (fput N s.1 o.dst r.1) fun F' => ob (canE E cal pt n0 N all l (Nat.succ k) (F', r.2.1, r.2.2.1, r.2.2.2.1)) fun q =>
      some (TR.mk s.1 (rstE s.1 (o.looksAt all.toArray)) s.2.1 s.2.2.1 s.2.2.2 r.1 b r.2.2.2.2.1 r.2.2.2.2.2 :: q.1, q.2)) = some (trs, fin) := h
    obtain ⟨b, h1, h2⟩ := ob_eq.1 h'
    obtain ⟨r, h3, h4⟩ := ob_eq.1 h2
    obtain ⟨F', h5, h6⟩ := ob_eq.1 h4
    obtain ⟨⟨q1, q2⟩, h7, h8⟩ := ob_eq.1 h6
    cases h8
    obtain ⟨g1, g2, g3⟩ := canE_ok h7
    refine ⟨by simp [g1], rfl, fun i o' ho => ?_⟩
    cases i with
    | zero =>
      simp at ho
      subst ho
      have e : stAt (TR.mk s.1 (rstE s.1 (o.looksAt all.toArray)) s.2.1 s.2.2.1 s.2.2.2 r.1 b r.2.2.2.2.1 r.2.2.2.2.2 :: q1) q2 1 = (F', r.2.1, r.2.2.1, r.2.2.2.1) := g2
      refine ⟨_, rfl, rfl, h1, ?_, ?_⟩
      · rw [e]
        exact h3
      · rw [e]
        exact h5
    | succ i =>
      rw [List.getElem?_cons_succ] at ho
      obtain ⟨r', j1, j2⟩ := g3 i o' ho
      exact ⟨r', j1, by rw [show k + (i + 1) = Nat.succ k + i by omega]; exact j2⟩

/-- the same for every number below n. -/
noncomputable def allN (p : Nat → Bool) (n : Nat) : Bool := Nat.rec (motive := fun _ => Bool) true (fun i ih => Bool.rec (motive := fun _ => Bool) false ih (p i)) n
omit [Orig] in
theorem allN_ok {p : Nat → Bool} : ∀ {n : Nat}, allN p n = true → ∀ i, i < n → p i = true
  | 0, _, i, hi => by omega
  | n + 1, h, i, hi => by
    have h' : Bool.rec (motive := fun _ => Bool) false (allN p n) (p n) = true := h
    cases hp : p n with
    | false => rw [hp] at h'; cases h'
    | true =>
      rw [hp] at h'
      by_cases e : i = n
      · subst e; exact hp
      · exact allN_ok h' i (by omega)
noncomputable def maskE (pt : T Nat) (l : List Edge) : Nat := List.rec (motive := fun _ => Nat) 0 (fun e _ ih => Bool.rec (motive := fun _ => Nat) ih (Nat.lor (Nat.lor (Nat.pow 2 e.on) ((pt.get e.on).getD 0)) ih) (Region.binds .any e)) l
omit [Orig] in
theorem maskE_ok (pt : T Nat) : ∀ (l : List Edge) (j : Nat), (maskE pt l).testBit j = true → ∃ e ∈ l, Region.binds .any e = true ∧ (e.on = j ∨ ((pt.get e.on).getD 0).testBit j = true)
  | [], j, h => by rw [show maskE pt [] = 0 from rfl, Nat.zero_testBit] at h; cases h
  | e :: l, j, h => by
    have h' : (Bool.rec (motive := fun _ => Nat) (maskE pt l) (Nat.lor (Nat.lor (Nat.pow 2 e.on) ((pt.get e.on).getD 0)) (maskE pt l)) (Region.binds .any e) : Nat).testBit j = true := h
    cases hb : Region.binds .any e with
    | false =>
      rw [hb] at h'
      obtain ⟨e', g1, g2⟩ := maskE_ok pt l j h'
      exact ⟨e', by simp [g1], g2⟩
    | true =>
      rw [hb] at h'
      have h2 : ((2 ^ e.on ||| (pt.get e.on).getD 0) ||| maskE pt l).testBit j = true := h'
      rw [Nat.testBit_or, Nat.testBit_or, Nat.testBit_two_pow] at h2
      simp only [Bool.or_eq_true, decide_eq_true_eq] at h2
      rcases h2 with (h2 | h2) | h2
      · exact ⟨e, by simp, hb, .inl h2⟩
      · exact ⟨e, by simp, hb, .inr h2⟩
      · obtain ⟨e', g1, g2⟩ := maskE_ok pt l j h2
        exact ⟨e', by simp [g1], g2⟩
noncomputable def preT (l : List Oper) : Nat → T Nat → T Nat := List.rec (motive := fun _ => Nat → T Nat → T Nat) (fun _ pt => pt) (fun o _ ih k pt => ih (Nat.succ k) (pt.put (some (maskE pt o.after.toList)) k)) l
noncomputable def actT (E : Env) (l : List Oper) : Nat → Nat := List.rec (motive := fun _ => Nat → Nat) (fun _ => 0) (fun o _ ih k => Bool.rec (motive := fun _ => Nat) (ih (Nat.succ k)) (Nat.lor (Nat.pow 2 k) (ih (Nat.succ k))) (actO E o)) l
noncomputable def preN (pt : T Nat) (k : Nat) : Nat := (pt.get k).getD 0
noncomputable def actAt (E : Env) (all : List Oper) (k : Nat) : Bool := Option.rec (motive := fun _ => Bool) false (fun o => actO E o) (nth k all)
noncomputable def chkA (pt : T Nat) (all : List Oper) (k : Nat) : Bool := Option.rec (motive := fun _ => Bool) false (fun o => and (Nat.beq (preN pt k) (maskE pt o.after.toList)) (o.after.toList.all fun e => or (not (Region.binds .any e)) (Nat.blt e.on k))) (nth k all)
noncomputable def chkB (E : Env) (pt : T Nat) (all : List Oper) (j : Nat) : Bool := allN (fun i => or ((preN pt j).testBit i) (Option.rec (motive := fun _ => Bool) false (fun oi => Option.rec (motive := fun _ => Bool) false (fun oj => and (oi.apart all.toArray oj) (not (and (actO E oi) (actO E oj)))) (nth j all)) (nth i all))) j
noncomputable def statE (E : Env) (pt : T Nat) (all : List Oper) : Bool := and (allN (chkA pt all) (len all)) (allN (chkB E pt all) (len all))
/-- might an operation be asked for at the memory of c? (the one of the text's order left out) -/
noncomputable def compB (E : Env) (pt : T Nat) (all : List Oper) (k c : Nat) : Bool :=
  and (or (Nat.beq c 0) (actAt E all (Nat.sub c 1))) (and (allN (fun j => or (not (actAt E all j)) (Bool.rec (motive := fun _ => Bool) (not ((preN pt k).testBit j)) (not ((preN pt j).testBit k)) (Nat.blt j c))) (len all))
    (not (and (Nat.ble c k) (allN (fun j => or (not (Nat.ble c j)) (not (actAt E all j))) k))))
noncomputable def selN (p : Nat → Bool) (n : Nat) : List Nat := Nat.rec (motive := fun _ => List Nat) [] (fun i ih => Bool.rec (motive := fun _ => List Nat) ih (i :: ih) (p i)) n
omit [Orig] in
theorem selN_ok {p : Nat → Bool} : ∀ {n : Nat} (i : Nat), i < n → p i = true → i ∈ selN p n
  | 0, i, hi, _ => by omega
  | n + 1, i, hi, hp => by
    show i ∈ Bool.rec (motive := fun _ => List Nat) (selN p n) (n :: selN p n) (p n)
    by_cases e : i = n
    · subst e; rw [hp]; simp
    · have := selN_ok (p := p) (n := n) i (by omega) hp
      cases p n
      · exact this
      · simp [this]
noncomputable def pairL (k : Nat) (l : List Nat) (m : List (Nat × Nat)) : List (Nat × Nat) := List.rec (motive := fun _ => List (Nat × Nat)) m (fun c _ ih => (k, c) :: ih) l
omit [Orig] in
theorem pairL_ok {k c : Nat} {m : List (Nat × Nat)} {x : Nat × Nat} : ∀ {l : List Nat}, ((x = (k, c) ∧ c ∈ l) ∨ x ∈ m) → x ∈ pairL k l m
  | [], h => by
    rcases h with ⟨-, h⟩ | h
    · simp at h
    · exact h
  | d :: l, h => by
    show x ∈ (k, d) :: pairL k l m
    rcases h with ⟨rfl, h⟩ | h
    · rcases List.mem_cons.1 h with rfl | h
      · simp
      · simp [pairL_ok (l := l) (.inl ⟨rfl, h⟩)]
    · simp [pairL_ok (l := l) (c := c) (.inr h)]
noncomputable def needE (E : Env) (pt : T Nat) (all : List Oper) (n : Nat) : List (Nat × Nat) := Nat.rec (motive := fun _ => List (Nat × Nat)) [] (fun k ih => Bool.rec (motive := fun _ => List (Nat × Nat)) (pairL k (selN (compB E pt all k) (Nat.succ (len all))) ih) ih (actAt E all k)) n
omit [Orig] in
theorem needE_ok {E : Env} {pt : T Nat} {all : List Oper} : ∀ {n : Nat} (k c : Nat), k < n → actAt E all k = false → c ≤ all.length → compB E pt all k c = true → (k, c) ∈ needE E pt all n
  | 0, k, c, hk, _, _, _ => by omega
  | n + 1, k, c, hk, ha, hc, hp => by
    show (k, c) ∈ Bool.rec (motive := fun _ => List (Nat × Nat)) (pairL n (selN (compB E pt all n) (Nat.succ (len all))) (needE E pt all n)) (needE E pt all n) (actAt E all n)
    by_cases e : k = n
    · subst e
      rw [ha]
      exact pairL_ok (c := c) (.inl ⟨rfl, selN_ok c (by rw [len_ok]; omega) hp⟩)
    · have := needE_ok k c (by omega) ha hc hp (n := n)
      cases actAt E all n
      · exact pairL_ok (c := c) (.inr this)
      · exact this
noncomputable def dynC (E : Env) (all : List Oper) (trs : List TR) (fin : S3) (x : Nat × Nat) : Bool :=
  Option.rec (motive := fun _ => Bool) false (fun o => Option.rec (motive := fun _ => Bool) false (fun r => or (or (not r.w) (isFl o)) (Option.rec (motive := fun _ => Bool) false (fun v => svEq v r.v) (evP E (stAt trs fin x.2).2.1 r.G o))) (nth x.1 trs)) (nth x.1 all)
noncomputable def allL {α : Type} (p : α → Bool) (l : List α) : Bool := List.rec (motive := fun _ => Bool) true (fun x _ ih => Bool.rec (motive := fun _ => Bool) false ih (p x)) l
omit [Orig] in
theorem allL_ok {α : Type} {p : α → Bool} : ∀ {l : List α}, allL p l = true → ∀ x ∈ l, p x = true
  | [], _, x, hx => by simp at hx
  | y :: l, h, x, hx => by
    have h' : Bool.rec (motive := fun _ => Bool) false (allL p l) (p y) = true := h
    cases hp : p y with
    | false => rw [hp] at h'; cases h'
    | true =>
      rw [hp] at h'
      rcases List.mem_cons.1 hx with rfl | hx
      · exact hp
      · exact allL_ok h' x hx
noncomputable def drawE (E : Env) (cal : Cal) (N : Nat) (all : List Oper) (s : St) : Option St :=
  oi (statE E (preT all 0 .leaf) all) (ob (canE E cal (preT all 0 .leaf) s.nx N all all 0 (s.F, s.m, Nat.add s.nx (len all), [])) fun q => oi (allL (dynC E all q.1 q.2) (needE E (preT all 0 .leaf) all (len all))) (some ⟨q.2.1, adM (selE (Nat.sub (Nat.pow 2 (len all)) 1) q.2.2.2.2) q.2.2.1, q.2.2.2.1⟩))
/-- what a trace says of the blocks that float. -/
structure FlOk (pt : T Nat) (n0 : Nat) (trs : List TR) (fin : S3) (k : Nat) : Prop where
  mem : ∀ j q, (j, q) ∈ (stAt trs fin k).2.2.2 → j < k ∧ q.1 = n0 + j ∧ ∃ r, trs[j]? = some r ∧ r.f = some q
  nd : ((stAt trs fin k).2.2.2.map fun x => x.2.1).Nodup
  gone : ∀ i r, i < k → trs[i]? = some r → ∀ q ∈ r.A, ∀ y ∈ (stAt trs fin k).2.2.2, y.2.1 ≠ q.1
  old : ∀ i r, i < k → trs[i]? = some r → ∀ q ∈ r.A, ∃ j, j < i ∧ q.1 = n0 + j
omit [Orig] in
theorem stepD_cases {E : Env} {cal : Cal} {pt : T Nat} {n0 k : Nat} {o : Oper} {G : T SV} {m : T SObj} {x : Nat} {p : PD} {b : Bool} {r : SR} (h : stepD E cal pt n0 k o G m x p b = some r) :
    (b = false ∧ r = (.tup [], m, x, p, [], none)) ∨
    (b = true ∧ isFl o = false ∧ actO E o = false ∧ ∃ v, evP E m G o = some v ∧ r = (v, m, x, p, [], none)) ∨
    (b = true ∧ isFl o = false ∧ actO E o = true ∧ ∃ q, valE E cal o ⟨G, adM (selE ((pt.get k).getD 0) p) m, x⟩ = some q ∧ r = (q.1, q.2.1, q.2.2, rstP ((pt.get k).getD 0) p, selE ((pt.get k).getD 0) p, none)) ∨
    (b = true ∧ isFl o = true ∧ ∃ z, fltE E o = some z ∧ r = (.ptr (n0 + k) 0, m, x, (k, (n0 + k, z)) :: p, [], some (n0 + k, z))) := by
  unfold stepD at h
  cases b with
  | false => exact .inl ⟨rfl, (Option.some.inj h).symm⟩
  | true =>
    refine .inr ?_
    cases hf : isFl o with
    | true =>
      rw [hf] at h
      have h' : (ob (fltE E o) fun z => some (SV.ptr (Nat.add n0 k) 0, m, x, (k, (Nat.add n0 k, z)) :: p, ([] : List (Nat × SObj)), some (Nat.add n0 k, z))) = some r := h
      obtain ⟨z, h1, h2⟩ := ob_eq.1 h'
      exact .inr (.inr ⟨rfl, rfl, z, h1, (Option.some.inj h2).symm⟩)
    | false =>
      rw [hf] at h
      cases ha : actO E o with
      | false =>
        rw [ha] at h
        have h' : (ob (evP E m G o) fun v => some (v, m, x, p, ([] : List (Nat × SObj)), (none : Option (Nat × SObj)))) = some r := h
        obtain ⟨v, h1, h2⟩ := ob_eq.1 h'
        exact .inl ⟨rfl, rfl, rfl, v, h1, (Option.some.inj h2).symm⟩
      | true =>
        rw [ha] at h
        have h' : (ob (valE E cal o ⟨G, adM (selE ((pt.get k).getD 0) p) m, x⟩) fun r => some (r.1, r.2.1, r.2.2, rstP ((pt.get k).getD 0) p, selE ((pt.get k).getD 0) p, (none : Option (Nat × SObj)))) = some r := h
        obtain ⟨q, h1, h2⟩ := ob_eq.1 h'
        exact .inr (.inl ⟨rfl, rfl, rfl, q, h1, (Option.some.inj h2).symm⟩)
omit [Orig] in
theorem FlOk.all {E : Env} {cal : Cal} {pt : T Nat} {n0 N : Nat} {all : List Oper} {trs : List TR} {fin : S3} (c1 : trs.length = all.length) (c2 : (stAt trs fin 0).2.2.2 = []) (c3 : ∀ i o, all[i]? = some o → ∃ r, trs[i]? = some r ∧ StepOk E cal pt n0 N all i o (stAt trs fin i) (stAt trs fin (i + 1)) r) :
    ∀ k, k ≤ all.length → FlOk pt n0 trs fin k
  | 0, _ => ⟨fun j q h => (by rw [c2] at h; cases h), (by rw [c2]; exact List.nodup_nil), fun i r hi => by omega, fun i r hi => by omega⟩
  | k + 1, hk => by
    have I := FlOk.all c1 c2 c3 k (by omega)
    obtain ⟨r, g1, g2⟩ := c3 k _ (List.getElem?_eq_getElem (by omega))
    have keep : ∀ (q : PD), (stAt trs fin (k + 1)).2.2.2 = q → (∀ y ∈ q, y ∈ (stAt trs fin k).2.2.2) → (q.map fun x => x.2.1).Nodup → (∀ q' ∈ r.A, ∀ y ∈ q, y.2.1 ≠ q'.1) → (∀ q' ∈ r.A, ∃ j, j < k ∧ q'.1 = n0 + j) → FlOk pt n0 trs fin (k + 1) := by
      intro q hq hs hn hA hO
      refine ⟨fun j q' h => ?_, by rw [hq]; exact hn, fun i r' hi hr' q' hq' y hy => ?_, fun i r' hi hr' q' hq' => ?_⟩
      rotate_right
      · rcases Nat.lt_or_ge i k with hlt | hge
        · exact I.old i r' hlt hr' q' hq'
        · obtain rfl : i = k := by omega
          rw [g1] at hr'
          cases hr'
          exact hO q' hq'
      · rw [hq] at h
        obtain ⟨a, b⟩ := I.mem j q' (hs _ h)
        exact ⟨by omega, b⟩
      · rw [hq] at hy
        rcases Nat.lt_or_ge i k with hlt | hge
        · exact I.gone i r' hlt hr' q' hq' y (hs _ hy)
        · obtain rfl : i = k := by omega
          rw [g1] at hr'
          cases hr'
          exact hA q' hq' y hy
    rcases stepD_cases g2.d with ⟨-, h⟩ | ⟨-, -, -, v, -, h⟩ | ⟨-, -, -, v, -, h⟩ | ⟨-, -, z, -, h⟩
    · simp only [Prod.mk.injEq] at h
      obtain ⟨-, -, -, h4, h5, -⟩ := h
      exact keep _ h4 (fun y hy => hy) I.nd (fun q' hq' => by rw [h5] at hq'; cases hq') (fun q' hq' => by rw [h5] at hq'; cases hq')
    · simp only [Prod.mk.injEq] at h
      obtain ⟨-, -, -, h4, h5, -⟩ := h
      exact keep _ h4 (fun y hy => hy) I.nd (fun q' hq' => by rw [h5] at hq'; cases hq') (fun q' hq' => by rw [h5] at hq'; cases hq')
    · simp only [Prod.mk.injEq] at h
      obtain ⟨-, -, -, h4, h5, -⟩ := h
      rw [rstP_ok] at h4
      rw [selE_ok] at h5
      refine keep _ h4 (fun y hy => (List.mem_filter.1 hy).1) ?_ ?_ ?_
      · exact List.Nodup.sublist (List.Sublist.map _ List.filter_sublist) I.nd
      · intro q' hq' y hy e
        rw [h5, List.mem_map] at hq'
        obtain ⟨x, hx, rfl⟩ := hq'
        rw [List.mem_filter] at hx hy
        have h1 := (I.mem x.1 x.2 hx.1).2.1
        have h2 := (I.mem y.1 y.2 hy.1).2.1
        have h3 : x.1 = y.1 := by omega
        have h6 := hx.2
        have h7 := hy.2
        rw [h3] at h6
        rw [h6] at h7
        cases h7
      · intro q' hq'
        rw [h5, List.mem_map] at hq'
        obtain ⟨x, hx, rfl⟩ := hq'
        have := I.mem x.1 x.2 ((List.mem_filter.1 hx).1)
        exact ⟨x.1, this.1, this.2.1⟩
    · simp only [Prod.mk.injEq] at h
      obtain ⟨-, -, -, h4, h5, h6⟩ := h
      refine ⟨fun j q' hm => ?_, ?_, fun i r' hi hr' q' hq' y hy => ?_, fun i r' hi hr' q' hq' => ?_⟩
      · rw [h4] at hm
        rcases List.mem_cons.1 hm with e | hm
        · cases e
          exact ⟨by omega, rfl, r, g1, h6⟩
        · obtain ⟨a, b⟩ := I.mem j q' hm
          exact ⟨by omega, b⟩
      · rw [h4, List.map_cons, List.nodup_cons]
        refine ⟨fun hm => ?_, I.nd⟩
        obtain ⟨y, hy, e⟩ := List.mem_map.1 hm
        have := I.mem y.1 y.2 hy
        have e' : y.2.1 = n0 + k := e
        omega
      · rw [h4] at hy
        rcases Nat.lt_or_ge i k with hlt | hge
        · rcases List.mem_cons.1 hy with rfl | hy
          · intro e
            have e' : n0 + k = q'.1 := e
            have : ∃ j, j < i ∧ q'.1 = n0 + j := I.old i r' hlt hr' q' hq'
            obtain ⟨j, hj1, hj2⟩ := this
            omega
          · exact I.gone i r' hlt hr' q' hq' y hy
        · obtain rfl : i = k := by omega
          rw [g1] at hr'
          cases hr'
          rw [h5] at hq'
          cases hq'
      · rcases Nat.lt_or_ge i k with hlt | hge
        · exact I.old i r' hlt hr' q' hq'
        · obtain rfl : i = k := by omega
          rw [g1] at hr'
          cases hr'
          rw [h5] at hq'
          cases hq'
theorem drawE_ok {P : Program} {E : Env} (hE : EnvOk P E) {cal : Cal} (hcal : CalOk P cal) {N : Nat} {all : List Oper} {ρ : Pl} {s s' : St} {r : Option Nat} {D : List Deferred} {a : Act} {w0 : Base} {w : World} {id : Nat} {Q : Exit → Act → World → Prop} (h : Rel P ρ N s D a w0 w) (e : drawE E cal N all s = some s')
    (hQ : ∀ ρ' a' w', Le ρ ρ' → Rel P ρ' N s' D a' w0 w' → Q .normal a' w') : (Code.region id all.toArray true).wpIn (FW r) 0 P Q a w := by
  obtain ⟨hst, h2⟩ := oi_eq.1 e
  generalize preT all 0 .leaf = pt at hst h2
  obtain ⟨⟨trs, fin⟩, h3, h4⟩ := ob_eq.1 h2
  obtain ⟨hdy, h5⟩ := oi_eq.1 h4
  have h5 := Option.some.inj h5
  obtain ⟨c1, c2, c3'⟩ := canE_ok h3
  have c3 : ∀ i o, all[i]? = some o → ∃ r, trs[i]? = some r ∧ StepOk E cal pt s.nx N all i o (stAt trs fin i) (stAt trs fin (i + 1)) r := by
    intro i o ho
    have := c3' i o ho
    rwa [Nat.zero_add] at this
  have hst' : allN (chkA pt all) (len all) = true ∧ allN (chkB E pt all) (len all) = true := by
    unfold statE at hst
    simpa using hst
  obtain ⟨ha, hb⟩ := hst'
  rw [len_ok] at ha hb hdy c2
  have hact : ∀ k o, all[k]? = some o → actAt E all k = actO E o := by
    intro k o ho
    unfold actAt
    rw [nth_ok, ho]
  have lt : ∀ k o, all[k]? = some o → k < all.length := fun k o ho => (List.getElem?_eq_some_iff.1 ho).1
  have hA : ∀ k o, all[k]? = some o → preN pt k = maskE pt o.after.toList ∧ ∀ e ∈ o.after.toList, Region.binds .any e = true → e.on < k := by
    intro k o ho
    have := allN_ok ha k (lt k o ho)
    unfold chkA at this
    rw [nth_ok, ho] at this
    have this' : (and (Nat.beq (preN pt k) (maskE pt o.after.toList)) (o.after.toList.all fun e => or (not (Region.binds .any e)) (Nat.blt e.on k))) = true := this
    rw [Bool.and_eq_true, nbeq_iff, List.all_eq_true] at this'
    refine ⟨this'.1, fun e he hbe => ?_⟩
    have := this'.2 e he
    rw [hbe] at this
    exact blt_true (by simpa using this)
  have hF : ∀ (k : Nat) (r : TR), trs[k]? = some r → (stAt trs fin k) = (r.F, r.m, r.x, r.p) := by
    intro k r hr
    unfold stAt
    rw [hr]
  have hp0 : (stAt trs fin 0).2.2.2 = [] := by rw [c2]
  have flok := FlOk.all c1 hp0 c3
  let V : Nat → SV := fun k => match trs[k]? with | some r => r.v | none => .tup []
  let W : Nat → Bool := fun k => match trs[k]? with | some r => r.w | none => false
  let G : Nat → T SV := fun k => match trs[k]? with | some r => r.G | none => .leaf
  let A : Nat → List (Nat × SObj) := fun k => match trs[k]? with | some r => r.A | none => []
  let Fl : Nat → Option (Nat × SObj) := fun k => match trs[k]? with | some r => r.f | none => none
  have vw : ∀ (k : Nat) (r : TR), trs[k]? = some r → V k = r.v ∧ W k = r.w ∧ G k = r.G ∧ A k = r.A ∧ Fl k = r.f := by
    intro k r hr
    simp only [V, W, G, A, Fl, hr]
    exact ⟨trivial, trivial, trivial, trivial, trivial⟩
  have hat : ∀ (k : Nat) (r : TR), trs[k]? = some r → ∃ o, all[k]? = some o := by
    intro k r hr
    have := (List.getElem?_eq_some_iff.1 hr).1
    exact ⟨_, List.getElem?_eq_getElem (by omega)⟩
  have hAof : ∀ k q, q ∈ A k → ∃ r o, trs[k]? = some r ∧ all[k]? = some o ∧ q ∈ r.A := by
    intro k q hq
    cases ht : trs[k]? with
    | none => simp only [A, ht] at hq; cases hq
    | some r =>
      obtain ⟨o, ho⟩ := hat k r ht
      exact ⟨r, o, rfl, ho, by simpa only [A, ht] using hq⟩
  have hFof : ∀ k q, Fl k = some q → ∃ r o, trs[k]? = some r ∧ all[k]? = some o ∧ r.f = some q := by
    intro k q hq
    cases ht : trs[k]? with
    | none => simp only [Fl, ht] at hq; cases hq
    | some r =>
      obtain ⟨o, ho⟩ := hat k r ht
      exact ⟨r, o, rfl, ho, by simpa only [Fl, ht] using hq⟩
  have hfl : ∀ k b z, Fl k = some (b, z) → b = s.nx + k ∧ k < all.length ∧ ∃ r o, trs[k]? = some r ∧ all[k]? = some o ∧ r.v = .ptr (s.nx + k) 0 ∧ r.w = true ∧ isFl o = true ∧ fltE E o = some z := by
    intro k b z hk
    obtain ⟨r, o, g1, g2, g3⟩ := hFof k _ hk
    obtain ⟨r', g1', g4⟩ := c3 k o g2
    rw [g1] at g1'
    cases g1'
    rcases stepD_cases g4.d with ⟨-, h⟩ | ⟨-, -, -, v, -, h⟩ | ⟨-, -, -, v, -, h⟩ | ⟨hw, hi, z', hz, h⟩
    all_goals
      simp only [Prod.mk.injEq] at h
      obtain ⟨h1, -, -, -, -, h6⟩ := h
      rw [g3] at h6
    · cases h6
    · cases h6
    · cases h6
    · cases h6
      exact ⟨rfl, lt k o g2, r, o, g1, g2, h1, hw, hi, hz⟩
  have flact : ∀ o, isFl o = true → actO E o = false := by
    intro o ho
    unfold isFl at ho
    unfold actO
    split at ho
    · rename_i t ht
      rw [ht]
      split at ho
      · rename_i hg
        simp only [hg]
      · cases ho
    · cases ho
  have d6 : ∀ k o, all[k]? = some o → actAt E all k = false → (stAt trs fin (k + 1)).2.1 = (stAt trs fin k).2.1 ∧ (stAt trs fin (k + 1)).2.2.1 = (stAt trs fin k).2.2.1 := by
    intro k o ho hk
    obtain ⟨r, g1, g2⟩ := c3 k o ho
    rw [hact k o ho] at hk
    rcases stepD_cases g2.d with ⟨-, h⟩ | ⟨-, -, -, v, -, h⟩ | ⟨-, -, hc, v, -, h⟩ | ⟨-, -, z, -, h⟩
    · simp only [Prod.mk.injEq] at h
      exact ⟨h.2.1, h.2.2.1⟩
    · simp only [Prod.mk.injEq] at h
      exact ⟨h.2.1, h.2.2.1⟩
    · rw [hk] at hc; cases hc
    · simp only [Prod.mk.injEq] at h
      exact ⟨h.2.1, h.2.2.1⟩
  have const : ∀ b a', a' ≤ b → b ≤ all.length → (∀ j, a' ≤ j → j < b → actAt E all j = false) → (stAt trs fin b).2.1 = (stAt trs fin a').2.1 := by
    intro b
    induction b with
    | zero => intro a' h1 _ _; obtain rfl : a' = 0 := by omega
              rfl
    | succ b ih =>
      intro a' h1 hb' hn
      rcases Nat.lt_or_ge b a' with h2 | h2
      · obtain rfl : a' = b + 1 := by omega
        rfl
      · rw [(d6 b _ (List.getElem?_eq_getElem (by omega)) (hn b h2 (by omega))).1]
        exact ih a' h2 (by omega) (fun j x y => hn j x (by omega))
  have C : Canon P E cal N all (preN pt) (actAt E all) Fl A (selE (2 ^ (len all) - 1) fin.2.2.2) (fun k => (stAt trs fin k).1) (fun k => (stAt trs fin k).2.1) (fun k => (stAt trs fin k).2.2.1) V W G := by
    have hlast : stAt trs fin all.length = fin := by
      unfold stAt
      rw [List.getElem?_eq_none (by rw [c1]; exact Nat.le_refl _)]
    refine ⟨fun k o ho => (hA k o ho).2, ?_, ?_, ?_, ?_, ?_, ?_, ?_, ?_, ?_, ?_, ?_, ?_, ?_, ?_, ?_, ?_, ?_⟩
    · intro k o j ho hj
      rw [(hA k o ho).1] at hj
      exact maskE_ok pt _ j hj
    · intro i j oi' oj hij hoi hoj
      have := allN_ok (allN_ok hb j (lt j oj hoj)) i hij
      rw [Bool.or_eq_true] at this
      rcases this with h1 | h1
      · exact .inl h1
      · rw [nth_ok, nth_ok, hoi, hoj] at h1
        have h1' : (and (oi'.apart all.toArray oj) (not (and (actO E oi') (actO E oj)))) = true := h1
        rw [Bool.and_eq_true] at h1'
        refine .inr ⟨h1'.1, ?_⟩
        rw [hact i oi' hoi, hact j oj hoj]
        intro hh
        rw [hh.1, hh.2] at h1'
        exact absurd h1'.2 (by simp)
    · intro k o ho
      obtain ⟨r, g1, g2⟩ := c3 k o ho
      rw [(vw k r g1).1]
      exact g2.put
    · intro k o d x ho hx
      obtain ⟨r, g1, g2⟩ := c3 k o ho
      rw [(vw k r g1).2.2.1, g2.G] at hx
      exact rstE_ok _ _ _ _ hx
    · intro k o ho
      obtain ⟨r, g1, g2⟩ := c3 k o ho
      rw [(vw k r g1).2.2.1, (vw k r g1).2.1]
      exact g2.w
    · intro k o ho hw
      obtain ⟨r, g1, g2⟩ := c3 k o ho
      rw [(vw k r g1).2.1] at hw
      rw [(vw k r g1).1]
      rcases stepD_cases g2.d with ⟨-, h⟩ | ⟨hb', -⟩ | ⟨hb', -⟩ | ⟨hb', -⟩
      · simp only [Prod.mk.injEq] at h
        exact ⟨h.1, h.2.1, h.2.2.1⟩
      all_goals rw [hw] at hb'; cases hb'
    · intro k o ho hw hk
      obtain ⟨r, g1, g2⟩ := c3 k o ho
      rw [(vw k r g1).2.1] at hw
      rw [(vw k r g1).1, (vw k r g1).2.2.1, (vw k r g1).2.2.2.1]
      rw [hact k o ho] at hk
      rcases stepD_cases g2.d with ⟨hc, -⟩ | ⟨-, -, hc, -⟩ | ⟨-, -, hc, q, hq, h⟩ | ⟨-, hc, -⟩
      · rw [hw] at hc; cases hc
      · rw [hk] at hc; cases hc
      · simp only [Prod.mk.injEq] at h
        obtain ⟨h1, h2, h3, -, h5, -⟩ := h
        show valE E cal o ⟨r.G, adM r.A (stAt trs fin k).2.1, (stAt trs fin k).2.2.1⟩ = some (r.v, (stAt trs fin (k + 1)).2.1, (stAt trs fin (k + 1)).2.2.1)
        rw [h5, hq, h1, h2, h3]
      · rw [flact o hc] at hk; cases hk
    · intro k o ho hk
      exact d6 k o ho hk
    · intro k o c ho hw hk hc hn hp1 hp2 hFk
      obtain ⟨r, g1, g2⟩ := c3 k o ho
      rw [(vw k r g1).2.1] at hw
      rw [(vw k r g1).2.2.2.2] at hFk
      rw [(vw k r g1).1, (vw k r g1).2.2.1]
      have hk' := hk
      rw [hact k o ho] at hk'
      have hev : isFl o = false ∧ evP E (stAt trs fin k).2.1 r.G o = some r.v := by
        rcases stepD_cases g2.d with ⟨hc, -⟩ | ⟨-, hi, -, v, hv, h⟩ | ⟨-, -, hc, -⟩ | ⟨-, -, z, -, h⟩
        · rw [hw] at hc; cases hc
        · simp only [Prod.mk.injEq] at h
          rw [h.1]
          exact ⟨hi, hv⟩
        · rw [hk'] at hc; cases hc
        · simp only [Prod.mk.injEq] at h
          have := h.2.2.2.2.2
          rw [hFk] at this; cases this
      by_cases hcan : c ≤ k ∧ ∀ j, c ≤ j → j < k → actAt E all j = false
      · have := const k c hcan.1 (by have := lt k o ho; omega) hcan.2
        rw [← this]
        exact hev.2
      · have hcomp : compB E pt all k c = true := by
          unfold compB
          rw [Bool.and_eq_true, Bool.and_eq_true, len_ok]
          refine ⟨?_, ?_, ?_⟩
          · rw [Bool.or_eq_true, nbeq_iff]
            exact hn
          · have : ∀ n, n ≤ all.length → allN (fun j => or (not (actAt E all j)) (Bool.rec (motive := fun _ => Bool) (not ((preN pt k).testBit j)) (not ((preN pt j).testBit k)) (Nat.blt j c))) n = true := by
              intro n
              induction n with
              | zero => intro _; rfl
              | succ n ih =>
                intro hn'
                have hp : (or (not (actAt E all n)) (Bool.rec (motive := fun _ => Bool) (not ((preN pt k).testBit n)) (not ((preN pt n).testBit k)) (Nat.blt n c))) = true := by
                  cases hAct : actAt E all n with
                  | false => rfl
                  | true =>
                    cases hbl : Nat.blt n c with
                    | true =>
                      have := hp1 n (by omega) hAct (blt_true hbl)
                      rw [this]; rfl
                    | false =>
                      have := hp2 n (by omega) hAct (blt_false hbl)
                      rw [this]; rfl
                show Bool.rec (motive := fun _ => Bool) false (allN _ n) (or (not (actAt E all n)) (Bool.rec (motive := fun _ => Bool) (not ((preN pt k).testBit n)) (not ((preN pt n).testBit k)) (Nat.blt n c))) = true
                rw [hp]
                exact ih (by omega)
            exact this _ (Nat.le_refl _)
          · rw [Bool.not_eq_true']
            cases hq : (and (Nat.ble c k) (allN (fun j => or (not (Nat.ble c j)) (not (actAt E all j))) k)) with
            | false => rfl
            | true =>
              exfalso
              have hq' : Nat.ble c k = true ∧ allN (fun j => or (not (Nat.ble c j)) (not (actAt E all j))) k = true := by simpa using hq
              obtain ⟨q1, q2⟩ := hq'
              refine hcan ⟨nble_iff.1 q1, fun j x y => ?_⟩
              have := allN_ok q2 j y
              rw [nble_iff.2 x] at this
              simpa using this
        have hmem := needE_ok (E := E) (pt := pt) k c (lt k o ho) hk hc hcomp
        have hchk := allL_ok hdy _ hmem
        unfold dynC at hchk
        simp only at hchk
        rw [nth_ok, nth_ok, ho, g1] at hchk
        have hchk' : (or (or (not r.w) (isFl o)) (Option.rec (motive := fun _ => Bool) false (fun v => svEq v r.v) (evP E (stAt trs fin c).2.1 r.G o))) = true := hchk
        rw [hw, hev.1] at hchk'
        cases hv : evP E (stAt trs fin c).2.1 r.G o with
        | none => rw [hv] at hchk'; cases hchk'
        | some v' =>
          rw [hv] at hchk'
          have : svEq v' r.v = true := by simpa using hchk'
          rw [svEq_ok this]
    · intro k o b z ho hk
      obtain ⟨rfl, -, r, o', g1, g2, g3, g4, g5, g6⟩ := hfl k b z hk
      rw [ho] at g2
      cases g2
      rw [(vw k r g1).1, (vw k r g1).2.1, hact k o ho]
      exact ⟨g3, flact o g5, g4, fltE_ok hE g6⟩
    · intro k k' b z z' h1 h2
      have := (hfl k b z h1).1
      have := (hfl k' b z' h2).1
      omega
    · intro k q hk
      exact (hfl k q.1 q.2 hk).2.1
    · intro i q hq
      obtain ⟨r, o, g1, g2, g3⟩ := hAof i q hq
      obtain ⟨r', g1', g4⟩ := c3 i o g2
      rw [g1] at g1'
      cases g1'
      rw [hact i o g2, (vw i r g1).2.1]
      rcases stepD_cases g4.d with ⟨-, h⟩ | ⟨-, -, -, v, -, h⟩ | ⟨hw, -, hc, v, -, h⟩ | ⟨-, -, z, -, h⟩
      all_goals
        simp only [Prod.mk.injEq] at h
        obtain ⟨-, -, -, -, h5', -⟩ := h
        rw [h5'] at g3
      · cases g3
      · cases g3
      · rw [selE_ok, List.mem_map] at g3
        obtain ⟨x, hx, rfl⟩ := g3
        rw [List.mem_filter] at hx
        obtain ⟨-, -, r2, j1, j2⟩ := (flok i (by have := lt i o g2; omega)).mem x.1 x.2 hx.1
        exact ⟨hc, hw, x.1, by rw [(vw x.1 r2 j1).2.2.2.2]; exact j2, hx.2⟩
      · cases g3
    · have key : ∀ i i' q, i < i' → q ∈ A i → q ∈ A i' → False := by
        intro i i' q hlt h1 h2
        obtain ⟨r, o, g1, g2, g3⟩ := hAof i q h1
        obtain ⟨r2, o2, j1, j2, j3⟩ := hAof i' q h2
        obtain ⟨r', g1', g4⟩ := c3 i' o2 j2
        rw [j1] at g1'
        cases g1'
        have I := flok i' (by have := lt i' o2 j2; omega)
        rcases stepD_cases g4.d with ⟨-, h⟩ | ⟨-, -, -, v, -, h⟩ | ⟨-, -, -, v, -, h⟩ | ⟨-, -, z, -, h⟩
        all_goals
          simp only [Prod.mk.injEq] at h
          obtain ⟨-, -, -, -, h5', -⟩ := h
          rw [h5'] at j3
        · cases j3
        · cases j3
        · rw [selE_ok, List.mem_map] at j3
          obtain ⟨x, hx, rfl⟩ := j3
          exact I.gone i r hlt g1 _ g3 x ((List.mem_filter.1 hx).1) rfl
        · cases j3
      intro i i' q h1 h2
      rcases Nat.lt_trichotomy i i' with h | h | h
      · exact (key i i' q h h1 h2).elim
      · exact h
      · exact (key i' i q h h2 h1).elim
    · intro i
      cases ht : trs[i]? with
      | none => simp only [A, ht]; exact List.nodup_nil
      | some r =>
        simp only [A, ht]
        obtain ⟨o, ho⟩ := hat i r ht
        obtain ⟨r', g1', g4⟩ := c3 i o ho
        rw [ht] at g1'
        cases g1'
        rcases stepD_cases g4.d with ⟨-, h⟩ | ⟨-, -, -, v, -, h⟩ | ⟨-, -, -, v, -, h⟩ | ⟨-, -, z, -, h⟩
        all_goals
          simp only [Prod.mk.injEq] at h
          obtain ⟨-, -, -, -, h5', -⟩ := h
          rw [h5']
        · exact List.nodup_nil
        · exact List.nodup_nil
        · rw [selE_ok, List.map_map]
          exact List.Nodup.sublist (List.Sublist.map _ List.filter_sublist) (flok i (by have := lt i o ho; omega)).nd
        · exact List.nodup_nil
    · intro q hq
      rw [selE_ok, List.mem_map] at hq
      obtain ⟨x, hx, rfl⟩ := hq
      have I := flok all.length (Nat.le_refl _)
      have hx' : (x.1, x.2) ∈ (stAt trs fin all.length).2.2.2 := by rw [hlast]; exact (List.mem_filter.1 hx).1
      obtain ⟨-, -, r2, j1, j2⟩ := I.mem x.1 x.2 hx'
      refine ⟨⟨x.1, by rw [(vw x.1 r2 j1).2.2.2.2]; exact j2⟩, fun i hi => ?_⟩
      obtain ⟨r, o, g1, g2, g3⟩ := hAof i _ hi
      exact I.gone i r (lt i o g2) g1 _ g3 x hx' rfl
    · rw [selE_ok, List.map_map]
      have I := flok all.length (Nat.le_refl _)
      have hnd := I.nd
      rw [hlast] at hnd
      exact List.Nodup.sublist (List.Sublist.map _ List.filter_sublist) hnd
  have hz : stAt trs fin 0 = (s.F, s.m, s.nx + all.length, []) := c2
  have hlast : stAt trs fin all.length = fin := by
    unfold stAt
    rw [List.getElem?_eq_none (by rw [c1]; exact Nat.le_refl _)]
  refine C.wp hE hcal (ρ := ρ) (w0 := w0) (D := D) (by rw [hz]; exact ⟨h.F, h.m.bump (Nat.le_add_right _ _), h.d⟩) ?_ fun ρ' a' w' k1 k2 => hQ ρ' a' w' k1 ?_
  · intro k b z hk
    obtain ⟨rfl, hlt, -⟩ := hfl k b z hk
    rw [hz]
    exact ⟨(h.m.fresh _ (by omega)).1, by show s.nx + k < s.nx + all.length; omega, fun hr => by have := (h.m.hole _ hr).1; omega⟩
  · rw [hlast] at k2
    rw [← h5]
    exact k2
end Go.Proofs.YteblflebjhncbaaGreatDoor
