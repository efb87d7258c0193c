/-
  A run by the kernel: a region that draws its order: the check.
-/
import Derived.Test.YtodehmognjofhaaGreatQEC
import Derived.RecoverIn
import Derived.Lib.Repeat
import Derived.Below
import Derived.Lib.Join
namespace Go.Proofs.YtodehmognjofhaaGreat
open Go.RowKit

def bopq (a b : BinOp) : Bool := match a, b with
  | .add, .add | .sub, .sub | .mul, .mul | .and, .and | .or, .or | .xor, .xor | .shl, .shl | .shr, .shr => true
  | .eql, .eql | .neq, .neq | .lss, .lss | .leq, .leq | .gtr, .gtr | .geq, .geq => true
  | _, _ => false
theorem bopq_ok {a b : BinOp} (h : bopq a b = true) : a = b := by cases a <;> cases b <;> first | rfl | cases h
mutual
def svEq : SV → SV → Bool
  | .bool a, .bool b => a == b
  | .int k a, .int l b => kq k l && ieq a b
  | .str a, .str b => a == b
  | .ptr a b, .ptr c d => Nat.beq a c && Nat.beq b d
  | .nptr, .nptr => true
  | .slc a b c d, .slc e f g h => Nat.beq a e && (Nat.beq b f && (Nat.beq c g && Nat.beq d h))
  | .slu a b c d, .slu e f g h => Nat.beq a e && (Nat.beq b f && (Nat.beq c g && Nat.beq d h))
  | .nslc, .nslc => true
  | .map a, .map b => Nat.beq a b
  | .nmap, .nmap => true
  | .fn (.func f) a c, .fn (.func g) b d => Nat.beq f g && (svEqL a b && svEqL c d)
  | .nfn, .nfn => true
  | .ifc t v, .ifc u w => Nat.beq t u && svEq v w
  | .nifc, .nifc => true
  | .agg a, .agg b => svEqL a b
  | .tup a, .tup b => svEqL a b
  | .sym .any i, .sym .any j => Nat.beq i j
  | .sym .str i, .sym .str j => Nat.beq i j
  | .sym (.int k) i, .sym (.int l) j => kq k l && Nat.beq i j
  | .sym .bool i, .sym .bool j => Nat.beq i j
  | .ar o k x y, .ar p l a b => bopq o p && (kq k l && (svEq x a && svEq y b))
  | .sh o k x n, .sh p l a q => bopq o p && (kq k l && (svEq x a && Nat.beq n q))
  | .cv k x, .cv l a => kq k l && svEq x a
  | .tab l x, .tab q a => (l == q) && svEq x a
  | .strs a, .strs b => svEqL a b
  | .chk n a, .chk m b => Nat.beq n m && a == b
  | .yld a, .yld b => Nat.beq a b
  | .lenS a, .lenS b => Nat.beq a b
  | .emp a b c d e, .emp a' b' c' d' e' => and (Nat.beq a a') (and (Nat.beq b b') (and (Nat.beq c c') (and (Nat.beq d d') (Nat.beq e e'))))
  | .flt k a, .flt l b => decide (k = l) && Nat.beq a b
  | _, _ => false
def svEqL : List SV → List SV → Bool
  | [], [] => true
  | a :: l, b :: m => svEq a b && svEqL l m
  | _, _ => false
end
theorem ieq_eq {a b : Int} (h : ieq a b = true) : a = b := by rw [ieq_ok] at h; simpa using h
mutual
theorem svEq_ok : ∀ {a b : SV}, svEq a b = true → a = b
  | a, b, h => by
    unfold svEq at h
    split at h
    · simpa using h
    · simp only [Bool.and_eq_true] at h; rw [kq_ok h.1, ieq_eq h.2]
    · simpa using h
    · simp only [Bool.and_eq_true, nbeq_iff] at h; rw [h.1, h.2]
    · rfl
    · simp only [Bool.and_eq_true, nbeq_iff] at h; rw [h.1, h.2.1, h.2.2.1, h.2.2.2]
    · simp only [Bool.and_eq_true, nbeq_iff] at h; rw [h.1, h.2.1, h.2.2.1, h.2.2.2]
    · rfl
    · rw [nbeq_iff] at h; rw [h]
    · rfl
    · simp only [Bool.and_eq_true, nbeq_iff] at h; rw [h.1, svEqL_ok h.2.1, svEqL_ok h.2.2]
    · rfl
    · simp only [Bool.and_eq_true, nbeq_iff] at h; rw [h.1, svEq_ok h.2]
    · rfl
    · rw [svEqL_ok h]
    · rw [svEqL_ok h]
    · rw [nbeq_iff] at h; rw [h]
    · rw [nbeq_iff] at h; rw [h]
    · simp only [Bool.and_eq_true, nbeq_iff] at h; rw [kq_ok h.1, h.2]
    · rw [nbeq_iff] at h; rw [h]
    · simp only [Bool.and_eq_true] at h; rw [bopq_ok h.1, kq_ok h.2.1, svEq_ok h.2.2.1, svEq_ok h.2.2.2]
    · simp only [Bool.and_eq_true, nbeq_iff] at h; rw [bopq_ok h.1, kq_ok h.2.1, svEq_ok h.2.2.1, h.2.2.2]
    · simp only [Bool.and_eq_true] at h; rw [kq_ok h.1, svEq_ok h.2]
    · simp only [Bool.and_eq_true, beq_iff_eq] at h; rw [h.1, svEq_ok h.2]
    · rw [svEqL_ok h]
    · simp only [Bool.and_eq_true, beq_iff_eq, nbeq_iff] at h; rw [h.1, h.2]
    · rw [nbeq_iff] at h; rw [h]
    · rw [nbeq_iff] at h; rw [h]
    · simp only [Bool.and_eq_true, nbeq_iff] at h; rw [h.1, h.2.1, h.2.2.1, h.2.2.2.1, h.2.2.2.2]
    · simp only [Bool.and_eq_true, decide_eq_true_eq, nbeq_iff] at h; rw [h.1, h.2]
    · cases h
theorem svEqL_ok : ∀ {a b : List SV}, svEqL a b = true → a = b
  | a, b, h => by
    unfold svEqL at h
    split at h
    · rfl
    · simp only [Bool.and_eq_true] at h; rw [svEq_ok h.1, svEqL_ok h.2]
    · cases h
end
/-- rows of bytes. -/
noncomputable def byteT1 (E : Env) (t : TypeId) : Bool := match und E t with
  | some (.slice e) => match und E e with
    | some (.int .u8) => true
    | _ => false
  | _ => false
noncomputable def byteT (E : Env) (t : TypeId) : Bool := Bool.rec (motive := fun _ => Bool) false (byteT1 E t) E.bf
def isInt1 (v : SV) : Bool := match v with
  | .int _ _ => true
  | _ => false
def intsB (z : SObj) : Bool := match z with
  | .cells cs _ false => cs.all isInt1
  | _ => false
theorem ints_den {ρ ρ' : Pl} : ∀ {cs : List SV} {us : List Value}, cs.all isInt1 = true → denC ρ cs = some us → denC ρ' cs = some us
  | [], us, _, h => by rw [denC_nil] at h ⊢; exact h
  | v :: cs, us, hc, h => by
    rw [List.all_cons, Bool.and_eq_true] at hc
    obtain ⟨a, us', h1, h2, rfl⟩ := denC_cons.1 h
    have hv : den ρ' v = den ρ v := by
      cases v with
      | int k n => rw [den_int, den_int]
      | _ => exact absurd hc.1 (by simp [isInt1])
    exact denC_cons.2 ⟨a, us', by rw [hv]; exact h1, ints_den hc.2 h2, rfl⟩
/-- may an operation turn memory? -/
noncomputable def actO (E : Env) (o : Oper) : Bool := match o.op with
  | .box .. | .store .. | .mapUpdate .. | .insert .. => true
  | .buildSlice t _ _ => not (byteT E t)
  | .convert _ d _ => match und E d with
    | some (.slice _) => true
    | _ => false
  | .call c => match c.callee with
    | .builtin b => match b with
      | .len | .cap | .min | .max => false
      | _ => true
    | _ => true
  | .mapEntry .. | .entryStore .. | .range .. | .next .. | .entry .. => true
  | _ => false
noncomputable def rstE (F : T SV) (l : List Tmp) : T SV := List.rec (motive := fun _ => T SV) .leaf (fun t _ ih => ih.put (F.get t) t) l
theorem rstE_ok (F : T SV) : ∀ (l : List Tmp) (d : Tmp) (x : SV), (rstE F l).get d = some x → d ∈ l ∧ F.get d = some x
  | [], d, x, h => by rw [show rstE F [] = .leaf from rfl, T.get_leaf] at h; cases h
  | t :: l, d, x, h => by
    rw [show rstE F (t :: l) = (rstE F l).put (F.get t) t from rfl, T.get_put] at h
    by_cases e : d = t
    · rw [if_pos e] at h
      subst e
      exact ⟨by simp, h⟩
    · rw [if_neg e] at h
      obtain ⟨h1, h2⟩ := rstE_ok F l d x h
      exact ⟨by simp [h1], h2⟩
/-- a block that floats. -/
noncomputable def isFl (E : Env) (o : Oper) : Bool := match o.op with
  | .alloc _ => true
  | .buildSlice t _ _ => byteT E t
  | .makeSlice .. => true
  | .makeMap .. => true
  | _ => false
noncomputable def fltE (E : Env) (G : T SV) (b : Nat) (o : Oper) : Option (SV × SObj) := match o.op with
  | .alloc t => ob (zrE E t) fun z => oi (match z with | .tup _ => false | _ => true) (some (.ptr b 0, .cells (cellsOf z) t false))
  | .makeSlice t l c => ob (ev G l) fun x => ob (ev G c) fun y => ob (mslE E .leaf b t x y) fun r => ob (r.2.1.get b) fun z => some (r.1, z)
  | .buildSlice t n ps => ob (evPs G ps.toList) fun l => ob (bslN E .leaf b t n l) fun r => ob (r.2.1.get b) fun z => oi (intsB z) (some (r.1, z))
  | .makeMap t r => ob (evO G r) fun q => ob (und E t) fun d => oi (match d with | .map _ _ => true | _ => false) (oi (match q with | some (.int _ _) => true | none => true | _ => false) (some (.map b, .map [] 0)))
  | _ => none
variable [Orig]
omit [Orig] in
theorem fltE_ok {P : Program} {E : Env} (hE : EnvOk P E) {N : Nat} {G : T SV} {b : Nat} {o : Oper} {q : SV × SObj} (e : fltE E G b o = some q) : AllocOk P N G o q.1 b q.2 := by
  obtain ⟨dst, op, ty, pos, after, guard⟩ := o
  unfold fltE at e
  cases op <;> try cases e
  case alloc t =>
    have e' : (ob (zrE E t) fun z => oi (match z with | .tup _ => false | _ => true) (some (SV.ptr b 0, SObj.cells (cellsOf z) t false))) = some q := e
    obtain ⟨v, h1, h2⟩ := ob_eq.1 e'
    obtain ⟨h3, h4⟩ := oi_eq.1 h2
    cases h4
    refine ⟨fun c hc => (by cases hc), fun ρ a w _ => ?_⟩
    obtain ⟨u, c1, c2, i, c3, c4⟩ := zrE_ok hE h1 ⟨fun _ => none, fun _ => none⟩ w
    have hone := cellsOf_one c2 (fun l hl => by rw [hl] at h3; cases h3)
    refine ⟨.cells u.cells t, _, ?_, fun ρ => ?_, fun ρ' hb => den_ptr_mk hb 0⟩
    rotate_left
    · obtain ⟨u', -, d2, i', d3, d4⟩ := zrE_ok hE h1 ρ w
      rw [c3] at d3
      cases d3
      rw [c4] at d4
      cases d4
      exact obj_cells (cellsOf_den d2) hone
    refine run_val ?_
    simp only [Instr.alloc, Sem.run_bind, c1, Result.andThen_ok, newVar, newRow, run_newObj_alloc, Sem.run_pure]
  case makeSlice t l c =>
    have e' : (ob (ev G l) fun x => ob (ev G c) fun y => ob (mslE E .leaf b t x y) fun r => ob (r.2.1.get b) fun z => some (r.1, z)) = some q := e
    obtain ⟨x, h1, h2⟩ := ob_eq.1 e'
    obtain ⟨y, h3, h4⟩ := ob_eq.1 h2
    obtain ⟨r, h5, h6⟩ := ob_eq.1 h4
    obtain ⟨z, h7, h8⟩ := ob_eq.1 h6
    cases h8
    refine ⟨fun c hc => (by cases hc), fun ρ a w hF => ?_⟩
    obtain ⟨l', c', cs, el, us, rfl, g1, g2, g3⟩ := mslE_run hE h5 (ev_den hF h1) (ev_den hF h3) w
    have h7' : T.get (T.put .leaf (some (SObj.cells cs el false)) b) b = some z := h7
    rw [T.get_put, if_pos rfl] at h7'
    cases h7'
    exact ⟨_, _, run_val g3, fun ρ' => obj_cells (g1 ρ') g2, fun ρ' hb => den_slc_mk hb 0 l' c'⟩
  case buildSlice t n ps =>
    have e' : (ob (evPs G ps.toList) fun l => ob (bslN E .leaf b t n l) fun r => ob (r.2.1.get b) fun z => oi (intsB z) (some (r.1, z))) = some q := e
    obtain ⟨l, h1, h2⟩ := ob_eq.1 e'
    obtain ⟨r, h3, h4⟩ := ob_eq.1 h2
    obtain ⟨z, h5, h6⟩ := ob_eq.1 h4
    obtain ⟨h7, h8⟩ := oi_eq.1 h6
    cases h8
    refine ⟨fun c hc => (by cases hc), fun ρ a w hF => ?_⟩
    obtain ⟨cs, el, us, rfl, g1, g2, g3⟩ := bslN_run hE h3 (evPs_den hF h1) w
    have h5' : T.get (T.put .leaf (some (SObj.cells cs el false)) b) b = some z := h5
    rw [T.get_put, if_pos rfl] at h5'
    cases h5'
    have e1 : (ps.map fun (i, x) => (i, a.eval x)) = (ps.toList.map fun x => (x.1, a.eval x.2)).toArray := map_toA _ _
    rw [← e1] at g3
    exact ⟨_, _, run_val g3, fun ρ' => obj_cells (ints_den h7 g1) g2, fun ρ' hb => den_slc_mk hb 0 n n⟩
  case makeMap t r =>
    have e' : (ob (evO G r) fun q => ob (und E t) fun d => oi (match d with | .map _ _ => true | _ => false) (oi (match q with | some (.int _ _) => true | none => true | _ => false) (some (SV.map b, SObj.map [] 0)))) = some q := e
    obtain ⟨v, h1, h2⟩ := ob_eq.1 e'
    obtain ⟨d, h3, h4⟩ := ob_eq.1 h2
    obtain ⟨h5, h6⟩ := oi_eq.1 h4
    obtain ⟨h7, h8⟩ := oi_eq.1 h6
    cases h8
    refine ⟨fun c hc => (by cases hc), fun ρ a w hF => ?_⟩
    refine ⟨.map #[] 0, .map (some w.heap.size), ?_, fun ρ' => ⟨rfl, trivial⟩, fun ρ' hb => den_map_mk hb⟩
    refine run_val ?_
    have hd := evO_den hF h1
    have hu' := und_ok hE h3
    cases r with
    | none => simp only [Option.map_none, Instr.makeMap, Sem.run_bind, Sem.run_pure, Result.andThen_ok, run_newObj_alloc]
    | some x =>
      cases v with
      | none => exact hd.elim
      | some v =>
        cases v <;> first | cases h7 | skip
        have hd' : den ρ (SV.int _ _) = some (a.eval x) := hd
        rw [den_int] at hd'
        have hx := (Option.some.inj hd').symm
        have hm : ∃ k e, d = .map k e := by cases d <;> first | exact ⟨_, _, rfl⟩ | cases h5
        obtain ⟨k, el, rfl⟩ := hm
        simp only [Option.map_some, hx, Instr.makeMap, Sem.run_bind, Sem.run_pure, Result.andThen_ok, run_newObj_alloc, run_underlying hu' w, asInt, asIntOf]
abbrev PD := List (Nat × (Nat × SObj))
noncomputable def selE (k : Nat) (l : PD) : List (Nat × SObj) := List.rec (motive := fun _ => List (Nat × SObj)) [] (fun x _ ih => Bool.rec (motive := fun _ => List (Nat × SObj)) ih (x.2 :: ih) (k.testBit x.1)) l
noncomputable def rstP (k : Nat) (l : PD) : PD := List.rec (motive := fun _ => PD) [] (fun x _ ih => Bool.rec (motive := fun _ => PD) (x :: ih) ih (k.testBit x.1)) l
omit [Orig] in
theorem selE_ok (k : Nat) : ∀ l : PD, selE k l = (l.filter fun x => k.testBit x.1).map (·.2)
  | [] => rfl
  | x :: l => by
    show Bool.rec (motive := fun _ => List (Nat × SObj)) (selE k l) (x.2 :: selE k l) (k.testBit x.1) = _
    rw [selE_ok k l, List.filter_cons]
    cases k.testBit x.1 <;> rfl
omit [Orig] in
theorem rstP_ok (k : Nat) : ∀ l : PD, rstP k l = l.filter fun x => !k.testBit x.1
  | [] => rfl
  | x :: l => by
    show Bool.rec (motive := fun _ => PD) (x :: rstP k l) (rstP k l) (k.testBit x.1) = _
    rw [rstP_ok k l, List.filter_cons]
    cases k.testBit x.1 <;> rfl
/-- the block that an operation reads, if it floats. -/
noncomputable def blkB (b : Nat) (l : List (Nat × SObj)) : List (Nat × SObj) := List.rec (motive := fun _ => List (Nat × SObj)) [] (fun x _ ih => Bool.rec (motive := fun _ => List (Nat × SObj)) ih [x] (Nat.beq x.1 b)) l
noncomputable def bV (v : Option SV) (l : List (Nat × SObj)) : List (Nat × SObj) := match v with
  | some (.ptr b _) => blkB b l
  | some (.slc b _ _ _) => blkB b l
  | some (.slu b _ _ _) => blkB b l
  | some (.map b) => blkB b l
  | _ => []
noncomputable def bE (G : T SV) (l : List (Nat × SObj)) (o : Oper) : List (Nat × SObj) := match o.op with
  | .load _ x => bV (ev G x) l
  | .convert _ _ x => bV (ev G x) l
  | .lookup _ x _ _ => bV (ev G x) l
  | _ => []
omit [Orig] in
theorem blkB_sub (b : Nat) : ∀ l, (blkB b l).Sublist l
  | [] => List.Sublist.slnil
  | x :: l => by
    show (Bool.rec (motive := fun _ => List (Nat × SObj)) (blkB b l) [x] (Nat.beq x.1 b) : List (Nat × SObj)).Sublist (x :: l)
    cases Nat.beq x.1 b with
    | false => exact (blkB_sub b l).cons x
    | true => exact (List.nil_sublist l).cons_cons x
omit [Orig] in
theorem bE_sub (G : T SV) (l : List (Nat × SObj)) (o : Oper) : (bE G l o).Sublist l := by
  have h : ∀ v, (bV v l).Sublist l := by
    intro v
    unfold bV
    split
    · exact blkB_sub _ l
    · exact blkB_sub _ l
    · exact blkB_sub _ l
    · exact blkB_sub _ l
    · exact List.nil_sublist l
  unfold bE
  split
  · exact h _
  · exact h _
  · exact h _
  · exact List.nil_sublist l
structure TR where
  F : T SV
  G : T SV
  m : T SObj
  x : Nat
  p : PD
  v : SV
  w : Bool
  A : List (Nat × SObj)
  f : Option (Nat × SObj)
abbrev S3 := T SV × T SObj × Nat × PD
abbrev SR := SV × T SObj × Nat × PD × List (Nat × SObj) × Option (Nat × SObj)
noncomputable def stepD (E : Env) (cal : Cal) (pt : T Nat) (n0 k : Nat) (o : Oper) (G : T SV) (m : T SObj) (x : Nat) (p : PD) (b : Bool) : Option SR :=
  Bool.rec (motive := fun _ => Option SR) (some (.tup [], m, x, p, [], none)) (Bool.rec (motive := fun _ => Option SR)
    (Bool.rec (motive := fun _ => Option SR) (ob (evP E (adM (bE G (selE ((pt.get k).getD 0) p) o) m) G o) fun v => some (v, m, x, p, [], none)) (ob (valE E cal o ⟨G, adM (selE ((pt.get k).getD 0) p) m, x⟩) fun r => some (r.1, r.2.1, r.2.2, rstP ((pt.get k).getD 0) p, selE ((pt.get k).getD 0) p, none)) (actO E o))
    (ob (fltE E G (Nat.add n0 k) o) fun z => some (z.1, m, x, (k, (Nat.add n0 k, z.2)) :: p, [], some (Nat.add n0 k, z.2))) (isFl E o)) b
noncomputable def canE (E : Env) (cal : Cal) (pt : T Nat) (n0 N : Nat) (all l : List Oper) : Nat → S3 → Option (List TR × S3) := List.rec (motive := fun _ => Nat → S3 → Option (List TR × S3)) (fun _ s => some ([], s))
  (fun o _ ih k s => ob (wantE all (rstE s.1 (o.looksAt all.toArray)) o.guard) fun b => ob (stepD E cal pt n0 k o (rstE s.1 (o.looksAt all.toArray)) s.2.1 s.2.2.1 s.2.2.2 b) fun r => ob (fput N s.1 o.dst r.1) fun F' => ob (ih (Nat.succ k) (F', r.2.1, r.2.2.1, r.2.2.2.1)) fun q =>
    some (⟨s.1, rstE s.1 (o.looksAt all.toArray), s.2.1, s.2.2.1, s.2.2.2, r.1, b, r.2.2.2.2.1, r.2.2.2.2.2⟩ :: q.1, q.2)) l
def stAt (trs : List TR) (fin : S3) (i : Nat) : S3 := match trs[i]? with
  | some r => (r.F, r.m, r.x, r.p)
  | none => fin
structure StepOk (E : Env) (cal : Cal) (pt : T Nat) (n0 N : Nat) (all : List Oper) (k : Nat) (o : Oper) (s s' : S3) (r : TR) : Prop where
  G : r.G = rstE s.1 (o.looksAt all.toArray)
  w : wantE all r.G o.guard = some r.w
  d : stepD E cal pt n0 k o r.G s.2.1 s.2.2.1 s.2.2.2 r.w = some (r.v, s'.2.1, s'.2.2.1, s'.2.2.2, r.A, r.f)
  put : fput N s.1 o.dst r.v = some s'.1
omit [Orig] in
theorem canE_ok {E : Env} {cal : Cal} {pt : T Nat} {n0 N : Nat} {all : List Oper} : ∀ {l : List Oper} {k : Nat} {s : S3} {trs : List TR} {fin : S3}, canE E cal pt n0 N all l k s = some (trs, fin) →
    trs.length = l.length ∧ stAt trs fin 0 = s ∧ ∀ i o, l[i]? = some o → ∃ r, trs[i]? = some r ∧ StepOk E cal pt n0 N all (k + i) o (stAt trs fin i) (stAt trs fin (i + 1)) r
  | [], k, s, trs, fin, h => by cases h; exact ⟨rfl, rfl, fun i o h => by simp at h⟩
  | o :: l, k, s, trs, fin, h => by
    have h' : (ob (wantE all (rstE s.1 (o.looksAt all.toArray)) o.guard) fun b => ob (stepD E cal pt n0 k o (rstE s.1 (o.looksAt all.toArray)) s.2.1 s.2.2.1 s.2.2.2 b) fun r => ob (fput N s.1 o.dst r.1) fun F' => ob (canE E cal pt n0 N all l (Nat.succ k) (F', r.2.1, r.2.2.1, r.2.2.2.1)) fun q =>
      some (TR.mk s.1 (rstE s.1 (o.looksAt all.toArray)) s.2.1 s.2.2.1 s.2.2.2 r.1 b r.2.2.2.2.1 r.2.2.2.2.2 :: q.1, q.2)) = some (trs, fin) := h
    obtain ⟨b, h1, h2⟩ := ob_eq.1 h'
    obtain ⟨r, h3, h4⟩ := ob_eq.1 h2
    obtain ⟨F', h5, h6⟩ := ob_eq.1 h4
    obtain ⟨⟨q1, q2⟩, h7, h8⟩ := ob_eq.1 h6
    cases h8
    obtain ⟨g1, g2, g3⟩ := canE_ok h7
    refine ⟨by simp [g1], rfl, fun i o' ho => ?_⟩
    cases i with
    | zero =>
      simp at ho
      subst ho
      have e : stAt (TR.mk s.1 (rstE s.1 (o.looksAt all.toArray)) s.2.1 s.2.2.1 s.2.2.2 r.1 b r.2.2.2.2.1 r.2.2.2.2.2 :: q1) q2 1 = (F', r.2.1, r.2.2.1, r.2.2.2.1) := g2
      refine ⟨_, rfl, rfl, h1, ?_, ?_⟩
      · rw [e]
        exact h3
      · rw [e]
        exact h5
    | succ i =>
      rw [List.getElem?_cons_succ] at ho
      obtain ⟨r', j1, j2⟩ := g3 i o' ho
      exact ⟨r', j1, by rw [show k + (i + 1) = Nat.succ k + i by omega]; exact j2⟩

/-- the same for every number below n. -/
noncomputable def allN (p : Nat → Bool) (n : Nat) : Bool := Nat.rec (motive := fun _ => Bool) true (fun i ih => Bool.rec (motive := fun _ => Bool) false ih (p i)) n
omit [Orig] in
theorem allN_ok {p : Nat → Bool} : ∀ {n : Nat}, allN p n = true → ∀ i, i < n → p i = true
  | 0, _, i, hi => by omega
  | n + 1, h, i, hi => by
    have h' : Bool.rec (motive := fun _ => Bool) false (allN p n) (p n) = true := h
    cases hp : p n with
    | false => rw [hp] at h'; cases h'
    | true =>
      rw [hp] at h'
      by_cases e : i = n
      · subst e; exact hp
      · exact allN_ok h' i (by omega)
noncomputable def maskE (pt : T Nat) (l : List Edge) : Nat := List.rec (motive := fun _ => Nat) 0 (fun e _ ih => Bool.rec (motive := fun _ => Nat) ih (Nat.lor (Nat.lor (Nat.pow 2 e.on) ((pt.get e.on).getD 0)) ih) (Region.binds .any e)) l
omit [Orig] in
theorem maskE_ok (pt : T Nat) : ∀ (l : List Edge) (j : Nat), (maskE pt l).testBit j = true → ∃ e ∈ l, Region.binds .any e = true ∧ (e.on = j ∨ ((pt.get e.on).getD 0).testBit j = true)
  | [], j, h => by rw [show maskE pt [] = 0 from rfl, Nat.zero_testBit] at h; cases h
  | e :: l, j, h => by
    have h' : (Bool.rec (motive := fun _ => Nat) (maskE pt l) (Nat.lor (Nat.lor (Nat.pow 2 e.on) ((pt.get e.on).getD 0)) (maskE pt l)) (Region.binds .any e) : Nat).testBit j = true := h
    cases hb : Region.binds .any e with
    | false =>
      rw [hb] at h'
      obtain ⟨e', g1, g2⟩ := maskE_ok pt l j h'
      exact ⟨e', by simp [g1], g2⟩
    | true =>
      rw [hb] at h'
      have h2 : ((2 ^ e.on ||| (pt.get e.on).getD 0) ||| maskE pt l).testBit j = true := h'
      rw [Nat.testBit_or, Nat.testBit_or, Nat.testBit_two_pow] at h2
      simp only [Bool.or_eq_true, decide_eq_true_eq] at h2
      rcases h2 with (h2 | h2) | h2
      · exact ⟨e, by simp, hb, .inl h2⟩
      · exact ⟨e, by simp, hb, .inr h2⟩
      · obtain ⟨e', g1, g2⟩ := maskE_ok pt l j h2
        exact ⟨e', by simp [g1], g2⟩
noncomputable def preT (l : List Oper) : Nat → T Nat → T Nat := List.rec (motive := fun _ => Nat → T Nat → T Nat) (fun _ pt => pt) (fun o _ ih k pt => ih (Nat.succ k) (pt.put (some (maskE pt o.after.toList)) k)) l
noncomputable def actT (E : Env) (l : List Oper) : Nat → Nat := List.rec (motive := fun _ => Nat → Nat) (fun _ => 0) (fun o _ ih k => Bool.rec (motive := fun _ => Nat) (ih (Nat.succ k)) (Nat.lor (Nat.pow 2 k) (ih (Nat.succ k))) (actO E o)) l
noncomputable def preN (pt : T Nat) (k : Nat) : Nat := (pt.get k).getD 0
noncomputable def actAt (E : Env) (all : List Oper) (k : Nat) : Bool := Option.rec (motive := fun _ => Bool) false (fun o => actO E o) (nth k all)
noncomputable def chkA (pt : T Nat) (all : List Oper) (k : Nat) : Bool := Option.rec (motive := fun _ => Bool) false (fun o => and (Nat.beq (preN pt k) (maskE pt o.after.toList)) (o.after.toList.all fun e => or (not (Region.binds .any e)) (Nat.blt e.on k))) (nth k all)
noncomputable def chkB (E : Env) (pt : T Nat) (all : List Oper) (j : Nat) : Bool := allN (fun i => or ((preN pt j).testBit i) (Option.rec (motive := fun _ => Bool) false (fun oi => Option.rec (motive := fun _ => Bool) false (fun oj => and (oi.apart all.toArray oj) (not (and (actO E oi) (actO E oj)))) (nth j all)) (nth i all))) j
noncomputable def statE (E : Env) (pt : T Nat) (all : List Oper) : Bool := and (allN (chkA pt all) (len all)) (allN (chkB E pt all) (len all))
/-- might an operation be asked for at the memory of c? (the one of the text's order left out) -/
noncomputable def compB (E : Env) (pt : T Nat) (all : List Oper) (k c : Nat) : Bool :=
  and (or (Nat.beq c 0) (actAt E all (Nat.sub c 1))) (and (allN (fun j => or (not (actAt E all j)) (Bool.rec (motive := fun _ => Bool) (not ((preN pt k).testBit j)) (not ((preN pt j).testBit k)) (Nat.blt j c))) (len all))
    (not (and (Nat.ble c k) (allN (fun j => or (not (Nat.ble c j)) (not (actAt E all j))) k))))
noncomputable def selN (p : Nat → Bool) (n : Nat) : List Nat := Nat.rec (motive := fun _ => List Nat) [] (fun i ih => Bool.rec (motive := fun _ => List Nat) ih (i :: ih) (p i)) n
omit [Orig] in
theorem selN_ok {p : Nat → Bool} : ∀ {n : Nat} (i : Nat), i < n → p i = true → i ∈ selN p n
  | 0, i, hi, _ => by omega
  | n + 1, i, hi, hp => by
    show i ∈ Bool.rec (motive := fun _ => List Nat) (selN p n) (n :: selN p n) (p n)
    by_cases e : i = n
    · subst e; rw [hp]; simp
    · have := selN_ok (p := p) (n := n) i (by omega) hp
      cases p n
      · exact this
      · simp [this]
noncomputable def pairL (k : Nat) (l : List Nat) (m : List (Nat × Nat)) : List (Nat × Nat) := List.rec (motive := fun _ => List (Nat × Nat)) m (fun c _ ih => (k, c) :: ih) l
omit [Orig] in
theorem pairL_ok {k c : Nat} {m : List (Nat × Nat)} {x : Nat × Nat} : ∀ {l : List Nat}, ((x = (k, c) ∧ c ∈ l) ∨ x ∈ m) → x ∈ pairL k l m
  | [], h => by
    rcases h with ⟨-, h⟩ | h
    · simp at h
    · exact h
  | d :: l, h => by
    show x ∈ (k, d) :: pairL k l m
    rcases h with ⟨rfl, h⟩ | h
    · rcases List.mem_cons.1 h with rfl | h
      · simp
      · simp [pairL_ok (l := l) (.inl ⟨rfl, h⟩)]
    · simp [pairL_ok (l := l) (c := c) (.inr h)]
noncomputable def needE (E : Env) (pt : T Nat) (all : List Oper) (n : Nat) : List (Nat × Nat) := Nat.rec (motive := fun _ => List (Nat × Nat)) [] (fun k ih => Bool.rec (motive := fun _ => List (Nat × Nat)) (pairL k (selN (compB E pt all k) (Nat.succ (len all))) ih) ih (actAt E all k)) n
omit [Orig] in
theorem needE_ok {E : Env} {pt : T Nat} {all : List Oper} : ∀ {n : Nat} (k c : Nat), k < n → actAt E all k = false → c ≤ all.length → compB E pt all k c = true → (k, c) ∈ needE E pt all n
  | 0, k, c, hk, _, _, _ => by omega
  | n + 1, k, c, hk, ha, hc, hp => by
    show (k, c) ∈ Bool.rec (motive := fun _ => List (Nat × Nat)) (pairL n (selN (compB E pt all n) (Nat.succ (len all))) (needE E pt all n)) (needE E pt all n) (actAt E all n)
    by_cases e : k = n
    · subst e
      rw [ha]
      exact pairL_ok (c := c) (.inl ⟨rfl, selN_ok c (by rw [len_ok]; omega) hp⟩)
    · have := needE_ok k c (by omega) ha hc hp (n := n)
      cases actAt E all n
      · exact pairL_ok (c := c) (.inr this)
      · exact this
noncomputable def dynC (E : Env) (pt : T Nat) (all : List Oper) (trs : List TR) (fin : S3) (x : Nat × Nat) : Bool :=
  Option.rec (motive := fun _ => Bool) false (fun o => Option.rec (motive := fun _ => Bool) false (fun r => or (or (not r.w) (isFl E o)) (Option.rec (motive := fun _ => Bool) false (fun v => svEq v r.v) (evP E (adM (bE r.G (selE (preN pt x.1) r.p) o) (stAt trs fin x.2).2.1) r.G o))) (nth x.1 trs)) (nth x.1 all)
noncomputable def allL {α : Type} (p : α → Bool) (l : List α) : Bool := List.rec (motive := fun _ => Bool) true (fun x _ ih => Bool.rec (motive := fun _ => Bool) false ih (p x)) l
omit [Orig] in
theorem allL_ok {α : Type} {p : α → Bool} : ∀ {l : List α}, allL p l = true → ∀ x ∈ l, p x = true
  | [], _, x, hx => by simp at hx
  | y :: l, h, x, hx => by
    have h' : Bool.rec (motive := fun _ => Bool) false (allL p l) (p y) = true := h
    cases hp : p y with
    | false => rw [hp] at h'; cases h'
    | true =>
      rw [hp] at h'
      rcases List.mem_cons.1 hx with rfl | hx
      · exact hp
      · exact allL_ok h' x hx
noncomputable def memX (b : Nat) (l : List (Nat × SObj)) : Bool := List.rec (motive := fun _ => Bool) false (fun y _ ih => Bool.rec (motive := fun _ => Bool) ih true (Nat.beq y.1 b)) l
omit [Orig] in
theorem memX_in {q : Nat × SObj} : ∀ {l : List (Nat × SObj)}, q ∈ l → memX q.1 l = true
  | y :: l, h => by
    show Bool.rec (motive := fun _ => Bool) (memX q.1 l) true (Nat.beq y.1 q.1) = true
    cases hb : Nat.beq y.1 q.1 with
    | true => rfl
    | false =>
      rcases List.mem_cons.1 h with rfl | h
      · rw [nbeq_iff.2 rfl] at hb; cases hb
      · exact memX_in h
noncomputable def takB (pt : T Nat) (trs : List TR) (k b i : Nat) : Bool := Option.rec (motive := fun _ => Bool) true (fun r => or (not (memX b r.A)) ((preN pt i).testBit k)) (nth i trs)
/-- what an operation reads of the blocks that float stays so till it has read it. -/
noncomputable def chkF (E : Env) (pt : T Nat) (all : List Oper) (trs : List TR) (k : Nat) : Bool :=
  Option.rec (motive := fun _ => Bool) false (fun o => Option.rec (motive := fun _ => Bool) false (fun r => or (or (not r.w) (or (isFl E o) (actO E o))) (allL (fun x => allN (takB pt trs k x.1) (len all)) (bE r.G (selE (preN pt k) r.p) o))) (nth k trs)) (nth k all)
noncomputable def drawF (E : Env) (cal : Cal) (N : Nat) (all : List Oper) (s : St) : Option St :=
  oi (statE E (preT all 0 .leaf) all) (ob (canE E cal (preT all 0 .leaf) s.nx N all all 0 (s.F, s.m, Nat.add s.nx (len all), [])) fun q => oi (and (allN (chkF E (preT all 0 .leaf) all q.1) (len all)) (allL (dynC E (preT all 0 .leaf) all q.1 q.2) (needE E (preT all 0 .leaf) all (len all)))) (some ⟨q.2.1, adM (selE (Nat.sub (Nat.pow 2 (len all)) 1) q.2.2.2.2) q.2.2.1, q.2.2.2.1⟩))
/-- what a trace says of the blocks that float. -/
structure FlOk (pt : T Nat) (n0 : Nat) (trs : List TR) (fin : S3) (k : Nat) : Prop where
  mem : ∀ j q, (j, q) ∈ (stAt trs fin k).2.2.2 → j < k ∧ q.1 = n0 + j ∧ ∃ r, trs[j]? = some r ∧ r.f = some q
  nd : ((stAt trs fin k).2.2.2.map fun x => x.2.1).Nodup
  gone : ∀ i r, i < k → trs[i]? = some r → ∀ q ∈ r.A, ∀ y ∈ (stAt trs fin k).2.2.2, y.2.1 ≠ q.1
  old : ∀ i r, i < k → trs[i]? = some r → ∀ q ∈ r.A, ∃ j, j < i ∧ q.1 = n0 + j
omit [Orig] in
theorem stepD_cases {E : Env} {cal : Cal} {pt : T Nat} {n0 k : Nat} {o : Oper} {G : T SV} {m : T SObj} {x : Nat} {p : PD} {b : Bool} {r : SR} (h : stepD E cal pt n0 k o G m x p b = some r) :
    (b = false ∧ r = (.tup [], m, x, p, [], none)) ∨
    (b = true ∧ isFl E o = false ∧ actO E o = false ∧ ∃ v, evP E (adM (bE G (selE ((pt.get k).getD 0) p) o) m) G o = some v ∧ r = (v, m, x, p, [], none)) ∨
    (b = true ∧ isFl E o = false ∧ actO E o = true ∧ ∃ q, valE E cal o ⟨G, adM (selE ((pt.get k).getD 0) p) m, x⟩ = some q ∧ r = (q.1, q.2.1, q.2.2, rstP ((pt.get k).getD 0) p, selE ((pt.get k).getD 0) p, none)) ∨
    (b = true ∧ isFl E o = true ∧ ∃ z, fltE E G (n0 + k) o = some z ∧ r = (z.1, m, x, (k, (n0 + k, z.2)) :: p, [], some (n0 + k, z.2))) := by
  unfold stepD at h
  cases b with
  | false => exact .inl ⟨rfl, (Option.some.inj h).symm⟩
  | true =>
    refine .inr ?_
    cases hf : isFl E o with
    | true =>
      rw [hf] at h
      have h' : (ob (fltE E G (Nat.add n0 k) o) fun z => some (z.1, m, x, (k, (Nat.add n0 k, z.2)) :: p, ([] : List (Nat × SObj)), some (Nat.add n0 k, z.2))) = some r := h
      obtain ⟨z, h1, h2⟩ := ob_eq.1 h'
      exact .inr (.inr ⟨rfl, rfl, z, h1, (Option.some.inj h2).symm⟩)
    | false =>
      rw [hf] at h
      cases ha : actO E o with
      | false =>
        rw [ha] at h
        have h' : (ob (evP E (adM (bE G (selE ((pt.get k).getD 0) p) o) m) G o) fun v => some (v, m, x, p, ([] : List (Nat × SObj)), (none : Option (Nat × SObj)))) = some r := h
        obtain ⟨v, h1, h2⟩ := ob_eq.1 h'
        exact .inl ⟨rfl, rfl, rfl, v, h1, (Option.some.inj h2).symm⟩
      | true =>
        rw [ha] at h
        have h' : (ob (valE E cal o ⟨G, adM (selE ((pt.get k).getD 0) p) m, x⟩) fun r => some (r.1, r.2.1, r.2.2, rstP ((pt.get k).getD 0) p, selE ((pt.get k).getD 0) p, (none : Option (Nat × SObj)))) = some r := h
        obtain ⟨q, h1, h2⟩ := ob_eq.1 h'
        exact .inr (.inl ⟨rfl, rfl, rfl, q, h1, (Option.some.inj h2).symm⟩)
omit [Orig] in
theorem FlOk.all {E : Env} {cal : Cal} {pt : T Nat} {n0 N : Nat} {all : List Oper} {trs : List TR} {fin : S3} (c1 : trs.length = all.length) (c2 : (stAt trs fin 0).2.2.2 = []) (c3 : ∀ i o, all[i]? = some o → ∃ r, trs[i]? = some r ∧ StepOk E cal pt n0 N all i o (stAt trs fin i) (stAt trs fin (i + 1)) r) :
    ∀ k, k ≤ all.length → FlOk pt n0 trs fin k
  | 0, _ => ⟨fun j q h => (by rw [c2] at h; cases h), (by rw [c2]; exact List.nodup_nil), fun i r hi => by omega, fun i r hi => by omega⟩
  | k + 1, hk => by
    have I := FlOk.all c1 c2 c3 k (by omega)
    obtain ⟨r, g1, g2⟩ := c3 k _ (List.getElem?_eq_getElem (by omega))
    have keep : ∀ (q : PD), (stAt trs fin (k + 1)).2.2.2 = q → (∀ y ∈ q, y ∈ (stAt trs fin k).2.2.2) → (q.map fun x => x.2.1).Nodup → (∀ q' ∈ r.A, ∀ y ∈ q, y.2.1 ≠ q'.1) → (∀ q' ∈ r.A, ∃ j, j < k ∧ q'.1 = n0 + j) → FlOk pt n0 trs fin (k + 1) := by
      intro q hq hs hn hA hO
      refine ⟨fun j q' h => ?_, by rw [hq]; exact hn, fun i r' hi hr' q' hq' y hy => ?_, fun i r' hi hr' q' hq' => ?_⟩
      rotate_right
      · rcases Nat.lt_or_ge i k with hlt | hge
        · exact I.old i r' hlt hr' q' hq'
        · obtain rfl : i = k := by omega
          rw [g1] at hr'
          cases hr'
          exact hO q' hq'
      · rw [hq] at h
        obtain ⟨a, b⟩ := I.mem j q' (hs _ h)
        exact ⟨by omega, b⟩
      · rw [hq] at hy
        rcases Nat.lt_or_ge i k with hlt | hge
        · exact I.gone i r' hlt hr' q' hq' y (hs _ hy)
        · obtain rfl : i = k := by omega
          rw [g1] at hr'
          cases hr'
          exact hA q' hq' y hy
    rcases stepD_cases g2.d with ⟨-, h⟩ | ⟨-, -, -, v, -, h⟩ | ⟨-, -, -, v, -, h⟩ | ⟨-, -, z, -, h⟩
    · simp only [Prod.mk.injEq] at h
      obtain ⟨-, -, -, h4, h5, -⟩ := h
      exact keep _ h4 (fun y hy => hy) I.nd (fun q' hq' => by rw [h5] at hq'; cases hq') (fun q' hq' => by rw [h5] at hq'; cases hq')
    · simp only [Prod.mk.injEq] at h
      obtain ⟨-, -, -, h4, h5, -⟩ := h
      exact keep _ h4 (fun y hy => hy) I.nd (fun q' hq' => by rw [h5] at hq'; cases hq') (fun q' hq' => by rw [h5] at hq'; cases hq')
    · simp only [Prod.mk.injEq] at h
      obtain ⟨-, -, -, h4, h5, -⟩ := h
      rw [rstP_ok] at h4
      rw [selE_ok] at h5
      refine keep _ h4 (fun y hy => (List.mem_filter.1 hy).1) ?_ ?_ ?_
      · exact List.Nodup.sublist (List.Sublist.map _ List.filter_sublist) I.nd
      · intro q' hq' y hy e
        rw [h5, List.mem_map] at hq'
        obtain ⟨x, hx, rfl⟩ := hq'
        rw [List.mem_filter] at hx hy
        have h1 := (I.mem x.1 x.2 hx.1).2.1
        have h2 := (I.mem y.1 y.2 hy.1).2.1
        have h3 : x.1 = y.1 := by omega
        have h6 := hx.2
        have h7 := hy.2
        rw [h3] at h6
        rw [h6] at h7
        cases h7
      · intro q' hq'
        rw [h5, List.mem_map] at hq'
        obtain ⟨x, hx, rfl⟩ := hq'
        have := I.mem x.1 x.2 ((List.mem_filter.1 hx).1)
        exact ⟨x.1, this.1, this.2.1⟩
    · simp only [Prod.mk.injEq] at h
      obtain ⟨-, -, -, h4, h5, h6⟩ := h
      refine ⟨fun j q' hm => ?_, ?_, fun i r' hi hr' q' hq' y hy => ?_, fun i r' hi hr' q' hq' => ?_⟩
      · rw [h4] at hm
        rcases List.mem_cons.1 hm with e | hm
        · cases e
          exact ⟨by omega, rfl, r, g1, h6⟩
        · obtain ⟨a, b⟩ := I.mem j q' hm
          exact ⟨by omega, b⟩
      · rw [h4, List.map_cons, List.nodup_cons]
        refine ⟨fun hm => ?_, I.nd⟩
        obtain ⟨y, hy, e⟩ := List.mem_map.1 hm
        have := I.mem y.1 y.2 hy
        have e' : y.2.1 = n0 + k := e
        omega
      · rw [h4] at hy
        rcases Nat.lt_or_ge i k with hlt | hge
        · rcases List.mem_cons.1 hy with rfl | hy
          · intro e
            have e' : n0 + k = q'.1 := e
            have : ∃ j, j < i ∧ q'.1 = n0 + j := I.old i r' hlt hr' q' hq'
            obtain ⟨j, hj1, hj2⟩ := this
            omega
          · exact I.gone i r' hlt hr' q' hq' y hy
        · obtain rfl : i = k := by omega
          rw [g1] at hr'
          cases hr'
          rw [h5] at hq'
          cases hq'
      · rcases Nat.lt_or_ge i k with hlt | hge
        · exact I.old i r' hlt hr' q' hq'
        · obtain rfl : i = k := by omega
          rw [g1] at hr'
          cases hr'
          rw [h5] at hq'
          cases hq'
theorem drawF_ok {P : Program} {E : Env} (hE : EnvOk P E) {cal : Cal} (hcal : CalOk P cal) {N : Nat} {all : List Oper} {ρ : Pl} {s s' : St} {r : Option Nat} {D : List Deferred} {a : Act} {w0 : Base} {w : World} {id : Nat} {Q : Exit → Act → World → Prop} (h : Rel P ρ N s D a w0 w) (e : drawF E cal N all s = some s')
    (hQ : ∀ ρ' a' w', Le ρ ρ' → Rel P ρ' N s' D a' w0 w' → Q .normal a' w') : (Code.region id all.toArray true).wpIn (FW r) 0 P Q a w := by
  obtain ⟨hst, h2⟩ := oi_eq.1 e
  generalize preT all 0 .leaf = pt at hst h2
  obtain ⟨⟨trs, fin⟩, h3, h4⟩ := ob_eq.1 h2
  obtain ⟨hdy', h5⟩ := oi_eq.1 h4
  obtain ⟨hcf, hdy⟩ : allN (chkF E pt all trs) (len all) = true ∧ allL (dynC E pt all trs fin) (needE E pt all (len all)) = true := by simpa using hdy'
  have h5 := Option.some.inj h5
  obtain ⟨c1, c2, c3'⟩ := canE_ok h3
  have c3 : ∀ i o, all[i]? = some o → ∃ r, trs[i]? = some r ∧ StepOk E cal pt s.nx N all i o (stAt trs fin i) (stAt trs fin (i + 1)) r := by
    intro i o ho
    have := c3' i o ho
    rwa [Nat.zero_add] at this
  have hst' : allN (chkA pt all) (len all) = true ∧ allN (chkB E pt all) (len all) = true := by
    unfold statE at hst
    simpa using hst
  obtain ⟨ha, hb⟩ := hst'
  rw [len_ok] at ha hb hdy hcf c2
  have hact : ∀ k o, all[k]? = some o → actAt E all k = actO E o := by
    intro k o ho
    unfold actAt
    rw [nth_ok, ho]
  have lt : ∀ k o, all[k]? = some o → k < all.length := fun k o ho => (List.getElem?_eq_some_iff.1 ho).1
  have hA : ∀ k o, all[k]? = some o → preN pt k = maskE pt o.after.toList ∧ ∀ e ∈ o.after.toList, Region.binds .any e = true → e.on < k := by
    intro k o ho
    have := allN_ok ha k (lt k o ho)
    unfold chkA at this
    rw [nth_ok, ho] at this
    have this' : (and (Nat.beq (preN pt k) (maskE pt o.after.toList)) (o.after.toList.all fun e => or (not (Region.binds .any e)) (Nat.blt e.on k))) = true := this
    rw [Bool.and_eq_true, nbeq_iff, List.all_eq_true] at this'
    refine ⟨this'.1, fun e he hbe => ?_⟩
    have := this'.2 e he
    rw [hbe] at this
    exact blt_true (by simpa using this)
  have hF : ∀ (k : Nat) (r : TR), trs[k]? = some r → (stAt trs fin k) = (r.F, r.m, r.x, r.p) := by
    intro k r hr
    unfold stAt
    rw [hr]
  have hp0 : (stAt trs fin 0).2.2.2 = [] := by rw [c2]
  have flok := FlOk.all c1 hp0 c3
  let V : Nat → SV := fun k => match trs[k]? with | some r => r.v | none => .tup []
  let W : Nat → Bool := fun k => match trs[k]? with | some r => r.w | none => false
  let G : Nat → T SV := fun k => match trs[k]? with | some r => r.G | none => .leaf
  let A : Nat → List (Nat × SObj) := fun k => match trs[k]? with | some r => r.A | none => []
  let Fl : Nat → Option (Nat × SObj) := fun k => match trs[k]? with | some r => r.f | none => none
  have vw : ∀ (k : Nat) (r : TR), trs[k]? = some r → V k = r.v ∧ W k = r.w ∧ G k = r.G ∧ A k = r.A ∧ Fl k = r.f := by
    intro k r hr
    simp only [V, W, G, A, Fl, hr]
    exact ⟨trivial, trivial, trivial, trivial, trivial⟩
  have hat : ∀ (k : Nat) (r : TR), trs[k]? = some r → ∃ o, all[k]? = some o := by
    intro k r hr
    have := (List.getElem?_eq_some_iff.1 hr).1
    exact ⟨_, List.getElem?_eq_getElem (by omega)⟩
  have hAof : ∀ k q, q ∈ A k → ∃ r o, trs[k]? = some r ∧ all[k]? = some o ∧ q ∈ r.A := by
    intro k q hq
    cases ht : trs[k]? with
    | none => simp only [A, ht] at hq; cases hq
    | some r =>
      obtain ⟨o, ho⟩ := hat k r ht
      exact ⟨r, o, rfl, ho, by simpa only [A, ht] using hq⟩
  have hFof : ∀ k q, Fl k = some q → ∃ r o, trs[k]? = some r ∧ all[k]? = some o ∧ r.f = some q := by
    intro k q hq
    cases ht : trs[k]? with
    | none => simp only [Fl, ht] at hq; cases hq
    | some r =>
      obtain ⟨o, ho⟩ := hat k r ht
      exact ⟨r, o, rfl, ho, by simpa only [Fl, ht] using hq⟩
  have hfl : ∀ k b z, Fl k = some (b, z) → b = s.nx + k ∧ k < all.length ∧ ∃ r o, trs[k]? = some r ∧ all[k]? = some o ∧ r.w = true ∧ isFl E o = true ∧ fltE E r.G (s.nx + k) o = some (r.v, z) := by
    intro k b z hk
    obtain ⟨r, o, g1, g2, g3⟩ := hFof k _ hk
    obtain ⟨r', g1', g4⟩ := c3 k o g2
    rw [g1] at g1'
    cases g1'
    rcases stepD_cases g4.d with ⟨-, h⟩ | ⟨-, -, -, v, -, h⟩ | ⟨-, -, -, v, -, h⟩ | ⟨hw, hi, z', hz, h⟩
    all_goals
      simp only [Prod.mk.injEq] at h
      obtain ⟨h1, -, -, -, -, h6⟩ := h
      rw [g3] at h6
    · cases h6
    · cases h6
    · cases h6
    · cases h6
      exact ⟨rfl, lt k o g2, r, o, g1, g2, hw, hi, by rw [h1]; exact hz⟩
  have flact : ∀ o, isFl E o = true → actO E o = false := by
    intro o ho
    unfold isFl at ho
    unfold actO
    split at ho
    · rename_i t ht
      rw [ht]
    · rename_i t n ps ht
      rw [ht]
      simp only [ho]
      rfl
    · rename_i t ht
      rw [ht]
    · rename_i t ht
      rw [ht]
    · cases ho
  have d6 : ∀ k o, all[k]? = some o → actAt E all k = false → (stAt trs fin (k + 1)).2.1 = (stAt trs fin k).2.1 ∧ (stAt trs fin (k + 1)).2.2.1 = (stAt trs fin k).2.2.1 := by
    intro k o ho hk
    obtain ⟨r, g1, g2⟩ := c3 k o ho
    rw [hact k o ho] at hk
    rcases stepD_cases g2.d with ⟨-, h⟩ | ⟨-, -, -, v, -, h⟩ | ⟨-, -, hc, v, -, h⟩ | ⟨-, -, z, -, h⟩
    · simp only [Prod.mk.injEq] at h
      exact ⟨h.2.1, h.2.2.1⟩
    · simp only [Prod.mk.injEq] at h
      exact ⟨h.2.1, h.2.2.1⟩
    · rw [hk] at hc; cases hc
    · simp only [Prod.mk.injEq] at h
      exact ⟨h.2.1, h.2.2.1⟩
  have const : ∀ b a', a' ≤ b → b ≤ all.length → (∀ j, a' ≤ j → j < b → actAt E all j = false) → (stAt trs fin b).2.1 = (stAt trs fin a').2.1 := by
    intro b
    induction b with
    | zero => intro a' h1 _ _; obtain rfl : a' = 0 := by omega
              rfl
    | succ b ih =>
      intro a' h1 hb' hn
      rcases Nat.lt_or_ge b a' with h2 | h2
      · obtain rfl : a' = b + 1 := by omega
        rfl
      · rw [(d6 b _ (List.getElem?_eq_getElem (by omega)) (hn b h2 (by omega))).1]
        exact ih a' h2 (by omega) (fun j x y => hn j x (by omega))
  let Bk : Nat → List (Nat × SObj) := fun k => match trs[k]?, all[k]? with | some r, some o => bE r.G (selE (preN pt k) r.p) o | _, _ => []
  have hBk : ∀ (k : Nat) (r : TR) (o : Oper), trs[k]? = some r → all[k]? = some o → Bk k = bE r.G (selE (preN pt k) r.p) o := by
    intro k r o h1 h2
    simp only [Bk, h1, h2]
  have C : Canon P E cal N all (preN pt) (actAt E all) Fl A Bk (selE (2 ^ (len all) - 1) fin.2.2.2) (fun k => (stAt trs fin k).1) (fun k => (stAt trs fin k).2.1) (fun k => (stAt trs fin k).2.2.1) V W G := by
    have hlast : stAt trs fin all.length = fin := by
      unfold stAt
      rw [List.getElem?_eq_none (by rw [c1]; exact Nat.le_refl _)]
    refine ⟨fun k o ho => (hA k o ho).2, ?_, ?_, ?_, ?_, ?_, ?_, ?_, ?_, ?_, ?_, ?_, ?_, ?_, ?_, ?_, ?_, ?_, ?_, ?_⟩
    · intro k o j ho hj
      rw [(hA k o ho).1] at hj
      exact maskE_ok pt _ j hj
    · intro i j oi' oj hij hoi hoj
      have := allN_ok (allN_ok hb j (lt j oj hoj)) i hij
      rw [Bool.or_eq_true] at this
      rcases this with h1 | h1
      · exact .inl h1
      · rw [nth_ok, nth_ok, hoi, hoj] at h1
        have h1' : (and (oi'.apart all.toArray oj) (not (and (actO E oi') (actO E oj)))) = true := h1
        rw [Bool.and_eq_true] at h1'
        refine .inr ⟨h1'.1, ?_⟩
        rw [hact i oi' hoi, hact j oj hoj]
        intro hh
        rw [hh.1, hh.2] at h1'
        exact absurd h1'.2 (by simp)
    · intro k o ho
      obtain ⟨r, g1, g2⟩ := c3 k o ho
      rw [(vw k r g1).1]
      exact g2.put
    · intro k o d x ho hx
      obtain ⟨r, g1, g2⟩ := c3 k o ho
      rw [(vw k r g1).2.2.1, g2.G] at hx
      exact rstE_ok _ _ _ _ hx
    · intro k o ho
      obtain ⟨r, g1, g2⟩ := c3 k o ho
      rw [(vw k r g1).2.2.1, (vw k r g1).2.1]
      exact g2.w
    · intro k o ho hw
      obtain ⟨r, g1, g2⟩ := c3 k o ho
      rw [(vw k r g1).2.1] at hw
      rw [(vw k r g1).1]
      rcases stepD_cases g2.d with ⟨-, h⟩ | ⟨hb', -⟩ | ⟨hb', -⟩ | ⟨hb', -⟩
      · simp only [Prod.mk.injEq] at h
        exact ⟨h.1, h.2.1, h.2.2.1⟩
      all_goals rw [hw] at hb'; cases hb'
    · intro k o ho hw hk
      obtain ⟨r, g1, g2⟩ := c3 k o ho
      rw [(vw k r g1).2.1] at hw
      rw [(vw k r g1).1, (vw k r g1).2.2.1, (vw k r g1).2.2.2.1]
      rw [hact k o ho] at hk
      rcases stepD_cases g2.d with ⟨hc, -⟩ | ⟨-, -, hc, -⟩ | ⟨-, -, hc, q, hq, h⟩ | ⟨-, hc, -⟩
      · rw [hw] at hc; cases hc
      · rw [hk] at hc; cases hc
      · simp only [Prod.mk.injEq] at h
        obtain ⟨h1, h2, h3, -, h5, -⟩ := h
        show valE E cal o ⟨r.G, adM r.A (stAt trs fin k).2.1, (stAt trs fin k).2.2.1⟩ = some (r.v, (stAt trs fin (k + 1)).2.1, (stAt trs fin (k + 1)).2.2.1)
        rw [h5, hq, h1, h2, h3]
      · rw [flact o hc] at hk; cases hk
    · intro k o ho hk
      exact d6 k o ho hk
    · intro k o c ho hw hk hc hn hp1 hp2 hFk
      obtain ⟨r, g1, g2⟩ := c3 k o ho
      rw [(vw k r g1).2.1] at hw
      rw [(vw k r g1).2.2.2.2] at hFk
      rw [(vw k r g1).1, (vw k r g1).2.2.1]
      have hk' := hk
      rw [hact k o ho] at hk'
      have hp' : (stAt trs fin k).2.2.2 = r.p := by rw [hF k r g1]
      rw [hBk k r o g1 ho]
      have hev : isFl E o = false ∧ evP E (adM (bE r.G (selE (preN pt k) r.p) o) (stAt trs fin k).2.1) r.G o = some r.v := by
        rcases stepD_cases g2.d with ⟨hc, -⟩ | ⟨-, hi, -, v, hv, h⟩ | ⟨-, -, hc, -⟩ | ⟨-, -, z, -, h⟩
        · rw [hw] at hc; cases hc
        · simp only [Prod.mk.injEq] at h
          rw [h.1]
          rw [hp'] at hv
          exact ⟨hi, hv⟩
        · rw [hk'] at hc; cases hc
        · simp only [Prod.mk.injEq] at h
          have := h.2.2.2.2.2
          rw [hFk] at this; cases this
      by_cases hcan : c ≤ k ∧ ∀ j, c ≤ j → j < k → actAt E all j = false
      · have := const k c hcan.1 (by have := lt k o ho; omega) hcan.2
        show evP E (adM (bE r.G (selE (preN pt k) r.p) o) (stAt trs fin c).2.1) r.G o = some r.v
        rw [← this]
        exact hev.2
      · have hcomp : compB E pt all k c = true := by
          unfold compB
          rw [Bool.and_eq_true, Bool.and_eq_true, len_ok]
          refine ⟨?_, ?_, ?_⟩
          · rw [Bool.or_eq_true, nbeq_iff]
            exact hn
          · have : ∀ n, n ≤ all.length → allN (fun j => or (not (actAt E all j)) (Bool.rec (motive := fun _ => Bool) (not ((preN pt k).testBit j)) (not ((preN pt j).testBit k)) (Nat.blt j c))) n = true := by
              intro n
              induction n with
              | zero => intro _; rfl
              | succ n ih =>
                intro hn'
                have hp : (or (not (actAt E all n)) (Bool.rec (motive := fun _ => Bool) (not ((preN pt k).testBit n)) (not ((preN pt n).testBit k)) (Nat.blt n c))) = true := by
                  cases hAct : actAt E all n with
                  | false => rfl
                  | true =>
                    cases hbl : Nat.blt n c with
                    | true =>
                      have := hp1 n (by omega) hAct (blt_true hbl)
                      rw [this]; rfl
                    | false =>
                      have := hp2 n (by omega) hAct (blt_false hbl)
                      rw [this]; rfl
                show Bool.rec (motive := fun _ => Bool) false (allN _ n) (or (not (actAt E all n)) (Bool.rec (motive := fun _ => Bool) (not ((preN pt k).testBit n)) (not ((preN pt n).testBit k)) (Nat.blt n c))) = true
                rw [hp]
                exact ih (by omega)
            exact this _ (Nat.le_refl _)
          · rw [Bool.not_eq_true']
            cases hq : (and (Nat.ble c k) (allN (fun j => or (not (Nat.ble c j)) (not (actAt E all j))) k)) with
            | false => rfl
            | true =>
              exfalso
              have hq' : Nat.ble c k = true ∧ allN (fun j => or (not (Nat.ble c j)) (not (actAt E all j))) k = true := by simpa using hq
              obtain ⟨q1, q2⟩ := hq'
              refine hcan ⟨nble_iff.1 q1, fun j x y => ?_⟩
              have := allN_ok q2 j y
              rw [nble_iff.2 x] at this
              simpa using this
        have hmem := needE_ok (E := E) (pt := pt) k c (lt k o ho) hk hc hcomp
        have hchk := allL_ok hdy _ hmem
        unfold dynC at hchk
        simp only at hchk
        rw [nth_ok, nth_ok, ho, g1] at hchk
        have hchk' : (or (or (not r.w) (isFl E o)) (Option.rec (motive := fun _ => Bool) false (fun v => svEq v r.v) (evP E (adM (bE r.G (selE (preN pt k) r.p) o) (stAt trs fin c).2.1) r.G o))) = true := hchk
        rw [hw, hev.1] at hchk'
        show evP E (adM (bE r.G (selE (preN pt k) r.p) o) (stAt trs fin c).2.1) r.G o = some r.v
        cases hv : evP E (adM (bE r.G (selE (preN pt k) r.p) o) (stAt trs fin c).2.1) r.G o with
        | none => rw [hv] at hchk'; cases hchk'
        | some v' =>
          rw [hv] at hchk'
          have : svEq v' r.v = true := by simpa using hchk'
          rw [svEq_ok this]
    · intro k o b z ho hk
      obtain ⟨rfl, -, r, o', g1, g2, g4, g5, g6⟩ := hfl k b z hk
      rw [ho] at g2
      cases g2
      rw [(vw k r g1).1, (vw k r g1).2.1, (vw k r g1).2.2.1, hact k o ho]
      exact ⟨flact o g5, g4, fltE_ok hE g6⟩
    · intro k k' b z z' h1 h2
      have := (hfl k b z h1).1
      have := (hfl k' b z' h2).1
      omega
    · intro k q hk
      exact (hfl k q.1 q.2 hk).2.1
    · intro i q hq
      obtain ⟨r, o, g1, g2, g3⟩ := hAof i q hq
      obtain ⟨r', g1', g4⟩ := c3 i o g2
      rw [g1] at g1'
      cases g1'
      rw [hact i o g2, (vw i r g1).2.1]
      rcases stepD_cases g4.d with ⟨-, h⟩ | ⟨-, -, -, v, -, h⟩ | ⟨hw, -, hc, v, -, h⟩ | ⟨-, -, z, -, h⟩
      all_goals
        simp only [Prod.mk.injEq] at h
        obtain ⟨-, -, -, -, h5', -⟩ := h
        rw [h5'] at g3
      · cases g3
      · cases g3
      · rw [selE_ok, List.mem_map] at g3
        obtain ⟨x, hx, rfl⟩ := g3
        rw [List.mem_filter] at hx
        obtain ⟨-, -, r2, j1, j2⟩ := (flok i (by have := lt i o g2; omega)).mem x.1 x.2 hx.1
        exact ⟨hc, hw, x.1, by rw [(vw x.1 r2 j1).2.2.2.2]; exact j2, hx.2⟩
      · cases g3
    · have key : ∀ i i' q, i < i' → q ∈ A i → q ∈ A i' → False := by
        intro i i' q hlt h1 h2
        obtain ⟨r, o, g1, g2, g3⟩ := hAof i q h1
        obtain ⟨r2, o2, j1, j2, j3⟩ := hAof i' q h2
        obtain ⟨r', g1', g4⟩ := c3 i' o2 j2
        rw [j1] at g1'
        cases g1'
        have I := flok i' (by have := lt i' o2 j2; omega)
        rcases stepD_cases g4.d with ⟨-, h⟩ | ⟨-, -, -, v, -, h⟩ | ⟨-, -, -, v, -, h⟩ | ⟨-, -, z, -, h⟩
        all_goals
          simp only [Prod.mk.injEq] at h
          obtain ⟨-, -, -, -, h5', -⟩ := h
          rw [h5'] at j3
        · cases j3
        · cases j3
        · rw [selE_ok, List.mem_map] at j3
          obtain ⟨x, hx, rfl⟩ := j3
          exact I.gone i r hlt g1 _ g3 x ((List.mem_filter.1 hx).1) rfl
        · cases j3
      intro i i' q h1 h2
      rcases Nat.lt_trichotomy i i' with h | h | h
      · exact (key i i' q h h1 h2).elim
      · exact h
      · exact (key i' i q h h2 h1).elim
    · intro i
      cases ht : trs[i]? with
      | none => simp only [A, ht]; exact List.nodup_nil
      | some r =>
        simp only [A, ht]
        obtain ⟨o, ho⟩ := hat i r ht
        obtain ⟨r', g1', g4⟩ := c3 i o ho
        rw [ht] at g1'
        cases g1'
        rcases stepD_cases g4.d with ⟨-, h⟩ | ⟨-, -, -, v, -, h⟩ | ⟨-, -, -, v, -, h⟩ | ⟨-, -, z, -, h⟩
        all_goals
          simp only [Prod.mk.injEq] at h
          obtain ⟨-, -, -, -, h5', -⟩ := h
          rw [h5']
        · exact List.nodup_nil
        · exact List.nodup_nil
        · rw [selE_ok, List.map_map]
          exact List.Nodup.sublist (List.Sublist.map _ List.filter_sublist) (flok i (by have := lt i o ho; omega)).nd
        · exact List.nodup_nil
    · intro k o q ho hw hk hFk hq
      obtain ⟨r, g1, g2⟩ := c3 k o ho
      have hp' : (stAt trs fin k).2.2.2 = r.p := by rw [hF k r g1]
      rw [hBk k r o g1 ho] at hq
      have hq' : q ∈ selE (preN pt k) r.p := (bE_sub _ _ _).subset hq
      rw [selE_ok, List.mem_map] at hq'
      obtain ⟨x, hx, rfl⟩ := hq'
      rw [List.mem_filter] at hx
      have hxm : (x.1, x.2) ∈ (stAt trs fin k).2.2.2 := by rw [hp']; exact hx.1
      have hkl := lt k o ho
      obtain ⟨-, n1, r2, j1, j2⟩ := (flok k (by omega)).mem x.1 x.2 hxm
      refine ⟨⟨x.1, by rw [(vw x.1 r2 j1).2.2.2.2]; exact j2, hx.2⟩, fun i hil hi => ?_⟩
      rw [(vw k r g1).2.1] at hw
      rw [hact k o ho] at hk
      have hnf : isFl E o = false := by
        rcases stepD_cases g2.d with ⟨hc, -⟩ | ⟨-, hi', -⟩ | ⟨-, hi', -⟩ | ⟨-, -, z, -, h⟩
        · rw [hw] at hc; cases hc
        · exact hi'
        · exact hi'
        · simp only [Prod.mk.injEq] at h
          have := h.2.2.2.2.2
          rw [(vw k r g1).2.2.2.2] at hFk
          rw [hFk] at this; cases this
      have hck := allN_ok hcf k hkl
      unfold chkF at hck
      rw [nth_ok, nth_ok, ho, g1] at hck
      have hck' : (or (or (not r.w) (or (isFl E o) (actO E o))) (allL (fun x => allN (takB pt trs k x.1) (len all)) (bE r.G (selE (preN pt k) r.p) o))) = true := hck
      rw [hw, hnf, hk] at hck'
      have hal : allL (fun x => allN (takB pt trs k x.1) (len all)) (bE r.G (selE (preN pt k) r.p) o) = true := by simpa using hck'
      have hti := allN_ok (allL_ok hal _ hq) i (by rw [len_ok]; exact hil)
      obtain ⟨r3, o3, k1, k2, k3⟩ := hAof i _ hi
      unfold takB at hti
      rw [nth_ok, k1] at hti
      have hti' : or (not (memX x.2.1 r3.A)) ((preN pt i).testBit k) = true := hti
      rw [memX_in k3] at hti'
      simpa using hti'
    · intro k
      cases ht : trs[k]? with
      | none =>
        have : Bk k = [] := by simp only [Bk, ht]
        rw [this]
        exact List.nodup_nil
      | some r =>
        obtain ⟨o, ho⟩ := hat k r ht
        rw [hBk k r o ht ho]
        refine List.Nodup.sublist (List.Sublist.map _ (bE_sub _ _ _)) ?_
        rw [selE_ok, List.map_map]
        have hnd := (flok k (by have := lt k o ho; omega)).nd
        have hp' : (stAt trs fin k).2.2.2 = r.p := by rw [hF k r ht]
        rw [hp'] at hnd
        exact List.Nodup.sublist (List.Sublist.map _ List.filter_sublist) hnd
    · intro q hq
      rw [selE_ok, List.mem_map] at hq
      obtain ⟨x, hx, rfl⟩ := hq
      have I := flok all.length (Nat.le_refl _)
      have hx' : (x.1, x.2) ∈ (stAt trs fin all.length).2.2.2 := by rw [hlast]; exact (List.mem_filter.1 hx).1
      obtain ⟨-, -, r2, j1, j2⟩ := I.mem x.1 x.2 hx'
      refine ⟨⟨x.1, by rw [(vw x.1 r2 j1).2.2.2.2]; exact j2⟩, fun i hi => ?_⟩
      obtain ⟨r, o, g1, g2, g3⟩ := hAof i _ hi
      exact I.gone i r (lt i o g2) g1 _ g3 x hx' rfl
    · rw [selE_ok, List.map_map]
      have I := flok all.length (Nat.le_refl _)
      have hnd := I.nd
      rw [hlast] at hnd
      exact List.Nodup.sublist (List.Sublist.map _ List.filter_sublist) hnd
  have hz : stAt trs fin 0 = (s.F, s.m, s.nx + all.length, []) := c2
  have hlast : stAt trs fin all.length = fin := by
    unfold stAt
    rw [List.getElem?_eq_none (by rw [c1]; exact Nat.le_refl _)]
  refine C.wp hE hcal (ρ := ρ) (w0 := w0) (D := D) (by rw [hz]; exact ⟨h.F, h.m.bump (Nat.le_add_right _ _), h.d⟩) ?_ fun ρ' a' w' k1 k2 => hQ ρ' a' w' k1 ?_
  · intro k b z hk
    obtain ⟨rfl, hlt, -⟩ := hfl k b z hk
    rw [hz]
    exact ⟨(h.m.fresh _ (by omega)).1, by show s.nx + k < s.nx + all.length; omega, fun hr => by have := (h.m.hole _ hr).1; omega⟩
  · rw [hlast] at k2
    rw [← h5]
    exact k2
/-- is a function called? -/
noncomputable def hasC (l : List Oper) : Bool := List.rec (motive := fun _ => Bool) false (fun o _ ih => or (match o.op with
  | .call c => match c.callee with
    | .builtin _ => false
    | _ => true
  | _ => false) ih) l
noncomputable def envB (E : Env) (all : List Oper) : Env := ⟨E.ty, E.fn, E.eq, hasC all, true⟩
noncomputable def drawE (E : Env) (cal : Cal) (N : Nat) (all : List Oper) (s : St) : Option St := drawF (envB E all) cal N all s
theorem drawE_ok {P : Program} {E : Env} (hE : EnvOk P E) {cal : Cal} (hcal : CalOk P cal) {N : Nat} {all : List Oper} {ρ : Pl} {s s' : St} {r : Option Nat} {D : List Deferred} {a : Act} {w0 : Base} {w : World} {id : Nat} {Q : Exit → Act → World → Prop} (h : Rel P ρ N s D a w0 w) (e : drawE E cal N all s = some s')
    (hQ : ∀ ρ' a' w', Le ρ ρ' → Rel P ρ' N s' D a' w0 w' → Q .normal a' w') : (Code.region id all.toArray true).wpIn (FW r) 0 P Q a w :=
  drawF_ok (E := envB E all) ⟨hE.ty, hE.fn, hE.mixed, hE.eq⟩ hcal h e hQ
end Go.Proofs.YtodehmognjofhaaGreat

namespace Go.Proofs.YtodehmognjofhaaGreat
open Go.RowKit

inductive Out (α : Type) where
  | one (a : α)
  | two (x y : Out α)
def Out.Mem {α : Type} (a : α) : Out α → Prop
  | .one b => a = b
  | .two x y => Out.Mem a x ∨ Out.Mem a y
noncomputable def bindO {α β : Type} (o : Out α) (f : α → Option (Out β)) : Option (Out β) := Out.rec (motive := fun _ => Option (Out β)) (fun a => f a) (fun _ _ ih1 ih2 => ob ih1 fun x => ob ih2 fun y => some (.two x y)) o
theorem bindO_mem {α β : Type} {f : α → Option (Out β)} {a : α} : ∀ {o : Out α} {r : Out β}, bindO o f = some r → o.Mem a → ∃ r2, f a = some r2 ∧ ∀ b, r2.Mem b → r.Mem b
  | .one b, r, h, e => by
    obtain rfl : a = b := e
    exact ⟨r, h, fun b hb => hb⟩
  | .two x y, r, h, e => by
    have h' : (ob (bindO x f) fun x => ob (bindO y f) fun y => some (Out.two x y)) = some r := h
    obtain ⟨x1, h1, h2⟩ := ob_eq.1 h'
    obtain ⟨y1, h3, h4⟩ := ob_eq.1 h2
    cases h4
    rcases e with e | e
    · obtain ⟨r2, k1, k2⟩ := bindO_mem h1 e
      exact ⟨r2, k1, fun b hb => .inl (k2 b hb)⟩
    · obtain ⟨r2, k1, k2⟩ := bindO_mem h3 e
      exact ⟨r2, k1, fun b hb => .inr (k2 b hb)⟩
noncomputable def outR {α β : Type} (f : α → Option β) (qs : List α) : α → Option (Out β) := List.rec (motive := fun _ => α → Option (Out β)) (fun q => ob (f q) fun x => some (.one x)) (fun q' _ ih q => ob (f q) fun x => ob (ih q') fun y => some (.two (.one x) y)) qs
theorem outR_mem {α β : Type} {f : α → Option β} : ∀ {qs : List α} {q : α} {r : Out β}, outR f qs q = some r → ∀ a ∈ q :: qs, ∃ b, f a = some b ∧ r.Mem b
  | [], q, r, h, a, ha => by
    have h' : (ob (f q) fun x => some (Out.one x)) = some r := h
    obtain ⟨x, h1, h2⟩ := ob_eq.1 h'
    cases h2
    obtain rfl : a = q := by simpa using ha
    exact ⟨x, h1, rfl⟩
  | q' :: qs, q, r, h, a, ha => by
    have h' : (ob (f q) fun x => ob (outR f qs q') fun y => some (Out.two (.one x) y)) = some r := h
    obtain ⟨x, h1, h2⟩ := ob_eq.1 h'
    obtain ⟨y, h3, h4⟩ := ob_eq.1 h2
    cases h4
    rcases List.mem_cons.1 ha with rfl | ha
    · exact ⟨x, h1, .inl rfl⟩
    · obtain ⟨b, k1, k2⟩ := outR_mem h3 a ha
      exact ⟨b, k1, .inr k2⟩
noncomputable def outL {α β : Type} (f : α → Option β) (l : List α) : Option (Out β) := match l with
  | [] => none
  | q :: qs => outR f qs q
theorem outL_mem {α β : Type} {f : α → Option β} {l : List α} {r : Out β} (h : outL f l = some r) : ∀ a ∈ l, ∃ b, f a = some b ∧ r.Mem b := by
  cases l with
  | nil => cases h
  | cons q qs => exact outR_mem h

/-- a slice of no elements, at the end of one whose capacity is not known: one of two. -/
noncomputable def slzE (E : Env) (t : TypeId) (v : SV) (lo hi mx : Option SV) : Option (List SV) := ob (und E t) fun d => match d, v with
  | .slice e, .slu b o n k => ob (bndE n n lo hi mx) fun x => ob (szE E e) fun s => match mx with
    | some _ => none
    | none => oi (Nat.beq x.1 x.2.1) (some [.slc b o 0 0, .slu b (Nat.add o (Nat.mul x.1 s)) 0 (Nat.add k x.1)])
  | _, _ => none
/-- an operation that goes several ways. -/
noncomputable def branE (E : Env) (N : Nat) (all : List Oper) (o : Oper) (s : St) : Option (Out St) := match o.op with
  | .slice t x lo hi mx => ob (wantE all s.F o.guard) fun b => oi b (ob (ev s.F x) fun v => ob (evO s.F lo) fun l => ob (evO s.F hi) fun h => ob (evO s.F mx) fun q => ob (slzE E t v l h q) fun rs => outL (fun r => ob (fput N s.F o.dst r) fun F' => some ⟨F', s.m, s.nx⟩) rs)
  | .next x false => ob (wantE all s.F o.guard) fun b => oi b (ob (ev s.F x) fun v => ob (nlE s.m v) fun l => outL (fun r => ob (fput N s.F o.dst r.1) fun F' => some ⟨F', r.2, s.nx⟩) l)
  | _ => none
noncomputable def opsO (E : Env) (cal : Cal) (N : Nat) (all l : List Oper) : St → Option (Out St) := List.rec (motive := fun _ => St → Option (Out St)) (fun s => some (.one s)) (fun o _ ih s => Option.rec (motive := fun _ => Option (Out St)) (ob (branE E N all o s) fun out => bindO out ih) (fun s' => ih s') (stepE E cal N all o s)) l
variable [Orig]
section
variable {P : Program} {r : Option Nat}
omit [Orig] in
theorem slzE_ok {E : Env} (hE : EnvOk P E) {ρ : Pl} {t : TypeId} {v : SV} {rs : List SV} {u0 : Value} {lo hi mx : Option SV} {lo' hi' mx' : Option Value} (e : slzE E t v lo hi mx = some rs) (h : den ρ v = some u0)
    (h1 : denO ρ lo lo') (h2 : denO ρ hi hi') (h3 : denO ρ mx mx') (w : World) :
    ∃ r ∈ rs, ∃ u, (Instr.sliceAt t u0 lo' hi' mx').run P w = .ok u w ∧ den ρ r = some u := by
  obtain ⟨d, e1, e2⟩ := ob_eq.1 e
  have hu := und_ok hE e1
  split at e2
  · rename_i el b o n k
    obtain ⟨⟨l, hh, m⟩, e3, e4⟩ := ob_eq.1 e2
    obtain ⟨s, e5, e6⟩ := ob_eq.1 e4
    obtain ⟨x, a1, a2, rfl⟩ := den_slu h
    obtain ⟨b1, b2, b3, b4, b5, b6, b7⟩ := bndE_ok (P := P) e3 h1 h2 h3 (show n ≤ x.2 - k by omega) true w
    have hmx : mx'.isSome = mx.isSome := by cases mx <;> cases mx' <;> first | rfl | exact h3.elim
    cases mx with
    | some q => cases e6
    | none =>
      obtain ⟨c1, e7⟩ := oi_eq.1 e6
      cases e7
      simp only [nbeq_iff] at c1
      subst c1
      obtain rfl := b7 rfl
      have hh2 : l ≤ m := by
        cases hi with
        | none => have := b5 rfl; omega
        | some _ => exact b4 rfl
      rw [if_neg (by simp)] at b1
      by_cases hm : x.2 - k = l
      · refine ⟨.slc b o 0 0, by simp, _, ?_, den_slc_mk a1 _ _ _⟩
        simp only [Instr.sliceAt, Instr.slice, Sem.run_bind, run_underlying hu w, Result.andThen_ok, Sem.run_pure, b1, (szE_ok hE e5 w).1]
        rw [slicedAddr, if_pos hm, Nat.sub_self, hm, Nat.sub_self]
      · refine ⟨.slu b (Nat.add o (Nat.mul l s)) 0 (Nat.add k l), by simp, _, ?_, den_slu_mk a1 (show 0 + (k + l) ≤ x.2 by omega) _⟩
        simp only [Instr.sliceAt, Instr.slice, Sem.run_bind, run_underlying hu w, Result.andThen_ok, Sem.run_pure, b1, (szE_ok hE e5 w).1]
        rw [slicedAddr, if_neg hm, Nat.sub_self, show x.2 - k - l = x.2 - (k + l) by omega]
        rfl
  · cases e2
theorem branE_ok {E : Env} (hE : EnvOk P E) {ρ : Pl} {N : Nat} {all : List Oper} {s : St} {D : List Deferred} {a : Act} {w0 : Base} {w : World} (h : Rel P ρ N s D a w0 w) {o : Oper} {out : Out St} (e : branE E N all o s = some out) {K : Act → World → Prop} {Q : Exit → Act → World → Prop}
    (hK : ∀ s', out.Mem s' → ∀ a' w', Rel P ρ N s' D a' w0 w' → K a' w') : if Region.wanted o (yielded all.toArray a.tmps) = true then o.wpIn (FW r) 0 P a w K Q else (∀ f, o.about P w a.eval = some f → (FW r).fn f) ∧ K (a.put o.dst undef) w := by
  unfold branE at e
  split at e
  case h_3 => cases e
  case h_1 =>
    rename_i t x lo hi mx hop
    obtain ⟨b, h1, h2⟩ := ob_eq.1 e
    obtain ⟨rfl, h3⟩ := oi_eq.1 h2
    obtain ⟨v, h4, h5⟩ := ob_eq.1 h3
    obtain ⟨l, h6, h7⟩ := ob_eq.1 h5
    obtain ⟨hv, h8, h9⟩ := ob_eq.1 h7
    obtain ⟨q, h10, h11⟩ := ob_eq.1 h9
    obtain ⟨rs, h12, h13⟩ := ob_eq.1 h11
    rw [wantE_ok h.F h1, if_pos rfl]
    refine ⟨fun _ _ => trivial, ?_⟩
    rw [Oper.semAt_eq _ _ _ (fun c' h' => by rw [hop] at h'; cases h')]
    obtain ⟨r', k1, u, k2, k3⟩ := slzE_ok (P := P) hE h12 (ev_den h.F h4) (evO_den h.F h6) (evO_den h.F h8) (evO_den h.F h10) w
    obtain ⟨s', k5, k6⟩ := outL_mem h13 r' k1
    obtain ⟨F', k7, k8⟩ := ob_eq.1 k5
    cases k8
    have hrun : (execOp a.eval o).run P w = .ok (.value u) w := by
      have : execOp a.eval o = (do pure (Next.value (← Instr.sliceAt t (a.eval x) (lo.map a.eval) (hi.map a.eval) (mx.map a.eval))) : Sem Next) := by
        unfold execOp
        rw [hop]
      rw [this]
      exact run_val k2
    rw [hrun]
    exact hK _ k6 _ w ⟨h.F.put k7 k3, h.m, by rw [put_defers]; exact h.d⟩
  rename_i x hop
  obtain ⟨b, h1, h2⟩ := ob_eq.1 e
  obtain ⟨rfl, h3⟩ := oi_eq.1 h2
  obtain ⟨v, h4, h5⟩ := ob_eq.1 h3
  obtain ⟨l, h6, h7⟩ := ob_eq.1 h5
  rw [wantE_ok h.F h1, if_pos rfl]
  refine ⟨fun _ _ => trivial, ?_⟩
  rw [Oper.semAt_eq _ _ _ (fun c' h' => by rw [hop] at h'; cases h')]
  obtain ⟨q, k1, u, w', k2, k3, k4⟩ := nlE_ok (P := P) (ty := o.type) h.m h6 (ev_den h.F h4)
  obtain ⟨s', k5, k6⟩ := outL_mem h7 q k1
  obtain ⟨F', k7, k8⟩ := ob_eq.1 k5
  cases k8
  have hrun : (execOp a.eval o).run P w = .ok (.value u) w' := by
    have : execOp a.eval o = (do pure (Next.value (← Instr.next (a.eval x) false o.type)) : Sem Next) := by
      unfold execOp
      rw [hop]
    rw [this]
    exact run_val k2
  rw [hrun]
  exact hK _ k6 _ w' ⟨h.F.put k7 k3, k4, by rw [put_defers]; exact h.d⟩
theorem opsO_then {E : Env} (hE : EnvOk P E) {cal : Cal} (hcal : CalOk P cal) {N : Nat} {all tl : List Oper} {w0 : Base} {Q : Exit → Act → World → Prop} : ∀ {l : List Oper} {ρ : Pl} {s : St} {out : Out St} {D : List Deferred} {a : Act} {w : World}, Rel P ρ N s D a w0 w → opsO E cal N all l s = some out →
    (∀ s', out.Mem s' → ∀ ρ' a' w', Le ρ ρ' → Rel P ρ' N s' D a' w0 w' → wpListIn (FW r) 0 P all.toArray Q tl a' w') → wpListIn (FW r) 0 P all.toArray Q (l ++ tl) a w
  | [], ρ, s, out, D, a, w, h, e, hQ => by cases e; exact hQ s rfl ρ a w (Le.refl ρ) h
  | o :: l, ρ, s, out, D, a, w, h, e, hQ => by
    have e' : Option.rec (motive := fun _ => Option (Out St)) (ob (branE E N all o s) fun out => bindO out (opsO E cal N all l)) (fun s' => opsO E cal N all l s') (stepE E cal N all o s) = some out := e
    cases h1 : stepE E cal N all o s with
    | some s1 =>
      rw [h1] at e'
      refine wpListIn_step fun K hK => stepE_ok hE hcal h h1 fun ρ' a' w' k1 k2 => hK a' w' ?_
      exact opsO_then hE hcal k2 e' fun s2 j0 ρ2 a2 w2 j1 j2 => hQ s2 j0 ρ2 a2 w2 (k1.trans j1) j2
    | none =>
      rw [h1] at e'
      have e2 : (ob (branE E N all o s) fun out => bindO out (opsO E cal N all l)) = some out := e'
      obtain ⟨o1, h2, h3⟩ := ob_eq.1 e2
      refine wpListIn_step fun K hK => branE_ok hE h h2 fun s1 hs1 a' w' k2 => hK a' w' ?_
      obtain ⟨o2, g1, g2⟩ := bindO_mem h3 hs1
      exact opsO_then hE hcal k2 g1 fun s2 j0 ρ2 a2 w2 j1 j2 => hQ s2 (g2 s2 j0) ρ2 a2 w2 j1 j2
theorem opsO_ok {E : Env} (hE : EnvOk P E) {cal : Cal} (hcal : CalOk P cal) {N : Nat} {all : List Oper} {w0 : Base} {Q : Exit → Act → World → Prop} {l : List Oper} {ρ : Pl} {s : St} {out : Out St} {D : List Deferred} {a : Act} {w : World} (h : Rel P ρ N s D a w0 w) (e : opsO E cal N all l s = some out)
    (hQ : ∀ s', out.Mem s' → ∀ ρ' a' w', Le ρ ρ' → Rel P ρ' N s' D a' w0 w' → Q .normal a' w') : wpListIn (FW r) 0 P all.toArray Q l a w := by
  have := opsO_then (r := r) (tl := []) hE hcal h e fun s' h0 ρ' a' w' h1 h2 => wpListIn_nil (hQ s' h0 ρ' a' w' h1 h2)
  simpa using this
end
/-! what several ways have in common -/
noncomputable def enEq : List SE → List SE → Bool := fun l => List.rec (motive := fun _ => List SE → Bool) (fun m => match m with | [] => true | _ => false) (fun x _ ih m => match m with
  | y :: m => and (Nat.beq x.born y.born) (and (svEq x.key y.key) (and (svEq x.val y.val) (ih m)))
  | [] => false) l
omit [Orig] in
theorem enEq_ok : ∀ {l m : List SE}, enEq l m = true → l = m
  | [], [], _ => rfl
  | [], _ :: _, h => by cases h
  | _ :: _, [], h => by cases h
  | x :: l, y :: m, h => by
    have h' : (and (Nat.beq x.born y.born) (and (svEq x.key y.key) (and (svEq x.val y.val) (enEq l m)))) = true := h
    simp only [Bool.and_eq_true, nbeq_iff] at h'
    obtain ⟨h1, h2, h3, h4⟩ := h'
    rw [enEq_ok h4]
    have := svEq_ok h2
    have := svEq_ok h3
    cases x; cases y
    simp_all
noncomputable def obEq (x y : SObj) : Bool := match x with
  | .cells cs e o => match y with
    | .cells cs' e' o' => and (Nat.beq e e') (and (o == o') (svEqL cs cs'))
    | _ => false
  | .map es c => match y with
    | .map es' c' => and (Nat.beq c c') (enEq es es')
    | _ => false
  | .defr b => match y with
    | .defr b' => b == b'
    | _ => false
  | _ => false
omit [Orig] in
theorem obEq_ok {x y : SObj} (h : obEq x y = true) : x = y := by
  unfold obEq at h
  split at h
  · split at h
    · simp only [Bool.and_eq_true, nbeq_iff, beq_iff_eq] at h
      obtain ⟨h1, h2, h3⟩ := h
      rw [h1, h2, svEqL_ok h3]
    · cases h
  · split at h
    · simp only [Bool.and_eq_true, nbeq_iff] at h
      rw [h.1, enEq_ok h.2]
    · cases h
  · split at h
    · rw [eq_of_beq h]
    · cases h
  · cases h
noncomputable def meetV (x y : Option SObj) : Option SObj := Option.rec (motive := fun _ => Option SObj) none (fun a => Option.rec (motive := fun _ => Option SObj) none (fun b => Bool.rec (motive := fun _ => Option SObj) none (some a) (obEq a b)) y) x
omit [Orig] in
theorem meetV_ok {x y : Option SObj} {o : SObj} (h : meetV x y = some o) : x = some o ∧ y = some o := by
  cases x with
  | none => cases h
  | some a =>
    cases y with
    | none => cases h
    | some b =>
      have h' : Bool.rec (motive := fun _ => Option SObj) none (some a) (obEq a b) = some o := h
      cases hb : obEq a b with
      | false => rw [hb] at h'; cases h'
      | true =>
        rw [hb] at h'
        cases h'
        rw [obEq_ok hb]
        exact ⟨rfl, rfl⟩
noncomputable def meetT (t : T SObj) : T SObj → T SObj := T.rec (motive := fun _ => T SObj → T SObj) (fun _ => .leaf) (fun v _ _ il ir u => match u with
  | .leaf => .leaf
  | .node v' l' r' => .node (meetV v v') (il l') (ir r')) t
omit [Orig] in
theorem meetT_ok : ∀ {t u : T SObj} {k : Nat} {o : SObj}, (meetT t u).get k = some o → t.get k = some o ∧ u.get k = some o := by
  intro t
  induction t with
  | leaf => intro u k o h; rw [show meetT .leaf u = .leaf from rfl, T.get_leaf] at h; cases h
  | node v l r il ir =>
    intro u k o h
    cases u with
    | leaf => rw [show meetT (.node v l r) .leaf = .leaf from rfl, T.get_leaf] at h; cases h
    | node v' l' r' =>
      rw [show meetT (.node v l r) (.node v' l' r') = .node (meetV v v') (meetT l l') (meetT r r') from rfl, T.get_node] at h
      rw [T.get_node, T.get_node]
      by_cases h0 : k = 0
      · rw [if_pos h0] at h
        rw [if_pos h0, if_pos h0]
        exact meetV_ok h
      · rw [if_neg h0] at h
        rw [if_neg h0, if_neg h0]
        by_cases h1 : k % 2 = 0
        · rw [if_pos h1] at h
          rw [if_pos h1, if_pos h1]
          exact il h
        · rw [if_neg h1] at h
          rw [if_neg h1, if_neg h1]
          exact ir h
theorem Emb.weak {P : Program} {ρ : Pl} {m m' : T SObj} {nx nx' : Nat} {w0 : Base} {w : World} (h : Emb P ρ m nx w0 w) (hm : ∀ b o, m'.get b = some o → m.get b = some o) (hn : nx ≤ nx') : Emb P ρ m' nx' w0 w := by
  have hs : ∀ b, (m'.get b).isSome = true → (m.get b).isSome = true := by
    intro b hb
    obtain ⟨o, ho⟩ := Option.isSome_iff_exists.1 hb
    rw [hm b o ho]; rfl
  refine ⟨h.touch, fun b o hb => h.obj b o (hm b o hb), fun b b' x x' hb hb' => h.inj b b' x x' (hs b hb) (hs b' hb'), fun b hb => ⟨(h.fresh b (by omega)).1, ?_⟩, h.old, fun b hb => ⟨by have := (h.hole b hb).1; omega, (h.hole b hb).2⟩, h.x.bump hn⟩
  cases hg : m'.get b with
  | none => rfl
  | some o => have := (h.fresh b (by omega)).2; rw [hm b o hg] at this; cases this
noncomputable def maxN (a b : Nat) : Nat := Bool.rec (motive := fun _ => Nat) a b (Nat.ble a b)
omit [Orig] in
theorem maxN_ok (a b : Nat) : a ≤ maxN a b ∧ b ≤ maxN a b := by
  unfold maxN
  cases h : Nat.ble a b with
  | true => exact ⟨nble_iff.1 h, Nat.le_refl _⟩
  | false => exact ⟨Nat.le_refl _, by
      have : ¬ a ≤ b := fun hh => by rw [nble_iff.2 hh] at h; cases h
      show b ≤ a
      omega⟩
noncomputable def mergeE (x y : Res) : Option Res := oi (svEq x.1 y.1) (some (x.1, meetT x.2.1 y.2.1, maxN x.2.2 y.2.2))
/-- x is what r says, with less known. -/
def Less (x r : Res) : Prop := x.1 = r.1 ∧ (∀ b o, r.2.1.get b = some o → x.2.1.get b = some o) ∧ x.2.2 ≤ r.2.2
noncomputable def joinE {α : Type} (f : α → Option Res) (o : Out α) : Option Res := Out.rec (motive := fun _ => Option Res) (fun a => f a) (fun _ _ ih1 ih2 => ob ih1 fun x => ob ih2 fun y => mergeE x y) o
omit [Orig] in
theorem joinE_ok {α : Type} {f : α → Option Res} {a : α} : ∀ {o : Out α} {r : Res}, joinE f o = some r → o.Mem a → ∃ x, f a = some x ∧ Less x r
  | .one b, r, h, e => by
    obtain rfl : a = b := e
    exact ⟨r, h, rfl, fun _ _ hb => hb, Nat.le_refl _⟩
  | .two x y, r, h, e => by
    have h' : (ob (joinE f x) fun x => ob (joinE f y) fun y => mergeE x y) = some r := h
    obtain ⟨x1, h1, h2⟩ := ob_eq.1 h'
    obtain ⟨y1, h3, h4⟩ := ob_eq.1 h2
    obtain ⟨h5, h6⟩ := oi_eq.1 h4
    cases h6
    have hv := svEq_ok h5
    rcases e with e | e
    · obtain ⟨z, k1, k2, k3, k4⟩ := joinE_ok h1 e
      exact ⟨z, k1, k2, fun b o hb => k3 b o (meetT_ok hb).1, Nat.le_trans k4 (maxN_ok _ _).1⟩
    · obtain ⟨z, k1, k2, k3, k4⟩ := joinE_ok h3 e
      exact ⟨z, k1, k2.trans hv.symm, fun b o hb => k3 b o (meetT_ok hb).2, Nat.le_trans k4 (maxN_ok _ _).2⟩
end Go.Proofs.YtodehmognjofhaaGreat

namespace Go.Proofs.YtodehmognjofhaaGreat
open Go.RowKit

/-- the state of code: its deferred calls, and marks among them; the loop it is a round of. -/
structure SC where
  s : St
  ds : List DEnt
  ro : Option Nat
abbrev Go2 := Nat → Code → SC → Option (Out (Ex × SC))
/-- the way back of a deferred call. -/
noncomputable def dbkE (E : Env) (g : Func) (r : Ex × SC) : Option Res := match r.2.ds with
  | [] => match r.1 with
    | .normal => ob (resE E r.2.s.m r.2.s.F g.results.toList) fun vs => some (resV vs, r.2.s.m, r.2.s.nx)
    | .ret => ob (resE E r.2.s.m r.2.s.F g.results.toList) fun vs => some (resV vs, r.2.s.m, r.2.s.nx)
    | _ => none
  | _ => none
noncomputable def lv1 (E : Env) (go : Go2) (d : DEnt) (m : T SObj) (nx : Nat) : Option (T SObj × Nat) := match d with
  | .mark d => ob (takE m d) fun m' => some (m', nx)
  | .call f a c => ob (E.fn.get f) fun g => ob g.body fun b => oi (Nat.ble (len (app a c)) g.ntmps) (ob (go g.ntmps b ⟨⟨T.ofL (app a c) 0 .leaf, m, nx⟩, [], none⟩) fun o => ob (joinE (dbkE E g) o) fun r => some (r.2.1, r.2.2))
/-- does an operation take what was given up? -/
def isRec (o : Oper) : Bool := match o.op, o.guard with
  | .call c, none => match c.callee with
    | .builtin b => match b with
      | .recover => true
      | _ => false
    | _ => false
  | _, _ => false
def noGd (o : Oper) : Bool := match o.guard with
  | none => true
  | _ => false
noncomputable def passL (E : Env) (N : Nat) (l : List Oper) : St → Option St := List.rec (motive := fun _ => St → Option St) (fun s => some s) (fun o _ ih s => oi (noGd o) (ob (evP E s.m s.F o) fun v => ob (fput N s.F o.dst v) fun F' => ih ⟨F', s.m, s.nx⟩)) l
noncomputable def recE (E : Env) (N : Nat) (ops : List Oper) (p : SV) (s : St) : Option St := match ops with
  | [] => none
  | o :: t => oi (isRec o) (ob (fput N s.F o.dst p) fun F' => passL E N t ⟨F', s.m, s.nx⟩)
/-- a deferred function that takes what was given up (p). -/
noncomputable def dfcE (E : Env) (go : Go2) (f : FuncId) (a c : List SV) (p : SV) (m : T SObj) (nx : Nat) : Option (T SObj × Nat) :=
  ob (E.fn.get f) fun g => ob g.body fun b => oi (Nat.ble (len (app a c)) g.ntmps) (match b with
    | .seq x t => match x with
      | .region _ ops false => ob (recE E g.ntmps ops.toList p ⟨T.ofL (app a c) 0 .leaf, m, nx⟩) fun s1 => ob (go g.ntmps t ⟨s1, [], none⟩) fun o => ob (joinE (dbkE E g) o) fun r => some (r.2.1, r.2.2)
      | _ => none
    | _ => none)
noncomputable def lv2 (E : Env) (go : Go2) (d : DEnt) (p : SV) (m : T SObj) (nx : Nat) : Option (T SObj × Nat) := match d with
  | .mark _ => none
  | .call f a c => dfcE E go f a c p m nx
noncomputable def lvN (E : Env) (go : Go2) (d : DEnt) (m : T SObj) (nx : Nat) : Option (T SObj × Nat) := Option.rec (motive := fun _ => Option (T SObj × Nat)) (lv2 E go d .nifc m nx) (fun r => some r) (lv1 E go d m nx)
noncomputable def lvD (E : Env) (go : Go2) (ds : List DEnt) : T SObj → Nat → Option (T SObj × Nat) := List.rec (motive := fun _ => T SObj → Nat → Option (T SObj × Nat)) (fun m nx => some (m, nx)) (fun d _ ih m nx => ob (lvN E go d m nx) fun q => ih q.1 q.2) ds
/-- deferred calls, one of which takes what was given up. -/
noncomputable def lvP (E : Env) (go : Go2) (p : SV) (ds : List DEnt) : T SObj → Nat → Option (T SObj × Nat) := List.rec (motive := fun _ => T SObj → Nat → Option (T SObj × Nat)) (fun _ _ => none) (fun d t ih m nx => Option.rec (motive := fun _ => Option (T SObj × Nat)) (ob (lv2 E go d p m nx) fun q => lvD E go t q.1 q.2) (fun q => ih q.1 q.2) (lv1 E go d m nx)) ds
/-- deferred calls, none of which takes it. -/
noncomputable def lvQ (E : Env) (go : Go2) (ds : List DEnt) : T SObj → Nat → Option (T SObj × Nat) := List.rec (motive := fun _ => T SObj → Nat → Option (T SObj × Nat)) (fun m nx => some (m, nx)) (fun d _ ih m nx => ob (lv1 E go d m nx) fun q => ih q.1 q.2) ds
noncomputable def leaveE (E : Env) (go : Go2) (g : Func) (c : SC) : Option Res := ob (lvD E go c.ds c.s.m c.s.nx) fun q => ob (resE E q.1 c.s.F g.results.toList) fun vs => some (resV vs, q.1, q.2)
noncomputable def leaveP (E : Env) (go : Go2) (g : Func) (p : SV) (c : SC) : Option Res := ob (lvP E go p c.ds c.s.m c.s.nx) fun q => ob (resE E q.1 c.s.F g.results.toList) fun vs => some (resV vs, q.1, q.2)
noncomputable def backE (E : Env) (go : Go2) (g : Func) (r : Ex × SC) : Option Res := match r.1 with
  | .normal => leaveE E go g r.2
  | .ret => leaveE E go g r.2
  | .pan p => leaveP E go g p r.2
  | _ => none
noncomputable def bckP (E : Env) (go : Go2) (o : Out (Ex × SC)) : Option Res := match o with
  | .one r => match r.1 with
    | .pan p => ob (lvQ E go r.2.ds r.2.s.m r.2.s.nx) fun q => some (p, q.1, q.2)
    | _ => none
  | _ => none
/-- functions that end by a panic. -/
noncomputable def calP (E : Env) (go : Go2) : CalF := fun f args m nx => ob (E.fn.get f) fun g => ob g.body fun c => oi (Nat.ble (len args) g.ntmps) (ob (go g.ntmps c ⟨⟨T.ofL args 0 .leaf, m, nx⟩, [], none⟩) fun o => bckP E go o)
def isIfc (v : SV) : Bool := match v with
  | .ifc _ _ => true
  | _ => false
/-- an operation that ends by a panic. -/
noncomputable def panE (E : Env) (pn : CalF) (all : List Oper) (o : Oper) (s : St) : Option (SV × St) := ob (wantE all s.F o.guard) fun b => oi b (match o.op with
  | .panic x => ob (ev s.F x) fun v => oi (isIfc v) (some (v, s))
  | .call c => ob (tgtE E s.F c) fun t => ob (E.fn.get t.1) fun g => ob g.body fun _ => ob (pn t.1 t.2 s.m s.nx) fun r => some (r.1, ⟨s.F, r.2.1, r.2.2⟩)
  | _ => none)
noncomputable def panO (E : Env) (cal : Cal) (pn : CalF) (N : Nat) (all l : List Oper) : St → Option (SV × St) := List.rec (motive := fun _ => St → Option (SV × St)) (fun _ => none) (fun o _ ih s => Option.rec (motive := fun _ => Option (SV × St)) (panE E pn all o s) (fun s' => ih s') (stepE E cal N all o s)) l
noncomputable def calF (E : Env) (I : CalF) (go : Go2) : CalF := fun f args m nx => Option.rec (motive := fun _ => Option Res)
  (ob (E.fn.get f) fun g => ob g.body fun c => oi (Nat.ble (len args) g.ntmps) (ob (go g.ntmps c ⟨⟨T.ofL args 0 .leaf, m, nx⟩, [], none⟩) fun o => joinE (backE E go g) o)) (fun r => some r) (I f args m nx)
noncomputable def jumpE (x : Ex) : Option Code := match x with
  | .normal => none
  | .pan _ => none
  | .exit id => some (.exit id)
  | .goto l => some (.goto l)
  | .ret => some .ret
def onE (x : Ex) : Bool := match x with
  | .normal => true
  | _ => false
def isPan (x : Ex) : Bool := match x with
  | .pan _ => true
  | _ => false
noncomputable def endE (l : Nat) (r : Ex × SC) : Option Res := oi (not (isPan r.1)) (ob (endRE r.2.s.m l (jumpE r.1)) fun m => some (.bool (onE r.1), m, r.2.s.nx))
noncomputable def rdB (go : Nat → Code → SC → Option (Out (Ex × SC))) (n l : Nat) (y : Code) (r : Ex × SC) : Option Res := match r.1 with
  | .normal => ob (begE r.2.s.m l) fun m1 => ob (go n y ⟨⟨r.2.s.F, m1, r.2.s.nx⟩, r.2.ds, r.2.ro⟩) fun o => joinE (endE l) o
  | _ => none
noncomputable def rdF (go : Go2) : Nat → List SV → T SObj → Nat → Option Res := fun l args m nx => ob (ynE m l args) fun q => ob (go q.1 q.2.2.1 ⟨⟨q.2.1, m, nx⟩, [], some l⟩) fun o => joinE (rdB go q.1 l q.2.2.2) o
noncomputable def rfE (E : Env) (cal : Cal) (N : Nat) (go : Code → SC → Option (Out (Ex × SC))) (g : Operand) (ps : List Tmp) (x y : Code) (c : SC) : Option (Out (Ex × SC)) := ob (ev c.s.F g) fun fv => match fv with
  | .fn (.func gi) a cap => ob (E.fn.get gi) fun fg => ob fg.body fun _ => ob (enterE c.ro N c.s.F ps x y c.s.m c.s.nx) fun q => ob (cal.fn gi (app a (app [.yld q.2.2.2] cap)) q.1 q.2.1) fun r => ob (endLE r.2.1 q.2.2.2) fun e => match e.1 with
    | none => some (.one (.normal, ⟨⟨c.s.F, e.2, r.2.2⟩, app q.2.2.1 c.ds, c.ro⟩))
    | some j => go j ⟨⟨c.s.F, e.2, r.2.2⟩, app q.2.2.1 c.ds, c.ro⟩
  | _ => none
noncomputable def condE (v : SV) (x y : Code) : Option Code := match v with
  | .bool t => some (Bool.rec (motive := fun _ => Code) y x t)
  | _ => none
noncomputable def blkE (id : Nat) (x : Ex) : Option Ex := match x with
  | .exit j => some (Bool.rec (motive := fun _ => Ex) (.exit j) .normal (Nat.beq j id))
  | x => some x
noncomputable def scpE (x : Ex) : Option Ex := match x with
  | .goto _ => none
  | x => some x
/-- a region that ends in a deferred call. -/
noncomputable def lastD (l : List Oper) : Option (List Oper × Oper × Call) := List.rec (motive := fun _ => Option (List Oper × Oper × Call)) none (fun o t ih => match t with
  | [] => match o.op, o.guard, o.dst with
    | .defer c, none, none => some ([], o, c)
    | _, _, _ => none
  | _ => ob ih fun q => some (o :: q.1, q.2)) l
noncomputable def dfrE (F : T SV) (c : Call) : Option DEnt := ob (evL F c.args.toList) fun vs => match c.callee with
  | .value f => ob (ev F f) fun fv => match fv with
    | .fn (.func g) a cap => some (.call g (app a vs) cap)
    | _ => none
  | _ => none
def noRo (r : Option Nat) : Bool := match r with
  | none => true
  | some _ => false
noncomputable def regN (E : Env) (cal : Cal) (N : Nat) (ops : List Oper) (s : SC) : Option (Out (Ex × SC)) := Option.rec (motive := fun _ => Option (Out (Ex × SC))) (ob (opsO E cal N ops ops s.s) fun o => bindO o fun s' => some (.one (.normal, ⟨s', s.ds, s.ro⟩)))
  (fun q => oi (noRo s.ro) (ob (opsO E cal N ops q.1 s.s) fun o => bindO o fun s' => ob (dfrE s'.F q.2.2) fun d => some (.one (.normal, ⟨s', d :: s.ds, s.ro⟩)))) (lastD ops)
noncomputable def regO (E : Env) (cal : Cal) (pn : CalF) (N : Nat) (ops : List Oper) (s : SC) : Option (Out (Ex × SC)) := Option.rec (motive := fun _ => Option (Out (Ex × SC)))
  (ob (panO E cal pn N ops ops s.s) fun q => some (.one (.pan q.1, ⟨q.2, s.ds, s.ro⟩))) (fun o => some o) (regN E cal N ops s)
noncomputable def stepC (E : Env) (cal : Cal) (pn : CalF) (nm : Nat → SC → SC) (N : Nat) (go : Code → SC → Option (Out (Ex × SC))) (c : Code) (s : SC) : Option (Out (Ex × SC)) := match c with
  | .skip => some (.one (.normal, s))
  | .label _ => some (.one (.normal, s))
  | .region _ ops draw => Bool.rec (motive := fun _ => Option (Out (Ex × SC))) (regO E cal pn N ops.toList s) (ob (drawE E cal N ops.toList s.s) fun s' => some (.one (.normal, ⟨s', s.ds, s.ro⟩))) draw
  | .seq a b => ob (go a s) fun o => bindO o fun r => match r.1 with
    | .normal => go b r.2
    | x => some (.one (x, r.2))
  | .cond v x y => ob (ev s.s.F v) fun v => Option.rec (motive := fun _ => Option (Out (Ex × SC))) (oi (isB v) (ob (go x s) fun o1 => ob (go y s) fun o2 => some (.two o1 o2))) (fun c => go c s) (condE v x y)
  | .block id c => ob (go c s) fun o => bindO o fun r => ob (blkE id r.1) fun x => some (.one (x, r.2))
  | .loop c => ob (go c s) fun o => bindO o fun r => match r.1 with
    | .normal => go (.loop c) (nm N r.2)
    | x => some (.one (x, r.2))
  | .exit id => some (.one (.exit id, s))
  | .goto l => some (.one (.goto l, s))
  | .ret => some (.one (.ret, s))
  | .scope c => ob (go c s) fun o => bindO o fun r => ob (scpE r.1) fun x => some (.one (x, r.2))
  | .rangeFunc g ps x y => rfE E cal N go g ps.toList x y s
  | _ => none
noncomputable def runE (E : Env) (I : CalF) (nm : Nat → SC → SC) (n : Nat) : Go2 := Nat.rec (motive := fun _ => Go2) (fun _ _ _ => none) (fun _ ih N c s => stepC E ⟨calF E I ih, rdF ih⟩ (calP E ih) nm N (ih N) c s) n
/-- nm: names given to values at a loop's head. -/
noncomputable def callN (E : Env) (I : CalF) (nm : Nat → SC → SC) (n : Nat) : CalF := calF E I (runE E I nm n)
noncomputable def callE' (E : Env) (I : CalF) (n : Nat) : CalF := callN E I (fun _ s => s) n

variable [Orig]
structure RelC (P : Program) (ρ : Pl) (N : Nat) (c : SC) (r : Option Nat) (a : Act) (w0 : Base) (w : World) : Prop where
  F : FRel ρ N c.s.F a
  m : Emb P ρ c.s.m c.s.nx w0 w
  d : DRel ρ c.ds a.defers
  ro : RO ρ c.ro r
def PostE (P : Program) (w0 : Base) (ρ : Pl) (N : Nat) (r : Option Nat) (o : Out (Ex × SC)) : Exit → Act → World → Prop := fun e a w => ∃ q, o.Mem q ∧ ∃ ρ', e = q.1.toE ρ' ∧ q.1.ok ρ' ∧ Le ρ ρ' ∧ RelC P ρ' N q.2 r a w0 w
def NmOk (P : Program) (nm : Nat → SC → SC) : Prop := ∀ N s ρ r a w0 w, RelC P ρ N s r a w0 w → RelC P ρ N (nm N s) r a w0 w
def GoOk (P : Program) (go : Go2) : Prop := ∀ N c s o, go N c s = some o → ∀ ρ r a w0 w, RelC P ρ N s r a w0 w → c.wpIn (FW r) 0 P (PostE P w0 ρ N r o) a w ∧ ∀ c0, c = .loop c0 → LW (FW r) 0 P c0 (PostE P w0 ρ N r o) a w
section
variable {P : Program}
theorem PostE.mono {w0 : Base} {ρ ρ' : Pl} {N : Nat} {r : Option Nat} {o o' : Out (Ex × SC)} (h : Le ρ ρ') (ho : ∀ q, o'.Mem q → o.Mem q) {e : Exit} {a : Act} {w : World} (k : PostE P w0 ρ' N r o' e a w) : PostE P w0 ρ N r o e a w :=
  let ⟨q, h0, ρ2, h1, hp, h2, h3⟩ := k; ⟨q, ho q h0, ρ2, h1, hp, h.trans h2, h3⟩
theorem RelC.rel {ρ : Pl} {N : Nat} {c : SC} {r : Option Nat} {a : Act} {w0 : Base} {w : World} (h : RelC P ρ N c r a w0 w) : Rel P ρ N c.s a.defers a w0 w := ⟨h.F, h.m, rfl⟩
theorem RelC.next {ρ ρ' : Pl} {N : Nat} {c : SC} {r : Option Nat} {a a' : Act} {w0 : Base} {w w' : World} (h : RelC P ρ N c r a w0 w) (hle : Le ρ ρ') {s' : St} (k : Rel P ρ' N s' a.defers a' w0 w') : RelC P ρ' N ⟨s', c.ds, c.ro⟩ r a' w0 w' :=
  ⟨k.F, k.m, by rw [k.d]; exact h.d.mono hle, h.ro.mono hle⟩
theorem args_at {ρ : Pl} {args : List SV} {us : List Value} {n : Nat} (hargs : denL ρ args = some us) (h5 : args.length ≤ n) {m : T SObj} {nx : Nat} {w0 : Base} {w : World} (h : Emb P ρ m nx w0 w) :
    RelC P ρ n ⟨⟨T.ofL args 0 .leaf, m, nx⟩, [], none⟩ none ({ tmps := us.toArray ++ Array.replicate (n - us.toArray.size) undef, defers := [] } : Act) w0 w := by
  have hul := denL_len hargs
  have hsz : us.toArray.size = us.length := rfl
  refine ⟨⟨by simp only [Array.size_append, Array.size_replicate, hsz]; omega, fun i v hv => ?_⟩, h, trivial, trivial⟩
  rw [T.get_ofL0] at hv
  obtain ⟨u, k1, k2⟩ := denL_get i hargs hv
  refine ⟨u, ?_, k1⟩
  rw [Array.getElem?_append_left (by have := (List.getElem?_eq_some_iff.1 k2).1; simpa using this)]
  simpa using k2
theorem back_ok {E : Env} (hE : EnvOk P E) {g : Func} {w0 : Base} {ρ ρ' : Pl} {ex : Ex} {s : SC} {a1 : Act} {w1 : World} {z rr : Res} (z1 : dbkE E g (ex, s) = some z) (z3 : Less z rr) (k1 : Le ρ ρ') (k2 : RelC P ρ' g.ntmps s none a1 w0 w1) :
    (ex = .normal ∨ ex = .ret) ∧ a1.defers = [] ∧ ∃ v, (results g a1.tmps).run P w1 = .ok v w1 ∧ ∃ ρ', Le ρ ρ' ∧ Emb P ρ' rr.2.1 rr.2.2 w0 w1 := by
  obtain ⟨z2, z3, z4⟩ := z3
  unfold dbkE at z1
  split at z1
  · rename_i hds
    have hdd := k2.d
    simp only at hds
    rw [hds] at hdd
    have hd0 : a1.defers = [] := by
      cases hq : a1.defers with
      | nil => rfl
      | cons x l => rw [hq] at hdd; exact hdd.elim
    have fin : (ob (resE E s.s.m s.s.F g.results.toList) fun vs => some (resV vs, s.s.m, s.s.nx)) = some z → a1.defers = [] ∧ ∃ v, (results g a1.tmps).run P w1 = .ok v w1 ∧ ∃ ρ', Le ρ ρ' ∧ Emb P ρ' rr.2.1 rr.2.2 w0 w1 := by
      intro h9
      obtain ⟨vs, h12, h13⟩ := ob_eq.1 h9
      cases h13
      obtain ⟨u, j1, j2⟩ := resV_ok hE k2.m k2.F h12
      exact ⟨hd0, u, j1, ρ', k1, k2.m.weak z3 z4⟩
    cases ex with
    | normal => exact ⟨.inl rfl, fin z1⟩
    | ret => exact ⟨.inr rfl, fin z1⟩
    | exit id => cases z1
    | goto l => cases z1
    | pan p => cases z1
  · cases z1
/-- a deferred call that takes nothing of what was given up. -/
theorem lv1_ok {E : Env} (hE : EnvOk P E) {go : Go2} (hgo : GoOk P go) {g : Func} {tmps : Array Value} {R : Ending → World → Prop} {w0 : Base} {u : FrameMode} (hu : u ≠ .run) (hs : settle u = u) {d : DEnt} {D0 : Deferred} {D : List Deferred} {ρ : Pl} {m m1 : T SObj} {nx nx1 : Nat} {w : World} (hd : DOk ρ d D0)
    (e1 : lv1 E go d m nx = some (m1, nx1)) (h : Emb P ρ m nx w0 w) (k : ∀ ρ' w', Le ρ ρ' → Emb P ρ' m1 nx1 w0 w' → LeavesInM Fence.wide 0 P g tmps R D u w') : LeavesInM Fence.wide 0 P g tmps R (D0 :: D) u w := by
  cases d with
  | mark d =>
    obtain ⟨y, h1, h2⟩ := hd
    obtain ⟨m2, e3, e4⟩ := ob_eq.1 (show (ob (takE m d) fun m' => some (m', nx)) = some (m1, nx1) from e1)
    cases e4
    obtain ⟨w', k1, k2⟩ := takE_ok h h1 e3
    exact ⟨hu, .inl ⟨y.1, w', by rw [h2], k1, k ρ w' (Le.refl ρ) k2⟩⟩
  | call f a c =>
    obtain ⟨x, y, h1, h2, rfl⟩ := hd
    obtain ⟨fg, e3, e4⟩ := ob_eq.1 (show (ob (E.fn.get f) fun g => ob g.body fun b => oi (Nat.ble (len (app a c)) g.ntmps) (ob (go g.ntmps b ⟨⟨T.ofL (app a c) 0 .leaf, m, nx⟩, [], none⟩) fun o => ob (joinE (dbkE E g) o) fun r => some (r.2.1, r.2.2))) = some (m1, nx1) from e1)
    obtain ⟨b, e5, e6⟩ := ob_eq.1 e4
    obtain ⟨e7, e8⟩ := oi_eq.1 e6
    obtain ⟨o, e9, e10⟩ := ob_eq.1 e8
    obtain ⟨rr, e11, e12⟩ := ob_eq.1 e10
    cases e12
    rw [nble_iff, len_ok] at e7
    obtain ⟨hf, -⟩ := hE.fn f fg e3
    have hargs : denL ρ (app a c) = some (x ++ y) := by rw [app_ok]; exact denL_append h1 h2
    refine ⟨hu, .inr ⟨fun hd => (by cases hd), .func f, y.toArray, f, (x ++ y).toArray, rfl, ?_, fun _ _ => trivial, ?_⟩⟩
    · simp only [invoke]
      rw [callFunc_ok hE e3 e5]
      congr 2
      simp
    · refine CallsDIn.mono (callsDIn_of_wp (R := fun e w' => ∃ v, e = .returned v ∧ ∃ ρ', Le ρ ρ' ∧ Emb P ρ' rr.2.1 rr.2.2 w0 w') hf e5 trivial (wpIn_mono (F := Fence.wide) (Q := PostE P w0 ρ fg.ntmps none o) (hgo fg.ntmps b _ _ e9 ρ none _ w0 w (args_at hargs e7 h)).1 ?_)) ?_
      · rintro e1' a1 w1 ⟨⟨ex, s⟩, k0, ρ', rfl, -, k1, k2⟩
        obtain ⟨z, z1, z3⟩ := joinE_ok e11 k0
        obtain ⟨hx, hd0, v, j1, ρ2, j2, j3⟩ := back_ok hE z1 z3 k1 k2
        rcases hx with rfl | rfl
        · exact ⟨hd0, v, j1, v, rfl, ρ2, j2, j3⟩
        · exact ⟨hd0, v, j1, v, rfl, ρ2, j2, j3⟩
      · rintro e' u' w' ⟨rfl, v, rfl, ρ', k1, k2⟩
        show LeavesInM Fence.wide 0 P g tmps R D (settle u') w'
        rw [hs]
        exact k ρ' w' k1 k2
omit [Orig] in
theorem run_rec {o : Oper} {a : Act} {c : Call} (ho : o.op = .call c) (hc : c.callee = .builtin .recover) (w : World) : (execOp a.eval o).run P w = .ok .recover w := by
  unfold execOp
  simp [ho, resolve, hc, invoke, builtin]
theorem passL_ok {E : Env} (hE : EnvOk P E) {N : Nat} {ops : Array Oper} {w0 : Base} {w : World} {ρ : Pl} {cs : List Frame} {Q : Exit → Act → List Frame → World → Prop} : ∀ {l : List Oper} (k : Nat), (∀ j, l[j]? = ops[k + j]?) → ∀ {s s' : St} {a : Act}, Rel P ρ N s [] a w0 w → passL E N l s = some s' →
    (∀ a', Rel P ρ N s' [] a' w0 w → Q .normal a' cs w) → wpOpsSIn Fence.wide 0 P ops Q (List.range' k l.length) a cs w
  | [], k, _, s, s', a, h, e, hQ => by cases e; exact hQ a h
  | o :: l, k, hl, s, s', a, h, e, hQ => by
    have e' : oi (noGd o) (ob (evP E s.m s.F o) fun v => ob (fput N s.F o.dst v) fun F' => passL E N l ⟨F', s.m, s.nx⟩) = some s' := e
    obtain ⟨e1, e2⟩ := oi_eq.1 e'
    obtain ⟨v, e3, e4⟩ := ob_eq.1 e2
    obtain ⟨F', e5, e6⟩ := ob_eq.1 e4
    have h0 : ops[k]? = some o := by simpa using (hl 0).symm
    have hg : o.guard = none := by
      unfold noGd at e1
      split at e1
      · assumption
      · cases e1
    obtain ⟨u, r1, r2⟩ := evP_ok hE h.m h.F e3
    rw [List.length_cons, List.range'_succ]
    unfold wpOpsSIn
    simp only [h0]
    refine ⟨fun _ _ => trivial, ?_⟩
    have hw : Region.wanted o (yielded ops a.tmps) = true := by unfold Region.wanted; rw [hg]
    rw [if_pos hw, r1]
    exact passL_ok hE (k + 1) (fun j => by have := hl (j + 1); simpa [Nat.add_assoc, Nat.add_comm 1 j] using this) (s := ⟨F', s.m, s.nx⟩) ⟨h.F.put e5 r2, h.m, by rw [put_defers]; exact h.d⟩ e6 hQ
/-- what taking it does to the frame below. -/
def RecAt (ρ : Pl) (p : SV) (u u2 : FrameMode) : Prop := ∀ (c₀ : Frame) (cs : List Frame), c₀.mode = u → ∃ u1 x, den ρ p = some x ∧ settle u1 = u2 ∧ (recoverD (c₀ :: cs) = some (x, { c₀ with mode := u1 } :: cs) ∨ (recoverD (c₀ :: cs) = none ∧ x = .nilIface ∧ u1 = u))
omit [Orig] in
theorem recAt_ret (ρ : Pl) : RecAt ρ .nifc .returning .returning := by
  intro c₀ cs hc
  refine ⟨.returning, .nilIface, den_nifc _, rfl, .inr ⟨?_, rfl, rfl⟩⟩
  unfold recoverD
  simp only [hc]
omit [Orig] in
theorem recAt_pan {ρ : Pl} {p : SV} {x : Value} (h : den ρ p = some x) : RecAt ρ p (.panicking [{ v := x, recovered := false }]) .returning := by
  intro c₀ cs hc
  refine ⟨.panicking [{ v := x, recovered := true }], x, h, rfl, .inl ?_⟩
  unfold recoverD
  simp only [hc]
/-- a deferred call that takes what was given up. -/
theorem dfc_ok {E : Env} (hE : EnvOk P E) {go : Go2} (hgo : GoOk P go) {g : Func} {tmps : Array Value} {R : Ending → World → Prop} {w0 : Base} {u u2 : FrameMode} (hu : u ≠ .run) {f : FuncId} {a c : List SV} {p : SV} {D0 : Deferred} {D : List Deferred} {ρ : Pl} {m m1 : T SObj} {nx nx1 : Nat} {w : World} (hr : RecAt ρ p u u2) (hd : DOk ρ (.call f a c) D0)
    (e1 : dfcE E go f a c p m nx = some (m1, nx1)) (h : Emb P ρ m nx w0 w) (k : ∀ ρ' w', Le ρ ρ' → Emb P ρ' m1 nx1 w0 w' → LeavesInM Fence.wide 0 P g tmps R D u2 w') : LeavesInM Fence.wide 0 P g tmps R (D0 :: D) u w := by
  obtain ⟨x, y, h1, h2, rfl⟩ := hd
  obtain ⟨fg, e3, e4⟩ := ob_eq.1 e1
  obtain ⟨b, e5, e6⟩ := ob_eq.1 e4
  obtain ⟨e7, e8⟩ := oi_eq.1 e6
  split at e8
  case h_2 => cases e8
  rename_i xc t
  split at e8
  case h_2 => cases e8
  rename_i id ops
  obtain ⟨s1, e9, e10⟩ := ob_eq.1 e8
  obtain ⟨o, e11, e12⟩ := ob_eq.1 e10
  obtain ⟨rr, e13, e14⟩ := ob_eq.1 e12
  cases e14
  rw [nble_iff, len_ok] at e7
  obtain ⟨hf, -⟩ := hE.fn f fg e3
  have hargs : denL ρ (app a c) = some (x ++ y) := by rw [app_ok]; exact denL_append h1 h2
  refine ⟨hu, .inr ⟨fun hd => (by cases hd), .func f, y.toArray, f, (x ++ y).toArray, rfl, ?_, fun _ _ => trivial, ?_⟩⟩
  · simp only [invoke]
    rw [callFunc_ok hE e3 e5]
    congr 2
    simp
  · refine CallsDIn.mono (callsDIn_of_wpSIn (R := fun e u' w' => settle u' = u2 ∧ ∃ v, e = .returned v ∧ ∃ ρ', Le ρ ρ' ∧ Emb P ρ' rr.2.1 rr.2.2 w0 w') hf e5 trivial ?_) ?_
    · intro c₀ cs hc
      obtain ⟨u1, px, hp, hset, hrec⟩ := hr c₀ cs hc
      have R0 := args_at hargs e7 h
      refine wpSIn_seq (wpSIn_region ?_)
      -- behind the first region
      have behind : ∀ (cs' : List Frame) (a' : Act), cs' = { c₀ with mode := u1 } :: cs → Rel P ρ fg.ntmps s1 [] a' w0 w → Code.wpSIn Fence.wide 0 P t (bodyPostS P fg c₀ cs fun e u' w' => settle u' = u2 ∧ ∃ v, e = .returned v ∧ ∃ ρ', Le ρ ρ' ∧ Emb P ρ' rr.2.1 rr.2.2 w0 w') a' cs' w := by
        intro cs' a' hcs hR
        refine wpSIn_of_wpIn rfl (wpIn_mono (F := Fence.wide) (Q := PostE P w0 ρ fg.ntmps none o) (hgo fg.ntmps t _ _ e11 ρ none a' w0 w ⟨hR.F, hR.m, by rw [hR.d]; trivial, trivial⟩).1 ?_)
        rintro e1' a1 w1 ⟨⟨ex, s⟩, k0, ρ', rfl, -, k1, k2⟩
        obtain ⟨z, z1, z3⟩ := joinE_ok e13 k0
        obtain ⟨hx, hd0, v, j1, ρ2, j2, j3⟩ := back_ok hE z1 z3 k1 k2
        rcases hx with rfl | rfl
        · exact ⟨hd0, u1, hcs, v, j1, hset, v, rfl, ρ2, j2, j3⟩
        · exact ⟨hd0, u1, hcs, v, j1, hset, v, rfl, ρ2, j2, j3⟩
      unfold recE at e9
      split at e9
      · cases e9
      rename_i o1 tl hops
      obtain ⟨g1, g2⟩ := oi_eq.1 e9
      obtain ⟨F', g3, g4⟩ := ob_eq.1 g2
      have hlen : ops.size = tl.length + 1 := by rw [← Array.length_toList, hops, List.length_cons]
      have hget : ∀ j, ops[j]? = (o1 :: tl)[j]? := fun j => by rw [← hops, Array.getElem?_toList]
      rw [hlen, List.range_eq_range', List.range'_succ]
      unfold isRec at g1
      split at g1
      case h_2 => cases g1
      rename_i cc hop hgd
      split at g1
      case h_2 => cases g1
      rename_i bi hbi
      split at g1
      case h_2 => cases g1
      unfold wpOpsSIn
      simp only [hget 0, List.getElem?_cons_zero]
      refine ⟨fun _ _ => trivial, ?_⟩
      have hw : Region.wanted o1 (yielded ops ((x ++ y).toArray ++ Array.replicate (fg.ntmps - (x ++ y).toArray.size) undef)) = true := by unfold Region.wanted; rw [hgd]
      rw [if_pos hw, run_rec hop hbi]
      have rel1 : Rel P ρ fg.ntmps ⟨F', m, nx⟩ [] ((({ tmps := (x ++ y).toArray ++ Array.replicate (fg.ntmps - (x ++ y).toArray.size) undef, defers := [] } : Act)).put o1.dst px) w0 w := ⟨R0.F.put g3 hp, h, by rw [put_defers]⟩
      rcases hrec with hrec | ⟨hrec, rfl, rfl⟩
      · simp only [hrec]
        exact passL_ok hE (0 + 1) (fun j => by rw [hget, Nat.zero_add, Nat.add_comm 1 j, List.getElem?_cons_succ]) rel1 g4 fun a' hR => behind _ a' rfl hR
      · simp only [hrec]
        exact passL_ok hE (0 + 1) (fun j => by rw [hget, Nat.zero_add, Nat.add_comm 1 j, List.getElem?_cons_succ]) rel1 g4 fun a' hR => behind _ a' (by rw [← hc]) hR
    · rintro e' u' w' ⟨hset, v, rfl, ρ', k1, k2⟩
      show LeavesInM Fence.wide 0 P g tmps R D (settle u') w'
      rw [hset]
      exact k ρ' w' k1 k2
theorem leaves_ok {E : Env} (hE : EnvOk P E) {go : Go2} (hgo : GoOk P go) {g : Func} {tmps : Array Value} {R : Ending → World → Prop} {w0 : Base} : ∀ {ds : List DEnt} {D : List Deferred} {ρ : Pl} {m m' : T SObj} {nx nx' : Nat} {w : World}, DRel ρ ds D → lvD E go ds m nx = some (m', nx') → Emb P ρ m nx w0 w →
    (∀ ρ' w', Le ρ ρ' → Emb P ρ' m' nx' w0 w' → ∃ v, (results g tmps).run P w' = .ok v w' ∧ R (.returned v) w') → LeavesInM Fence.wide 0 P g tmps R D .returning w
  | [], [], ρ, m, m', nx, nx', w, _, e, h, k => by
    cases e
    exact k ρ w (Le.refl ρ) h
  | [], _ :: _, _, _, _, _, _, _, h, _, _, _ => h.elim
  | _ :: _, [], _, _, _, _, _, _, h, _, _, _ => h.elim
  | d :: ds, D0 :: D, ρ, m, m', nx, nx', w, ⟨hd, h3⟩, e, h, k => by
    have e' : (ob (lvN E go d m nx) fun q => lvD E go ds q.1 q.2) = some (m', nx') := e
    obtain ⟨⟨m1, nx1⟩, e1, e2⟩ := ob_eq.1 e'
    have next : ∀ ρ' w', Le ρ ρ' → Emb P ρ' m1 nx1 w0 w' → LeavesInM Fence.wide 0 P g tmps R D .returning w' := fun ρ' w' k1 k2 => leaves_ok hE hgo (h3.mono k1) e2 k2 fun ρ2 w2 j1 j2 => k ρ2 w2 (k1.trans j1) j2
    unfold lvN at e1
    cases h1 : lv1 E go d m nx with
    | some q =>
      rw [h1] at e1
      cases e1
      exact lv1_ok hE hgo (by simp) rfl hd h1 h next
    | none =>
      rw [h1] at e1
      cases d with
      | mark d => cases e1
      | call f a c => exact dfc_ok hE hgo (by simp) (recAt_ret ρ) hd (show dfcE E go f a c .nifc m nx = some (m1, nx1) from e1) h next
theorem leavesP_ok {E : Env} (hE : EnvOk P E) {go : Go2} (hgo : GoOk P go) {g : Func} {tmps : Array Value} {R : Ending → World → Prop} {w0 : Base} {p : SV} {x : Value} : ∀ {ds : List DEnt} {D : List Deferred} {ρ : Pl} {m m' : T SObj} {nx nx' : Nat} {w : World}, DRel ρ ds D → den ρ p = some x → lvP E go p ds m nx = some (m', nx') → Emb P ρ m nx w0 w →
    (∀ ρ' w', Le ρ ρ' → Emb P ρ' m' nx' w0 w' → ∃ v, (results g tmps).run P w' = .ok v w' ∧ R (.returned v) w') → LeavesInM Fence.wide 0 P g tmps R D (.panicking [{ v := x, recovered := false }]) w
  | [], _, _, _, _, _, _, _, _, _, e, _, _ => by cases e
  | _ :: _, [], _, _, _, _, _, _, h, _, _, _, _ => h.elim
  | d :: ds, D0 :: D, ρ, m, m', nx, nx', w, ⟨hd, h3⟩, hp, e, h, k => by
    have e' : Option.rec (motive := fun _ => Option (T SObj × Nat)) (ob (lv2 E go d p m nx) fun q => lvD E go ds q.1 q.2) (fun q => lvP E go p ds q.1 q.2) (lv1 E go d m nx) = some (m', nx') := e
    cases h1 : lv1 E go d m nx with
    | some q =>
      rw [h1] at e'
      exact lv1_ok hE hgo (by simp) rfl hd h1 h fun ρ' w' k1 k2 => leavesP_ok hE hgo (h3.mono k1) (den_mono k1 _ hp) e' k2 fun ρ2 w2 j1 j2 => k ρ2 w2 (k1.trans j1) j2
    | none =>
      rw [h1] at e'
      obtain ⟨⟨m1, nx1⟩, e1, e2⟩ := ob_eq.1 (show (ob (lv2 E go d p m nx) fun q => lvD E go ds q.1 q.2) = some (m', nx') from e')
      cases d with
      | mark d => cases e1
      | call f a c => exact dfc_ok hE hgo (by simp) (recAt_pan hp) hd (show dfcE E go f a c p m nx = some (m1, nx1) from e1) h fun ρ' w' k1 k2 => leaves_ok hE hgo (h3.mono k1) e2 k2 fun ρ2 w2 j1 j2 => k ρ2 w2 (k1.trans j1) j2
theorem leavesQ_ok {E : Env} (hE : EnvOk P E) {go : Go2} (hgo : GoOk P go) {g : Func} {tmps : Array Value} {R : Ending → World → Prop} {w0 : Base} {x : Value} : ∀ {ds : List DEnt} {D : List Deferred} {ρ : Pl} {m m' : T SObj} {nx nx' : Nat} {w : World}, DRel ρ ds D → lvQ E go ds m nx = some (m', nx') → Emb P ρ m nx w0 w →
    (∀ ρ' w', Le ρ ρ' → Emb P ρ' m' nx' w0 w' → R (.panicked [{ v := x, recovered := false }]) w') → LeavesInM Fence.wide 0 P g tmps R D (.panicking [{ v := x, recovered := false }]) w
  | [], [], ρ, m, m', nx, nx', w, _, e, h, k => by
    cases e
    exact k ρ w (Le.refl ρ) h
  | [], _ :: _, _, _, _, _, _, _, h, _, _, _ => h.elim
  | _ :: _, [], _, _, _, _, _, _, h, _, _, _ => h.elim
  | d :: ds, D0 :: D, ρ, m, m', nx, nx', w, ⟨hd, h3⟩, e, h, k => by
    have e' : (ob (lv1 E go d m nx) fun q => lvQ E go ds q.1 q.2) = some (m', nx') := e
    obtain ⟨⟨m1, nx1⟩, e1, e2⟩ := ob_eq.1 e'
    exact lv1_ok hE hgo (by simp) rfl hd e1 h fun ρ' w' k1 k2 => leavesQ_ok hE hgo (h3.mono k1) e2 k2 fun ρ2 w2 j1 j2 => k ρ2 w2 (k1.trans j1) j2
theorem calP_ok {E : Env} (hE : EnvOk P E) {go : Go2} (hgo : GoOk P go) : PnOk P (calP E go) := by
  intro f args m nx r e ρ us w0 w hargs hm
  obtain ⟨g, h1, h2⟩ := ob_eq.1 e
  obtain ⟨c, h3, h4⟩ := ob_eq.1 h2
  obtain ⟨h5, h6⟩ := oi_eq.1 h4
  obtain ⟨o, h7, h8⟩ := ob_eq.1 h6
  rw [nble_iff, len_ok] at h5
  obtain ⟨hf, -⟩ := hE.fn f g h1
  refine (callsIn_wide (n := 0)).1 (callsIn_of_wp_marks hf h3 trivial (wpIn_mono (F := Fence.wide) (Q := PostE P w0 ρ g.ntmps none o) (hgo g.ntmps c _ _ h7 ρ none _ w0 w (args_at hargs h5 hm)).1 ?_))
  rintro e1 a1 w1 ⟨⟨x, s⟩, k0, ρ', rfl, kp, k1, k2⟩
  unfold bckP at h8
  split at h8
  case h_2 => cases h8
  rename_i q
  obtain rfl : (x, s) = q := k0
  split at h8
  case h_2 => cases h8
  rename_i p hx
  simp only at hx
  subst hx
  obtain ⟨⟨m', nx'⟩, h9, h10⟩ := ob_eq.1 h8
  cases h10
  obtain ⟨u, hu⟩ := Option.isSome_iff_exists.1 kp
  have hg : (den ρ' p).getD undef = u := by rw [hu]; rfl
  show LeavesInM Fence.wide 0 P g a1.tmps _ a1.defers (.panicking [{ v := (den ρ' p).getD undef, recovered := false }]) w1
  rw [hg]
  exact leavesQ_ok hE hgo k2.d h9 k2.m fun ρ2 w2 j1 j2 => ⟨ρ2, u, rfl, k1.trans j1, den_mono j1 _ hu, j2⟩
theorem calF_ok {E : Env} (hE : EnvOk P E) {I : CalF} (hI : FnOk P I) {go : Go2} (hgo : GoOk P go) : FnOk P (calF E I go) := by
  intro f args m nx r e ρ us w0 w hargs hm
  unfold calF at e
  cases hi : I f args m nx with
  | some r' =>
    rw [hi] at e
    exact hI f args m nx r (by rw [hi]; exact e) ρ us w0 w hargs hm
  | none =>
    rw [hi] at e
    have e' : (ob (E.fn.get f) fun g => ob g.body fun c => oi (Nat.ble (len args) g.ntmps) (ob (go g.ntmps c ⟨⟨T.ofL args 0 .leaf, m, nx⟩, [], none⟩) fun o => joinE (backE E go g) o)) = some r := e
    obtain ⟨g, h1, h2⟩ := ob_eq.1 e'
    obtain ⟨c, h3, h4⟩ := ob_eq.1 h2
    obtain ⟨h5, h6⟩ := oi_eq.1 h4
    obtain ⟨o, h7, h8⟩ := ob_eq.1 h6
    rw [nble_iff, len_ok] at h5
    obtain ⟨hf, -⟩ := hE.fn f g h1
    have hul := denL_len hargs
    have hsz : us.toArray.size = us.length := rfl
    have R0 : RelC P ρ g.ntmps ⟨⟨T.ofL args 0 .leaf, m, nx⟩, [], none⟩ none ({ tmps := us.toArray ++ Array.replicate (g.ntmps - us.toArray.size) undef, defers := [] } : Act) w0 w := by
      refine ⟨⟨by simp; omega, fun i v hv => ?_⟩, hm, trivial, trivial⟩
      rw [T.get_ofL0] at hv
      obtain ⟨u, k1, k2⟩ := denL_get i hargs hv
      refine ⟨u, ?_, k1⟩
      rw [Array.getElem?_append_left (by have := (List.getElem?_eq_some_iff.1 k2).1; simpa using this)]
      simpa using k2
    refine (callsIn_wide (n := 0)).1 (callsIn_of_wp_marks hf h3 trivial (wpIn_mono (F := Fence.wide) (Q := PostE P w0 ρ g.ntmps none o) (hgo g.ntmps c _ _ h7 ρ none _ w0 w R0).1 ?_))
    rintro e1 a1 w1 ⟨⟨x, s⟩, k0, ρ', rfl, kp, k1, k2⟩
    obtain ⟨z, z1, z2, z3, z4⟩ := joinE_ok h8 k0
    have fin : leaveE E go g s = some z → LeavesInM Fence.wide 0 P g a1.tmps (fun e w' => ∃ ρ' u, e = .returned u ∧ Le ρ ρ' ∧ den ρ' r.1 = some u ∧ Emb P ρ' r.2.1 r.2.2 w0 w') a1.defers .returning w1 := by
      intro h9
      obtain ⟨⟨m', nx'⟩, h10, h11⟩ := ob_eq.1 h9
      obtain ⟨vs, h12, h13⟩ := ob_eq.1 h11
      cases h13
      refine leaves_ok hE hgo k2.d h10 k2.m fun ρ3 w' hle hw' => ?_
      obtain ⟨u, j1, j2⟩ := resV_ok hE hw' (k2.F.mono hle) h12
      exact ⟨u, j1, ρ3, u, rfl, k1.trans hle, z2 ▸ j2, hw'.weak z3 z4⟩
    unfold backE at z1
    cases x with
    | normal => exact fin z1
    | ret => exact fin z1
    | exit id => cases z1
    | goto l => cases z1
    | pan p =>
      obtain ⟨u, hu⟩ := Option.isSome_iff_exists.1 kp
      have hg : (den ρ' p).getD undef = u := by rw [hu]; rfl
      show LeavesInM Fence.wide 0 P g a1.tmps _ a1.defers (.panicking [{ v := (den ρ' p).getD undef, recovered := false }]) w1
      rw [hg]
      obtain ⟨⟨m', nx'⟩, h10, h11⟩ := ob_eq.1 (show leaveP E go g p s = some z from z1)
      obtain ⟨vs, h12, h13⟩ := ob_eq.1 h11
      cases h13
      refine leavesP_ok hE hgo k2.d hu h10 k2.m fun ρ3 w' hle hw' => ?_
      obtain ⟨u, j1, j2⟩ := resV_ok hE hw' (k2.F.mono hle) h12
      exact ⟨u, j1, ρ3, u, rfl, k1.trans hle, z2 ▸ j2, hw'.weak z3 z4⟩
theorem rdF_ok {go : Go2} (hgo : GoOk P go) : RdOk P (rdF go) := by
  intro l args m nx r e ρ us z w0 w hargs hz hm
  obtain ⟨⟨n, F, x, y⟩, h1, h2⟩ := ob_eq.1 e
  obtain ⟨o1, h3, h4⟩ := ob_eq.1 h2
  obtain ⟨fn, tmps, k1, k2⟩ := ynE_ok hm hz h1 hargs
  refine ⟨fn, tmps, x, y, k1, roundIn_of_wpIn trivial ?_⟩
  have R0 : RelC P ρ n ⟨⟨F, m, nx⟩, [], some l⟩ (some z.1) ({ tmps := tmps, defers := [] } : Act) w0 w := ⟨⟨k2.size, k2.at_⟩, hm, trivial, z.2, hz⟩
  refine wpIn_mono (F := FW (some z.1)) (hgo n x _ _ h3 ρ (some z.1) _ w0 w R0).1 ?_
  rintro e2 a2 w2 ⟨⟨e1, c1⟩, j0, ρ2, rfl, -, j1, j2⟩
  obtain ⟨t1, v1, v2, v3, v4⟩ := joinE_ok h4 j0
  unfold rdB at v1
  cases e1 <;> try cases v1
  have v1' : (ob (begE c1.s.m l) fun m1 => ob (go n y ⟨⟨c1.s.F, m1, c1.s.nx⟩, c1.ds, c1.ro⟩) fun o => joinE (endE l) o) = some t1 := v1
  obtain ⟨m1, h5, h6⟩ := ob_eq.1 v1'
  obtain ⟨o2, h7, h8⟩ := ob_eq.1 h6
  obtain ⟨w3, i1, i2⟩ := begE_ok j2.m (j1 l z hz) h5
  refine ⟨w3, i1, ?_⟩
  have R1 : RelC P ρ2 n ⟨⟨c1.s.F, m1, c1.s.nx⟩, c1.ds, c1.ro⟩ (some z.1) a2 w0 w3 := ⟨j2.F, i2, j2.d, j2.ro⟩
  refine wpIn_mono (F := FW (some z.1)) (hgo n y _ _ h7 ρ2 (some z.1) a2 w0 w3 R1).1 ?_
  rintro e4 a4 w4 ⟨⟨e3, c3⟩, q0, ρ4, rfl, -, q1, q2⟩
  obtain ⟨t2, y1, y2, y3, y4⟩ := joinE_ok h8 q0
  obtain ⟨hnp, y1⟩ := oi_eq.1 y1
  obtain ⟨m2, h9, h10⟩ := ob_eq.1 y1
  cases h10
  obtain ⟨w5, p1, p2⟩ := endRE_ok q2.m (q1 l z (j1 l z hz)) h9
  have fin : ∃ v w', (Instr.endRound z.1 (jumpE e3)).run P w4 = .ok v w' ∧ ∃ ρ' u, Ending.returned v = .returned u ∧ Le ρ ρ' ∧ den ρ' r.1 = some u ∧ Emb P ρ' r.2.1 r.2.2 w0 w' :=
    ⟨_, w5, p1, ρ4, _, rfl, j1.trans q1, by rw [← v2, ← y2, den_bool]; cases e3 <;> first | rfl | exact absurd hnp (by simp [isPan]), (p2.weak y3 y4).weak v3 v4⟩
  cases e3 with
  | pan p => cases hnp
  | normal => exact fin
  | exit id => exact fin
  | goto l => exact fin
  | ret => exact fin
theorem rfE_ok {E : Env} (hE : EnvOk P E) {cal : Cal} (hcal : CalOk P cal) {go : Go2} (hgo : GoOk P go) {N : Nat} {g : Operand} {ps : Array Tmp} {x y : Code} {s : SC} {o : Out (Ex × SC)} (e : rfE E cal N (go N) g ps.toList x y s = some o) {ρ : Pl} {r : Option Nat} {a : Act} {w0 : Base} {w : World} (h : RelC P ρ N s r a w0 w) :
    (Code.rangeFunc g ps x y).wpIn (FW r) 0 P (PostE P w0 ρ N r o) a w := by
  obtain ⟨fv, h1, h2⟩ := ob_eq.1 e
  have hf := ev_den h.F h1
  split at h2
  case h_2 => cases h2
  rename_i gi fa cap
  obtain ⟨fg, h3, h4⟩ := ob_eq.1 h2
  obtain ⟨fb, h5, h6⟩ := ob_eq.1 h4
  obtain ⟨⟨m1, nx1, ds1, l⟩, h7, h8⟩ := ob_eq.1 h6
  obtain ⟨⟨v, m2, nx2⟩, h9, h10⟩ := ob_eq.1 h8
  obtain ⟨⟨pd, m3⟩, h11, h12⟩ := ob_eq.1 h10
  obtain ⟨y1, y2, k1, k2, k3, k4⟩ := den_fn hf
  obtain ⟨ρ1, lw, i1, i2, mark, i3, i4⟩ := enterE_ok h.m h.ro h.F h7
  refine wpIn_rangeFunc fun fn _ => ?_
  obtain ⟨w1, i5, i6⟩ := i4 fn
  have hyl : den ρ1 (.yld l) = some (.func (.yield lw) #[] #[]) := by unfold den; rw [i2]; rfl
  refine ⟨lw, mark, w1, { target := .fn (.func gi) y2.toArray, args := y1.toArray ++ #[Value.func (.yield lw) #[] #[]] }, w1, gi, (y1 ++ ([Value.func (.yield lw) #[] #[]] ++ y2)).toArray, w1, i5, ?_, fun _ _ => trivial, ?_, fun hd => (by cases hd), ?_⟩
  · simp only [resolve, Deferred.ofValue, k4, Sem.run_pure]
    rw [map_toArray_eval]
    rfl
  · simp only [invoke]
    rw [callFunc_ok hE h3 h5]
    congr 2
    simp
  · have hargs : denL ρ1 (app fa (app [.yld l] cap)) = some (y1 ++ ([Value.func (.yield lw) #[] #[]] ++ y2)) := by
      rw [app_ok, app_ok]
      exact denL_append (denL_mono i1 _ k1) (denL_append (denL_cons.2 ⟨_, _, hyl, denL_nil _, rfl⟩) (denL_mono i1 _ k2))
    refine calls_FW ((hcal.fn gi _ m1 nx1 _ h9 ρ1 _ w0 w1 hargs i6).mono ?_)
    rintro e1 w2 ⟨ρ2, u, rfl, j1, j2, j3⟩
    obtain ⟨w3, p1, p2⟩ := endLE_ok j3 (j1 l _ i2) h11
    have hle : Le ρ ρ2 := i1.trans j1
    have R1 : RelC P ρ2 N ⟨⟨s.s.F, m3, nx2⟩, app ds1 s.ds, s.ro⟩ r { a with defers := mark ++ a.defers } w0 w3 :=
      ⟨⟨h.F.size, (h.F.mono hle).at_⟩, p2, DRel.append (i3.mono j1) (h.d.mono hle), h.ro.mono hle⟩
    refine ⟨pd, w3, p1, ?_⟩
    cases pd with
    | none =>
      cases h12
      exact ⟨_, rfl, ρ2, rfl, trivial, hle, R1⟩
    | some j =>
      exact wpIn_mono (hgo N j _ _ h12 ρ2 r _ w0 w3 R1).1 fun e2 a2 w2 j => j.mono hle fun q hq => hq
omit [Orig] in
theorem lastD_ok : ∀ {l pre : List Oper} {o : Oper} {c : Call}, lastD l = some (pre, o, c) → l = pre ++ [o] ∧ o.op = .defer c ∧ o.guard = none ∧ o.dst = none
  | [], _, _, _, h => by cases h
  | [x], pre, o, c, h => by
    have h' : (match x.op, x.guard, x.dst with
      | .defer c, none, none => some (([] : List Oper), x, c)
      | _, _, _ => none) = some (pre, o, c) := h
    split at h'
    · rename_i c' h1 h2 h3
      cases h'
      exact ⟨rfl, h1, h2, h3⟩
    · cases h'
  | x :: y :: t, pre, o, c, h => by
    have h' : (ob (lastD (y :: t)) fun q => some (x :: q.1, q.2)) = some (pre, o, c) := h
    obtain ⟨⟨p1, o1, c1⟩, h1, h2⟩ := ob_eq.1 h'
    cases h2
    obtain ⟨g1, g2⟩ := lastD_ok h1
    exact ⟨by rw [g1]; rfl, g2⟩
omit [Orig] in
theorem dfrE_ok {ρ : Pl} {N : Nat} {F : T SV} {a : Act} (hF : FRel ρ N F a) {o : Oper} {c : Call} (ho : o.op = .defer c) {d : DEnt} (e : dfrE F c = some d) (w : World) : ∃ D, (execOp a.eval o).run P w = .ok (.defer D) w ∧ DOk ρ d D := by
  obtain ⟨vs, h1, h2⟩ := ob_eq.1 e
  have hd := evL_den hF h1
  have hargs : c.args.map a.eval = (c.args.toList.map a.eval).toArray := map_toArray_eval a c.args
  split at h2
  · rename_i fo hc
    obtain ⟨fv, h3, h4⟩ := ob_eq.1 h2
    have hf := ev_den hF h3
    split at h4
    · rename_i g' x cap
      cases h4
      obtain ⟨y1, y2, k1, k2, k3, k4⟩ := den_fn hf
      refine ⟨{ target := .fn (.func g') y2.toArray, args := (y1 ++ c.args.toList.map a.eval).toArray }, ?_, y1 ++ c.args.toList.map a.eval, y2, by rw [app_ok]; exact denL_append k1 hd, k2, rfl⟩
      simp only [execOp, ho, resolve, hc, hargs, Deferred.ofValue, k4, Sem.run_bind, Sem.run_pure, Result.andThen_ok]
      congr 3
      simp
    · cases h4
  · cases h2
theorem panE_ok {E : Env} (hE : EnvOk P E) {pn : CalF} (hpn : PnOk P pn) {ρ : Pl} {N : Nat} {all : List Oper} {s s' : St} {v : SV} {D : List Deferred} {a : Act} {w0 : Base} {w : World} {r : Option Nat} (h : Rel P ρ N s D a w0 w) {o : Oper} (e : panE E pn all o s = some (v, s')) {K : Act → World → Prop} {Q : Exit → Act → World → Prop}
    (hQ : ∀ ρ' u w', Le ρ ρ' → den ρ' v = some u → Rel P ρ' N s' D a w0 w' → Q (.panic [{ v := u, recovered := false }]) a w') : if Region.wanted o (yielded all.toArray a.tmps) = true then o.wpIn (FW r) 0 P a w K Q else (∀ f, o.about P w a.eval = some f → (FW r).fn f) ∧ K (a.put o.dst undef) w := by
  obtain ⟨b, h1, h2⟩ := ob_eq.1 e
  obtain ⟨rfl, h3⟩ := oi_eq.1 h2
  rw [wantE_ok h.F h1, if_pos rfl]
  refine ⟨fun _ _ => trivial, ?_⟩
  split at h3
  · rename_i x hop
    rw [Oper.semAt_eq _ _ _ (fun c' h' => by rw [hop] at h'; cases h')]
    obtain ⟨p, h4, h5⟩ := ob_eq.1 h3
    obtain ⟨h6, h7⟩ := oi_eq.1 h5
    cases h7
    have hx := ev_den h.F h4
    unfold isIfc at h6
    split at h6
    · rename_i ti y
      have hx2 := hx
      unfold den at hx2
      obtain ⟨y', -, hy⟩ := Option.map_eq_some_iff.1 hx2
      have hrun : (execOp a.eval o).run P w = .halt (.panic (a.eval x)) w := by
        unfold execOp
        simp only [hop]
        rw [← hy]
        rfl
      rw [hrun, Oper.uponIn_panic]
      exact hQ ρ _ w (Le.refl ρ) hx h
    · cases h6
  · rename_i c hop
    rw [Oper.semAt_eq _ _ _ (fun c' h' => by rw [hop] at h'; cases h')]
    obtain ⟨⟨f, args⟩, g1, g2⟩ := ob_eq.1 h3
    obtain ⟨g, g3, g4⟩ := ob_eq.1 g2
    obtain ⟨bd, g5, g6⟩ := ob_eq.1 g4
    obtain ⟨q, g7, g8⟩ := ob_eq.1 g6
    cases g8
    obtain ⟨us, k1, k2⟩ := tgtE_ok hE h.F hop g1 g3 g5 w
    rw [k2]
    refine ⟨fun hd => (by cases hd), calls_FW ((hpn f args s.m s.nx q g7 ρ us w0 w k1 h.m).mono ?_)⟩
    rintro e1 w' ⟨ρ', u, rfl, h7, h8, h9⟩
    exact hQ ρ' u w' h7 h8 ⟨h.F.mono h7, h9, h.d⟩
  · cases h3
theorem panO_ok {E : Env} (hE : EnvOk P E) {cal : Cal} (hcal : CalOk P cal) {pn : CalF} (hpn : PnOk P pn) {N : Nat} {all : List Oper} {w0 : Base} {r : Option Nat} {Q : Exit → Act → World → Prop} : ∀ {l : List Oper} {ρ : Pl} {s s' : St} {v : SV} {D : List Deferred} {a : Act} {w : World}, Rel P ρ N s D a w0 w → panO E cal pn N all l s = some (v, s') →
    (∀ ρ' u a' w', Le ρ ρ' → den ρ' v = some u → Rel P ρ' N s' D a' w0 w' → Q (.panic [{ v := u, recovered := false }]) a' w') → wpListIn (FW r) 0 P all.toArray Q l a w
  | [], ρ, s, s', v, D, a, w, h, e, hQ => by cases e
  | o :: l, ρ, s, s', v, D, a, w, h, e, hQ => by
    have e' : Option.rec (motive := fun _ => Option (SV × St)) (panE E pn all o s) (fun s' => panO E cal pn N all l s') (stepE E cal N all o s) = some (v, s') := e
    cases h1 : stepE E cal N all o s with
    | some s1 =>
      rw [h1] at e'
      refine wpListIn_step fun K hK => stepE_ok hE hcal h h1 fun ρ' a' w' k1 k2 => hK a' w' ?_
      exact panO_ok hE hcal hpn k2 e' fun ρ2 u a2 w2 j1 j2 j3 => hQ ρ2 u a2 w2 (k1.trans j1) j2 j3
    | none =>
      rw [h1] at e'
      exact wpListIn_step fun K hK => panE_ok hE hpn h e' fun ρ' u w' k1 k2 k3 => hQ ρ' u a w' k1 k2 k3
theorem stepC_ok {E : Env} (hE : EnvOk P E) {cal : Cal} (hcal : CalOk P cal) {pn : CalF} (hpn : PnOk P pn) {nm : Nat → SC → SC} (hnm : NmOk P nm) {go : Go2} (hgo : GoOk P go) {N : Nat} {c : Code} {s : SC} {o : Out (Ex × SC)} (e : stepC E cal pn nm N (go N) c s = some o) {ρ : Pl} {r : Option Nat} {a : Act} {w0 : Base} {w : World} (h : RelC P ρ N s r a w0 w) :
    c.wpIn (FW r) 0 P (PostE P w0 ρ N r o) a w ∧ ∀ c0, c = .loop c0 → LW (FW r) 0 P c0 (PostE P w0 ρ N r o) a w := by
  have at1 : ∀ {q : Ex × SC} {o : Out (Ex × SC)} {ρ1 : Pl} {e1 : Exit} {a1 : Act} {w1 : World}, o.Mem q → e1 = q.1.toE ρ1 → Le ρ ρ1 → RelC P ρ1 N q.2 r a1 w0 w1 → (hp : q.1.ok ρ1 := by trivial) → PostE P w0 ρ N r o e1 a1 w1 := fun h0 h1 h2 h3 hp => ⟨_, h0, _, h1, hp, h2, h3⟩
  unfold stepC at e
  cases c <;> simp only at e
  case skip => cases e; exact ⟨wpIn_skip (at1 (q := (.normal, s)) rfl rfl (Le.refl ρ) h), fun c0 hc => by cases hc⟩
  case label l => cases e; exact ⟨wpIn_label (at1 (q := (.normal, s)) rfl rfl (Le.refl ρ) h), fun c0 hc => by cases hc⟩
  case exit id => cases e; exact ⟨wpIn_exit (at1 (q := (.exit id, s)) rfl rfl (Le.refl ρ) h), fun c0 hc => by cases hc⟩
  case goto l => cases e; exact ⟨wpIn_goto (at1 (q := (.goto l, s)) rfl rfl (Le.refl ρ) h), fun c0 hc => by cases hc⟩
  case ret => cases e; exact ⟨wpIn_ret (at1 (q := (.ret, s)) rfl rfl (Le.refl ρ) h), fun c0 hc => by cases hc⟩
  case rangeFunc g ps x y => exact ⟨rfE_ok hE hcal hgo e h, fun c0 hc => by cases hc⟩
  case refuse => cases e
  case region id ops draw =>
    refine ⟨?_, fun c0 hc => by cases hc⟩
    have hops : ops = ops.toList.toArray := by simp
    cases draw with
    | false =>
      have e00 : regO E cal pn N ops.toList s = some o := e
      unfold regO at e00
      cases hrn : regN E cal N ops.toList s with
      | none =>
        rw [hrn] at e00
        obtain ⟨⟨pv, sp⟩, h1, h2⟩ := ob_eq.1 (show (ob (panO E cal pn N ops.toList ops.toList s.s) fun q => some (Out.one (Ex.pan q.1, SC.mk q.2 s.ds s.ro))) = some o from e00)
        cases h2
        rw [hops]
        refine wpIn_region_lit ?_
        refine panO_ok hE hcal hpn h.rel (by simpa using h1) fun ρ' u a' w' k1 k2 k3 => ?_
        exact at1 (q := (.pan pv, _)) rfl (by show _ = Exit.panic [{ v := (den ρ' pv).getD undef, recovered := false }]; rw [k2]; rfl) k1 (h.next k1 k3) (by show (den ρ' pv).isSome = true; rw [k2]; rfl)
      | some o' =>
      rw [hrn] at e00
      cases e00
      have e0 : regN E cal N ops.toList s = some o := hrn
      unfold regN at e0
      cases hl : lastD ops.toList with
      | some q =>
        rw [hl] at e0
        obtain ⟨pre, od, cd⟩ := q
        obtain ⟨hro, e1⟩ := oi_eq.1 (show oi (noRo s.ro) (ob (opsO E cal N ops.toList pre s.s) fun o => bindO o fun s' => ob (dfrE s'.F cd) fun d => some (Out.one (Ex.normal, SC.mk s' (d :: s.ds) s.ro))) = some o from e0)
        obtain ⟨o1, h1, h2⟩ := ob_eq.1 e1
        obtain ⟨hsp, hop, hgd, hdst⟩ := lastD_ok hl
        have hr0 : s.ro = none := by
          cases hq : s.ro with
          | none => rfl
          | some i => rw [hq] at hro; cases hro
        have hr1 : r = none := by
          have := h.ro
          rw [hr0] at this
          cases r with
          | none => rfl
          | some l => exact this.elim
        subst hr1
        rw [hops]
        refine wpIn_region_lit ?_
        have := opsO_then (r := none) (tl := [od]) (Q := PostE P w0 ρ N none o) hE hcal h.rel h1 fun s' hs' ρ' a' w' k1 k2 => ?_
        · rw [← hsp] at this
          simpa using this
        · obtain ⟨o2, g1, g2⟩ := bindO_mem h2 hs'
          obtain ⟨d, g3, g4⟩ := ob_eq.1 g1
          cases g4
          obtain ⟨D, q1, q2⟩ := dfrE_ok k2.F hop g3 w'
          refine wpListIn_step fun K hK => ?_
          have hw : Region.wanted od (yielded ops.toList.toArray a'.tmps) = true := by unfold Region.wanted; rw [hgd]
          rw [if_pos hw]
          refine ⟨fun _ _ => trivial, ?_⟩
          show od.uponIn (FW none) 0 P a' K _ ((od.semAt none a'.eval).run P w')
          rw [Oper.semAt_none, q1, Oper.uponIn_defer, hdst]
          refine hK _ _ (wpListIn_nil (at1 (g2 _ rfl) rfl k1 ⟨⟨k2.F.size, k2.F.at_⟩, k2.m, ?_, h.ro.mono k1⟩))
          show DRel ρ' (d :: s.ds) (D :: a'.defers)
          exact ⟨q2, by rw [k2.d]; exact h.d.mono k1⟩
      | none =>
      rw [hl] at e0
      have e' : (ob (opsO E cal N ops.toList ops.toList s.s) fun o => bindO o fun s' => some (Out.one (Ex.normal, SC.mk s' s.ds s.ro))) = some o := e0
      obtain ⟨o1, h1, h2⟩ := ob_eq.1 e'
      rw [hops]
      refine wpIn_region_lit ?_
      refine opsO_ok hE hcal h.rel (by simpa using h1) fun s' hs' ρ' a' w' k1 k2 => ?_
      obtain ⟨o2, g1, g2⟩ := bindO_mem h2 hs'
      cases g1
      exact at1 (g2 _ rfl) rfl k1 (h.next k1 k2)
    | true =>
      have e' : (ob (drawE E cal N ops.toList s.s) fun s' => some (Out.one (Ex.normal, SC.mk s' s.ds s.ro))) = some o := e
      obtain ⟨s', h1, h2⟩ := ob_eq.1 e'
      cases h2
      rw [hops]
      exact drawE_ok hE hcal h.rel (by simpa using h1) fun ρ' a' w' k1 k2 => at1 (q := (.normal, _)) rfl rfl k1 (h.next k1 k2)
  case seq x y =>
    refine ⟨?_, fun c0 hc => by cases hc⟩
    obtain ⟨o1, h1, h2⟩ := ob_eq.1 e
    refine wpIn_seq (wpIn_mono (hgo N x s _ h1 ρ r a w0 w h).1 ?_)
    rintro e1 a1 w1 ⟨⟨x1, s1⟩, k0, ρ1, rfl, kp, k1, k2⟩
    obtain ⟨o2, g1, g2⟩ := bindO_mem h2 k0
    cases x1 with
    | normal => exact wpIn_mono (hgo N y s1 _ g1 ρ1 r a1 w0 w1 k2).1 fun e2 a2 w2 j => j.mono k1 g2
    | exit id => cases g1; exact at1 (g2 _ rfl) rfl k1 k2
    | goto l => cases g1; exact at1 (g2 _ rfl) rfl k1 k2
    | ret => cases g1; exact at1 (g2 _ rfl) rfl k1 k2
    | pan p => cases g1; exact at1 (g2 _ rfl) rfl k1 k2 kp
  case cond v x y =>
    refine ⟨?_, fun c0 hc => by cases hc⟩
    obtain ⟨v', h1, h2⟩ := ob_eq.1 e
    have hv := ev_den h.F h1
    cases h3 : condE v' x y with
    | none =>
      rw [h3] at h2
      obtain ⟨h4, h5⟩ := oi_eq.1 h2
      obtain ⟨o1, h6, h7⟩ := ob_eq.1 h5
      obtain ⟨o2, h8, h9⟩ := ob_eq.1 h7
      cases h9
      obtain ⟨t, ht⟩ := isB_ok h4 hv
      refine wpIn_cond ht ?_
      cases t with
      | true => exact wpIn_mono (hgo N x s _ h6 ρ r a w0 w h).1 fun e2 a2 w2 j => j.mono (o := .two o1 o2) (Le.refl ρ) fun q hq => show Out.Mem q o1 ∨ Out.Mem q o2 from Or.inl hq
      | false => exact wpIn_mono (hgo N y s _ h8 ρ r a w0 w h).1 fun e2 a2 w2 j => j.mono (o := .two o1 o2) (Le.refl ρ) fun q hq => show Out.Mem q o1 ∨ Out.Mem q o2 from Or.inr hq
    | some c' =>
      rw [h3] at h2
      have h4 : go N c' s = some o := h2
      unfold condE at h3
      split at h3
      · rename_i t
        rw [den_bool] at hv
        cases h3
        refine wpIn_cond (Option.some.inj hv).symm ?_
        cases t with
        | true => exact (hgo N x s _ h4 ρ r a w0 w h).1
        | false => exact (hgo N y s _ h4 ρ r a w0 w h).1
      · cases h3
  case block id c =>
    refine ⟨?_, fun c0 hc => by cases hc⟩
    obtain ⟨o1, h1, h2⟩ := ob_eq.1 e
    refine wpIn_block (wpIn_mono (hgo N c s _ h1 ρ r a w0 w h).1 ?_)
    rintro e1 a1 w1 ⟨⟨x1, s1⟩, k0, ρ1, rfl, kp, k1, k2⟩
    obtain ⟨o2, g1, g2⟩ := bindO_mem h2 k0
    obtain ⟨x2, h3, h4⟩ := ob_eq.1 g1
    cases h4
    cases x1 with
    | normal => cases h3; exact at1 (g2 _ rfl) rfl k1 k2
    | goto l => cases h3; exact at1 (g2 _ rfl) rfl k1 k2
    | ret => cases h3; exact at1 (g2 _ rfl) rfl k1 k2
    | pan p => cases h3; exact at1 (g2 _ rfl) rfl k1 k2 kp
    | exit j =>
      have h3' : some (Bool.rec (motive := fun _ => Ex) (Ex.exit j) .normal (Nat.beq j id)) = some x2 := h3
      have h3 := Option.some.inj h3'
      show if j = id then PostE P w0 ρ N r o .normal a1 w1 else PostE P w0 ρ N r o (.exit j) a1 w1
      by_cases hj : j = id
      · rw [if_pos hj]
        rw [nbeq_iff.2 hj] at h3
        subst h3
        exact at1 (g2 _ rfl) rfl k1 k2
      · rw [if_neg hj]
        rw [nbeq hj] at h3
        subst h3
        exact at1 (g2 _ rfl) rfl k1 k2
  case loop c =>
    have lw : LW (FW r) 0 P c (PostE P w0 ρ N r o) a w := by
      obtain ⟨o1, h1, h2⟩ := ob_eq.1 e
      refine LW_step (wpIn_mono (hgo N c s _ h1 ρ r a w0 w h).1 ?_)
      rintro e1 a1 w1 ⟨⟨x1, s1⟩, k0, ρ1, rfl, kp, k1, k2⟩
      obtain ⟨o2, g1, g2⟩ := bindO_mem h2 k0
      cases x1 with
      | normal => exact LW_mono ((hgo N (.loop c) (nm N s1) _ g1 ρ1 r a1 w0 w1 (hnm N s1 ρ1 r a1 w0 w1 k2)).2 c rfl) fun e2 a2 w2 j => j.mono k1 g2
      | exit id => cases g1; exact at1 (g2 _ rfl) rfl k1 k2
      | goto l => cases g1; exact at1 (g2 _ rfl) rfl k1 k2
      | ret => cases g1; exact at1 (g2 _ rfl) rfl k1 k2
      | pan p => cases g1; exact at1 (g2 _ rfl) rfl k1 k2 kp
    exact ⟨wpIn_of_LW lw, fun c0 hc => by cases hc; exact lw⟩
  case scope c =>
    refine ⟨?_, fun c0 hc => by cases hc⟩
    obtain ⟨o1, h1, h2⟩ := ob_eq.1 e
    refine wpIn_scope_straight (wpIn_mono (hgo N c s _ h1 ρ r a w0 w h).1 ?_)
    rintro e1 a1 w1 ⟨⟨x1, s1⟩, k0, ρ1, rfl, kp, k1, k2⟩
    obtain ⟨o2, g1, g2⟩ := bindO_mem h2 k0
    obtain ⟨x2, h3, h4⟩ := ob_eq.1 g1
    cases h4
    cases x1 with
    | normal => cases h3; exact at1 (g2 _ rfl) rfl k1 k2
    | goto l => cases h3
    | ret => cases h3; exact at1 (g2 _ rfl) rfl k1 k2
    | pan p => cases h3; exact at1 (g2 _ rfl) rfl k1 k2 kp
    | exit j => cases h3; exact at1 (g2 _ rfl) rfl k1 k2
end
theorem runE_ok {P : Program} {E : Env} (hE : EnvOk P E) {I : CalF} (hI : FnOk P I) {nm : Nat → SC → SC} (hnm : NmOk P nm) : ∀ n, GoOk P (runE E I nm n)
  | 0 => fun N c s q h => by cases h
  | n + 1 => fun N c s q h ρ r a w0 w hR => stepC_ok hE ⟨calF_ok hE hI (runE_ok hE hI hnm n), rdF_ok (runE_ok hE hI hnm n)⟩ (calP_ok hE (runE_ok hE hI hnm n)) hnm (runE_ok hE hI hnm n) h hR
theorem callN_ok {P : Program} {E : Env} (hE : EnvOk P E) {I : CalF} (hI : FnOk P I) {nm : Nat → SC → SC} (hnm : NmOk P nm) (n : Nat) : FnOk P (callN E I nm n) := calF_ok hE hI (runE_ok hE hI hnm n)
theorem callE_ok {P : Program} {E : Env} (hE : EnvOk P E) {I : CalF} (hI : FnOk P I) (n : Nat) : FnOk P (callE' E I n) := callN_ok hE hI (fun _ _ _ _ _ _ _ h => h) n
theorem noI_ok (P : Program) : FnOk P fun _ _ _ _ => none := fun f args m nx r h => by cases h
/-- a closed run, in any world. -/
def trueR (r : Option Res) : Bool := match r with
  | some (.bool true, _, _) => true
  | _ => false
omit [Orig] in
/-- a run whose arguments are not known. -/
theorem sym_run {P : Program} {E : Env} (hE : EnvOk P E) (w : World) (V : Nat → Option Value) {nx : Nat} (hV : ∀ b, nx ≤ b → b < big → V b = none) {I : CalF} (hI : letI : Orig := ⟨w, V⟩; FnOk P I) {n : Nat} {f : FuncId} {args : List SV} {v : SV} (h : (callE' E I n f args .leaf nx).map (·.1) = some v) {us : List Value} (hd : denL ⟨fun _ => none, V⟩ args = some us) :
    Calls P f us.toArray w fun e w' => ∃ ρ' u, (∀ i v, V i = some v → ρ'.val i = some v) ∧ e = .returned u ∧ den ρ' v = some u ∧ Touch [] w w' := by
  letI : Orig := ⟨w, V⟩
  obtain ⟨r, hr, rfl⟩ := Option.map_eq_some_iff.1 h
  refine (callE_ok hE hI n f args .leaf nx _ hr ⟨fun _ => none, V⟩ us (.of w) w hd (Emb.empty P w rfl hV)).mono ?_
  rintro e w' ⟨ρ', u, rfl, h1, h2, h3⟩
  exact ⟨ρ', u, h1.val, rfl, h2, h3.touch.touch⟩
omit [Orig] in
theorem closed_true {P : Program} {E : Env} (hE : EnvOk P E) {I : CalF} (hI : ∀ [Orig], FnOk P I) {n : Nat} {f : FuncId} (h : trueR (callE' E I n f [] .leaf 0) = true) (w : World) : Calls P f #[] w fun e w' => e = .returned (.bool true) ∧ Touch [] w w' := by
  cases hr : callE' E I n f [] .leaf 0 with
  | none => rw [hr] at h; cases h
  | some r =>
    obtain ⟨v, m, x⟩ := r
    rw [hr] at h
    refine (sym_run hE w (fun _ => none) (fun _ _ _ => rfl) (@hI ⟨w, fun _ => none⟩) (args := []) (v := v) (by rw [hr]; rfl) (denL_nil _)).mono ?_
    rintro e w' ⟨ρ', u, -, rfl, h2, h3⟩
    cases v <;> try cases h
    rename_i b
    cases b <;> try cases h
    rw [den_bool] at h2
    cases h2
    exact ⟨rfl, h3⟩
/-- the program's tables. -/
noncomputable def envOf (P : Program) : Env := ⟨T.ofL P.types.toList 0 .leaf, T.ofL P.funcs.toList 0 .leaf, fun t => and (not (P.stoodInHeld t)) (not (P.eqGuardType P.depth t)), false, false⟩
omit [Orig] in
theorem envOf_ok (P : Program) (h : (P.funcs.toList.all fun g => !(g.name == "runtime.NumGoroutine")) = true) (hm : P.follows .mixedOrders = true) : EnvOk P (envOf P) := by
  refine ⟨fun t i ht => ?_, fun f g hf => ?_, hm, fun t ht => by
    have ht' : and (not (P.stoodInHeld t)) (not (P.eqGuardType P.depth t)) = true := ht
    simpa using ht'⟩
  · have ht' : (T.ofL P.types.toList 0 .leaf).get t = some i := ht
    rw [T.get_ofL0] at ht'
    have hlt := (List.getElem?_eq_some_iff.1 ht').1
    have : P.types[t]? = some i := by simpa using ht'
    unfold Tables.info?
    rw [if_pos (by simpa using hlt)]
    exact this
  · have hf' : (T.ofL P.funcs.toList 0 .leaf).get f = some g := hf
    rw [T.get_ofL0] at hf'
    refine ⟨by simpa using hf', ?_⟩
    have := List.all_eq_true.1 h g (List.mem_of_getElem? hf')
    simpa using this
end Go.Proofs.YtodehmognjofhaaGreat

namespace Go.Proofs.YtodehmognjofhaaGreat
open Go.RowKit

variable [Orig]
theorem Emb.below {P : Program} {ρ : Pl} {m : T SObj} {nx : Nat} {w0 : Base} {w w' : World} (h : Emb P ρ m nx w0 w) (k : Below w.heap.size w w') : Emb P ρ m nx w0 w' := by
  refine ⟨⟨k.os.trans h.touch.os, k.tape.trans h.touch.tape, k.output.trans h.touch.output, Nat.le_trans h.touch.size k.size, fun j hj => ?_⟩, ?_, h.inj, h.fresh, fun b x hb => Nat.lt_of_lt_of_le (h.old b x hb) k.size, h.hole, h.x⟩
  · obtain ⟨h1, h2⟩ := h.touch.block j hj
    exact ⟨h1, (k.block j (Nat.lt_of_lt_of_le h1 h.touch.size)).trans h2⟩
  · intro b o hb
    obtain ⟨x, ob, a1, a2, a3, a4⟩ := h.obj b o hb
    exact ⟨x, ob, a1, a2, (k.block x.1 (h.old b x a1)).trans a3, a4⟩
/-- one contract more. -/
noncomputable def orI (g : FuncId) (one : List SV → T SObj → Nat → Option Res) (I : CalF) : CalF := fun f args m nx => Bool.rec (motive := fun _ => Option Res) (I f args m nx) (one args m nx) (Nat.beq f g)
theorem orI_ok {P : Program} {g : FuncId} {one : List SV → T SObj → Nat → Option Res} {I : CalF} (h1 : ∀ args m nx r, one args m nx = some r → ∀ (ρ : Pl) (us : List Value) (w0 : Base) (w : World), denL ρ args = some us → Emb P ρ m nx w0 w →
    Calls P g us.toArray w fun e w' => ∃ ρ' u, e = .returned u ∧ Le ρ ρ' ∧ den ρ' r.1 = some u ∧ Emb P ρ' r.2.1 r.2.2 w0 w') (hI : FnOk P I) : FnOk P (orI g one I) := by
  intro f args m nx r e ρ us w0 w hd hm
  have e' : Bool.rec (motive := fun _ => Option Res) (I f args m nx) (one args m nx) (Nat.beq f g) = some r := e
  cases hb : Nat.beq f g with
  | true =>
    rw [hb] at e'
    obtain rfl := nbeq_iff.1 hb
    exact h1 args m nx r e' ρ us w0 w hd hm
  | false =>
    rw [hb] at e'
    exact hI f args m nx r e' ρ us w0 w hd hm
/-- strings.Repeat. -/
noncomputable def repN (s : List Nat) (n : Nat) : List Nat := Nat.rec (motive := fun _ => List Nat) [] (fun _ ih => app s ih) n
noncomputable def repI (args : List SV) (m : T SObj) (nx : Nat) : Option Res := match args with
  | [.str s, .int .i64 (.ofNat n)] => oi (Nat.ble (Nat.mul (len s) n) 1048576) (oi (Nat.ble n 1048576) (some (.str (repN s n), m, nx)))
  | _ => none
omit [Orig] in
theorem repN_bytes (s : List Nat) : ∀ n, bytesOf (repN s n) = ⟨(Lib.repeatL (bytesOf s).data.toList n).toArray⟩
  | 0 => rfl
  | n + 1 => by
    show bytesOf (app s (repN s n)) = _
    rw [app_ok, bytesOf_append, repN_bytes s n]
    apply ByteArray.ext
    simp [Lib.repeatL]
omit [Orig] in
theorem repN_lt {s : List Nat} (h : ∀ x ∈ s, x < 256) : ∀ n, ∀ x ∈ repN s n, x < 256
  | 0, x, hx => by cases hx
  | n + 1, x, hx => by
    have hx' : x ∈ app s (repN s n) := hx
    rw [app_ok] at hx'
    exact (List.mem_append.1 hx').elim (h x) (repN_lt h n x)
theorem repI_ok {P : Program} {g : FuncId} (hg : ∀ (s : ByteArray) (c : Nat) (w : World), c ≤ 9223372036854775807 → s.size * c ≤ 140737488355328 →
    Calls P g #[.string s, .int .i64 c] w fun e w' => e = .returned (.string ⟨(Lib.repeatL s.data.toList c).toArray⟩) ∧ Below w.heap.size w w') :
    ∀ args m nx r, repI args m nx = some r → ∀ (ρ : Pl) (us : List Value) (w0 : Base) (w : World), denL ρ args = some us → Emb P ρ m nx w0 w →
    Calls P g us.toArray w fun e w' => ∃ ρ' u, e = .returned u ∧ Le ρ ρ' ∧ den ρ' r.1 = some u ∧ Emb P ρ' r.2.1 r.2.2 w0 w' := by
  intro args m nx r e ρ us w0 w hd hm
  unfold repI at e
  split at e
  case h_2 => cases e
  rename_i s n
  obtain ⟨h1, h2⟩ := oi_eq.1 e
  obtain ⟨h3, h4⟩ := oi_eq.1 h2
  cases h4
  rw [nble_iff, len_ok] at h1
  rw [nble_iff] at h3
  obtain ⟨u1, us1, d1, d2, rfl⟩ := denL_cons.1 hd
  obtain ⟨u2, us2, d3, d4, rfl⟩ := denL_cons.1 d2
  rw [denL_nil] at d4
  cases d4
  obtain ⟨rfl, hs⟩ := den_str d1
  rw [den_int] at d3
  cases d3
  refine (hg (bytesOf s) n w (by omega) (by rw [bytesOf_size]; have : s.length * n ≤ 1048576 := h1; omega)).mono ?_
  rintro e w' ⟨rfl, h5⟩
  refine ⟨ρ, _, rfl, Le.refl ρ, ?_, hm.below h5⟩
  rw [← repN_bytes, den_str_mk ρ (repN_lt hs n)]
end Go.Proofs.YtodehmognjofhaaGreat

namespace Go.Proofs.YtodehmognjofhaaGreat
open Go.RowKit

/-- a function that answers true and leaves memory as it is. -/
noncomputable def yesI (args : List SV) (m : T SObj) (nx : Nat) : Option Res := match args with
  | [] => some (.bool true, m, nx)
  | _ => none
variable [Orig]
theorem yesI_ok {P : Program} {g : FuncId} (hg : ∀ w : World, Calls P g #[] w fun e w' => e = .returned (.bool true) ∧ Touch [] w w') :
    ∀ args m nx r, yesI args m nx = some r → ∀ (ρ : Pl) (us : List Value) (w0 : Base) (w : World), denL ρ args = some us → Emb P ρ m nx w0 w →
    Calls P g us.toArray w fun e w' => ∃ ρ' u, e = .returned u ∧ Le ρ ρ' ∧ den ρ' r.1 = some u ∧ Emb P ρ' r.2.1 r.2.2 w0 w' := by
  intro args m nx r e ρ us w0 w hd hm
  unfold yesI at e
  split at e <;> cases e
  rw [denL_nil] at hd
  cases hd
  refine (hg w).mono ?_
  rintro e w' ⟨rfl, t⟩
  exact ⟨ρ, _, rfl, Le.refl ρ, den_bool _ _, hm.below (t.toBelow (Nat.le_refl _) (by simp))⟩
def Pl.vset (ρ : Pl) (i : Nat) (v : Value) : Pl := ⟨ρ.f, fun j => if j = i then some v else ρ.val j⟩
omit [Orig] in
theorem vset_le {ρ : Pl} {i : Nat} (v : Value) (h : ρ.val i = none) : Le ρ (ρ.vset i v) := by
  refine ⟨fun j u hj => ?_, fun _ _ h => h⟩
  show (if j = i then some v else ρ.val j) = some u
  by_cases e : j = i
  · subst e; rw [h] at hj; cases hj
  · rw [if_neg e]; exact hj
omit [Orig] in
theorem vset_same (ρ : Pl) (i : Nat) (v : Value) : (ρ.vset i v).val i = some v := if_pos rfl
/-- a value that was not known before. -/
theorem Emb.vset {P : Program} {ρ : Pl} {m : T SObj} {nx : Nat} {w0 : Base} {w : World} (h : Emb P ρ m nx w0 w) (hb : nx < big) (v : Value) : Emb P (ρ.vset nx v) m (nx + 1) w0 w ∧ Le ρ (ρ.vset nx v) := by
  have hle := vset_le v (h.x.vfr nx (Nat.le_refl _) hb)
  refine ⟨⟨h.touch, fun b o hb => let ⟨x, ob, a1, a2, a3, a4⟩ := h.obj b o hb; ⟨x, ob, a1, a2, a3, a4.mono hle⟩, h.inj, fun b hb => h.fresh b (by omega), h.old, fun b hb => ⟨Nat.lt_succ_of_lt (h.hole b hb).1, (h.hole b hb).2⟩, fun b hb hb2 => ?_, fun i u hi => hle.val i u (h.x.vals i u hi), h.x.org⟩, hle⟩
  show (if b = nx then some v else ρ.val b) = none
  rw [if_neg (by omega)]
  exact h.x.vfr b (by omega) hb2
end Go.Proofs.YtodehmognjofhaaGreat

namespace Go.Proofs.YtodehmognjofhaaGreat
open Go.RowKit

/-- what is the same wherever memory lies: texts, numbers, truth values, and several of them. -/
def pureS : SV → Bool
  | .str _ => true
  | .int _ _ => true
  | .bool _ => true
  | _ => false
def pureT : SV → Bool
  | .tup l => l.all pureS
  | x => pureS x
theorem pureS_den {x : SV} (h : pureS x = true) (ρ ρ' : Pl) : den ρ x = den ρ' x := by
  cases x <;> simp only [pureS, Bool.false_eq_true] at h
  all_goals simp [den]
theorem pureL_den : ∀ {l : List SV}, l.all pureS = true → ∀ (ρ ρ' : Pl), denL ρ l = denL ρ' l
  | [], _, ρ, ρ' => by rw [denL_nil, denL_nil]
  | x :: l, h, ρ, ρ' => by
    rw [List.all_cons, Bool.and_eq_true] at h
    have h1 := pureS_den h.1 ρ ρ'
    have h2 := pureL_den h.2 ρ ρ'
    cases hx : den ρ x with
    | none =>
      have a : denL ρ (x :: l) = none := by
        cases hq : denL ρ (x :: l) with
        | none => rfl
        | some us => obtain ⟨u, vs, e1, -, -⟩ := denL_cons.1 hq; rw [hx] at e1; cases e1
      have b : denL ρ' (x :: l) = none := by
        cases hq : denL ρ' (x :: l) with
        | none => rfl
        | some us => obtain ⟨u, vs, e1, -, -⟩ := denL_cons.1 hq; rw [← h1, hx] at e1; cases e1
      rw [a, b]
    | some u =>
      cases hl : denL ρ l with
      | none =>
        have a : denL ρ (x :: l) = none := by
          cases hq : denL ρ (x :: l) with
          | none => rfl
          | some us => obtain ⟨u, vs, -, e1, -⟩ := denL_cons.1 hq; rw [hl] at e1; cases e1
        have b : denL ρ' (x :: l) = none := by
          cases hq : denL ρ' (x :: l) with
          | none => rfl
          | some us => obtain ⟨u, vs, -, e1, -⟩ := denL_cons.1 hq; rw [← h2, hl] at e1; cases e1
        rw [a, b]
      | some us =>
        rw [denL_cons.2 ⟨u, us, hx, hl, rfl⟩, denL_cons.2 ⟨u, us, by rw [← h1]; exact hx, by rw [← h2]; exact hl, rfl⟩]
theorem pureT_den {x : SV} (h : pureT x = true) (ρ ρ' : Pl) : den ρ x = den ρ' x := by
  unfold pureT at h
  split at h
  · rename_i l
    unfold den
    rw [pureL_den h ρ ρ']
  · exact pureS_den h ρ ρ'
noncomputable def retI (a : List SV) (v : SV) (args : List SV) (m : T SObj) (nx : Nat) : Option Res := Bool.rec (motive := fun _ => Option Res) none (some (v, m, nx)) (svEqL args a)
noncomputable def resIs (v : SV) (r : Option Res) : Bool := match r with
  | some (u, _, _) => svEq u v
  | none => false
theorem ret_ok {P : Program} {E : Env} (hE : EnvOk P E) {I : CalF} (hI : ∀ [Orig], FnOk P I) {n : Nat} {f : FuncId} {a : List SV} {v : SV} (h : resIs v (callE' E I n f a .leaf 0) = true) (h1 : a.all pureS = true) (h2 : pureT v = true) [Orig] :
    ∀ args m nx r, retI a v args m nx = some r → ∀ (ρ : Pl) (us : List Value) (w0 : Base) (w : World), denL ρ args = some us → Emb P ρ m nx w0 w →
    Calls P f us.toArray w fun e w' => ∃ ρ' u, e = .returned u ∧ Le ρ ρ' ∧ den ρ' r.1 = some u ∧ Emb P ρ' r.2.1 r.2.2 w0 w' := by
  intro args m nx r e ρ us w0 w hd hm
  unfold retI at e
  cases hb : svEqL args a with
  | false => rw [hb] at e; cases e
  | true =>
    rw [hb] at e
    cases e
    obtain rfl := svEqL_ok hb
    cases hr : callE' E I n f args .leaf 0 with
    | none => rw [hr] at h; cases h
    | some q =>
      obtain ⟨v', m', x'⟩ := q
      rw [hr] at h
      obtain rfl := svEq_ok (show svEq v' v = true from h)
      refine (sym_run hE w (fun _ => none) (fun _ _ _ => rfl) (@hI ⟨w, fun _ => none⟩) (args := args) (v := v') (by rw [hr]; rfl) (us := us) (by rw [pureL_den h1 _ ρ]; exact hd)).mono ?_
      rintro e w' ⟨ρ', u, -, rfl, g1, g2⟩
      exact ⟨ρ, u, rfl, Le.refl ρ, by rw [pureT_den h2 ρ ρ']; exact g1, hm.below (g2.toBelow (Nat.le_refl _) (by simp))⟩
end Go.Proofs.YtodehmognjofhaaGreat

namespace Go.Proofs.YtodehmognjofhaaGreat
open Go.RowKit

/-- the same object (records of loops are never the same). -/
noncomputable def sbEq (a b : SObj) : Bool := match a, b with
  | .cells cs e o, .cells ds f p => and (Nat.beq e f) (and (o == p) (svEqL cs ds))
  | .map es c, .map fs d => and (Nat.beq c d) (enEq es fs)
  | .defr a, .defr b => a == b
  | _, _ => false
theorem sbEq_ok {a b : SObj} (h : sbEq a b = true) : a = b := by
  unfold sbEq at h
  split at h
  · simp only [Bool.and_eq_true, nbeq_iff, beq_iff_eq] at h
    rw [h.1, h.2.1, svEqL_ok h.2.2]
  · simp only [Bool.and_eq_true, nbeq_iff] at h
    rw [h.1, enEq_ok h.2]
  · rw [beq_iff_eq] at h; rw [h]
  · cases h
noncomputable def ooEq (a b : Option SObj) : Bool := match a, b with
  | none, none => true
  | some a, some b => sbEq a b
  | _, _ => false
theorem ooEq_ok {a b : Option SObj} (h : ooEq a b = true) : a = b := by
  unfold ooEq at h
  split at h
  · rfl
  · rw [sbEq_ok h]
  · cases h
noncomputable def subO (a b : Option SObj) : Bool := match a with
  | none => true
  | a => ooEq a b
theorem subO_ok {a b : Option SObj} (h : subO a b = true) {o : SObj} (e : a = some o) : b = some o := by
  subst e
  exact (ooEq_ok (show ooEq (some o) b = true from h)).symm
/-- what the first one has the second one has. -/
noncomputable def tSub (a : T SObj) : T SObj → Bool := T.rec (motive := fun _ => T SObj → Bool) (fun _ => true) (fun v _ _ il ir b => T.rec (motive := fun _ => Bool) (and (subO v none) (and (il .leaf) (ir .leaf))) (fun w l r _ _ => and (subO v w) (and (il l) (ir r))) b) a
theorem tSub_ok : ∀ {a b : T SObj}, tSub a b = true → ∀ k o, a.get k = some o → b.get k = some o
  | .leaf, b, h, k, o, e => by rw [T.get_leaf] at e; cases e
  | .node v l r, .leaf, h, k, o, e => by
    have h' : and (subO v none) (and (tSub l .leaf) (tSub r .leaf)) = true := h
    simp only [Bool.and_eq_true] at h'
    rw [T.get_node] at e
    split at e
    · have := subO_ok h'.1 e; cases this
    · split at e
      · have := tSub_ok h'.2.1 _ o e; rw [T.get_leaf] at this; cases this
      · have := tSub_ok h'.2.2 _ o e; rw [T.get_leaf] at this; cases this
  | .node v l r, .node w l' r', h, k, o, e => by
    have h' : and (subO v w) (and (tSub l l') (tSub r r')) = true := h
    simp only [Bool.and_eq_true] at h'
    rw [T.get_node] at e ⊢
    split at e
    · rename_i hk
      rw [if_pos hk]; exact subO_ok h'.1 e
    · rename_i hk
      rw [if_neg hk]
      split at e
      · rename_i hk2
        rw [if_pos hk2]; exact tSub_ok h'.2.1 _ o e
      · rename_i hk2
        rw [if_neg hk2]; exact tSub_ok h'.2.2 _ o e
/-- memory as a list. -/
noncomputable def memL (l : List (Nat × SObj)) : T SObj := List.rec (motive := fun _ => T SObj) .leaf (fun x _ ih => ih.put (some x.2) x.1) l
noncomputable def ckB (r : Option Res) (v : SV) (m : T SObj) (nx : Nat) : Bool := match r with
  | some (u, m', nx') => and (svEq u v) (and (Nat.beq nx' nx) (tSub m m'))
  | none => false
noncomputable def ckI (a : List SV) (m0 : T SObj) (nx0 : Nat) (v : SV) (m1 : T SObj) (nx1 : Nat) (args : List SV) (m : T SObj) (nx : Nat) : Option Res := oi (svEqL args a) (oi (Nat.beq nx nx0) (oi (tSub m0 m) (some (v, m1, nx1))))
theorem ck_ok {P : Program} {E : Env} (hE : EnvOk P E) {I : CalF} {n : Nat} {f : FuncId} {a : List SV} {m0 : T SObj} {nx0 : Nat} {v : SV} {m1 : T SObj} {nx1 : Nat} (h : ckB (callE' E I n f a m0 nx0) v m1 nx1 = true) [Orig] (hI : FnOk P I) :
    ∀ args m nx r, ckI a m0 nx0 v m1 nx1 args m nx = some r → ∀ (ρ : Pl) (us : List Value) (w0 : Base) (w : World), denL ρ args = some us → Emb P ρ m nx w0 w →
    Calls P f us.toArray w fun e w' => ∃ ρ' u, e = .returned u ∧ Le ρ ρ' ∧ den ρ' r.1 = some u ∧ Emb P ρ' r.2.1 r.2.2 w0 w' := by
  intro args m nx r e ρ us w0 w hd hm
  obtain ⟨h1, e1⟩ := oi_eq.1 e
  obtain ⟨h2, e2⟩ := oi_eq.1 e1
  obtain ⟨h3, e3⟩ := oi_eq.1 e2
  cases e3
  obtain rfl := svEqL_ok h1
  obtain rfl := nbeq_iff.1 h2
  cases hr : callE' E I n f args m0 nx with
  | none => rw [hr] at h; cases h
  | some q =>
    obtain ⟨u0, mq, nq⟩ := q
    rw [hr] at h
    have h' : and (svEq u0 v) (and (Nat.beq nq nx1) (tSub m1 mq)) = true := h
    simp only [Bool.and_eq_true, nbeq_iff] at h'
    obtain ⟨g1, rfl, g3⟩ := h'
    obtain rfl := svEq_ok g1
    refine (callE_ok hE hI n f args m0 nx _ hr ρ us w0 w hd (hm.weak (fun c o hc => tSub_ok h3 c o hc) (Nat.le_refl _))).mono ?_
    rintro x w' ⟨ρ', u, rfl, k1, k2, k3⟩
    exact ⟨ρ', u, rfl, k1, k2, k3.weak (fun c o hc => tSub_ok g3 c o hc) (Nat.le_refl _)⟩
/-- so many sectors of bytes 0, ahead of others. -/
noncomputable def zC (n : Nat) (l : List SV) : List SV := Nat.rec (motive := fun _ => List SV) l (fun _ ih => .chk 512 (repK 0 512) :: ih) n
/-- a contract ahead of others, that may be silent. -/
noncomputable def orf (g : FuncId) (one : List SV → T SObj → Nat → Option Res) (I : CalF) : CalF := fun f a m nx => Option.rec (motive := fun _ => Option Res) (I f a m nx) (fun r => some r) (orI g one (fun _ _ _ _ => none) f a m nx)
theorem orf_ok [Orig] {P : Program} {g : FuncId} {one : List SV → T SObj → Nat → Option Res} {I : CalF} (h1 : ∀ args m nx r, one args m nx = some r → ∀ (ρ : Pl) (us : List Value) (w0 : Base) (w : World), denL ρ args = some us → Emb P ρ m nx w0 w →
    Calls P g us.toArray w fun e w' => ∃ ρ' u, e = .returned u ∧ Le ρ ρ' ∧ den ρ' r.1 = some u ∧ Emb P ρ' r.2.1 r.2.2 w0 w') (hI : FnOk P I) : FnOk P (orf g one I) := by
  intro f args m nx r e
  unfold orf at e
  cases h : orI g one (fun _ _ _ _ => none) f args m nx with
  | some q =>
    rw [h] at e
    exact orI_ok h1 (noI_ok P) f args m nx r (by rw [h]; exact e)
  | none =>
    rw [h] at e
    exact hI f args m nx r e
end Go.Proofs.YtodehmognjofhaaGreat

namespace Go.Proofs.YtodehmognjofhaaGreat
open Go.RowKit

/-- strings.Join. -/
noncomputable def joinT (x sep ih : List Nat) (t : List (List Nat)) : List Nat := match t with
  | [] => x
  | _ => app x (app sep ih)
noncomputable def joinN (sep : List Nat) (xs : List (List Nat)) : List Nat := List.rec (motive := fun _ => List Nat) [] (fun x t ih => joinT x sep ih t) xs
noncomputable def strF (ih : Option (List (List Nat))) (v : SV) : Option (List (List Nat)) := match v with
  | .str s => ob ih fun r => some (s :: r)
  | _ => none
noncomputable def strsL (l : List SV) : Option (List (List Nat)) := List.rec (motive := fun _ => Option (List (List Nat))) (some []) (fun v _ ih => strF ih v) l
noncomputable def joinR (m : T SObj) (b o n : Nat) (sep : List Nat) (nx : Nat) : Option Res := ob (cellsE m b) fun cs => oi (Nat.ble (Nat.add o n) (lenC cs)) (oi (Nat.ble n 1048576) (ob (strsL (tkC n (drpC o cs))) fun xs =>
  oi (Nat.ble (len (joinN sep xs)) 1048576) (some (.str (joinN sep xs), m, nx))))
noncomputable def joinI (args : List SV) (m : T SObj) (nx : Nat) : Option Res := match args with
  | [.slc b o n c, .str sep] => oi (Nat.ble n c) (joinR m b o n sep nx)
  | [.slu b o n _, .str sep] => joinR m b o n sep nx
  | [.nslc, .str _] => some (.str [], m, nx)
  | _ => none
structure JoinOk (P : Program) (g : FuncId) : Prop where
  z : ∀ (a : Option Addr) (c : Nat) (sep : ByteArray) (w : World), Calls P g #[.slice a 0 c, .string sep] w fun e w' => e = .returned (.string ⟨#[]⟩) ∧ w' = w
  o : ∀ (bk o c : Nat) (x sep : ByteArray) (w : World), w.cell? ⟨bk, o, none⟩ = some (.string x) → Calls P g #[.slice (some ⟨bk, o, none⟩) 1 c, .string sep] w fun e w' => e = .returned (.string x) ∧ w' = w
  m : ∀ (bk o c : Nat) (xs : List ByteArray) (sep : ByteArray) (w : World), (∀ (j : Nat) x, xs[j]? = some x → w.cell? ⟨bk, o + j, none⟩ = some (.string x)) → bk < w.heap.size → 2 ≤ xs.length → xs.length ≤ 140737488355328 → xs.length ≤ c →
    (Lib.join (xs.map (·.data.toList)) sep.data.toList).length ≤ 140737488355328 → Calls P g #[.slice (some ⟨bk, o, none⟩) xs.length c, .string sep] w fun e w' => e = .returned (.string ⟨(Lib.join (xs.map (·.data.toList)) sep.data.toList).toArray⟩) ∧ Below w.heap.size w w'
theorem joinN_lib (sep : List Nat) : ∀ xs : List (List Nat), (joinN sep xs).map UInt8.ofNat = Lib.join (xs.map fun x => x.map UInt8.ofNat) (sep.map UInt8.ofNat)
  | [] => rfl
  | [x] => by
    show (joinT x sep (joinN sep []) []).map UInt8.ofNat = _
    simp [joinT, Lib.join, List.intercalate]
  | x :: y :: t => by
    show (joinT x sep (joinN sep (y :: t)) (y :: t)).map UInt8.ofNat = _
    have ih := joinN_lib sep (y :: t)
    show (app x (app sep (joinN sep (y :: t)))).map UInt8.ofNat = _
    rw [app_ok, app_ok, List.map_append, List.map_append, ih]
    simp [Lib.join, List.intercalate]
theorem joinN_lt {sep : List Nat} (hs : ∀ x ∈ sep, x < 256) : ∀ {xs : List (List Nat)}, (∀ s ∈ xs, ∀ x ∈ s, x < 256) → ∀ x ∈ joinN sep xs, x < 256
  | [], _, x, hx => by cases hx
  | [s], h, x, hx => h s (by simp) x hx
  | s :: y :: t, h, x, hx => by
    have hx' : x ∈ app s (app sep (joinN sep (y :: t))) := hx
    rw [app_ok, app_ok] at hx'
    rcases List.mem_append.1 hx' with hx' | hx'
    · exact h s (by simp) x hx'
    · rcases List.mem_append.1 hx' with hx' | hx'
      · exact hs x hx'
      · exact joinN_lt hs (fun s' h' => h s' (by simp [h'])) x hx'
theorem strsL_ok {ρ : Pl} : ∀ {l : List SV} {xs : List (List Nat)} {us : List Value}, strsL l = some xs → denC ρ l = some us → us = xs.map (fun s => Value.string (bytesOf s)) ∧ ∀ s ∈ xs, ∀ x ∈ s, x < 256
  | [], xs, us, h, hd => by cases h; rw [denC_nil] at hd; cases hd; exact ⟨rfl, by simp⟩
  | v :: l, xs, us, h, hd => by
    have h' : strF (strsL l) v = some xs := h
    obtain ⟨a, us', h1, h2, rfl⟩ := denC_cons.1 hd
    unfold strF at h'
    split at h'
    · rename_i s
      obtain ⟨r, h3, h4⟩ := ob_eq.1 h'
      cases h4
      rw [cellV_one rfl] at h1
      obtain ⟨u, h5, rfl⟩ := Option.map_eq_some_iff.1 h1
      obtain ⟨rfl, h6⟩ := den_str h5
      obtain ⟨g1, g2⟩ := strsL_ok h3 h2
      refine ⟨by rw [g1]; rfl, fun s' hs' => ?_⟩
      rcases List.mem_cons.1 hs' with rfl | hs'
      · exact h6
      · exact g2 s' hs'
    · cases h'
variable [Orig]
theorem joinI_ok {P : Program} {g : FuncId} (hg : JoinOk P g) : ∀ args m nx r, joinI args m nx = some r → ∀ (ρ : Pl) (us : List Value) (w0 : Base) (w : World), denL ρ args = some us → Emb P ρ m nx w0 w →
    Calls P g us.toArray w fun e w' => ∃ ρ' u, e = .returned u ∧ Le ρ ρ' ∧ den ρ' r.1 = some u ∧ Emb P ρ' r.2.1 r.2.2 w0 w' := by
  intro args m nx r e ρ us w0 w hd hm
  have key : ∀ {b o n c : Nat} {sep : List Nat} {x : Nat × Nat}, joinR m b o n sep nx = some r → ρ b = some x → n ≤ c → (∀ y ∈ sep, y < 256) →
      Calls P g #[.slice (some ⟨x.1, o, none⟩) n c, .string (bytesOf sep)] w fun e w' => ∃ ρ' u, e = .returned u ∧ Le ρ ρ' ∧ den ρ' r.1 = some u ∧ Emb P ρ' r.2.1 r.2.2 w0 w' := by
    intro b o n c sep x e hx hc hs
    obtain ⟨cs, h1, h2⟩ := ob_eq.1 e
    obtain ⟨h3, h4⟩ := oi_eq.1 h2
    obtain ⟨h5, h6⟩ := oi_eq.1 h4
    obtain ⟨xs, h7, h8⟩ := ob_eq.1 h6
    obtain ⟨h9, h10⟩ := oi_eq.1 h8
    cases h10
    rw [nble_iff] at h3 h5
    rw [nble_iff, len_ok] at h9
    obtain ⟨vs, a2, a3, a4, a5⟩ := hm.seg h1 hx (show o + n ≤ lenC cs from h3)
    obtain ⟨b1, b2⟩ := strsL_ok h7 (denC_tk n (denC_drp o a2))
    rw [b1] at a4 a5
    have hn : xs.length = n := by simpa using a4
    have hcell : ∀ (j : Nat) s, (xs.map bytesOf)[j]? = some s → w.cell? ⟨x.1, o + j, none⟩ = some (.string s) := by
      intro j s hj
      have := a5 j (.string s) (by
        rw [List.getElem?_map] at hj ⊢
        obtain ⟨t, h, rfl⟩ := Option.map_eq_some_iff.1 hj
        rw [h]; rfl)
      rwa [Addr.add_lit] at this
    have hlib : (Lib.join ((xs.map bytesOf).map (·.data.toList)) (bytesOf sep).data.toList) = (joinN sep xs).map UInt8.ofNat := by
      rw [joinN_lib, List.map_map]
      congr 1
    have hden : den ρ (.str (joinN sep xs)) = some (.string (bytesOf (joinN sep xs))) := den_str_mk ρ (joinN_lt hs b2)
    subst hn
    rcases xs with _ | ⟨s, _ | ⟨t, xs⟩⟩
    · refine (hg.z _ _ _ _).mono ?_
      rintro e w' ⟨rfl, rfl⟩
      exact ⟨ρ, _, rfl, Le.refl ρ, hden, hm⟩
    · refine (hg.o x.1 o c (bytesOf s) _ w (hcell 0 _ rfl)).mono ?_
      rintro e w' ⟨rfl, rfl⟩
      exact ⟨ρ, _, rfl, Le.refl ρ, hden, hm⟩
    · have hlen : ((s :: t :: xs).map bytesOf).length = (s :: t :: xs).length := List.length_map _
      have h2 : 2 ≤ (s :: t :: xs).length := by simp
      have := hg.m x.1 o c ((s :: t :: xs).map bytesOf) (bytesOf sep) w hcell (hm.old b x hx) (by omega) (by omega) (by omega) (by rw [hlib, List.length_map]; have : (joinN sep (s :: t :: xs)).length ≤ 1048576 := h9; omega)
      rw [hlen] at this
      refine this.mono ?_
      rintro e w' ⟨rfl, k⟩
      refine ⟨ρ, _, rfl, Le.refl ρ, ?_, hm.below k⟩
      rw [hlib]
      exact hden
  unfold joinI at e
  split at e
  · rename_i b o n c sep
    obtain ⟨h1, h2⟩ := oi_eq.1 e
    rw [nble_iff] at h1
    obtain ⟨u1, us1, d1, d2, rfl⟩ := denL_cons.1 hd
    obtain ⟨u2, us2, d3, d4, rfl⟩ := denL_cons.1 d2
    rw [denL_nil] at d4
    cases d4
    obtain ⟨x, hx, rfl⟩ := den_slc d1
    obtain ⟨rfl, hs⟩ := den_str d3
    exact key h2 hx h1 hs
  · rename_i b o n k sep
    obtain ⟨u1, us1, d1, d2, rfl⟩ := denL_cons.1 hd
    obtain ⟨u2, us2, d3, d4, rfl⟩ := denL_cons.1 d2
    rw [denL_nil] at d4
    cases d4
    obtain ⟨x, hx, hk, rfl⟩ := den_slu d1
    obtain ⟨rfl, hs⟩ := den_str d3
    exact key e hx (by omega) hs
  · cases e
    obtain ⟨u1, us1, d1, d2, rfl⟩ := denL_cons.1 hd
    obtain ⟨u2, us2, d3, d4, rfl⟩ := denL_cons.1 d2
    rw [denL_nil] at d4
    cases d4
    rw [den_nslc] at d1
    cases d1
    obtain ⟨rfl, hs⟩ := den_str d3
    refine (hg.z _ _ _ _).mono ?_
    rintro e w' ⟨rfl, rfl⟩
    exact ⟨ρ, _, rfl, Le.refl ρ, by rw [den_str_mk ρ (by simp)]; rfl, hm⟩
  · cases e
end Go.Proofs.YtodehmognjofhaaGreat
