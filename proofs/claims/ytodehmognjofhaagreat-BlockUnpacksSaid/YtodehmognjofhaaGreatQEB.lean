/-
  A run by the kernel: comparisons, look-ups, what is nil.
-/
import Derived.Test.YtodehmognjofhaaGreatQEA
import Derived.Laws.StructEq
import Derived.LaidEql
import Derived.Stop.BytesEq
import Derived.Laws.Cover3
import Derived.Laws.IdiomCopy
import Derived.Laws.MakeOwn
import Derived.Great.BuildSlice
import Derived.Laws.IdiomStrings
namespace Go.Proofs.YtodehmognjofhaaGreat
open Go.RowKit

def kq (a b : IntKind) : Bool := match a, b with
  | .i8, .i8 | .i16, .i16 | .i32, .i32 | .i64, .i64 | .u8, .u8 | .u16, .u16 | .u32, .u32 | .u64, .u64 => true
  | _, _ => false
theorem kq_ok {a b : IntKind} (h : kq a b = true) : a = b := by cases a <;> cases b <;> first | rfl | cases h
/-- which blocks are known to be apart. -/
def Held (ρ : Pl) (m : T SObj) (w : World) : Prop := (∀ b cs e x, m.get b = some (.cells cs e false) → ρ b = some x → ∃ c t, w.heap[x.1]? = some (.cells c t (0, 0))) ∧ ∀ b b' x x', (m.get b).isSome = true → (m.get b').isSome = true → ρ b = some x → ρ b' = some x' → x.1 = x'.1 → b = b'
theorem Emb.held [Orig] {P : Program} {ρ : Pl} {m : T SObj} {nx : Nat} {w0 : Base} {w : World} (h : Emb P ρ m nx w0 w) : Held ρ m w := by
  refine ⟨fun b cs e x hb hx => ?_, h.inj⟩
  obtain ⟨x', ob, h1, -, h2, h3⟩ := h.obj b _ hb
  rw [hx] at h1
  cases h1
  cases ob <;> try exact h3.elim
  obtain ⟨-, -, ⟨-, hz⟩, -⟩ := h3
  obtain rfl := hz rfl
  exact ⟨_, _, h2⟩
noncomputable def hasB (m : T SObj) (b : Nat) : Bool := match m.get b with
  | some (.cells _ _ false) => true
  | _ => false
theorem hasB_ok {m : T SObj} {b : Nat} (h : hasB m b = true) : ∃ cs e, m.get b = some (.cells cs e false) := by
  unfold hasB at h
  split at h
  · rename_i cs e h1
    exact ⟨cs, e, h1⟩
  · cases h
noncomputable def ptrEq (m : T SObj) (b o b' o' : Nat) : Option Bool := Bool.rec (motive := fun _ => Option Bool) (oi (hasB m b) (oi (hasB m b') (some false))) (some (Nat.beq o o')) (Nat.beq b b')
theorem ptrEq_ok {P : Program} {ρ : Pl} {m : T SObj} {w : World} (hm : Held ρ m w) {b o b' o' : Nat} {r : Bool} (e : ptrEq m b o b' o' = some r) {x x' : Nat × Nat} (hx : ρ b = some x) (hx' : ρ b' = some x') : (sameAddr ⟨x.1, o, none⟩ ⟨x'.1, o', none⟩).run P w = .ok r w := by
  unfold ptrEq at e
  by_cases hb : b = b'
  · subst hb
    rw [nbeq_iff.2 rfl] at e
    cases e
    rw [hx] at hx'
    cases hx'
    simp only [sameAddr, beq_self_eq_true, if_true, Sem.run_pure, Result.ok.injEq, and_true]
    rw [Bool.eq_iff_iff, beq_iff_eq, nbeq_iff]
    simp
  · rw [nbeq hb] at e
    obtain ⟨h1, h2⟩ := oi_eq.1 e
    obtain ⟨h3, h4⟩ := oi_eq.1 h2
    cases h4
    obtain ⟨c1, e1, g1⟩ := hasB_ok h1
    obtain ⟨c2, e2, g2⟩ := hasB_ok h3
    obtain ⟨_, _, k1⟩ := hm.1 b _ _ x g1 hx
    obtain ⟨_, _, k2⟩ := hm.1 b' _ _ x' g2 hx'
    refine run_sameAddr_other w (fun he => hb ?_) k1 k2
    simp only [Addr.mk.injEq] at he
    exact hm.2 b b' x x' (by rw [g1]; rfl) (by rw [g2]; rfl) hx hx' he.1
/-- x == y, of one type: bools, and what may be nil. -/
noncomputable def eqB (E : Env) (m : T SObj) (t : TypeId) (x y : SV) : Option Bool := ob (und E t) fun d => match d, x, y with
  | .bool, .bool a, .bool b => some (Bool.rec (motive := fun _ => Bool) (not b) b a)
  | .int _, .int k a, .int k' b => oi (kq k k') (some (ieq a b))
  | .string, .str a, .str b => some (leq a b)
  | .pointer _, .nptr, .nptr => some true
  | .pointer _, .nptr, .ptr _ _ => some false
  | .pointer _, .ptr _ _, .nptr => some false
  | .pointer e, .ptr b o, .ptr b' o' => ob (szE E e) fun n => oi (Nat.blt 0 n) (ptrEq m b o b' o')
  | .interface _, .nifc, .ifc _ _ => some false
  | .interface _, .ifc _ _, .nifc => some false
  | .interface _, .nifc, .nifc => some true
  | .slice _, .nslc, .nslc => some true
  | .slice _, .nslc, .slc .. => some false
  | .slice _, .nslc, .slu .. => some false
  | .slice _, .slc .., .nslc => some false
  | .slice _, .slu .., .nslc => some false
  | .map _ _, .nmap, .nmap => some true
  | .map _ _, .nmap, .map _ => some false
  | .map _ _, .map _, .nmap => some false
  | .func _ _ _, .nfn, .nfn => some true
  | .func _ _ _, .nfn, .fn .. => some false
  | .func _ _ _, .fn .., .nfn => some false
  | _, _, _ => none
theorem den_fn {ρ : Pl} {f : Fn} {a c : List SV} {u : Value} (h : den ρ (.fn f a c) = some u) : ∃ x y, denL ρ a = some x ∧ denL ρ c = some y ∧ isYield f = false ∧ u = .func f x.toArray y.toArray := by
  unfold den at h
  split at h
  · cases h
  · rename_i h0
    split at h
    · rename_i x y h1 h2
      cases h
      exact ⟨x, y, h1, h2, by simpa using h0, rfl⟩
    · cases h
theorem den_ifc {ρ : Pl} {t : TypeId} {v : SV} {u : Value} (h : den ρ (.ifc t v) = some u) : ∃ x, den ρ v = some x ∧ u = .iface t x := by
  unfold den at h
  obtain ⟨x, h1, rfl⟩ := Option.map_eq_some_iff.1 h
  exact ⟨x, h1, rfl⟩
theorem den_ifc_mk {ρ : Pl} {t : TypeId} {v : SV} {x : Value} (h : den ρ v = some x) : den ρ (.ifc t v) = some (.iface t x) := by unfold den; rw [h]; rfl
theorem den_map {ρ : Pl} {r : Nat} {u : Value} (h : den ρ (.map r) = some u) : ∃ x, ρ r = some x ∧ u = .map (some x.1) := by
  unfold den at h
  obtain ⟨x, h1, rfl⟩ := Option.map_eq_some_iff.1 h
  exact ⟨x, h1, rfl⟩
theorem den_nptr (ρ : Pl) : den ρ .nptr = some (.pointer none) := by simp [den]
theorem den_nmap (ρ : Pl) : den ρ .nmap = some (.map none) := by simp [den]
theorem den_nfn (ρ : Pl) : den ρ .nfn = some .nilFunc := by simp [den]
theorem den_nifc (ρ : Pl) : den ρ .nifc = some .nilIface := by simp [den]
theorem beq_bool (a b : Bool) : (a == b) = Bool.rec (motive := fun _ => Bool) (not b) b a := by cases a <;> cases b <;> rfl
theorem str_beq {a b : List Nat} (ha : ∀ x ∈ a, x < 256) (hb : ∀ x ∈ b, x < 256) : (bytesOf a == bytesOf b) = leq a b := by
  rw [beq_toListBytes, bytesOf_toList, bytesOf_toList, map_u8_inj a b ha hb, leq_ok]
theorem eqB_ok {P : Program} {E : Env} (hE : EnvOk P E) {ρ : Pl} {m : T SObj} {w : World} (hm : Held ρ m w) {t : TypeId} {x y : SV} {r : Bool} {u v : Value} (e : eqB E m t x y = some r) (hx : den ρ x = some u) (hy : den ρ y = some v) (d : Nat) :
    (Op.equalIn (d + 1) t u v).run P w = .ok r w := by
  obtain ⟨de, h1, h2⟩ := ob_eq.1 e
  have hu := und_ok hE h1
  simp only [Op.equalIn, Sem.run_bind, run_underlying hu w, Result.andThen_ok]
  split at h2
  · rename_i a b
    rw [den_bool] at hx hy
    cases hx; cases hy; cases h2
    simp only [Sem.run_pure, beq_bool]
  · rename_i k0 k a k' b
    obtain ⟨h3, h4⟩ := oi_eq.1 h2
    obtain rfl := kq_ok h3
    rw [den_int] at hx hy
    cases hx; cases hy; cases h4
    simp [ieq_ok]
  · rename_i a b
    obtain ⟨rfl, ha⟩ := den_str hx
    obtain ⟨rfl, hb⟩ := den_str hy
    cases h2
    simp only [Sem.run_pure, str_beq ha hb]
  · rw [den_nptr] at hx hy; cases hx; cases hy; cases h2; rfl
  · obtain ⟨y1, -, rfl⟩ := den_ptr hy; rw [den_nptr] at hx; cases hx; cases h2; rfl
  · obtain ⟨y1, -, rfl⟩ := den_ptr hx; rw [den_nptr] at hy; cases hy; cases h2; rfl
  · rename_i el b o b' o'
    obtain ⟨n, h3, h4⟩ := ob_eq.1 h2
    obtain ⟨h5, h6⟩ := oi_eq.1 h4
    obtain ⟨y1, g1, rfl⟩ := den_ptr hx
    obtain ⟨y2, g2, rfl⟩ := den_ptr hy
    have hn := blt_true h5
    have hne : n ≠ 0 := by omega
    simp only [Sem.run_bind, (szE_ok hE h3 w).1, Result.andThen_ok]
    rw [if_pos hne]
    exact ptrEq_ok hm h6 g1 g2
  · obtain ⟨y1, -, rfl⟩ := den_ifc hy; rw [den_nifc] at hx; cases hx; cases h2; rfl
  · obtain ⟨y1, -, rfl⟩ := den_ifc hx; rw [den_nifc] at hy; cases hy; cases h2; rfl
  · rw [den_nifc] at hx hy; cases hx; cases hy; cases h2; rfl
  · rw [den_nslc] at hx hy; cases hx; cases hy; cases h2; rfl
  · obtain ⟨y1, -, rfl⟩ := den_slc hy; rw [den_nslc] at hx; cases hx; cases h2; rfl
  · obtain ⟨y1, -, -, rfl⟩ := den_slu hy; rw [den_nslc] at hx; cases hx; cases h2; rfl
  · obtain ⟨y1, -, rfl⟩ := den_slc hx; rw [den_nslc] at hy; cases hy; cases h2; rfl
  · obtain ⟨y1, -, -, rfl⟩ := den_slu hx; rw [den_nslc] at hy; cases hy; cases h2; rfl
  · rw [den_nmap] at hx hy; cases hx; cases hy; cases h2; rfl
  · obtain ⟨y1, -, rfl⟩ := den_map hy; rw [den_nmap] at hx; cases hx; cases h2; rfl
  · obtain ⟨y1, -, rfl⟩ := den_map hx; rw [den_nmap] at hy; cases hy; cases h2; rfl
  · rw [den_nfn] at hx hy; cases hx; cases hy; cases h2; rfl
  · obtain ⟨y1, y2, -, -, -, rfl⟩ := den_fn hy; rw [den_nfn] at hx; cases hx; cases h2; rfl
  · obtain ⟨y1, y2, -, -, -, rfl⟩ := den_fn hx; rw [den_nfn] at hy; cases hy; cases h2; rfl
  · cases h2
/-- interface values of numbers, too. -/
noncomputable def eqE (E : Env) (m : T SObj) (t : TypeId) (x y : SV) : Option Bool := match x, y with
  | .ifc t1 a, .ifc t2 b => ob (und E t) fun d => match d with
    | .interface _ => Bool.rec (motive := fun _ => Option Bool) (some false) (ob (E.ty.get t1) fun i => oi i.comparable (eqB E m t1 a b)) (Nat.beq t1 t2)
    | _ => none
  | _, _ => eqB E m t x y
theorem eqE_ok {P : Program} {E : Env} (hE : EnvOk P E) {ρ : Pl} {m : T SObj} {w : World} (hm : Held ρ m w) {t : TypeId} {x y : SV} {r : Bool} {u v : Value} (e : eqE E m t x y = some r) (hx : den ρ x = some u) (hy : den ρ y = some v) :
    (Op.equal t u v).run P w = .ok r w := by
  unfold eqE at e
  split at e
  · rename_i t1 a t2 b
    obtain ⟨u1, g1, rfl⟩ := den_ifc hx
    obtain ⟨u2, g2, rfl⟩ := den_ifc hy
    obtain ⟨d, h1, h2⟩ := ob_eq.1 e
    have hu := und_ok hE h1
    split at h2
    · show (Op.equalIn (9998 + 1 + 1) t _ _).run P w = _
      by_cases ht : t1 = t2
      · subst ht
        rw [nbeq_iff.2 rfl] at h2
        have h3 : (ob (E.ty.get t1) fun i => oi i.comparable (eqB E m t1 a b)) = some r := h2
        obtain ⟨i, h4, h5⟩ := ob_eq.1 h3
        obtain ⟨h6, h7⟩ := oi_eq.1 h5
        have hi := hE.ty _ _ h4
        rw [Op.equalIn]
        simp only [Sem.run_bind, run_underlying hu w, Result.andThen_ok, ne_eq, not_true, if_false, run_typeInfo w hi, h6, Bool.not_true, Bool.false_eq_true]
        exact eqB_ok hE hm h7 g1 g2 9998
      · rw [nbeq ht] at h2
        cases h2
        rw [Op.equalIn]
        simp only [Sem.run_bind, run_underlying hu w, Result.andThen_ok, ne_eq, ht, not_false_eq_true, if_true, Sem.run_pure]
    · cases h2
  · exact eqB_ok hE hm e hx hy 9999

noncomputable def intB (op : BinOp) (k k' : IntKind) (a b : Int) : Option SV := match op with
  | .shl => shE .shl k a b
  | .shr => shE .shr k a b
  | op => oi (kq k k') (intE op k a b)
theorem intB_ok {P : Program} {op : BinOp} {k k' : IntKind} {a b : Int} {v : SV} (h : intB op k k' a b = some v) (ρ : Pl) (t : TypeId) (w : World) :
    ∃ u, (binOp op t (.int k a) (.int k' b)).run P w = .ok u w ∧ den ρ v = some u := by
  unfold intB at h
  split at h
  · exact shE_ok h ρ t w
  · exact shE_ok h ρ t w
  · obtain ⟨h3, h4⟩ := oi_eq.1 h
    obtain rfl := kq_ok h3
    exact intE_ok h4 ρ t w
/-- what has == and no order. -/
def plain : SV → Bool
  | .bool _ | .ptr .. | .nptr | .slc .. | .slu .. | .nslc | .map _ | .nmap | .fn .. | .nfn | .ifc .. | .nifc => true
  | _ => false
def plainV : Value → Bool
  | .bool _ | .pointer _ | .slice .. | .map _ | .func .. | .nilFunc | .iface .. | .nilIface => true
  | _ => false
theorem plain_ok {ρ : Pl} {x : SV} {u : Value} (h : plain x = true) (hx : den ρ x = some u) : plainV u = true ∧ (u = .nilIface → x = .nifc) := by
  cases x <;> simp only [plain, Bool.false_eq_true] at h
  case bool => rw [den_bool] at hx; cases hx; exact ⟨rfl, fun h => by cases h⟩
  case ptr => obtain ⟨_, -, rfl⟩ := den_ptr hx; exact ⟨rfl, fun h => by cases h⟩
  case nptr => rw [den_nptr] at hx; cases hx; exact ⟨rfl, fun h => by cases h⟩
  case slc => obtain ⟨_, -, rfl⟩ := den_slc hx; exact ⟨rfl, fun h => by cases h⟩
  case slu => obtain ⟨_, -, -, rfl⟩ := den_slu hx; exact ⟨rfl, fun h => by cases h⟩
  case nslc => rw [den_nslc] at hx; cases hx; exact ⟨rfl, fun h => by cases h⟩
  case map => obtain ⟨_, -, rfl⟩ := den_map hx; exact ⟨rfl, fun h => by cases h⟩
  case nmap => rw [den_nmap] at hx; cases hx; exact ⟨rfl, fun h => by cases h⟩
  case fn => obtain ⟨_, _, -, -, -, rfl⟩ := den_fn hx; exact ⟨rfl, fun h => by cases h⟩
  case nfn => rw [den_nfn] at hx; cases hx; exact ⟨rfl, fun h => by cases h⟩
  case ifc => obtain ⟨_, -, rfl⟩ := den_ifc hx; exact ⟨rfl, fun h => by cases h⟩
  case nifc => rw [den_nifc] at hx; cases hx; exact ⟨rfl, fun _ => rfl⟩
def bothNil : SV → SV → Bool
  | .nifc, .nifc => true
  | .nifc, .sym .any _ => true
  | _, _ => false
noncomputable def eqOp (E : Env) (m : T SObj) (op : BinOp) (t : TypeId) (x y : SV) : Option SV := match op with
  | .eql => ob (eqE E m t x y) fun b => some (.bool b)
  | .neq => ob (eqE E m t x y) fun b => some (.bool (not b))
  | _ => none
def isB : SV → Bool
  | .sym .bool _ => true
  | .ar o _ _ _ => cmpO o
  | _ => false
theorem isB_ok {ρ : Pl} {x : SV} {u : Value} (h : isB x = true) (hx : den ρ x = some u) : ∃ b, u = .bool b := by
  unfold isB at h
  split at h
  · unfold den at hx
    obtain ⟨-, hk⟩ := symD_some hx
    cases u <;> simp only [SK.is, Bool.false_eq_true] at hk
    exact ⟨_, rfl⟩
  · unfold den at hx
    obtain ⟨a, b, -, -, h3⟩ := ar2_some hx
    exact arV_bool h3 h
  · cases h
def sameS : SV → SV → Bool
  | .sym (.int _) i, .sym (.int _) j => Nat.beq i j
  | _, _ => false
theorem sameS_ok {ρ : Pl} {x y : SV} {u v : Value} (h : sameS x y = true) (hx : den ρ x = some u) (hy : den ρ y = some v) : u = v := by
  unfold sameS at h
  split at h
  · rw [nbeq_iff] at h
    subst h
    unfold den at hx hy
    have h1 := (symD_some hx).1
    have h2 := (symD_some hy).1
    rw [h1] at h2
    exact Option.some.inj h2
  · cases h
noncomputable def symO (op : BinOp) (k : IntKind) (x y : SV) : Option SV := match op with
  | .eql => Bool.rec (motive := fun _ => Option SV) (some (.ar .eql k x y)) (some (.bool true)) (sameS x y)
  | .neq => Bool.rec (motive := fun _ => Option SV) (some (.ar .neq k x y)) (some (.bool false)) (sameS x y)
  | .add => some (.ar .add k x y)
  | .sub => some (.ar .sub k x y)
  | .mul => some (.ar .mul k x y)
  | .lss => some (.ar .lss k x y)
  | .leq => some (.ar .leq k x y)
  | .gtr => some (.ar .gtr k x y)
  | .geq => some (.ar .geq k x y)
  | .and => some (.ar .and k x y)
  | .or => some (.ar .or k x y)
  | .xor => some (.ar .xor k x y)
  | _ => none
theorem arV_ok {P : Program} {op : BinOp} {k : IntKind} {a b : Int} {z : Value} (h : arV op k a b = some z) (t : TypeId) (w : World) : (binOp op t (.int k a) (.int k b)).run P w = .ok z w := by
  cases op <;> simp only [arV] at h <;> cases h
  all_goals (simp only [binOp, ne_eq, not_true, if_false, Op.intArith, Op.intCmp, Op.intBits, Sem.run_pure]; try rfl)
theorem symO_ok {P : Program} {op : BinOp} {k : IntKind} {x y r : SV} {ρ : Pl} {a b : Int} (e : symO op k x y = some r) (hx : den ρ x = some (.int k a)) (hy : den ρ y = some (.int k b)) (t : TypeId) (w : World) : ∃ z, (binOp op t (.int k a) (.int k b)).run P w = .ok z w ∧ den ρ r = some z := by
  have ar : ∀ o z, arV o k a b = some z → den ρ (.ar o k x y) = some z := by
    intro o z hz
    unfold den
    rw [hx, hy, ar2_mk]; exact hz
  unfold symO at e
  split at e
  · cases hs : sameS x y with
    | false => rw [hs] at e; cases e; exact ⟨_, arV_ok rfl t w, ar _ _ rfl⟩
    | true =>
      rw [hs] at e; cases e
      have hab := sameS_ok hs hx hy
      simp only [Value.int.injEq, true_and] at hab
      subst hab
      exact ⟨_, arV_ok rfl t w, by rw [den_bool]; simp⟩
  · cases hs : sameS x y with
    | false => rw [hs] at e; cases e; exact ⟨_, arV_ok rfl t w, ar _ _ rfl⟩
    | true =>
      rw [hs] at e; cases e
      have hab := sameS_ok hs hx hy
      simp only [Value.int.injEq, true_and] at hab
      subst hab
      exact ⟨_, arV_ok rfl t w, by rw [den_bool]; simp⟩
  all_goals first | (cases e; exact ⟨_, arV_ok rfl t w, ar _ _ rfl⟩) | cases e
noncomputable def shS (op : BinOp) (k : IntKind) (x y : SV) : Option SV := match y with
  | .int _ (.ofNat n) => match op with
    | .shl => some (.sh .shl k x n)
    | .shr => some (.sh .shr k x n)
    | _ => none
  | _ => none
noncomputable def symB (op : BinOp) (x y : SV) : Option SV := match op with
  | .shl => ob (ik x) fun k => shS .shl k x y
  | .shr => ob (ik x) fun k => shS .shr k x y
  | op => ob (ik x) fun k => ob (ik y) fun k' => oi (kq k k') (symO op k x y)
theorem shS_ok {P : Program} {op : BinOp} {k : IntKind} {x y r : SV} {ρ : Pl} {a : Int} {v : Value} (e : shS op k x y = some r) (hx : den ρ x = some (.int k a)) (hy : den ρ y = some v) (t : TypeId) (w : World) : ∃ z, (binOp op t (.int k a) v).run P w = .ok z w ∧ den ρ r = some z := by
  unfold shS at e
  split at e
  · rename_i k' n
    rw [den_int] at hy
    cases hy
    split at e <;> cases e
    · obtain ⟨z, h1, h2⟩ := shE_ok (P := P) (op := .shl) (k := k) (k' := k') (a := a) (b := .ofNat n) rfl ρ t w
      rw [den_int] at h2
      cases h2
      refine ⟨_, h1, ?_⟩
      unfold den
      rw [hx, shD_mk, wr_ok]; rfl
    · obtain ⟨z, h1, h2⟩ := shE_ok (P := P) (op := .shr) (k := k) (k' := k') (a := a) (b := .ofNat n) rfl ρ t w
      rw [den_int] at h2
      cases h2
      refine ⟨_, h1, ?_⟩
      unfold den
      rw [hx, shD_mk]; rfl
  · cases e
theorem symB_ok {P : Program} {op : BinOp} {x y r : SV} {ρ : Pl} {u v : Value} (e : symB op x y = some r) (hx : den ρ x = some u) (hy : den ρ y = some v) (t : TypeId) (w : World) : (∃ k a, u = .int k a) ∧ ∃ z, (binOp op t u v).run P w = .ok z w ∧ den ρ r = some z := by
  unfold symB at e
  split at e
  · obtain ⟨k, h1, h2⟩ := ob_eq.1 e
    obtain ⟨a, rfl⟩ := ik_ok h1 hx
    exact ⟨⟨k, a, rfl⟩, shS_ok h2 hx hy t w⟩
  · obtain ⟨k, h1, h2⟩ := ob_eq.1 e
    obtain ⟨a, rfl⟩ := ik_ok h1 hx
    exact ⟨⟨k, a, rfl⟩, shS_ok h2 hx hy t w⟩
  · obtain ⟨k, h2, h3⟩ := ob_eq.1 e
    obtain ⟨k', h4, h5⟩ := ob_eq.1 h3
    obtain ⟨h6, h7⟩ := oi_eq.1 h5
    obtain rfl := kq_ok h6
    obtain ⟨a, rfl⟩ := ik_ok h2 hx
    obtain ⟨b, rfl⟩ := ik_ok h4 hy
    exact ⟨⟨k, a, rfl⟩, symO_ok h7 hx hy t w⟩
/-- x == y, of structs too. -/
noncomputable def eqF (E : Env) (go : TypeId → SV → SV → Option Bool) (xs ys : List SV) (fs : List Field) : Option Bool := List.rec (motive := fun _ => Option Bool) (some true)
  (fun f _ ih => oi (not (f.name == "_")) (ob (ptE E f.type xs f.offset) fun a => ob (ptE E f.type ys f.offset) fun b => ob (go f.type a b) fun r => Bool.rec (motive := fun _ => Option Bool) (some false) ih r)) fs
/-- arrays: part by part; of bytes that are known. -/
noncomputable def eqT (E : Env) (go : TypeId → SV → SV → Option Bool) (xs ys : List SV) (e : TypeId) (s k : Nat) : Nat → Option Bool := Nat.rec (motive := fun _ => Nat → Option Bool) (fun _ => some true)
  (fun _ ih i => ob (ptE E e xs (Nat.mul i s)) fun a => ob (ptE E e ys (Nat.mul i s)) fun b => ob (go e a b) fun r => Bool.rec (motive := fun _ => Option Bool) (some false) (ih (Nat.succ i)) r) k
noncomputable def eqY (n : Nat) (xs ys : List SV) : Option Bool := ob (u8s xs) fun a => ob (u8s ys) fun b => oi (Nat.beq (len a) n) (oi (Nat.beq (len b) n) (some (leq a b)))
noncomputable def eqS (E : Env) (m : T SObj) (go : TypeId → SV → SV → Option Bool) (t : TypeId) (x y : SV) : Option Bool := match x, y with
  | .agg xs, .agg ys => ob (und E t) fun d => match d with
    | .struct fs => oi (E.eq t) (eqF E go xs ys fs.toList)
    | .array n e => ob (und E e) fun de => match de with
      | .int .u8 => ob (szE E e) fun s => oi (Nat.beq s 1) (eqY n xs ys)
      | _ => ob (szE E e) fun s => eqT E go xs ys e s n 0
    | _ => none
  | x, y => eqB E m t x y
noncomputable def eqN (E : Env) (m : T SObj) (n : Nat) : TypeId → SV → SV → Option Bool := Nat.rec (motive := fun _ => TypeId → SV → SV → Option Bool) (fun t x y => eqB E m t x y) (fun _ ih t x y => eqS E m ih t x y) n
theorem eqF_ok {P : Program} {E : Env} (hE : EnvOk P E) {ρ : Pl} {go : TypeId → SV → SV → Option Bool} {d : Nat} {w : World} (hgo : ∀ t x y r u v, go t x y = some r → den ρ x = some u → den ρ y = some v → (Op.equalIn d t u v).run P w = .ok r w)
    {xs ys : List SV} {us vs : List Value} (hx : denC ρ xs = some us) (hx1 : xs.all SV.onc = true) (hy : denC ρ ys = some vs) (hy1 : ys.all SV.onc = true) : ∀ {fs : List Field} {r : Bool}, eqF E go xs ys fs = some r → (Op.eqFields d us.toArray vs.toArray fs).run P w = .ok r w
  | [], r, e => by cases e; rfl
  | f :: fs, r, e => by
    have e' : oi (not (f.name == "_")) (ob (ptE E f.type xs f.offset) fun a => ob (ptE E f.type ys f.offset) fun b => ob (go f.type a b) fun q => Bool.rec (motive := fun _ => Option Bool) (some false) (eqF E go xs ys fs) q) = some r := e
    obtain ⟨h1, h2⟩ := oi_eq.1 e'
    obtain ⟨a, h3, h4⟩ := ob_eq.1 h2
    obtain ⟨b, h5, h6⟩ := ob_eq.1 h4
    obtain ⟨q, h7, h8⟩ := ob_eq.1 h6
    obtain ⟨u, c1, c2⟩ := ptE_ok hE h3 hx hx1 w
    obtain ⟨v, c3, c4⟩ := ptE_ok hE h5 hy hy1 w
    have hn : f.name ≠ "_" := by simpa using h1
    have hq := hgo _ _ _ _ _ _ h7 c2 c4
    simp only [Op.eqFields, if_pos hn, Sem.run_bind, c1, c3, Result.andThen_ok, hq]
    cases q with
    | false =>
      cases h8
      simp only [Bool.not_false, if_true, Sem.run_pure]
    | true =>
      simp only [Bool.not_true, Bool.false_eq_true, if_false]
      exact eqF_ok hE hgo hx hx1 hy hy1 h8
theorem eqT_ok {P : Program} {E : Env} (hE : EnvOk P E) {ρ : Pl} {go : TypeId → SV → SV → Option Bool} {d : Nat} {w : World} (hgo : ∀ t x y r u v, go t x y = some r → den ρ x = some u → den ρ y = some v → (Op.equalIn d t u v).run P w = .ok r w)
    {xs ys : List SV} {us vs : List Value} (hx : denC ρ xs = some us) (hx1 : xs.all SV.onc = true) (hy : denC ρ ys = some vs) (hy1 : ys.all SV.onc = true) {e : TypeId} {s : Nat} : ∀ (k i : Nat) {r : Bool}, eqT E go xs ys e s k i = some r → (Op.eqItems d e s us.toArray vs.toArray (List.range' i k)).run P w = .ok r w
  | 0, i, r, h => by cases h; rfl
  | k + 1, i, r, h => by
    have h' : (ob (ptE E e xs (i * s)) fun a => ob (ptE E e ys (i * s)) fun b => ob (go e a b) fun q => Bool.rec (motive := fun _ => Option Bool) (some false) (eqT E go xs ys e s k (i + 1)) q) = some r := h
    obtain ⟨a, h3, h4⟩ := ob_eq.1 h'
    obtain ⟨b, h5, h6⟩ := ob_eq.1 h4
    obtain ⟨q, h7, h8⟩ := ob_eq.1 h6
    obtain ⟨u, c1, c2⟩ := ptE_ok hE h3 hx hx1 w
    obtain ⟨v, c3, c4⟩ := ptE_ok hE h5 hy hy1 w
    have hq := hgo _ _ _ _ _ _ h7 c2 c4
    rw [List.range'_succ]
    simp only [Op.eqItems, Sem.run_bind, c1, c3, Result.andThen_ok, hq]
    cases q with
    | false =>
      cases h8
      simp only [Bool.not_false, if_true, Sem.run_pure]
    | true =>
      simp only [Bool.not_true, Bool.false_eq_true, if_false]
      exact eqT_ok hE hgo hx hx1 hy hy1 k (i + 1) h8
theorem cell_u8 {l : List Nat} (h : ∀ x ∈ l, x < 256) : (l.map UInt8.ofNat).map Extern.Stop.cell = l.map fun (x : Nat) => Value.int .u8 (x : Int) := by
  rw [List.map_map]
  apply List.map_congr_left
  intro x hx
  have := h x hx
  simp [Extern.Stop.cell, UInt8.toNat_ofNat', Nat.mod_eq_of_lt this]
theorem eqN_ok {P : Program} {E : Env} (hE : EnvOk P E) {ρ : Pl} {m : T SObj} {w : World} (hm : Held ρ m w) : ∀ (n : Nat) {t : TypeId} {x y : SV} {r : Bool} {u v : Value}, eqN E m n t x y = some r → den ρ x = some u → den ρ y = some v → ∀ d, (Op.equalIn (d + n + 1) t u v).run P w = .ok r w
  | 0, t, x, y, r, u, v, e, hx, hy, d => eqB_ok hE hm e hx hy d
  | n + 1, t, x, y, r, u, v, e, hx, hy, d => by
    have e' : eqS E m (eqN E m n) t x y = some r := e
    unfold eqS at e'
    split at e'
    · rename_i xs ys
      obtain ⟨de, h1, h2⟩ := ob_eq.1 e'
      split at h2
      · rename_i fs
        obtain ⟨h3, h4⟩ := oi_eq.1 h2
        obtain ⟨us, a1, a2, rfl⟩ := den_agg hx
        obtain ⟨vs, b1, b2, rfl⟩ := den_agg hy
        have hu := und_ok hE h1
        have hf : P.fieldsOf t = fs := by unfold Program.fieldsOf; rw [hu]
        rw [show d + (n + 1) + 1 = (d + n + 1) + 1 by omega, run_equalIn_agg w (d + n + 1) t _ _ (by rw [hf]; exact hu) (hE.eq t h3).1, hf]
        exact eqF_ok hE (fun t x y r u v k1 k2 k3 => eqN_ok hE hm n k1 k2 k3 d) a1 a2 b1 b2 h4
      · rename_i n0 el
        obtain ⟨dl, h3, h4⟩ := ob_eq.1 h2
        obtain ⟨us, a1, a2, rfl⟩ := den_agg hx
        obtain ⟨vs, b1, b2, rfl⟩ := den_agg hy
        have hu := und_ok hE h1
        have hl := und_ok hE h3
        split at h4
        · obtain ⟨s, s1, s2⟩ := ob_eq.1 h4
          obtain ⟨s3, s4⟩ := oi_eq.1 s2
          obtain rfl := nbeq_iff.1 s3
          obtain ⟨a, g1, g2⟩ := ob_eq.1 s4
          obtain ⟨b, g3, g4⟩ := ob_eq.1 g2
          obtain ⟨g5, g6⟩ := oi_eq.1 g4
          obtain ⟨g7, g8⟩ := oi_eq.1 g6
          cases g8
          rw [nbeq_iff, len_ok] at g5 g7
          obtain ⟨rfl, c1⟩ := u8s_ok g1 a1
          obtain ⟨rfl, c2⟩ := u8s_ok g3 b1
          have hsz : ∀ w, (sizeOf el).run P w = .ok 1 w := fun W => (szE_ok hE s1 W).1
          have := run_equalIn_bytes w (d + n) t el n0 hu hl hsz (a.map UInt8.ofNat) (b.map UInt8.ofNat) (by simpa using g5) (by simpa using g7)
          rw [cell_u8 c1, cell_u8 c2] at this
          rw [show d + (n + 1) + 1 = d + n + 2 by omega, this, leq_ok, ← map_u8_inj a b c1 c2]
        · obtain ⟨s, g1, g2⟩ := ob_eq.1 h4
          obtain ⟨i, g3, g4⟩ := ob_eq.1 g1
          cases g4
          have hi := hE.ty _ _ g3
          have hcell : P.cellsOf el = i.size := by simp [Program.cellsOf, hi]
          rw [show d + (n + 1) + 1 = (d + n + 1) + 1 by omega, run_equalIn_array w (d + n + 1) _ _ hu hi, hcell, List.range_eq_range']
          exact eqT_ok hE (fun t x y r u v k1 k2 k3 => eqN_ok hE hm n k1 k2 k3 d) a1 a2 b1 b2 _ _ g2
      · cases h2
    · exact eqB_ok hE hm e' hx hy (d + (n + 1))
noncomputable def eqA (E : Env) (m : T SObj) (op : BinOp) (t : TypeId) (x y : SV) : Option SV := oi (E.eq t) (match op with
  | .eql => ob (eqN E m 4 t x y) fun b => some (.bool b)
  | .neq => ob (eqN E m 4 t x y) fun b => some (.bool (not b))
  | _ => none)
/-- texts one behind the other. -/
noncomputable def u8S (l : List Nat) : List SV := List.rec (motive := fun _ => List SV) [] (fun x _ ih => .int .u8 (.ofNat x) :: ih) l
theorem u8S_den (ρ : Pl) : ∀ (l : List Nat), denL ρ (u8S l) = some (l.map fun (x : Nat) => Value.int .u8 (x : Int))
  | [] => denL_nil ρ
  | _x :: l => denL_cons.2 ⟨_, _, den_int _ _ _, u8S_den ρ l, rfl⟩
noncomputable def catE (op : BinOp) (a b : List SV) : Option SV := match op with
  | .add => oi (Nat.ble (Nat.add (len a) (len b)) 4611686018427387904) (some (.strs (app a b)))
  | _ => none
theorem catE_ok {P : Program} {op : BinOp} {a b : List SV} {v : SV} (h : catE op a b = some v) {ρ : Pl} {x y : List Nat} (ha : denL ρ a = some (x.map fun (x : Nat) => Value.int .u8 (x : Int))) (hb : denL ρ b = some (y.map fun (x : Nat) => Value.int .u8 (x : Int))) (hx : ∀ z ∈ x, z < 256) (hy : ∀ z ∈ y, z < 256) (t : TypeId) (w : World) :
    ∃ u, (binOp op t (.string (bytesOf x)) (.string (bytesOf y))).run P w = .ok u w ∧ den ρ v = some u := by
  have hop : (binOp op t (.string (bytesOf x)) (.string (bytesOf y))) = Op.stringOp op (bytesOf x) (bytesOf y) := by cases op <;> rfl
  rw [hop]
  unfold catE at h
  split at h
  · obtain ⟨h1, h2⟩ := oi_eq.1 h
    cases h2
    rw [nble_iff, len_ok, len_ok] at h1
    have e1 := denL_len ha
    have e2 := denL_len hb
    rw [List.length_map] at e1 e2
    refine ⟨.string (bytesOf x ++ bytesOf y), ?_, ?_⟩
    · refine run_string_add_sum w _ _ ?_
      rw [bytesOf_size, bytesOf_size]
      have h1' : a.length + b.length ≤ 4611686018427387904 := h1
      omega
    · rw [app_ok, ← bytesOf_append]
      refine den_strs_mk ?_ (fun z hz => (List.mem_append.1 hz).elim (hx z) (hy z))
      rw [List.map_append]
      exact denL_append ha hb
  · cases h
/-- a binary operator; c: one of the operands stands there as a constant. -/
noncomputable def binE (E : Env) (m : T SObj) (op : BinOp) (t : TypeId) (c : Bool) (x y : SV) : Option SV := match x, y with
  | .int k a, .int k' b => intB op k k' a b
  | .flt k a, .flt k' b => fltB op k k' a b
  | .str a, .str b => strE op a b
  | .strs a, .str b => catE op a (u8S b)
  | .str a, .strs b => catE op (u8S a) b
  | .strs a, .strs b => catE op a b
  | .agg a, .agg b => eqA E m op t (.agg a) (.agg b)
  | x, y => Bool.rec (motive := fun _ => Option SV) (symB op x y) (oi (or c (not (bothNil x y))) (eqOp E m op t x y)) (plain x)
def cst (x y : Operand) : Bool := match x, y with
  | .const _, _ => true
  | _, .const _ => true
  | _, _ => false
theorem eqGuard_ok {P : Program} {op : BinOp} {t : TypeId} {x y : Operand} {a b : Value} (h1 : ∀ cs, a ≠ .agg cs) (h2 : a = .nilIface → b = .nilIface → cst x y = true) (w : World) : (eqGuard op t x y a b).run P w = .ok () w := by
  unfold eqGuard
  split
  case h_3 => rfl
  all_goals
    simp only [Bool.not_true, Bool.false_eq_true, if_false]
    split
    · have := h2 rfl rfl
      cases x <;> cases y <;> first | rfl | cases this
    · exact absurd rfl (h1 _)
    · rfl
theorem binE_ok {P : Program} {E : Env} (hE : EnvOk P E) {ρ : Pl} {m : T SObj} {w : World} (hm : Held ρ m w) {op : BinOp} {t : TypeId} {x y : SV} {X Y : Operand} {r : SV} {u v : Value} (e : binE E m op t (cst X Y) x y = some r) (hx : den ρ x = some u) (hy : den ρ y = some v) :
    ∃ z, (do eqGuard op t X Y u v; binOp op t u v : Sem Value).run P w = .ok z w ∧ den ρ r = some z := by
  unfold binE at e
  split at e
  · rw [den_int] at hx hy
    cases hx; cases hy
    simp only [Sem.run_bind, eqGuard_ok (a := Value.int _ _) (fun cs h => Value.noConfusion h) (fun h => Value.noConfusion h) w, Result.andThen_ok]
    exact intB_ok e ρ t w
  · rw [den_flt] at hx hy
    cases hx; cases hy
    simp only [Sem.run_bind, eqGuard_ok (a := Value.float _ _) (fun cs h => Value.noConfusion h) (fun h => Value.noConfusion h) w, Result.andThen_ok]
    exact fltB_ok e ρ t w
  · obtain ⟨rfl, ha⟩ := den_str hx
    obtain ⟨rfl, hb⟩ := den_str hy
    simp only [Sem.run_bind, eqGuard_ok (a := Value.string _) (fun cs h => Value.noConfusion h) (fun h => Value.noConfusion h) w, Result.andThen_ok]
    exact strE_ok e ha hb ρ t w
  · obtain ⟨r, h1, rfl, -, h2⟩ := den_strs hx
    obtain ⟨rfl, hb⟩ := den_str hy
    simp only [Sem.run_bind, eqGuard_ok (a := Value.string _) (fun cs h => Value.noConfusion h) (fun h => Value.noConfusion h) w, Result.andThen_ok]
    exact catE_ok e h1 (u8S_den ρ _) h2 hb t w
  · obtain ⟨rfl, ha⟩ := den_str hx
    obtain ⟨r, h1, rfl, -, h2⟩ := den_strs hy
    simp only [Sem.run_bind, eqGuard_ok (a := Value.string _) (fun cs h => Value.noConfusion h) (fun h => Value.noConfusion h) w, Result.andThen_ok]
    exact catE_ok e (u8S_den ρ _) h1 ha h2 t w
  · obtain ⟨r, h1, rfl, -, h2⟩ := den_strs hx
    obtain ⟨s, h3, rfl, -, h4⟩ := den_strs hy
    simp only [Sem.run_bind, eqGuard_ok (a := Value.string _) (fun cs h => Value.noConfusion h) (fun h => Value.noConfusion h) w, Result.andThen_ok]
    exact catE_ok e h1 h3 h2 h4 t w
  · obtain ⟨us, -, -, rfl⟩ := den_agg hx
    obtain ⟨vs, -, -, rfl⟩ := den_agg hy
    obtain ⟨h1, h2⟩ := oi_eq.1 e
    simp only [Sem.run_bind, run_eqGuard_agg w op t X Y us.toArray vs.toArray (hE.eq t h1).2, Result.andThen_ok]
    split at h2
    · obtain ⟨b, h3, h4⟩ := ob_eq.1 h2
      cases h4
      refine ⟨_, ?_, den_bool _ _⟩
      rw [run_eql_struct, eqN_ok hE hm 4 h3 hx hy 9995]
      rfl
    · obtain ⟨b, h3, h4⟩ := ob_eq.1 h2
      cases h4
      refine ⟨_, ?_, den_bool _ _⟩
      rw [run_neq_struct, eqN_ok hE hm 4 h3 hx hy 9995]
      rfl
    · cases h2
  · cases h1 : plain x with
    | false =>
      rw [h1] at e
      obtain ⟨⟨k, a, rfl⟩, h2⟩ := symB_ok (P := P) e hx hy t w
      simp only [Sem.run_bind, eqGuard_ok (a := Value.int _ _) (fun cs h => Value.noConfusion h) (fun h => Value.noConfusion h) w, Result.andThen_ok]
      exact h2
    | true =>
    rw [h1] at e
    obtain ⟨h3, h4⟩ := oi_eq.1 e
    obtain ⟨p1, p2⟩ := plain_ok h1 hx
    have g : (eqGuard op t X Y u v).run P w = .ok () w := by
      refine eqGuard_ok (fun cs h => by subst h; cases p1) (fun hu hv => ?_) w
      have hx' := p2 hu
      subst hx'
      subst hv
      have hy' : y = .nifc ∨ ∃ i, y = .sym .any i := by
        cases y with
        | nifc => exact .inl rfl
        | bool => rw [den_bool] at hy; cases hy
        | int => rw [den_int] at hy; cases hy
        | str s => obtain ⟨h, -⟩ := den_str hy; cases h
        | strs s => obtain ⟨_, -, h, -, -⟩ := den_strs hy; cases h
        | flt k b => unfold den at hy; cases hy
        | sym k i =>
          unfold den at hy
          obtain ⟨-, hk⟩ := symD_some hy
          cases k <;> first | exact .inr ⟨i, rfl⟩ | cases hk
        | sh o k a n => unfold den at hy; obtain ⟨_, -, h⟩ := shD_some hy; obtain ⟨_, h⟩ := shV_int h; cases h
        | cv k a => unfold den at hy; obtain ⟨_, _, -, h⟩ := cvD_some hy; cases h
        | tab l a => unfold den at hy; obtain ⟨_, _, -, -, -, h⟩ := tabD_some hy; cases h
        | pix b o n a => unfold den at hy; obtain ⟨_, _, _, -, -, -, -, h⟩ := pixD_some hy; cases h
        | ar o k a b => unfold den at hy; obtain ⟨_, _, -, -, h⟩ := ar2_some hy; have := arV_one h; unfold arV at h; split at h <;> cases h
        | lenS i => unfold den at hy; obtain ⟨_, -, -, h⟩ := lenV_int hy; cases h
        | chk n l => unfold den at hy; cases hy
        | emp b o n s k => obtain ⟨_, _, h⟩ := den_emp hy; cases h
        | agg l => obtain ⟨us, -, -, h⟩ := den_agg hy; cases h
        | tup l => obtain ⟨us, -, h⟩ := den_tup hy; cases h
        | yld l => unfold den at hy; obtain ⟨p, -, h⟩ := Option.map_eq_some_iff.1 hy; cases h
        | ptr b o => exact .inl ((plain_ok rfl hy).2 rfl)
        | nptr => exact .inl ((plain_ok rfl hy).2 rfl)
        | slc b o n c => exact .inl ((plain_ok rfl hy).2 rfl)
        | slu b o n c => exact .inl ((plain_ok rfl hy).2 rfl)
        | nslc => exact .inl ((plain_ok rfl hy).2 rfl)
        | map r => exact .inl ((plain_ok rfl hy).2 rfl)
        | nmap => exact .inl ((plain_ok rfl hy).2 rfl)
        | fn f a c => exact .inl ((plain_ok rfl hy).2 rfl)
        | nfn => exact .inl ((plain_ok rfl hy).2 rfl)
        | ifc t v => exact .inl ((plain_ok rfl hy).2 rfl)
      rcases hy' with rfl | ⟨i, rfl⟩
      all_goals simpa [bothNil] using h3
    simp only [Sem.run_bind, g, Result.andThen_ok]
    unfold eqOp at h4
    split at h4
    · obtain ⟨b, h5, h6⟩ := ob_eq.1 h4
      cases h6
      refine ⟨_, ?_, den_bool _ _⟩
      have : binOp .eql t u v = (do pure (.bool (← Op.equal t u v))) := by cases u <;> first | rfl | cases p1
      rw [this]
      simp only [Sem.run_bind, eqE_ok hE hm h5 hx hy, Result.andThen_ok, Sem.run_pure]
    · obtain ⟨b, h5, h6⟩ := ob_eq.1 h4
      cases h6
      refine ⟨_, ?_, den_bool _ _⟩
      have : binOp .neq t u v = (do pure (.bool (!(← Op.equal t u v)))) := by cases u <;> first | rfl | cases p1
      rw [this]
      simp only [Sem.run_bind, eqE_ok hE hm h5 hx hy, Result.andThen_ok, Sem.run_pure]
    · cases h4
end Go.Proofs.YtodehmognjofhaaGreat

namespace Go.Proofs.YtodehmognjofhaaGreat
open Go.RowKit

noncomputable def unE (op : UnOp) (v : SV) : Option SV := match op, v with
  | .neg, .int k n => some (.int k (wr k (Int.sub (.ofNat 0) n)))
  | .xor, .int k n => Bool.rec (motive := fun _ => Option SV) (some (.int k (wrN k (Nat.xor (Nat.sub (Nat.mul 2 (half k)) 1) (un k n))))) (some (.int k (wrN k (Nat.xor (Nat.sub (Nat.mul 2 (half k)) 1) (un k n))))) k.signed
  | .not, .bool b => some (.bool (Bool.rec (motive := fun _ => Bool) true false b))
  | .xor, v => ob (ik v) fun k => some (.ar .xor k (.int k (if k.signed then -1 else k.max)) v)
  | _, _ => none
theorem unE_ok {P : Program} {ρ : Pl} {op : UnOp} {v r : SV} {u0 : Value} (e : unE op v = some r) (h : den ρ v = some u0) (w : World) : ∃ u, (Op.unary op u0).run P w = .ok u w ∧ den ρ r = some u := by
  unfold unE at e
  split at e
  · rw [den_int] at h; cases h; cases e
    exact ⟨_, rfl, by rw [wr_ok]; exact den_int _ _ _⟩
  · rename_i k n
    rw [den_int] at h; cases h
    have hun : un k (if k.signed then -1 else k.max) = 2 * half k - 1 := by cases k <;> rfl
    have e' : r = .int k (wrN k (Nat.xor (un k (if k.signed then -1 else k.max)) (un k n))) := by
      rw [hun]
      cases hs : k.signed <;> rw [hs] at e <;> cases e <;> rfl
    subst e'
    have hb := bitE_ok (P := P) (op := .xor) (k := k) (a := (if k.signed then -1 else k.max)) (b := n) rfl w
    exact ⟨_, hb, den_int _ _ _⟩
  · rename_i b
    rw [den_bool] at h; cases h; cases e
    exact ⟨_, rfl, by cases b <;> exact den_bool _ _⟩
  · obtain ⟨k, h1, h2⟩ := ob_eq.1 e
    cases h2
    obtain ⟨n, rfl⟩ := ik_ok h1 h
    refine ⟨_, rfl, ?_⟩
    unfold den
    rw [den_int, h, ar2_mk]
    rfl
  · cases e
noncomputable def exE (v : SV) (i : Nat) : Option SV := match v with
  | .tup l => nth i l
  | _ => none
theorem exE_ok {P : Program} {ρ : Pl} {v r : SV} {i : Nat} {u0 : Value} (e : exE v i = some r) (h : den ρ v = some u0) (w : World) : ∃ u, (Instr.extract u0 i).run P w = .ok u w ∧ den ρ r = some u := by
  unfold exE at e
  split at e
  · obtain ⟨us, h1, rfl⟩ := den_tup h
    rw [nth_ok] at e
    obtain ⟨u, h2, h3⟩ := denL_get i h1 e
    exact ⟨u, by simp [Instr.extract, h3], h2⟩
  · cases e
/-- not nil. -/
def ncE (v : SV) : Option SV := match v with
  | .ptr .. | .ifc .. | .slc .. | .slu .. | .map _ => some v
  | .fn (.func _) .. => some v
  | _ => none
theorem ncE_ok {P : Program} {ρ : Pl} {v r : SV} {u0 : Value} {o : Oper} {a : Act} {x : Operand} (ho : o.op = .nilCheck x) (hx : a.eval x = u0) (e : ncE v = some r) (h : den ρ v = some u0) (w : World) : ∃ u, (execOp a.eval o).run P w = .ok (.value u) w ∧ den ρ r = some u := by
  unfold ncE at e
  split at e
  · cases e; obtain ⟨y, -, rfl⟩ := den_ptr h; exact ⟨_, by simp only [execOp, ho, hx, Sem.run_pure], h⟩
  · cases e; obtain ⟨y, -, rfl⟩ := den_ifc h; exact ⟨_, by simp only [execOp, ho, hx, Sem.run_pure], h⟩
  · cases e; obtain ⟨y, -, rfl⟩ := den_slc h; exact ⟨_, by simp only [execOp, ho, hx, Sem.run_pure], h⟩
  · cases e; obtain ⟨y, -, -, rfl⟩ := den_slu h; exact ⟨_, by simp only [execOp, ho, hx, Sem.run_pure], h⟩
  · cases e; obtain ⟨y, -, rfl⟩ := den_map h; exact ⟨_, by simp only [execOp, ho, hx, Sem.run_pure], h⟩
  · cases e; obtain ⟨y, z, -, -, -, rfl⟩ := den_fn h; exact ⟨_, by simp only [execOp, ho, hx, Sem.run_pure], h⟩
  · cases e
noncomputable def miE (E : Env) (t : TypeId) (v : SV) : Option SV := ob (und E t) fun d => match d with
  | .interface _ => none
  | _ => some (.ifc t v)
theorem miE_ok {P : Program} {E : Env} (hE : EnvOk P E) {ρ : Pl} {t : TypeId} {v r : SV} {u0 : Value} (e : miE E t v = some r) (h : den ρ v = some u0) (w : World) : ∃ u, (Instr.makeInterface t u0).run P w = .ok u w ∧ den ρ r = some u := by
  obtain ⟨d, h1, h2⟩ := ob_eq.1 e
  have hu := und_ok hE h1
  refine ⟨.iface t u0, ?_, ?_⟩
  · refine run_makeInterface w t u0 ?_
    unfold Program.concrete
    rw [hu]
    cases d <;> first | rfl | cases h2
  · cases d <;> first | (cases h2; exact den_ifc_mk h) | cases h2
noncomputable def mfE (f : Fn) (a c : List SV) : Option SV := Bool.rec (motive := fun _ => Option SV) (some (.fn f a c)) none (isYield f)
theorem mfE_ok {ρ : Pl} {f : Fn} {a c : List SV} {r : SV} {x y : List Value} (e : mfE f a c = some r) (h1 : denL ρ a = some x) (h2 : denL ρ c = some y) : den ρ r = some (.func f x.toArray y.toArray) := by
  unfold mfE at e
  cases hy : isYield f with
  | true => rw [hy] at e; cases e
  | false =>
    rw [hy] at e
    cases e
    unfold den
    rw [if_neg (by simp [hy]), h1, h2]

/-- keys. -/
noncomputable def keyEq (m : T SObj) (x y : SV) : Option Bool := match x, y with
  | .int k a, .int k' b => oi (kq k k') (some (ieq a b))
  | .str a, .str b => some (leq a b)
  | .bool a, .bool b => some (Bool.rec (motive := fun _ => Bool) (not b) b a)
  | .ptr b o, .ptr b' o' => ptrEq m b o b' o'
  | .ptr _ _, .nptr => some false
  | .nptr, .ptr _ _ => some false
  | .nptr, .nptr => some true
  | _, _ => none
noncomputable def big0 (E : Env) (e : TypeId) : Bool := Option.rec (motive := fun _ => Bool) false (fun n => Nat.blt 0 n) (szE E e)
noncomputable def keyTy (E : Env) (d : TypeDesc) (x : SV) : Bool := match d, x with
  | .pointer e, .ptr _ _ => big0 E e
  | .pointer e, .nptr => big0 E e
  | .int _, .int _ _ => true
  | .string, .str _ => true
  | .bool, .bool _ => true
  | _, _ => false
noncomputable def findE (m : T SObj) (x : SV) (es : List SE) : Option (Option SE) := List.rec (motive := fun _ => Option (Option SE)) (some none) (fun e _ ih => ob (keyEq m x e.key) fun b => Bool.rec (motive := fun _ => Option (Option SE)) ih (some (some e)) b) es
/-- two keys are told apart. -/
def Told (P : Program) (w : World) (k : TypeId) (d : TypeDesc) (u v : Value) (b : Bool) : Prop := match d with
  | .pointer _ => (Op.equal k u v).run P w = .ok b w
  | _ => Instr.sameNow d u v = some b
/-- what is found among entries, from there on. -/
def Fnd (P : Program) (w : World) (k : TypeId) (d : TypeDesc) (u : Value) (ms : List MapEntry) (i : Nat) (q : Option (Nat × Value)) : Prop := match d with
  | .pointer _ => (Instr.findAsking k u ms i).run P w = .ok q w
  | _ => Instr.findNow d u ms i = some q
theorem Fnd.nil (P : Program) (w : World) (k : TypeId) (d : TypeDesc) (u : Value) (i : Nat) : Fnd P w k d u [] i none := by
  cases d <;> rfl
theorem Fnd.here {P : Program} {w : World} {k : TypeId} {d : TypeDesc} {u : Value} {y : MapEntry} (h : Told P w k d u y.key true) (ms : List MapEntry) (i : Nat) : Fnd P w k d u (y :: ms) i (some (i, y.val)) := by
  cases d <;> simp only [Told, Fnd] at h ⊢ <;> first | (simp [Instr.findAsking, h]; done) | simp [Instr.findNow, h]
theorem Fnd.later {P : Program} {w : World} {k : TypeId} {d : TypeDesc} {u : Value} {y : MapEntry} (h : Told P w k d u y.key false) {ms : List MapEntry} {i : Nat} {q : Option (Nat × Value)} (g : Fnd P w k d u ms (i + 1) q) : Fnd P w k d u (y :: ms) i q := by
  cases d <;> simp only [Told, Fnd] at h g ⊢ <;> first | (simp [Instr.findAsking, h, g]; done) | simp [Instr.findNow, h, g]
theorem Fnd.run {P : Program} {E : Env} (hE : EnvOk P E) {w : World} {k : TypeId} {d : TypeDesc} (hk : und E k = some d) {u : Value} {ms : List MapEntry} {q : Option (Nat × Value)} (h : Fnd P w k d u ms 0 q) : (Instr.findKey k u ms).run P w = .ok q w := by
  have hu := run_underlying (und_ok hE hk) w
  cases d <;> simp only [Fnd] at h
  case pointer e =>
    cases ms with
    | nil =>
      have hq : q = none := by simpa [Instr.findAsking] using h.symm
      subst hq
      simp only [Instr.findKey, Sem.run_bind, hu, Result.andThen_ok, Instr.findNow, Sem.run_pure]
    | cons y ms => simp only [Instr.findKey, Sem.run_bind, hu, Result.andThen_ok, Instr.findNow, Instr.sameNow, h]
  all_goals simp only [Instr.findKey, Sem.run_bind, hu, Result.andThen_ok, h, Sem.run_pure]
theorem keyEq_ok {P : Program} {E : Env} (hE : EnvOk P E) {ρ : Pl} {m : T SObj} {w : World} (hm : Held ρ m w) {k : TypeId} {x y : SV} {b : Bool} {u v : Value} {d : TypeDesc} (hk : und E k = some d) (e : keyEq m x y = some b) (ht : keyTy E d x = true) (hx : den ρ x = some u) (hy : den ρ y = some v) : Told P w k d u v b := by
  have hp : ∀ el, d = .pointer el → big0 E el = true → eqB E m k x y = some b → Told P w k d u v b := by
    intro el hd _ h2
    subst hd
    exact eqB_ok hE hm h2 hx hy 9999
  unfold keyEq at e
  split at e
  · obtain ⟨h1, h2⟩ := oi_eq.1 e
    obtain rfl := kq_ok h1
    rw [den_int] at hx hy
    cases hx; cases hy; cases h2
    cases d <;> first | (simp [Told, Instr.sameNow, ieq_ok]; done) | cases ht
  · obtain ⟨rfl, ha⟩ := den_str hx
    obtain ⟨rfl, hb⟩ := den_str hy
    cases e
    cases d <;> first | (simp [Told, Instr.sameNow, str_beq ha hb]; done) | cases ht
  · rw [den_bool] at hx hy
    cases hx; cases hy; cases e
    cases d <;> first | (simp [Told, Instr.sameNow, beq_bool]; done) | cases ht
  all_goals
    first
    | cases e; done
    | (cases d <;> first | (cases ht; done) | skip
       rename_i el
       have hb : big0 E el = true := ht
       refine hp el rfl hb ?_
       unfold big0 at hb
       unfold eqB
       rw [hk]
       cases hs : szE E el with
       | none => rw [hs] at hb; cases hb
       | some n =>
         rw [hs] at hb
         have hb' : Nat.blt 0 n = true := hb
         first
         | (simp only [ob, hs, oi, hb']; exact e)
         | exact e)
theorem findE_ok {P : Program} {E : Env} (hE : EnvOk P E) {ρ : Pl} {m : T SObj} {w : World} (hm : Held ρ m w) {k : TypeId} {x : SV} {u : Value} {d : TypeDesc} (hk : und E k = some d) (ht : keyTy E d x = true) (hx : den ρ x = some u) : ∀ {es : List SE} {ms : List MapEntry} {r : Option SE} (i : Nat), findE m x es = some r → denE ρ es ms →
    (r = none ∧ Fnd P w k d u ms i none) ∨ ∃ e j y, r = some e ∧ es[j]? = some e ∧ ms[j]? = some y ∧ Fnd P w k d u ms i (some (i + j, y.val)) ∧ den ρ e.key = some y.key ∧ den ρ e.val = some y.val ∧ e.born = y.born ∧ keyEq m x e.key = some true
  | [], [], r, i, h, hd => by cases h; exact .inl ⟨rfl, Fnd.nil ..⟩
  | e :: es, y :: ms, r, i, h, ⟨d1, d2, d3, d4⟩ => by
    have h' : (ob (keyEq m x e.key) fun b => Bool.rec (motive := fun _ => Option (Option SE)) (findE m x es) (some (some e)) b) = some r := h
    obtain ⟨b, h1, h2⟩ := ob_eq.1 h'
    have hs := keyEq_ok hE hm hk h1 ht hx d1
    cases b with
    | true =>
      cases h2
      exact .inr ⟨e, 0, y, rfl, rfl, rfl, Fnd.here hs ms i, d1, d2, d3, h1⟩
    | false =>
      have h3 : findE m x es = some r := h2
      rcases findE_ok hE hm hk ht hx (i + 1) h3 d4 with ⟨g1, g2⟩ | ⟨e', j, y', g1, g2, g3, g4, g5, g6, g7, g8⟩
      · exact .inl ⟨g1, Fnd.later hs g2⟩
      · exact .inr ⟨e', j + 1, y', g1, g2, g3, by rw [show i + (j + 1) = i + 1 + j by omega]; exact Fnd.later hs g4, g5, g6, g7, g8⟩
theorem checkKey_ok {P : Program} {E : Env} (hE : EnvOk P E) {ρ : Pl} {t : TypeId} {d : TypeDesc} {x : SV} {u : Value} (h : und E t = some d) (ht : keyTy E d x = true) (hx : den ρ x = some u) (em : Bool) (w : World) : (Instr.checkKey em 10000 t u).run P w = .ok () w := by
  have hu := und_ok hE h
  show (Instr.checkKey em (9999 + 1) t u).run P w = _
  unfold Instr.checkKey
  simp only [Sem.run_bind, run_underlying hu w, Result.andThen_ok]
  cases x with
  | bool b => rw [den_bool] at hx; cases hx; cases d <;> first | rfl | cases ht
  | int k n => rw [den_int] at hx; cases hx; cases d <;> first | rfl | cases ht
  | str s => obtain ⟨rfl, -⟩ := den_str hx; cases d <;> first | rfl | cases ht
  | ptr b o => obtain ⟨_, -, rfl⟩ := den_ptr hx; cases d <;> first | rfl | cases ht
  | nptr => rw [den_nptr] at hx; cases hx; cases d <;> first | rfl | cases ht
  | _ => cases d <;> cases ht
noncomputable def mapE (m : T SObj) (v : SV) : Option (List SE) := match v with
  | .nmap => some []
  | .map r => ob (m.get r) fun o => match o with
    | .map es _ => some es
    | _ => none
  | _ => none
variable [Orig]
theorem mapE_ok {P : Program} {ρ : Pl} {m : T SObj} {nx : Nat} {w0 : Base} {w : World} (h : Emb P ρ m nx w0 w) {v : SV} {es : List SE} {u0 : Value} (e : mapE m v = some es) (hv : den ρ v = some u0) :
    (u0 = .map none ∧ es = []) ∨ ∃ r p ms c, u0 = .map (some p) ∧ v = .map r ∧ w.heap[p]? = some (.map ms c) ∧ denE ρ es ms.toList := by
  unfold mapE at e
  split at e
  · cases e; rw [den_nmap] at hv; cases hv; exact .inl ⟨rfl, rfl⟩
  · rename_i r
    obtain ⟨o, h1, h2⟩ := ob_eq.1 e
    obtain ⟨x, g1, rfl⟩ := den_map hv
    obtain ⟨x', ob', a1, -, a3, a4⟩ := h.obj r o h1
    rw [g1] at a1
    cases a1
    cases o with
    | map es' c =>
      cases h2
      cases ob' <;> try exact a4.elim
      rename_i ms c'
      exact .inr ⟨r, _, ms, c', rfl, rfl, a3, a4.2⟩
    | cells => cases h2
    | siter => cases h2
    | miter => cases h2
    | defr => cases h2
    | lp => cases h2
  · cases e
omit [Orig] in
/-- looked up. -/
theorem findKey_ok {P : Program} {E : Env} (hE : EnvOk P E) {ρ : Pl} {m : T SObj} {w : World} (hm : Held ρ m w) {k : TypeId} {dk : TypeDesc} {x : SV} {u : Value} (h1 : und E k = some dk) (ht : keyTy E dk x = true) (hx : den ρ x = some u) {es : List SE} {ms : List MapEntry} {r : Option SE} (h : findE m x es = some r) (hd : denE ρ es ms) :
    (r = none ∧ (Instr.findKey k u ms).run P w = .ok none w) ∨ ∃ e j y, r = some e ∧ es[j]? = some e ∧ ms[j]? = some y ∧ (Instr.findKey k u ms).run P w = .ok (some (j, y.val)) w ∧ den ρ e.key = some y.key ∧ den ρ e.val = some y.val ∧ e.born = y.born ∧ keyEq m x e.key = some true := by
  rcases findE_ok (P := P) hE hm h1 ht hx 0 h hd with ⟨g1, g2⟩ | ⟨e', j, y', g1, g2, g3, g4, g5, g6, g7, g8⟩
  · exact .inl ⟨g1, g2.run hE h1⟩
  · rw [Nat.zero_add] at g4
    exact .inr ⟨e', j, y', g1, g2, g3, g4.run hE h1, g5, g6, g7, g8⟩
noncomputable def lkE (E : Env) (m : T SObj) (t : TypeId) (v x : SV) (ok : Bool) : Option SV := ob (und E t) fun d => match d with
  | .map k e => ob (mapE m v) fun es => ob (und E k) fun dk => oi (keyTy E dk x) (ob (findE m x es) fun r =>
    ob (match r with | some y => some (y.val, true) | none => ob (zrE E e) fun z => some (z, false)) fun q =>
      some (Bool.rec (motive := fun _ => SV) q.1 (.tup [q.1, .bool q.2]) ok))
  | _ => none
theorem lkE_ok {P : Program} {E : Env} (hE : EnvOk P E) {ρ : Pl} {m : T SObj} {nx : Nat} {w0 : Base} {w : World} (h : Emb P ρ m nx w0 w) {t : TypeId} {v x r : SV} {ok : Bool} {u0 u1 : Value} (e : lkE E m t v x ok = some r) (hv : den ρ v = some u0) (hx : den ρ x = some u1) :
    ∃ u, (Instr.lookup t u0 u1 ok).run P w = .ok u w ∧ den ρ r = some u := by
  obtain ⟨d, h1, h2⟩ := ob_eq.1 e
  have hu := und_ok hE h1
  split at h2
  · rename_i k el
    obtain ⟨es, h3, h4⟩ := ob_eq.1 h2
    obtain ⟨dk, h5, h6⟩ := ob_eq.1 h4
    obtain ⟨h7, h8⟩ := oi_eq.1 h6
    obtain ⟨q, h9, h10⟩ := ob_eq.1 h8
    obtain ⟨⟨z, b⟩, h11, h12⟩ := ob_eq.1 h10
    cases h12
    have fin : ∀ zu, den ρ z = some zu → ∃ u, (Result.ok (if ok = true then Value.tuple #[zu, .bool b] else zu) w : Result Value) = .ok u w ∧ den ρ (Bool.rec (motive := fun _ => SV) z (.tup [z, .bool b]) ok) = some u := by
      intro zu hz
      cases ok with
      | false => exact ⟨_, rfl, hz⟩
      | true => exact ⟨_, rfl, den_tup_mk (us := [zu, .bool b]) (denL_cons.2 ⟨_, _, hz, denL_cons.2 ⟨_, _, den_bool ρ b, denL_nil ρ, rfl⟩, rfl⟩)⟩
    have ck := fun em => checkKey_ok hE h5 h7 hx em w
    have val : ∀ ms : List MapEntry, denE ρ es ms → ∃ zu, den ρ z = some zu ∧ (((Instr.findKey k u1 ms).run P w = .ok none w ∧ (zeroValue el).run P w = .ok zu w ∧ b = false) ∨ ∃ j, (Instr.findKey k u1 ms).run P w = .ok (some (j, zu)) w ∧ b = true) := by
      intro ms hms
      rcases findKey_ok hE h.held h5 h7 hx h9 hms with ⟨rfl, g2⟩ | ⟨e', j, y', rfl, g2, g3, g4, g5, g6, g7, g8⟩
      · obtain ⟨z', h13, h14⟩ := ob_eq.1 h11
        cases h14
        obtain ⟨zu, c1, c2, -⟩ := zrE_ok hE h13 ρ w
        exact ⟨zu, c2, .inl ⟨g2, c1, rfl⟩⟩
      · cases h11
        exact ⟨_, g6, .inr ⟨j, g4, rfl⟩⟩
    rcases mapE_ok h h3 hv with ⟨rfl, rfl⟩ | ⟨r', p, ms, c, rfl, rfl, b1, b2⟩
    · obtain ⟨zu, d1, d2⟩ := val [] trivial
      obtain ⟨u, f1, f2⟩ := fin zu d1
      refine ⟨u, ?_, f2⟩
      rw [← f1]
      rcases d2 with ⟨d3, d4, rfl⟩ | ⟨j, d3, rfl⟩
      · simp only [Instr.lookup, Sem.run_bind, run_underlying hu w, Result.andThen_ok, Sem.run_pure, ck, d3, d4]
      · simp only [Instr.lookup, Sem.run_bind, run_underlying hu w, Result.andThen_ok, Sem.run_pure, ck, d3]
    · obtain ⟨zu, d1, d2⟩ := val ms.toList b2
      obtain ⟨u, f1, f2⟩ := fin zu d1
      refine ⟨u, ?_, f2⟩
      rw [← f1]
      have hget : (getObj p).run P w = .ok (.map ms c) w := by simp [getObj, Sem.run, b1]
      rcases d2 with ⟨d3, d4, rfl⟩ | ⟨j, d3, rfl⟩
      · simp only [Instr.lookup, Sem.run_bind, run_underlying hu w, Result.andThen_ok, Sem.run_pure, hget, ck, d3, d4]
      · simp only [Instr.lookup, Sem.run_bind, run_underlying hu w, Result.andThen_ok, Sem.run_pure, hget, ck, d3]
  · cases h2
end Go.Proofs.YtodehmognjofhaaGreat

namespace Go.Proofs.YtodehmognjofhaaGreat
open Go.RowKit

def isIf : TypeDesc → Bool
  | .interface _ => true
  | _ => false
noncomputable def taV (E : Env) (v : SV) (t : TypeId) (ok : Bool) : Option SV := match v with
  | .nifc => oi ok (ob (zrE E t) fun z => some (.tup [z, .bool false]))
  | .ifc t' x => Bool.rec (motive := fun _ => Option SV) (oi ok (ob (zrE E t) fun z => some (.tup [z, .bool false]))) (some (Bool.rec (motive := fun _ => SV) x (.tup [x, .bool true]) ok)) (Nat.beq t' t)
  | _ => none
noncomputable def taE (E : Env) (v : SV) (t : TypeId) (ok : Bool) : Option SV := ob (und E t) fun d => oi (not (isIf d)) (taV E v t ok)
theorem taE_ok {P : Program} {E : Env} (hE : EnvOk P E) {ρ : Pl} {v r : SV} {t xt : TypeId} {ok : Bool} {u0 : Value} (e : taE E v t ok = some r) (h : den ρ v = some u0) (w : World) : ∃ u, (Instr.typeAssert u0 xt t ok).run P w = .ok u w ∧ den ρ r = some u := by
  obtain ⟨d, h1, h2⟩ := ob_eq.1 e
  have hu := und_ok hE h1
  obtain ⟨h0, h3⟩ := oi_eq.1 h2
  have h4 : ∀ ms, d ≠ .interface ms := fun ms hd => by subst hd; cases h0
  unfold taV at h3
  have miss : oi ok (ob (zrE E t) fun z => some (.tup [z, .bool false])) = some r → ∃ zu, ok = true ∧ (zeroValue t).run P w = .ok zu w ∧ den ρ r = some (.tuple #[zu, .bool false]) := by
    intro hm
    obtain ⟨g1, g2⟩ := oi_eq.1 hm
    obtain ⟨z, g3, g4⟩ := ob_eq.1 g2
    cases g4
    obtain ⟨zu, c1, c2, -⟩ := zrE_ok hE g3 ρ w
    exact ⟨zu, g1, c1, den_tup_mk (us := [zu, .bool false]) (denL_cons.2 ⟨_, _, c2, denL_cons.2 ⟨_, _, den_bool ρ false, denL_nil ρ, rfl⟩, rfl⟩)⟩
  split at h3
  · obtain ⟨zu, rfl, g1, g2⟩ := miss h3
    rw [den_nifc] at h
    cases h
    refine ⟨_, ?_, g2⟩
    unfold Instr.typeAssert
    simp only [Sem.run_bind, run_underlying hu w, Result.andThen_ok]
    cases d <;> first | exact absurd rfl (h4 _) | simp only [if_true, Sem.run_bind, g1, Result.andThen_ok, Sem.run_pure]
  · rename_i t' x
    obtain ⟨y, g0, rfl⟩ := den_ifc h
    by_cases ht : t' = t
    · subst ht
      rw [nbeq_iff.2 rfl] at h3
      cases h3
      cases ok with
      | false =>
        refine ⟨y, ?_, g0⟩
        unfold Instr.typeAssert
        simp only [Sem.run_bind, run_underlying hu w, Result.andThen_ok]
        cases d <;> first | exact absurd rfl (h4 _) | simp only [if_true, Bool.false_eq_true, if_false, Sem.run_pure]
      | true =>
        refine ⟨_, ?_, den_tup_mk (us := [y, .bool true]) (denL_cons.2 ⟨_, _, g0, denL_cons.2 ⟨_, _, den_bool ρ true, denL_nil ρ, rfl⟩, rfl⟩)⟩
        unfold Instr.typeAssert
        simp only [Sem.run_bind, run_underlying hu w, Result.andThen_ok]
        cases d <;> first | exact absurd rfl (h4 _) | simp only [if_true, Sem.run_pure]
    · rw [nbeq ht] at h3
      obtain ⟨zu, rfl, g1, g2⟩ := miss h3
      refine ⟨_, ?_, g2⟩
      unfold Instr.typeAssert
      simp only [Sem.run_bind, run_underlying hu w, Result.andThen_ok]
      cases d <;> first | exact absurd rfl (h4 _) | simp only [ht, if_false, if_true, Sem.run_bind, g1, Result.andThen_ok, Sem.run_pure]
  · cases h3

noncomputable def lenE (E : Env) (m : T SObj) (t : TypeId) (v : SV) : Option SV := ob (und E t) fun d => match d with
  | .string => match v with
    | .str l => some (.int .i64 (.ofNat (len l)))
    | .sym .str i => some (.lenS i)
    | .strs l => some (.int .i64 (.ofNat (len l)))
    | _ => none
  | .array n _ => some (.int .i64 (.ofNat n))
  | .pointer a => ob (und E a) fun d' => match d' with
    | .array n _ => some (.int .i64 (.ofNat n))
    | _ => none
  | .slice _ => match v with
    | .slc _ _ n _ => some (.int .i64 (.ofNat n))
    | .slu _ _ n _ => some (.int .i64 (.ofNat n))
    | .nslc => some (.int .i64 (.ofNat 0))
    | _ => none
  | .map _ _ => ob (mapE m v) fun es => some (.int .i64 (.ofNat (len es)))
  | _ => none
theorem denE_len {ρ : Pl} : ∀ {es : List SE} {ms : List MapEntry}, denE ρ es ms → es.length = ms.length
  | [], [], _ => rfl
  | _ :: es, _ :: ms, ⟨_, _, _, h⟩ => by simp [denE_len h]
variable [Orig]
theorem lenE_ok {P : Program} {E : Env} (hE : EnvOk P E) {ρ : Pl} {m : T SObj} {nx : Nat} {w0 : Base} {w : World} (h : Emb P ρ m nx w0 w) {t ty : TypeId} {v r : SV} {u0 : Value} {ts : Array TypeId} (ht : ts[0]? = some t) (e : lenE E m t v = some r) (hv : den ρ v = some u0) :
    ∃ u, (Builtin.len_ ts ty #[u0]).run P w = .ok u w ∧ den ρ r = some u := by
  obtain ⟨d, h1, h2⟩ := ob_eq.1 e
  have hu := und_ok hE h1
  have h0 : (#[u0] : Array Value)[0]? = some u0 := rfl
  have base : ∀ {X : Sem Value}, (match (d, u0) with
      | (.string, .string s) => pure (goInt s.size)
      | (.array n _, _) => pure (goInt n)
      | (.pointer arr, _) => do
        let .array n _ ← underlying arr | stuck "len: pointer to array expected"
        pure (goInt n)
      | (.slice _, .slice _ n _) => pure (goInt n)
      | (.map _ _, .map none) => pure (goInt 0)
      | (.map _ _, .map (some r)) => do
        let .map entries _ ← getObj r | stuck "len: map expected"
        pure (goInt entries.size)
      | _ => X) = X → True := fun _ => trivial
  clear base
  unfold Builtin.len_
  simp only [ht, h0, Sem.run_bind, run_underlying hu w, Result.andThen_ok]
  cases d <;> simp only at h2 <;> try cases h2
  case string =>
    split at h2
    · cases h2
      obtain ⟨rfl, -⟩ := den_str hv
      exact ⟨_, rfl, by rw [len_ok, ← bytesOf_size]; exact den_int _ _ _⟩
    · cases h2
      rename_i i
      unfold den at hv
      obtain ⟨hz, hk⟩ := symD_some hv
      have hd : den ρ (.lenS i) = lenV (ρ.val i) := by unfold den; rfl
      rw [hd, hz]
      cases u0 <;> simp only [SK.is, Bool.false_eq_true, decide_eq_true_eq] at hk
      refine ⟨_, rfl, ?_⟩
      unfold lenV
      exact if_pos hk
    · cases h2
      obtain ⟨r, -, rfl, hl, -⟩ := den_strs hv
      exact ⟨_, rfl, by rw [len_ok, ← hl, ← bytesOf_size]; exact den_int _ _ _⟩
    · cases h2
  case array n el => exact ⟨_, rfl, den_int _ _ _⟩
  case pointer a =>
    obtain ⟨d', h3, h4⟩ := ob_eq.1 h2
    cases d' <;> simp only at h4 <;> try cases h4
    refine ⟨_, ?_, den_int _ _ _⟩
    simp only [Sem.run_bind, run_underlying (und_ok hE h3) w, Result.andThen_ok, Sem.run_pure]
    rfl
  case slice el =>
    split at h2
    · cases h2; obtain ⟨x, -, rfl⟩ := den_slc hv; exact ⟨_, rfl, den_int _ _ _⟩
    · cases h2; obtain ⟨x, -, -, rfl⟩ := den_slu hv; exact ⟨_, rfl, den_int _ _ _⟩
    · cases h2; rw [den_nslc] at hv; cases hv; exact ⟨_, rfl, den_int _ _ _⟩
    · cases h2
  case map k el =>
    obtain ⟨es, h3, h4⟩ := ob_eq.1 h2
    cases h4
    rcases mapE_ok h h3 hv with ⟨rfl, rfl⟩ | ⟨r', p, ms, c, rfl, rfl, b1, b2⟩
    · exact ⟨_, rfl, den_int _ _ _⟩
    · have hget : (getObj p).run P w = .ok (.map ms c) w := by simp [getObj, Sem.run, b1]
      refine ⟨_, ?_, den_int _ _ _⟩
      simp only [Sem.run_bind, hget, Result.andThen_ok, Sem.run_pure, len_ok, denE_len b2]
      rfl
noncomputable def capE (E : Env) (t : TypeId) (v : SV) : Option SV := ob (und E t) fun d => match d with
  | .array n _ => some (.int .i64 (.ofNat n))
  | .slice _ => match v with
    | .slc _ _ _ c => some (.int .i64 (.ofNat c))
    | .nslc => some (.int .i64 (.ofNat 0))
    | _ => none
  | _ => none
omit [Orig] in
theorem capE_ok {P : Program} {E : Env} (hE : EnvOk P E) {ρ : Pl} {w : World} {t ty : TypeId} {v r : SV} {u0 : Value} {ts : Array TypeId} (ht : ts[0]? = some t) (e : capE E t v = some r) (hv : den ρ v = some u0) :
    ∃ u, (Builtin.cap_ ts ty #[u0]).run P w = .ok u w ∧ den ρ r = some u := by
  obtain ⟨d, h1, h2⟩ := ob_eq.1 e
  have hu := und_ok hE h1
  have h0 : (#[u0] : Array Value)[0]? = some u0 := rfl
  unfold Builtin.cap_
  simp only [ht, h0, Sem.run_bind, run_underlying hu w, Result.andThen_ok]
  cases d <;> simp only at h2 <;> try cases h2
  case array n el => exact ⟨_, rfl, den_int _ _ _⟩
  case slice el =>
    split at h2
    · cases h2; obtain ⟨x, -, rfl⟩ := den_slc hv; exact ⟨_, rfl, den_int _ _ _⟩
    · cases h2; rw [den_nslc] at hv; cases hv; exact ⟨_, rfl, den_int _ _ _⟩
    · cases h2
/-- the least, the greatest. -/
noncomputable def mmE (mn : Bool) (_k : IntKind) (x : Int) (l : List SV) : Option Int := List.rec (motive := fun _ => Int → Option Int) (fun x => some x)
  (fun v _ ih x => match v with
    | .int _ y => ih (Bool.rec (motive := fun _ => Int) (Bool.rec (motive := fun _ => Int) y x (ile y x)) (Bool.rec (motive := fun _ => Int) x y (not (ile x y))) mn)
    | _ => none) l x
omit [Orig] in
theorem mmE_ok {P : Program} {ρ : Pl} {mn : Bool} {k : IntKind} (w : World) : ∀ {l : List SV} {us : List Value} {x r : Int}, mmE mn k x l = some r → denL ρ l = some us → (us.foldlM (if mn then Builtin.min2 else Builtin.max2) (Value.int k x)).run P w = .ok (.int k r) w
  | [], us, x, r, h, hd => by rw [denL_nil] at hd; cases hd; cases h; rfl
  | v :: l, us, x, r, h, hd => by
    obtain ⟨u, us', h1, h2, rfl⟩ := denL_cons.1 hd
    cases v with
    | int k' y =>
      rw [den_int] at h1
      cases h1
      have h' : mmE mn k (Bool.rec (motive := fun _ => Int) (Bool.rec (motive := fun _ => Int) y x (ile y x)) (Bool.rec (motive := fun _ => Int) x y (not (ile x y))) mn) l = some r := h
      have ih := mmE_ok (P := P) w h' h2
      rw [List.foldlM_cons]
      simp only [Sem.run_bind]
      cases mn with
      | true =>
        simp only [if_true, Builtin.min2, Sem.run_pure, Result.andThen_ok]
        have e : (if y < x then y else x) = (Bool.rec (motive := fun _ => Int) x y (not (ile x y)) : Int) := by
          rw [ile_ok]
          by_cases hc : x ≤ y
          · rw [if_neg (by omega), decide_eq_true hc]; rfl
          · rw [if_pos (by omega), decide_eq_false hc]; rfl
        rw [e]
        simpa using ih
      | false =>
        simp only [Bool.false_eq_true, if_false, Builtin.max2, Sem.run_pure, Result.andThen_ok]
        have e : (if y > x then y else x) = (Bool.rec (motive := fun _ => Int) y x (ile y x) : Int) := by
          rw [ile_ok]
          by_cases hc : y ≤ x
          · rw [if_neg (by omega), decide_eq_true hc]
          · rw [if_pos (by omega), decide_eq_false hc]
        rw [e]
        simpa using ih
    | _ => cases h
noncomputable def biE (E : Env) (m : T SObj) (b : Builtin) (ts : Array TypeId) (vs : List SV) : Option SV := match b with
  | .len => ob ts.toList.head? fun t => match vs with
    | [v] => lenE E m t v
    | _ => none
  | .cap => ob ts.toList.head? fun t => match vs with
    | [v] => capE E t v
    | _ => none
  | .min => match vs with
    | .int k x :: l => ob (mmE true k x l) fun r => some (.int k r)
    | _ => none
  | .max => match vs with
    | .int k x :: l => ob (mmE false k x l) fun r => some (.int k r)
    | _ => none
  | _ => none
omit [Orig] in
theorem head_get {ts : Array TypeId} {t : TypeId} (h : ts.toList.head? = some t) : ts[0]? = some t := by
  rw [List.head?_eq_getElem?] at h
  simpa using h
theorem biE_ok {P : Program} {E : Env} (hE : EnvOk P E) {ρ : Pl} {m : T SObj} {nx : Nat} {w0 : Base} {w : World} (h : Emb P ρ m nx w0 w) {b : Builtin} {ts : Array TypeId} {ty : TypeId} {cs : Array Bool} {vs : List SV} {us : List Value} {r : SV} (e : biE E m b ts vs = some r) (hd : denL ρ vs = some us) :
    ∃ u, (builtin b ts ty cs us.toArray).run P w = .ok (.value u) w ∧ den ρ r = some u := by
  unfold biE at e
  split at e
  · obtain ⟨t, h1, h2⟩ := ob_eq.1 e
    split at h2
    · obtain ⟨u, us', g1, g2, rfl⟩ := denL_cons.1 hd
      rw [denL_nil] at g2
      cases g2
      obtain ⟨u', c1, c2⟩ := lenE_ok hE h (ty := ty) (head_get h1) h2 g1
      exact ⟨u', by simp only [builtin, Sem.run_bind, c1, Result.andThen_ok, Sem.run_pure], c2⟩
    · cases h2
  · obtain ⟨t, h1, h2⟩ := ob_eq.1 e
    split at h2
    · obtain ⟨u, us', g1, g2, rfl⟩ := denL_cons.1 hd
      rw [denL_nil] at g2
      cases g2
      obtain ⟨u', c1, c2⟩ := capE_ok hE (w := w) (ty := ty) (head_get h1) h2 g1
      exact ⟨u', by simp only [builtin, Sem.run_bind, c1, Result.andThen_ok, Sem.run_pure], c2⟩
    · cases h2
  · split at e
    · obtain ⟨x, h1, h2⟩ := ob_eq.1 e
      cases h2
      obtain ⟨u, us', g1, g2, rfl⟩ := denL_cons.1 hd
      rw [den_int] at g1
      cases g1
      have := mmE_ok (P := P) w h1 g2
      simp only [if_true] at this
      exact ⟨_, by simp only [builtin, Builtin.min_, Sem.run_bind, this, Result.andThen_ok, Sem.run_pure], den_int _ _ _⟩
    · cases e
  · split at e
    · obtain ⟨x, h1, h2⟩ := ob_eq.1 e
      cases h2
      obtain ⟨u, us', g1, g2, rfl⟩ := denL_cons.1 hd
      rw [den_int] at g1
      cases g1
      have := mmE_ok (P := P) w h1 g2
      simp only [Bool.false_eq_true, if_false] at this
      exact ⟨_, by simp only [builtin, Builtin.max_, Sem.run_bind, this, Result.andThen_ok, Sem.run_pure], den_int _ _ _⟩
    · cases e
  · cases e
end Go.Proofs.YtodehmognjofhaaGreat

namespace Go.Proofs.YtodehmognjofhaaGreat
open Go.RowKit

noncomputable def evO (F : T SV) (o : Option Operand) : Option (Option SV) := Option.rec (motive := fun _ => Option (Option SV)) (some none) (fun x => ob (ev F x) fun v => some (some v)) o
theorem evO_den {ρ : Pl} {N : Nat} {F : T SV} {a : Act} (hF : FRel ρ N F a) {o : Option Operand} {v : Option SV} (h : evO F o = some v) : denO ρ v (o.map a.eval) := by
  cases o with
  | none => cases h; trivial
  | some x =>
    have h' : (ob (ev F x) fun v => some (some v)) = some v := h
    obtain ⟨y, h1, h2⟩ := ob_eq.1 h'
    cases h2
    exact ev_den hF h1
noncomputable def evPs (F : T SV) (l : List (Nat × Operand)) : Option (List (Nat × SV)) := List.rec (motive := fun _ => Option (List (Nat × SV))) (some []) (fun x _ ih => ob (ev F x.2) fun v => ob ih fun vs => some ((x.1, v) :: vs)) l
theorem evPs_den {ρ : Pl} {N : Nat} {F : T SV} {a : Act} (hF : FRel ρ N F a) : ∀ {l : List (Nat × Operand)} {vs : List (Nat × SV)}, evPs F l = some vs → denP ρ vs (l.map fun x => (x.1, a.eval x.2))
  | [], vs, h => by cases h; trivial
  | x :: l, vs, h => by
    have h' : (ob (ev F x.2) fun v => ob (evPs F l) fun vs => some ((x.1, v) :: vs)) = some vs := h
    obtain ⟨v, h1, h2⟩ := ob_eq.1 h'
    obtain ⟨ws, h3, h4⟩ := ob_eq.1 h2
    cases h4
    exact ⟨rfl, ev_den hF h1, evPs_den hF h3⟩
noncomputable def pkE (F : T SV) (v : SV) (a b : Operand) : Option SV := match v with
  | .bool t => Bool.rec (motive := fun _ => Option SV) (ev F b) (ev F a) t
  | _ => none
noncomputable def ldV (E : Env) (m : T SObj) (t : TypeId) (v : SV) : Option SV := match v with
  | .ptr b o => ldE E m t b o
  | .pix b o n x => pixE E m t b o n x
  | _ => none
noncomputable def clE (E : Env) (m : T SObj) (F : T SV) (c : Call) : Option SV := match c.callee with
  | .builtin b => ob (evL F c.args.toList) fun vs => biE E m b c.argTypes vs
  | _ => none
/-- a slice as a pointer to an array. -/
noncomputable def saE (E : Env) (t : TypeId) (v : SV) : Option SV := ob (und E t) fun d => match d, v with
  | .array n _, .slc b o l _ => oi (Nat.ble n l) (some (.ptr b o))
  | .array n _, .slu b o l _ => oi (Nat.ble n l) (some (.ptr b o))
  | _, _ => none
theorem saE_ok {P : Program} {E : Env} (hE : EnvOk P E) {ρ : Pl} {t : TypeId} {v r : SV} {u0 : Value} (e : saE E t v = some r) (h : den ρ v = some u0) (w : World) : ∃ u, (Instr.arrayAt t u0).run P w = .ok u w ∧ den ρ r = some u := by
  obtain ⟨d, h1, h2⟩ := ob_eq.1 e
  have hu := und_ok hE h1
  split at h2
  · obtain ⟨h3, h4⟩ := oi_eq.1 h2
    cases h4
    obtain ⟨x, g1, rfl⟩ := den_slc h
    rw [nble_iff] at h3
    exact ⟨_, run_arrayAt w _ _ _ _ _ _ hu h3, den_ptr_mk g1 _⟩
  · obtain ⟨h3, h4⟩ := oi_eq.1 h2
    cases h4
    obtain ⟨x, g1, -, rfl⟩ := den_slu h
    rw [nble_iff] at h3
    exact ⟨_, run_arrayAt w _ _ _ _ _ _ hu h3, den_ptr_mk g1 _⟩
  · cases h2
noncomputable def evP (E : Env) (m : T SObj) (F : T SV) (o : Oper) : Option SV := match o.op with
  | .move x => ev F x
  | .assign x => ev F x
  | .pick c a b => ob (ev F c) fun v => pkE F v a b
  | .build t ps => ob (evPs F ps.toList) fun l => bldE E t l
  | .load t x => ob (ev F x) fun v => ldV E m t v
  | .nilCheck x => ob (ev F x) fun v => ncE v
  | .binOp op t x y _ => ob (ev F x) fun a => ob (ev F y) fun b => binE E m op t (cst x y) a b
  | .unOp op _ x => ob (ev F x) fun v => unE op v
  | .convert s d x => ob (ev F x) fun v => convE E m s d v
  | .sliceToArrayPointer t x => ob (ev F x) fun v => saE E t v
  | .makeInterface t x => ob (ev F x) fun v => miE E t v
  | .makeFunc f a c => ob (evL F a.toList) fun x => ob (evL F c.toList) fun y => mfE f x y
  | .slice t x lo hi mx => ob (ev F x) fun v => ob (evO F lo) fun l => ob (evO F hi) fun h => ob (evO F mx) fun q => Option.rec (motive := fun _ => Option SV) (oi E.em (empE E t v l h q)) (fun r => some r) (slE E t v l h q)
  | .fieldAddr t x i => ob (ev F x) fun v => faE E t v i
  | .field t x i => ob (ev F x) fun v => fieldE E t v i
  | .indexAddr t x i => ob (ev F x) fun v => ob (ev F i) fun j => iaE E t v j
  | .index t x i => ob (ev F x) fun v => ob (ev F i) fun j => inE E t v j
  | .lookup t x i ok => ob (ev F x) fun v => ob (ev F i) fun j => lkE E m t v j ok
  | .typeAssert x _ t ok => ob (ev F x) fun v => taE E v t ok
  | .extract x i => ob (ev F x) fun v => exE v i
  | .call c => clE E m F c
  | _ => none
theorem map_toA {α β : Type} (f : α → β) (xs : Array α) : xs.map f = (xs.toList.map f).toArray := by rw [← Array.toList_map, Array.toArray_toList]
theorem map_toArray_eval (a : Act) (xs : Array Operand) : xs.map a.eval = (xs.toList.map a.eval).toArray := map_toA _ _
variable [Orig]
theorem evP_ok {P : Program} {E : Env} (hE : EnvOk P E) {ρ : Pl} {m : T SObj} {nx : Nat} {w0 : Base} {w : World} (h : Emb P ρ m nx w0 w) {N : Nat} {F : T SV} {a : Act} (hF : FRel ρ N F a) {o : Oper} {r : SV} (e : evP E m F o = some r) :
    ∃ u, (execOp a.eval o).run P w = .ok (.value u) w ∧ den ρ r = some u := by
  have fin : ∀ {s : Sem Value}, (∃ u, s.run P w = .ok u w ∧ den ρ r = some u) → ∃ u, (do pure (Next.value (← s)) : Sem Next).run P w = .ok (.value u) w ∧ den ρ r = some u := by
    rintro s ⟨u, h1, h2⟩
    refine ⟨u, ?_, h2⟩
    show ((s.bind fun x => pure (Next.value x)) : Sem Next).run P w = _
    rw [show (s.bind fun x => pure (Next.value x)) = (s >>= fun x => pure (Next.value x)) from rfl, Sem.run_bind, h1]
    rfl
  obtain ⟨dst, op, ty, pos, after, guard⟩ := o
  unfold evP at e
  cases op <;> simp only at e <;> try cases e
  case move x => exact ⟨_, rfl, ev_den hF e⟩
  case assign x => exact ⟨_, rfl, ev_den hF e⟩
  case pick c x y =>
    obtain ⟨v, h1, h2⟩ := ob_eq.1 e
    have hv := ev_den hF h1
    unfold pkE at h2
    split at h2
    · rename_i t
      rw [den_bool] at hv
      have hc : a.eval c = .bool t := (Option.some.inj hv).symm
      cases t with
      | true => exact ⟨_, by simp [execOp, hc, asBool], ev_den hF h2⟩
      | false => exact ⟨_, by simp [execOp, hc, asBool], ev_den hF h2⟩
    · cases h2
  case build t ps =>
    obtain ⟨l, h1, h2⟩ := ob_eq.1 e
    have := bldE_ok hE h2 (evPs_den hF h1) w
    refine fin ?_
    have e1 : (ps.map fun (i, x) => (i, a.eval x)) = (ps.toList.map fun x => (x.1, a.eval x.2)).toArray := map_toA _ _
    rw [e1]
    exact this
  case load t x =>
    obtain ⟨v, h1, h2⟩ := ob_eq.1 e
    unfold ldV at h2
    split at h2
    · exact fin (ldE_ok hE h h2 (ev_den hF h1))
    · exact fin (pixE_ok hE h h2 (ev_den hF h1))
    · cases h2
  case nilCheck x =>
    obtain ⟨v, h1, h2⟩ := ob_eq.1 e
    exact ncE_ok rfl rfl h2 (ev_den hF h1) w
  case binOp op t x y yt =>
    obtain ⟨v, h1, h2⟩ := ob_eq.1 e
    obtain ⟨v2, h3, h4⟩ := ob_eq.1 h2
    exact fin (binE_ok hE h.held h4 (ev_den hF h1) (ev_den hF h3))
  case unOp op t x =>
    obtain ⟨v, h1, h2⟩ := ob_eq.1 e
    exact fin (unE_ok h2 (ev_den hF h1) w)
  case convert s d x =>
    obtain ⟨v, h1, h2⟩ := ob_eq.1 e
    exact fin (convE_ok hE h h2 (ev_den hF h1))
  case sliceToArrayPointer t x =>
    obtain ⟨v, h1, h2⟩ := ob_eq.1 e
    exact fin (saE_ok hE h2 (ev_den hF h1) w)
  case makeInterface t x =>
    obtain ⟨v, h1, h2⟩ := ob_eq.1 e
    exact fin (miE_ok hE h2 (ev_den hF h1) w)
  case makeFunc f x c =>
    obtain ⟨v, h1, h2⟩ := ob_eq.1 e
    obtain ⟨v2, h3, h4⟩ := ob_eq.1 h2
    have := mfE_ok h4 (evL_den hF h1) (evL_den hF h3)
    rw [← map_toArray_eval, ← map_toArray_eval] at this
    exact ⟨_, rfl, this⟩
  case slice t x lo hi mx =>
    obtain ⟨v, h1, h2⟩ := ob_eq.1 e
    obtain ⟨l, h3, h4⟩ := ob_eq.1 h2
    obtain ⟨hh, h5, h6⟩ := ob_eq.1 h4
    obtain ⟨q, h7, h8⟩ := ob_eq.1 h6
    cases hs : slE E t v l hh q with
    | some r' =>
      rw [hs] at h8
      cases h8
      exact fin (slE_ok hE hs (ev_den hF h1) (evO_den hF h3) (evO_den hF h5) (evO_den hF h7) w)
    | none =>
      rw [hs] at h8
      exact fin (empE_ok hE (oi_eq.1 h8).2 (ev_den hF h1) (evO_den hF h3) (evO_den hF h5) (evO_den hF h7) w)
  case fieldAddr t x i =>
    obtain ⟨v, h1, h2⟩ := ob_eq.1 e
    exact fin (faE_ok hE h2 (ev_den hF h1) w)
  case field t x i =>
    obtain ⟨v, h1, h2⟩ := ob_eq.1 e
    exact fin (fieldE_ok hE h2 (ev_den hF h1) w)
  case indexAddr t x i =>
    obtain ⟨v, h1, h2⟩ := ob_eq.1 e
    obtain ⟨v2, h3, h4⟩ := ob_eq.1 h2
    exact fin (iaE_ok hE h4 (ev_den hF h1) (ev_den hF h3) w)
  case index t x i =>
    obtain ⟨v, h1, h2⟩ := ob_eq.1 e
    obtain ⟨v2, h3, h4⟩ := ob_eq.1 h2
    exact fin (inE_ok hE h4 (ev_den hF h1) (ev_den hF h3) w)
  case lookup t x i ok =>
    obtain ⟨v, h1, h2⟩ := ob_eq.1 e
    obtain ⟨v2, h3, h4⟩ := ob_eq.1 h2
    exact fin (lkE_ok hE h h4 (ev_den hF h1) (ev_den hF h3))
  case typeAssert x xt t ok =>
    obtain ⟨v, h1, h2⟩ := ob_eq.1 e
    exact fin (taE_ok hE h2 (ev_den hF h1) w)
  case extract x i =>
    obtain ⟨v, h1, h2⟩ := ob_eq.1 e
    exact fin (exE_ok h2 (ev_den hF h1) w)
  case call c =>
    unfold clE at e
    split at e
    · rename_i b hb
      obtain ⟨vs, h1, h2⟩ := ob_eq.1 e
      obtain ⟨u, c1, c2⟩ := biE_ok hE h (ty := ty) (cs := c.args.map fun | .const _ => true | _ => false) h2 (evL_den hF h1)
      refine ⟨u, ?_, c2⟩
      rw [← c1, ← map_toArray_eval]
      simp only [execOp, resolve, hb, Sem.run_bind, Sem.run_pure, Result.andThen_ok, invoke]
      rfl
    · cases e
end Go.Proofs.YtodehmognjofhaaGreat

namespace Go.Proofs.YtodehmognjofhaaGreat
open Go.RowKit

theorem heap_setCell_z (w : World) (b o : Nat) (arr : Array Value) (e : TypeId) (z : Nat × Nat) (v : Value) (h : w.heap[b]? = some (.cells arr e z)) :
    (w.setCell ⟨b, o, none⟩ v).heap[b]? = some (.cells (arr.setIfInBounds o v) e z) := by
  unfold World.setCell
  simp only
  rw [Array.getElem?_modify, if_pos rfl, h]
  rfl
theorem setCells_heap (b : Nat) : ∀ (vs : List Value) (o : Nat) (w : World) (arr : Array Value) (e : TypeId) (z : Nat × Nat), w.heap[b]? = some (.cells arr e z) → o + vs.length ≤ arr.size →
    ∃ arr', (w.setCells b o vs).heap[b]? = some (.cells arr' e z) ∧ arr'.toList = arr.toList.take o ++ (vs ++ arr.toList.drop (o + vs.length)) ∧ arr'.size = arr.size ∧ (w.setCells b o vs).heap.size = w.heap.size ∧ (∀ k, k ≠ b → (w.setCells b o vs).heap[k]? = w.heap[k]?) ∧
      (w.setCells b o vs).os = w.os ∧ (w.setCells b o vs).tape = w.tape ∧ (w.setCells b o vs).output = w.output
  | [], o, w, arr, e, z, h, _ => ⟨arr, h, by simp, rfl, rfl, fun _ _ => rfl, rfl, rfl, rfl⟩
  | v :: vs, o, w, arr, e, z, h, hl => by
    rw [List.length_cons] at hl
    have h1 := heap_setCell_z w b o arr e z v h
    obtain ⟨arr', a1, a2, a3, a4, a5, a6, a7, a8⟩ := setCells_heap b vs (o + 1) (w.setCell ⟨b, o, none⟩ v) _ e z h1 (by simp; omega)
    refine ⟨arr', a1, ?_, by rw [a3]; simp, by rw [World.setCells, a4]; simp [World.setCell], fun k hk => ?_, a6, a7, a8⟩
    · have h2 : o < arr.toList.length := by simp; omega
      rw [a2]
      simp only [Array.toList_setIfInBounds, List.length_cons]
      rw [List.take_add_one, List.take_set_of_le (Nat.le_refl _), List.getElem?_set_self h2, List.drop_set_of_lt (by omega)]
      simp [show o + 1 + vs.length = o + (vs.length + 1) by omega]
    · rw [World.setCells, a5 k hk]
      exact heap_setCell_other w ⟨b, o, none⟩ k v hk
variable [Orig]
namespace Emb
variable {P : Program} {ρ : Pl} {m : T SObj} {nx : Nat} {w0 : Base} {w : World}
/-- cells are written. -/
theorem write (h : Emb P ρ m nx w0 w) {b : Nat} {cs : List SV} {e : TypeId} {opn : Bool} (hb : m.get b = some (.cells cs e opn)) {x : Nat × Nat} (hx : ρ b = some x) {p : List SV} {ps : List Value} (hp : denC ρ p = some ps) (h1 : p.all SV.onc = true) {o : Nat} (hl : o + lenC p ≤ lenC cs) :
    ∃ w', (storeCells ⟨x.1, o, none⟩ ps).run P w = .ok () w' ∧ Emb P ρ (m.put (some (.cells (lay o p cs) e opn)) b) nx w0 w' := by
  obtain ⟨x', ob', g1, -, g3, g4⟩ := h.obj b _ hb
  rw [hx] at g1
  cases g1
  cases ob' <;> try exact g4.elim
  rename_i arr t' z
  obtain ⟨rfl, ⟨us, a2, a3⟩, a4, a5⟩ := g4
  have hpl := denC_len hp
  have hul := denC_len a2
  have key : arr.toList.take us.length = us := by
    by_cases ho : opn = true
    · rw [if_pos ho] at a3; exact a3.1
    · rw [if_neg ho] at a3; rw [a3, List.take_length]
  have hal : us.length ≤ arr.size := by
    have := congrArg List.length key
    rw [List.length_take] at this
    have h6 : arr.toList.length = arr.size := by simp
    omega
  obtain ⟨arr', c1, c2, c3, c4, c5, c6, c7, c8⟩ := setCells_heap x.1 ps o w arr t' z g3 (by omega)
  refine ⟨w.setCells x.1 o ps, ?_, ?_⟩
  · have := run_storeCells_cells (P := P) x.1 o ps 0 w (fun j hj => by
      rw [cell_of_row w x.1 _ arr t' z g3]
      rw [Array.getElem?_eq_getElem (by omega)]; rfl) (fun j hj => by
      unfold World.frozen?
      simp only [g3]
      have := a4.1 (o + 0 + j) (by omega)
      simpa using this) (denC_one hp h1)
    simpa using this
  · refine h.upd hb hx c6 c7 c8 c4 c1 c5 ⟨rfl, ⟨us.take o ++ (ps ++ us.drop (o + ps.length)), lay_den hp a2 (by omega), ?_⟩, ⟨fun i hi => a4.1 i (by omega), a4.2⟩, lay_one h1 a5⟩
    have hlen : (us.take o ++ (ps ++ us.drop (o + ps.length))).length = us.length := by simp; omega
    by_cases ho : opn = true
    · rw [if_pos ho] at a3 ⊢
      refine ⟨?_, by rw [c3]; exact a3.2⟩
      rw [hlen, c2]
      have e1 : arr.toList = us ++ arr.toList.drop us.length := by
        conv => lhs; rw [← List.take_append_drop us.length arr.toList, key]
      generalize arr.toList.drop us.length = A at e1
      have t1 : (us ++ A).take o = us.take o := List.take_append_of_le_length (by omega)
      have t2 : (us ++ A).drop (o + ps.length) = us.drop (o + ps.length) ++ A := List.drop_append_of_le_length (by omega)
      have t3 : us.take o ++ (ps ++ (us.drop (o + ps.length) ++ A)) = (us.take o ++ (ps ++ us.drop (o + ps.length))) ++ A := by simp
      rw [e1, t1, t2, t3, ← hlen, List.take_left]
    · rw [if_neg ho] at a3 ⊢
      rw [c2, a3]
end Emb
/-- what an operation comes to, that may write. -/
def AOk (P : Program) (ρ : Pl) (w0 : Base) (v : SV) (m' : T SObj) (nx' : Nat) (r : Result Next) : Prop :=
  ∃ ρ' u w' n, Le ρ ρ' ∧ r = .ok n w' ∧ (n = .value u ∨ n = .skip ∧ u = undef) ∧ den ρ' v = some u ∧ Emb P ρ' m' nx' w0 w'
omit [Orig] in
theorem den_undef (ρ : Pl) : den ρ (.tup []) = some undef := by simp [den, denL, undef]

noncomputable def stE (E : Env) (m : T SObj) (t : TypeId) (a v : SV) : Option (T SObj) := match a with
  | .ptr b o => ob (m.get b) fun x => match x with
    | .cells cs e opn => ob (szE E t) fun n => oi (Nat.beq (lenC (cellsOf v)) n) (oi (Nat.ble (Nat.add o n) (lenC cs)) (oi (match v with | .tup _ => false | _ => true) (some (m.put (some (.cells (lay o (cellsOf v) cs) e opn)) b))))
    | _ => none
  | _ => none
theorem stE_ok {P : Program} {E : Env} (hE : EnvOk P E) {ρ : Pl} {m m' : T SObj} {nx : Nat} {w0 : Base} {w : World} (h : Emb P ρ m nx w0 w) {t : TypeId} {a v : SV} {u0 u1 : Value} (e : stE E m t a v = some m') (ha : den ρ a = some u0) (hv : den ρ v = some u1) :
    ∃ w', (Instr.storeAt t u0 u1).run P w = .ok () w' ∧ Emb P ρ m' nx w0 w' := by
  unfold stE at e
  split at e
  · rename_i b o
    obtain ⟨x, h1, h2⟩ := ob_eq.1 e
    split at h2
    · rename_i cs t' opn
      obtain ⟨n, h3, h4⟩ := ob_eq.1 h2
      obtain ⟨h5, h6⟩ := oi_eq.1 h4
      obtain ⟨h7, h8⟩ := oi_eq.1 h6
      obtain ⟨h9, h10⟩ := oi_eq.1 h8
      cases h10
      rw [nbeq_iff] at h5
      rw [nble_iff] at h7
      have h7' : o + n ≤ lenC cs := h7
      obtain ⟨y, g1, rfl⟩ := den_ptr ha
      have c1 := cellsOf_den hv
      have hone := cellsOf_one hv (fun l hl => by rw [hl] at h9; cases h9)
      obtain ⟨w', d1, d2⟩ := h.write h1 g1 c1 hone (o := o) (by omega)
      refine ⟨w', ?_, d2⟩
      have hs : u1.cells.size = n := by rw [← h5, ← denC_len c1]; simp
      simp only [Instr.storeAt, Instr.sureAddr, storeVar, Sem.run_bind, Sem.run_pure, Result.andThen_ok, (szE_ok hE h3 w).1]
      rw [if_neg (by omega)]
      exact d1
    · cases h2
  · cases e
omit [Orig] in
theorem obj_cells {P : Program} {ρ : Pl} {x : Nat × Nat} {cs : List SV} {us : List Value} {e : TypeId} (h : denC ρ cs = some us) (h1 : cs.all SV.onc = true) : ObjRel P ρ x (.cells cs e false) (.cells us.toArray e) :=
  ⟨rfl, ⟨us, h, rfl⟩, ⟨fun i _ g => by simp at g, fun _ => rfl⟩, h1⟩
/-- a new variable. -/
noncomputable def newE (m : T SObj) (nx : Nat) (e : TypeId) (v : SV) : Option (SV × T SObj × Nat) := oi (match v with | .tup _ => false | _ => true) (some (.ptr nx 0, m.put (some (.cells (cellsOf v) e false)) nx, Nat.succ nx))
theorem newE_ok {P : Program} {ρ : Pl} {m : T SObj} {nx : Nat} {w0 : Base} {w : World} (h : Emb P ρ m nx w0 w) {e : TypeId} {v : SV} {u : Value} {r : SV × T SObj × Nat} (he : newE m nx e v = some r) (hv : den ρ v = some u) :
    ∃ ρ' w' p, Le ρ ρ' ∧ (newVar e u).run P w = .ok p w' ∧ den ρ' r.1 = some (.pointer (some p)) ∧ Emb P ρ' r.2.1 r.2.2 w0 w' := by
  obtain ⟨h1, h2⟩ := oi_eq.1 he
  cases h2
  have hone := cellsOf_one hv (fun l hl => by rw [hl] at h1; cases h1)
  have hle := pset_le (b := nx) (w.heap.size, 0) (h.fresh nx (Nat.le_refl _)).1
  have hc := denC_mono hle _ (cellsOf_den hv)
  obtain ⟨g1, g2⟩ := h.new 0 (obj_cells (P := P) (e := e) hc hone)
  refine ⟨_, _, ⟨w.heap.size, 0, none⟩, g2, ?_, den_ptr_mk (pset_same _ _ _) 0, g1⟩
  simp only [newVar, newRow, Sem.run_bind, run_newObj_alloc, Result.andThen_ok, Sem.run_pure]
end Go.Proofs.YtodehmognjofhaaGreat

namespace Go.Proofs.YtodehmognjofhaaGreat
open Go.RowKit

noncomputable def repE (n : Nat) (zs : List SV) : List SV := Nat.rec (motive := fun _ => List SV) [] (fun _ ih => app zs ih) n
theorem repE_den {ρ : Pl} {zs : List SV} {us : List Value} (h : denC ρ zs = some us) : ∀ n, denC ρ (repE n zs) = some (List.replicate n us).flatten
  | 0 => denC_nil ρ
  | n + 1 => by
    show denC ρ (app zs (repE n zs)) = _
    rw [app_ok, List.replicate_succ, List.flatten_cons]
    exact denC_append h (repE_den h n)
theorem repE_one {zs : List SV} (h : zs.all SV.onc = true) : ∀ n, (repE n zs).all SV.onc = true
  | 0 => rfl
  | n + 1 => by show (app zs (repE n zs)).all SV.onc = true; rw [app_ok, List.all_append, h, repE_one h n]; rfl
/-- so many alike; bytes in one. -/
noncomputable def repK (x n : Nat) : List Nat := Nat.rec (motive := fun _ => List Nat) [] (fun _ ih => x :: ih) n
noncomputable def mkC (n : Nat) (zs : List SV) : List SV := match zs with
  | [v] => Option.rec (motive := fun _ => List SV) (repE n [v]) (fun x => Bool.rec (motive := fun _ => List SV) (repE n [v]) [.chk n (repK x n)] (Nat.ble 256 n)) (u8c v)
  | zs => repE n zs
theorem repK_ok (x : Nat) : ∀ n, repK x n = List.replicate n x
  | 0 => rfl
  | n + 1 => by show x :: repK x n = _; rw [repK_ok x n]; rfl
theorem mkC_den {ρ : Pl} {zs : List SV} {us : List Value} (h : denC ρ zs = some us) (n : Nat) : denC ρ (mkC n zs) = some (List.replicate n us).flatten := by
  unfold mkC
  split
  · rename_i v
    cases hu : u8c v with
    | none => exact repE_den h n
    | some x =>
      obtain ⟨rfl, hx⟩ := u8c_ok hu
      cases hb : Nat.ble 256 n with
      | false => exact repE_den h n
      | true =>
        have e : denC ρ [SV.int .u8 (x : Int)] = some [.int .u8 (x : Int)] := denC_sing (by simp [den])
        rw [e] at h
        cases h
        show denC ρ [.chk n (repK x n)] = _
        rw [repK_ok]
        refine denC_cons.2 ⟨_, _, chk_den (by simp) (fun y hy => by rw [List.eq_of_mem_replicate hy]; exact hx) _, denC_nil ρ, ?_⟩
        rw [List.append_nil]
        simp [u8V]
  · exact repE_den h n
theorem mkC_one {zs : List SV} (h : zs.all SV.onc = true) (n : Nat) : (mkC n zs).all SV.onc = true := by
  unfold mkC
  split
  · rename_i v
    cases hu : u8c v with
    | none => exact repE_one h n
    | some x =>
      cases hb : Nat.ble 256 n with
      | false => exact repE_one h n
      | true => rfl
  · exact repE_one h n
theorem range_rep (us : List Value) : ∀ n, (List.range (n * us.length)).map (fun i => us.toArray[i % us.toArray.size]!) = (List.replicate n us).flatten
  | 0 => by simp
  | n + 1 => by
    rw [Nat.add_mul, Nat.one_mul, List.range_add, List.map_append, range_rep us n, List.replicate_succ', List.flatten_append, List.map_map]
    congr 1
    simp only [List.flatten_cons, List.flatten_nil, List.append_nil]
    apply List.ext_getElem
    · simp
    · intro i h1 h2
      simp only [List.length_map, List.length_range] at h1
      simp [Nat.mod_eq_of_lt h1, h1]
theorem made_rep (z : Value) (n s : Nat) (h : z.cells.size = s) : (Array.range (n * s)).map (z.cells[· % z.cells.size]!) = (List.replicate n z.cells.toList).flatten.toArray := by
  apply Array.ext'
  have := range_rep z.cells.toList n
  simp only [Array.length_toList, h] at this
  simp only [Array.toList_map, Array.toList_range]
  rw [← this]
  simp [h]

noncomputable def mmkE (m : T SObj) (nx : Nat) : SV × T SObj × Nat := (.map nx, m.put (some (.map [] 0)) nx, Nat.succ nx)
theorem den_map_mk {ρ : Pl} {r : Nat} {x : Nat × Nat} (h : ρ r = some x) : den ρ (.map r) = some (.map (some x.1)) := by unfold den; rw [h]; rfl
variable [Orig]
theorem mmkE_ok {P : Program} {ρ : Pl} {m : T SObj} {nx : Nat} {w0 : Base} {w : World} (h : Emb P ρ m nx w0 w) (t : TypeId) (r : Option Value) (hr : ∀ v, r = some v → (∃ k e, P.underlying t = some (.map k e)) ∧ ∃ k n, v = .int k n) :
    ∃ ρ' u w', Le ρ ρ' ∧ (Instr.makeMap t r).run P w = .ok u w' ∧ den ρ' (mmkE m nx).1 = some u ∧ Emb P ρ' (mmkE m nx).2.1 (mmkE m nx).2.2 w0 w' := by
  obtain ⟨g1, g2⟩ := h.new 0 (o := .map [] 0) (ob := .map #[] 0) ⟨rfl, trivial⟩
  refine ⟨_, _, _, g2, ?_, den_map_mk (pset_same _ _ _), g1⟩
  cases r with
  | none => simp only [Instr.makeMap, Sem.run_bind, Sem.run_pure, Result.andThen_ok, run_newObj_alloc]
  | some v =>
    obtain ⟨⟨k, e, hu⟩, k', n, rfl⟩ := hr v rfl
    simp only [Instr.makeMap, Sem.run_bind, Sem.run_pure, Result.andThen_ok, run_newObj_alloc, run_underlying hu w, asInt, asIntOf]
/-- make([]T, l, c). -/
noncomputable def mslE (E : Env) (m : T SObj) (nx : Nat) (t : TypeId) (l c : SV) : Option (SV × T SObj × Nat) := ob (und E t) fun d => match d with
  | .slice e => ob (E.ty.get e) fun i => ob (zrE E e) fun z => ob (bdE c 1152921504606846976) fun c' => ob (bdE l c') fun l' =>
    oi (Nat.ble (Nat.mul i.bytes c') 140737488355328) (oi (match z with | .tup _ => false | _ => true) (oi (Nat.beq (lenC (cellsOf z)) i.size) (some (.slc nx 0 l' c', m.put (some (.cells (mkC c' (cellsOf z)) e false)) nx, Nat.succ nx))))
  | _ => none
omit [Orig] in
theorem bdE_int {v : SV} {y i : Nat} (h : bdE v y = some i) : ∃ k, v = .int k (i : Int) ∧ i ≤ y := by
  unfold bdE at h
  split at h
  · rename_i k j
    obtain ⟨h1, h2⟩ := oi_eq.1 h
    cases h2
    exact ⟨k, rfl, nble_iff.1 h1⟩
  · cases h
omit [Orig] in
theorem mslE_run {P : Program} {E : Env} (hE : EnvOk P E) {ρ : Pl} {m : T SObj} {nx : Nat} {t : TypeId} {l c : SV} {ul uc : Value} {r : SV × T SObj × Nat} (e : mslE E m nx t l c = some r) (hl : den ρ l = some ul) (hc : den ρ c = some uc) (w : World) :
    ∃ l' c' cs el us, r = (.slc nx 0 l' c', m.put (some (.cells cs el false)) nx, nx + 1) ∧ (∀ ρ', denC ρ' cs = some us) ∧ cs.all SV.onc = true ∧ (Instr.makeSlice t ul uc).run P w = .ok (.slice (some ⟨w.heap.size, 0, none⟩) l' c') (w.alloc (.cells us.toArray el)) := by
  obtain ⟨d, h1, h2⟩ := ob_eq.1 e
  have hu := und_ok hE h1
  split at h2
  · rename_i el
    obtain ⟨i, h3, h4⟩ := ob_eq.1 h2
    obtain ⟨z, h5, h6⟩ := ob_eq.1 h4
    obtain ⟨c', h7, h8⟩ := ob_eq.1 h6
    obtain ⟨l', h9, h10⟩ := ob_eq.1 h8
    obtain ⟨h11, h12⟩ := oi_eq.1 h10
    obtain ⟨h13, h14⟩ := oi_eq.1 h12
    obtain ⟨h15, h16⟩ := oi_eq.1 h14
    cases h16
    obtain ⟨kc, rfl, bc⟩ := bdE_int h7
    obtain ⟨kl, rfl, bl⟩ := bdE_int h9
    rw [den_int] at hl hc
    cases hl; cases hc
    rw [nble_iff] at h11
    have h11' : i.bytes * c' ≤ 140737488355328 := h11
    rw [nbeq_iff] at h15
    have hi := hE.ty _ _ h3
    obtain ⟨zu, -, a2, it, a3, a4⟩ := zrE_ok hE h5 ρ w
    rw [hi] at a3
    cases a3
    have hz := cellsOf_den a2
    have hone := cellsOf_one a2 (fun l hl => by rw [hl] at h13; cases h13)
    have hzs : zu.cells.size = i.size := by rw [← h15, ← denC_len hz]; simp
    have hb : (i.bytes : Int) * (c' : Int) ≤ 281474976710656 := by
      have : ((i.bytes * c' : Nat) : Int) ≤ 281474976710656 := by omega
      rwa [Int.natCast_mul] at this
    have hrun := run_make (P := P) w t el i zu hu hi a4 kl kc l' c' (by omega) (by omega) hb (by omega)
    have hmade : madeCells zu.cells (c' * i.size) = (List.replicate c' zu.cells.toList).flatten.toArray := made_rep zu c' i.size hzs
    simp only [Int.toNat_natCast, hmade] at hrun
    refine ⟨l', c', _, el, _, rfl, fun ρ' => ?_, mkC_one hone c', hrun⟩
    obtain ⟨zu', -, b2, it', b3, b4⟩ := zrE_ok hE h5 ρ' w
    rw [hi] at b3
    cases b3
    rw [a4] at b4
    cases b4
    exact mkC_den (cellsOf_den b2) c'
  · cases h2
theorem mslE_ok {P : Program} {E : Env} (hE : EnvOk P E) {ρ : Pl} {m : T SObj} {nx : Nat} {w0 : Base} {w : World} (h : Emb P ρ m nx w0 w) {t : TypeId} {l c : SV} {ul uc : Value} {r : SV × T SObj × Nat} (e : mslE E m nx t l c = some r) (hl : den ρ l = some ul) (hc : den ρ c = some uc) :
    ∃ ρ' u w', Le ρ ρ' ∧ (Instr.makeSlice t ul uc).run P w = .ok u w' ∧ den ρ' r.1 = some u ∧ Emb P ρ' r.2.1 r.2.2 w0 w' := by
  obtain ⟨l', c', cs, el, us, rfl, h1, h2, h3⟩ := mslE_run hE e hl hc w
  obtain ⟨g1, g2⟩ := h.new 0 (obj_cells (P := P) (e := el) (h1 _) h2)
  exact ⟨_, _, _, g2, h3, den_slc_mk (pset_same _ _ _) 0 l' c', g1⟩
/-- a slice literal. -/
noncomputable def bslN (E : Env) (m : T SObj) (nx : Nat) (t : TypeId) (n : Nat) (parts : List (Nat × SV)) : Option (SV × T SObj × Nat) := ob (und E t) fun d => match d with
  | .slice e => ob (E.ty.get e) fun i => ob (zrE E e) fun z => oi (Nat.blt 0 (Nat.mul n i.size)) (oi (Nat.ble (Nat.mul n i.size) 16777216) (oi (match z with | .tup _ => false | _ => true) (oi (Nat.beq (lenC (cellsOf z)) i.size)
      (ob (fillE (fun j => some (Nat.mul j i.size, i.size)) parts (mkC n (cellsOf z))) fun cs => some (.slc nx 0 n n, m.put (some (.cells cs e false)) nx, Nat.succ nx)))))
  | _ => none
omit [Orig] in
theorem bslN_run {P : Program} {E : Env} (hE : EnvOk P E) {ρ : Pl} {m : T SObj} {nx : Nat} {t : TypeId} {n : Nat} {parts : List (Nat × SV)} {ps : List (Nat × Value)} {r : SV × T SObj × Nat} (e : bslN E m nx t n parts = some r) (hp : denP ρ parts ps) (w : World) :
    ∃ cs el us, r = (.slc nx 0 n n, m.put (some (.cells cs el false)) nx, Nat.succ nx) ∧ denC ρ cs = some us ∧ cs.all SV.onc = true ∧ (Instr.buildSlice t n ps.toArray).run P w = .ok (.slice (some ⟨w.heap.size, 0, none⟩) n n) (w.alloc (.cells us.toArray el)) := by
  obtain ⟨d, h1, h2⟩ := ob_eq.1 e
  have hu := und_ok hE h1
  split at h2
  · rename_i el
    obtain ⟨i, h3, h4⟩ := ob_eq.1 h2
    obtain ⟨z, h5, h6⟩ := ob_eq.1 h4
    obtain ⟨h7, h8⟩ := oi_eq.1 h6
    obtain ⟨h9, h10⟩ := oi_eq.1 h8
    obtain ⟨h11, h12⟩ := oi_eq.1 h10
    obtain ⟨h13, h14⟩ := oi_eq.1 h12
    obtain ⟨cs, h15, h16⟩ := ob_eq.1 h14
    cases h16
    have h7' : 0 < n * i.size := blt_true h7
    rw [nble_iff] at h9
    have h9' : n * i.size ≤ 16777216 := h9
    rw [nbeq_iff] at h13
    have hi := hE.ty _ _ h3
    obtain ⟨zu, -, a2, it, a3, a4⟩ := zrE_ok hE h5 ρ w
    rw [hi] at a3
    cases a3
    have hz := cellsOf_den a2
    have hone := cellsOf_one a2 (fun l hl => by rw [hl] at h11; cases h11)
    have hzs : zu.cells.size = i.size := by rw [← h13, ← denC_len hz]; simp
    obtain ⟨rs, b1, b2, b3⟩ := fillE_ok (pl' := fun j => some (j * i.size, i.size)) (fun j y hy => hy) h15 hp (mkC_den hz n) (mkC_one hone n)
    rw [← made_rep zu n i.size hzs] at b1
    have hrun := run_buildSlice (P := P) w t el n ps.toArray rs.toArray i zu hu hi a4 (by omega) (by omega) (by simpa using b1)
    exact ⟨cs, el, rs, rfl, b2, b3, hrun⟩
  · cases h2
theorem bslN_ok {P : Program} {E : Env} (hE : EnvOk P E) {ρ : Pl} {m : T SObj} {nx : Nat} {w0 : Base} {w : World} (h : Emb P ρ m nx w0 w) {t : TypeId} {n : Nat} {parts : List (Nat × SV)} {ps : List (Nat × Value)} {r : SV × T SObj × Nat} (e : bslN E m nx t n parts = some r) (hp : denP ρ parts ps) :
    ∃ ρ' u w', Le ρ ρ' ∧ (Instr.buildSlice t n ps.toArray).run P w = .ok u w' ∧ den ρ' r.1 = some u ∧ Emb P ρ' r.2.1 r.2.2 w0 w' := by
  obtain ⟨cs, el, us, rfl, b2, b3, hrun⟩ := bslN_run hE e hp w
  have hle := pset_le (b := nx) (w.heap.size, 0) (h.fresh nx (Nat.le_refl _)).1
  obtain ⟨g1, g2⟩ := h.new 0 (obj_cells (P := P) (e := el) (denC_mono hle _ b2) b3)
  exact ⟨_, _, _, g2, hrun, den_slc_mk (pset_same _ _ _) 0 n n, g1⟩
/-- one of no elements. -/
noncomputable def bsl0 (E : Env) (m : T SObj) (nx : Nat) (t : TypeId) (parts : List (Nat × SV)) : Option (SV × T SObj × Nat) := ob (und E t) fun d => match d, parts with
  | .slice e, [] => ob (E.ty.get e) fun _ => some (.slc nx 0 0 0, m.put (some (.cells [] e false)) nx, Nat.succ nx)
  | _, _ => none
noncomputable def bslE (E : Env) (m : T SObj) (nx : Nat) (t : TypeId) (n : Nat) (parts : List (Nat × SV)) : Option (SV × T SObj × Nat) := Bool.rec (motive := fun _ => Option (SV × T SObj × Nat)) (bslN E m nx t n parts) (bsl0 E m nx t parts) (Nat.beq n 0)
theorem bslE_ok {P : Program} {E : Env} (hE : EnvOk P E) {ρ : Pl} {m : T SObj} {nx : Nat} {w0 : Base} {w : World} (h : Emb P ρ m nx w0 w) {t : TypeId} {n : Nat} {parts : List (Nat × SV)} {ps : List (Nat × Value)} {r : SV × T SObj × Nat} (e : bslE E m nx t n parts = some r) (hp : denP ρ parts ps) :
    ∃ ρ' u w', Le ρ ρ' ∧ (Instr.buildSlice t n ps.toArray).run P w = .ok u w' ∧ den ρ' r.1 = some u ∧ Emb P ρ' r.2.1 r.2.2 w0 w' := by
  unfold bslE at e
  cases hn : Nat.beq n 0 with
  | false => rw [hn] at e; exact bslN_ok hE h e hp
  | true =>
    rw [hn] at e
    obtain rfl := nbeq_iff.1 hn
    obtain ⟨d, h1, h2⟩ := ob_eq.1 (show bsl0 E m nx t parts = some r from e)
    have hu := und_ok hE h1
    split at h2
    · rename_i el
      obtain ⟨i, h3, h4⟩ := ob_eq.1 h2
      cases h4
      have hi := hE.ty _ _ h3
      cases ps <;> try exact hp.elim
      obtain ⟨g1, g2⟩ := h.new 0 (obj_cells (P := P) (e := el) (denC_nil _) (by rfl))
      refine ⟨_, _, _, g2, ?_, den_slc_mk (pset_same _ _ _) 0 0 0, g1⟩
      simp [Instr.buildSlice, run_underlying hu, sizeOf, typeInfo, hi, Instr.fill, newRow]
      exact congrArg (fun c => w.alloc (Obj.cells c el)) (Array.eq_empty_of_size_eq_zero (by simp))
    · cases h2

/-- m[k] = v. -/
noncomputable def putE (m : T SObj) (x v : SV) (clock : Nat) (es : List SE) : Option (List SE × Nat) := List.rec (motive := fun _ => Option (List SE × Nat)) (some ([⟨x, v, clock⟩], Nat.succ clock)) (fun e es' ih => ob (keyEq m x e.key) fun b => Bool.rec (motive := fun _ => Option (List SE × Nat)) (ob ih fun r => some (e :: r.1, r.2)) (some (⟨x, v, e.born⟩ :: es', clock)) b) es
omit [Orig] in
theorem keyEq_bits {ρ : Pl} {m : T SObj} {x y : SV} {u v : Value} (e : keyEq m x y = some true) (hx : den ρ x = some u) (hy : den ρ y = some v) (n : Nat) : Instr.sameBits (n + 1) v u = true := by
  unfold keyEq at e
  split at e
  · obtain ⟨h1, h2⟩ := oi_eq.1 e
    obtain rfl := kq_ok h1
    rw [den_int] at hx hy
    cases hx; cases hy
    rw [ieq_ok] at h2
    simp at h2
    subst h2
    simp [Instr.sameBits]
  · obtain ⟨rfl, ha⟩ := den_str hx
    obtain ⟨rfl, hb⟩ := den_str hy
    rw [leq_ok] at e
    simp at e
    subst e
    show (bytesOf _ == bytesOf _) = true
    rw [str_beq ha ha, leq_ok]
    simp
  · rw [den_bool] at hx hy
    cases hx; cases hy
    rename_i a b
    cases a <;> cases b <;> first | rfl | cases e
  · rename_i b o b' o'
    obtain ⟨x1, h1, rfl⟩ := den_ptr hx
    obtain ⟨x2, h2, rfl⟩ := den_ptr hy
    unfold ptrEq at e
    by_cases hb : b = b'
    · subst hb
      rw [nbeq_iff.2 rfl] at e
      have e' : Nat.beq o o' = true := Option.some.inj e
      obtain rfl := nbeq_iff.1 e'
      rw [h1] at h2
      cases h2
      simp [Instr.sameBits]
    · rw [nbeq hb] at e
      obtain ⟨-, e1⟩ := oi_eq.1 e
      obtain ⟨-, e2⟩ := oi_eq.1 e1
      cases e2
  · cases e
  · cases e
  · rw [den_nptr] at hx hy
    cases hx; cases hy
    simp [Instr.sameBits]
  · cases e
omit [Orig] in
theorem denE_get {ρ : Pl} : ∀ {es : List SE} {ms : List MapEntry} {j : Nat} {e : SE} {y : MapEntry}, denE ρ es ms → es[j]? = some e → ms[j]? = some y → den ρ e.key = some y.key ∧ den ρ e.val = some y.val ∧ e.born = y.born
  | [], [], j, e, y, _, h, _ => by simp at h
  | _ :: es, _ :: ms, 0, e, y, ⟨d1, d2, d3, d4⟩, h, k => by simp at h k; subst h; subst k; exact ⟨d1, d2, d3⟩
  | _ :: es, _ :: ms, j + 1, e, y, ⟨d1, d2, d3, d4⟩, h, k => by rw [List.getElem?_cons_succ] at h k; exact denE_get d4 h k
omit [Orig] in
theorem putE_ok {P : Program} {E : Env} (hE : EnvOk P E) {ρ : Pl} {m : T SObj} {w : World} (hm : Held ρ m w) {k : TypeId} {x v : SV} {clock : Nat} {u uv : Value} {d : TypeDesc} (hk : und E k = some d) (ht : keyTy E d x = true) (hx : den ρ x = some u) (hv : den ρ v = some uv) : ∀ {es : List SE} {ms : List MapEntry} {r : List SE × Nat} (i : Nat), putE m x v clock es = some r → denE ρ es ms →
    (Fnd P w k d u ms i none ∧ denE ρ r.1 (ms ++ [⟨u, uv, clock⟩]) ∧ r.2 = clock + 1) ∨ ∃ j y, ms[j]? = some y ∧ Fnd P w k d u ms i (some (i + j, y.val)) ∧ Instr.sameBits 10000 y.key u = true ∧ denE ρ r.1 (ms.modify j fun e => { e with key := u, val := uv }) ∧ r.2 = clock
  | [], [], r, i, h, hd => by cases h; exact .inl ⟨Fnd.nil .., ⟨hx, hv, rfl, trivial⟩, rfl⟩
  | e :: es, y :: ms, r, i, h, ⟨d1, d2, d3, d4⟩ => by
    have h' : (ob (keyEq m x e.key) fun b => Bool.rec (motive := fun _ => Option (List SE × Nat)) (ob (putE m x v clock es) fun r => some (e :: r.1, r.2)) (some (⟨x, v, e.born⟩ :: es, clock)) b) = some r := h
    obtain ⟨b, h1, h2⟩ := ob_eq.1 h'
    have hs := keyEq_ok hE hm hk h1 ht hx d1
    cases b with
    | true =>
      cases h2
      exact .inr ⟨0, y, rfl, Fnd.here hs ms i, keyEq_bits h1 hx d1 9999, ⟨hx, hv, d3, d4⟩, rfl⟩
    | false =>
      have h2' : (ob (putE m x v clock es) fun r => some (e :: r.1, r.2)) = some r := h2
      obtain ⟨r', h3, h4⟩ := ob_eq.1 h2'
      cases h4
      rcases putE_ok hE hm hk ht hx hv (i + 1) h3 d4 with ⟨g1, g2, g3⟩ | ⟨j, y', g1, g2, g3, g4, g5⟩
      · exact .inl ⟨Fnd.later hs g1, ⟨d1, d2, d3, g2⟩, g3⟩
      · exact .inr ⟨j + 1, y', g1, by rw [show i + (j + 1) = i + 1 + j by omega]; exact Fnd.later hs g2, g3, by rw [List.modify_succ_cons]; exact ⟨d1, d2, d3, g4⟩, g5⟩
noncomputable def muE (E : Env) (m : T SObj) (t : TypeId) (a x v : SV) : Option (T SObj) := ob (und E t) fun d => match d with
  | .map k _ => match a with
    | .map r => ob (m.get r) fun o => match o with
      | .map es clock => ob (und E k) fun dk => oi (keyTy E dk x) (ob (putE m x v clock es) fun q => some (m.put (some (.map q.1 q.2)) r))
      | _ => none
    | _ => none
  | _ => none
theorem Emb.setMap {P : Program} {ρ : Pl} {m : T SObj} {nx : Nat} {w0 : Base} {w : World} (h : Emb P ρ m nx w0 w) {r : Nat} {o : SObj} (hr : m.get r = some o) {x : Nat × Nat} (hx : ρ r = some x) {ms0 ms : Array MapEntry} {c0 c : Nat} (hw : w.heap[x.1]? = some (.map ms0 c0)) {es : List SE} (hd : denE ρ es ms.toList) :
    ∃ w', (setObj x.1 (.map ms c)).run P w = .ok () w' ∧ Emb P ρ (m.put (some (.map es c)) r) nx w0 w' := by
  refine ⟨{ w with heap := w.heap.setIfInBounds x.1 (.map ms c) }, by simp [setObj, Sem.run, hw], ?_⟩
  have hlt : x.1 < w.heap.size := (Array.getElem?_eq_some_iff.1 hw).1
  exact h.upd (o' := .map es c) (ob' := .map ms c) hr hx rfl rfl rfl (by simp) (by simp [hlt]) (fun k hk => by simp [Array.getElem?_setIfInBounds_ne (Ne.symm hk)]) ⟨rfl, hd⟩
theorem muE_ok {P : Program} {E : Env} (hE : EnvOk P E) {ρ : Pl} {m m' : T SObj} {nx : Nat} {w0 : Base} {w : World} (h : Emb P ρ m nx w0 w) {t : TypeId} {a x v : SV} {ua ux uv : Value} (e : muE E m t a x v = some m') (ha : den ρ a = some ua) (hx : den ρ x = some ux) (hv : den ρ v = some uv) :
    ∃ w', (Instr.mapUpdate t ua ux uv).run P w = .ok () w' ∧ Emb P ρ m' nx w0 w' := by
  obtain ⟨d, h1, h2⟩ := ob_eq.1 e
  have hu := und_ok hE h1
  split at h2
  · rename_i k el
    split at h2
    · rename_i r
      obtain ⟨o, h3, h4⟩ := ob_eq.1 h2
      split at h4
      · rename_i es clock
        obtain ⟨dk, h5, h6⟩ := ob_eq.1 h4
        obtain ⟨h7, h8⟩ := oi_eq.1 h6
        obtain ⟨q, h9, h10⟩ := ob_eq.1 h8
        cases h10
        obtain ⟨y, g1, rfl⟩ := den_map ha
        obtain ⟨y', ob', a1, -, a3, a4⟩ := h.obj r _ h3
        rw [g1] at a1
        cases a1
        cases ob' <;> try exact a4.elim
        rename_i ms c
        obtain ⟨rfl, a5⟩ := a4
        have hget : (getObj y.1).run P w = .ok (.map ms c) w := by simp [getObj, Sem.run, a3]
        have ck := checkKey_ok hE h5 h7 hx false w
        have fk : ∀ q, Fnd P w k dk ux ms.toList 0 q → (Instr.findKey k ux ms.toList).run P w = .ok q w := fun q hq => hq.run hE h5
        rcases putE_ok hE h.held h5 h7 hx hv 0 h9 a5 with ⟨b1, b2, b3⟩ | ⟨j, y', b1, b2, b3, b4, b5⟩
        · obtain ⟨w', c1, c2⟩ := h.setMap (ms := ms.push { key := ux, val := uv, born := c }) (c := c + 1) (es := q.1) h3 g1 a3 (by simpa using b2)
          rw [← b3] at c2
          refine ⟨w', ?_, c2⟩
          simp only [Instr.mapUpdate, Sem.run_bind, run_underlying hu w, Result.andThen_ok, hget, ck, fk _ b1, c1]
        · rw [Nat.zero_add] at b2
          obtain ⟨w', c1, c2⟩ := h.setMap (ms := ms.modify j fun e => { e with key := ux, val := uv }) (c := c) (es := q.1) h3 g1 a3 (by rw [Array.toList_modify]; exact b4)
          rw [← b5] at c2
          refine ⟨w', ?_, c2⟩
          have hk : ((ms[j]?).map (·.key)).getD ux = y'.key := by
            have : ms[j]? = some y' := by simpa using b1
            rw [this]; rfl
          have kt : (Instr.keyThatStays y'.key ux).run P w = .ok ux w := by unfold Instr.keyThatStays; rw [if_pos b3]; rfl
          simp only [Instr.mapUpdate, Sem.run_bind, run_underlying hu w, Result.andThen_ok, hget, ck, fk _ b2, hk, kt, c1]
      · cases h4
    · cases h2
  · cases h2
end Go.Proofs.YtodehmognjofhaaGreat

namespace Go.Proofs.YtodehmognjofhaaGreat
open Go.RowKit

noncomputable def u8L (l : List Nat) : List SV := List.rec (motive := fun _ => List SV) [] (fun x _ ih => .int .u8 (.ofNat x) :: ih) l
theorem u8L_den (ρ : Pl) : ∀ (l : List Nat), denL ρ (u8L l) = some (l.map fun (x : Nat) => Value.int .u8 (x : Int)) ∧ (u8L l).all SV.one = true
  | [] => ⟨denL_nil ρ, rfl⟩
  | x :: l => ⟨denL_cons.2 ⟨_, _, den_int _ _ _, (u8L_den ρ l).1, rfl⟩, by show (SV.one (.int .u8 (.ofNat x)) && (u8L l).all SV.one) = true; rw [(u8L_den ρ l).2]; rfl⟩
theorem len_u8L : ∀ (l : List Nat), len (u8L l) = len l
  | [] => rfl
  | x :: l => by show Nat.succ (len (u8L l)) = Nat.succ (len l); rw [len_u8L l]
/-- a text's bytes as cells. -/
noncomputable def strK (l : List Nat) : List SV := (fun n => Bool.rec (motive := fun _ => List SV) [.chk n l] [] (Nat.beq n 0)) (len l)
theorem strK_den (ρ : Pl) {l : List Nat} (h : ∀ x ∈ l, x < 256) : denC ρ (strK l) = some (l.map fun (x : Nat) => Value.int .u8 (x : Int)) ∧ (strK l).all SV.onc = true := by
  show denC ρ (Bool.rec (motive := fun _ => List SV) [.chk (len l) l] [] (Nat.beq (len l) 0)) = _ ∧ (Bool.rec (motive := fun _ => List SV) [SV.chk (len l) l] [] (Nat.beq (len l) 0)).all SV.onc = true
  cases hb : Nat.beq (len l) 0 with
  | true =>
    rw [nbeq_iff, len_ok] at hb
    obtain rfl := List.eq_nil_of_length_eq_zero hb
    exact ⟨denC_nil ρ, rfl⟩
  | false => exact ⟨denC_cons.2 ⟨_, _, chk_den (by rw [len_ok]) h _, denC_nil ρ, by rw [List.append_nil]; rfl⟩, rfl⟩
/-- how many elements. -/
noncomputable def lenS (v : SV) : Option Nat := match v with
  | .slc _ _ n _ => some n
  | .slu _ _ n _ => some n
  | .nslc => some 0
  | .emp .. => some 0
  | .str l => some (len l)
  | .strs l => some (len l)
  | _ => none
theorem lenS_ok {P : Program} {ρ : Pl} {v : SV} {n : Nat} {u : Value} (e : lenS v = some n) (h : den ρ v = some u) (w : World) : (Builtin.lenOf u).run P w = .ok n w := by
  unfold lenS at e
  split at e <;> cases e
  · obtain ⟨x, -, rfl⟩ := den_slc h; rfl
  · obtain ⟨x, -, -, rfl⟩ := den_slu h; rfl
  · rw [den_nslc] at h; cases h; rfl
  · obtain ⟨a, c, rfl⟩ := den_emp h; rfl
  · obtain ⟨rfl, -⟩ := den_str h; rw [len_ok, ← bytesOf_size]; rfl
  · obtain ⟨r, -, rfl, hl, -⟩ := den_strs h; rw [len_ok, ← hl, ← bytesOf_size]; rfl
/-- the cells of the first n elements, of s cells each. -/
noncomputable def srcE (m : T SObj) (s n : Nat) (v : SV) : Option (List SV) := match v with
  | .slc b o l _ => oi (Nat.ble n l) (ob (cellsE m b) fun cs => oi (Nat.ble (Nat.add o (Nat.mul n s)) (lenC cs)) (some (tkC (Nat.mul n s) (drpC o cs))))
  | .slu b o l _ => oi (Nat.ble n l) (ob (cellsE m b) fun cs => oi (Nat.ble (Nat.add o (Nat.mul n s)) (lenC cs)) (some (tkC (Nat.mul n s) (drpC o cs))))
  | .nslc => oi (Nat.beq n 0) (some [])
  | .emp .. => oi (Nat.beq n 0) (some [])
  | .str l => oi (Nat.beq s 1) (oi (Nat.ble n (len l)) (some (strK (tk n l))))
  | .strs l => oi (Nat.beq s 1) (oi (Nat.ble n (len l)) (some (tk n l)))
  | _ => none
variable [Orig]
theorem srcE_ok {P : Program} {ρ : Pl} {m : T SObj} {nx : Nat} {w0 : Base} {w : World} (h : Emb P ρ m nx w0 w) {s n : Nat} {v : SV} {r : List SV} {u : Value} (e : srcE m s n v = some r) (hv : den ρ v = some u) :
    ∃ ns, denC ρ r = some ns ∧ r.all SV.onc = true ∧ (Builtin.firstCells s n u).run P w = .ok ns.toArray w ∧ ns.length = n * s := by
  have seg : ∀ {b o : Nat} {x : Nat × Nat} {L C : Nat}, ρ b = some x → (ob (cellsE m b) fun cs => oi (Nat.ble (Nat.add o (Nat.mul n s)) (lenC cs)) (some (tkC (Nat.mul n s) (drpC o cs)))) = some r →
      ∃ ns, denC ρ r = some ns ∧ r.all SV.onc = true ∧ (Builtin.firstCells s n (.slice (some ⟨x.1, o, none⟩) L C)).run P w = .ok ns.toArray w ∧ ns.length = n * s := by
    intro b o x L C hx he
    obtain ⟨cs, h1, h2⟩ := ob_eq.1 he
    obtain ⟨h3, h4⟩ := oi_eq.1 h2
    cases h4
    rw [nble_iff] at h3
    have h3' : o + n * s ≤ lenC cs := h3
    obtain ⟨us, a2, a3, a4, -⟩ := h.seg h1 hx h3'
    obtain ⟨x', us', -, b2, b3, -⟩ := h.cells h1
    refine ⟨(us.drop o).take (n * s), ?_, ?_, a3, a4⟩
    · exact denC_tk _ (denC_drp o a2)
    · exact onc_tk _ (onc_drp o b3)
  unfold srcE at e
  split at e
  · obtain ⟨-, h2⟩ := oi_eq.1 e
    obtain ⟨x, g1, rfl⟩ := den_slc hv
    exact seg g1 h2
  · obtain ⟨-, h2⟩ := oi_eq.1 e
    obtain ⟨x, g1, -, rfl⟩ := den_slu hv
    exact seg g1 h2
  · obtain ⟨h1, h2⟩ := oi_eq.1 e
    cases h2
    rw [den_nslc] at hv
    cases hv
    obtain rfl := nbeq_iff.1 h1
    exact ⟨[], denC_nil ρ, rfl, rfl, by simp⟩
  · obtain ⟨h1, h2⟩ := oi_eq.1 e
    cases h2
    obtain ⟨a, c, rfl⟩ := den_emp hv
    obtain rfl := nbeq_iff.1 h1
    exact ⟨[], denC_nil ρ, rfl, by show (loadCells a (0 * s)).run P w = _; rw [Nat.zero_mul]; rfl, by simp⟩
  · rename_i l
    obtain ⟨h1, h2⟩ := oi_eq.1 e
    obtain ⟨h3, h4⟩ := oi_eq.1 h2
    cases h4
    obtain rfl := nbeq_iff.1 h1
    rw [nble_iff, len_ok] at h3
    obtain ⟨rfl, hl⟩ := den_str hv
    have hl2 : ∀ x ∈ tk n l, x < 256 := fun x hx => hl x (by rw [tk_ok] at hx; exact List.mem_of_mem_take hx)
    refine ⟨_, (strK_den ρ hl2).1, (strK_den ρ hl2).2, ?_, by simp [tk_ok]; omega⟩
    show Result.ok (((bytesOf l).extract 0 n).data.map fun b => Value.int .u8 b.toNat) w = _
    rw [bytesOf_extract, tk_ok]
    congr 1
    apply Array.ext'
    simp only [bytesOf, List.drop_zero, Nat.sub_zero, Array.toList_map, List.map_map]
    apply List.map_congr_left
    intro y hy
    have := hl y (List.mem_of_mem_take hy)
    simp [UInt8.toNat_ofNat', Nat.mod_eq_of_lt this]
  · rename_i l
    obtain ⟨h1, h2⟩ := oi_eq.1 e
    obtain ⟨h3, h4⟩ := oi_eq.1 h2
    cases h4
    obtain rfl := nbeq_iff.1 h1
    rw [nble_iff, len_ok] at h3
    obtain ⟨r, hr, rfl, hrl, hl⟩ := den_strs hv
    have hd := denL_take n hr
    rw [← List.map_take] at hd
    refine ⟨(r.take n).map (fun (x : Nat) => Value.int .u8 (x : Int)), by rw [tk_ok, denC_of_L (one_of_bytes hd)]; exact hd, by rw [tk_ok]; exact onc_of_one (one_of_bytes hd), ?_, by simp; omega⟩
    show Result.ok (((bytesOf r).extract 0 n).data.map fun b => Value.int .u8 b.toNat) w = _
    rw [bytesOf_extract]
    congr 1
    apply Array.ext'
    simp only [bytesOf, List.drop_zero, Nat.sub_zero, Array.toList_map, List.map_map]
    apply List.map_congr_left
    intro y hy
    have := hl y (List.mem_of_mem_take hy)
    simp [UInt8.toNat_ofNat', Nat.mod_eq_of_lt this]
  · cases e

/-- one block under a new number. -/
theorem Emb.rename {P : Program} {ρ : Pl} {m : T SObj} {nx : Nat} {w0 : Base} {w : World} (h : Emb P ρ m nx w0 w) {b : Nat} {o : SObj} {x : Nat × Nat} (hb : m.get b = some o) (hx : ρ b = some x) :
    Emb P (pset ρ nx x) ((m.put none b).put (some o) nx) (nx + 1) w0 w ∧ Le ρ (pset ρ nx x) := by
  have hf := h.fresh nx (Nat.le_refl _)
  have hle : Le ρ (pset ρ nx x) := pset_le _ hf.1
  have hbn : b ≠ nx := fun e => by subst e; rw [hb] at hf; cases hf.2
  have key : ∀ c, (T.get ((m.put none b).put (some o) nx) c).isSome = true → ∀ y, pset ρ nx x c = some y → (c = nx ∧ y = x) ∨ (c ≠ nx ∧ c ≠ b ∧ (m.get c).isSome = true ∧ ρ c = some y) := by
    intro c hc y hy
    rw [T.get_put] at hc
    rw [pset_at] at hy
    by_cases e : c = nx
    · rw [if_pos e] at hy; cases hy; exact .inl ⟨e, rfl⟩
    · rw [if_neg e] at hc hy
      rw [T.get_put] at hc
      by_cases e2 : c = b
      · rw [if_pos e2] at hc; cases hc
      · rw [if_neg e2] at hc; exact .inr ⟨e, e2, hc, hy⟩
  refine ⟨⟨h.touch, ?_, ?_, ?_, ?_, fun b hb => ⟨Nat.lt_succ_of_lt (h.hole b hb).1, by rw [pset_at, if_neg (by have := (h.hole b hb).1; omega)]; exact (h.hole b hb).2⟩, h.x.bump (Nat.le_succ _)⟩, hle⟩
  · intro c oc hc
    rw [T.get_put] at hc
    by_cases e : c = nx
    · subst e
      rw [if_pos rfl] at hc
      cases hc
      obtain ⟨x', ob', a1, a2, a3, a4⟩ := h.obj b o hb
      rw [hx] at a1
      cases a1
      exact ⟨x, ob', pset_same _ _ _, a2, a3, a4.mono hle⟩
    · rw [if_neg e, T.get_put] at hc
      by_cases e2 : c = b
      · rw [if_pos e2] at hc; cases hc
      · rw [if_neg e2] at hc
        obtain ⟨y, ob', a1, a2, a3, a4⟩ := h.obj c oc hc
        exact ⟨y, ob', hle c y a1, a2, a3, a4.mono hle⟩
  · intro c c' y y' hc hc' hy hy' he
    have hbs : (m.get b).isSome = true := by rw [hb]; rfl
    rcases key c hc y hy with ⟨a1, rfl⟩ | ⟨a1, a2, a3, a4⟩ <;> rcases key c' hc' y' hy' with ⟨b1, rfl⟩ | ⟨b1, b2, b3, b4⟩
    · rw [a1, b1]
    · exact absurd (h.inj b c' _ _ hbs b3 hx b4 he).symm b2
    · exact absurd (h.inj c b _ _ a3 hbs a4 hx he) a2
    · exact h.inj c c' y y' a3 b3 a4 b4 he
  · intro c hc
    have hf' := h.fresh c (by omega)
    refine ⟨?_, ?_⟩
    · rw [pset_at, if_neg (by omega)]; exact hf'.1
    · rw [T.get_put_ne _ _ (by omega), T.get_put]
      split
      · rfl
      · exact hf'.2
  · intro c y hy
    rw [pset_at] at hy
    by_cases e : c = nx
    · rw [if_pos e] at hy; cases hy; exact h.old b x hx
    · rw [if_neg e] at hy; exact h.old c y hy
omit [Orig] in
theorem bytesRow_rel {P : Program} {ρ : Pl} {l : List SV} {s : List Nat} {c : Nat} {e : TypeId} (hsz : P.cellsOf e = 1) (hc : s.length ≤ c) (hd : denC ρ l = some (s.map fun (x : Nat) => Value.int .u8 (x : Int))) (hone : l.all SV.onc = true) (hl : ∀ x ∈ s, x < 256) (p : Nat) : ObjRel P ρ (p, c) (.cells l e true) (.cells (bytesRow (bytesOf s) c) e ((bytesRow (bytesOf s) c).size, (bytesRow (bytesOf s) c).size + 1)) := by
  have e1 : (bytesRow (bytesOf s) c).toList = (s.map fun (x : Nat) => Value.int .u8 (x : Int)) ++ List.replicate (c - s.length) (.int .u8 0) := by
    unfold bytesRow
    simp only [Array.toList_append, Array.toList_replicate, bytesOf_size, Array.toList_map]
    congr 1
    simp only [bytesOf, List.map_map]
    apply List.map_congr_left
    intro y hy
    have := hl y hy
    simp [UInt8.toNat_ofNat', Nat.mod_eq_of_lt this]
  refine ⟨rfl, ⟨_, hd, ?_⟩, ⟨fun i hi g => by omega, fun h => by cases h⟩, hone⟩
  rw [if_pos rfl]
  refine ⟨?_, ?_⟩
  · rw [e1, List.take_left]
  · rw [hsz, ← Array.length_toList, e1]
    simp
    omega
noncomputable def bcE (E : Env) (m : T SObj) (nx : Nat) (src dst : TypeId) (v : SV) : Option (SV × T SObj × Nat) := ob (und E src) fun s => ob (und E dst) fun d => match s, d, v with
  | .string, .slice e, .str l => ob (und E e) fun x => match x with
    | .int .u8 => ob (szE E e) fun n => oi (Nat.beq n 1) (some (.slu nx 0 (len l) 0, m.put (some (.cells (strK l) e true)) nx, Nat.succ nx))
    | _ => none
  | .string, .slice e, .strs l => ob (und E e) fun x => match x with
    | .int .u8 => ob (szE E e) fun n => oi (Nat.beq n 1) (some (.slu nx 0 (len l) 0, m.put (some (.cells l e true)) nx, Nat.succ nx))
    | _ => none
  | _, _, _ => none
theorem bcE_ok {P : Program} {E : Env} (hE : EnvOk P E) {ρ : Pl} {m : T SObj} {nx : Nat} {w0 : Base} {w : World} (h : Emb P ρ m nx w0 w) {src dst : TypeId} {v : SV} {u0 : Value} {r : SV × T SObj × Nat} (e : bcE E m nx src dst v = some r) (hv : den ρ v = some u0) :
    ∃ ρ' u w', Le ρ ρ' ∧ (convert src dst u0).run P w = .ok u w' ∧ den ρ' r.1 = some u ∧ Emb P ρ' r.2.1 r.2.2 w0 w' := by
  obtain ⟨s, h1, h2⟩ := ob_eq.1 e
  obtain ⟨d, h3, h4⟩ := ob_eq.1 h2
  have key : ∀ {el : TypeId} {cs : List SV} {r0 : List Nat} {n0 : Nat}, s = .string → d = .slice el → n0 = r0.length → (ob (und E el) fun x => match x with
      | .int .u8 => ob (szE E el) fun n => oi (Nat.beq n 1) (some (SV.slu nx 0 n0 0, m.put (some (.cells cs el true)) nx, Nat.succ nx))
      | _ => none) = some r → denC ρ cs = some (r0.map fun (x : Nat) => Value.int .u8 (x : Int)) → cs.all SV.onc = true → u0 = .string (bytesOf r0) → (∀ x ∈ r0, x < 256) →
      ∃ ρ' u w', Le ρ ρ' ∧ (convert src dst u0).run P w = .ok u w' ∧ den ρ' r.1 = some u ∧ Emb P ρ' r.2.1 r.2.2 w0 w' := by
    intro el cs l n0 hs hd hn0 g4 hcs hone hu hl
    subst hs hd hu hn0
    obtain ⟨x, h5, h6⟩ := ob_eq.1 g4
    split at h6
    · obtain ⟨n, h7, h8⟩ := ob_eq.1 h6
      obtain ⟨h9, h10⟩ := oi_eq.1 h8
      cases h10
      obtain rfl := nbeq_iff.1 h9
      have hrun := run_bytes_of_string (P := P) w src dst el (bytesOf l) (und_ok hE h1) (und_ok hE h3) (und_ok hE h5)
      have hge := grownCap_ge w (bytesOf l).size 0 el
      rw [bytesOf_size] at hge hrun
      have hf := (h.drew.fresh nx (Nat.le_refl _)).1
      obtain ⟨g1, g2⟩ := h.drew.new (grownCap w l.length 0 el) (bytesRow_rel (P := P) (szE_ok hE h7 w).2 hge (denC_mono (pset_le _ hf) cs hcs) hone hl w.heap.size)
      exact ⟨_, _, _, g2, hrun, den_slu_mk (pset_same _ _ _) (by simpa using hge) 0, g1⟩
    · cases h6
  split at h4
  · rename_i el l
    obtain ⟨rfl, hl⟩ := den_str hv
    exact key rfl rfl (len_ok l) h4 (strK_den ρ hl).1 (strK_den ρ hl).2 rfl hl
  · rename_i el l
    obtain ⟨r0, g1, g2, g4, g3⟩ := den_strs hv
    exact key rfl rfl (by rw [len_ok, g4]) h4 (by rw [denC_of_L (one_of_bytes g1)]; exact g1) (onc_of_one (one_of_bytes g1)) g2 g3
  · cases h4
end Go.Proofs.YtodehmognjofhaaGreat

namespace Go.Proofs.YtodehmognjofhaaGreat
open Go.RowKit

section
variable {P : Program} {w : World}
theorem app_room {t t2 ty e : TypeId} {i : TypeInfo} {d2 : TypeDesc} (ht : P.underlying t = some (.slice e)) (h2 : P.underlying t2 = some d2) (hni : ∀ k, d2 ≠ .int k) (hi : P.info? e = some i)
    {base : Option Addr} {l c n : Nat} {x : Value} {ns : Array Value} (hlen : (Builtin.lenOf x).run P w = .ok n w) (hf : (Builtin.firstCells i.size n x).run P w = .ok ns w) (hr : l + n ≤ c) :
    (Builtin.append_ #[t, t2] ty #[.slice base l c, x]).run P w = (match base with | some a => (storeCells (a.add (l * i.size)) ns.toList).run P w | none => .ok () w).andThen fun _ w' => .ok (.slice base (l + n) c) w' := by
  have hz : (match d2 with | .int _ => true | _ => false) = false := by cases d2 <;> first | rfl | exact absurd rfl (hni _)
  have hs : (sizeOf e).run P w = .ok i.size w := by rw [run_sizeOf w hi]; simp [Program.cellsOf, hi]
  unfold Builtin.append_
  simp only [Array.getElem?_eq_getElem, List.size_toArray, List.length_cons, List.length_nil, List.getElem_toArray, List.getElem_cons_zero, List.getElem_cons_succ, Nat.reduceAdd, Nat.zero_lt_succ, Nat.lt_add_one]
  simp only [Sem.run_bind, run_underlying ht w, run_underlying h2 w, Result.andThen_ok, Sem.run_pure, hs, Bool.false_eq_true, if_false, hlen, Bool.not_false, if_true]
  rw [if_pos hr]
  simp only [Sem.run_bind, hf, Result.andThen_ok]
  cases base with
  | none => rfl
  | some a => simp only [Sem.run_bind]; rfl
theorem app_grow {t t2 ty e : TypeId} {i : TypeInfo} {d2 : TypeDesc} {z : Value} (ht : P.underlying t = some (.slice e)) (h2 : P.underlying t2 = some d2) (hni : ∀ k, d2 ≠ .int k) (hi : P.info? e = some i) (hz : i.zero = some z)
    {base : Option Addr} {l c n : Nat} {x : Value} {os ns : Array Value} (hlen : (Builtin.lenOf x).run P w = .ok n w) (ho : (Builtin.firstCells i.size l (.slice base l c)).run P w.drew = .ok os w.drew) (hf : (Builtin.firstCells i.size n x).run P w.drew = .ok ns w.drew) (hr : c < l + n)
    (hb : (l + n) * i.bytes ≤ 140737488355328) (h63 : l + n ≤ 4611686018427387904) :
    (Builtin.append_ #[t, t2] ty #[.slice base l c, x]).run P w = .ok (.slice (some ⟨w.heap.size, 0, none⟩) (l + n) (grownCap w (l + n) c e)) (w.drew.alloc (.cells (os ++ ns ++ Builtin.zeroCells z.cells (grownCap w (l + n) c e - (l + n))) e)) := by
  have hz' : (match d2 with | .int _ => true | _ => false) = false := by cases d2 <;> first | rfl | exact absurd rfl (hni _)
  have hs : (sizeOf e).run P w = .ok i.size w := by rw [run_sizeOf w hi]; simp [Program.cellsOf, hi]
  have hti : ∀ W : World, (typeInfo e).run P W = .ok i W := fun W => run_typeInfo W hi
  have hzv : ∀ W : World, (zeroValue e).run P W = .ok z W := fun W => by unfold zeroValue; simp only [Sem.run_bind, hti, Result.andThen_ok, hz, Sem.run_pure]
  have n1 : ¬ (((l + n : Nat) : Int) > IntKind.i64.max ∧ (False ∨ i.bytes = 0)) := by
    intro h
    have : IntKind.i64.max = 9223372036854775807 := rfl
    omega
  have n2 : ¬ (Builtin.nextslicecap (l + n) c * i.bytes > 2 ^ 48) := by
    have := growslice_fits hr hb
    omega
  unfold Builtin.append_
  simp only [Array.getElem?_eq_getElem, List.size_toArray, List.length_cons, List.length_nil, List.getElem_toArray, List.getElem_cons_zero, List.getElem_cons_succ, Nat.reduceAdd, Nat.zero_lt_succ, Nat.lt_add_one]
  simp only [Sem.run_bind, run_underlying ht w, run_underlying h2 w, Result.andThen_ok, Sem.run_pure, hs, Bool.false_eq_true, if_false, hlen, Bool.not_false, if_true]
  rw [if_neg (by omega)]
  simp only [Sem.run_bind, hti, Result.andThen_ok, Sem.run_ite]
  rw [if_neg n1, if_neg n2]
  simp only [run_choose_drew, Question.forced, Bool.false_eq_true, if_false, Result.andThen_ok, run_askRoom, ho, hf, hzv, newRow, Sem.run_bind, run_newObj_alloc, Sem.run_pure]
  rfl
end
/-- append of so many zeros. -/
def zrs (n : Nat) : ByteArray := ⟨(List.replicate n 0).toArray⟩
theorem app_zero {P : Program} {w : World} {t t2 t3 ty e : TypeId} {i : TypeInfo} {k : IntKind} (ht : P.underlying t = some (.slice e)) (h2 : P.underlying t2 = some (.int k)) (h3 : P.underlying t3 = some .string) (hi : P.info? e = some i) (hs : i.size = 1) (hb : i.bytes = 1) (hz : i.zero = some (.int .u8 0))
    {base : Option Addr} {l c n : Nat} (hn : l + n ≤ 1048576) :
    (Builtin.append_ #[t, t2] ty #[.slice base l c, .int .i64 (n : Int)]).run P w = (Builtin.append_ #[t, t3] ty #[.slice base l c, .string (zrs n)]).run P w := by
  have hsz : (sizeOf e).run P w = .ok i.size w := by rw [run_sizeOf w hi]; simp [Program.cellsOf, hi]
  have hti : ∀ W : World, (typeInfo e).run P W = .ok i W := fun W => run_typeInfo W hi
  have hzv : ∀ W : World, (zeroValue e).run P W = .ok (.int .u8 0) W := fun W => by unfold zeroValue; simp only [Sem.run_bind, hti, Result.andThen_ok, hz, Sem.run_pure]
  have hwr : IntKind.i64.wrap (n : Int) = (n : Int) := by
    simp [IntKind.wrap, IntKind.signed, IntKind.bits]
    omega
  have hl : (Builtin.lenOf (.string (zrs n))).run P w = .ok n w := by
    show Result.ok (zrs n).size w = _
    congr 1
    show (List.replicate n (0 : UInt8)).toArray.size = n
    simp
  have hap : ∀ W : World, (Builtin.firstCells 1 n (.string (zrs n))).run P W = .ok (Builtin.zeroCells #[.int .u8 0] n) W := by
    intro W
    show Result.ok _ W = _
    congr 1
    have e1 : ((zrs n).extract 0 n).data = (List.replicate n (0 : UInt8)).toArray := by
      rw [ByteArray.data_extract]
      show (List.replicate n (0 : UInt8)).toArray.extract 0 n = _
      simp
    rw [e1]
    apply Array.ext
    · simp [Builtin.zeroCells]
    · intro j h1 h2
      simp [Builtin.zeroCells, Nat.mod_one]
  have g1 : ¬ ((n : Int) < 0) := by omega
  have g2 : ¬ ((n : Int) * (i.bytes : Int) > 2 ^ 48) := by rw [hb]; omega
  have hai : ∀ W : World, (asInt (.int .i64 (n : Int))).run P W = .ok (n : Int) W := fun _ => rfl
  have hzc : ∀ W : World, (if n = 0 then Result.ok #[] W else Result.ok (Builtin.zeroCells (Value.cells (.int .u8 0)) n) W) = (Result.ok (Builtin.zeroCells #[.int .u8 0] n) W : Result (Array Value)) := by
    intro W
    by_cases h0 : n = 0
    · subst h0; rw [if_pos rfl]; congr 1; simp [Builtin.zeroCells]
    · rw [if_neg h0]; rfl
  have n1 : ¬ (((l + n : Nat) : Int) > IntKind.i64.max) := by
    have : IntKind.i64.max = 9223372036854775807 := rfl
    omega
  unfold Builtin.append_
  simp only [Array.getElem?_eq_getElem, List.size_toArray, List.length_cons, List.length_nil, List.getElem_toArray, List.getElem_cons_zero, List.getElem_cons_succ, Nat.reduceAdd, Nat.zero_lt_succ, Nat.lt_add_one]
  simp only [Sem.run_bind, run_underlying ht w, run_underlying h2 w, run_underlying h3 w, Result.andThen_ok, Sem.run_pure, hsz, hl, hai, hwr, Bool.false_eq_true, if_false, if_true, Bool.not_true, Bool.not_false, Sem.run_ite, g1, g2, hti, hs, Nat.mul_one, Int.toNat_natCast, hzv, hzc, hap, n1, false_and]
  by_cases hr : l + n ≤ c
  · rw [if_pos hr, if_pos hr]
  · have n2 : ¬ (Builtin.nextslicecap (l + n) c * i.bytes > 2 ^ 48) := by
      have := growslice_fits (bytes := i.bytes) (show c < l + n by omega) (by rw [hb]; omega)
      omega
    rw [if_neg hr, if_neg hr]
    simp only [n2, if_false]
theorem zeroCells_len (z : Value) (n : Nat) : (Builtin.zeroCells z.cells n).size = n * z.cells.size := size_zero _ _
/-- a slice that has grown. -/
theorem grown_rel {P : Program} {ρ : Pl} {cs : List SV} {us : List Value} {e : TypeId} {z : Value} {s need c p : Nat} (h : denC ρ cs = some us) (h1 : cs.all SV.onc = true) (hl : us.length = need * s) (hz : z.cells.size = s) (hs : P.cellsOf e = s) (hc : need ≤ c) :
    ObjRel P ρ (p, c) (.cells cs e true) (.cells (us.toArray ++ Builtin.zeroCells z.cells (c - need)) e) := by
  refine ⟨rfl, ⟨us, h, ?_⟩, ⟨fun i _ g => by simp at g, fun h => by cases h⟩, h1⟩
  rw [if_pos rfl]
  refine ⟨by simp, ?_⟩
  rw [Array.size_append, zeroCells_len, hz, List.size_toArray, hl, hs, ← Nat.add_mul]
  congr 1
  omega
noncomputable def apG (E : Env) (m : T SObj) (nx : Nat) (e : TypeId) (i : TypeInfo) (need : Nat) (cs : List SV) : Option (SV × T SObj × Nat) :=
  oi (Nat.ble (Nat.mul need i.bytes) 140737488355328) (oi (Nat.ble need 4611686018427387904) (ob (zrE E e) fun z => oi (match z with | .tup _ => false | _ => true) (oi (Nat.beq (lenC (cellsOf z)) i.size) (some (.slu nx 0 need 0, m.put (some (.cells cs e true)) nx, Nat.succ nx)))))
/-- append: e, i: the elements' type; n: how many come. -/
noncomputable def apS (E : Env) (m : T SObj) (nx : Nat) (e : TypeId) (i : TypeInfo) (s x : SV) (n : Nat) : Option (SV × T SObj × Nat) := ob (srcE m i.size n x) fun news => match s with
  | .nslc => Bool.rec (motive := fun _ => Option (SV × T SObj × Nat)) (apG E m nx e i n news) (some (s, m, nx)) (Nat.beq n 0)
  | .slc b o l c => Bool.rec (motive := fun _ => Option (SV × T SObj × Nat)) (ob (srcE m i.size l s) fun olds => apG E m nx e i (Nat.add l n) (app olds news))
      (ob (m.get b) fun y => match y with
        | .cells cs e' opn => oi (Nat.ble (Nat.add (Nat.add o (Nat.mul l i.size)) (lenC news)) (lenC cs)) (some (.slc b o (Nat.add l n) c, m.put (some (.cells (lay (Nat.add o (Nat.mul l i.size)) news cs) e' opn)) b, nx))
        | _ => none) (Nat.ble (Nat.add l n) c)
  | .slu b o l k => Bool.rec (motive := fun _ => Option (SV × T SObj × Nat)) (oi (Nat.beq o 0) (oi (Nat.beq k 0) (ob (m.get b) fun y => match y with
      | .cells cs e' opn => oi opn (oi (Nat.beq e' e) (oi (Nat.beq (lenC cs) (Nat.mul l i.size)) (apG E (m.put none b) nx e i (Nat.add l n) (app cs news))))
      | _ => none))) (some (s, m, nx)) (Nat.beq n 0)
  | _ => none
noncomputable def apE0 (E : Env) (m : T SObj) (nx : Nat) (ts : List TypeId) (s x : SV) : Option (SV × T SObj × Nat) := match ts with
  | [t, t2] => ob (und E t) fun d => ob (und E t2) fun d2 => match d with
    | .slice e => oi (match d2 with | .int _ => false | _ => true) (ob (E.ty.get e) fun i => ob (lenS x) fun n => apS E m nx e i s x n)
    | _ => none
  | _ => none
variable [Orig]
/-- cells laid behind those that an open block has. -/
theorem Emb.extend {P : Program} {ρ : Pl} {m : T SObj} {nx : Nat} {w0 : Base} {w : World} (h : Emb P ρ m nx w0 w) {b : Nat} {cs : List SV} {e : TypeId} (hb : m.get b = some (.cells cs e true)) {x : Nat × Nat} (hx : ρ b = some x) {p : List SV} {ps : List Value} (hp : denC ρ p = some ps) (h1 : p.all SV.onc = true) (hl : lenC cs + lenC p ≤ x.2 * P.cellsOf e) :
    ∃ w', (storeCells ⟨x.1, lenC cs, none⟩ ps).run P w = .ok () w' ∧ Emb P ρ (m.put (some (.cells (app cs p) e true)) b) nx w0 w' := by
  obtain ⟨x', ob', g1, -, g3, g4⟩ := h.obj b _ hb
  rw [hx] at g1
  cases g1
  cases ob' <;> try exact g4.elim
  rename_i arr t' z
  obtain ⟨rfl, ⟨us, a2, a3⟩, a4, a5⟩ := g4
  rw [if_pos rfl] at a3
  obtain ⟨a3, a6⟩ := a3
  have hpl := denC_len hp
  have hul := denC_len a2
  obtain ⟨arr', c1, c2, c3, c4, c5, c6, c7, c8⟩ := setCells_heap x.1 ps (lenC cs) w arr t' z g3 (by omega)
  refine ⟨w.setCells x.1 (lenC cs) ps, ?_, ?_⟩
  · have := run_storeCells_cells (P := P) x.1 (lenC cs) ps 0 w (fun j hj => by
      rw [cell_of_row w x.1 _ arr t' z g3]
      rw [Array.getElem?_eq_getElem (by omega)]; rfl) (fun j hj => by
      unfold World.frozen?
      simp only [g3]
      have := a4.1 (lenC cs + 0 + j) (by omega)
      simpa using this) (denC_one hp h1)
    simpa using this
  · refine h.upd hb hx c6 c7 c8 c4 c1 c5 ⟨rfl, ⟨us ++ ps, by rw [app_ok]; exact denC_append a2 hp, ?_⟩, ⟨fun i hi => a4.1 i (by omega), a4.2⟩, by rw [app_ok, List.all_append, a5, h1]; rfl⟩
    rw [if_pos rfl]
    refine ⟨?_, by rw [c3]; exact a6⟩
    have t1 : arr.toList.take (lenC cs) = us := by rw [← hul]; exact a3
    rw [c2, t1, ← List.append_assoc, List.take_left]
theorem apG_ok {P : Program} {E : Env} (hE : EnvOk P E) {ρ : Pl} {m : T SObj} {nx : Nat} {w0 : Base} {w : World} (h : Emb P ρ m nx w0 w) {e : TypeId} {i : TypeInfo} {need : Nat} {cs : List SV} {r : SV × T SObj × Nat} (hi : E.ty.get e = some i) (g : apG E m nx e i need cs = some r) {us : List Value} (hd : denC ρ cs = some us) (h1 : cs.all SV.onc = true) (hl : us.length = need * i.size) :
    need * i.bytes ≤ 140737488355328 ∧ need ≤ 4611686018427387904 ∧ ∃ z, i.zero = some z ∧ r.1 = .slu nx 0 need 0 ∧ r.2.1 = m.put (some (.cells cs e true)) nx ∧ r.2.2 = nx + 1 ∧ ∀ c, need ≤ c →
      ∃ ρ', Le ρ ρ' ∧ den ρ' r.1 = some (.slice (some ⟨w.heap.size, 0, none⟩) need c) ∧ Emb P ρ' r.2.1 r.2.2 w0 (w.drew.alloc (.cells (us.toArray ++ Builtin.zeroCells z.cells (c - need)) e)) := by
  obtain ⟨g1, g2⟩ := oi_eq.1 g
  obtain ⟨g3, g4⟩ := oi_eq.1 g2
  obtain ⟨z, g5, g6⟩ := ob_eq.1 g4
  obtain ⟨g7, g8⟩ := oi_eq.1 g6
  obtain ⟨g9, g10⟩ := oi_eq.1 g8
  cases g10
  rw [nble_iff] at g1 g3
  rw [nbeq_iff] at g9
  obtain ⟨zu, -, a2, it, a3, a4⟩ := zrE_ok hE g5 ρ w
  have hpi := hE.ty _ _ hi
  rw [hpi] at a3
  cases a3
  have hz := cellsOf_den a2
  have hzs : zu.cells.size = i.size := by rw [← g9, ← denC_len hz]; simp
  refine ⟨g1, g3, zu, a4, rfl, rfl, rfl, fun c hc => ?_⟩
  have hle := pset_le (b := nx) (w.heap.size, c) (h.fresh nx (Nat.le_refl _)).1
  have hcell : P.cellsOf e = i.size := by simp [Program.cellsOf, hpi]
  obtain ⟨f1, f2⟩ := h.drew.new c (grown_rel (P := P) (p := w.heap.size) (denC_mono hle _ hd) h1 hl hzs hcell hc)
  refine ⟨_, f2, ?_, f1⟩
  exact den_slu_mk (pset_same _ _ _) (by simpa using hc) 0
end Go.Proofs.YtodehmognjofhaaGreat
