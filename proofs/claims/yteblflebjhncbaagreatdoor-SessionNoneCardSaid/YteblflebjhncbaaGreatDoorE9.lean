/-
  A run by the kernel: comparisons, look-ups, what is nil.
-/
import Derived.Test.YteblflebjhncbaaGreatDoorE8
import Derived.Laws.StructEq
namespace Go.Proofs.YteblflebjhncbaaGreatDoor
open Go.RowKit

def kq (a b : IntKind) : Bool := match a, b with
  | .i8, .i8 | .i16, .i16 | .i32, .i32 | .i64, .i64 | .u8, .u8 | .u16, .u16 | .u32, .u32 | .u64, .u64 => true
  | _, _ => false
theorem kq_ok {a b : IntKind} (h : kq a b = true) : a = b := by cases a <;> cases b <;> first | rfl | cases h
/-- x == y, of one type: bools, and what may be nil. -/
noncomputable def eqB (E : Env) (t : TypeId) (x y : SV) : Option Bool := ob (und E t) fun d => match d, x, y with
  | .bool, .bool a, .bool b => some (Bool.rec (motive := fun _ => Bool) (not b) b a)
  | .int _, .int k a, .int k' b => oi (kq k k') (some (ieq a b))
  | .string, .str a, .str b => some (leq a b)
  | .pointer _, .nptr, .nptr => some true
  | .pointer _, .nptr, .ptr _ _ => some false
  | .pointer _, .ptr _ _, .nptr => some false
  | .pointer e, .ptr b o, .ptr b' o' => ob (szE E e) fun n => oi (Nat.blt 0 n) (oi (Nat.beq b b') (some (Nat.beq o o')))
  | .interface _, .nifc, .ifc _ _ => some false
  | .interface _, .ifc _ _, .nifc => some false
  | .interface _, .nifc, .nifc => some true
  | .slice _, .nslc, .nslc => some true
  | .slice _, .nslc, .slc .. => some false
  | .slice _, .nslc, .slu .. => some false
  | .slice _, .slc .., .nslc => some false
  | .slice _, .slu .., .nslc => some false
  | .map _ _, .nmap, .nmap => some true
  | .map _ _, .nmap, .map _ => some false
  | .map _ _, .map _, .nmap => some false
  | .func _ _ _, .nfn, .nfn => some true
  | .func _ _ _, .nfn, .fn .. => some false
  | .func _ _ _, .fn .., .nfn => some false
  | _, _, _ => none
theorem den_fn {ρ : Pl} {f : Fn} {a c : List SV} {u : Value} (h : den ρ (.fn f a c) = some u) : ∃ x y, denL ρ a = some x ∧ denL ρ c = some y ∧ isYield f = false ∧ u = .func f x.toArray y.toArray := by
  unfold den at h
  split at h
  · cases h
  · rename_i h0
    split at h
    · rename_i x y h1 h2
      cases h
      exact ⟨x, y, h1, h2, by simpa using h0, rfl⟩
    · cases h
theorem den_ifc {ρ : Pl} {t : TypeId} {v : SV} {u : Value} (h : den ρ (.ifc t v) = some u) : ∃ x, den ρ v = some x ∧ u = .iface t x := by
  unfold den at h
  obtain ⟨x, h1, rfl⟩ := Option.map_eq_some_iff.1 h
  exact ⟨x, h1, rfl⟩
theorem den_ifc_mk {ρ : Pl} {t : TypeId} {v : SV} {x : Value} (h : den ρ v = some x) : den ρ (.ifc t v) = some (.iface t x) := by unfold den; rw [h]; rfl
theorem den_map {ρ : Pl} {r : Nat} {u : Value} (h : den ρ (.map r) = some u) : ∃ x, ρ r = some x ∧ u = .map (some x.1) := by
  unfold den at h
  obtain ⟨x, h1, rfl⟩ := Option.map_eq_some_iff.1 h
  exact ⟨x, h1, rfl⟩
theorem den_nptr (ρ : Pl) : den ρ .nptr = some (.pointer none) := by simp [den]
theorem den_nmap (ρ : Pl) : den ρ .nmap = some (.map none) := by simp [den]
theorem den_nfn (ρ : Pl) : den ρ .nfn = some .nilFunc := by simp [den]
theorem den_nifc (ρ : Pl) : den ρ .nifc = some .nilIface := by simp [den]
theorem beq_bool (a b : Bool) : (a == b) = Bool.rec (motive := fun _ => Bool) (not b) b a := by cases a <;> cases b <;> rfl
theorem str_beq {a b : List Nat} (ha : ∀ x ∈ a, x < 256) (hb : ∀ x ∈ b, x < 256) : (bytesOf a == bytesOf b) = leq a b := by
  rw [beq_toListBytes, bytesOf_toList, bytesOf_toList, map_u8_inj a b ha hb, leq_ok]
theorem eqB_ok {P : Program} {E : Env} (hE : EnvOk P E) {ρ : Pl} {t : TypeId} {x y : SV} {r : Bool} {u v : Value} (e : eqB E t x y = some r) (hx : den ρ x = some u) (hy : den ρ y = some v) (d : Nat) (w : World) :
    (Op.equalIn (d + 1) t u v).run P w = .ok r w := by
  obtain ⟨de, h1, h2⟩ := ob_eq.1 e
  have hu := und_ok hE h1
  simp only [Op.equalIn, Sem.run_bind, run_underlying hu w, Result.andThen_ok]
  split at h2
  · rename_i a b
    rw [den_bool] at hx hy
    cases hx; cases hy; cases h2
    simp only [Sem.run_pure, beq_bool]
  · rename_i k0 k a k' b
    obtain ⟨h3, h4⟩ := oi_eq.1 h2
    obtain rfl := kq_ok h3
    rw [den_int] at hx hy
    cases hx; cases hy; cases h4
    simp [ieq_ok]
  · rename_i a b
    obtain ⟨rfl, ha⟩ := den_str hx
    obtain ⟨rfl, hb⟩ := den_str hy
    cases h2
    simp only [Sem.run_pure, str_beq ha hb]
  · rw [den_nptr] at hx hy; cases hx; cases hy; cases h2; rfl
  · obtain ⟨y1, -, rfl⟩ := den_ptr hy; rw [den_nptr] at hx; cases hx; cases h2; rfl
  · obtain ⟨y1, -, rfl⟩ := den_ptr hx; rw [den_nptr] at hy; cases hy; cases h2; rfl
  · rename_i el b o b' o'
    obtain ⟨n, h3, h4⟩ := ob_eq.1 h2
    obtain ⟨h5, h6⟩ := oi_eq.1 h4
    obtain ⟨h7, h8⟩ := oi_eq.1 h6
    cases h8
    obtain rfl := nbeq_iff.1 h7
    obtain ⟨y1, g1, rfl⟩ := den_ptr hx
    obtain ⟨y2, g2, rfl⟩ := den_ptr hy
    rw [g1] at g2
    cases g2
    have hn := blt_true h5
    have hne : n ≠ 0 := by omega
    simp only [Sem.run_bind, (szE_ok hE h3 w).1, Result.andThen_ok]
    rw [if_pos hne]
    simp only [sameAddr, beq_self_eq_true, if_true, Sem.run_pure, Result.ok.injEq, and_true]
    rw [Bool.eq_iff_iff, beq_iff_eq, nbeq_iff]
    simp
  · obtain ⟨y1, -, rfl⟩ := den_ifc hy; rw [den_nifc] at hx; cases hx; cases h2; rfl
  · obtain ⟨y1, -, rfl⟩ := den_ifc hx; rw [den_nifc] at hy; cases hy; cases h2; rfl
  · rw [den_nifc] at hx hy; cases hx; cases hy; cases h2; rfl
  · rw [den_nslc] at hx hy; cases hx; cases hy; cases h2; rfl
  · obtain ⟨y1, -, rfl⟩ := den_slc hy; rw [den_nslc] at hx; cases hx; cases h2; rfl
  · obtain ⟨y1, -, -, rfl⟩ := den_slu hy; rw [den_nslc] at hx; cases hx; cases h2; rfl
  · obtain ⟨y1, -, rfl⟩ := den_slc hx; rw [den_nslc] at hy; cases hy; cases h2; rfl
  · obtain ⟨y1, -, -, rfl⟩ := den_slu hx; rw [den_nslc] at hy; cases hy; cases h2; rfl
  · rw [den_nmap] at hx hy; cases hx; cases hy; cases h2; rfl
  · obtain ⟨y1, -, rfl⟩ := den_map hy; rw [den_nmap] at hx; cases hx; cases h2; rfl
  · obtain ⟨y1, -, rfl⟩ := den_map hx; rw [den_nmap] at hy; cases hy; cases h2; rfl
  · rw [den_nfn] at hx hy; cases hx; cases hy; cases h2; rfl
  · obtain ⟨y1, y2, -, -, -, rfl⟩ := den_fn hy; rw [den_nfn] at hx; cases hx; cases h2; rfl
  · obtain ⟨y1, y2, -, -, -, rfl⟩ := den_fn hx; rw [den_nfn] at hy; cases hy; cases h2; rfl
  · cases h2
/-- interface values of numbers, too. -/
noncomputable def eqE (E : Env) (t : TypeId) (x y : SV) : Option Bool := match x, y with
  | .ifc t1 a, .ifc t2 b => ob (und E t) fun d => match d with
    | .interface _ => Bool.rec (motive := fun _ => Option Bool) (some false) (ob (E.ty.get t1) fun i => oi i.comparable (eqB E t1 a b)) (Nat.beq t1 t2)
    | _ => none
  | _, _ => eqB E t x y
theorem eqE_ok {P : Program} {E : Env} (hE : EnvOk P E) {ρ : Pl} {t : TypeId} {x y : SV} {r : Bool} {u v : Value} (e : eqE E t x y = some r) (hx : den ρ x = some u) (hy : den ρ y = some v) (w : World) :
    (Op.equal t u v).run P w = .ok r w := by
  unfold eqE at e
  split at e
  · rename_i t1 a t2 b
    obtain ⟨u1, g1, rfl⟩ := den_ifc hx
    obtain ⟨u2, g2, rfl⟩ := den_ifc hy
    obtain ⟨d, h1, h2⟩ := ob_eq.1 e
    have hu := und_ok hE h1
    split at h2
    · show (Op.equalIn (9998 + 1 + 1) t _ _).run P w = _
      by_cases ht : t1 = t2
      · subst ht
        rw [nbeq_iff.2 rfl] at h2
        have h3 : (ob (E.ty.get t1) fun i => oi i.comparable (eqB E t1 a b)) = some r := h2
        obtain ⟨i, h4, h5⟩ := ob_eq.1 h3
        obtain ⟨h6, h7⟩ := oi_eq.1 h5
        have hi := hE.ty _ _ h4
        rw [Op.equalIn]
        simp only [Sem.run_bind, run_underlying hu w, Result.andThen_ok, ne_eq, not_true, if_false, run_typeInfo w hi, h6, Bool.not_true, Bool.false_eq_true]
        exact eqB_ok hE h7 g1 g2 9998 w
      · rw [nbeq ht] at h2
        cases h2
        rw [Op.equalIn]
        simp only [Sem.run_bind, run_underlying hu w, Result.andThen_ok, ne_eq, ht, not_false_eq_true, if_true, Sem.run_pure]
    · cases h2
  · exact eqB_ok hE e hx hy 9999 w

noncomputable def intB (op : BinOp) (k k' : IntKind) (a b : Int) : Option SV := match op with
  | .shl => shE .shl k a b
  | .shr => shE .shr k a b
  | op => oi (kq k k') (intE op k a b)
theorem intB_ok {P : Program} {op : BinOp} {k k' : IntKind} {a b : Int} {v : SV} (h : intB op k k' a b = some v) (ρ : Pl) (t : TypeId) (w : World) :
    ∃ u, (binOp op t (.int k a) (.int k' b)).run P w = .ok u w ∧ den ρ v = some u := by
  unfold intB at h
  split at h
  · exact shE_ok h ρ t w
  · exact shE_ok h ρ t w
  · obtain ⟨h3, h4⟩ := oi_eq.1 h
    obtain rfl := kq_ok h3
    exact intE_ok h4 ρ t w
/-- what has == and no order. -/
def plain : SV → Bool
  | .bool _ | .ptr .. | .nptr | .slc .. | .slu .. | .nslc | .map _ | .nmap | .fn .. | .nfn | .ifc .. | .nifc => true
  | _ => false
def plainV : Value → Bool
  | .bool _ | .pointer _ | .slice .. | .map _ | .func .. | .nilFunc | .iface .. | .nilIface => true
  | _ => false
theorem plain_ok {ρ : Pl} {x : SV} {u : Value} (h : plain x = true) (hx : den ρ x = some u) : plainV u = true ∧ (u = .nilIface → x = .nifc) := by
  cases x <;> simp only [plain, Bool.false_eq_true] at h
  case bool => rw [den_bool] at hx; cases hx; exact ⟨rfl, fun h => by cases h⟩
  case ptr => obtain ⟨_, -, rfl⟩ := den_ptr hx; exact ⟨rfl, fun h => by cases h⟩
  case nptr => rw [den_nptr] at hx; cases hx; exact ⟨rfl, fun h => by cases h⟩
  case slc => obtain ⟨_, -, rfl⟩ := den_slc hx; exact ⟨rfl, fun h => by cases h⟩
  case slu => obtain ⟨_, -, -, rfl⟩ := den_slu hx; exact ⟨rfl, fun h => by cases h⟩
  case nslc => rw [den_nslc] at hx; cases hx; exact ⟨rfl, fun h => by cases h⟩
  case map => obtain ⟨_, -, rfl⟩ := den_map hx; exact ⟨rfl, fun h => by cases h⟩
  case nmap => rw [den_nmap] at hx; cases hx; exact ⟨rfl, fun h => by cases h⟩
  case fn => obtain ⟨_, _, -, -, -, rfl⟩ := den_fn hx; exact ⟨rfl, fun h => by cases h⟩
  case nfn => rw [den_nfn] at hx; cases hx; exact ⟨rfl, fun h => by cases h⟩
  case ifc => obtain ⟨_, -, rfl⟩ := den_ifc hx; exact ⟨rfl, fun h => by cases h⟩
  case nifc => rw [den_nifc] at hx; cases hx; exact ⟨rfl, fun _ => rfl⟩
def bothNil : SV → SV → Bool
  | .nifc, .nifc => true
  | .nifc, .sym .any _ => true
  | _, _ => false
noncomputable def eqOp (E : Env) (op : BinOp) (t : TypeId) (x y : SV) : Option SV := match op with
  | .eql => ob (eqE E t x y) fun b => some (.bool b)
  | .neq => ob (eqE E t x y) fun b => some (.bool (not b))
  | _ => none
def isB : SV → Bool
  | .sym .bool _ => true
  | .ar o _ _ _ => cmpO o
  | _ => false
theorem isB_ok {ρ : Pl} {x : SV} {u : Value} (h : isB x = true) (hx : den ρ x = some u) : ∃ b, u = .bool b := by
  unfold isB at h
  split at h
  · unfold den at hx
    obtain ⟨-, hk⟩ := symD_some hx
    cases u <;> simp only [SK.is, Bool.false_eq_true] at hk
    exact ⟨_, rfl⟩
  · unfold den at hx
    obtain ⟨a, b, -, -, h3⟩ := ar2_some hx
    exact arV_bool h3 h
  · cases h
def sameS : SV → SV → Bool
  | .sym (.int _) i, .sym (.int _) j => Nat.beq i j
  | _, _ => false
theorem sameS_ok {ρ : Pl} {x y : SV} {u v : Value} (h : sameS x y = true) (hx : den ρ x = some u) (hy : den ρ y = some v) : u = v := by
  unfold sameS at h
  split at h
  · rw [nbeq_iff] at h
    subst h
    unfold den at hx hy
    have h1 := (symD_some hx).1
    have h2 := (symD_some hy).1
    rw [h1] at h2
    exact Option.some.inj h2
  · cases h
noncomputable def symO (op : BinOp) (k : IntKind) (x y : SV) : Option SV := match op with
  | .eql => Bool.rec (motive := fun _ => Option SV) (some (.ar .eql k x y)) (some (.bool true)) (sameS x y)
  | .neq => Bool.rec (motive := fun _ => Option SV) (some (.ar .neq k x y)) (some (.bool false)) (sameS x y)
  | .add => some (.ar .add k x y)
  | .sub => some (.ar .sub k x y)
  | .mul => some (.ar .mul k x y)
  | .lss => some (.ar .lss k x y)
  | .leq => some (.ar .leq k x y)
  | .gtr => some (.ar .gtr k x y)
  | .geq => some (.ar .geq k x y)
  | .and => some (.ar .and k x y)
  | .or => some (.ar .or k x y)
  | .xor => some (.ar .xor k x y)
  | _ => none
theorem arV_ok {P : Program} {op : BinOp} {k : IntKind} {a b : Int} {z : Value} (h : arV op k a b = some z) (t : TypeId) (w : World) : (binOp op t (.int k a) (.int k b)).run P w = .ok z w := by
  cases op <;> simp only [arV] at h <;> cases h
  all_goals (simp only [binOp, ne_eq, not_true, if_false, Op.intArith, Op.intCmp, Op.intBits, Sem.run_pure]; try rfl)
theorem symO_ok {P : Program} {op : BinOp} {k : IntKind} {x y r : SV} {ρ : Pl} {a b : Int} (e : symO op k x y = some r) (hx : den ρ x = some (.int k a)) (hy : den ρ y = some (.int k b)) (t : TypeId) (w : World) : ∃ z, (binOp op t (.int k a) (.int k b)).run P w = .ok z w ∧ den ρ r = some z := by
  have ar : ∀ o z, arV o k a b = some z → den ρ (.ar o k x y) = some z := by
    intro o z hz
    unfold den
    rw [hx, hy, ar2_mk]; exact hz
  unfold symO at e
  split at e
  · cases hs : sameS x y with
    | false => rw [hs] at e; cases e; exact ⟨_, arV_ok rfl t w, ar _ _ rfl⟩
    | true =>
      rw [hs] at e; cases e
      have hab := sameS_ok hs hx hy
      simp only [Value.int.injEq, true_and] at hab
      subst hab
      exact ⟨_, arV_ok rfl t w, by rw [den_bool]; simp⟩
  · cases hs : sameS x y with
    | false => rw [hs] at e; cases e; exact ⟨_, arV_ok rfl t w, ar _ _ rfl⟩
    | true =>
      rw [hs] at e; cases e
      have hab := sameS_ok hs hx hy
      simp only [Value.int.injEq, true_and] at hab
      subst hab
      exact ⟨_, arV_ok rfl t w, by rw [den_bool]; simp⟩
  all_goals first | (cases e; exact ⟨_, arV_ok rfl t w, ar _ _ rfl⟩) | cases e
noncomputable def shS (op : BinOp) (k : IntKind) (x y : SV) : Option SV := match y with
  | .int _ (.ofNat n) => match op with
    | .shl => some (.sh .shl k x n)
    | .shr => some (.sh .shr k x n)
    | _ => none
  | _ => none
noncomputable def symB (op : BinOp) (x y : SV) : Option SV := match op with
  | .shl => ob (ik x) fun k => shS .shl k x y
  | .shr => ob (ik x) fun k => shS .shr k x y
  | op => ob (ik x) fun k => ob (ik y) fun k' => oi (kq k k') (symO op k x y)
theorem shS_ok {P : Program} {op : BinOp} {k : IntKind} {x y r : SV} {ρ : Pl} {a : Int} {v : Value} (e : shS op k x y = some r) (hx : den ρ x = some (.int k a)) (hy : den ρ y = some v) (t : TypeId) (w : World) : ∃ z, (binOp op t (.int k a) v).run P w = .ok z w ∧ den ρ r = some z := by
  unfold shS at e
  split at e
  · rename_i k' n
    rw [den_int] at hy
    cases hy
    split at e <;> cases e
    · obtain ⟨z, h1, h2⟩ := shE_ok (P := P) (op := .shl) (k := k) (k' := k') (a := a) (b := .ofNat n) rfl ρ t w
      rw [den_int] at h2
      cases h2
      refine ⟨_, h1, ?_⟩
      unfold den
      rw [hx, shD_mk, wr_ok]; rfl
    · obtain ⟨z, h1, h2⟩ := shE_ok (P := P) (op := .shr) (k := k) (k' := k') (a := a) (b := .ofNat n) rfl ρ t w
      rw [den_int] at h2
      cases h2
      refine ⟨_, h1, ?_⟩
      unfold den
      rw [hx, shD_mk]; rfl
  · cases e
theorem symB_ok {P : Program} {op : BinOp} {x y r : SV} {ρ : Pl} {u v : Value} (e : symB op x y = some r) (hx : den ρ x = some u) (hy : den ρ y = some v) (t : TypeId) (w : World) : (∃ k a, u = .int k a) ∧ ∃ z, (binOp op t u v).run P w = .ok z w ∧ den ρ r = some z := by
  unfold symB at e
  split at e
  · obtain ⟨k, h1, h2⟩ := ob_eq.1 e
    obtain ⟨a, rfl⟩ := ik_ok h1 hx
    exact ⟨⟨k, a, rfl⟩, shS_ok h2 hx hy t w⟩
  · obtain ⟨k, h1, h2⟩ := ob_eq.1 e
    obtain ⟨a, rfl⟩ := ik_ok h1 hx
    exact ⟨⟨k, a, rfl⟩, shS_ok h2 hx hy t w⟩
  · obtain ⟨k, h2, h3⟩ := ob_eq.1 e
    obtain ⟨k', h4, h5⟩ := ob_eq.1 h3
    obtain ⟨h6, h7⟩ := oi_eq.1 h5
    obtain rfl := kq_ok h6
    obtain ⟨a, rfl⟩ := ik_ok h2 hx
    obtain ⟨b, rfl⟩ := ik_ok h4 hy
    exact ⟨⟨k, a, rfl⟩, symO_ok h7 hx hy t w⟩
/-- x == y, of structs too. -/
noncomputable def eqF (E : Env) (go : TypeId → SV → SV → Option Bool) (xs ys : List SV) (fs : List Field) : Option Bool := List.rec (motive := fun _ => Option Bool) (some true)
  (fun f _ ih => oi (not (f.name == "_")) (ob (ptE E f.type xs f.offset) fun a => ob (ptE E f.type ys f.offset) fun b => ob (go f.type a b) fun r => Bool.rec (motive := fun _ => Option Bool) (some false) ih r)) fs
noncomputable def eqS (E : Env) (go : TypeId → SV → SV → Option Bool) (t : TypeId) (x y : SV) : Option Bool := match x, y with
  | .agg xs, .agg ys => ob (und E t) fun d => match d with
    | .struct fs => oi (E.eq t) (eqF E go xs ys fs.toList)
    | _ => none
  | x, y => eqB E t x y
noncomputable def eqN (E : Env) (n : Nat) : TypeId → SV → SV → Option Bool := Nat.rec (motive := fun _ => TypeId → SV → SV → Option Bool) (fun t x y => eqB E t x y) (fun _ ih t x y => eqS E ih t x y) n
theorem eqF_ok {P : Program} {E : Env} (hE : EnvOk P E) {ρ : Pl} {go : TypeId → SV → SV → Option Bool} {d : Nat} {w : World} (hgo : ∀ t x y r u v, go t x y = some r → den ρ x = some u → den ρ y = some v → (Op.equalIn d t u v).run P w = .ok r w)
    {xs ys : List SV} {us vs : List Value} (hx : denL ρ xs = some us) (hx1 : xs.all SV.one = true) (hy : denL ρ ys = some vs) (hy1 : ys.all SV.one = true) : ∀ {fs : List Field} {r : Bool}, eqF E go xs ys fs = some r → (Op.eqFields d us.toArray vs.toArray fs).run P w = .ok r w
  | [], r, e => by cases e; rfl
  | f :: fs, r, e => by
    have e' : oi (not (f.name == "_")) (ob (ptE E f.type xs f.offset) fun a => ob (ptE E f.type ys f.offset) fun b => ob (go f.type a b) fun q => Bool.rec (motive := fun _ => Option Bool) (some false) (eqF E go xs ys fs) q) = some r := e
    obtain ⟨h1, h2⟩ := oi_eq.1 e'
    obtain ⟨a, h3, h4⟩ := ob_eq.1 h2
    obtain ⟨b, h5, h6⟩ := ob_eq.1 h4
    obtain ⟨q, h7, h8⟩ := ob_eq.1 h6
    obtain ⟨u, c1, c2⟩ := ptE_ok hE h3 hx hx1 w
    obtain ⟨v, c3, c4⟩ := ptE_ok hE h5 hy hy1 w
    have hn : f.name ≠ "_" := by simpa using h1
    have hq := hgo _ _ _ _ _ _ h7 c2 c4
    simp only [Op.eqFields, if_pos hn, Sem.run_bind, c1, c3, Result.andThen_ok, hq]
    cases q with
    | false =>
      cases h8
      simp only [Bool.not_false, if_true, Sem.run_pure]
    | true =>
      simp only [Bool.not_true, Bool.false_eq_true, if_false]
      exact eqF_ok hE hgo hx hx1 hy hy1 h8
theorem eqN_ok {P : Program} {E : Env} (hE : EnvOk P E) {ρ : Pl} (w : World) : ∀ (n : Nat) {t : TypeId} {x y : SV} {r : Bool} {u v : Value}, eqN E n t x y = some r → den ρ x = some u → den ρ y = some v → ∀ d, (Op.equalIn (d + n + 1) t u v).run P w = .ok r w
  | 0, t, x, y, r, u, v, e, hx, hy, d => eqB_ok hE e hx hy d w
  | n + 1, t, x, y, r, u, v, e, hx, hy, d => by
    have e' : eqS E (eqN E n) t x y = some r := e
    unfold eqS at e'
    split at e'
    · rename_i xs ys
      obtain ⟨de, h1, h2⟩ := ob_eq.1 e'
      split at h2
      · rename_i fs
        obtain ⟨h3, h4⟩ := oi_eq.1 h2
        obtain ⟨us, a1, a2, rfl⟩ := den_agg hx
        obtain ⟨vs, b1, b2, rfl⟩ := den_agg hy
        have hu := und_ok hE h1
        have hf : P.fieldsOf t = fs := by unfold Program.fieldsOf; rw [hu]
        rw [show d + (n + 1) + 1 = (d + n + 1) + 1 by omega, run_equalIn_agg w (d + n + 1) t _ _ (by rw [hf]; exact hu) (hE.eq t h3).1, hf]
        exact eqF_ok hE (fun t x y r u v k1 k2 k3 => eqN_ok hE w n k1 k2 k3 d) a1 a2 b1 b2 h4
      · cases h2
    · exact eqB_ok hE e' hx hy (d + (n + 1)) w
noncomputable def eqA (E : Env) (op : BinOp) (t : TypeId) (x y : SV) : Option SV := oi (E.eq t) (match op with
  | .eql => ob (eqN E 4 t x y) fun b => some (.bool b)
  | .neq => ob (eqN E 4 t x y) fun b => some (.bool (not b))
  | _ => none)
/-- a binary operator; c: one of the operands stands there as a constant. -/
noncomputable def binE (E : Env) (op : BinOp) (t : TypeId) (c : Bool) (x y : SV) : Option SV := match x, y with
  | .int k a, .int k' b => intB op k k' a b
  | .str a, .str b => strE op a b
  | .agg a, .agg b => eqA E op t (.agg a) (.agg b)
  | x, y => Bool.rec (motive := fun _ => Option SV) (symB op x y) (oi (or c (not (bothNil x y))) (eqOp E op t x y)) (plain x)
def cst (x y : Operand) : Bool := match x, y with
  | .const _, _ => true
  | _, .const _ => true
  | _, _ => false
theorem eqGuard_ok {P : Program} {op : BinOp} {t : TypeId} {x y : Operand} {a b : Value} (h1 : ∀ cs, a ≠ .agg cs) (h2 : a = .nilIface → b = .nilIface → cst x y = true) (w : World) : (eqGuard op t x y a b).run P w = .ok () w := by
  unfold eqGuard
  split
  case h_3 => rfl
  all_goals
    simp only [Bool.not_true, Bool.false_eq_true, if_false]
    split
    · have := h2 rfl rfl
      cases x <;> cases y <;> first | rfl | cases this
    · exact absurd rfl (h1 _)
    · rfl
theorem binE_ok {P : Program} {E : Env} (hE : EnvOk P E) {ρ : Pl} {op : BinOp} {t : TypeId} {x y : SV} {X Y : Operand} {r : SV} {u v : Value} (e : binE E op t (cst X Y) x y = some r) (hx : den ρ x = some u) (hy : den ρ y = some v) (w : World) :
    ∃ z, (do eqGuard op t X Y u v; binOp op t u v : Sem Value).run P w = .ok z w ∧ den ρ r = some z := by
  unfold binE at e
  split at e
  · rw [den_int] at hx hy
    cases hx; cases hy
    simp only [Sem.run_bind, eqGuard_ok (a := Value.int _ _) (fun cs h => Value.noConfusion h) (fun h => Value.noConfusion h) w, Result.andThen_ok]
    exact intB_ok e ρ t w
  · obtain ⟨rfl, ha⟩ := den_str hx
    obtain ⟨rfl, hb⟩ := den_str hy
    simp only [Sem.run_bind, eqGuard_ok (a := Value.string _) (fun cs h => Value.noConfusion h) (fun h => Value.noConfusion h) w, Result.andThen_ok]
    exact strE_ok e ha hb ρ t w
  · obtain ⟨us, -, -, rfl⟩ := den_agg hx
    obtain ⟨vs, -, -, rfl⟩ := den_agg hy
    obtain ⟨h1, h2⟩ := oi_eq.1 e
    simp only [Sem.run_bind, run_eqGuard_agg w op t X Y us.toArray vs.toArray (hE.eq t h1).2, Result.andThen_ok]
    split at h2
    · obtain ⟨b, h3, h4⟩ := ob_eq.1 h2
      cases h4
      refine ⟨_, ?_, den_bool _ _⟩
      rw [run_eql_struct, eqN_ok hE w 4 h3 hx hy 9995]
      rfl
    · obtain ⟨b, h3, h4⟩ := ob_eq.1 h2
      cases h4
      refine ⟨_, ?_, den_bool _ _⟩
      rw [run_neq_struct, eqN_ok hE w 4 h3 hx hy 9995]
      rfl
    · cases h2
  · cases h1 : plain x with
    | false =>
      rw [h1] at e
      obtain ⟨⟨k, a, rfl⟩, h2⟩ := symB_ok (P := P) e hx hy t w
      simp only [Sem.run_bind, eqGuard_ok (a := Value.int _ _) (fun cs h => Value.noConfusion h) (fun h => Value.noConfusion h) w, Result.andThen_ok]
      exact h2
    | true =>
    rw [h1] at e
    obtain ⟨h3, h4⟩ := oi_eq.1 e
    obtain ⟨p1, p2⟩ := plain_ok h1 hx
    have g : (eqGuard op t X Y u v).run P w = .ok () w := by
      refine eqGuard_ok (fun cs h => by subst h; cases p1) (fun hu hv => ?_) w
      have hx' := p2 hu
      subst hx'
      subst hv
      have hy' : y = .nifc ∨ ∃ i, y = .sym .any i := by
        cases y with
        | nifc => exact .inl rfl
        | bool => rw [den_bool] at hy; cases hy
        | int => rw [den_int] at hy; cases hy
        | str s => obtain ⟨h, -⟩ := den_str hy; cases h
        | flt k b => unfold den at hy; cases hy
        | sym k i =>
          unfold den at hy
          obtain ⟨-, hk⟩ := symD_some hy
          cases k <;> first | exact .inr ⟨i, rfl⟩ | cases hk
        | sh o k a n => unfold den at hy; obtain ⟨_, -, h⟩ := shD_some hy; obtain ⟨_, h⟩ := shV_int h; cases h
        | cv k a => unfold den at hy; obtain ⟨_, _, -, h⟩ := cvD_some hy; cases h
        | tab l a => unfold den at hy; obtain ⟨_, _, -, -, -, h⟩ := tabD_some hy; cases h
        | pix b o n a => unfold den at hy; obtain ⟨_, _, _, -, -, -, -, h⟩ := pixD_some hy; cases h
        | ar o k a b => unfold den at hy; obtain ⟨_, _, -, -, h⟩ := ar2_some hy; have := arV_one h; unfold arV at h; split at h <;> cases h
        | lenS i => unfold den at hy; obtain ⟨_, -, -, h⟩ := lenV_int hy; cases h
        | agg l => obtain ⟨us, -, -, h⟩ := den_agg hy; cases h
        | tup l => obtain ⟨us, -, h⟩ := den_tup hy; cases h
        | yld l => unfold den at hy; obtain ⟨p, -, h⟩ := Option.map_eq_some_iff.1 hy; cases h
        | ptr b o => exact .inl ((plain_ok rfl hy).2 rfl)
        | nptr => exact .inl ((plain_ok rfl hy).2 rfl)
        | slc b o n c => exact .inl ((plain_ok rfl hy).2 rfl)
        | slu b o n c => exact .inl ((plain_ok rfl hy).2 rfl)
        | nslc => exact .inl ((plain_ok rfl hy).2 rfl)
        | map r => exact .inl ((plain_ok rfl hy).2 rfl)
        | nmap => exact .inl ((plain_ok rfl hy).2 rfl)
        | fn f a c => exact .inl ((plain_ok rfl hy).2 rfl)
        | nfn => exact .inl ((plain_ok rfl hy).2 rfl)
        | ifc t v => exact .inl ((plain_ok rfl hy).2 rfl)
      rcases hy' with rfl | ⟨i, rfl⟩
      all_goals simpa [bothNil] using h3
    simp only [Sem.run_bind, g, Result.andThen_ok]
    unfold eqOp at h4
    split at h4
    · obtain ⟨b, h5, h6⟩ := ob_eq.1 h4
      cases h6
      refine ⟨_, ?_, den_bool _ _⟩
      have : binOp .eql t u v = (do pure (.bool (← Op.equal t u v))) := by cases u <;> first | rfl | cases p1
      rw [this]
      simp only [Sem.run_bind, eqE_ok hE h5 hx hy w, Result.andThen_ok, Sem.run_pure]
    · obtain ⟨b, h5, h6⟩ := ob_eq.1 h4
      cases h6
      refine ⟨_, ?_, den_bool _ _⟩
      have : binOp .neq t u v = (do pure (.bool (!(← Op.equal t u v)))) := by cases u <;> first | rfl | cases p1
      rw [this]
      simp only [Sem.run_bind, eqE_ok hE h5 hx hy w, Result.andThen_ok, Sem.run_pure]
    · cases h4
end Go.Proofs.YteblflebjhncbaaGreatDoor
