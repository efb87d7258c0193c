/-
  A run by the kernel: long terms get names at a loop's head, by a list of names that is given.
-/
import Derived.Test.YtodehmognjofhaaGreatQED
namespace Go.Proofs.YtodehmognjofhaaGreat
open Go.RowKit

/-- terms that may get a name. -/
def cmpd (v : SV) : Option IntKind := match v with
  | .ar .. => ik v
  | .sh .. => ik v
  | .cv .. => ik v
  | .tab .. => ik v
  | _ => none
abbrev Lg := Nat → Option (IntKind × SV)
noncomputable def nameV (lg : Lg) (v : SV) (nx : Nat) : SV × Nat := Option.rec (motive := fun _ => SV × Nat) (v, nx) (fun k => Option.rec (motive := fun _ => SV × Nat) (v, nx) (fun q => Bool.rec (motive := fun _ => SV × Nat) (v, nx) (.sym (.int k) (Nat.add big nx), Nat.succ nx) (and (kq k q.1) (svEq v q.2))) (lg nx)) (cmpd v)
noncomputable def nameL (lg : Lg) (l : List SV) : Nat → List SV × Nat := List.rec (motive := fun _ => Nat → List SV × Nat) (fun nx => ([], nx)) (fun v _ ih nx => Prod.rec (motive := fun _ => List SV × Nat) (fun v' nx' => Prod.rec (motive := fun _ => List SV × Nat) (fun l' nx2 => (v' :: l', nx2)) (ih nx')) (nameV lg v nx)) l
noncomputable def nameW (lg : Lg) (v : SV) (nx : Nat) : SV × Nat := match v with
  | .agg l => Prod.rec (motive := fun _ => SV × Nat) (fun l' nx' => (.agg l', nx')) (nameL lg l nx)
  | v => nameV lg v nx
noncomputable def nameO (lg : Lg) (o : Option SObj) (nx : Nat) : Option SObj × Nat := match o with
  | some (.cells cs e b) => Prod.rec (motive := fun _ => Option SObj × Nat) (fun cs' nx' => (some (.cells cs' e b), nx')) (nameL lg cs nx)
  | o => (o, nx)
noncomputable def stFr (lg : Lg) (i : Nat) (s : St) : St := Option.rec (motive := fun _ => St) s (fun v => match v with
  | .ptr b _ => Prod.rec (motive := fun _ => St) (fun o' nx' => ⟨s.F, s.m.put o' b, nx'⟩) (nameO lg (s.m.get b) s.nx)
  | .slc b _ _ _ => Prod.rec (motive := fun _ => St) (fun o' nx' => ⟨s.F, s.m.put o' b, nx'⟩) (nameO lg (s.m.get b) s.nx)
  | .slu b _ _ _ => Prod.rec (motive := fun _ => St) (fun o' nx' => ⟨s.F, s.m.put o' b, nx'⟩) (nameO lg (s.m.get b) s.nx)
  | v => Prod.rec (motive := fun _ => St) (fun v' nx' => ⟨s.F.put (some v') i, s.m, nx'⟩) (nameW lg v s.nx)) (s.F.get i)
noncomputable def nameK (lg : Lg) (K : Nat) (s : St) : St := Nat.rec (motive := fun _ => St) s (fun i ih => stFr lg i ih) K
noncomputable def nameS (lg : Lg) (K : Nat) (s : SC) : SC := ⟨nameK lg K s.s, s.ds, s.ro⟩
/-- in functions of N slots, K of which are variables. -/
noncomputable def hdE (lg : Lg) (N K : Nat) (N' : Nat) (s : SC) : SC := Bool.rec (motive := fun _ => SC) s (Option.rec (motive := fun _ => SC) s (fun _ => nameS lg K s) (lg s.s.nx)) (Nat.beq N N')
variable [Orig]
def LgOk (lg : Lg) : Prop := ∀ n k e, lg n = some (k, e) → ∃ v, den ⟨fun _ => none, Orig.V⟩ e = some v ∧ Orig.V (big + n) = some v ∧ (SK.int k).is v = true
theorem nameV_ok {lg : Lg} (hl : LgOk lg) {ρ : Pl} (hv : ∀ i v, Orig.V i = some v → ρ.val i = some v) (v : SV) (nx : Nat) : nx ≤ (nameV lg v nx).2 ∧ (nameV lg v nx).1.one = v.one ∧ ∀ u, den ρ v = some u → den ρ (nameV lg v nx).1 = some u := by
  have triv : nx ≤ nx ∧ v.one = v.one ∧ ∀ u, den ρ v = some u → den ρ v = some u := ⟨Nat.le_refl _, rfl, fun _ h => h⟩
  cases hc : cmpd v with
  | none =>
    have e : nameV lg v nx = (v, nx) := by unfold nameV; rw [hc]
    rw [e]; exact triv
  | some k =>
    cases hq : lg nx with
    | none =>
      have e : nameV lg v nx = (v, nx) := by unfold nameV; rw [hc]; simp only [hq]
      rw [e]; exact triv
    | some q =>
      cases hb : and (kq k q.1) (svEq v q.2) with
      | false =>
        have e : nameV lg v nx = (v, nx) := by unfold nameV; rw [hc]; simp only [hq, hb]
        rw [e]; exact triv
      | true =>
        have e : nameV lg v nx = (.sym (.int k) (Nat.add big nx), Nat.succ nx) := by unfold nameV; rw [hc]; simp only [hq, hb]
        rw [e]
        simp only [Bool.and_eq_true] at hb
        have h1 := kq_ok hb.1
        have h2 := svEq_ok hb.2
        obtain ⟨k', e'⟩ := q
        simp only at h1 h2
        subst h1 h2
        obtain ⟨z, h3, h4, h5⟩ := hl nx k v hq
        refine ⟨Nat.le_succ _, ?_, fun u hu => ?_⟩
        · have : v.one = true := by unfold cmpd at hc; split at hc <;> first | rfl | cases hc
          rw [this]; rfl
        · have h6 := den_mono (ρ := ⟨fun _ => none, Orig.V⟩) (ρ' := ρ) ⟨hv, fun b p hb => by cases hb⟩ v h3
          rw [hu] at h6
          cases h6
          show symD (.int k) (ρ.val (big + nx)) = some z
          rw [hv _ _ h4, symD_mk h5]
omit [Orig] in
theorem nameV_big (lg : Lg) {v : SV} (nx : Nat) (h : v.one = false) : nameV lg v nx = (v, nx) := by
  have hc : cmpd v = none := by cases v <;> first | rfl | cases h
  unfold nameV
  rw [hc]
theorem nameV_cell {lg : Lg} (hl : LgOk lg) {ρ : Pl} (hv : ∀ i v, Orig.V i = some v → ρ.val i = some v) (v : SV) (nx : Nat) : ((nameV lg v nx).1.onc = v.onc) ∧ ∀ a, cellV v (den ρ v) = some a → cellV (nameV lg v nx).1 (den ρ (nameV lg v nx).1) = some a := by
  obtain ⟨-, a2, a3⟩ := nameV_ok hl hv v nx
  cases h1 : v.one with
  | false => rw [nameV_big lg nx h1]; exact ⟨rfl, fun a h => h⟩
  | true =>
    have h2 : (nameV lg v nx).1.one = true := a2.trans h1
    have onc : ∀ x : SV, x.one = true → x.onc = true := fun x hx => by cases x <;> first | rfl | cases hx
    refine ⟨by rw [onc _ h2, onc _ h1], fun a h => ?_⟩
    rw [cellV_one h1] at h
    obtain ⟨u, h3, rfl⟩ := Option.map_eq_some_iff.1 h
    rw [cellV_one h2, a3 u h3]; rfl
theorem nameL_ok {lg : Lg} (hl : LgOk lg) {ρ : Pl} (hv : ∀ i v, Orig.V i = some v → ρ.val i = some v) : ∀ (l : List SV) (nx : Nat), nx ≤ (nameL lg l nx).2 ∧ (l.all SV.onc = true → (nameL lg l nx).1.all SV.onc = true) ∧ ∀ us, denC ρ l = some us → denC ρ (nameL lg l nx).1 = some us
  | [], nx => ⟨Nat.le_refl _, fun _ => rfl, fun us h => h⟩
  | v :: l, nx => by
    obtain ⟨a1, -, -⟩ := nameV_ok hl hv v nx
    obtain ⟨a2, a3⟩ := nameV_cell hl hv v nx
    obtain ⟨b1, b2, b3⟩ := nameL_ok hl hv l (nameV lg v nx).2
    have e : nameL lg (v :: l) nx = ((nameV lg v nx).1 :: (nameL lg l (nameV lg v nx).2).1, (nameL lg l (nameV lg v nx).2).2) := rfl
    rw [e]
    refine ⟨Nat.le_trans a1 b1, fun h => ?_, fun us h => ?_⟩
    · simp only [List.all_cons, Bool.and_eq_true] at h ⊢
      exact ⟨a2.trans h.1, b2 h.2⟩
    · obtain ⟨u, us', c1, c2, rfl⟩ := denC_cons.1 h
      exact denC_cons.2 ⟨u, us', a3 u c1, b3 us' c2, rfl⟩
theorem nameW_ok {lg : Lg} (hl : LgOk lg) {ρ : Pl} (hv : ∀ i v, Orig.V i = some v → ρ.val i = some v) (v : SV) (nx : Nat) : nx ≤ (nameW lg v nx).2 ∧ ∀ u, den ρ v = some u → den ρ (nameW lg v nx).1 = some u := by
  unfold nameW
  split
  · rename_i l
    obtain ⟨a1, a2, a3⟩ := nameL_ok hl hv l nx
    refine ⟨a1, fun u hu => ?_⟩
    obtain ⟨us, h1, h2, rfl⟩ := den_agg hu
    exact den_agg_mk (a3 us h1) (a2 h2)
  · obtain ⟨a1, -, a3⟩ := nameV_ok hl hv v nx
    exact ⟨a1, a3⟩
theorem nameO_ok {P : Program} {lg : Lg} (hl : LgOk lg) {ρ : Pl} (hv : ∀ i v, Orig.V i = some v → ρ.val i = some v) (o : Option SObj) (nx : Nat) : nx ≤ (nameO lg o nx).2 ∧ ∀ o', (nameO lg o nx).1 = some o' → ∃ o0, o = some o0 ∧ ∀ x ob, ObjRel P ρ x o0 ob → ObjRel P ρ x o' ob := by
  unfold nameO
  split
  · rename_i cs e b
    obtain ⟨a1, a2, a3⟩ := nameL_ok hl hv cs nx
    refine ⟨a1, fun o' h => ?_⟩
    have h' : some (SObj.cells (nameL lg cs nx).1 e b) = some o' := h
    cases h'
    refine ⟨_, rfl, fun x ob k => ?_⟩
    cases ob <;> try exact k.elim
    obtain ⟨k1, ⟨us, k2, k3⟩, k4, k5⟩ := k
    exact ⟨k1, ⟨us, a3 us k2, k3⟩, k4, a2 k5⟩
  · exact ⟨Nat.le_refl _, fun o' h => ⟨o', h, fun _ _ k => k⟩⟩
theorem Emb.remap {P : Program} {ρ : Pl} {m m' : T SObj} {nx nx' : Nat} {w0 : Base} {w : World} (h : Emb P ρ m nx w0 w) (hm : ∀ b o', m'.get b = some o' → ∃ o, m.get b = some o ∧ ∀ x ob, ObjRel P ρ x o ob → ObjRel P ρ x o' ob) (hn : nx ≤ nx') : Emb P ρ m' nx' w0 w := by
  have hs : ∀ b, (m'.get b).isSome = true → (m.get b).isSome = true := by
    intro b hb
    obtain ⟨o, ho⟩ := Option.isSome_iff_exists.1 hb
    obtain ⟨o0, h1, -⟩ := hm b o ho
    rw [h1]; rfl
  refine ⟨h.touch, fun b o hb => ?_, fun b b' x x' hb hb' => h.inj b b' x x' (hs b hb) (hs b' hb'), fun b hb => ⟨(h.fresh b (by omega)).1, ?_⟩, h.old, fun b hb => ⟨by have := (h.hole b hb).1; omega, (h.hole b hb).2⟩, h.x.bump hn⟩
  · obtain ⟨o0, h1, h2⟩ := hm b o hb
    obtain ⟨x, ob, a1, a2, a3, a4⟩ := h.obj b o0 h1
    exact ⟨x, ob, a1, a2, a3, h2 x ob a4⟩
  · cases hg : m'.get b with
    | none => rfl
    | some o =>
      obtain ⟨o0, h1, -⟩ := hm b o hg
      have := (h.fresh b (by omega)).2
      rw [h1] at this; cases this
theorem nameK_ok {P : Program} {lg : Lg} (hl : LgOk lg) {ρ : Pl} {N : Nat} {a : Act} {w0 : Base} {w : World} {s : St} (hF : FRel ρ N s.F a) (hm : Emb P ρ s.m s.nx w0 w) : ∀ K, FRel ρ N (nameK lg K s).F a ∧ Emb P ρ (nameK lg K s).m (nameK lg K s).nx w0 w
  | 0 => ⟨hF, hm⟩
  | K + 1 => by
    obtain ⟨h1, h2⟩ := nameK_ok hl hF hm K
    show FRel ρ N (stFr lg K (nameK lg K s)).F a ∧ Emb P ρ (stFr lg K (nameK lg K s)).m (stFr lg K (nameK lg K s)).nx w0 w
    generalize nameK lg K s = q at h1 h2
    unfold stFr
    cases hg : q.F.get K with
    | none => exact ⟨h1, h2⟩
    | some v =>
      simp only
      have key : ∀ b : Nat, FRel ρ N q.F a ∧ Emb P ρ (q.m.put (nameO lg (q.m.get b) q.nx).1 b) (nameO lg (q.m.get b) q.nx).2 w0 w := by
        intro b
        obtain ⟨a1, a2⟩ := nameO_ok (P := P) hl h2.x.vals (q.m.get b) q.nx
        refine ⟨h1, h2.remap (fun c o' hc => ?_) a1⟩
        rw [T.get_put] at hc
        by_cases e : c = b
        · rw [if_pos e] at hc
          subst e
          exact a2 o' hc
        · rw [if_neg e] at hc
          exact ⟨o', hc, fun _ _ k => k⟩
      split
      · exact key _
      · exact key _
      · exact key _
      · obtain ⟨a1, a3⟩ := nameW_ok hl h2.x.vals v q.nx
        refine ⟨⟨h1.size, fun i x hi => ?_⟩, h2.bump a1⟩
        rw [T.get_put] at hi
        by_cases hk : i = K
        · subst hk
          rw [if_pos rfl] at hi
          cases hi
          obtain ⟨u, k1, k2⟩ := h1.at_ i v hg
          exact ⟨u, k1, a3 u k2⟩
        · rw [if_neg hk] at hi
          exact h1.at_ i x hi
theorem hdE_ok {P : Program} {lg : Lg} (hl : LgOk lg) (N K : Nat) : NmOk P (hdE lg N K) := by
  intro N' s ρ r a w0 w h
  unfold hdE
  cases Nat.beq N N' with
  | false => exact h
  | true =>
  show RelC P ρ N' (Option.rec (motive := fun _ => SC) s (fun _ => nameS lg K s) (lg s.s.nx)) r a w0 w
  cases lg s.s.nx with
  | none => exact h
  | some _ =>
    obtain ⟨a1, a2⟩ := nameK_ok hl h.F h.m K
    exact ⟨a1, a2, h.d, h.ro⟩
end Go.Proofs.YtodehmognjofhaaGreat

namespace Go.Proofs.YtodehmognjofhaaGreat
open Go.RowKit

def arOk (o : BinOp) : Bool := match o with
  | .add | .sub | .mul | .and | .or | .xor => true
  | _ => false
noncomputable def arW (o : BinOp) (k : IntKind) (a b : SV) : Option SV := match a with
  | .int k1 x => match b with
    | .int k2 y => oi (kq k1 k) (oi (kq k2 k) (oi (arOk o) (intE o k x y)))
    | _ => none
  | _ => none
noncomputable def shW (o : BinOp) (k : IntKind) (a : SV) (n : Nat) : Option SV := match a with
  | .int k1 x => oi (kq k1 k) (shE o k x (.ofNat n))
  | _ => none
noncomputable def cvW (k : IntKind) (a : SV) : Option SV := match a with
  | .int _ x => some (.int k (wr k x))
  | _ => none
noncomputable def tbW (l : List Nat) (a : SV) : Option SV := match a with
  | .int _ (.ofNat i) => ob (nth i l) fun c => some (.int .u8 (.ofNat (Nat.mod c 256)))
  | _ => none
def skE (k : SK) (v : SV) : Bool := match k, v with
  | .int k, .int k' n => and (kq k' k) (ieq (wr k n) n)
  | _, _ => false
/-- a term's number. -/
noncomputable def ev1 (θ : Nat → Option SV) (v : SV) : Option SV := SV.rec (motive_1 := fun _ => Option SV) (motive_2 := fun _ => Unit)
  (fun _ => none) (fun k n => some (.int k n)) (fun _ _ => none) (fun _ => none) (fun _ _ => none) none (fun _ _ _ _ => none) (fun _ _ _ _ => none) none (fun _ => none) none (fun _ _ _ _ _ => none) (fun _ => none) none (fun _ _ _ => none) none (fun _ _ => none) (fun _ _ => none)
  (fun k i => ob (θ i) fun v => oi (skE k v) (some v)) (fun o k _ _ ix iy => ob ix fun a => ob iy fun b => arW o k a b) (fun _ => none) (fun o k _ n ix => ob ix fun a => shW o k a n) (fun k _ ix => ob ix fun a => cvW k a) (fun l _ ix => ob ix fun a => tbW l a) (fun _ _ _ _ _ => none) (fun _ _ => none) (fun _ _ => none) (fun _ _ _ _ _ => none) () (fun _ _ _ _ => ()) v
theorem ev1_mono {θ θ' : Nat → Option SV} (h : ∀ i v, θ i = some v → θ' i = some v) : ∀ (e : SV) {v : SV}, ev1 θ e = some v → ev1 θ' e = some v
  | .bool _, v, e => by cases e
  | .int _ _, v, e => e
  | .flt _ _, v, e => by cases e
  | .str _, v, e => by cases e
  | .ptr _ _, v, e => by cases e
  | .nptr, v, e => by cases e
  | .slc _ _ _ _, v, e => by cases e
  | .slu _ _ _ _, v, e => by cases e
  | .nslc, v, e => by cases e
  | .map _, v, e => by cases e
  | .nmap, v, e => by cases e
  | .fn _ _ _, v, e => by cases e
  | .yld _, v, e => by cases e
  | .nfn, v, e => by cases e
  | .ifc _ _, v, e => by cases e
  | .nifc, v, e => by cases e
  | .agg _, v, e => by cases e
  | .tup _, v, e => by cases e
  | .sym k i, v, e => by
    have e' : (ob (θ i) fun v => oi (skE k v) (some v)) = some v := e
    obtain ⟨x, h1, h2⟩ := ob_eq.1 e'
    show (ob (θ' i) fun v => oi (skE k v) (some v)) = some v
    rw [h i x h1]; exact h2
  | .ar o k x y, v, e => by
    have e' : (ob (ev1 θ x) fun a => ob (ev1 θ y) fun b => arW o k a b) = some v := e
    obtain ⟨a, h1, h2⟩ := ob_eq.1 e'
    obtain ⟨b, h3, h4⟩ := ob_eq.1 h2
    show (ob (ev1 θ' x) fun a => ob (ev1 θ' y) fun b => arW o k a b) = some v
    rw [ev1_mono h x h1, ob_some, ev1_mono h y h3]; exact h4
  | .lenS _, v, e => by cases e
  | .emp .., v, e => by cases e
  | .sh o k x n, v, e => by
    have e' : (ob (ev1 θ x) fun a => shW o k a n) = some v := e
    obtain ⟨a, h1, h2⟩ := ob_eq.1 e'
    show (ob (ev1 θ' x) fun a => shW o k a n) = some v
    rw [ev1_mono h x h1]; exact h2
  | .cv k x, v, e => by
    have e' : (ob (ev1 θ x) fun a => cvW k a) = some v := e
    obtain ⟨a, h1, h2⟩ := ob_eq.1 e'
    show (ob (ev1 θ' x) fun a => cvW k a) = some v
    rw [ev1_mono h x h1]; exact h2
  | .tab l x, v, e => by
    have e' : (ob (ev1 θ x) fun a => tbW l a) = some v := e
    obtain ⟨a, h1, h2⟩ := ob_eq.1 e'
    show (ob (ev1 θ' x) fun a => tbW l a) = some v
    rw [ev1_mono h x h1]; exact h2
  | .pix _ _ _ _, v, e => by cases e
  | .strs _, v, e => by cases e
  | .chk _ _, v, e => by cases e
theorem skE_ok {k : SK} {v : SV} (h : skE k v = true) : ∃ l n, v = .int l n ∧ k.is (.int l n) = true := by
  unfold skE at h
  split at h
  · rename_i k k' n
    simp only [Bool.and_eq_true] at h
    obtain rfl := kq_ok h.1
    have h2 := h.2
    rw [ieq_ok, beq_iff_eq, wr_ok] at h2
    exact ⟨_, _, rfl, by simp [SK.is, h2]⟩
  · cases h
theorem arW_ok {P : Program} {o : BinOp} {k : IntKind} {a b v : SV} (h : arW o k a b = some v) (w : World) : ∃ x y z, a = .int k x ∧ b = .int k y ∧ arV o k x y = some (.int k z) ∧ v = .int k z := by
  unfold arW at h
  split at h
  · split at h
    · rename_i k1 x _ k2 y
      obtain ⟨h1, h2⟩ := oi_eq.1 h
      obtain ⟨h3, h4⟩ := oi_eq.1 h2
      obtain ⟨h5, h6⟩ := oi_eq.1 h4
      have q1 := kq_ok h1
      have q2 := kq_ok h3
      subst q1 q2
      obtain ⟨u, r1, r2⟩ := intE_ok (P := P) h6 ⟨fun _ => none, fun _ => none⟩ 0 w
      have key : ∀ q, arV o k2 x y = some (.int k2 q) → ∃ x' y' z, SV.int k2 x = .int k2 x' ∧ SV.int k2 y = .int k2 y' ∧ arV o k2 x' y' = some (.int k2 z) ∧ v = .int k2 z := by
        intro q hq
        have r3 := arV_ok (P := P) hq 0 w
        rw [r1] at r3
        cases r3
        refine ⟨x, y, q, rfl, rfl, hq, ?_⟩
        cases o <;> first | cases h5 | skip
        all_goals (simp only [intE, bitE, Option.map_some] at h6; cases h6; rw [den_int] at r2; cases r2; rfl)
      cases o <;> first | exact key _ rfl | cases h5
    · cases h
  · cases h
/-- numbers stand behind names. -/
def NumsAt (ρ : Pl) (θ : Nat → Option SV) : Prop := ∀ i k n, θ i = some (.int k n) → ρ.val i = some (.int k n)
theorem ev1_ok {P : Program} {ρ : Pl} {θ : Nat → Option SV} (h : NumsAt ρ θ) (w : World) : ∀ (e : SV) {v : SV}, ev1 θ e = some v → ∃ k n, v = .int k n ∧ den ρ e = some (.int k n)
  | .bool _, v, e => by cases e
  | .int k n, v, e => by cases e; exact ⟨k, n, rfl, den_int _ _ _⟩
  | .flt _ _, v, e => by cases e
  | .str _, v, e => by cases e
  | .ptr _ _, v, e => by cases e
  | .nptr, v, e => by cases e
  | .slc _ _ _ _, v, e => by cases e
  | .slu _ _ _ _, v, e => by cases e
  | .nslc, v, e => by cases e
  | .map _, v, e => by cases e
  | .nmap, v, e => by cases e
  | .fn _ _ _, v, e => by cases e
  | .yld _, v, e => by cases e
  | .nfn, v, e => by cases e
  | .ifc _ _, v, e => by cases e
  | .nifc, v, e => by cases e
  | .agg _, v, e => by cases e
  | .tup _, v, e => by cases e
  | .sym k i, v, e => by
    have e' : (ob (θ i) fun v => oi (skE k v) (some v)) = some v := e
    obtain ⟨x, h1, h2⟩ := ob_eq.1 e'
    obtain ⟨h3, h4⟩ := oi_eq.1 h2
    cases h4
    obtain ⟨l, n, rfl, h5⟩ := skE_ok h3
    refine ⟨l, n, rfl, ?_⟩
    unfold den
    rw [h i l n h1, symD_mk h5]
  | .ar o k x y, v, e => by
    have e' : (ob (ev1 θ x) fun a => ob (ev1 θ y) fun b => arW o k a b) = some v := e
    obtain ⟨a, h1, h2⟩ := ob_eq.1 e'
    obtain ⟨b, h3, h4⟩ := ob_eq.1 h2
    obtain ⟨p, q, z, rfl, rfl, h5, rfl⟩ := arW_ok (P := P) h4 w
    obtain ⟨k1, n1, g1, g2⟩ := ev1_ok (P := P) h w x h1
    obtain ⟨k2, n2, g3, g4⟩ := ev1_ok (P := P) h w y h3
    cases g1
    cases g3
    refine ⟨k, z, rfl, ?_⟩
    unfold den
    rw [g2, g4, ar2_mk]; exact h5
  | .lenS _, v, e => by cases e
  | .emp .., v, e => by cases e
  | .sh o k x n, v, e => by
    have e' : (ob (ev1 θ x) fun a => shW o k a n) = some v := e
    obtain ⟨a, h1, h2⟩ := ob_eq.1 e'
    obtain ⟨k1, n1, rfl, g2⟩ := ev1_ok (P := P) h w x h1
    obtain ⟨h3, h4⟩ := oi_eq.1 (show oi (kq k1 k) (shE o k n1 (.ofNat n)) = some v from h2)
    obtain rfl := kq_ok h3
    cases o <;> simp only [shE] at h4 <;> cases h4
    · exact ⟨_, _, rfl, by unfold den; rw [g2, shD_mk, wr_ok]; rfl⟩
    · exact ⟨_, _, rfl, by unfold den; rw [g2, shD_mk]; rfl⟩
  | .cv k x, v, e => by
    have e' : (ob (ev1 θ x) fun a => cvW k a) = some v := e
    obtain ⟨a, h1, h2⟩ := ob_eq.1 e'
    obtain ⟨k1, n1, rfl, g2⟩ := ev1_ok (P := P) h w x h1
    cases h2
    exact ⟨_, _, rfl, by unfold den; rw [g2, wr_ok]; rfl⟩
  | .tab l x, v, e => by
    have e' : (ob (ev1 θ x) fun a => tbW l a) = some v := e
    obtain ⟨a, h1, h2⟩ := ob_eq.1 e'
    obtain ⟨k1, n1, rfl, g2⟩ := ev1_ok (P := P) h w x h1
    cases n1 with
    | negSucc m => cases h2
    | ofNat i =>
      obtain ⟨c, h3, h4⟩ := ob_eq.1 (show (ob (nth i l) fun c => some (SV.int .u8 (.ofNat (Nat.mod c 256)))) = some v from h2)
      cases h4
      rw [nth_ok] at h3
      obtain ⟨h5, h6⟩ := List.getElem?_eq_some_iff.1 h3
      refine ⟨_, _, rfl, ?_⟩
      unfold den
      rw [g2, tabD_mk (by rw [Int.ofNat_eq_natCast]; omega) (by simpa using h5)]
      have e1 : (Int.ofNat i).toNat = i := rfl
      rw [e1, List.getD_eq_getElem?_getD, h3]
      rfl
  | .pix _ _ _ _, v, e => by cases e
  | .strs _, v, e => by cases e
  | .chk _ _, v, e => by cases e

/-! the names' numbers, one after the other -/
abbrev Log := List (Nat × IntKind × SV)
noncomputable def look (nx0 : Nat) (inp θ : T SV) (i : Nat) : Option SV := Bool.rec (motive := fun _ => Option SV) (oi (Nat.blt i nx0) (inp.get i)) (θ.get (Nat.sub i big)) (Nat.ble big i)
noncomputable def evalL (nx0 : Nat) (inp : T SV) (L : Log) : T SV → Option (T SV) := List.rec (motive := fun _ => T SV → Option (T SV)) (fun θ => some θ) (fun x _ ih θ => ob (ev1 (look nx0 inp θ) x.2.2) fun v => oi (skE (.int x.2.1) v) (Option.rec (motive := fun _ => Option (T SV)) (ih (θ.put (some v) x.1)) (fun _ => none) (θ.get x.1))) L
noncomputable def ofA (L : Log) : T (IntKind × SV) := List.rec (motive := fun _ => T (IntKind × SV)) .leaf (fun x _ ih => ih.put (some x.2) x.1) L
theorem ofA_mem : ∀ {L : Log} {n : Nat} {q : IntKind × SV}, (ofA L).get n = some q → (n, q) ∈ L
  | [], n, q, h => by rw [show ofA [] = .leaf from rfl, T.get_leaf] at h; cases h
  | x :: L, n, q, h => by
    rw [show ofA (x :: L) = (ofA L).put (some x.2) x.1 from rfl, T.get_put] at h
    by_cases e : n = x.1
    · rw [if_pos e] at h; cases h; subst e; simp
    · rw [if_neg e] at h; exact List.mem_cons_of_mem _ (ofA_mem h)
theorem look_mono {nx0 : Nat} {inp θ θ' : T SV} (h : ∀ n v, θ.get n = some v → θ'.get n = some v) (i : Nat) (v : SV) (e : look nx0 inp θ i = some v) : look nx0 inp θ' i = some v := by
  unfold look at e ⊢
  cases hb : Nat.ble big i with
  | true => rw [hb] at e; exact h _ _ e
  | false => rw [hb] at e; exact e
theorem evalL_ok {nx0 : Nat} {inp : T SV} : ∀ {L : Log} {θ θ' : T SV}, evalL nx0 inp L θ = some θ' → (∀ n v, θ.get n = some v → θ'.get n = some v) ∧ ∀ n k e, (n, k, e) ∈ L → ∃ v, θ'.get n = some v ∧ ev1 (look nx0 inp θ') e = some v ∧ skE (.int k) v = true
  | [], θ, θ', h => by cases h; exact ⟨fun _ _ h => h, by simp⟩
  | x :: L, θ, θ', h => by
    have h' : (ob (ev1 (look nx0 inp θ) x.2.2) fun v => oi (skE (.int x.2.1) v) (Option.rec (motive := fun _ => Option (T SV)) (evalL nx0 inp L (θ.put (some v) x.1)) (fun _ => none) (θ.get x.1))) = some θ' := h
    obtain ⟨v, h1, h2⟩ := ob_eq.1 h'
    obtain ⟨h3, h4⟩ := oi_eq.1 h2
    cases hg : θ.get x.1 with
    | some q => rw [hg] at h4; cases h4
    | none =>
      rw [hg] at h4
      obtain ⟨a1, a2⟩ := evalL_ok (show evalL nx0 inp L (θ.put (some v) x.1) = some θ' from h4)
      have a0 : ∀ n v', θ.get n = some v' → θ'.get n = some v' := fun n v' hn => a1 n v' (by rw [T.get_put_ne _ _ (fun e => by subst e; rw [hg] at hn; cases hn)]; exact hn)
      refine ⟨a0, fun n k e hm => ?_⟩
      rcases List.mem_cons.1 hm with he | hm
      · subst he
        exact ⟨v, a1 _ _ (T.get_put_same _ _ _), ev1_mono (look_mono a0) _ h1, h3⟩
      · exact a2 n k e hm
/-- what stands for the names. -/
noncomputable def valOf (nx0 : Nat) (inp θ : T SV) (i : Nat) : Option Value := match look nx0 inp θ i with
  | some (.int k n) => some (.int k n)
  | _ => none
theorem valOf_nums {nx0 : Nat} {inp θ : T SV} {ρ : Pl} (h : ∀ i v, valOf nx0 inp θ i = some v → ρ.val i = some v) : NumsAt ρ (look nx0 inp θ) := fun i k n hi => h i _ (by unfold valOf; rw [hi])
theorem lg_ok {P : Program} {w : World} {nx0 : Nat} {inp θ : T SV} {L : Log} (h : evalL nx0 inp L .leaf = some θ) (W : World) : @LgOk ⟨W, valOf nx0 inp θ⟩ (ofA L).get := by
  intro n k e hn
  obtain ⟨v, h1, h2, h3⟩ := (evalL_ok h).2 n k e (ofA_mem hn)
  obtain ⟨k', z, rfl, h4⟩ := ev1_ok (P := P) (ρ := ⟨fun _ => none, valOf nx0 inp θ⟩) (valOf_nums fun i v hv => hv) w e h2
  obtain ⟨l, y, h5, h6⟩ := skE_ok h3
  cases h5
  refine ⟨_, h4, ?_, h6⟩
  show valOf nx0 inp θ (big + n) = _
  unfold valOf look
  rw [nble_iff.2 (Nat.le_add_right big n)]
  have : Nat.sub (big + n) big = n := Nat.add_sub_cancel_left _ _
  simp only [this, h1]
end Go.Proofs.YtodehmognjofhaaGreat

namespace Go.Proofs.YtodehmognjofhaaGreat
open Go.RowKit

/-- a value of the run, for the numbers and blocks at hand. -/
noncomputable def insC (θ : Nat → Option SV) (σ : Nat → Option Nat) (v : SV) : Option SV := match v with
  | .ptr b o => ob (σ b) fun c => some (.ptr c o)
  | .nptr => some .nptr
  | .bool b => some (.bool b)
  | .nslc => some .nslc
  | .nmap => some .nmap
  | .nfn => some .nfn
  | .nifc => some .nifc
  | v => ev1 θ v
noncomputable def insL (θ : Nat → Option SV) (σ : Nat → Option Nat) (l : List SV) : Option (List SV) := List.rec (motive := fun _ => Option (List SV)) (some []) (fun v _ ih => ob (insC θ σ v) fun x => ob ih fun y => some (x :: y)) l
noncomputable def insV (θ : Nat → Option SV) (σ : Nat → Option Nat) (v : SV) : Option SV := match v with
  | .agg l => ob (insL θ σ l) fun l' => some (.agg l')
  | .tup l => ob (insL θ σ l) fun l' => some (.tup l')
  | v => insC θ σ v
noncomputable def insA (θ : Nat → Option SV) (σ : Nat → Option Nat) (l : List SV) : Option (List SV) := List.rec (motive := fun _ => Option (List SV)) (some []) (fun v _ ih => ob (insV θ σ v) fun x => ob ih fun y => some (x :: y)) l
/-- two placements that agree. -/
structure Both (ρa ρ : Pl) (θ : Nat → Option SV) (σ : Nat → Option Nat) : Prop where
  nums : NumsAt ρa θ
  blk : ∀ b c, σ b = some c → ∃ x, ρa b = some x ∧ ρ c = some x
theorem insC_both {P : Program} {ρa ρ : Pl} {θ : Nat → Option SV} {σ : Nat → Option Nat} (h : Both ρa ρ θ σ) (w : World) {v r : SV} (e : insC θ σ v = some r) : ∃ u, den ρa v = some u ∧ den ρ r = some u ∧ v.one = true ∧ r.one = true := by
  unfold insC at e
  split at e
  · obtain ⟨c, h1, h2⟩ := ob_eq.1 e
    cases h2
    obtain ⟨x, h3, h4⟩ := h.blk _ _ h1
    exact ⟨_, den_ptr_mk h3 _, den_ptr_mk h4 _, rfl, rfl⟩
  · cases e; exact ⟨_, den_nptr _, den_nptr _, rfl, rfl⟩
  · cases e; exact ⟨_, den_bool _ _, den_bool _ _, rfl, rfl⟩
  · cases e; exact ⟨_, den_nslc _, den_nslc _, rfl, rfl⟩
  · cases e; exact ⟨_, den_nmap _, den_nmap _, rfl, rfl⟩
  · cases e; exact ⟨_, den_nfn _, den_nfn _, rfl, rfl⟩
  · cases e; exact ⟨_, den_nifc _, den_nifc _, rfl, rfl⟩
  · obtain ⟨k, n, rfl, h1⟩ := ev1_ok (P := P) h.nums w v e
    refine ⟨_, h1, den_int _ _ _, ?_, rfl⟩
    cases v <;> first | rfl | cases e
theorem insL_both {P : Program} {ρa ρ : Pl} {θ : Nat → Option SV} {σ : Nat → Option Nat} (h : Both ρa ρ θ σ) (w : World) : ∀ {l r : List SV}, insL θ σ l = some r → ∃ us, denL ρa l = some us ∧ denL ρ r = some us ∧ l.all SV.one = true ∧ r.all SV.one = true
  | [], r, e => by cases e; exact ⟨[], denL_nil _, denL_nil _, rfl, rfl⟩
  | v :: l, r, e => by
    have e' : (ob (insC θ σ v) fun x => ob (insL θ σ l) fun y => some (x :: y)) = some r := e
    obtain ⟨x, h1, h2⟩ := ob_eq.1 e'
    obtain ⟨y, h3, h4⟩ := ob_eq.1 h2
    cases h4
    obtain ⟨u, a1, a2, a3, a4⟩ := insC_both (P := P) h w h1
    obtain ⟨us, b1, b2, b3, b4⟩ := insL_both (P := P) h w h3
    exact ⟨u :: us, denL_cons.2 ⟨_, _, a1, b1, rfl⟩, denL_cons.2 ⟨_, _, a2, b2, rfl⟩, by rw [List.all_cons, a3, b3]; rfl, by rw [List.all_cons, a4, b4]; rfl⟩
theorem insV_both {P : Program} {ρa ρ : Pl} {θ : Nat → Option SV} {σ : Nat → Option Nat} (h : Both ρa ρ θ σ) (w : World) {v r : SV} (e : insV θ σ v = some r) : ∃ u, den ρa v = some u ∧ den ρ r = some u := by
  unfold insV at e
  split at e
  · obtain ⟨l', h1, h2⟩ := ob_eq.1 e
    cases h2
    obtain ⟨us, a1, a2, a3, a4⟩ := insL_both (P := P) h w h1
    exact ⟨_, den_agg_mk (by rw [denC_of_L a3]; exact a1) (onc_of_one a3), den_agg_mk (by rw [denC_of_L a4]; exact a2) (onc_of_one a4)⟩
  · obtain ⟨l', h1, h2⟩ := ob_eq.1 e
    cases h2
    obtain ⟨us, a1, a2, a3, a4⟩ := insL_both (P := P) h w h1
    exact ⟨_, den_tup_mk a1, den_tup_mk a2⟩
  · obtain ⟨u, a1, a2, -, -⟩ := insC_both (P := P) h w e
    exact ⟨u, a1, a2⟩
theorem insA_both {P : Program} {ρa ρ : Pl} {θ : Nat → Option SV} {σ : Nat → Option Nat} (h : Both ρa ρ θ σ) (w : World) : ∀ {l r : List SV}, insA θ σ l = some r → ∃ us, denL ρa l = some us ∧ denL ρ r = some us
  | [], r, e => by cases e; exact ⟨[], denL_nil _, denL_nil _⟩
  | v :: l, r, e => by
    have e' : (ob (insV θ σ v) fun x => ob (insA θ σ l) fun y => some (x :: y)) = some r := e
    obtain ⟨x, h1, h2⟩ := ob_eq.1 e'
    obtain ⟨y, h3, h4⟩ := ob_eq.1 h2
    cases h4
    obtain ⟨u, a1, a2⟩ := insV_both (P := P) h w h1
    obtain ⟨us, b1, b2⟩ := insA_both (P := P) h w h3
    exact ⟨u :: us, denL_cons.2 ⟨_, _, a1, b1, rfl⟩, denL_cons.2 ⟨_, _, a2, b2, rfl⟩⟩

/-- a block of the run: its cells ahead, its cells behind, its type. -/
structure Blk where
  pre : List SV
  e : TypeId
  post : List SV
structure Smy where
  f : FuncId
  args : List SV
  blks : List Blk
  nx0 : Nat
  log : Log
  v : SV
noncomputable def memOf (l : List Blk) : Nat → T SObj → T SObj := List.rec (motive := fun _ => Nat → T SObj → T SObj) (fun _ t => t) (fun x _ ih i t => ih (Nat.succ i) (t.put (some (.cells x.pre x.e false)) i)) l
theorem memOf_get : ∀ (l : List Blk) (i : Nat) (t : T SObj) (k : Nat), (memOf l i t).get k = if i ≤ k ∧ k < i + l.length then (l[k - i]?).map (fun x => SObj.cells x.pre x.e false) else t.get k
  | [], i, t, k => by rw [if_neg (by simp)]; rfl
  | x :: l, i, t, k => by
    rw [show memOf (x :: l) i t = memOf l (i + 1) (t.put (some (.cells x.pre x.e false)) i) from rfl, memOf_get l (i + 1), List.length_cons]
    by_cases h : i = k
    · subst h
      rw [if_neg (by omega), T.get_put_same, if_pos (by omega), Nat.sub_self]; rfl
    · by_cases h2 : i + 1 ≤ k ∧ k < i + 1 + l.length
      · rw [if_pos h2, if_pos (by omega), show k - i = (k - (i + 1)) + 1 by omega, List.getElem?_cons_succ]
      · rw [if_neg h2, T.get_put_ne _ _ (by omega), if_neg (by omega)]
/-- do the blocks behind the run bear what is said? -/
noncomputable def endB (m : T SObj) (l : List Blk) : Nat → Bool := List.rec (motive := fun _ => Nat → Bool) (fun _ => true) (fun x _ ih i => and (match m.get i with
  | some (.cells cs e false) => and (Nat.beq e x.e) (and (svEqL cs x.post) (x.post.all SV.one))
  | _ => false) (ih (Nat.succ i))) l
theorem endB_ok {m : T SObj} : ∀ {l : List Blk} {i : Nat}, endB m l i = true → ∀ j x, l[j]? = some x → m.get (i + j) = some (.cells x.post x.e false) ∧ x.post.all SV.one = true
  | [], i, h, j, x, hx => by simp at hx
  | y :: l, i, h, j, x, hx => by
    have h' : and (match m.get i with
      | some (.cells cs e false) => and (Nat.beq e y.e) (and (svEqL cs y.post) (y.post.all SV.one))
      | _ => false) (endB m l (i + 1)) = true := h
    simp only [Bool.and_eq_true] at h'
    obtain ⟨h1, h2⟩ := h'
    cases j with
    | zero =>
      simp at hx
      subst hx
      split at h1
      · rename_i cs e hm
        simp only [Bool.and_eq_true, nbeq_iff] at h1
        rw [Nat.add_zero, hm, h1.1, svEqL_ok h1.2.1]
        exact ⟨rfl, h1.2.2⟩
      · cases h1
    | succ j =>
      rw [List.getElem?_cons_succ] at hx
      have := endB_ok h2 j x hx
      rw [show i + (j + 1) = i + 1 + j by omega]; exact this
noncomputable def runOk (E : Env) (I : CalF) (n N K : Nat) (S : Smy) : Bool := match callN E I (hdE (ofA S.log).get N K) n S.f S.args (memOf S.blks 0 .leaf) S.nx0 with
  | some (v, m, _) => and (svEq v S.v) (endB m S.blks 0)
  | none => false
/-- the blocks at hand fit; and what they bear behind the run. -/
noncomputable def fitB (θ : Nat → Option SV) (σ : Nat → Option Nat) (m : T SObj) (l : List Blk) : Nat → Bool := List.rec (motive := fun _ => Nat → Bool) (fun _ => true) (fun x _ ih i => and (match σ i with
  | some c => match m.get c with
    | some (.cells cs e false) => and (Nat.beq e x.e) (Option.rec (motive := fun _ => Bool) false (fun cs' => svEqL cs' cs) (insL θ σ x.pre))
    | _ => false
  | none => false) (ih (Nat.succ i))) l
noncomputable def putB (θ : Nat → Option SV) (σ : Nat → Option Nat) (l : List Blk) : Nat → T SObj → Option (T SObj) := List.rec (motive := fun _ => Nat → T SObj → Option (T SObj)) (fun _ m => some m) (fun x _ ih i m => ob (σ i) fun c => ob (insL θ σ x.post) fun cs => ih (Nat.succ i) (m.put (some (.cells cs x.e false)) c)) l
theorem fitB_ok {θ : Nat → Option SV} {σ : Nat → Option Nat} {m : T SObj} : ∀ {l : List Blk} {i : Nat}, fitB θ σ m l i = true → ∀ j x, l[j]? = some x → ∃ c cs, σ (i + j) = some c ∧ m.get c = some (.cells cs x.e false) ∧ insL θ σ x.pre = some cs
  | [], i, h, j, x, hx => by simp at hx
  | y :: l, i, h, j, x, hx => by
    have h' : and (match σ i with
      | some c => match m.get c with
        | some (.cells cs e false) => and (Nat.beq e y.e) (Option.rec (motive := fun _ => Bool) false (fun cs' => svEqL cs' cs) (insL θ σ y.pre))
        | _ => false
      | none => false) (fitB θ σ m l (i + 1)) = true := h
    simp only [Bool.and_eq_true] at h'
    obtain ⟨h1, h2⟩ := h'
    cases j with
    | zero =>
      simp at hx
      subst hx
      split at h1
      · rename_i c hc
        split at h1
        · rename_i cs e hm
          simp only [Bool.and_eq_true, nbeq_iff] at h1
          obtain ⟨h3, h4⟩ := h1
          cases hi : insL θ σ y.pre with
          | none => rw [hi] at h4; cases h4
          | some cs' =>
            rw [hi] at h4
            obtain rfl := svEqL_ok (show svEqL cs' cs = true from h4)
            exact ⟨c, cs', by rw [Nat.add_zero]; exact hc, by rw [hm, h3], rfl⟩
        · cases h1
      · cases h1
    | succ j =>
      rw [List.getElem?_cons_succ] at hx
      obtain ⟨c, cs, k1, k2, k3⟩ := fitB_ok h2 j x hx
      exact ⟨c, cs, by rw [show i + (j + 1) = i + 1 + j by omega]; exact k1, k2, k3⟩
theorem putB_ok {θ : Nat → Option SV} {σ : Nat → Option Nat} : ∀ {l : List Blk} {i : Nat} {m m' : T SObj}, putB θ σ l i m = some m' → ∀ c o, m'.get c = some o → (∃ j x cs, l[j]? = some x ∧ σ (i + j) = some c ∧ insL θ σ x.post = some cs ∧ o = .cells cs x.e false) ∨ ((∀ j, j < l.length → σ (i + j) ≠ some c) ∧ m.get c = some o)
  | [], i, m, m', h, c, o, ho => by cases h; exact .inr ⟨by simp, ho⟩
  | x :: l, i, m, m', h, c, o, ho => by
    have h' : (ob (σ i) fun c => ob (insL θ σ x.post) fun cs => putB θ σ l (i + 1) (m.put (some (.cells cs x.e false)) c)) = some m' := h
    obtain ⟨d, h1, h2⟩ := ob_eq.1 h'
    obtain ⟨cs, h3, h4⟩ := ob_eq.1 h2
    rcases putB_ok h4 c o ho with ⟨j, y, cs', a1, a2, a3, a4⟩ | ⟨a1, a2⟩
    · exact .inl ⟨j + 1, y, cs', by rw [List.getElem?_cons_succ]; exact a1, by rw [show i + (j + 1) = i + 1 + j by omega]; exact a2, a3, a4⟩
    · rw [T.get_put] at a2
      by_cases e : c = d
      · rw [if_pos e] at a2
        cases a2
        subst e
        exact .inl ⟨0, x, cs, rfl, h1, h3, rfl⟩
      · rw [if_neg e] at a2
        refine .inr ⟨fun j hj => ?_, a2⟩
        cases j with
        | zero => rw [Nat.add_zero, h1]; exact fun he => e (Option.some.inj he).symm
        | succ j => rw [show i + (j + 1) = i + 1 + j by omega]; exact a1 j (by simpa using hj)
/-- no block twice. -/
noncomputable def nodupB (l : List Nat) : Bool := List.rec (motive := fun _ => Bool) true (fun x l ih => and (allL (fun y => not (Nat.beq x y)) l) ih) l
theorem nodupB_ok : ∀ {l : List Nat}, nodupB l = true → l.Nodup
  | [], _ => List.nodup_nil
  | x :: l, h => by
    have h' : and (allL (fun y => not (Nat.beq x y)) l) (nodupB l) = true := h
    simp only [Bool.and_eq_true] at h'
    refine List.nodup_cons.2 ⟨fun hx => ?_, nodupB_ok h'.2⟩
    have := allL_ok h'.1 x hx
    rw [nbeq_iff.2 rfl] at this
    cases this
/-- the contract. pick: which blocks, and which numbers. -/
noncomputable def sumI (S : Smy) (pick : List SV → T SObj → Option (List Nat × T SV)) (args : List SV) (m : T SObj) (nx : Nat) : Option Res :=
  ob (pick args m) fun q => ob (evalL S.nx0 q.2 S.log .leaf) fun θ => oi (and (nodupB q.1) (Nat.beq (len q.1) (len S.blks)))
    (oi (Option.rec (motive := fun _ => Bool) false (fun as' => svEqL as' args) (insA (look S.nx0 q.2 θ) (fun i => nth i q.1) S.args))
      (oi (fitB (look S.nx0 q.2 θ) (fun i => nth i q.1) m S.blks 0)
        (ob (insV (look S.nx0 q.2 θ) (fun i => nth i q.1) S.v) fun v => ob (putB (look S.nx0 q.2 θ) (fun i => nth i q.1) S.blks 0 m) fun m' => some (v, m', nx))))
end Go.Proofs.YtodehmognjofhaaGreat

namespace Go.Proofs.YtodehmognjofhaaGreat
open Go.RowKit

/-- the run's own start. -/
theorem memOf_blk {S : Smy} {b : Nat} {o : SObj} (h : (memOf S.blks 0 .leaf).get b = some o) : ∃ x, S.blks[b]? = some x ∧ o = .cells x.pre x.e false := by
  rw [memOf_get] at h
  by_cases hb : 0 ≤ b ∧ b < 0 + S.blks.length
  · rw [if_pos hb, Nat.sub_zero] at h
    obtain ⟨x, h1, rfl⟩ := Option.map_eq_some_iff.1 h
    exact ⟨x, h1, rfl⟩
  · rw [if_neg hb, T.get_leaf] at h; cases h
/-- the run, from a start of its own. -/
theorem sum_run {P : Program} {E : Env} (hE : EnvOk P E) {I : CalF} (hI : ∀ [Orig], FnOk P I) {n N K : Nat} {S : Smy} (hrun : runOk E I n N K S = true) (hk : S.blks.length ≤ S.nx0) {inp θ : T SV} (hθ : evalL S.nx0 inp S.log .leaf = some θ)
    (ρf : Nat → Option (Nat × Nat)) (w : World) (pr : Nat → Prop) (hpr : ∀ k, pr k → k < w.heap.size)
    (hobj : ∀ b x, S.blks[b]? = some x → ∃ y ob, ρf b = some y ∧ ¬ pr y.1 ∧ w.heap[y.1]? = some ob ∧ ObjRel P ⟨ρf, valOf S.nx0 inp θ⟩ y (.cells x.pre x.e false) ob)
    (hinj : ∀ b b' x x', ρf b = some x → ρf b' = some x' → x.1 = x'.1 → b = b') (hfr : ∀ b, S.nx0 ≤ b → ρf b = none) (hold : ∀ b x, ρf b = some x → x.1 < w.heap.size) {us : List Value} (hd : denL ⟨ρf, valOf S.nx0 inp θ⟩ S.args = some us) :
    Calls P S.f us.toArray w fun e w' => ∃ ρ' u, e = .returned u ∧ Le ⟨ρf, valOf S.nx0 inp θ⟩ ρ' ∧ den ρ' S.v = some u ∧ Kept ⟨w, pr, fun _ => False⟩ w' ∧ ∀ j x, S.blks[j]? = some x → ∃ y ob, ρ' j = some y ∧ w'.heap[y.1]? = some ob ∧ ObjRel P ρ' y (.cells x.post x.e false) ob := by
  letI : Orig := ⟨{ w with heap := #[] }, valOf S.nx0 inp θ⟩
  have hm0 : Emb P ⟨ρf, valOf S.nx0 inp θ⟩ (memOf S.blks 0 .leaf) S.nx0 ⟨w, pr, fun _ => False⟩ w := by
    refine ⟨⟨rfl, rfl, rfl, Nat.le_refl _, fun k hk => ⟨hpr k hk, rfl⟩⟩, ?_, fun b b' x x' _ _ hx hx' he => hinj b b' x x' hx hx' he, fun b hb => ⟨hfr b hb, ?_⟩, hold, fun b hb => hb.elim, ?_, fun i v h => h, fun k hk => ?_⟩
    · intro b o ho
      obtain ⟨x, hx, rfl⟩ := memOf_blk ho
      exact hobj b x hx
    · rw [memOf_get, if_neg (by omega), T.get_leaf]
    · intro b hb hb2
      show valOf S.nx0 inp θ b = none
      unfold valOf look
      have h1 : Nat.ble big b = false := by
        cases h : Nat.ble big b with
        | false => rfl
        | true => rw [nble_iff] at h; omega
      have h2 : Nat.blt b S.nx0 = false := by
        cases h : Nat.blt b S.nx0 with
        | false => rfl
        | true => have := blt_true h; omega
      rw [h1, h2]; rfl
    · have h0 : k < 0 := hk
      omega
  unfold runOk at hrun
  cases hr : callN E I (hdE (ofA S.log).get N K) n S.f S.args (memOf S.blks 0 .leaf) S.nx0 with
  | none => rw [hr] at hrun; cases hrun
  | some q =>
  obtain ⟨v, ms, nxs⟩ := q
  rw [hr] at hrun
  simp only [Bool.and_eq_true] at hrun
  have hv := svEq_ok hrun.1
  subst hv
  have hend := endB_ok hrun.2
  refine (callN_ok hE hI (hdE_ok (lg_ok (P := P) (w := w) hθ _) N K) n S.f S.args _ S.nx0 _ hr _ us _ w hd hm0).mono ?_
  rintro e w' ⟨ρ', u, rfl, l1, l2, l3⟩
  refine ⟨ρ', u, rfl, l1, l2, l3.touch, fun j x hx => ?_⟩
  have h1 := (hend j x hx).1
  rw [Nat.zero_add] at h1
  obtain ⟨y, ob, g1, -, g3, g4⟩ := l3.obj j _ h1
  exact ⟨y, ob, g1, g3, g4⟩
variable [Orig]
theorem sumI_ok {P : Program} {E : Env} (hE : EnvOk P E) {I : CalF} (hI : ∀ [Orig], FnOk P I) {n N K : Nat} {S : Smy} (hrun : runOk E I n N K S = true) (hk : S.blks.length ≤ S.nx0) (pick : List SV → T SObj → Option (List Nat × T SV)) :
    ∀ args m nx r, sumI S pick args m nx = some r → ∀ (ρ : Pl) (us : List Value) (w0 : Base) (w : World), denL ρ args = some us → Emb P ρ m nx w0 w →
    Calls P S.f us.toArray w fun e w' => ∃ ρ' u, e = .returned u ∧ Le ρ ρ' ∧ den ρ' r.1 = some u ∧ Emb P ρ' r.2.1 r.2.2 w0 w' := by
  intro args m nx r e ρ us w0 w hd hm
  obtain ⟨⟨σl, inp⟩, -, e1⟩ := ob_eq.1 e
  obtain ⟨θ, hθ, e2⟩ := ob_eq.1 e1
  obtain ⟨e3, e4⟩ := oi_eq.1 e2
  obtain ⟨e5, e6⟩ := oi_eq.1 e4
  obtain ⟨e7, e8⟩ := oi_eq.1 e6
  obtain ⟨v', e9, e10⟩ := ob_eq.1 e8
  obtain ⟨m', e11, e12⟩ := ob_eq.1 e10
  cases e12
  simp only [Bool.and_eq_true, nbeq_iff, len_ok] at e3
  obtain ⟨hnd, hlen⟩ := e3
  have hnd := nodupB_ok hnd
  simp only at hθ e5 e7 e9 e11
  cases e5' : insA (look S.nx0 inp θ) (fun i => nth i σl) S.args with
  | none => rw [e5'] at e5; cases e5
  | some as' =>
  rw [e5'] at e5
  obtain rfl := svEqL_ok (show svEqL as' args = true from e5)
  -- the blocks at hand
  have fit := fitB_ok e7
  have sig : ∀ b c, nth b σl = some c → ∃ x cs y, S.blks[b]? = some x ∧ m.get c = some (.cells cs x.e false) ∧ insL (look S.nx0 inp θ) (fun i => nth i σl) x.pre = some cs ∧ ρ c = some y := by
    intro b c hb
    rw [nth_ok] at hb
    have hlt : b < σl.length := (List.getElem?_eq_some_iff.1 hb).1
    have hx : S.blks[b]? = some (S.blks[b]'(by omega)) := List.getElem?_eq_getElem (by omega)
    obtain ⟨c', cs, k1, k2, k3⟩ := fit b _ hx
    rw [Nat.zero_add, nth_ok, hb] at k1
    cases k1
    obtain ⟨y, ob, g1, -⟩ := hm.obj c _ k2
    exact ⟨_, cs, y, hx, k2, k3, g1⟩
  let ρ0 : Pl := ⟨fun b => (nth b σl).bind ρ.f, valOf S.nx0 inp θ⟩
  have r0 : ∀ b c, nth b σl = some c → ρ0 b = ρ c := fun b c hb => by
    show (nth b σl).bind ρ.f = ρ c
    rw [hb]; rfl
  have r0n : ∀ b x, ρ0 b = some x → ∃ c, nth b σl = some c ∧ ρ c = some x := by
    intro b x hb
    obtain ⟨c, h1, h2⟩ := Option.bind_eq_some_iff.1 (show (nth b σl).bind ρ.f = some x from hb)
    exact ⟨c, h1, h2⟩
  let pr : Nat → Prop := fun j => j < w.heap.size ∧ ∀ b c x, nth b σl = some c → ρ c = some x → x.1 ≠ j
  have both0 : Both ρ0 ρ (look S.nx0 inp θ) (fun i => nth i σl) := ⟨valOf_nums fun i v h => h, fun b c hb => by
    obtain ⟨x, cs, y, -, -, -, hy⟩ := sig b c hb
    exact ⟨y, (r0 b c hb).trans hy, hy⟩⟩
  have hobj : ∀ b x, S.blks[b]? = some x → ∃ y ob, ρ0 b = some y ∧ ¬ pr y.1 ∧ w.heap[y.1]? = some ob ∧ ObjRel P ρ0 y (.cells x.pre x.e false) ob := by
    intro b x hx
    obtain ⟨c, cs, k1, k2, k3⟩ := fit b x hx
    rw [Nat.zero_add] at k1
    obtain ⟨y, ob, g1, g2, g3, g4⟩ := hm.obj c _ k2
    refine ⟨y, ob, (r0 b c k1).trans g1, fun hp => hp.2 b c y k1 g1 rfl, g3, ?_⟩
    cases ob <;> try exact g4.elim
    obtain ⟨j1, ⟨us', j2, j3⟩, j4, j5⟩ := g4
    obtain ⟨us2, q1, q2, q3, q4⟩ := insL_both (P := P) both0 w k3
    rw [← denC_of_L q4, j2] at q2
    cases q2
    exact ⟨j1, ⟨us', by rw [denC_of_L q3]; exact q1, j3⟩, j4, onc_of_one q3⟩
  have hinj : ∀ b b' x x', ρ0 b = some x → ρ0 b' = some x' → x.1 = x'.1 → b = b' := by
    intro b b' x x' hx hx' he
    obtain ⟨c, h1, h2⟩ := r0n b x hx
    obtain ⟨c', h3, h4⟩ := r0n b' x' hx'
    obtain ⟨_, _, _, -, k1, -⟩ := sig b c h1
    obtain ⟨_, _, _, -, k2, -⟩ := sig b' c' h3
    have hc := hm.inj c c' x x' (by rw [k1]; rfl) (by rw [k2]; rfl) h2 h4 he
    subst hc
    rw [nth_ok] at h1 h3
    exact (List.getElem?_inj (List.getElem?_eq_some_iff.1 h1).1 hnd).1 (h1.trans h3.symm)
  have hfr : ∀ b, S.nx0 ≤ b → ρ0 b = none := by
    intro b hb
    show (nth b σl).bind ρ.f = none
    rw [nth_ok, List.getElem?_eq_none (by omega)]; rfl
  have hold : ∀ b x, ρ0 b = some x → x.1 < w.heap.size := by
    intro b x hb
    obtain ⟨c, h1, h2⟩ := r0n b x hb
    exact hm.old c x h2
  obtain ⟨us0, d1, d2⟩ := insA_both (P := P) both0 w e5'
  rw [hd] at d2
  cases d2
  refine (sum_run hE hI hrun hk hθ ρ0.f w pr (fun k hk => hk.1) hobj hinj hfr hold d1).mono ?_
  rintro e w' ⟨ρ', u, rfl, l1, l2, l3, l4⟩
  have both1 : Both ρ' ρ (look S.nx0 inp θ) (fun i => nth i σl) := ⟨valOf_nums fun i v h => l1.val i v h, fun b c hb => by
    obtain ⟨x, h1, h2⟩ := both0.blk b c hb
    exact ⟨x, l1 b x h1, h2⟩⟩
  have hput := putB_ok e11
  have hin : ∀ c o, m'.get c = some o → (m.get c).isSome = true := by
    intro c o ho
    rcases hput c o ho with ⟨j, x, cs, a1, a2, -, -⟩ | ⟨-, a2⟩
    · rw [Nat.zero_add] at a2
      obtain ⟨_, _, _, -, k1, -⟩ := sig j c a2
      rw [k1]; rfl
    · rw [a2]; rfl
  have hprot : ∀ j, j < w.heap.size → (∀ b c x, nth b σl = some c → ρ c = some x → x.1 ≠ j) → w'.heap[j]? = w.heap[j]? := fun j h1 h2 => (l3.block j ⟨h1, h2⟩).2
  refine ⟨ρ, u, rfl, Le.refl ρ, ?_, ⟨⟨l3.os.trans hm.touch.os, l3.tape.trans hm.touch.tape, l3.output.trans hm.touch.output, Nat.le_trans hm.touch.size l3.size, fun k hk => ?_⟩, ?_, ?_, ?_, fun b x hb => Nat.lt_of_lt_of_le (hm.old b x hb) l3.size, hm.hole, hm.x⟩⟩
  · obtain ⟨u', g1, g2⟩ := insV_both (P := P) both1 w e9
    rw [l2] at g1
    cases g1
    exact g2
  · obtain ⟨h1, h2⟩ := hm.touch.block k hk
    refine ⟨h1, (hprot k (Nat.lt_of_lt_of_le h1 hm.touch.size) fun b c x hb hx he => ?_).trans h2⟩
    obtain ⟨_, _, y, -, k1, -, hy⟩ := sig b c hb
    obtain ⟨y', ob, g1, g2, -⟩ := hm.obj c _ k1
    rw [hx] at g1
    cases g1
    exact g2 (he ▸ hk)
  · intro c o ho
    rcases hput c o ho with ⟨j, x, cs, a1, a2, a3, rfl⟩ | ⟨a1, a2⟩
    · rw [Nat.zero_add] at a2
      obtain ⟨y, ob, g1, g3, g4⟩ := l4 j x a1
      obtain ⟨x0, q1, q2⟩ := both1.blk j c a2
      rw [q1] at g1
      cases g1
      obtain ⟨_, _, _, -, k1, -⟩ := sig j c a2
      obtain ⟨y', ob', f1, f2, -⟩ := hm.obj c _ k1
      rw [q2] at f1
      cases f1
      refine ⟨y, ob, q2, f2, g3, ?_⟩
      cases ob <;> try exact g4.elim
      obtain ⟨j1, ⟨us', j2, j3⟩, j4, j5⟩ := g4
      obtain ⟨us2, p1, p2, p3, p4⟩ := insL_both (P := P) both1 w a3
      rw [← denC_of_L p3, j2] at p1
      cases p1
      exact ⟨j1, ⟨us', by rw [denC_of_L p4]; exact p2, j3⟩, j4, onc_of_one p4⟩
    · obtain ⟨y, ob, g1, g2, g3, g4⟩ := hm.obj c o a2
      refine ⟨y, ob, g1, g2, (hprot y.1 (hm.old c y g1) fun b d x hb hx he => ?_).trans g3, g4⟩
      obtain ⟨_, _, _, hbx, k1, -⟩ := sig b d hb
      have hdc := hm.inj d c x y (by rw [k1]; rfl) (by rw [a2]; rfl) hx g1 he
      subst hdc
      exact a1 b (List.getElem?_eq_some_iff.1 hbx).1 (by rw [Nat.zero_add]; exact hb)
  · intro b b' x x' hb hb'
    obtain ⟨o, ho⟩ := Option.isSome_iff_exists.1 hb
    obtain ⟨o', ho'⟩ := Option.isSome_iff_exists.1 hb'
    exact hm.inj b b' x x' (hin b o ho) (hin b' o' ho')
  · intro b hb
    refine ⟨(hm.fresh b hb).1, ?_⟩
    cases hg : m'.get b with
    | none => rfl
    | some o =>
      have h1 := hin b o hg
      rw [(hm.fresh b hb).2] at h1
      cases h1
end Go.Proofs.YtodehmognjofhaaGreat

namespace Go.Proofs.YtodehmognjofhaaGreat
open Go.RowKit
variable [Orig]
/-- a block that somebody else laid is taken up. -/
theorem Emb.took {P : Program} {ρ : Pl} {m : T SObj} {nx : Nat} {w0 : Base} {w w' : World} (h : Emb P ρ m nx w0 w) (t : Touch [] w w') {b : Nat} (hb : w.heap.size ≤ b) {ob : Obj} (hw : w'.heap[b]? = some ob) {o : SObj} (k : ObjRel P (pset ρ nx (b, 0)) (b, 0) o ob) :
    Emb P (pset ρ nx (b, 0)) (m.put (some o) nx) (nx + 1) w0 w' ∧ Le ρ (pset ρ nx (b, 0)) := by
  have hf := h.fresh nx (Nat.le_refl _)
  have hle : Le ρ (pset ρ nx (b, 0)) := pset_le _ hf.1
  have h1 := h.below (t.toBelow (Nat.le_refl _) (by simp))
  have hlt : b < w'.heap.size := (Array.getElem?_eq_some_iff.1 hw).1
  have same : ∀ c, c ≠ nx → pset ρ nx (b, 0) c = ρ c := fun c hc => by rw [pset_at, if_neg hc]
  have hne : ∀ c, (m.get c).isSome = true → c ≠ nx := fun c hc e => by subst e; rw [hf.2] at hc; cases hc
  have hp : Emb P (pset ρ nx (b, 0)) m (nx + 1) w0 w' := by
    refine ⟨h1.touch, fun c o hc => ?_, fun c c' x x' hc hc' hx hx' => ?_, fun c hc => ?_, fun c x hc => ?_, fun c hc => ?_, h1.x.bump (Nat.le_succ _)⟩
    · obtain ⟨x, ob', a1, a2, a3, a4⟩ := h1.obj c o hc
      exact ⟨x, ob', hle c x a1, a2, a3, a4.mono hle⟩
    · rw [same c (hne c hc)] at hx
      rw [same c' (hne c' hc')] at hx'
      exact h1.inj c c' x x' hc hc' hx hx'
    · rw [same c (by omega)]
      exact h1.fresh c (by omega)
    · by_cases e : c = nx
      · subst e; rw [pset_same] at hc; cases hc; exact hlt
      · rw [same c e] at hc; exact h1.old c x hc
    · have := h1.hole c hc
      rw [same c (by omega)]
      exact ⟨by omega, this.2⟩
  refine ⟨hp.adopt (pset_same _ _ _) hw (fun hpr => ?_) (fun c x hc hx => ?_) k, hle⟩
  · have := (h.touch.block b hpr).1
    have := h.touch.size
    omega
  · rw [same c (hne c hc)] at hx
    have := h.old c x hx
    show x.1 ≠ b
    omega
noncomputable def newI (cs : List SV) (e : TypeId) (args : List SV) (m : T SObj) (nx : Nat) : Option Res := match args with
  | [] => some (.ptr nx 0, m.put (some (.cells cs e false)) nx, Nat.succ nx)
  | _ => none
theorem newI_ok {P : Program} {g : FuncId} {cs : List SV} {e : TypeId} {us : List Value} (hcs : ∀ ρ, denL ρ cs = some us) (h1 : cs.all SV.one = true) (hg : ∀ w : World, Calls P g #[] w fun x w' => ∃ b, x = .returned (.pointer (some ⟨b, 0, none⟩)) ∧ w.heap.size ≤ b ∧ Touch [] w w' ∧ At w' b e us) :
    ∀ args m nx r, newI cs e args m nx = some r → ∀ (ρ : Pl) (vs : List Value) (w0 : Base) (w : World), denL ρ args = some vs → Emb P ρ m nx w0 w →
    Calls P g vs.toArray w fun x w' => ∃ ρ' u, x = .returned u ∧ Le ρ ρ' ∧ den ρ' r.1 = some u ∧ Emb P ρ' r.2.1 r.2.2 w0 w' := by
  intro args m nx r he ρ vs w0 w hd hm
  unfold newI at he
  split at he <;> cases he
  rw [denL_nil] at hd
  cases hd
  refine (hg w).mono ?_
  rintro x w' ⟨b, rfl, h2, t, hA⟩
  obtain ⟨q1, q2⟩ := hm.took t h2 hA (o := .cells cs e false) ⟨rfl, ⟨us, by rw [denC_of_L h1]; exact hcs _, by simp⟩, ⟨fun i hi => by simp, fun _ => rfl⟩, onc_of_one h1⟩
  exact ⟨_, _, rfl, q2, den_ptr_mk (pset_same _ _ _) 0, q1⟩
end Go.Proofs.YtodehmognjofhaaGreat

namespace Go.Proofs.YtodehmognjofhaaGreat
open Go.RowKit

/-- blocks that the run has laid. -/
noncomputable def outB (m : T SObj) (l : List (Nat × List SV × TypeId)) : Bool := List.rec (motive := fun _ => Bool) true (fun x _ ih => and (match m.get x.1 with
  | some (.cells cs e false) => and (Nat.beq e x.2.2) (and (svEqL cs x.2.1) (x.2.1.all SV.one))
  | _ => false) ih) l
theorem outB_ok {m : T SObj} : ∀ {l : List (Nat × List SV × TypeId)}, outB m l = true → ∀ x ∈ l, m.get x.1 = some (.cells x.2.1 x.2.2 false) ∧ x.2.1.all SV.one = true
  | [], _, x, hx => by cases hx
  | y :: l, h, x, hx => by
    have h' : and (match m.get y.1 with
      | some (.cells cs e false) => and (Nat.beq e y.2.2) (and (svEqL cs y.2.1) (y.2.1.all SV.one))
      | _ => false) (outB m l) = true := h
    simp only [Bool.and_eq_true] at h'
    obtain ⟨h1, h2⟩ := h'
    rcases List.mem_cons.1 hx with rfl | hx
    · split at h1
      · rename_i cs e hm
        simp only [Bool.and_eq_true, nbeq_iff] at h1
        rw [hm, h1.1, svEqL_ok h1.2.1]
        exact ⟨rfl, h1.2.2⟩
      · cases h1
    · exact outB_ok h2 x hx
noncomputable def genOk (E : Env) (I : CalF) (n N K : Nat) (S : Smy) (outs : List (Nat × List SV × TypeId)) : Bool := match callN E I (hdE (ofA S.log).get N K) n S.f S.args (memOf S.blks 0 .leaf) S.nx0 with
  | some (v, m, _) => and (svEq v S.v) (and (endB m S.blks 0) (outB m outs))
  | none => false
/-- the blocks at hand. -/
def plOf (bl : List Nat) (V : Nat → Option Value) : Pl := ⟨fun i => (bl[i]?).map fun b => (b, 0), V⟩
theorem plOf_at {bl : List Nat} {V : Nat → Option Value} {i b : Nat} (h : bl[i]? = some b) : plOf bl V i = some (b, 0) := by
  show (bl[i]?).map _ = _
  rw [h]; rfl
theorem at_obj {P : Program} {ρ : Pl} {w : World} {b : Nat} {e : TypeId} {cs : List SV} {us : List Value} (h : denL ρ cs = some us) (h1 : cs.all SV.one = true) (hA : At w b e us) (x : Nat) : ∃ ob, w.heap[b]? = some ob ∧ ObjRel P ρ (b, x) (.cells cs e false) ob :=
  ⟨_, hA, rfl, ⟨us, by rw [denC_of_L h1]; exact h, by simp⟩, ⟨fun i _ g => by simp at g, fun _ => rfl⟩, onc_of_one h1⟩
theorem obj_at {P : Program} {ρ : Pl} {w : World} {x : Nat × Nat} {ob : Obj} {cs : List SV} {e : TypeId} (hw : w.heap[x.1]? = some ob) (h : ObjRel P ρ x (.cells cs e false) ob) (ho : cs.all SV.one = true) : ∃ us, denL ρ cs = some us ∧ At w x.1 e us := by
  cases ob <;> try exact h.elim
  rename_i arr e' z
  obtain ⟨h1, ⟨us, h2, h3⟩, ⟨-, h4⟩, h5⟩ := h
  refine ⟨us, by rw [← denC_of_L ho]; exact h2, ?_⟩
  unfold At
  rw [hw, ← h1, h4 rfl]
  congr 2
  rw [← h3]
theorem gen_run {P : Program} {E : Env} (hE : EnvOk P E) {I : CalF} (hI : ∀ [Orig], FnOk P I) {n N K : Nat} {S : Smy} {outs : List (Nat × List SV × TypeId)} (hrun : genOk E I n N K S outs = true) (hk : S.blks.length ≤ S.nx0) (V : Nat → Option Value) (hV : ∀ b, S.nx0 ≤ b → b < big → V b = none)
    (hL : ∀ W, @LgOk ⟨W, V⟩ (ofA S.log).get) (w : World) {bl : List Nat} (hlen : bl.length = S.blks.length) (hnd : bl.Nodup) (hone : ∀ x ∈ S.blks, x.pre.all SV.one = true)
    (hat : ∀ (j b : Nat) (x : Blk), bl[j]? = some b → S.blks[j]? = some x → ∃ us, denL (plOf bl V) x.pre = some us ∧ At w b x.e us) {us : List Value} (hd : denL (plOf bl V) S.args = some us) :
    Calls P S.f us.toArray w fun e w' => ∃ ρ' u, e = .returned u ∧ Le (plOf bl V) ρ' ∧ den ρ' S.v = some u ∧ Touch bl w w' ∧ (∀ (j b : Nat) (x : Blk), bl[j]? = some b → S.blks[j]? = some x → ∃ us, denL ρ' x.post = some us ∧ At w' b x.e us)
      ∧ ∀ x ∈ outs, ∃ y us, ρ' x.1 = some y ∧ denL ρ' x.2.1 = some us ∧ At w' y.1 x.2.2 us ∧ (w.heap.size ≤ y.1 ∨ y.1 ∈ bl) := by
  letI : Orig := ⟨{ w with heap := #[] }, V⟩
  let pr : Nat → Prop := fun j => j < w.heap.size ∧ j ∉ bl
  have blk : ∀ {j : Nat} {x : Nat × Nat}, plOf bl V j = some x → bl[j]? = some x.1 := by
    intro j x h
    obtain ⟨b, h1, h2⟩ := Option.map_eq_some_iff.1 (show (bl[j]?).map (fun b => (b, 0)) = some x from h)
    rw [h1, ← h2]
  have get : ∀ {j : Nat} {x : Nat × Nat}, plOf bl V j = some x → ∃ y, S.blks[j]? = some y := by
    intro j x h
    have := (List.getElem?_eq_some_iff.1 (blk h)).1
    exact ⟨_, List.getElem?_eq_getElem (by omega)⟩
  have hm0 : Emb P (plOf bl V) (memOf S.blks 0 .leaf) S.nx0 ⟨w, pr, fun _ => False⟩ w := by
    refine ⟨⟨rfl, rfl, rfl, Nat.le_refl _, fun k hk => ⟨hk.1, rfl⟩⟩, ?_, fun b b' x x' _ _ hx hx' he => ?_, fun b hb => ⟨?_, ?_⟩, fun b x hx => ?_, fun b hb => hb.elim, hV, fun i v h => h, fun k hk => ?_⟩
    · intro b o ho
      obtain ⟨x, hx, rfl⟩ := memOf_blk ho
      have hb : b < bl.length := by have := (List.getElem?_eq_some_iff.1 hx).1; omega
      have hbl : bl[b]? = some bl[b] := List.getElem?_eq_getElem hb
      obtain ⟨us, h1, h2⟩ := hat b _ x hbl hx
      obtain ⟨ob, h3, h4⟩ := at_obj (P := P) h1 (hone x (List.mem_of_getElem? hx)) h2 0
      exact ⟨_, ob, plOf_at hbl, fun hp => hp.2 (List.getElem_mem hb), h3, h4⟩
    · have h1 := blk hx
      have h2 := blk hx'
      rw [← he] at h2
      exact (List.getElem?_inj (List.getElem?_eq_some_iff.1 h1).1 hnd).1 (h1.trans h2.symm)
    · show (bl[b]?).map _ = none
      rw [List.getElem?_eq_none (by omega)]; rfl
    · rw [memOf_get, if_neg (by omega), T.get_leaf]
    · obtain ⟨y, hy⟩ := get hx
      obtain ⟨us, -, h2⟩ := hat b _ y (blk hx) hy
      exact h2.lt
    · have h0 : k < 0 := hk
      omega
  unfold genOk at hrun
  cases hr : callN E I (hdE (ofA S.log).get N K) n S.f S.args (memOf S.blks 0 .leaf) S.nx0 with
  | none => rw [hr] at hrun; cases hrun
  | some q =>
  obtain ⟨v, ms, nxs⟩ := q
  rw [hr] at hrun
  simp only [Bool.and_eq_true] at hrun
  have hv := svEq_ok hrun.1
  subst hv
  have hend := endB_ok hrun.2.1
  have hout := outB_ok hrun.2.2
  refine (callN_ok hE hI (hdE_ok (hL _) N K) n S.f S.args _ S.nx0 _ hr _ us _ w hd hm0).mono ?_
  rintro e w' ⟨ρ', u, rfl, l1, l2, l3⟩
  refine ⟨ρ', u, rfl, l1, l2, ⟨l3.touch.os, l3.touch.tape, l3.touch.output, l3.touch.size, fun k h1 h2 => (l3.touch.block k ⟨h1, h2⟩).2⟩, fun j b x hb hx => ?_, fun x hx => ?_⟩
  · obtain ⟨h1, h1o⟩ := hend j x hx
    rw [Nat.zero_add] at h1
    obtain ⟨y, ob, g1, -, g3, g4⟩ := l3.obj j _ h1
    have g5 := l1 j _ (plOf_at hb)
    rw [g5] at g1
    cases g1
    exact obj_at g3 g4 h1o
  · obtain ⟨y, ob, g1, g2, g3, g4⟩ := l3.obj x.1 _ (hout x hx).1
    obtain ⟨us, g5, g6⟩ := obj_at g3 g4 (hout x hx).2
    refine ⟨y, us, g1, g5, g6, ?_⟩
    by_cases h : y.1 ∈ bl
    · exact .inr h
    · exact .inl (Nat.le_of_not_lt fun hlt => g2 ⟨hlt, h⟩)
end Go.Proofs.YtodehmognjofhaaGreat

namespace Go.Proofs.YtodehmognjofhaaGreat
open Go.RowKit

/-- behind so many statements; and these with another rest. -/
def tail : Nat → Code → Code
  | 0, c => c
  | n + 1, .seq _ b => tail n b
  | _ + 1, c => c
def graft : Nat → Code → Code → Code
  | 0, _, t => t
  | n + 1, .seq a b, t => .seq a (graft n b t)
  | _ + 1, c, _ => c
noncomputable def frL (l : List (Nat × SV)) : T SV := List.rec (motive := fun _ => T SV) .leaf (fun x _ ih => ih.put (some x.2) x.1) l
theorem frL_mem : ∀ {l : List (Nat × SV)} {i : Nat} {v : SV}, (frL l).get i = some v → (i, v) ∈ l
  | [], i, v, h => by rw [show frL [] = .leaf from rfl, T.get_leaf] at h; cases h
  | x :: l, i, v, h => by
    rw [show frL (x :: l) = (frL l).put (some x.2) x.1 from rfl, T.get_put] at h
    by_cases e : i = x.1
    · rw [if_pos e] at h; cases h; subst e; simp
    · rw [if_neg e] at h; exact List.mem_cons_of_mem _ (frL_mem h)
noncomputable def slotB (F : T SV) (l : List (Nat × SV)) : Bool := List.rec (motive := fun _ => Bool) true (fun x _ ih => and (match F.get x.1 with
  | some v => svEq v x.2
  | none => false) ih) l
theorem slotB_ok {F : T SV} : ∀ {l : List (Nat × SV)}, slotB F l = true → ∀ x ∈ l, F.get x.1 = some x.2
  | [], _, x, hx => by cases hx
  | y :: l, h, x, hx => by
    have h' : and (match F.get y.1 with
      | some v => svEq v y.2
      | none => false) (slotB F l) = true := h
    simp only [Bool.and_eq_true] at h'
    obtain ⟨h1, h2⟩ := h'
    rcases List.mem_cons.1 hx with rfl | hx
    · split at h1
      · rename_i v hv
        rw [hv, svEq_ok h1]
      · cases h1
    · exact slotB_ok h2 x hx
noncomputable def tailOk (E : Env) (I : CalF) (n N K : Nat) (S : Smy) (c : Code) (F R : List (Nat × SV)) : Bool := match runE E I (hdE (ofA S.log).get N K) n N c ⟨⟨frL F, memOf S.blks 0 .leaf, S.nx0⟩, [], none⟩ with
  | some (.one (.ret, s)) => and (match s.ds with | [] => true | _ => false) (and (slotB s.s.F R) (endB s.s.m S.blks 0))
  | _ => false
theorem tail_run {P : Program} {E : Env} (hE : EnvOk P E) {I : CalF} (hI : ∀ [Orig], FnOk P I) {n N K : Nat} {S : Smy} {c : Code} {F R : List (Nat × SV)} (hrun : tailOk E I n N K S c F R = true) (hk : S.blks.length ≤ S.nx0) (V : Nat → Option Value) (hV : ∀ b, S.nx0 ≤ b → b < big → V b = none)
    (hL : ∀ W, @LgOk ⟨W, V⟩ (ofA S.log).get) (w : World) {bl : List Nat} (hlen : bl.length = S.blks.length) (hnd : bl.Nodup) (hone : ∀ x ∈ S.blks, x.pre.all SV.one = true)
    (hat : ∀ (j b : Nat) (x : Blk), bl[j]? = some b → S.blks[j]? = some x → ∃ us, denL (plOf bl V) x.pre = some us ∧ At w b x.e us) {a : Act} (hsz : a.tmps.size = N) (hdf : a.defers = []) (hF : ∀ x ∈ F, ∃ u, a.tmps[x.1]? = some u ∧ den (plOf bl V) x.2 = some u)
    {Q : Exit → Act → World → Prop} (hQ : ∀ (ρ' : Pl) (a' : Act) (w' : World), Le (plOf bl V) ρ' → a'.defers = [] → (∀ x ∈ R, ∃ u, a'.tmps[x.1]? = some u ∧ den ρ' x.2 = some u) → Touch bl w w' → (∀ (j b : Nat) (x : Blk), bl[j]? = some b → S.blks[j]? = some x → ∃ us, denL ρ' x.post = some us ∧ At w' b x.e us) → Q .ret a' w') : c.wp P Q a w := by
  letI : Orig := ⟨{ w with heap := #[] }, V⟩
  let pr : Nat → Prop := fun j => j < w.heap.size ∧ j ∉ bl
  have blk : ∀ {j : Nat} {x : Nat × Nat}, plOf bl V j = some x → bl[j]? = some x.1 := by
    intro j x h
    obtain ⟨b, h1, h2⟩ := Option.map_eq_some_iff.1 (show (bl[j]?).map (fun b => (b, 0)) = some x from h)
    rw [h1, ← h2]
  have get : ∀ {j : Nat} {x : Nat × Nat}, plOf bl V j = some x → ∃ y, S.blks[j]? = some y := by
    intro j x h
    have := (List.getElem?_eq_some_iff.1 (blk h)).1
    exact ⟨_, List.getElem?_eq_getElem (by omega)⟩
  have hm0 : Emb P (plOf bl V) (memOf S.blks 0 .leaf) S.nx0 ⟨w, pr, fun _ => False⟩ w := by
    refine ⟨⟨rfl, rfl, rfl, Nat.le_refl _, fun k hk => ⟨hk.1, rfl⟩⟩, ?_, fun b b' x x' _ _ hx hx' he => ?_, fun b hb => ⟨?_, ?_⟩, fun b x hx => ?_, fun b hb => hb.elim, hV, fun i v h => h, fun k hk => ?_⟩
    · intro b o ho
      obtain ⟨x, hx, rfl⟩ := memOf_blk ho
      have hb : b < bl.length := by have := (List.getElem?_eq_some_iff.1 hx).1; omega
      have hbl : bl[b]? = some bl[b] := List.getElem?_eq_getElem hb
      obtain ⟨us, h1, h2⟩ := hat b _ x hbl hx
      obtain ⟨ob, h3, h4⟩ := at_obj (P := P) h1 (hone x (List.mem_of_getElem? hx)) h2 0
      exact ⟨_, ob, plOf_at hbl, fun hp => hp.2 (List.getElem_mem hb), h3, h4⟩
    · have h1 := blk hx
      have h2 := blk hx'
      rw [← he] at h2
      exact (List.getElem?_inj (List.getElem?_eq_some_iff.1 h1).1 hnd).1 (h1.trans h2.symm)
    · show (bl[b]?).map _ = none
      rw [List.getElem?_eq_none (by omega)]; rfl
    · rw [memOf_get, if_neg (by omega), T.get_leaf]
    · obtain ⟨y, hy⟩ := get hx
      obtain ⟨us, -, h2⟩ := hat b _ y (blk hx) hy
      exact h2.lt
    · have h0 : k < 0 := hk
      omega
  unfold tailOk at hrun
  cases hr : runE E I (hdE (ofA S.log).get N K) n N c ⟨⟨frL F, memOf S.blks 0 .leaf, S.nx0⟩, [], none⟩ with
  | none => rw [hr] at hrun; cases hrun
  | some o =>
  rw [hr] at hrun
  have R0 : RelC P (plOf bl V) N ⟨⟨frL F, memOf S.blks 0 .leaf, S.nx0⟩, [], none⟩ none a ⟨w, pr, fun _ => False⟩ w := by
    refine ⟨⟨hsz, fun i v hi => hF _ (frL_mem hi)⟩, hm0, ?_, trivial⟩
    rw [hdf]; trivial
  refine wpIn_wide (n := 0) |>.1 (wpIn_mono (F := Fence.wide) (runE_ok hE hI (hdE_ok (hL _) N K) n N c _ _ hr _ none a _ w R0).1 ?_)
  rintro e a1 w1 ⟨⟨x, s⟩, k0, ρ', rfl, -, k1, k2⟩
  split at hrun
  · rename_i s' heq
    cases heq
    cases k0
    simp only [Bool.and_eq_true] at hrun
    obtain ⟨h1, h2, h3⟩ := hrun
    have hds : s.ds = [] := by
      split at h1
      · assumption
      · cases h1
    have hdd := k2.d
    rw [hds] at hdd
    have hd0 : a1.defers = [] := by
      cases hq : a1.defers with
      | nil => rfl
      | cons x l => rw [hq] at hdd; exact hdd.elim
    refine hQ ρ' a1 w1 k1 hd0 (fun x hx => ?_) ⟨k2.m.touch.os, k2.m.touch.tape, k2.m.touch.output, k2.m.touch.size, fun k h1 h2 => (k2.m.touch.block k ⟨h1, h2⟩).2⟩ (fun j b x hb hx => ?_)
    · exact k2.F.at_ _ _ (slotB_ok h2 x hx)
    · obtain ⟨h4, h4o⟩ := endB_ok h3 j x hx
      rw [Nat.zero_add] at h4
      obtain ⟨y, ob, g1, -, g3, g4⟩ := k2.m.obj j _ h4
      have g5 := k1 j _ (plOf_at hb)
      rw [g5] at g1
      cases g1
      exact obj_at g3 g4 h4o
  · cases hrun
end Go.Proofs.YtodehmognjofhaaGreat
