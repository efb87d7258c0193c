/-
  A run by the kernel: the operations that leave memory as it is.
-/
import Derived.Test.YteblflebjhncbaaGreatDoorE10
namespace Go.Proofs.YteblflebjhncbaaGreatDoor
open Go.RowKit

def isIf : TypeDesc → Bool
  | .interface _ => true
  | _ => false
noncomputable def taV (E : Env) (v : SV) (t : TypeId) (ok : Bool) : Option SV := match v with
  | .nifc => oi ok (ob (zrE E t) fun z => some (.tup [z, .bool false]))
  | .ifc t' x => Bool.rec (motive := fun _ => Option SV) (oi ok (ob (zrE E t) fun z => some (.tup [z, .bool false]))) (some (Bool.rec (motive := fun _ => SV) x (.tup [x, .bool true]) ok)) (Nat.beq t' t)
  | _ => none
noncomputable def taE (E : Env) (v : SV) (t : TypeId) (ok : Bool) : Option SV := ob (und E t) fun d => oi (not (isIf d)) (taV E v t ok)
theorem taE_ok {P : Program} {E : Env} (hE : EnvOk P E) {ρ : Pl} {v r : SV} {t xt : TypeId} {ok : Bool} {u0 : Value} (e : taE E v t ok = some r) (h : den ρ v = some u0) (w : World) : ∃ u, (Instr.typeAssert u0 xt t ok).run P w = .ok u w ∧ den ρ r = some u := by
  obtain ⟨d, h1, h2⟩ := ob_eq.1 e
  have hu := und_ok hE h1
  obtain ⟨h0, h3⟩ := oi_eq.1 h2
  have h4 : ∀ ms, d ≠ .interface ms := fun ms hd => by subst hd; cases h0
  unfold taV at h3
  have miss : oi ok (ob (zrE E t) fun z => some (.tup [z, .bool false])) = some r → ∃ zu, ok = true ∧ (zeroValue t).run P w = .ok zu w ∧ den ρ r = some (.tuple #[zu, .bool false]) := by
    intro hm
    obtain ⟨g1, g2⟩ := oi_eq.1 hm
    obtain ⟨z, g3, g4⟩ := ob_eq.1 g2
    cases g4
    obtain ⟨zu, c1, c2, -⟩ := zrE_ok hE g3 ρ w
    exact ⟨zu, g1, c1, den_tup_mk (us := [zu, .bool false]) (denL_cons.2 ⟨_, _, c2, denL_cons.2 ⟨_, _, den_bool ρ false, denL_nil ρ, rfl⟩, rfl⟩)⟩
  split at h3
  · obtain ⟨zu, rfl, g1, g2⟩ := miss h3
    rw [den_nifc] at h
    cases h
    refine ⟨_, ?_, g2⟩
    unfold Instr.typeAssert
    simp only [Sem.run_bind, run_underlying hu w, Result.andThen_ok]
    cases d <;> first | exact absurd rfl (h4 _) | simp only [if_true, Sem.run_bind, g1, Result.andThen_ok, Sem.run_pure]
  · rename_i t' x
    obtain ⟨y, g0, rfl⟩ := den_ifc h
    by_cases ht : t' = t
    · subst ht
      rw [nbeq_iff.2 rfl] at h3
      cases h3
      cases ok with
      | false =>
        refine ⟨y, ?_, g0⟩
        unfold Instr.typeAssert
        simp only [Sem.run_bind, run_underlying hu w, Result.andThen_ok]
        cases d <;> first | exact absurd rfl (h4 _) | simp only [if_true, Bool.false_eq_true, if_false, Sem.run_pure]
      | true =>
        refine ⟨_, ?_, den_tup_mk (us := [y, .bool true]) (denL_cons.2 ⟨_, _, g0, denL_cons.2 ⟨_, _, den_bool ρ true, denL_nil ρ, rfl⟩, rfl⟩)⟩
        unfold Instr.typeAssert
        simp only [Sem.run_bind, run_underlying hu w, Result.andThen_ok]
        cases d <;> first | exact absurd rfl (h4 _) | simp only [if_true, Sem.run_pure]
    · rw [nbeq ht] at h3
      obtain ⟨zu, rfl, g1, g2⟩ := miss h3
      refine ⟨_, ?_, g2⟩
      unfold Instr.typeAssert
      simp only [Sem.run_bind, run_underlying hu w, Result.andThen_ok]
      cases d <;> first | exact absurd rfl (h4 _) | simp only [ht, if_false, if_true, Sem.run_bind, g1, Result.andThen_ok, Sem.run_pure]
  · cases h3

noncomputable def lenE (E : Env) (m : T SObj) (t : TypeId) (v : SV) : Option SV := ob (und E t) fun d => match d with
  | .string => match v with
    | .str l => some (.int .i64 (.ofNat (len l)))
    | .sym .str i => some (.lenS i)
    | _ => none
  | .array n _ => some (.int .i64 (.ofNat n))
  | .pointer a => ob (und E a) fun d' => match d' with
    | .array n _ => some (.int .i64 (.ofNat n))
    | _ => none
  | .slice _ => match v with
    | .slc _ _ n _ => some (.int .i64 (.ofNat n))
    | .slu _ _ n _ => some (.int .i64 (.ofNat n))
    | .nslc => some (.int .i64 (.ofNat 0))
    | _ => none
  | .map _ _ => ob (mapE m v) fun es => some (.int .i64 (.ofNat (len es)))
  | _ => none
theorem denE_len {ρ : Pl} : ∀ {es : List SE} {ms : List MapEntry}, denE ρ es ms → es.length = ms.length
  | [], [], _ => rfl
  | _ :: es, _ :: ms, ⟨_, _, _, h⟩ => by simp [denE_len h]
variable [Orig]
theorem lenE_ok {P : Program} {E : Env} (hE : EnvOk P E) {ρ : Pl} {m : T SObj} {nx : Nat} {w0 : Base} {w : World} (h : Emb P ρ m nx w0 w) {t ty : TypeId} {v r : SV} {u0 : Value} {ts : Array TypeId} (ht : ts[0]? = some t) (e : lenE E m t v = some r) (hv : den ρ v = some u0) :
    ∃ u, (Builtin.len_ ts ty #[u0]).run P w = .ok u w ∧ den ρ r = some u := by
  obtain ⟨d, h1, h2⟩ := ob_eq.1 e
  have hu := und_ok hE h1
  have h0 : (#[u0] : Array Value)[0]? = some u0 := rfl
  have base : ∀ {X : Sem Value}, (match (d, u0) with
      | (.string, .string s) => pure (goInt s.size)
      | (.array n _, _) => pure (goInt n)
      | (.pointer arr, _) => do
        let .array n _ ← underlying arr | stuck "len: pointer to array expected"
        pure (goInt n)
      | (.slice _, .slice _ n _) => pure (goInt n)
      | (.map _ _, .map none) => pure (goInt 0)
      | (.map _ _, .map (some r)) => do
        let .map entries _ ← getObj r | stuck "len: map expected"
        pure (goInt entries.size)
      | _ => X) = X → True := fun _ => trivial
  clear base
  unfold Builtin.len_
  simp only [ht, h0, Sem.run_bind, run_underlying hu w, Result.andThen_ok]
  cases d <;> simp only at h2 <;> try cases h2
  case string =>
    split at h2
    · cases h2
      obtain ⟨rfl, -⟩ := den_str hv
      exact ⟨_, rfl, by rw [len_ok, ← bytesOf_size]; exact den_int _ _ _⟩
    · cases h2
      rename_i i
      unfold den at hv
      obtain ⟨hz, hk⟩ := symD_some hv
      have hd : den ρ (.lenS i) = lenV (ρ.val i) := by unfold den; rfl
      rw [hd, hz]
      cases u0 <;> simp only [SK.is, Bool.false_eq_true, decide_eq_true_eq] at hk
      refine ⟨_, rfl, ?_⟩
      unfold lenV
      exact if_pos hk
    · cases h2
  case array n el => exact ⟨_, rfl, den_int _ _ _⟩
  case pointer a =>
    obtain ⟨d', h3, h4⟩ := ob_eq.1 h2
    cases d' <;> simp only at h4 <;> try cases h4
    refine ⟨_, ?_, den_int _ _ _⟩
    simp only [Sem.run_bind, run_underlying (und_ok hE h3) w, Result.andThen_ok, Sem.run_pure]
    rfl
  case slice el =>
    split at h2
    · cases h2; obtain ⟨x, -, rfl⟩ := den_slc hv; exact ⟨_, rfl, den_int _ _ _⟩
    · cases h2; obtain ⟨x, -, -, rfl⟩ := den_slu hv; exact ⟨_, rfl, den_int _ _ _⟩
    · cases h2; rw [den_nslc] at hv; cases hv; exact ⟨_, rfl, den_int _ _ _⟩
    · cases h2
  case map k el =>
    obtain ⟨es, h3, h4⟩ := ob_eq.1 h2
    cases h4
    rcases mapE_ok h h3 hv with ⟨rfl, rfl⟩ | ⟨r', p, ms, c, rfl, rfl, b1, b2⟩
    · exact ⟨_, rfl, den_int _ _ _⟩
    · have hget : (getObj p).run P w = .ok (.map ms c) w := by simp [getObj, Sem.run, b1]
      refine ⟨_, ?_, den_int _ _ _⟩
      simp only [Sem.run_bind, hget, Result.andThen_ok, Sem.run_pure, len_ok, denE_len b2]
      rfl
noncomputable def capE (E : Env) (t : TypeId) (v : SV) : Option SV := ob (und E t) fun d => match d with
  | .array n _ => some (.int .i64 (.ofNat n))
  | .slice _ => match v with
    | .slc _ _ _ c => some (.int .i64 (.ofNat c))
    | .nslc => some (.int .i64 (.ofNat 0))
    | _ => none
  | _ => none
omit [Orig] in
theorem capE_ok {P : Program} {E : Env} (hE : EnvOk P E) {ρ : Pl} {w : World} {t ty : TypeId} {v r : SV} {u0 : Value} {ts : Array TypeId} (ht : ts[0]? = some t) (e : capE E t v = some r) (hv : den ρ v = some u0) :
    ∃ u, (Builtin.cap_ ts ty #[u0]).run P w = .ok u w ∧ den ρ r = some u := by
  obtain ⟨d, h1, h2⟩ := ob_eq.1 e
  have hu := und_ok hE h1
  have h0 : (#[u0] : Array Value)[0]? = some u0 := rfl
  unfold Builtin.cap_
  simp only [ht, h0, Sem.run_bind, run_underlying hu w, Result.andThen_ok]
  cases d <;> simp only at h2 <;> try cases h2
  case array n el => exact ⟨_, rfl, den_int _ _ _⟩
  case slice el =>
    split at h2
    · cases h2; obtain ⟨x, -, rfl⟩ := den_slc hv; exact ⟨_, rfl, den_int _ _ _⟩
    · cases h2; rw [den_nslc] at hv; cases hv; exact ⟨_, rfl, den_int _ _ _⟩
    · cases h2
/-- the least, the greatest. -/
noncomputable def mmE (mn : Bool) (k : IntKind) (x : Int) (l : List SV) : Option Int := List.rec (motive := fun _ => Int → Option Int) (fun x => some x)
  (fun v _ ih x => match v with
    | .int _ y => ih (Bool.rec (motive := fun _ => Int) (Bool.rec (motive := fun _ => Int) y x (ile y x)) (Bool.rec (motive := fun _ => Int) x y (not (ile x y))) mn)
    | _ => none) l x
omit [Orig] in
theorem mmE_ok {P : Program} {ρ : Pl} {mn : Bool} {k : IntKind} (w : World) : ∀ {l : List SV} {us : List Value} {x r : Int}, mmE mn k x l = some r → denL ρ l = some us → (us.foldlM (if mn then Builtin.min2 else Builtin.max2) (Value.int k x)).run P w = .ok (.int k r) w
  | [], us, x, r, h, hd => by rw [denL_nil] at hd; cases hd; cases h; rfl
  | v :: l, us, x, r, h, hd => by
    obtain ⟨u, us', h1, h2, rfl⟩ := denL_cons.1 hd
    cases v with
    | int k' y =>
      rw [den_int] at h1
      cases h1
      have h' : mmE mn k (Bool.rec (motive := fun _ => Int) (Bool.rec (motive := fun _ => Int) y x (ile y x)) (Bool.rec (motive := fun _ => Int) x y (not (ile x y))) mn) l = some r := h
      have ih := mmE_ok (P := P) w h' h2
      rw [List.foldlM_cons]
      simp only [Sem.run_bind]
      cases mn with
      | true =>
        simp only [if_true, Builtin.min2, Sem.run_pure, Result.andThen_ok]
        have e : (if y < x then y else x) = (Bool.rec (motive := fun _ => Int) x y (not (ile x y)) : Int) := by
          rw [ile_ok]
          by_cases hc : x ≤ y
          · rw [if_neg (by omega), decide_eq_true hc]; rfl
          · rw [if_pos (by omega), decide_eq_false hc]; rfl
        rw [e]
        simpa using ih
      | false =>
        simp only [Bool.false_eq_true, if_false, Builtin.max2, Sem.run_pure, Result.andThen_ok]
        have e : (if y > x then y else x) = (Bool.rec (motive := fun _ => Int) y x (ile y x) : Int) := by
          rw [ile_ok]
          by_cases hc : y ≤ x
          · rw [if_neg (by omega), decide_eq_true hc]
          · rw [if_pos (by omega), decide_eq_false hc]
        rw [e]
        simpa using ih
    | _ => cases h
noncomputable def biE (E : Env) (m : T SObj) (b : Builtin) (ts : Array TypeId) (vs : List SV) : Option SV := match b with
  | .len => ob ts.toList.head? fun t => match vs with
    | [v] => lenE E m t v
    | _ => none
  | .cap => ob ts.toList.head? fun t => match vs with
    | [v] => capE E t v
    | _ => none
  | .min => match vs with
    | .int k x :: l => ob (mmE true k x l) fun r => some (.int k r)
    | _ => none
  | .max => match vs with
    | .int k x :: l => ob (mmE false k x l) fun r => some (.int k r)
    | _ => none
  | _ => none
omit [Orig] in
theorem head_get {ts : Array TypeId} {t : TypeId} (h : ts.toList.head? = some t) : ts[0]? = some t := by
  rw [List.head?_eq_getElem?] at h
  simpa using h
theorem biE_ok {P : Program} {E : Env} (hE : EnvOk P E) {ρ : Pl} {m : T SObj} {nx : Nat} {w0 : Base} {w : World} (h : Emb P ρ m nx w0 w) {b : Builtin} {ts : Array TypeId} {ty : TypeId} {cs : Array Bool} {vs : List SV} {us : List Value} {r : SV} (e : biE E m b ts vs = some r) (hd : denL ρ vs = some us) :
    ∃ u, (builtin b ts ty cs us.toArray).run P w = .ok (.value u) w ∧ den ρ r = some u := by
  unfold biE at e
  split at e
  · obtain ⟨t, h1, h2⟩ := ob_eq.1 e
    split at h2
    · obtain ⟨u, us', g1, g2, rfl⟩ := denL_cons.1 hd
      rw [denL_nil] at g2
      cases g2
      obtain ⟨u', c1, c2⟩ := lenE_ok hE h (ty := ty) (head_get h1) h2 g1
      exact ⟨u', by simp only [builtin, Sem.run_bind, c1, Result.andThen_ok, Sem.run_pure], c2⟩
    · cases h2
  · obtain ⟨t, h1, h2⟩ := ob_eq.1 e
    split at h2
    · obtain ⟨u, us', g1, g2, rfl⟩ := denL_cons.1 hd
      rw [denL_nil] at g2
      cases g2
      obtain ⟨u', c1, c2⟩ := capE_ok hE (w := w) (ty := ty) (head_get h1) h2 g1
      exact ⟨u', by simp only [builtin, Sem.run_bind, c1, Result.andThen_ok, Sem.run_pure], c2⟩
    · cases h2
  · split at e
    · obtain ⟨x, h1, h2⟩ := ob_eq.1 e
      cases h2
      obtain ⟨u, us', g1, g2, rfl⟩ := denL_cons.1 hd
      rw [den_int] at g1
      cases g1
      have := mmE_ok (P := P) w h1 g2
      simp only [if_true] at this
      exact ⟨_, by simp only [builtin, Builtin.min_, Sem.run_bind, this, Result.andThen_ok, Sem.run_pure], den_int _ _ _⟩
    · cases e
  · split at e
    · obtain ⟨x, h1, h2⟩ := ob_eq.1 e
      cases h2
      obtain ⟨u, us', g1, g2, rfl⟩ := denL_cons.1 hd
      rw [den_int] at g1
      cases g1
      have := mmE_ok (P := P) w h1 g2
      simp only [Bool.false_eq_true, if_false] at this
      exact ⟨_, by simp only [builtin, Builtin.max_, Sem.run_bind, this, Result.andThen_ok, Sem.run_pure], den_int _ _ _⟩
    · cases e
  · cases e
end Go.Proofs.YteblflebjhncbaaGreatDoor
