/-
  A run by the kernel: what leaves memory as it is, all in one.
-/
import Derived.Test.YteblflebjhncbaaGreatDoorE9
namespace Go.Proofs.YteblflebjhncbaaGreatDoor
open Go.RowKit

noncomputable def unE (op : UnOp) (v : SV) : Option SV := match op, v with
  | .neg, .int k n => some (.int k (wr k (Int.sub (.ofNat 0) n)))
  | .xor, .int k n => Bool.rec (motive := fun _ => Option SV) (some (.int k (wrN k (Nat.xor (Nat.sub (Nat.mul 2 (half k)) 1) (un k n))))) (some (.int k (wrN k (Nat.xor (Nat.sub (Nat.mul 2 (half k)) 1) (un k n))))) k.signed
  | .not, .bool b => some (.bool (Bool.rec (motive := fun _ => Bool) true false b))
  | .xor, v => ob (ik v) fun k => some (.ar .xor k (.int k (if k.signed then -1 else k.max)) v)
  | _, _ => none
theorem unE_ok {P : Program} {ρ : Pl} {op : UnOp} {v r : SV} {u0 : Value} (e : unE op v = some r) (h : den ρ v = some u0) (w : World) : ∃ u, (Op.unary op u0).run P w = .ok u w ∧ den ρ r = some u := by
  unfold unE at e
  split at e
  · rw [den_int] at h; cases h; cases e
    exact ⟨_, rfl, by rw [wr_ok]; exact den_int _ _ _⟩
  · rename_i k n
    rw [den_int] at h; cases h
    have hun : un k (if k.signed then -1 else k.max) = 2 * half k - 1 := by cases k <;> rfl
    have e' : r = .int k (wrN k (Nat.xor (un k (if k.signed then -1 else k.max)) (un k n))) := by
      rw [hun]
      cases hs : k.signed <;> rw [hs] at e <;> cases e <;> rfl
    subst e'
    have hb := bitE_ok (P := P) (op := .xor) (k := k) (a := (if k.signed then -1 else k.max)) (b := n) rfl w
    exact ⟨_, hb, den_int _ _ _⟩
  · rename_i b
    rw [den_bool] at h; cases h; cases e
    exact ⟨_, rfl, by cases b <;> exact den_bool _ _⟩
  · obtain ⟨k, h1, h2⟩ := ob_eq.1 e
    cases h2
    obtain ⟨n, rfl⟩ := ik_ok h1 h
    refine ⟨_, rfl, ?_⟩
    unfold den
    rw [den_int, h, ar2_mk]
    rfl
  · cases e
noncomputable def exE (v : SV) (i : Nat) : Option SV := match v with
  | .tup l => nth i l
  | _ => none
theorem exE_ok {P : Program} {ρ : Pl} {v r : SV} {i : Nat} {u0 : Value} (e : exE v i = some r) (h : den ρ v = some u0) (w : World) : ∃ u, (Instr.extract u0 i).run P w = .ok u w ∧ den ρ r = some u := by
  unfold exE at e
  split at e
  · obtain ⟨us, h1, rfl⟩ := den_tup h
    rw [nth_ok] at e
    obtain ⟨u, h2, h3⟩ := denL_get i h1 e
    exact ⟨u, by simp [Instr.extract, h3], h2⟩
  · cases e
/-- not nil. -/
def ncE (v : SV) : Option SV := match v with
  | .ptr .. | .ifc .. | .slc .. | .slu .. | .map _ => some v
  | .fn (.func _) .. => some v
  | _ => none
theorem ncE_ok {P : Program} {ρ : Pl} {v r : SV} {u0 : Value} {o : Oper} {a : Act} {x : Operand} (ho : o.op = .nilCheck x) (hx : a.eval x = u0) (e : ncE v = some r) (h : den ρ v = some u0) (w : World) : ∃ u, (execOp a.eval o).run P w = .ok (.value u) w ∧ den ρ r = some u := by
  unfold ncE at e
  split at e
  · cases e; obtain ⟨y, -, rfl⟩ := den_ptr h; exact ⟨_, by simp only [execOp, ho, hx, Sem.run_pure], h⟩
  · cases e; obtain ⟨y, -, rfl⟩ := den_ifc h; exact ⟨_, by simp only [execOp, ho, hx, Sem.run_pure], h⟩
  · cases e; obtain ⟨y, -, rfl⟩ := den_slc h; exact ⟨_, by simp only [execOp, ho, hx, Sem.run_pure], h⟩
  · cases e; obtain ⟨y, -, -, rfl⟩ := den_slu h; exact ⟨_, by simp only [execOp, ho, hx, Sem.run_pure], h⟩
  · cases e; obtain ⟨y, -, rfl⟩ := den_map h; exact ⟨_, by simp only [execOp, ho, hx, Sem.run_pure], h⟩
  · cases e; obtain ⟨y, z, -, -, -, rfl⟩ := den_fn h; exact ⟨_, by simp only [execOp, ho, hx, Sem.run_pure], h⟩
  · cases e
noncomputable def miE (E : Env) (t : TypeId) (v : SV) : Option SV := ob (und E t) fun d => match d with
  | .interface _ => none
  | _ => some (.ifc t v)
theorem miE_ok {P : Program} {E : Env} (hE : EnvOk P E) {ρ : Pl} {t : TypeId} {v r : SV} {u0 : Value} (e : miE E t v = some r) (h : den ρ v = some u0) (w : World) : ∃ u, (Instr.makeInterface t u0).run P w = .ok u w ∧ den ρ r = some u := by
  obtain ⟨d, h1, h2⟩ := ob_eq.1 e
  have hu := und_ok hE h1
  refine ⟨.iface t u0, ?_, ?_⟩
  · refine run_makeInterface w t u0 ?_
    unfold Program.concrete
    rw [hu]
    cases d <;> first | rfl | cases h2
  · cases d <;> first | (cases h2; exact den_ifc_mk h) | cases h2
noncomputable def mfE (f : Fn) (a c : List SV) : Option SV := Bool.rec (motive := fun _ => Option SV) (some (.fn f a c)) none (isYield f)
theorem mfE_ok {ρ : Pl} {f : Fn} {a c : List SV} {r : SV} {x y : List Value} (e : mfE f a c = some r) (h1 : denL ρ a = some x) (h2 : denL ρ c = some y) : den ρ r = some (.func f x.toArray y.toArray) := by
  unfold mfE at e
  cases hy : isYield f with
  | true => rw [hy] at e; cases e
  | false =>
    rw [hy] at e
    cases e
    unfold den
    rw [if_neg (by simp [hy]), h1, h2]

/-- keys. -/
noncomputable def keyEq (x y : SV) : Option Bool := match x, y with
  | .int k a, .int k' b => oi (kq k k') (some (ieq a b))
  | .str a, .str b => some (leq a b)
  | .bool a, .bool b => some (Bool.rec (motive := fun _ => Bool) (not b) b a)
  | _, _ => none
def keyTy (d : TypeDesc) (x : SV) : Bool := match d, x with
  | .int _, .int _ _ => true
  | .string, .str _ => true
  | .bool, .bool _ => true
  | _, _ => false
noncomputable def findE (x : SV) (es : List SE) : Option (Option SE) := List.rec (motive := fun _ => Option (Option SE)) (some none) (fun e _ ih => ob (keyEq x e.key) fun b => Bool.rec (motive := fun _ => Option (Option SE)) ih (some (some e)) b) es
theorem keyEq_ok {ρ : Pl} {x y : SV} {b : Bool} {u v : Value} {d : TypeDesc} (e : keyEq x y = some b) (ht : keyTy d x = true) (hx : den ρ x = some u) (hy : den ρ y = some v) : Instr.sameNow d u v = some b := by
  unfold keyEq at e
  split at e
  · obtain ⟨h1, h2⟩ := oi_eq.1 e
    obtain rfl := kq_ok h1
    rw [den_int] at hx hy
    cases hx; cases hy; cases h2
    cases d <;> first | (simp [Instr.sameNow, ieq_ok]; done) | cases ht
  · obtain ⟨rfl, ha⟩ := den_str hx
    obtain ⟨rfl, hb⟩ := den_str hy
    cases e
    cases d <;> first | (simp [Instr.sameNow, str_beq ha hb]; done) | cases ht
  · rw [den_bool] at hx hy
    cases hx; cases hy; cases e
    cases d <;> first | (simp [Instr.sameNow, beq_bool]; done) | cases ht
  · cases e
theorem findE_ok {ρ : Pl} {x : SV} {u : Value} {d : TypeDesc} (ht : keyTy d x = true) (hx : den ρ x = some u) : ∀ {es : List SE} {ms : List MapEntry} {r : Option SE} (i : Nat), findE x es = some r → denE ρ es ms →
    (r = none ∧ Instr.findNow d u ms i = some none) ∨ ∃ e j y, r = some e ∧ es[j]? = some e ∧ ms[j]? = some y ∧ Instr.findNow d u ms i = some (some (i + j, y.val)) ∧ den ρ e.key = some y.key ∧ den ρ e.val = some y.val ∧ e.born = y.born ∧ keyEq x e.key = some true
  | [], [], r, i, h, hd => by cases h; exact .inl ⟨rfl, rfl⟩
  | e :: es, y :: ms, r, i, h, ⟨d1, d2, d3, d4⟩ => by
    have h' : (ob (keyEq x e.key) fun b => Bool.rec (motive := fun _ => Option (Option SE)) (findE x es) (some (some e)) b) = some r := h
    obtain ⟨b, h1, h2⟩ := ob_eq.1 h'
    have hs := keyEq_ok h1 ht hx d1
    cases b with
    | true =>
      cases h2
      exact .inr ⟨e, 0, y, rfl, rfl, rfl, by simp [Instr.findNow, hs], d1, d2, d3, h1⟩
    | false =>
      have h3 : findE x es = some r := h2
      rcases findE_ok ht hx (i + 1) h3 d4 with ⟨g1, g2⟩ | ⟨e', j, y', g1, g2, g3, g4, g5, g6, g7, g8⟩
      · exact .inl ⟨g1, by simp [Instr.findNow, hs, g2]⟩
      · exact .inr ⟨e', j + 1, y', g1, g2, g3, by simp [Instr.findNow, hs, g4]; omega, g5, g6, g7, g8⟩
theorem checkKey_ok {P : Program} {E : Env} (hE : EnvOk P E) {ρ : Pl} {t : TypeId} {d : TypeDesc} {x : SV} {u : Value} (h : und E t = some d) (ht : keyTy d x = true) (hx : den ρ x = some u) (em : Bool) (w : World) : (Instr.checkKey em 10000 t u).run P w = .ok () w := by
  have hu := und_ok hE h
  show (Instr.checkKey em (9999 + 1) t u).run P w = _
  unfold Instr.checkKey
  simp only [Sem.run_bind, run_underlying hu w, Result.andThen_ok]
  cases x with
  | bool b => rw [den_bool] at hx; cases hx; cases d <;> first | rfl | cases ht
  | int k n => rw [den_int] at hx; cases hx; cases d <;> first | rfl | cases ht
  | str s => obtain ⟨rfl, -⟩ := den_str hx; cases d <;> first | rfl | cases ht
  | _ => cases d <;> cases ht
noncomputable def mapE (m : T SObj) (v : SV) : Option (List SE) := match v with
  | .nmap => some []
  | .map r => ob (m.get r) fun o => match o with
    | .map es _ => some es
    | _ => none
  | _ => none
variable [Orig]
theorem mapE_ok {P : Program} {ρ : Pl} {m : T SObj} {nx : Nat} {w0 : Base} {w : World} (h : Emb P ρ m nx w0 w) {v : SV} {es : List SE} {u0 : Value} (e : mapE m v = some es) (hv : den ρ v = some u0) :
    (u0 = .map none ∧ es = []) ∨ ∃ r p ms c, u0 = .map (some p) ∧ v = .map r ∧ w.heap[p]? = some (.map ms c) ∧ denE ρ es ms.toList := by
  unfold mapE at e
  split at e
  · cases e; rw [den_nmap] at hv; cases hv; exact .inl ⟨rfl, rfl⟩
  · rename_i r
    obtain ⟨o, h1, h2⟩ := ob_eq.1 e
    obtain ⟨x, g1, rfl⟩ := den_map hv
    obtain ⟨x', ob', a1, -, a3, a4⟩ := h.obj r o h1
    rw [g1] at a1
    cases a1
    cases o with
    | map es' c =>
      cases h2
      cases ob' <;> try exact a4.elim
      rename_i ms c'
      exact .inr ⟨r, _, ms, c', rfl, rfl, a3, a4.2⟩
    | cells => cases h2
    | siter => cases h2
    | miter => cases h2
    | defr => cases h2
    | lp => cases h2
  · cases e
omit [Orig] in
/-- looked up. -/
theorem findKey_ok {P : Program} {E : Env} (hE : EnvOk P E) {ρ : Pl} {k : TypeId} {dk : TypeDesc} {x : SV} {u : Value} (h1 : und E k = some dk) (ht : keyTy dk x = true) (hx : den ρ x = some u) {es : List SE} {ms : List MapEntry} {r : Option SE} (h : findE x es = some r) (hd : denE ρ es ms) (w : World) :
    (r = none ∧ (Instr.findKey k u ms).run P w = .ok none w) ∨ ∃ e j y, r = some e ∧ es[j]? = some e ∧ ms[j]? = some y ∧ (Instr.findKey k u ms).run P w = .ok (some (j, y.val)) w ∧ den ρ e.key = some y.key ∧ den ρ e.val = some y.val ∧ e.born = y.born ∧ keyEq x e.key = some true := by
  have hr : ∀ q, Instr.findNow dk u ms 0 = some q → (Instr.findKey k u ms).run P w = .ok q w := by
    intro q hq
    simp only [Instr.findKey, Sem.run_bind, run_underlying (und_ok hE h1) w, Result.andThen_ok, hq, Sem.run_pure]
  rcases findE_ok ht hx 0 h hd with ⟨g1, g2⟩ | ⟨e', j, y', g1, g2, g3, g4, g5, g6, g7, g8⟩
  · exact .inl ⟨g1, hr _ g2⟩
  · rw [Nat.zero_add] at g4
    exact .inr ⟨e', j, y', g1, g2, g3, hr _ g4, g5, g6, g7, g8⟩
noncomputable def lkE (E : Env) (m : T SObj) (t : TypeId) (v x : SV) (ok : Bool) : Option SV := ob (und E t) fun d => match d with
  | .map k e => ob (mapE m v) fun es => ob (und E k) fun dk => oi (keyTy dk x) (ob (findE x es) fun r =>
    ob (match r with | some y => some (y.val, true) | none => ob (zrE E e) fun z => some (z, false)) fun q =>
      some (Bool.rec (motive := fun _ => SV) q.1 (.tup [q.1, .bool q.2]) ok))
  | _ => none
theorem lkE_ok {P : Program} {E : Env} (hE : EnvOk P E) {ρ : Pl} {m : T SObj} {nx : Nat} {w0 : Base} {w : World} (h : Emb P ρ m nx w0 w) {t : TypeId} {v x r : SV} {ok : Bool} {u0 u1 : Value} (e : lkE E m t v x ok = some r) (hv : den ρ v = some u0) (hx : den ρ x = some u1) :
    ∃ u, (Instr.lookup t u0 u1 ok).run P w = .ok u w ∧ den ρ r = some u := by
  obtain ⟨d, h1, h2⟩ := ob_eq.1 e
  have hu := und_ok hE h1
  split at h2
  · rename_i k el
    obtain ⟨es, h3, h4⟩ := ob_eq.1 h2
    obtain ⟨dk, h5, h6⟩ := ob_eq.1 h4
    obtain ⟨h7, h8⟩ := oi_eq.1 h6
    obtain ⟨q, h9, h10⟩ := ob_eq.1 h8
    obtain ⟨⟨z, b⟩, h11, h12⟩ := ob_eq.1 h10
    cases h12
    have fin : ∀ zu, den ρ z = some zu → ∃ u, (Result.ok (if ok = true then Value.tuple #[zu, .bool b] else zu) w : Result Value) = .ok u w ∧ den ρ (Bool.rec (motive := fun _ => SV) z (.tup [z, .bool b]) ok) = some u := by
      intro zu hz
      cases ok with
      | false => exact ⟨_, rfl, hz⟩
      | true => exact ⟨_, rfl, den_tup_mk (us := [zu, .bool b]) (denL_cons.2 ⟨_, _, hz, denL_cons.2 ⟨_, _, den_bool ρ b, denL_nil ρ, rfl⟩, rfl⟩)⟩
    have ck := fun em => checkKey_ok hE h5 h7 hx em w
    have val : ∀ ms : List MapEntry, denE ρ es ms → ∃ zu, den ρ z = some zu ∧ (((Instr.findKey k u1 ms).run P w = .ok none w ∧ (zeroValue el).run P w = .ok zu w ∧ b = false) ∨ ∃ j, (Instr.findKey k u1 ms).run P w = .ok (some (j, zu)) w ∧ b = true) := by
      intro ms hms
      rcases findKey_ok hE h5 h7 hx h9 hms w with ⟨rfl, g2⟩ | ⟨e', j, y', rfl, g2, g3, g4, g5, g6, g7, g8⟩
      · obtain ⟨z', h13, h14⟩ := ob_eq.1 h11
        cases h14
        obtain ⟨zu, c1, c2, -⟩ := zrE_ok hE h13 ρ w
        exact ⟨zu, c2, .inl ⟨g2, c1, rfl⟩⟩
      · cases h11
        exact ⟨_, g6, .inr ⟨j, g4, rfl⟩⟩
    rcases mapE_ok h h3 hv with ⟨rfl, rfl⟩ | ⟨r', p, ms, c, rfl, rfl, b1, b2⟩
    · obtain ⟨zu, d1, d2⟩ := val [] trivial
      obtain ⟨u, f1, f2⟩ := fin zu d1
      refine ⟨u, ?_, f2⟩
      rw [← f1]
      rcases d2 with ⟨d3, d4, rfl⟩ | ⟨j, d3, rfl⟩
      · simp only [Instr.lookup, Sem.run_bind, run_underlying hu w, Result.andThen_ok, Sem.run_pure, ck, d3, d4]
      · simp only [Instr.lookup, Sem.run_bind, run_underlying hu w, Result.andThen_ok, Sem.run_pure, ck, d3]
    · obtain ⟨zu, d1, d2⟩ := val ms.toList b2
      obtain ⟨u, f1, f2⟩ := fin zu d1
      refine ⟨u, ?_, f2⟩
      rw [← f1]
      have hget : (getObj p).run P w = .ok (.map ms c) w := by simp [getObj, Sem.run, b1]
      rcases d2 with ⟨d3, d4, rfl⟩ | ⟨j, d3, rfl⟩
      · simp only [Instr.lookup, Sem.run_bind, run_underlying hu w, Result.andThen_ok, Sem.run_pure, hget, ck, d3, d4]
      · simp only [Instr.lookup, Sem.run_bind, run_underlying hu w, Result.andThen_ok, Sem.run_pure, hget, ck, d3]
  · cases h2
end Go.Proofs.YteblflebjhncbaaGreatDoor
