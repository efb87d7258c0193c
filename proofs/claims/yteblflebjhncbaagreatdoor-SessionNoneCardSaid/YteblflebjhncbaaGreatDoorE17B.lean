/-
  A run by the kernel: texts rune by rune, entries of maps.
-/
import Derived.Test.YteblflebjhncbaaGreatDoorE17
import Derived.Laws.RangeString
namespace Go.Proofs.YteblflebjhncbaaGreatDoor
open Go.RowKit

noncomputable def rgE (E : Env) (m : T SObj) (nx : Nat) (t : TypeId) (v : SV) : Option (SV × T SObj × Nat) := ob (und E t) fun d => match d, v with
  | .string, .str l => some (.ptr nx 0, m.put (some (.siter l 0)) nx, Nat.succ nx)
  | _, _ => none
variable [Orig]
theorem rgE_ok {P : Program} {E : Env} (hE : EnvOk P E) {ρ : Pl} {m : T SObj} {nx : Nat} {w0 : Base} {w : World} (h : Emb P ρ m nx w0 w) {t : TypeId} {v : SV} {u0 : Value} {r : SV × T SObj × Nat} (e : rgE E m nx t v = some r) (hv : den ρ v = some u0) :
    ∃ ρ' u w', Le ρ ρ' ∧ (Instr.range t u0).run P w = .ok u w' ∧ den ρ' r.1 = some u ∧ Emb P ρ' r.2.1 r.2.2 w0 w' := by
  obtain ⟨d, h1, h2⟩ := ob_eq.1 e
  split at h2
  · cases h2
    obtain ⟨rfl, hl⟩ := den_str hv
    obtain ⟨g1, g2⟩ := h.new 0 (o := .siter _ 0) (ob := .stringIter (bytesOf _) 0) ⟨rfl, rfl, hl⟩
    exact ⟨_, _, _, g2, run_range_string w t _ (und_ok hE h1), den_ptr_mk (pset_same _ _ _) 0, g1⟩
  · cases h2
noncomputable def nxE (m : T SObj) (v : SV) (isS : Bool) : Option (SV × T SObj) := match v with
  | .ptr b o => oi (Nat.beq o 0) (oi isS (ob (m.get b) fun x => match x with
    | .siter s pos => Bool.rec (motive := fun _ => Option (SV × T SObj)) (some (.tup [.bool false], m)) (ob (nth pos s) fun c => oi (Nat.blt c 128) (some (.tup [.bool true, .int .i64 (.ofNat pos), .int .i32 (.ofNat c)], m.put (some (.siter s (Nat.succ pos))) b))) (Nat.blt pos (len s))
    | _ => none))
  | _ => none
theorem Emb.setObj {P : Program} {ρ : Pl} {m : T SObj} {nx : Nat} {w0 : Base} {w : World} (h : Emb P ρ m nx w0 w) {r : Nat} {o o' : SObj} (hr : m.get r = some o) {x : Nat × Nat} (hx : ρ r = some x) {ob0 ob' : Obj} (hw : w.heap[x.1]? = some ob0) (hn : ∀ c e z, ob0 ≠ .cells c e z) (hd : ObjRel P ρ x o' ob') :
    ∃ w', (setObj x.1 ob').run P w = .ok () w' ∧ Emb P ρ (m.put (some o') r) nx w0 w' := by
  refine ⟨{ w with heap := w.heap.setIfInBounds x.1 ob' }, ?_, ?_⟩
  · cases ob0 <;> first | exact absurd rfl (hn _ _ _) | simp [Go.setObj, Sem.run, hw]
  · have hlt : x.1 < w.heap.size := (Array.getElem?_eq_some_iff.1 hw).1
    exact h.upd (o' := o') (ob' := ob') hr hx rfl rfl rfl (by simp) (by simp [hlt]) (fun k hk => by simp [Array.getElem?_setIfInBounds_ne (Ne.symm hk)]) hd
theorem nxE_ok {P : Program} {ρ : Pl} {m : T SObj} {nx : Nat} {w0 : Base} {w : World} (h : Emb P ρ m nx w0 w) {v : SV} {isS : Bool} {ty : TypeId} {u0 : Value} {r : SV × T SObj} (e : nxE m v isS = some r) (hv : den ρ v = some u0) :
    ∃ u w', (Instr.next u0 isS ty).run P w = .ok u w' ∧ den ρ r.1 = some u ∧ Emb P ρ r.2 nx w0 w' := by
  unfold nxE at e
  split at e
  case h_2 => cases e
  rename_i b o
  obtain ⟨h1, h2⟩ := oi_eq.1 e
  obtain ⟨h3, h4⟩ := oi_eq.1 h2
  obtain ⟨x, h5, h6⟩ := ob_eq.1 h4
  obtain rfl := nbeq_iff.1 h1
  subst h3
  obtain ⟨y, g1, rfl⟩ := den_ptr hv
  split at h6
  case h_2 => cases h6
  rename_i s pos
  obtain ⟨y', ob', a1, -, a3, a4⟩ := h.obj b _ h5
  rw [g1] at a1
  cases a1
  cases ob' <;> try exact a4.elim
  rename_i s' pos'
  obtain ⟨rfl, rfl, hl⟩ := a4
  have hget : (getObj y.1).run P w = .ok (.stringIter (bytesOf s) pos') w := by simp [getObj, Sem.run, a3]
  by_cases hp : pos' < s.length
  · have hb : Nat.blt pos' (len s) = true := by rw [len_ok]; exact Nat.ble_eq_true_of_le hp
    rw [hb] at h6
    have h6' : (ob (nth pos' s) fun c => oi (Nat.blt c 128) (some (SV.tup [.bool true, .int .i64 (.ofNat pos'), .int .i32 (.ofNat c)], m.put (some (.siter s (Nat.succ pos'))) b))) = some r := h6
    obtain ⟨c, h7, h8⟩ := ob_eq.1 h6'
    obtain ⟨h9, h10⟩ := oi_eq.1 h8
    cases h10
    rw [nth_ok] at h7
    have hc := blt_true h9
    have hps : pos' < (bytesOf s).size := by rw [bytesOf_size]; exact hp
    have hbyte : ((bytesOf s)[pos']'hps).toNat = c := by
      obtain ⟨b', k1, k2⟩ := bytesOf_get h7 (hl c (List.mem_of_getElem? h7))
      rw [ByteArray.getElem?_lt' _ _ hps] at k1
      cases k1
      exact k2
    have hdec : Utf8.decode (bytesOf s) pos' = (c, 1) := by rw [decode_ascii _ _ hps (by omega), hbyte]
    obtain ⟨w', f1, f2⟩ := h.setObj h5 g1 a3 (fun _ _ _ hh => by cases hh) (o' := .siter s (Nat.succ pos')) (ob' := .stringIter (bytesOf s) (pos' + 1)) ⟨rfl, rfl, hl⟩
    refine ⟨_, w', ?_, den_tup_mk (us := [.bool true, .int .i64 pos', .int .i32 c]) (denL_cons.2 ⟨_, _, den_bool _ _, denL_cons.2 ⟨_, _, den_int _ _ _, denL_cons.2 ⟨_, _, den_int _ _ _, denL_nil ρ, rfl⟩, rfl⟩, rfl⟩), f2⟩
    simp only [Instr.next, Sem.run_bind, hget, Result.andThen_ok]
    rw [if_pos hps]
    simp only [hdec, Sem.run_bind, f1, Result.andThen_ok, Sem.run_pure]
    rfl
  · have hb : Nat.blt pos' (len s) = false := by
      rw [len_ok]
      cases hq : Nat.blt pos' s.length with
      | false => rfl
      | true => exact absurd (blt_true hq) hp
    rw [hb] at h6
    cases h6
    have hps : ¬ pos' < (bytesOf s).size := by rw [bytesOf_size]; exact hp
    refine ⟨_, w, ?_, den_tup_mk (us := [.bool false]) (denL_cons.2 ⟨_, _, den_bool _ _, denL_nil ρ, rfl⟩), h⟩
    simp only [Instr.next, Sem.run_bind, hget, Result.andThen_ok]
    rw [if_neg hps]
    rfl

/-- an entry to be written; what it has, and its stamp. -/
noncomputable def entE (x z : SV) (clock : Nat) (es : List SE) : Option ((SV × Nat) × List SE × Nat) := List.rec (motive := fun _ => Option ((SV × Nat) × List SE × Nat)) (some ((z, clock), [⟨x, z, clock⟩], Nat.succ clock)) (fun e es' ih => ob (keyEq x e.key) fun b => Bool.rec (motive := fun _ => Option ((SV × Nat) × List SE × Nat)) (ob ih fun r => some (r.1, e :: r.2.1, r.2.2)) (some ((e.val, e.born), ⟨x, e.val, e.born⟩ :: es', clock)) b) es
omit [Orig] in
theorem entE_ok {ρ : Pl} {x z : SV} {clock : Nat} {u uz : Value} {d : TypeDesc} (ht : keyTy d x = true) (hx : den ρ x = some u) (hz : den ρ z = some uz) : ∀ {es : List SE} {ms : List MapEntry} {r : (SV × Nat) × List SE × Nat} (i : Nat), entE x z clock es = some r → denE ρ es ms →
    (Instr.findNow d u ms i = some none ∧ r.1 = (z, clock) ∧ denE ρ r.2.1 (ms ++ [⟨u, uz, clock⟩]) ∧ r.2.2 = clock + 1) ∨ ∃ j y, ms[j]? = some y ∧ Instr.findNow d u ms i = some (some (i + j, y.val)) ∧ Instr.sameBits 10000 y.key u = true ∧ den ρ r.1.1 = some y.val ∧ r.1.2 = y.born ∧ denE ρ r.2.1 (ms.modify j fun e => { e with key := u }) ∧ r.2.2 = clock
  | [], [], r, i, h, hd => by cases h; exact .inl ⟨rfl, rfl, ⟨hx, hz, rfl, trivial⟩, rfl⟩
  | e :: es, y :: ms, r, i, h, ⟨d1, d2, d3, d4⟩ => by
    have h' : (ob (keyEq x e.key) fun b => Bool.rec (motive := fun _ => Option ((SV × Nat) × List SE × Nat)) (ob (entE x z clock es) fun r => some (r.1, e :: r.2.1, r.2.2)) (some ((e.val, e.born), ⟨x, e.val, e.born⟩ :: es, clock)) b) = some r := h
    obtain ⟨b, h1, h2⟩ := ob_eq.1 h'
    have hs := keyEq_ok h1 ht hx d1
    cases b with
    | true =>
      cases h2
      exact .inr ⟨0, y, rfl, by simp [Instr.findNow, hs], keyEq_bits h1 hx d1 9999, d2, d3, ⟨hx, d2, d3, d4⟩, rfl⟩
    | false =>
      have h2' : (ob (entE x z clock es) fun r => some (r.1, e :: r.2.1, r.2.2)) = some r := h2
      obtain ⟨r', h3, h4⟩ := ob_eq.1 h2'
      cases h4
      rcases entE_ok ht hx hz (i + 1) h3 d4 with ⟨g1, g2, g3, g4⟩ | ⟨j, y', g1, g2, g3, g4, g5, g6, g7⟩
      · exact .inl ⟨by simp [Instr.findNow, hs, g1], g2, ⟨d1, d2, d3, g3⟩, g4⟩
      · exact .inr ⟨j + 1, y', g1, by simp [Instr.findNow, hs, g2]; omega, g3, g4, g5, by rw [List.modify_succ_cons]; exact ⟨d1, d2, d3, g6⟩, g7⟩
noncomputable def meE (E : Env) (m : T SObj) (t : TypeId) (a x : SV) : Option (SV × T SObj) := ob (und E t) fun d => match d with
  | .map k el => match a with
    | .map r => ob (m.get r) fun o => match o with
      | .map es clock => ob (und E k) fun dk => oi (keyTy dk x) (ob (zrE E el) fun z => ob (entE x z clock es) fun q => some (.tup [q.1.1, .int .i64 (.ofNat q.1.2)], m.put (some (.map q.2.1 q.2.2)) r))
      | _ => none
    | _ => none
  | _ => none
theorem meE_ok {P : Program} {E : Env} (hE : EnvOk P E) {ρ : Pl} {m : T SObj} {nx : Nat} {w0 : Base} {w : World} (h : Emb P ρ m nx w0 w) {t : TypeId} {a x : SV} {ua ux : Value} {r : SV × T SObj} (e : meE E m t a x = some r) (ha : den ρ a = some ua) (hx : den ρ x = some ux) :
    ∃ u w', (Instr.mapEntry t ua ux).run P w = .ok u w' ∧ den ρ r.1 = some u ∧ Emb P ρ r.2 nx w0 w' := by
  obtain ⟨d, h1, h2⟩ := ob_eq.1 e
  have hu := und_ok hE h1
  split at h2
  case h_2 => cases h2
  rename_i k el
  split at h2
  case h_2 => cases h2
  rename_i r'
  obtain ⟨o, h3, h4⟩ := ob_eq.1 h2
  split at h4
  case h_2 => cases h4
  rename_i es clock
  obtain ⟨dk, h5, h6⟩ := ob_eq.1 h4
  obtain ⟨h7, h8⟩ := oi_eq.1 h6
  obtain ⟨z, h9, h10⟩ := ob_eq.1 h8
  obtain ⟨q, h11, h12⟩ := ob_eq.1 h10
  cases h12
  obtain ⟨y, g1, rfl⟩ := den_map ha
  obtain ⟨y', ob', a1, -, a3, a4⟩ := h.obj r' _ h3
  rw [g1] at a1
  cases a1
  cases ob' <;> try exact a4.elim
  rename_i ms c
  obtain ⟨rfl, a5⟩ := a4
  obtain ⟨zu, z1, z2, -⟩ := zrE_ok hE h9 ρ w
  have hget : (getObj y.1).run P w = .ok (.map ms c) w := by simp [getObj, Sem.run, a3]
  have ck := checkKey_ok hE h5 h7 hx false w
  have fk : ∀ q, Instr.findNow dk ux ms.toList 0 = some q → (Instr.findKey k ux ms.toList).run P w = .ok q w := by
    intro q hq
    simp only [Instr.findKey, Sem.run_bind, run_underlying (und_ok hE h5) w, Result.andThen_ok, hq, Sem.run_pure]
  rcases entE_ok h7 hx z2 0 h11 a5 with ⟨b1, b2, b3, b4⟩ | ⟨j, y', b1, b2, b3, b4, b5, b6, b7⟩
  · obtain ⟨w', c1, c2⟩ := h.setMap (ms := ms.push { key := ux, val := zu, born := c }) (c := c + 1) (es := q.2.1) h3 g1 a3 (by simpa using b3)
    rw [← b4] at c2
    refine ⟨_, w', ?_, den_tup_mk (us := [zu, goInt c]) (denL_cons.2 ⟨_, _, by rw [b2]; exact z2, denL_cons.2 ⟨_, _, by rw [b2]; exact den_int _ _ _, denL_nil ρ, rfl⟩, rfl⟩), c2⟩
    simp only [Instr.mapEntry, Sem.run_bind, run_underlying hu w, Result.andThen_ok, hget, ck, fk _ b1, z1, c1, Sem.run_pure]
  · rw [Nat.zero_add] at b2
    obtain ⟨w', c1, c2⟩ := h.setMap (ms := ms.modify j fun e => { e with key := ux }) (c := c) (es := q.2.1) h3 g1 a3 (by rw [Array.toList_modify]; exact b6)
    rw [← b7] at c2
    have hj : ms[j]? = some y' := by simpa using b1
    refine ⟨_, w', ?_, den_tup_mk (us := [y'.val, goInt y'.born]) (denL_cons.2 ⟨_, _, b4, denL_cons.2 ⟨_, _, by rw [b5]; exact den_int _ _ _, denL_nil ρ, rfl⟩, rfl⟩), c2⟩
    have hk : ((ms[j]?).map (·.key)).getD ux = y'.key := by rw [hj]; rfl
    have kt : (Instr.keyThatStays y'.key ux).run P w = .ok ux w := by unfold Instr.keyThatStays; rw [if_pos b3]; rfl
    simp only [Instr.mapEntry, Sem.run_bind, run_underlying hu w, Result.andThen_ok, hget, ck, fk _ b2, hk, kt, c1, Sem.run_pure]
    rw [hj]
    rfl
noncomputable def estE (n : Nat) (v : SV) (es : List SE) : Option (List SE) := List.rec (motive := fun _ => Option (List SE)) none (fun e es' ih => Bool.rec (motive := fun _ => Option (List SE)) (ob ih fun r => some (e :: r)) (some (⟨e.key, v, e.born⟩ :: es')) (Nat.beq e.born n)) es
omit [Orig] in
theorem estE_ok {ρ : Pl} {n : Nat} {v : SV} {uv : Value} (hv : den ρ v = some uv) : ∀ {es : List SE} {ms : List MapEntry} {r : List SE}, estE n v es = some r → denE ρ es ms → ∃ j, ms.findIdx? (fun e => (e.born : Int) == (n : Int)) = some j ∧ denE ρ r (ms.modify j fun e => { e with val := uv })
  | [], [], r, h, hd => by cases h
  | e :: es, y :: ms, r, h, ⟨d1, d2, d3, d4⟩ => by
    have h' : Bool.rec (motive := fun _ => Option (List SE)) (ob (estE n v es) fun r => some (e :: r)) (some (⟨e.key, v, e.born⟩ :: es)) (Nat.beq e.born n) = some r := h
    by_cases hb : e.born = n
    · rw [nbeq_iff.2 hb] at h'
      cases h'
      exact ⟨0, by simp [List.findIdx?_cons, ← d3, hb], d1, hv, d3, d4⟩
    · rw [nbeq hb] at h'
      have h2 : (ob (estE n v es) fun r => some (e :: r)) = some r := h'
      obtain ⟨r', h3, h4⟩ := ob_eq.1 h2
      cases h4
      obtain ⟨j, g1, g2⟩ := estE_ok hv h3 d4
      refine ⟨j + 1, ?_, by rw [List.modify_succ_cons]; exact ⟨d1, d2, d3, g2⟩⟩
      rw [List.findIdx?_cons, g1]
      have : ((y.born : Int) == (n : Int)) = false := by rw [← d3, beq_eq_false_iff_ne]; omega
      rw [this]
      rfl
noncomputable def esE (m : T SObj) (a s v : SV) : Option (T SObj) := match a, s with
  | .map r, .int _ (.ofNat n) => ob (m.get r) fun o => match o with
    | .map es clock => ob (estE n v es) fun es' => some (m.put (some (.map es' clock)) r)
    | _ => none
  | _, _ => none
theorem esE_ok {P : Program} {ρ : Pl} {m m' : T SObj} {nx : Nat} {w0 : Base} {w : World} (h : Emb P ρ m nx w0 w) {t : TypeId} {a s v : SV} {ua us uv : Value} (e : esE m a s v = some m') (ha : den ρ a = some ua) (hs : den ρ s = some us) (hv : den ρ v = some uv) :
    ∃ w', (Instr.entryStore t ua us uv).run P w = .ok () w' ∧ Emb P ρ m' nx w0 w' := by
  unfold esE at e
  split at e
  case h_2 => cases e
  rename_i r k n
  obtain ⟨o, h3, h4⟩ := ob_eq.1 e
  split at h4
  case h_2 => cases h4
  rename_i es clock
  obtain ⟨es', h5, h6⟩ := ob_eq.1 h4
  cases h6
  obtain ⟨y, g1, rfl⟩ := den_map ha
  rw [den_int] at hs
  cases hs
  obtain ⟨y', ob', a1, -, a3, a4⟩ := h.obj r _ h3
  rw [g1] at a1
  cases a1
  cases ob' <;> try exact a4.elim
  rename_i ms c
  obtain ⟨rfl, a5⟩ := a4
  have hget : (getObj y.1).run P w = .ok (.map ms c) w := by simp [getObj, Sem.run, a3]
  obtain ⟨j, b1, b2⟩ := estE_ok hv h5 a5
  obtain ⟨w', c1, c2⟩ := h.setMap (ms := ms.modify j fun e => { e with val := uv }) (c := c) (es := es') h3 g1 a3 (by rw [Array.toList_modify]; exact b2)
  refine ⟨w', ?_, c2⟩
  have hf : ms.findIdx? (fun e => (e.born : Int) == (n : Int)) = some j := by
    obtain ⟨l⟩ := ms
    rw [List.findIdx?_toArray]
    exact b1
  have hf' : ms.findIdx? (fun e => (e.born : Int) == Int.ofNat n) = some j := hf
  simp only [Instr.entryStore, Sem.run_bind, Sem.run_pure, Result.andThen_ok, hget, asInt, asIntOf, hf', c1]
noncomputable def delE (x : SV) (es : List SE) : Option (List SE) := List.rec (motive := fun _ => Option (List SE)) (some []) (fun e es' ih => ob (keyEq x e.key) fun b => Bool.rec (motive := fun _ => Option (List SE)) (ob ih fun r => some (e :: r)) (some es') b) es
omit [Orig] in
theorem delE_ok {ρ : Pl} {x : SV} {u : Value} {d : TypeDesc} (ht : keyTy d x = true) (hx : den ρ x = some u) : ∀ {es : List SE} {ms : List MapEntry} {r : List SE} (i : Nat), delE x es = some r → denE ρ es ms →
    (Instr.findNow d u ms i = some none ∧ denE ρ r ms) ∨ ∃ j y, ms[j]? = some y ∧ Instr.findNow d u ms i = some (some (i + j, y.val)) ∧ denE ρ r (ms.eraseIdx j)
  | [], [], r, i, h, hd => by cases h; exact .inl ⟨rfl, trivial⟩
  | e :: es, y :: ms, r, i, h, ⟨d1, d2, d3, d4⟩ => by
    have h' : (ob (keyEq x e.key) fun b => Bool.rec (motive := fun _ => Option (List SE)) (ob (delE x es) fun r => some (e :: r)) (some es) b) = some r := h
    obtain ⟨b, h1, h2⟩ := ob_eq.1 h'
    have hs := keyEq_ok h1 ht hx d1
    cases b with
    | true =>
      cases h2
      exact .inr ⟨0, y, rfl, by simp [Instr.findNow, hs], d4⟩
    | false =>
      have h2' : (ob (delE x es) fun r => some (e :: r)) = some r := h2
      obtain ⟨r', h3, h4⟩ := ob_eq.1 h2'
      cases h4
      rcases delE_ok ht hx (i + 1) h3 d4 with ⟨g1, g2⟩ | ⟨j, y', g1, g2, g3⟩
      · exact .inl ⟨by simp [Instr.findNow, hs, g1], d1, d2, d3, g2⟩
      · exact .inr ⟨j + 1, y', g1, by simp [Instr.findNow, hs, g2]; omega, d1, d2, d3, g3⟩
noncomputable def dlE (E : Env) (m : T SObj) (t : TypeId) (a x : SV) : Option (T SObj) := ob (und E t) fun d => match d with
  | .map k _ => ob (und E k) fun dk => oi (keyTy dk x) (match a with
    | .nmap => some m
    | .map r => ob (m.get r) fun o => match o with
      | .map es clock => ob (delE x es) fun es' => some (m.put (some (.map es' clock)) r)
      | _ => none
    | _ => none)
  | _ => none
theorem dlE_ok {P : Program} {E : Env} (hE : EnvOk P E) {ρ : Pl} {m m' : T SObj} {nx : Nat} {w0 : Base} {w : World} (h : Emb P ρ m nx w0 w) {ts : Array TypeId} {ty t : TypeId} (hts : ts[0]? = some t) {a x : SV} {ua ux : Value} (e : dlE E m t a x = some m') (ha : den ρ a = some ua) (hx : den ρ x = some ux) :
    ∃ w', (Builtin.delete_ ts ty #[ua, ux]).run P w = .ok undef w' ∧ Emb P ρ m' nx w0 w' := by
  obtain ⟨d, h1, h2⟩ := ob_eq.1 e
  have hu := und_ok hE h1
  split at h2
  case h_2 => cases h2
  rename_i k el
  obtain ⟨dk, h5, h6⟩ := ob_eq.1 h2
  obtain ⟨h7, h8⟩ := oi_eq.1 h6
  have ck := fun em => checkKey_ok hE h5 h7 hx em w
  unfold Builtin.delete_
  simp only [hts, Array.getElem?_eq_getElem, List.size_toArray, List.length_cons, List.length_nil, List.getElem_toArray, List.getElem_cons_zero, List.getElem_cons_succ, Nat.reduceAdd, Nat.reduceLT, Nat.zero_lt_succ, Nat.lt_add_one]
  simp only [Sem.run_bind, run_underlying hu w, Result.andThen_ok]
  split at h8
  · cases h8
    rw [den_nmap] at ha
    cases ha
    exact ⟨w, by simp only [Sem.run_bind, ck, Result.andThen_ok, Sem.run_pure]; rfl, h⟩
  · rename_i r
    obtain ⟨o, h3, h4⟩ := ob_eq.1 h8
    split at h4
    case h_2 => cases h4
    rename_i es clock
    obtain ⟨es', h9, h10⟩ := ob_eq.1 h4
    cases h10
    obtain ⟨y, g1, rfl⟩ := den_map ha
    obtain ⟨y', ob', a1, -, a3, a4⟩ := h.obj r _ h3
    rw [g1] at a1
    cases a1
    cases ob' <;> try exact a4.elim
    rename_i ms c
    obtain ⟨rfl, a5⟩ := a4
    have hget : (getObj y.1).run P w = .ok (.map ms c) w := by simp [getObj, Sem.run, a3]
    have fk : ∀ q, Instr.findNow dk ux ms.toList 0 = some q → (Instr.findKey k ux ms.toList).run P w = .ok q w := by
      intro q hq
      simp only [Instr.findKey, Sem.run_bind, run_underlying (und_ok hE h5) w, Result.andThen_ok, hq, Sem.run_pure]
    rcases delE_ok h7 hx 0 h9 a5 with ⟨b1, b2⟩ | ⟨j, y', b1, b2, b3⟩
    · obtain ⟨w', c1, c2⟩ := h.setMap (ms := ms) (c := c) (es := es') h3 g1 a3 b2
      refine ⟨w', ?_, c2⟩
      simp only [Sem.run_bind, hget, Result.andThen_ok, ck, fk _ b1, c1, Sem.run_pure]
      rfl
    · rw [Nat.zero_add] at b2
      obtain ⟨w', c1, c2⟩ := h.setMap (ms := ms.eraseIdxIfInBounds j) (c := c) (es := es') h3 g1 a3 (by rw [Array.toList_eraseIdxIfInBounds]; exact b3)
      refine ⟨w', ?_, c2⟩
      simp only [Sem.run_bind, hget, Result.andThen_ok, ck, fk _ b2, c1, Sem.run_pure]
      rfl
  · cases h8
end Go.Proofs.YteblflebjhncbaaGreatDoor
