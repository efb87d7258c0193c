/-
  A run by the kernel: what makes memory: maps, slices.
-/
import Derived.Test.YteblflebjhncbaaGreatDoorE13
import Derived.Laws.MakeOwn
import Derived.Great.BuildSlice
namespace Go.Proofs.YteblflebjhncbaaGreatDoor
open Go.RowKit

noncomputable def repE (n : Nat) (zs : List SV) : List SV := Nat.rec (motive := fun _ => List SV) [] (fun _ ih => app zs ih) n
theorem repE_den {ρ : Pl} {zs : List SV} {us : List Value} (h : denL ρ zs = some us) : ∀ n, denL ρ (repE n zs) = some (List.replicate n us).flatten
  | 0 => denL_nil ρ
  | n + 1 => by
    show denL ρ (app zs (repE n zs)) = _
    rw [app_ok, List.replicate_succ, List.flatten_cons]
    exact denL_append h (repE_den h n)
theorem repE_one {zs : List SV} (h : zs.all SV.one = true) : ∀ n, (repE n zs).all SV.one = true
  | 0 => rfl
  | n + 1 => by show (app zs (repE n zs)).all SV.one = true; rw [app_ok, List.all_append, h, repE_one h n]; rfl
theorem range_rep (us : List Value) : ∀ n, (List.range (n * us.length)).map (fun i => us.toArray[i % us.toArray.size]!) = (List.replicate n us).flatten
  | 0 => by simp
  | n + 1 => by
    rw [Nat.add_mul, Nat.one_mul, List.range_add, List.map_append, range_rep us n, List.replicate_succ', List.flatten_append, List.map_map]
    congr 1
    simp only [List.flatten_cons, List.flatten_nil, List.append_nil]
    apply List.ext_getElem
    · simp
    · intro i h1 h2
      simp only [List.length_map, List.length_range] at h1
      simp [Nat.mod_eq_of_lt h1, h1]
theorem made_rep (z : Value) (n s : Nat) (h : z.cells.size = s) : (Array.range (n * s)).map (z.cells[· % z.cells.size]!) = (List.replicate n z.cells.toList).flatten.toArray := by
  apply Array.ext'
  have := range_rep z.cells.toList n
  simp only [Array.length_toList, h] at this
  simp only [Array.toList_map, Array.toList_range]
  rw [← this]
  simp [h]

noncomputable def mmkE (m : T SObj) (nx : Nat) : SV × T SObj × Nat := (.map nx, m.put (some (.map [] 0)) nx, Nat.succ nx)
theorem den_map_mk {ρ : Pl} {r : Nat} {x : Nat × Nat} (h : ρ r = some x) : den ρ (.map r) = some (.map (some x.1)) := by unfold den; rw [h]; rfl
variable [Orig]
theorem mmkE_ok {P : Program} {ρ : Pl} {m : T SObj} {nx : Nat} {w0 : Base} {w : World} (h : Emb P ρ m nx w0 w) (t : TypeId) (r : Option Value) (hr : ∀ v, r = some v → (∃ k e, P.underlying t = some (.map k e)) ∧ ∃ k n, v = .int k n) :
    ∃ ρ' u w', Le ρ ρ' ∧ (Instr.makeMap t r).run P w = .ok u w' ∧ den ρ' (mmkE m nx).1 = some u ∧ Emb P ρ' (mmkE m nx).2.1 (mmkE m nx).2.2 w0 w' := by
  obtain ⟨g1, g2⟩ := h.new 0 (o := .map [] 0) (ob := .map #[] 0) ⟨rfl, trivial⟩
  refine ⟨_, _, _, g2, ?_, den_map_mk (pset_same _ _ _), g1⟩
  cases r with
  | none => simp only [Instr.makeMap, Sem.run_bind, Sem.run_pure, Result.andThen_ok, run_newObj_alloc]
  | some v =>
    obtain ⟨⟨k, e, hu⟩, k', n, rfl⟩ := hr v rfl
    simp only [Instr.makeMap, Sem.run_bind, Sem.run_pure, Result.andThen_ok, run_newObj_alloc, run_underlying hu w, asInt, asIntOf]
/-- make([]T, l, c). -/
noncomputable def mslE (E : Env) (m : T SObj) (nx : Nat) (t : TypeId) (l c : SV) : Option (SV × T SObj × Nat) := ob (und E t) fun d => match d with
  | .slice e => ob (E.ty.get e) fun i => ob (zrE E e) fun z => ob (bdE c 1152921504606846976) fun c' => ob (bdE l c') fun l' =>
    oi (Nat.ble (Nat.mul i.bytes c') 140737488355328) (oi (match z with | .tup _ => false | _ => true) (oi (Nat.beq (len (cellsOf z)) i.size) (some (.slc nx 0 l' c', m.put (some (.cells (repE c' (cellsOf z)) e false)) nx, Nat.succ nx))))
  | _ => none
omit [Orig] in
theorem bdE_int {v : SV} {y i : Nat} (h : bdE v y = some i) : ∃ k, v = .int k (i : Int) ∧ i ≤ y := by
  unfold bdE at h
  split at h
  · rename_i k j
    obtain ⟨h1, h2⟩ := oi_eq.1 h
    cases h2
    exact ⟨k, rfl, nble_iff.1 h1⟩
  · cases h
theorem mslE_ok {P : Program} {E : Env} (hE : EnvOk P E) {ρ : Pl} {m : T SObj} {nx : Nat} {w0 : Base} {w : World} (h : Emb P ρ m nx w0 w) {t : TypeId} {l c : SV} {ul uc : Value} {r : SV × T SObj × Nat} (e : mslE E m nx t l c = some r) (hl : den ρ l = some ul) (hc : den ρ c = some uc) :
    ∃ ρ' u w', Le ρ ρ' ∧ (Instr.makeSlice t ul uc).run P w = .ok u w' ∧ den ρ' r.1 = some u ∧ Emb P ρ' r.2.1 r.2.2 w0 w' := by
  obtain ⟨d, h1, h2⟩ := ob_eq.1 e
  have hu := und_ok hE h1
  split at h2
  · rename_i el
    obtain ⟨i, h3, h4⟩ := ob_eq.1 h2
    obtain ⟨z, h5, h6⟩ := ob_eq.1 h4
    obtain ⟨c', h7, h8⟩ := ob_eq.1 h6
    obtain ⟨l', h9, h10⟩ := ob_eq.1 h8
    obtain ⟨h11, h12⟩ := oi_eq.1 h10
    obtain ⟨h13, h14⟩ := oi_eq.1 h12
    obtain ⟨h15, h16⟩ := oi_eq.1 h14
    cases h16
    obtain ⟨kc, rfl, bc⟩ := bdE_int h7
    obtain ⟨kl, rfl, bl⟩ := bdE_int h9
    rw [den_int] at hl hc
    cases hl; cases hc
    rw [nble_iff] at h11
    have h11' : i.bytes * c' ≤ 140737488355328 := h11
    rw [nbeq_iff, len_ok] at h15
    have hi := hE.ty _ _ h3
    obtain ⟨zu, -, a2, it, a3, a4⟩ := zrE_ok hE h5 ρ w
    rw [hi] at a3
    cases a3
    have hz := cellsOf_den a2
    have hone := cellsOf_one a2 (fun l hl => by rw [hl] at h13; cases h13)
    have hzs : zu.cells.size = i.size := by rw [← h15, ← denL_len hz]; simp
    have hb : (i.bytes : Int) * (c' : Int) ≤ 281474976710656 := by
      have : ((i.bytes * c' : Nat) : Int) ≤ 281474976710656 := by omega
      rwa [Int.natCast_mul] at this
    have hrun := run_make (P := P) w t el i zu hu hi a4 kl kc l' c' (by omega) (by omega) hb (by omega)
    have hmade : madeCells zu.cells (c' * i.size) = (List.replicate c' zu.cells.toList).flatten.toArray := made_rep zu c' i.size hzs
    simp only [Int.toNat_natCast, hmade] at hrun
    have hle := pset_le (b := nx) (w.heap.size, 0) (h.fresh nx (Nat.le_refl _)).1
    have hc := denL_mono hle _ (repE_den hz c')
    obtain ⟨g1, g2⟩ := h.new 0 (obj_cells (P := P) (e := el) hc (repE_one hone c'))
    exact ⟨_, _, _, g2, hrun, den_slc_mk (pset_same _ _ _) 0 l' c', g1⟩
  · cases h2
/-- a slice literal. -/
noncomputable def bslE (E : Env) (m : T SObj) (nx : Nat) (t : TypeId) (n : Nat) (parts : List (Nat × SV)) : Option (SV × T SObj × Nat) := ob (und E t) fun d => match d with
  | .slice e => ob (E.ty.get e) fun i => ob (zrE E e) fun z => oi (Nat.blt 0 (Nat.mul n i.size)) (oi (Nat.ble (Nat.mul n i.size) 16777216) (oi (match z with | .tup _ => false | _ => true) (oi (Nat.beq (len (cellsOf z)) i.size)
      (ob (fillE (fun j => some (Nat.mul j i.size, i.size)) parts (repE n (cellsOf z))) fun cs => some (.slc nx 0 n n, m.put (some (.cells cs e false)) nx, Nat.succ nx)))))
  | _ => none
theorem bslE_ok {P : Program} {E : Env} (hE : EnvOk P E) {ρ : Pl} {m : T SObj} {nx : Nat} {w0 : Base} {w : World} (h : Emb P ρ m nx w0 w) {t : TypeId} {n : Nat} {parts : List (Nat × SV)} {ps : List (Nat × Value)} {r : SV × T SObj × Nat} (e : bslE E m nx t n parts = some r) (hp : denP ρ parts ps) :
    ∃ ρ' u w', Le ρ ρ' ∧ (Instr.buildSlice t n ps.toArray).run P w = .ok u w' ∧ den ρ' r.1 = some u ∧ Emb P ρ' r.2.1 r.2.2 w0 w' := by
  obtain ⟨d, h1, h2⟩ := ob_eq.1 e
  have hu := und_ok hE h1
  split at h2
  · rename_i el
    obtain ⟨i, h3, h4⟩ := ob_eq.1 h2
    obtain ⟨z, h5, h6⟩ := ob_eq.1 h4
    obtain ⟨h7, h8⟩ := oi_eq.1 h6
    obtain ⟨h9, h10⟩ := oi_eq.1 h8
    obtain ⟨h11, h12⟩ := oi_eq.1 h10
    obtain ⟨h13, h14⟩ := oi_eq.1 h12
    obtain ⟨cs, h15, h16⟩ := ob_eq.1 h14
    cases h16
    have h7' : 0 < n * i.size := blt_true h7
    rw [nble_iff] at h9
    have h9' : n * i.size ≤ 16777216 := h9
    rw [nbeq_iff, len_ok] at h13
    have hi := hE.ty _ _ h3
    obtain ⟨zu, -, a2, it, a3, a4⟩ := zrE_ok hE h5 ρ w
    rw [hi] at a3
    cases a3
    have hz := cellsOf_den a2
    have hone := cellsOf_one a2 (fun l hl => by rw [hl] at h11; cases h11)
    have hzs : zu.cells.size = i.size := by rw [← h13, ← denL_len hz]; simp
    obtain ⟨rs, b1, b2, b3⟩ := fillE_ok (pl' := fun j => some (j * i.size, i.size)) (fun j y hy => hy) h15 hp (repE_den hz n) (repE_one hone n)
    rw [← made_rep zu n i.size hzs] at b1
    have hrun := run_buildSlice (P := P) w t el n ps.toArray rs.toArray i zu hu hi a4 (by omega) (by omega) (by simpa using b1)
    have hle := pset_le (b := nx) (w.heap.size, 0) (h.fresh nx (Nat.le_refl _)).1
    obtain ⟨g1, g2⟩ := h.new 0 (obj_cells (P := P) (e := el) (denL_mono hle _ b2) b3)
    exact ⟨_, _, _, g2, hrun, den_slc_mk (pset_same _ _ _) 0 n n, g1⟩
  · cases h2

/-- m[k] = v. -/
noncomputable def putE (x v : SV) (clock : Nat) (es : List SE) : Option (List SE × Nat) := List.rec (motive := fun _ => Option (List SE × Nat)) (some ([⟨x, v, clock⟩], Nat.succ clock)) (fun e es' ih => ob (keyEq x e.key) fun b => Bool.rec (motive := fun _ => Option (List SE × Nat)) (ob ih fun r => some (e :: r.1, r.2)) (some (⟨x, v, e.born⟩ :: es', clock)) b) es
omit [Orig] in
theorem keyEq_bits {ρ : Pl} {x y : SV} {u v : Value} (e : keyEq x y = some true) (hx : den ρ x = some u) (hy : den ρ y = some v) (n : Nat) : Instr.sameBits (n + 1) v u = true := by
  unfold keyEq at e
  split at e
  · obtain ⟨h1, h2⟩ := oi_eq.1 e
    obtain rfl := kq_ok h1
    rw [den_int] at hx hy
    cases hx; cases hy
    rw [ieq_ok] at h2
    simp at h2
    subst h2
    simp [Instr.sameBits]
  · obtain ⟨rfl, ha⟩ := den_str hx
    obtain ⟨rfl, hb⟩ := den_str hy
    rw [leq_ok] at e
    simp at e
    subst e
    show (bytesOf _ == bytesOf _) = true
    rw [str_beq ha ha, leq_ok]
    simp
  · rw [den_bool] at hx hy
    cases hx; cases hy
    rename_i a b
    cases a <;> cases b <;> first | rfl | cases e
  · cases e
omit [Orig] in
theorem denE_get {ρ : Pl} : ∀ {es : List SE} {ms : List MapEntry} {j : Nat} {e : SE} {y : MapEntry}, denE ρ es ms → es[j]? = some e → ms[j]? = some y → den ρ e.key = some y.key ∧ den ρ e.val = some y.val ∧ e.born = y.born
  | [], [], j, e, y, _, h, _ => by simp at h
  | _ :: es, _ :: ms, 0, e, y, ⟨d1, d2, d3, d4⟩, h, k => by simp at h k; subst h; subst k; exact ⟨d1, d2, d3⟩
  | _ :: es, _ :: ms, j + 1, e, y, ⟨d1, d2, d3, d4⟩, h, k => by rw [List.getElem?_cons_succ] at h k; exact denE_get d4 h k
omit [Orig] in
theorem putE_ok {ρ : Pl} {x v : SV} {clock : Nat} {u uv : Value} {d : TypeDesc} (ht : keyTy d x = true) (hx : den ρ x = some u) (hv : den ρ v = some uv) : ∀ {es : List SE} {ms : List MapEntry} {r : List SE × Nat} (i : Nat), putE x v clock es = some r → denE ρ es ms →
    (Instr.findNow d u ms i = some none ∧ denE ρ r.1 (ms ++ [⟨u, uv, clock⟩]) ∧ r.2 = clock + 1) ∨ ∃ j y, ms[j]? = some y ∧ Instr.findNow d u ms i = some (some (i + j, y.val)) ∧ Instr.sameBits 10000 y.key u = true ∧ denE ρ r.1 (ms.modify j fun e => { e with key := u, val := uv }) ∧ r.2 = clock
  | [], [], r, i, h, hd => by cases h; exact .inl ⟨rfl, ⟨hx, hv, rfl, trivial⟩, rfl⟩
  | e :: es, y :: ms, r, i, h, ⟨d1, d2, d3, d4⟩ => by
    have h' : (ob (keyEq x e.key) fun b => Bool.rec (motive := fun _ => Option (List SE × Nat)) (ob (putE x v clock es) fun r => some (e :: r.1, r.2)) (some (⟨x, v, e.born⟩ :: es, clock)) b) = some r := h
    obtain ⟨b, h1, h2⟩ := ob_eq.1 h'
    have hs := keyEq_ok h1 ht hx d1
    cases b with
    | true =>
      cases h2
      exact .inr ⟨0, y, rfl, by simp [Instr.findNow, hs], keyEq_bits h1 hx d1 9999, ⟨hx, hv, d3, d4⟩, rfl⟩
    | false =>
      have h2' : (ob (putE x v clock es) fun r => some (e :: r.1, r.2)) = some r := h2
      obtain ⟨r', h3, h4⟩ := ob_eq.1 h2'
      cases h4
      rcases putE_ok ht hx hv (i + 1) h3 d4 with ⟨g1, g2, g3⟩ | ⟨j, y', g1, g2, g3, g4, g5⟩
      · exact .inl ⟨by simp [Instr.findNow, hs, g1], ⟨d1, d2, d3, g2⟩, g3⟩
      · exact .inr ⟨j + 1, y', g1, by simp [Instr.findNow, hs, g2]; omega, g3, by rw [List.modify_succ_cons]; exact ⟨d1, d2, d3, g4⟩, g5⟩
noncomputable def muE (E : Env) (m : T SObj) (t : TypeId) (a x v : SV) : Option (T SObj) := ob (und E t) fun d => match d with
  | .map k _ => match a with
    | .map r => ob (m.get r) fun o => match o with
      | .map es clock => ob (und E k) fun dk => oi (keyTy dk x) (ob (putE x v clock es) fun q => some (m.put (some (.map q.1 q.2)) r))
      | _ => none
    | _ => none
  | _ => none
theorem Emb.setMap {P : Program} {ρ : Pl} {m : T SObj} {nx : Nat} {w0 : Base} {w : World} (h : Emb P ρ m nx w0 w) {r : Nat} {o : SObj} (hr : m.get r = some o) {x : Nat × Nat} (hx : ρ r = some x) {ms0 ms : Array MapEntry} {c0 c : Nat} (hw : w.heap[x.1]? = some (.map ms0 c0)) {es : List SE} (hd : denE ρ es ms.toList) :
    ∃ w', (setObj x.1 (.map ms c)).run P w = .ok () w' ∧ Emb P ρ (m.put (some (.map es c)) r) nx w0 w' := by
  refine ⟨{ w with heap := w.heap.setIfInBounds x.1 (.map ms c) }, by simp [setObj, Sem.run, hw], ?_⟩
  have hlt : x.1 < w.heap.size := (Array.getElem?_eq_some_iff.1 hw).1
  exact h.upd (o' := .map es c) (ob' := .map ms c) hr hx rfl rfl rfl (by simp) (by simp [hlt]) (fun k hk => by simp [Array.getElem?_setIfInBounds_ne (Ne.symm hk)]) ⟨rfl, hd⟩
theorem muE_ok {P : Program} {E : Env} (hE : EnvOk P E) {ρ : Pl} {m m' : T SObj} {nx : Nat} {w0 : Base} {w : World} (h : Emb P ρ m nx w0 w) {t : TypeId} {a x v : SV} {ua ux uv : Value} (e : muE E m t a x v = some m') (ha : den ρ a = some ua) (hx : den ρ x = some ux) (hv : den ρ v = some uv) :
    ∃ w', (Instr.mapUpdate t ua ux uv).run P w = .ok () w' ∧ Emb P ρ m' nx w0 w' := by
  obtain ⟨d, h1, h2⟩ := ob_eq.1 e
  have hu := und_ok hE h1
  split at h2
  · rename_i k el
    split at h2
    · rename_i r
      obtain ⟨o, h3, h4⟩ := ob_eq.1 h2
      split at h4
      · rename_i es clock
        obtain ⟨dk, h5, h6⟩ := ob_eq.1 h4
        obtain ⟨h7, h8⟩ := oi_eq.1 h6
        obtain ⟨q, h9, h10⟩ := ob_eq.1 h8
        cases h10
        obtain ⟨y, g1, rfl⟩ := den_map ha
        obtain ⟨y', ob', a1, -, a3, a4⟩ := h.obj r _ h3
        rw [g1] at a1
        cases a1
        cases ob' <;> try exact a4.elim
        rename_i ms c
        obtain ⟨rfl, a5⟩ := a4
        have hget : (getObj y.1).run P w = .ok (.map ms c) w := by simp [getObj, Sem.run, a3]
        have ck := checkKey_ok hE h5 h7 hx false w
        have fk : ∀ q, Instr.findNow dk ux ms.toList 0 = some q → (Instr.findKey k ux ms.toList).run P w = .ok q w := by
          intro q hq
          simp only [Instr.findKey, Sem.run_bind, run_underlying (und_ok hE h5) w, Result.andThen_ok, hq, Sem.run_pure]
        rcases putE_ok h7 hx hv 0 h9 a5 with ⟨b1, b2, b3⟩ | ⟨j, y', b1, b2, b3, b4, b5⟩
        · obtain ⟨w', c1, c2⟩ := h.setMap (ms := ms.push { key := ux, val := uv, born := c }) (c := c + 1) (es := q.1) h3 g1 a3 (by simpa using b2)
          rw [← b3] at c2
          refine ⟨w', ?_, c2⟩
          simp only [Instr.mapUpdate, Sem.run_bind, run_underlying hu w, Result.andThen_ok, hget, ck, fk _ b1, c1]
        · rw [Nat.zero_add] at b2
          obtain ⟨w', c1, c2⟩ := h.setMap (ms := ms.modify j fun e => { e with key := ux, val := uv }) (c := c) (es := q.1) h3 g1 a3 (by rw [Array.toList_modify]; exact b4)
          rw [← b5] at c2
          refine ⟨w', ?_, c2⟩
          have hk : ((ms[j]?).map (·.key)).getD ux = y'.key := by
            have : ms[j]? = some y' := by simpa using b1
            rw [this]; rfl
          have kt : (Instr.keyThatStays y'.key ux).run P w = .ok ux w := by unfold Instr.keyThatStays; rw [if_pos b3]; rfl
          simp only [Instr.mapUpdate, Sem.run_bind, run_underlying hu w, Result.andThen_ok, hget, ck, fk _ b2, hk, kt, c1]
      · cases h4
    · cases h2
  · cases h2
end Go.Proofs.YteblflebjhncbaaGreatDoor
