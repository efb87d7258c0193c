/-
  A run by the kernel: what writes, and what makes memory (1).
-/
import Derived.Test.YteblflebjhncbaaGreatDoorE12
import Derived.Laws.IdiomCopy
namespace Go.Proofs.YteblflebjhncbaaGreatDoor
open Go.RowKit

theorem heap_setCell_z (w : World) (b o : Nat) (arr : Array Value) (e : TypeId) (z : Nat × Nat) (v : Value) (h : w.heap[b]? = some (.cells arr e z)) :
    (w.setCell ⟨b, o, none⟩ v).heap[b]? = some (.cells (arr.setIfInBounds o v) e z) := by
  unfold World.setCell
  simp only
  rw [Array.getElem?_modify, if_pos rfl, h]
  rfl
theorem setCells_heap (b : Nat) : ∀ (vs : List Value) (o : Nat) (w : World) (arr : Array Value) (e : TypeId) (z : Nat × Nat), w.heap[b]? = some (.cells arr e z) → o + vs.length ≤ arr.size →
    ∃ arr', (w.setCells b o vs).heap[b]? = some (.cells arr' e z) ∧ arr'.toList = arr.toList.take o ++ (vs ++ arr.toList.drop (o + vs.length)) ∧ arr'.size = arr.size ∧ (w.setCells b o vs).heap.size = w.heap.size ∧ (∀ k, k ≠ b → (w.setCells b o vs).heap[k]? = w.heap[k]?) ∧
      (w.setCells b o vs).os = w.os ∧ (w.setCells b o vs).tape = w.tape ∧ (w.setCells b o vs).output = w.output
  | [], o, w, arr, e, z, h, _ => ⟨arr, h, by simp, rfl, rfl, fun _ _ => rfl, rfl, rfl, rfl⟩
  | v :: vs, o, w, arr, e, z, h, hl => by
    rw [List.length_cons] at hl
    have h1 := heap_setCell_z w b o arr e z v h
    obtain ⟨arr', a1, a2, a3, a4, a5, a6, a7, a8⟩ := setCells_heap b vs (o + 1) (w.setCell ⟨b, o, none⟩ v) _ e z h1 (by simp; omega)
    refine ⟨arr', a1, ?_, by rw [a3]; simp, by rw [World.setCells, a4]; simp [World.setCell], fun k hk => ?_, a6, a7, a8⟩
    · have h2 : o < arr.toList.length := by simp; omega
      rw [a2]
      simp only [Array.toList_setIfInBounds, List.length_cons]
      rw [List.take_add_one, List.take_set_of_le (Nat.le_refl _), List.getElem?_set_self h2, List.drop_set_of_lt (by omega)]
      simp [show o + 1 + vs.length = o + (vs.length + 1) by omega]
    · rw [World.setCells, a5 k hk]
      exact heap_setCell_other w ⟨b, o, none⟩ k v hk
variable [Orig]
namespace Emb
variable {P : Program} {ρ : Pl} {m : T SObj} {nx : Nat} {w0 : Base} {w : World}
/-- cells are written. -/
theorem write (h : Emb P ρ m nx w0 w) {b : Nat} {cs : List SV} {e : TypeId} {opn : Bool} (hb : m.get b = some (.cells cs e opn)) {x : Nat × Nat} (hx : ρ b = some x) {p : List SV} {ps : List Value} (hp : denL ρ p = some ps) (h1 : p.all SV.one = true) {o : Nat} (hl : o + p.length ≤ cs.length) :
    ∃ w', (storeCells ⟨x.1, o, none⟩ ps).run P w = .ok () w' ∧ Emb P ρ (m.put (some (.cells (lay o p cs) e opn)) b) nx w0 w' := by
  obtain ⟨x', ob', g1, -, g3, g4⟩ := h.obj b _ hb
  rw [hx] at g1
  cases g1
  cases ob' <;> try exact g4.elim
  rename_i arr t' z
  obtain ⟨rfl, ⟨us, a2, a3⟩, a4, a5⟩ := g4
  have hpl := denL_len hp
  have hul := denL_len a2
  have key : arr.toList.take us.length = us := by
    by_cases ho : opn = true
    · rw [if_pos ho] at a3; exact a3.1
    · rw [if_neg ho] at a3; rw [a3, List.take_length]
  have hal : us.length ≤ arr.size := by
    have := congrArg List.length key
    rw [List.length_take] at this
    have h6 : arr.toList.length = arr.size := by simp
    omega
  obtain ⟨arr', c1, c2, c3, c4, c5, c6, c7, c8⟩ := setCells_heap x.1 ps o w arr t' z g3 (by omega)
  refine ⟨w.setCells x.1 o ps, ?_, ?_⟩
  · have := run_storeCells_cells (P := P) x.1 o ps 0 w (fun j hj => by
      rw [cell_of_row w x.1 _ arr t' z g3]
      rw [Array.getElem?_eq_getElem (by omega)]; rfl) (fun j hj => by
      unfold World.frozen?
      simp only [g3]
      have := a4 (o + 0 + j) (by omega)
      simpa using this) (fun v hv => by
      obtain ⟨i, hi⟩ := List.mem_iff_getElem?.1 hv
      have hi' : i < p.length := by have := (List.getElem?_eq_some_iff.1 hi).1; omega
      obtain ⟨u, d1, d2⟩ := denL_get i hp (List.getElem?_eq_getElem hi')
      rw [hi] at d2
      cases d2
      exact den_one d1 (List.all_eq_true.1 h1 _ (List.getElem_mem hi')))
    simpa using this
  · refine h.upd hb hx c6 c7 c8 c4 c1 c5 ⟨rfl, ⟨us.take o ++ (ps ++ us.drop (o + ps.length)), lay_den hp a2, ?_⟩, fun i hi => a4 i (by omega), lay_one h1 a5⟩
    have hlen : (us.take o ++ (ps ++ us.drop (o + ps.length))).length = us.length := by simp; omega
    by_cases ho : opn = true
    · rw [if_pos ho] at a3 ⊢
      refine ⟨?_, by rw [c3]; exact a3.2⟩
      rw [hlen, c2]
      have e1 : arr.toList = us ++ arr.toList.drop us.length := by
        conv => lhs; rw [← List.take_append_drop us.length arr.toList, key]
      generalize arr.toList.drop us.length = A at e1
      have t1 : (us ++ A).take o = us.take o := List.take_append_of_le_length (by omega)
      have t2 : (us ++ A).drop (o + ps.length) = us.drop (o + ps.length) ++ A := List.drop_append_of_le_length (by omega)
      have t3 : us.take o ++ (ps ++ (us.drop (o + ps.length) ++ A)) = (us.take o ++ (ps ++ us.drop (o + ps.length))) ++ A := by simp
      rw [e1, t1, t2, t3, ← hlen, List.take_left]
    · rw [if_neg ho] at a3 ⊢
      rw [c2, a3]
end Emb
/-- what an operation comes to, that may write. -/
def AOk (P : Program) (ρ : Pl) (w0 : Base) (v : SV) (m' : T SObj) (nx' : Nat) (r : Result Next) : Prop :=
  ∃ ρ' u w' n, Le ρ ρ' ∧ r = .ok n w' ∧ (n = .value u ∨ n = .skip ∧ u = undef) ∧ den ρ' v = some u ∧ Emb P ρ' m' nx' w0 w'
omit [Orig] in
theorem den_undef (ρ : Pl) : den ρ (.tup []) = some undef := by simp [den, denL, undef]

noncomputable def stE (E : Env) (m : T SObj) (t : TypeId) (a v : SV) : Option (T SObj) := match a with
  | .ptr b o => ob (m.get b) fun x => match x with
    | .cells cs e opn => ob (szE E t) fun n => oi (Nat.beq (len (cellsOf v)) n) (oi (Nat.ble (Nat.add o n) (len cs)) (oi (match v with | .tup _ => false | _ => true) (some (m.put (some (.cells (lay o (cellsOf v) cs) e opn)) b))))
    | _ => none
  | _ => none
theorem stE_ok {P : Program} {E : Env} (hE : EnvOk P E) {ρ : Pl} {m m' : T SObj} {nx : Nat} {w0 : Base} {w : World} (h : Emb P ρ m nx w0 w) {t : TypeId} {a v : SV} {u0 u1 : Value} (e : stE E m t a v = some m') (ha : den ρ a = some u0) (hv : den ρ v = some u1) :
    ∃ w', (Instr.storeAt t u0 u1).run P w = .ok () w' ∧ Emb P ρ m' nx w0 w' := by
  unfold stE at e
  split at e
  · rename_i b o
    obtain ⟨x, h1, h2⟩ := ob_eq.1 e
    split at h2
    · rename_i cs t' opn
      obtain ⟨n, h3, h4⟩ := ob_eq.1 h2
      obtain ⟨h5, h6⟩ := oi_eq.1 h4
      obtain ⟨h7, h8⟩ := oi_eq.1 h6
      obtain ⟨h9, h10⟩ := oi_eq.1 h8
      cases h10
      rw [nbeq_iff, len_ok] at h5
      rw [nble_iff, len_ok] at h7
      have h7' : o + n ≤ cs.length := h7
      obtain ⟨y, g1, rfl⟩ := den_ptr ha
      have c1 := cellsOf_den hv
      have hone := cellsOf_one hv (fun l hl => by rw [hl] at h9; cases h9)
      obtain ⟨w', d1, d2⟩ := h.write h1 g1 c1 hone (o := o) (by omega)
      refine ⟨w', ?_, d2⟩
      have hs : u1.cells.size = n := by rw [← h5, ← denL_len c1]; simp
      simp only [Instr.storeAt, Instr.sureAddr, storeVar, Sem.run_bind, Sem.run_pure, Result.andThen_ok, (szE_ok hE h3 w).1]
      rw [if_neg (by omega)]
      exact d1
    · cases h2
  · cases e
omit [Orig] in
theorem obj_cells {P : Program} {ρ : Pl} {x : Nat × Nat} {cs : List SV} {us : List Value} {e : TypeId} (h : denL ρ cs = some us) (h1 : cs.all SV.one = true) : ObjRel P ρ x (.cells cs e false) (.cells us.toArray e) :=
  ⟨rfl, ⟨us, h, rfl⟩, fun i _ g => by simp at g, h1⟩
/-- a new variable. -/
noncomputable def newE (m : T SObj) (nx : Nat) (e : TypeId) (v : SV) : Option (SV × T SObj × Nat) := oi (match v with | .tup _ => false | _ => true) (some (.ptr nx 0, m.put (some (.cells (cellsOf v) e false)) nx, Nat.succ nx))
theorem newE_ok {P : Program} {ρ : Pl} {m : T SObj} {nx : Nat} {w0 : Base} {w : World} (h : Emb P ρ m nx w0 w) {e : TypeId} {v : SV} {u : Value} {r : SV × T SObj × Nat} (he : newE m nx e v = some r) (hv : den ρ v = some u) :
    ∃ ρ' w' p, Le ρ ρ' ∧ (newVar e u).run P w = .ok p w' ∧ den ρ' r.1 = some (.pointer (some p)) ∧ Emb P ρ' r.2.1 r.2.2 w0 w' := by
  obtain ⟨h1, h2⟩ := oi_eq.1 he
  cases h2
  have hone := cellsOf_one hv (fun l hl => by rw [hl] at h1; cases h1)
  have hle := pset_le (b := nx) (w.heap.size, 0) (h.fresh nx (Nat.le_refl _)).1
  have hc := denL_mono hle _ (cellsOf_den hv)
  obtain ⟨g1, g2⟩ := h.new 0 (obj_cells (P := P) (e := e) hc hone)
  refine ⟨_, _, ⟨w.heap.size, 0, none⟩, g2, ?_, den_ptr_mk (pset_same _ _ _) 0, g1⟩
  simp only [newVar, newRow, Sem.run_bind, run_newObj_alloc, Result.andThen_ok, Sem.run_pure]
end Go.Proofs.YteblflebjhncbaaGreatDoor
