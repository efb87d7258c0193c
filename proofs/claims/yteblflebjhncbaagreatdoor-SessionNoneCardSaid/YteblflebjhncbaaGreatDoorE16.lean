/-
  A run by the kernel: append and copy.
-/
import Derived.Test.YteblflebjhncbaaGreatDoorE15
namespace Go.Proofs.YteblflebjhncbaaGreatDoor
open Go.RowKit

section
variable {P : Program} {w : World}
theorem app_room {t t2 ty e : TypeId} {i : TypeInfo} {d2 : TypeDesc} (ht : P.underlying t = some (.slice e)) (h2 : P.underlying t2 = some d2) (hni : ∀ k, d2 ≠ .int k) (hi : P.info? e = some i)
    {base : Option Addr} {l c n : Nat} {x : Value} {ns : Array Value} (hlen : (Builtin.lenOf x).run P w = .ok n w) (hf : (Builtin.firstCells i.size n x).run P w = .ok ns w) (hr : l + n ≤ c) :
    (Builtin.append_ #[t, t2] ty #[.slice base l c, x]).run P w = (match base with | some a => (storeCells (a.add (l * i.size)) ns.toList).run P w | none => .ok () w).andThen fun _ w' => .ok (.slice base (l + n) c) w' := by
  have hz : (match d2 with | .int _ => true | _ => false) = false := by cases d2 <;> first | rfl | exact absurd rfl (hni _)
  have hs : (sizeOf e).run P w = .ok i.size w := by rw [run_sizeOf w hi]; simp [Program.cellsOf, hi]
  unfold Builtin.append_
  simp only [Array.getElem?_eq_getElem, List.size_toArray, List.length_cons, List.length_nil, List.getElem_toArray, List.getElem_cons_zero, List.getElem_cons_succ, Nat.reduceAdd, Nat.reduceLT, Nat.zero_lt_succ, Nat.lt_add_one]
  simp only [Sem.run_bind, run_underlying ht w, run_underlying h2 w, Result.andThen_ok, Sem.run_pure, hs, hz, Bool.false_eq_true, if_false, hlen, Bool.not_false, if_true]
  rw [if_pos hr]
  simp only [Sem.run_bind, hf, Result.andThen_ok, Sem.run_pure]
  cases base with
  | none => rfl
  | some a => simp only [Sem.run_bind]; rfl
theorem app_grow {t t2 ty e : TypeId} {i : TypeInfo} {d2 : TypeDesc} {z : Value} (ht : P.underlying t = some (.slice e)) (h2 : P.underlying t2 = some d2) (hni : ∀ k, d2 ≠ .int k) (hi : P.info? e = some i) (hz : i.zero = some z)
    {base : Option Addr} {l c n : Nat} {x : Value} {os ns : Array Value} (hlen : (Builtin.lenOf x).run P w = .ok n w) (ho : (Builtin.firstCells i.size l (.slice base l c)).run P w.drew = .ok os w.drew) (hf : (Builtin.firstCells i.size n x).run P w.drew = .ok ns w.drew) (hr : c < l + n)
    (hb : (l + n) * i.bytes ≤ 140737488355328) (h63 : l + n ≤ 4611686018427387904) :
    (Builtin.append_ #[t, t2] ty #[.slice base l c, x]).run P w = .ok (.slice (some ⟨w.heap.size, 0, none⟩) (l + n) (grownCap w (l + n) c e)) (w.drew.alloc (.cells (os ++ ns ++ Builtin.zeroCells z.cells (grownCap w (l + n) c e - (l + n))) e)) := by
  have hz' : (match d2 with | .int _ => true | _ => false) = false := by cases d2 <;> first | rfl | exact absurd rfl (hni _)
  have hs : (sizeOf e).run P w = .ok i.size w := by rw [run_sizeOf w hi]; simp [Program.cellsOf, hi]
  have hti : ∀ W : World, (typeInfo e).run P W = .ok i W := fun W => run_typeInfo W hi
  have hzv : ∀ W : World, (zeroValue e).run P W = .ok z W := fun W => by unfold zeroValue; simp only [Sem.run_bind, hti, Result.andThen_ok, hz, Sem.run_pure]
  have n1 : ¬ (((l + n : Nat) : Int) > IntKind.i64.max ∧ (False ∨ i.bytes = 0)) := by
    intro h
    have : IntKind.i64.max = 9223372036854775807 := rfl
    omega
  have n2 : ¬ (Builtin.nextslicecap (l + n) c * i.bytes > 2 ^ 48) := by
    have := growslice_fits hr hb
    omega
  unfold Builtin.append_
  simp only [Array.getElem?_eq_getElem, List.size_toArray, List.length_cons, List.length_nil, List.getElem_toArray, List.getElem_cons_zero, List.getElem_cons_succ, Nat.reduceAdd, Nat.reduceLT, Nat.zero_lt_succ, Nat.lt_add_one]
  simp only [Sem.run_bind, run_underlying ht w, run_underlying h2 w, Result.andThen_ok, Sem.run_pure, hs, hz', Bool.false_eq_true, if_false, hlen, Bool.not_false, if_true]
  rw [if_neg (by omega)]
  simp only [Sem.run_bind, hti, Result.andThen_ok, Sem.run_ite]
  rw [if_neg n1, if_neg n2]
  simp only [run_choose_drew, Question.forced, Bool.false_eq_true, if_false, Result.andThen_ok, run_askRoom, ho, hf, hzv, newRow, Sem.run_bind, run_newObj_alloc, Sem.run_pure]
  rfl
end
theorem zeroCells_len (z : Value) (n : Nat) : (Builtin.zeroCells z.cells n).size = n * z.cells.size := size_zero _ _
/-- a slice that has grown. -/
theorem grown_rel {P : Program} {ρ : Pl} {cs : List SV} {us : List Value} {e : TypeId} {z : Value} {s need c p : Nat} (h : denL ρ cs = some us) (h1 : cs.all SV.one = true) (hl : us.length = need * s) (hz : z.cells.size = s) (hs : P.cellsOf e = s) (hc : need ≤ c) :
    ObjRel P ρ (p, c) (.cells cs e true) (.cells (us.toArray ++ Builtin.zeroCells z.cells (c - need)) e) := by
  refine ⟨rfl, ⟨us, h, ?_⟩, fun i _ g => by simp at g, h1⟩
  rw [if_pos rfl]
  refine ⟨by simp, ?_⟩
  rw [Array.size_append, zeroCells_len, hz, List.size_toArray, hl, hs, ← Nat.add_mul]
  congr 1
  omega
noncomputable def apG (E : Env) (m : T SObj) (nx : Nat) (e : TypeId) (i : TypeInfo) (need : Nat) (cs : List SV) : Option (SV × T SObj × Nat) :=
  oi (Nat.ble (Nat.mul need i.bytes) 140737488355328) (oi (Nat.ble need 4611686018427387904) (ob (zrE E e) fun z => oi (match z with | .tup _ => false | _ => true) (oi (Nat.beq (len (cellsOf z)) i.size) (some (.slu nx 0 need 0, m.put (some (.cells cs e true)) nx, Nat.succ nx)))))
/-- append: e, i: the elements' type; n: how many come. -/
noncomputable def apS (E : Env) (m : T SObj) (nx : Nat) (e : TypeId) (i : TypeInfo) (s x : SV) (n : Nat) : Option (SV × T SObj × Nat) := ob (srcE m i.size n x) fun news => match s with
  | .nslc => Bool.rec (motive := fun _ => Option (SV × T SObj × Nat)) (apG E m nx e i n news) (some (s, m, nx)) (Nat.beq n 0)
  | .slc b o l c => Bool.rec (motive := fun _ => Option (SV × T SObj × Nat)) (ob (srcE m i.size l s) fun olds => apG E m nx e i (Nat.add l n) (app olds news))
      (ob (m.get b) fun y => match y with
        | .cells cs e' opn => oi (Nat.ble (Nat.add (Nat.add o (Nat.mul l i.size)) (len news)) (len cs)) (some (.slc b o (Nat.add l n) c, m.put (some (.cells (lay (Nat.add o (Nat.mul l i.size)) news cs) e' opn)) b, nx))
        | _ => none) (Nat.ble (Nat.add l n) c)
  | .slu b o l k => Bool.rec (motive := fun _ => Option (SV × T SObj × Nat)) (oi (Nat.beq o 0) (oi (Nat.beq k 0) (ob (m.get b) fun y => match y with
      | .cells cs e' opn => oi opn (oi (Nat.beq e' e) (oi (Nat.beq (len cs) (Nat.mul l i.size)) (apG E (m.put none b) nx e i (Nat.add l n) (app cs news))))
      | _ => none))) (some (s, m, nx)) (Nat.beq n 0)
  | _ => none
noncomputable def apE (E : Env) (m : T SObj) (nx : Nat) (ts : List TypeId) (s x : SV) : Option (SV × T SObj × Nat) := match ts with
  | [t, t2] => ob (und E t) fun d => ob (und E t2) fun d2 => match d with
    | .slice e => oi (match d2 with | .int _ => false | _ => true) (ob (E.ty.get e) fun i => ob (lenS x) fun n => apS E m nx e i s x n)
    | _ => none
  | _ => none
variable [Orig]
/-- cells laid behind those that an open block has. -/
theorem Emb.extend {P : Program} {ρ : Pl} {m : T SObj} {nx : Nat} {w0 : Base} {w : World} (h : Emb P ρ m nx w0 w) {b : Nat} {cs : List SV} {e : TypeId} (hb : m.get b = some (.cells cs e true)) {x : Nat × Nat} (hx : ρ b = some x) {p : List SV} {ps : List Value} (hp : denL ρ p = some ps) (h1 : p.all SV.one = true) (hl : cs.length + p.length ≤ x.2 * P.cellsOf e) :
    ∃ w', (storeCells ⟨x.1, cs.length, none⟩ ps).run P w = .ok () w' ∧ Emb P ρ (m.put (some (.cells (app cs p) e true)) b) nx w0 w' := by
  obtain ⟨x', ob', g1, -, g3, g4⟩ := h.obj b _ hb
  rw [hx] at g1
  cases g1
  cases ob' <;> try exact g4.elim
  rename_i arr t' z
  obtain ⟨rfl, ⟨us, a2, a3⟩, a4, a5⟩ := g4
  rw [if_pos rfl] at a3
  obtain ⟨a3, a6⟩ := a3
  have hpl := denL_len hp
  have hul := denL_len a2
  obtain ⟨arr', c1, c2, c3, c4, c5, c6, c7, c8⟩ := setCells_heap x.1 ps cs.length w arr t' z g3 (by omega)
  refine ⟨w.setCells x.1 cs.length ps, ?_, ?_⟩
  · have := run_storeCells_cells (P := P) x.1 cs.length ps 0 w (fun j hj => by
      rw [cell_of_row w x.1 _ arr t' z g3]
      rw [Array.getElem?_eq_getElem (by omega)]; rfl) (fun j hj => by
      unfold World.frozen?
      simp only [g3]
      have := a4 (cs.length + 0 + j) (by omega)
      simpa using this) (fun v hv => by
      obtain ⟨i, hi⟩ := List.mem_iff_getElem?.1 hv
      have hi' : i < p.length := by have := (List.getElem?_eq_some_iff.1 hi).1; omega
      obtain ⟨u, d1, d2⟩ := denL_get i hp (List.getElem?_eq_getElem hi')
      rw [hi] at d2
      cases d2
      exact den_one d1 (List.all_eq_true.1 h1 _ (List.getElem_mem hi')))
    simpa using this
  · refine h.upd hb hx c6 c7 c8 c4 c1 c5 ⟨rfl, ⟨us ++ ps, by rw [app_ok]; exact denL_append a2 hp, ?_⟩, fun i hi => a4 i (by omega), by rw [app_ok, List.all_append, a5, h1]; rfl⟩
    rw [if_pos rfl]
    refine ⟨?_, by rw [c3]; exact a6⟩
    have t1 : arr.toList.take cs.length = us := by rw [← hul]; exact a3
    rw [c2, t1, ← List.append_assoc, List.take_left]
theorem apG_ok {P : Program} {E : Env} (hE : EnvOk P E) {ρ : Pl} {m : T SObj} {nx : Nat} {w0 : Base} {w : World} (h : Emb P ρ m nx w0 w) {e : TypeId} {i : TypeInfo} {need : Nat} {cs : List SV} {r : SV × T SObj × Nat} (hi : E.ty.get e = some i) (g : apG E m nx e i need cs = some r) {us : List Value} (hd : denL ρ cs = some us) (h1 : cs.all SV.one = true) (hl : us.length = need * i.size) :
    need * i.bytes ≤ 140737488355328 ∧ need ≤ 4611686018427387904 ∧ ∃ z, i.zero = some z ∧ r.1 = .slu nx 0 need 0 ∧ r.2.1 = m.put (some (.cells cs e true)) nx ∧ r.2.2 = nx + 1 ∧ ∀ c, need ≤ c →
      ∃ ρ', Le ρ ρ' ∧ den ρ' r.1 = some (.slice (some ⟨w.heap.size, 0, none⟩) need c) ∧ Emb P ρ' r.2.1 r.2.2 w0 (w.drew.alloc (.cells (us.toArray ++ Builtin.zeroCells z.cells (c - need)) e)) := by
  obtain ⟨g1, g2⟩ := oi_eq.1 g
  obtain ⟨g3, g4⟩ := oi_eq.1 g2
  obtain ⟨z, g5, g6⟩ := ob_eq.1 g4
  obtain ⟨g7, g8⟩ := oi_eq.1 g6
  obtain ⟨g9, g10⟩ := oi_eq.1 g8
  cases g10
  rw [nble_iff] at g1 g3
  rw [nbeq_iff, len_ok] at g9
  obtain ⟨zu, -, a2, it, a3, a4⟩ := zrE_ok hE g5 ρ w
  have hpi := hE.ty _ _ hi
  rw [hpi] at a3
  cases a3
  have hz := cellsOf_den a2
  have hzs : zu.cells.size = i.size := by rw [← g9, ← denL_len hz]; simp
  refine ⟨g1, g3, zu, a4, rfl, rfl, rfl, fun c hc => ?_⟩
  have hle := pset_le (b := nx) (w.heap.size, c) (h.fresh nx (Nat.le_refl _)).1
  have hcell : P.cellsOf e = i.size := by simp [Program.cellsOf, hpi]
  obtain ⟨f1, f2⟩ := h.drew.new c (grown_rel (P := P) (p := w.heap.size) (denL_mono hle _ hd) h1 hl hzs hcell hc)
  refine ⟨_, f2, ?_, f1⟩
  exact den_slu_mk (pset_same _ _ _) (by simpa using hc) 0
end Go.Proofs.YteblflebjhncbaaGreatDoor
