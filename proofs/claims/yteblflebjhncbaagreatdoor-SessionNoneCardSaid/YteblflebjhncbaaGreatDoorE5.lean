/-
  A run by the kernel: what reads memory; parts of structs and arrays.
-/
import Derived.Test.YteblflebjhncbaaGreatDoorE4
import Derived.Laws.Slices
namespace Go.Proofs.YteblflebjhncbaaGreatDoor
open Go.RowKit

noncomputable def drp {α : Type} (n : Nat) : List α → List α := Nat.rec (motive := fun _ => List α → List α) (fun l => l) (fun _ ih l => List.rec (motive := fun _ => List α) [] (fun _ t _ => ih t) l) n
noncomputable def tk {α : Type} (n : Nat) : List α → List α := Nat.rec (motive := fun _ => List α → List α) (fun _ => []) (fun _ ih l => List.rec (motive := fun _ => List α) [] (fun x t _ => x :: ih t) l) n
noncomputable def nth {α : Type} (n : Nat) : List α → Option α := Nat.rec (motive := fun _ => List α → Option α) (fun l => List.rec (motive := fun _ => Option α) none (fun x _ _ => some x) l) (fun _ ih l => List.rec (motive := fun _ => Option α) none (fun _ t _ => ih t) l) n
noncomputable def lset {α : Type} (x : α) (n : Nat) : List α → List α := Nat.rec (motive := fun _ => List α → List α) (fun l => List.rec (motive := fun _ => List α) [] (fun _ t _ => x :: t) l) (fun _ ih l => List.rec (motive := fun _ => List α) [] (fun y t _ => y :: ih t) l) n
theorem drp_ok {α : Type} : ∀ (n : Nat) (l : List α), drp n l = l.drop n
  | 0, l => rfl
  | n + 1, [] => rfl
  | n + 1, x :: l => drp_ok n l
theorem tk_ok {α : Type} : ∀ (n : Nat) (l : List α), tk n l = l.take n
  | 0, l => by simp; rfl
  | n + 1, [] => rfl
  | n + 1, x :: l => by show x :: tk n l = _; rw [tk_ok n l]; rfl
theorem nth_ok {α : Type} : ∀ (n : Nat) (l : List α), nth n l = l[n]?
  | 0, [] => rfl
  | 0, x :: l => rfl
  | n + 1, [] => rfl
  | n + 1, x :: l => by show nth n l = _; rw [nth_ok n l, List.getElem?_cons_succ]
theorem lset_ok {α : Type} (x : α) : ∀ (n : Nat) (l : List α), lset x n l = l.set n x
  | 0, [] => rfl
  | 0, y :: l => rfl
  | n + 1, [] => rfl
  | n + 1, y :: l => by show y :: lset x n l = _; rw [lset_ok x n l]; rfl

/-- a block of cells, as far as it is known. -/
noncomputable def cellsE (m : T SObj) (b : Nat) : Option (List SV) := ob (m.get b) fun o => match o with
  | .cells cs _ _ => some cs
  | _ => none
variable [Orig]
theorem Emb.cells {P : Program} {ρ : Pl} {m : T SObj} {nx : Nat} {w0 : Base} {w : World} (h : Emb P ρ m nx w0 w) {b : Nat} {cs : List SV} (e : cellsE m b = some cs) :
    ∃ x us, ρ b = some x ∧ denL ρ cs = some us ∧ cs.all SV.one = true ∧ (∀ i u, us[i]? = some u → w.cell? ⟨x.1, i, none⟩ = some u) ∧ ∃ arr t z, w.heap[x.1]? = some (.cells arr t z) ∧ us.length ≤ arr.size ∧ arr.toList.take us.length = us ∧ ∀ i, i < arr.size → ¬ (z.1 ≤ i ∧ i < z.2) := by
  obtain ⟨o, h1, h2⟩ := ob_eq.1 e
  cases o with
  | cells cs' t opn =>
    cases h2
    obtain ⟨x, ob', g1, -, g3, g4⟩ := h.obj b _ h1
    cases ob' <;> try exact g4.elim
    rename_i arr t' z
    obtain ⟨a1, ⟨us, a2, a3⟩, a4, a5⟩ := g4
    have key : arr.toList.take us.length = us := by
      by_cases ho : opn = true
      · rw [if_pos ho] at a3; exact a3.1
      · rw [if_neg ho] at a3; rw [a3, List.take_length]
    have hl : us.length ≤ arr.size := by
      have := congrArg List.length key
      rw [List.length_take] at this
      have h6 : arr.toList.length = arr.size := by simp
      omega
    refine ⟨x, us, g1, a2, a5, ?_, arr, t', z, g3, hl, key, a4⟩
    intro i u hu
    have hi : i < us.length := (List.getElem?_eq_some_iff.1 hu).1
    rw [cell_of_row w x.1 i arr t' z g3]
    rw [← key, List.getElem?_take, if_pos hi] at hu
    simpa using hu
  | map => cases h2
  | siter => cases h2
  | miter => cases h2
  | defr => cases h2
  | lp => cases h2

noncomputable def ldE (E : Env) (m : T SObj) (t : TypeId) (b o : Nat) : Option SV :=
  ob (cellsE m b) fun cs => ob (agE E t) fun g => Bool.rec (motive := fun _ => Option SV) (nth o cs)
    (ob (szE E t) fun n => oi (Nat.ble (Nat.add o n) (len cs)) (some (.agg (tk n (drp o cs))))) g
omit [Orig] in
theorem all_take {l : List SV} (h : l.all SV.one = true) (n : Nat) : (l.take n).all SV.one = true := List.all_eq_true.2 fun x hx => List.all_eq_true.1 h x (List.mem_of_mem_take hx)
omit [Orig] in
theorem all_drop {l : List SV} (h : l.all SV.one = true) (n : Nat) : (l.drop n).all SV.one = true := List.all_eq_true.2 fun x hx => List.all_eq_true.1 h x (List.mem_of_mem_drop hx)
omit [Orig] in
theorem den_agg_mk {ρ : Pl} {l : List SV} {us : List Value} (h : denL ρ l = some us) (h1 : l.all SV.one = true) : den ρ (.agg l) = some (.agg us.toArray) := by
  unfold den; rw [if_pos h1, h]; rfl
omit [Orig] in
theorem den_agg {ρ : Pl} {l : List SV} {u : Value} (h : den ρ (.agg l) = some u) : ∃ us, denL ρ l = some us ∧ l.all SV.one = true ∧ u = .agg us.toArray := by
  unfold den at h
  split at h
  · rename_i h1
    obtain ⟨us, h2, rfl⟩ := Option.map_eq_some_iff.1 h
    exact ⟨us, h2, h1, rfl⟩
  · cases h
omit [Orig] in
theorem den_ptr {ρ : Pl} {b o : Nat} {u : Value} (h : den ρ (.ptr b o) = some u) : ∃ x, ρ b = some x ∧ u = .pointer (some ⟨x.1, o, none⟩) := by
  unfold den at h
  obtain ⟨x, h1, rfl⟩ := Option.map_eq_some_iff.1 h
  exact ⟨x, h1, rfl⟩
omit [Orig] in
theorem den_ptr_mk {ρ : Pl} {b : Nat} {x : Nat × Nat} (h : ρ b = some x) (o : Nat) : den ρ (.ptr b o) = some (.pointer (some ⟨x.1, o, none⟩)) := by
  unfold den; rw [h]; rfl
omit [Orig] in
theorem den_tup {ρ : Pl} {l : List SV} {u : Value} (h : den ρ (.tup l) = some u) : ∃ us, denL ρ l = some us ∧ u = .tuple us.toArray := by
  unfold den at h
  obtain ⟨us, h2, rfl⟩ := Option.map_eq_some_iff.1 h
  exact ⟨us, h2, rfl⟩
omit [Orig] in
theorem den_tup_mk {ρ : Pl} {l : List SV} {us : List Value} (h : denL ρ l = some us) : den ρ (.tup l) = some (.tuple us.toArray) := by
  unfold den; rw [h]; rfl
theorem ldE_ok {P : Program} {E : Env} (hE : EnvOk P E) {ρ : Pl} {m : T SObj} {nx : Nat} {w0 : Base} {w : World} (h : Emb P ρ m nx w0 w) {t : TypeId} {b o : Nat} {v : SV} (e : ldE E m t b o = some v) {u0 : Value} (hp : den ρ (.ptr b o) = some u0) :
    ∃ u, (Instr.loadAt t u0).run P w = .ok u w ∧ den ρ v = some u := by
  obtain ⟨x', hx', rfl⟩ := den_ptr hp
  obtain ⟨cs, h1, h2⟩ := ob_eq.1 e
  obtain ⟨g, h3, h4⟩ := ob_eq.1 h2
  obtain ⟨x, us, a1, a2, a3, a4, -⟩ := h.cells h1
  rw [hx'] at a1
  cases a1
  simp only [Instr.loadAt, Instr.sureAddr, loadVar, Sem.run_bind, Sem.run_pure, Result.andThen_ok, agE_ok hE h3 w]
  cases g with
  | false =>
    have h4' : nth o cs = some v := h4
    rw [nth_ok] at h4'
    obtain ⟨u, b1, b2⟩ := denL_get o a2 h4'
    exact ⟨u, by simp [a4 o u b2], b1⟩
  | true =>
    have h4' : (ob (szE E t) fun n => oi (Nat.ble (Nat.add o n) (len cs)) (some (.agg (tk n (drp o cs))))) = some v := h4
    obtain ⟨n, h5, h6⟩ := ob_eq.1 h4'
    obtain ⟨h7, h8⟩ := oi_eq.1 h6
    rw [nble_iff, len_ok] at h7
    have h7' : o + n ≤ cs.length := h7
    cases h8
    rw [tk_ok, drp_ok]
    have hul := denL_len a2
    have hlen : ((us.drop o).take n).length = n := by rw [List.length_take, List.length_drop]; omega
    have hrun := run_loadCells_list (P := P) w ⟨x'.1, o, none⟩ ((us.drop o).take n) (fun j u hj => by
      rw [Addr.add_lit]
      refine a4 (o + j) u ?_
      rw [List.getElem?_take] at hj
      split at hj
      · rw [List.getElem?_drop] at hj; exact hj
      · cases hj)
    rw [hlen] at hrun
    refine ⟨.agg ((us.drop o).take n).toArray, ?_, den_agg_mk (denL_take n (denL_drop o a2)) (all_take (all_drop a3 o) n)⟩
    simp only [if_true, Sem.run_bind, (szE_ok hE h5 w).1, Result.andThen_ok, hrun, Sem.run_pure]

/-- part of an aggregate. -/
noncomputable def ptE (E : Env) (t : TypeId) (cs : List SV) (o : Nat) : Option SV :=
  ob (agE E t) fun g => Bool.rec (motive := fun _ => Option SV) (nth o cs) (ob (szE E t) fun n => some (.agg (tk n (drp o cs)))) g
omit [Orig] in
theorem ptE_ok {P : Program} {E : Env} (hE : EnvOk P E) {ρ : Pl} {t : TypeId} {cs : List SV} {us : List Value} {o : Nat} {v : SV} (e : ptE E t cs o = some v) (h : denL ρ cs = some us) (h1 : cs.all SV.one = true) (w : World) :
    ∃ u, (part t us.toArray o).run P w = .ok u w ∧ den ρ v = some u := by
  obtain ⟨g, h3, h4⟩ := ob_eq.1 e
  simp only [part, Sem.run_bind, agE_ok hE h3 w, Result.andThen_ok]
  cases g with
  | false =>
    have h4' : nth o cs = some v := h4
    rw [nth_ok] at h4'
    obtain ⟨u, b1, b2⟩ := denL_get o h h4'
    exact ⟨u, by simp [b2], b1⟩
  | true =>
    have h4' : (ob (szE E t) fun n => some (.agg (tk n (drp o cs)))) = some v := h4
    obtain ⟨n, h5, h6⟩ := ob_eq.1 h4'
    cases h6
    rw [tk_ok, drp_ok]
    refine ⟨.agg (us.toArray.extract o (o + n)), ?_, ?_⟩
    · simp only [if_true, Sem.run_bind, (szE_ok hE h5 w).1, Result.andThen_ok, Sem.run_pure]
    · have := den_agg_mk (denL_take n (denL_drop o h)) (all_take (all_drop h1 o) n)
      rw [this]
      congr 2
      simp [List.take_drop, Array.ext_iff, List.extract_eq_take_drop]

noncomputable def fieldsE (E : Env) (t : TypeId) : Option (List Field) := ob (und E t) fun d => match d with
  | .struct fs => some fs.toList
  | _ => none
omit [Orig] in
theorem fieldsE_ok {P : Program} {E : Env} (hE : EnvOk P E) {t : TypeId} {l : List Field} (h : fieldsE E t = some l) : P.underlying t = some (.struct l.toArray) := by
  obtain ⟨d, h1, h2⟩ := ob_eq.1 h
  cases d <;> cases h2
  simpa using und_ok hE h1
noncomputable def fieldE (E : Env) (t : TypeId) (v : SV) (i : Nat) : Option SV := ob (fieldsE E t) fun fs => ob (nth i fs) fun f => match v with
  | .agg cs => ptE E f.type cs f.offset
  | _ => none
omit [Orig] in
theorem fieldE_ok {P : Program} {E : Env} (hE : EnvOk P E) {ρ : Pl} {t : TypeId} {v r : SV} {i : Nat} {u0 : Value} (e : fieldE E t v i = some r) (h : den ρ v = some u0) (w : World) :
    ∃ u, (Instr.field t u0 i).run P w = .ok u w ∧ den ρ r = some u := by
  obtain ⟨fs, h1, h2⟩ := ob_eq.1 e
  obtain ⟨f, h3, h4⟩ := ob_eq.1 h2
  rw [nth_ok] at h3
  cases v <;> try cases h4
  obtain ⟨us, a1, a2, rfl⟩ := den_agg h
  obtain ⟨u, b1, b2⟩ := ptE_ok hE h4 a1 a2 w
  refine ⟨u, ?_, b2⟩
  simp only [Instr.field, Sem.run_bind, run_underlying (fieldsE_ok hE h1) w, Result.andThen_ok, asAgg, Sem.run_pure]
  simp [h3, b1]
noncomputable def faE (E : Env) (t : TypeId) (v : SV) (i : Nat) : Option SV := ob (fieldsE E t) fun fs => ob (nth i fs) fun f => ob (szE E f.type) fun n => match v with
  | .ptr b o => oi (Nat.blt 0 n) (some (.ptr b (Nat.add o f.offset)))
  | _ => none
omit [Orig] in
theorem faE_ok {P : Program} {E : Env} (hE : EnvOk P E) {ρ : Pl} {t : TypeId} {v r : SV} {i : Nat} {u0 : Value} (e : faE E t v i = some r) (h : den ρ v = some u0) (w : World) :
    ∃ u, (Instr.fieldAt t u0 i).run P w = .ok u w ∧ den ρ r = some u := by
  obtain ⟨fs, h1, h2⟩ := ob_eq.1 e
  obtain ⟨f, h3, h4⟩ := ob_eq.1 h2
  obtain ⟨n, h5, h6⟩ := ob_eq.1 h4
  rw [nth_ok] at h3
  cases v <;> try cases h6
  obtain ⟨x, a1, rfl⟩ := den_ptr h
  obtain ⟨h7, h8⟩ := oi_eq.1 h6
  cases h8
  have hn := blt_true h7
  refine ⟨_, ?_, den_ptr_mk a1 _⟩
  simp only [Instr.fieldAt, Sem.run_bind, run_underlying (fieldsE_ok hE h1) w, Result.andThen_ok]
  simp only [List.getElem?_toArray, h3, Instr.sureAddr, Sem.run_bind, Sem.run_pure, Result.andThen_ok, fieldPlace, (szE_ok hE h5 w).1]
  rw [if_neg (by omega)]
  simp [Addr.add_lit]
end Go.Proofs.YteblflebjhncbaaGreatDoor
