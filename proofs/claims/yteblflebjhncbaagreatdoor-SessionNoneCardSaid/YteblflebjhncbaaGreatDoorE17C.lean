/-
  A run by the kernel: ranging over maps of at most one entry that is left.
-/
import Derived.Test.YteblflebjhncbaaGreatDoorE17B
namespace Go.Proofs.YteblflebjhncbaaGreatDoor
open Go.RowKit

noncomputable def rmE (E : Env) (m : T SObj) (nx : Nat) (t : TypeId) (v : SV) : Option (SV × T SObj × Nat) := match v with
  | .nmap => ob (und E t) fun d => match d with
    | .map _ _ => some (.ptr nx 0, m.put (some (.miter none 0 [] 0)) nx, Nat.succ nx)
    | _ => none
  | .map r => ob (und E t) fun d => match d with
    | .map _ _ => ob (m.get r) fun o => match o with
      | .map _ clock => some (.ptr nx 0, m.put (some (.miter (some r) clock [] clock)) nx, Nat.succ nx)
      | _ => none
    | _ => none
  | v => rgE E m nx t v
variable [Orig]
theorem rmE_ok {P : Program} {E : Env} (hE : EnvOk P E) {ρ : Pl} {m : T SObj} {nx : Nat} {w0 : Base} {w : World} (h : Emb P ρ m nx w0 w) {t : TypeId} {v : SV} {u0 : Value} {r : SV × T SObj × Nat} (e : rmE E m nx t v = some r) (hv : den ρ v = some u0) :
    ∃ ρ' u w', Le ρ ρ' ∧ (Instr.range t u0).run P w = .ok u w' ∧ den ρ' r.1 = some u ∧ Emb P ρ' r.2.1 r.2.2 w0 w' := by
  unfold rmE at e
  split at e
  · obtain ⟨d, h1, h2⟩ := ob_eq.1 e
    have hu := und_ok hE h1
    split at h2
    · cases h2
      rw [den_nmap] at hv
      cases hv
      obtain ⟨g1, g2⟩ := h.new 0 (o := .miter none 0 [] 0) (ob := .mapIter none 0 #[] 0) ⟨rfl, rfl, rfl, rfl⟩
      refine ⟨_, _, _, g2, ?_, den_ptr_mk (pset_same _ _ _) 0, g1⟩
      simp only [Instr.range, Sem.run_bind, run_underlying hu w, Result.andThen_ok, Sem.run_pure, run_newObj_alloc]
    · cases h2
  · rename_i q
    obtain ⟨d, h1, h2⟩ := ob_eq.1 e
    have hu := und_ok hE h1
    split at h2
    · obtain ⟨o, h3, h4⟩ := ob_eq.1 h2
      split at h4
      · rename_i es clock
        cases h4
        obtain ⟨y, a1, rfl⟩ := den_map hv
        obtain ⟨y', ob', b1, -, b3, b4⟩ := h.obj q _ h3
        rw [a1] at b1
        cases b1
        cases ob' <;> try exact b4.elim
        rename_i ms c
        obtain ⟨rfl, -⟩ := b4
        have hle := pset_le (b := nx) (w.heap.size, 0) (h.fresh nx (Nat.le_refl _)).1
        obtain ⟨g1, g2⟩ := h.new 0 (o := .miter (some q) c [] c) (ob := .mapIter (some y.1) c #[] c) ⟨rfl, rfl, rfl, y, hle q y a1, rfl⟩
        have hget : (getObj y.1).run P w = .ok (.map ms c) w := by simp [getObj, Sem.run, b3]
        refine ⟨_, _, _, g2, ?_, den_ptr_mk (pset_same _ _ _) 0, g1⟩
        simp only [Instr.range, Sem.run_bind, run_underlying hu w, Result.andThen_ok, Sem.run_pure, run_newObj_alloc, hget]
      · cases h4
    · cases h2
  · exact rgE_ok hE h e hv
/-- the entries that are left: those that have not been seen. -/
noncomputable def memN (x : Nat) (l : List Nat) : Bool := List.rec (motive := fun _ => Bool) false (fun y _ ih => Bool.rec (motive := fun _ => Bool) ih true (Nat.beq x y)) l
omit [Orig] in
theorem memN_ok (x : Nat) : ∀ l : List Nat, memN x l = l.contains x
  | [] => rfl
  | y :: l => by
    show Bool.rec (motive := fun _ => Bool) (memN x l) true (Nat.beq x y) = _
    rw [memN_ok x l, List.contains_cons, beq_nbeq]
    cases Nat.beq x y <;> rfl
noncomputable def leftE (seen : List Nat) (es : List SE) : List SE := List.rec (motive := fun _ => List SE) [] (fun e _ ih => Bool.rec (motive := fun _ => List SE) (e :: ih) ih (memN e.born seen)) es
omit [Orig] in
theorem leftE_ok {ρ : Pl} {seen : List Nat} : ∀ {es : List SE} {ms : List MapEntry}, denE ρ es ms → denE ρ (leftE seen es) (ms.filter fun e => !seen.contains e.born)
  | [], [], _ => trivial
  | e :: es, y :: ms, ⟨d1, d2, d3, d4⟩ => by
    have ih := leftE_ok (seen := seen) d4
    show denE ρ (Bool.rec (motive := fun _ => List SE) (e :: leftE seen es) (leftE seen es) (memN e.born seen)) _
    rw [memN_ok, d3]
    cases hb : seen.contains y.born with
    | true => rw [List.filter_cons_of_neg (by rw [hb]; simp)]; exact ih
    | false => rw [List.filter_cons_of_pos (by rw [hb]; rfl)]; exact ⟨d1, d2, d3, ih⟩
noncomputable def nmV (m : T SObj) (v : SV) : Option (SV × T SObj) := match v with
  | .ptr b o => oi (Nat.beq o 0) (ob (m.get b) fun x => match x with
    | .miter none _ _ _ => some (.tup [.bool false], m)
    | .miter (some r) since seen last => ob (m.get r) fun y => match y with
      | .map es clock => match leftE seen es with
        | [] => oi (match seen, es with | [], _ => true | _, [] => true | _, e :: _ => Nat.blt e.born last) (some (.tup [.bool false], m))
        | [e] => oi (Nat.blt e.born since) (oi (match seen with | [] => true | _ => false) (some (.tup [.bool true, e.key, e.val], m.put (some (.miter (some r) since (app seen [e.born]) clock)) b)))
        | _ => none
      | _ => none
    | _ => none)
  | _ => none
noncomputable def nmE (m : T SObj) (v : SV) (isS : Bool) : Option (SV × T SObj) := Bool.rec (motive := fun _ => Option (SV × T SObj)) (nmV m v) (nxE m v true) isS
omit [Orig] in
theorem denE_nil {ρ : Pl} {ms : List MapEntry} (h : denE ρ [] ms) : ms = [] := by cases ms with
  | nil => rfl
  | cons _ _ => exact h.elim
theorem nmE_ok {P : Program} {ρ : Pl} {m : T SObj} {nx : Nat} {w0 : Base} {w : World} (h : Emb P ρ m nx w0 w) {v : SV} {isS : Bool} {ty : TypeId} {u0 : Value} {r : SV × T SObj} (e : nmE m v isS = some r) (hv : den ρ v = some u0) :
    ∃ u w', (Instr.next u0 isS ty).run P w = .ok u w' ∧ den ρ r.1 = some u ∧ Emb P ρ r.2 nx w0 w' := by
  cases isS with
  | true => exact nxE_ok h e hv
  | false =>
    have e' : nmV m v = some r := e
    unfold nmV at e'
    split at e'
    case h_2 => cases e'
    rename_i b o
    obtain ⟨h1, h2⟩ := oi_eq.1 e'
    obtain ⟨x, h3, h4⟩ := ob_eq.1 h2
    obtain rfl := nbeq_iff.1 h1
    obtain ⟨y, g1, rfl⟩ := den_ptr hv
    obtain ⟨y', ob', a1, -, a3, a4⟩ := h.obj b _ h3
    rw [g1] at a1
    cases a1
    have over : ∃ u w', (pure (Value.tuple #[.bool false]) : Sem Value).run P w = .ok u w' ∧ den ρ (.tup [.bool false]) = some u ∧ Emb P ρ m nx w0 w' := ⟨_, w, rfl, den_tup_mk (us := [.bool false]) (denL_cons.2 ⟨_, _, den_bool _ _, denL_nil ρ, rfl⟩), h⟩
    split at h4
    · cases h4
      cases ob' <;> try exact a4.elim
      rename_i m' s' l' b'
      obtain ⟨rfl, -, rfl, hm⟩ := a4
      simp only at hm
      subst hm
      have hget : (getObj y.1).run P w = .ok (.mapIter none s' l' b') w := by simp [getObj, Sem.run, a3]
      obtain ⟨u, w', o1, o2, o3⟩ := over
      refine ⟨u, w', ?_, o2, o3⟩
      simp only [Instr.next, Sem.run_bind, hget, Result.andThen_ok]
      exact o1
    · rename_i rr since seen last
      obtain ⟨z, h5, h6⟩ := ob_eq.1 h4
      split at h6
      case h_2 => cases h6
      rename_i es clock
      cases ob' <;> try exact a4.elim
      rename_i m' s' l' b'
      obtain ⟨rfl, hl', rfl, y2, hy2, rfl⟩ := a4
      obtain ⟨y3, ob3, b1, -, b3, b4⟩ := h.obj rr _ h5
      rw [hy2] at b1
      cases b1
      cases ob3 <;> try exact b4.elim
      rename_i ms c
      obtain ⟨rfl, b5⟩ := b4
      have hget : (getObj y.1).run P w = .ok (.mapIter (some y2.1) s' l' b') w := by simp [getObj, Sem.run, a3]
      have hget2 : (getObj y2.1).run P w = .ok (.map ms c) w := by simp [getObj, Sem.run, b3]
      have hleft := leftE_ok (seen := seen) b5
      have hfil : (ms.filter fun e => !l'.contains e.born).toList = ms.toList.filter fun e => !seen.contains e.born := by
        rw [Array.toList_filter]
        apply List.filter_congr
        intro q _
        rw [← hl']
        simp
      split at h6
      · rename_i hE0
        obtain ⟨h7, h8⟩ := oi_eq.1 h6
        cases h8
        rw [hE0] at hleft
        have hnil := denE_nil hleft
        have harr : (ms.filter fun e => !l'.contains e.born) = #[] := by
          apply Array.ext'
          rw [hfil, hnil]
        have hno : (!l'.isEmpty && !ms.isEmpty && ms.all (·.born ≥ b')) = false := by
          cases seen with
          | nil =>
            have : l' = #[] := by apply Array.ext'; rw [hl']
            rw [this]; rfl
          | cons s0 ss =>
            cases es with
            | nil =>
              have := denE_nil b5
              have : ms = #[] := by apply Array.ext'; rw [this]
              rw [this]; simp
            | cons q qs =>
              have hq := blt_true h7
              cases hms : ms.toList with
              | nil => rw [hms] at b5; exact b5.elim
              | cons q' qs' =>
                rw [hms] at b5
                have hb : q'.born = q.born := b5.2.2.1.symm
                have : ms.all (·.born ≥ b') = false := by
                  rw [← Array.all_toList, hms]
                  simp [hb]
                  omega
                rw [this]; simp
        obtain ⟨u, w', o1, o2, o3⟩ := over
        refine ⟨u, w', ?_, o2, o3⟩
        simp only [Instr.next, Sem.run_bind, hget, Result.andThen_ok, hget2, hno, Bool.false_eq_true, if_false, harr]
        have hc : ((if (Array.filter (fun x => decide (x.born < s')) (#[] : Array MapEntry)).isEmpty = true then #[(none : Option MapEntry)] else #[]) ++ Array.map some (Array.filter (fun x => decide (x.born < s')) (#[] : Array MapEntry) ++ Array.filter (fun x => decide (x.born ≥ s')) (#[] : Array MapEntry))) = #[none] := by simp
        rw [hc]
        exact o1
      · rename_i e1 hE1
        obtain ⟨h7, h8⟩ := oi_eq.1 h6
        obtain ⟨h9, h10⟩ := oi_eq.1 h8
        cases h10
        rw [hE1] at hleft
        have hs0 : seen = [] := by cases seen with
          | nil => rfl
          | cons _ _ => cases h9
        subst hs0
        have hl0 : l' = #[] := by apply Array.ext'; rw [hl']
        subst hl0
        cases hL : ms.toList.filter fun e => !([] : List Nat).contains e.born with
        | nil => rw [hL] at hleft; exact hleft.elim
        | cons q qs =>
          rw [hL] at hleft
          obtain ⟨d1, d2, d3, d4⟩ := hleft
          have := denE_nil d4
          subst this
          have hq := blt_true h7
          rw [d3] at hq
          have harr : (ms.filter fun e => !(#[] : Array Nat).contains e.born) = #[q] := by
            apply Array.ext'
            rw [hfil, hL]
          obtain ⟨w', f1, f2⟩ := h.setObj h3 g1 a3 (fun _ _ _ hh => by cases hh) (o' := .miter (some rr) s' (app [] [e1.born]) c) (ob' := .mapIter (some y2.1) s' (#[].push q.born) c) ⟨rfl, by rw [d3]; rfl, rfl, y2, hy2, rfl⟩
          refine ⟨_, w', ?_, den_tup_mk (us := [.bool true, q.key, q.val]) (denL_cons.2 ⟨_, _, den_bool _ _, denL_cons.2 ⟨_, _, d1, denL_cons.2 ⟨_, _, d2, denL_nil ρ, rfl⟩, rfl⟩, rfl⟩), f2⟩
          have f1' := f1
          simp only [Instr.next, Sem.run_bind, hget, Result.andThen_ok, hget2, harr]
          have hold : (#[q] : Array MapEntry).filter (fun e => decide (e.born < s')) = #[q] := by simp [hq]
          have hnew : (#[q] : Array MapEntry).filter (fun e => decide (e.born ≥ s')) = #[] := by simp; omega
          have hc : ((if (Array.filter (fun x => decide (x.born < s')) (#[q] : Array MapEntry)).isEmpty = true then #[(none : Option MapEntry)] else #[]) ++ Array.map some (Array.filter (fun x => decide (x.born < s')) (#[q] : Array MapEntry) ++ Array.filter (fun x => decide (x.born ≥ s')) (#[q] : Array MapEntry))) = #[some q] := by
            rw [hold, hnew]; simp
          rw [hc]
          simp only [Array.isEmpty_empty, Bool.not_true, Bool.false_and, Bool.false_eq_true, if_false]
          have hch : (choose (Question.mapNext (#[some q] : Array (Option MapEntry)).size)).run P w = .ok 0 w := rfl
          rw [Sem.run_bind, hch]
          show (Sem.run P (do setObj y.1 (Obj.mapIter (some y2.1) s' (#[].push q.born) c); pure (Value.tuple #[Value.bool true, q.key, q.val])) w) = _
          simp only [Sem.run_bind, f1', Result.andThen_ok, Sem.run_pure]
      · cases h6
    · cases h4
noncomputable def lastE (l : List Nat) : Option Nat := List.rec (motive := fun _ => Option Nat) none (fun x _ ih => Option.rec (motive := fun _ => Option Nat) (some x) (fun y => some y) ih) l
omit [Orig] in
theorem lastE_ok : ∀ l : List Nat, lastE l = l.getLast?
  | [] => rfl
  | x :: l => by
    show Option.rec (motive := fun _ => Option Nat) (some x) (fun y => some y) (lastE l) = _
    rw [lastE_ok l, List.getLast?_cons]
    cases l.getLast? <;> rfl
noncomputable def bornE (s : Nat) (es : List SE) : Option SE := List.rec (motive := fun _ => Option SE) none (fun e _ ih => Bool.rec (motive := fun _ => Option SE) ih (some e) (Nat.beq e.born s)) es
omit [Orig] in
theorem bornE_ok {ρ : Pl} {s : Nat} : ∀ {es : List SE} {ms : List MapEntry} {e : SE}, denE ρ es ms → bornE s es = some e → ∃ q, ms.find? (·.born == s) = some q ∧ den ρ e.key = some q.key ∧ den ρ e.val = some q.val
  | [], _, _, _, h => by cases h
  | x :: es, [], _, h, _ => h.elim
  | x :: es, y :: ms, e, ⟨d1, d2, d3, d4⟩, h => by
    have h' : Bool.rec (motive := fun _ => Option SE) (bornE s es) (some x) (Nat.beq x.born s) = some e := h
    rw [List.find?_cons, beq_nbeq, ← d3]
    cases hb : Nat.beq x.born s with
    | true =>
      rw [hb] at h'
      cases h'
      exact ⟨y, rfl, d1, d2⟩
    | false =>
      rw [hb] at h'
      exact bornE_ok d4 h'
noncomputable def etE (m : T SObj) (v : SV) : Option SV := match v with
  | .ptr b o => oi (Nat.beq o 0) (ob (m.get b) fun x => match x with
    | .miter (some r) _ seen stepped => ob (m.get r) fun y => match y with
      | .map es clock => oi (Nat.beq clock stepped) (ob (lastE seen) fun s => ob (bornE s es) fun e => some (.tup [e.key, e.val]))
      | _ => none
    | _ => none)
  | _ => none
theorem etE_ok {P : Program} {ρ : Pl} {m : T SObj} {nx : Nat} {w0 : Base} {w : World} (h : Emb P ρ m nx w0 w) {v : SV} {u0 : Value} {r : SV} (e : etE m v = some r) (hv : den ρ v = some u0) : ∃ u, (Instr.entry u0).run P w = .ok u w ∧ den ρ r = some u := by
  unfold etE at e
  split at e
  case h_2 => cases e
  rename_i b o
  obtain ⟨h1, h2⟩ := oi_eq.1 e
  obtain ⟨x, h3, h4⟩ := ob_eq.1 h2
  obtain rfl := nbeq_iff.1 h1
  obtain ⟨y, g1, rfl⟩ := den_ptr hv
  obtain ⟨y', ob', a1, -, a3, a4⟩ := h.obj b _ h3
  rw [g1] at a1
  cases a1
  split at h4
  case h_2 => cases h4
  obtain ⟨z, h5, h6⟩ := ob_eq.1 h4
  split at h6
  case h_2 => cases h6
  obtain ⟨h7, h8⟩ := oi_eq.1 h6
  obtain ⟨st, h9, h10⟩ := ob_eq.1 h8
  obtain ⟨q, h11, h12⟩ := ob_eq.1 h10
  cases h12
  cases ob' <;> try exact a4.elim
  rename_i m' s' l' b'
  obtain ⟨rfl, hl', rfl, y2, hy2, rfl⟩ := a4
  obtain ⟨y3, ob3, b1, -, b3, b4⟩ := h.obj _ _ h5
  rw [hy2] at b1
  cases b1
  cases ob3 <;> try exact b4.elim
  rename_i ms c
  obtain ⟨rfl, b5⟩ := b4
  obtain rfl := nbeq_iff.1 h7
  obtain ⟨q', k1, k2, k3⟩ := bornE_ok b5 h11
  rw [lastE_ok] at h9
  have hback : l'.back? = some st := by
    obtain ⟨l⟩ := l'
    have : l = _ := hl'
    subst this
    simpa using h9
  have hfind : ms.find? (·.born == st) = some q' := by rw [← Array.find?_toList]; exact k1
  have hget : (getObj y.1).run P w = .ok (.mapIter (some y2.1) s' l' c) w := by simp [getObj, Sem.run, a3]
  have hget2 : (getObj y2.1).run P w = .ok (.map ms c) w := by simp [getObj, Sem.run, b3]
  refine ⟨_, ?_, den_tup_mk (us := [q'.key, q'.val]) (denL_cons.2 ⟨_, _, k2, denL_cons.2 ⟨_, _, k3, denL_nil ρ, rfl⟩, rfl⟩)⟩
  simp only [Instr.entry, Sem.run_bind, hget, Result.andThen_ok, hback, hget2, bne_self_eq_false, Bool.false_eq_true, if_false, hfind, Sem.run_pure]
/-- whichever entry comes next. -/
noncomputable def altE (f : SE → SV × T SObj) (es : List SE) : List (SV × T SObj) := List.rec (motive := fun _ => List (SV × T SObj)) [] (fun e _ ih => f e :: ih) es
omit [Orig] in
theorem altE_ok (f : SE → SV × T SObj) : ∀ es, altE f es = es.map f
  | [] => rfl
  | e :: es => by show f e :: altE f es = _; rw [altE_ok f es]; rfl
noncomputable def nlE (m : T SObj) (v : SV) : Option (List (SV × T SObj)) := match v with
  | .ptr b o => oi (Nat.beq o 0) (ob (m.get b) fun x => match x with
    | .miter (some r) since seen last => ob (m.get r) fun y => match y with
      | .map es clock => oi (es.all fun e => Nat.blt e.born since) (oi (Nat.ble since last) (match leftE seen es with
        | [] => none
        | q :: qs => some (altE (fun e => (.tup [.bool true, e.key, e.val], m.put (some (.miter (some r) since (app seen [e.born]) clock)) b)) (q :: qs))))
      | _ => none
    | _ => none)
  | _ => none
omit [Orig] in
theorem denE_mem {ρ : Pl} : ∀ {es : List SE} {ms : List MapEntry}, denE ρ es ms → ∀ q ∈ ms, ∃ e ∈ es, den ρ e.key = some q.key ∧ den ρ e.val = some q.val ∧ e.born = q.born
  | [], [], _, q, hq => by cases hq
  | x :: es, y :: ms, ⟨d1, d2, d3, d4⟩, q, hq => by
    rcases List.mem_cons.1 hq with rfl | hq
    · exact ⟨x, by simp, d1, d2, d3⟩
    · obtain ⟨e, h1, h2⟩ := denE_mem d4 q hq
      exact ⟨e, by simp [h1], h2⟩
theorem nlE_ok {P : Program} {ρ : Pl} {m : T SObj} {nx : Nat} {w0 : Base} {w : World} (h : Emb P ρ m nx w0 w) {v : SV} {ty : TypeId} {u0 : Value} {l : List (SV × T SObj)} (e : nlE m v = some l) (hv : den ρ v = some u0) :
    ∃ r ∈ l, ∃ u w', (Instr.next u0 false ty).run P w = .ok u w' ∧ den ρ r.1 = some u ∧ Emb P ρ r.2 nx w0 w' := by
  unfold nlE at e
  split at e
  case h_2 => cases e
  rename_i b o
  obtain ⟨h1, h2⟩ := oi_eq.1 e
  obtain ⟨x, h3, h4⟩ := ob_eq.1 h2
  obtain rfl := nbeq_iff.1 h1
  obtain ⟨y, g1, rfl⟩ := den_ptr hv
  obtain ⟨y', ob', a1, -, a3, a4⟩ := h.obj b _ h3
  rw [g1] at a1
  cases a1
  split at h4
  case h_2 => cases h4
  rename_i rr since seen last
  obtain ⟨z, h5, h6⟩ := ob_eq.1 h4
  split at h6
  case h_2 => cases h6
  rename_i es clock
  obtain ⟨h7, h8⟩ := oi_eq.1 h6
  obtain ⟨h9, h10⟩ := oi_eq.1 h8
  cases ob' <;> try exact a4.elim
  rename_i m' s' l' b'
  obtain ⟨rfl, hl', rfl, y2, hy2, rfl⟩ := a4
  obtain ⟨y3, ob3, b1, -, b3, b4⟩ := h.obj rr _ h5
  rw [hy2] at b1
  cases b1
  cases ob3 <;> try exact b4.elim
  rename_i ms c
  obtain ⟨rfl, b5⟩ := b4
  have hleft := leftE_ok (seen := seen) b5
  have hfil : (leftOf ms l').toList = ms.toList.filter fun e => !seen.contains e.born := by
    unfold leftOf
    rw [Array.toList_filter]
    apply List.filter_congr
    intro q _
    rw [← hl']
    simp
  have hold : ∀ q ∈ ms.toList, q.born < s' := by
    intro q hq
    obtain ⟨e1, m1, -, -, m2⟩ := denE_mem b5 q hq
    have := blt_true (List.all_eq_true.1 h7 e1 m1)
    omega
  split at h10
  · cases h10
  · rename_i q0 qs hq0
    rcases run_next_at (P := P) w ty y.1 y2.1 s' b' l' ms c a3 b3 hold (nble_iff.1 h9) with ⟨k1, -⟩ | ⟨q, k1, w1, k2, k3⟩
    · exfalso
      have : (leftOf ms l').toList = [] := List.eq_nil_of_length_eq_zero (by simpa using k1)
      rw [← hfil, this, hq0] at hleft
      exact hleft
    · rw [hfil] at k1
      obtain ⟨e1, m1, m2, m3, m4⟩ := denE_mem hleft q k1
      cases h10
      refine ⟨_, by rw [altE_ok, ← hq0]; exact List.mem_map_of_mem m1, _, _, k3, den_tup_mk (us := [.bool true, q.key, q.val]) (denL_cons.2 ⟨_, _, den_bool _ _, denL_cons.2 ⟨_, _, m2, denL_cons.2 ⟨_, _, m3, denL_nil ρ, rfl⟩, rfl⟩, rfl⟩), ?_⟩
      have hw1 : Emb P ρ m nx w0 w1 ∧ w1.heap[y.1]? = some (.mapIter (some y2.1) s' l' b') := by
        rcases k2 with rfl | rfl
        · exact ⟨h, a3⟩
        · exact ⟨h.drew, a3⟩
      obtain ⟨w', f1, f2⟩ := hw1.1.setObj h3 g1 hw1.2 (fun _ _ _ hh => by cases hh) (o' := .miter (some rr) s' (app seen [e1.born]) c) (ob' := .mapIter (some y2.1) s' (l'.push q.born) c) ⟨rfl, by rw [app_ok, m4, ← hl']; simp, rfl, y2, hy2, rfl⟩
      rw [run_setObj_at hw1.2] at f1
      cases f1
      exact f2
end Go.Proofs.YteblflebjhncbaaGreatDoor
