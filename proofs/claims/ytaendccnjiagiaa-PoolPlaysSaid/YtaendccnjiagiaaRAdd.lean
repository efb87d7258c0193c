/-
  The reference's Add and Turn.
-/
import Derived.Test.YtaendccnjiagiaaRRep
import Derived.BigRegion
import Derived.Deep.DeepCutAuto
namespace Go.Proofs.Ytaendccnjiagiaa
open Go.RowKit
attribute [local go_sem] run_store_float

theorem idx_mem {l : List Task} {id : Int} (h : id ∈ idsOf l) : 0 ≤ idxOf l id ∧ idxOf l id < l.length := by
  unfold idxOf
  cases hp : placeOf l id with
  | none =>
    obtain ⟨t, ht, rfl⟩ := List.mem_map.1 h
    obtain ⟨i, hi⟩ := List.mem_iff_getElem?.1 ht
    exact absurd rfl (placeOf_none hp i t hi)
  | some j =>
    obtain ⟨t, -, -, hj, -⟩ := placeOf_some hp
    simp only
    omega
theorem idx_not {l : List Task} {id : Int} (h : id ∉ idsOf l) : idxOf l id = -1 := by
  unfold idxOf
  cases hp : placeOf l id with
  | none => rfl
  | some j =>
    obtain ⟨t, ht, rfl, hj, -⟩ := placeOf_some hp
    exact absurd (List.mem_map.2 ⟨t, List.mem_iff_getElem?.2 ⟨j, ht⟩, rfl⟩) h

/-- find, in any world behind. -/
def Finds (w : World) (a : Option Addr) (n cap : Nat) (id i : Int) : Prop := ∀ w1, Touch [] w w1 → Calls Try.prog 41 #[.slice a n cap, .int .u64 id] w1 fun e w' => e = .returned (.int .i64 i) ∧ w1 = w'
theorem finds_any {w : World} {l : List Task} (id : Int) {a : Option Addr} {n cap : Nat} {ow : List Nat} (hrow : Row w 82 4 a n cap ow (cellsOf l)) (hn : n = l.length) (hn64 : n ≤ 1024) : Finds w a n cap id (idxOf l id) :=
  fun _ t => rfind_any _ l id a n cap ow (hrow.touch t (by simp)) hn hn64

theorem radd_there (w : World) (bp : Nat) (v0 v1 v2 : Value) (aw aq : Option Addr) (nw cw mq cq : Nat) (id : Int) (x : Nat) (hf : Calls Try.prog 40 #[.float .f64 x] w fun e w' => e = .returned (.bool true) ∧ Touch [] w w') (i1 i2 : Int)
    (hat : At w bp 47 [v0, v1, v2, .slice aw nw cw, .slice aq mq cq]) (F1 : Finds w aw nw cw id i1) (F2 : Finds w aq mq cq id i2) (h : 0 ≤ i1 ∨ i1 < 0 ∧ 0 ≤ i2) :
    Calls Try.prog 32 #[.pointer (some ⟨bp, 0, none⟩), .int .u64 id, .float .f64 x] w fun e w' => e = .returned (.int .i64 184) ∧ Touch [] w w' := by
  rcases h with h | ⟨h, h'⟩
  · go_enter Try.func32, Try.ntmps32
    go_wp2_with fail
    refine hf.mono ?_
    rintro e w1 ⟨rfl, t1⟩
    have hat1 := hat.touch t1 (by simp)
    have c3 := hat1.cell 3
    have c4 := hat1.cell 4
    simp at c3 c4
    have G1 := Lib.hid (F1 w1 t1)
    have T1 := Lib.hid t1
    clear F1 F2 hf hat hat1 t1
    go_wp2_with fail
    refine G1.out.mono ?_
    rintro e w' ⟨rfl, rfl⟩
    go_wp2_with fail
    go_ret
    exact ⟨rfl, T1.out⟩
  · go_enter Try.func32, Try.ntmps32
    go_wp2_with fail
    refine hf.mono ?_
    rintro e w1 ⟨rfl, t1⟩
    have hat1 := hat.touch t1 (by simp)
    have c3 := hat1.cell 3
    have c4 := hat1.cell 4
    simp at c3 c4
    have G1 := Lib.hid (F1 w1 t1)
    have G2 := Lib.hid (F2 w1 t1)
    have T1 := Lib.hid t1
    clear F1 F2 hf hat hat1 t1
    go_wp2_with fail
    refine G1.out.mono ?_
    rintro e w' ⟨rfl, rfl⟩
    go_wp2_with fail
    refine G2.out.mono ?_
    rintro e w' ⟨rfl, rfl⟩
    go_wp2_with fail
    go_ret
    exact ⟨rfl, T1.out⟩


theorem radd_full (w : World) (bp : Nat) (x0 x1 : Int) (v2 : Value) (aw aq : Option Addr) (nw cw mq cq : Nat) (id : Int) (x : Nat) (hf : Calls Try.prog 40 #[.float .f64 x] w fun e w' => e = .returned (.bool true) ∧ Touch [] w w')
    (hat : At w bp 47 [.int .i64 x0, .int .i64 x1, v2, .slice aw nw cw, .slice aq mq cq]) (F1 : Finds w aw nw cw id (-1)) (F2 : Finds w aq mq cq id (-1)) (h1 : x0 ≤ (nw : Int)) (h2 : x1 ≤ (mq : Int)) :
    Calls Try.prog 32 #[.pointer (some ⟨bp, 0, none⟩), .int .u64 id, .float .f64 x] w fun e w' => e = .returned (.int .i64 6) ∧ Touch [] w w' := by
  go_enter Try.func32, Try.ntmps32
  go_wp2_with fail
  refine hf.mono ?_
  rintro e w1 ⟨rfl, t1⟩
  have hat1 := hat.touch t1 (by simp)
  have c0 := hat1.cell 0
  have c3 := hat1.cell 3
  have c4 := hat1.cell 4
  simp at c0 c3 c4
  have G1 := Lib.hid (F1 w1 t1)
  have G2 := Lib.hid (F2 w1 t1)
  have HA := Lib.hid hat1
  have T1 := Lib.hid t1
  clear F1 F2 hf hat hat1 t1
  go_wp2_with fail
  refine G1.out.mono ?_
  rintro e w2 ⟨rfl, rfl⟩
  go_wp2_with fail
  refine G2.out.mono ?_
  rintro e w2 ⟨rfl, rfl⟩
  go_wp2_with fail
  have hA := HA.out.alloc (.cells #[.int .u64 id, .float .f64 x, .int .i64 0, .bool false] 82)
  have tA := (Touch.refl [] w1).alloc (.cells #[.int .u64 id, .float .f64 x, .int .i64 0, .bool false] 82)
  have hT := At.new w1 82 [.int .u64 id, .float .f64 x, .int .i64 0, .bool false]
  generalize hwA : w1.alloc _ = wA at hA tA hT ⊢
  clear hwA
  generalize w1.heap.size = bt at hT ⊢
  have c0 := hA.cell 0
  have c3 := hA.cell 3
  simp at c0 c3
  go_quiet (fail)
  generalize hw2 : World.drewN _ _ = w2
  have t2 : Touch [] wA w2 := by subst hw2; exact (Touch.refl _ _).drewN _
  clear hw2
  have c1 := (hA.touch t2 (by simp)).cell 1
  have c4 := (hA.touch t2 (by simp)).cell 4
  have c0 := (hA.touch t2 (by simp)).cell 0
  simp at c0 c1 c4
  go_wp2
  go_quiet (fail)
  generalize hw3 : World.drewN _ _ = w3
  have t3 : Touch [] w2 w3 := by subst hw3; exact (Touch.refl _ _).drewN _
  clear hw3
  go_wp2
  go_ret
  exact ⟨rfl, ((T1.out.trans' tA).trans' t2).trans' t3⟩

/-- What stands behind the append of a task: to the list at work (k = 3), or to the queue (k = 4). -/
def RAddPost (w : World) (bp : Nat) (v0 v1 v2 : Value) (k : Nat) (other : Value) (n : Nat) (ow : List Nat) (xs : List Value) (id : Int) (x : Nat) (w' : World) : Prop :=
  ∃ a' cap' own', At w' bp 47 ([v0, v1, v2] ++ (if k = 3 then [.slice a' (n + 1) cap', other] else [other, .slice a' (n + 1) cap'])) ∧
    Row w' 82 4 a' (n + 1) cap' own' (xs ++ Task.cells ⟨id, x, 0, false⟩) ∧ Touch (bp :: ow) w w' ∧ (own' = ow ∨ ∃ b, own' = [b] ∧ w.heap.size ≤ b)

theorem radd_work (w : World) (bp : Nat) (x0 : Int) (v1 v2 : Value) (aw aq : Option Addr) (nw cw mq cq : Nat) (ow : List Nat) (xs : List Value) (id : Int) (x : Nat) (hf : Calls Try.prog 40 #[.float .f64 x] w fun e w' => e = .returned (.bool true) ∧ Touch [] w w')
    (hat : At w bp 47 [.int .i64 x0, v1, v2, .slice aw nw cw, .slice aq mq cq]) (hrow : Row w 82 4 aw nw cw ow xs) (F1 : Finds w aw nw cw id (-1)) (F2 : Finds w aq mq cq id (-1)) (h1 : (nw : Int) < x0) (hn : nw < 1024) (hbo : bp ∉ ow) :
    Calls Try.prog 32 #[.pointer (some ⟨bp, 0, none⟩), .int .u64 id, .float .f64 x] w fun e w' => e = .returned (.int .i64 0) ∧ RAddPost w bp (.int .i64 x0) v1 v2 3 (.slice aq mq cq) nw ow xs id x w' := by
  go_enter Try.func32, Try.ntmps32
  go_wp2_with fail
  refine hf.mono ?_
  rintro e w1 ⟨rfl, t1⟩
  have hat1 := hat.touch t1 (by simp)
  have c0 := hat1.cell 0
  have c3 := hat1.cell 3
  have c4 := hat1.cell 4
  simp at c0 c3 c4
  have G1 := Lib.hid (F1 w1 t1)
  have G2 := Lib.hid (F2 w1 t1)
  have HA := Lib.hid hat1
  have T1 := Lib.hid t1
  clear F1 F2 hf hat hat1 t1
  go_wp2_with fail
  refine G1.out.mono ?_
  rintro e w2 ⟨rfl, rfl⟩
  go_wp2_with fail
  refine G2.out.mono ?_
  rintro e w2 ⟨rfl, rfl⟩
  go_wp2_with fail
  have hA := HA.out.alloc (.cells #[.int .u64 id, .float .f64 x, .int .i64 0, .bool false] 82)
  have tA := (Touch.refl [] w1).alloc (.cells #[.int .u64 id, .float .f64 x, .int .i64 0, .bool false] 82)
  have hT := At.new w1 82 [.int .u64 id, .float .f64 x, .int .i64 0, .bool false]
  generalize hwA : w1.alloc _ = wA at hA tA hT ⊢
  clear hwA
  generalize w1.heap.size = bt at hT ⊢
  have c0 := hA.cell 0
  have c3 := hA.cell 3
  simp at c0 c3
  go_quiet (fail)
  generalize hw2 : World.drewN _ _ = w2
  have t2 : Touch [] wA w2 := by subst hw2; exact (Touch.refl _ _).drewN _
  clear hw2 c0 c3
  have h2 := hA.touch t2 (by simp)
  have hT2 := hT.touch t2 (by simp)
  have c0 := h2.cell 0
  have c3 := h2.cell 3
  have d0 := hT2.cell 0
  have d1 := hT2.cell 1
  have d2 := hT2.cell 2
  have d3 := hT2.cell 3
  simp at c0 c3 d0 d1 d2 d3
  have hlt := h2.lt
  have hltT := hT2.lt
  have hr2 := (hrow.touch ((T1.out.trans' tA).trans' t2) (by simp))
  have T2 := Lib.hid ((T1.out.trans' tA).trans' t2)
  clear tA t2 hrow hA hT
  go_upto_region 7 with (fail)
  go_cut [] (fun wx => RAddPost w bp (.int .i64 x0) v1 v2 3 (.slice aq mq cq) nw ow xs id x wx)
  case first =>
    obtain ⟨i0, hi, hz0, hz1, hz2⟩ := info_parts Try.infoRTask
    have hr2d := hr2.drew
    have h2d := h2.drew
    go_region_law ((refine step_append_row _ (by rfl) _ _ _ (by rfl) 82 i0 _ 4 32 Try.rtasksT hi hz0 hz1 hz2 rfl (by decide) aw nw cw ow xs (by rfl) (hr2d.alloc _) (some ⟨w2.heap.size, 0, none⟩) 1 1 (Task.cells ⟨id, x, 0, false⟩) (by rfl) (by rfl) (.inr ⟨_, rfl, World.news_of_block (cs := #[.int .u64 id, .float .f64 x, .int .i64 0, .bool false]) (t := 82) (fr := (0, 0)) (heap_alloc_new w2.drew _)⟩) (by simp [Task.cells, Value.oneCell']) (by unfold maxLen; omega) (by omega) ?_; intro a2 cap2 own2 w9 hrow9 ht9 ho9 _ _; have hat9 := (h2d.alloc _).touch ht9 hbo; have f3 := hat9.frozen 3; have k3' := hat9.cell 3; simp at k3'))
    all_goals go_wp2_with fail
    all_goals
      go_meet
      have hb' : bp ∉ own2 := by
        rcases ho9 with rfl | rfl
        · exact hbo
        · simp; have := T2.out.size; omega
      refine ⟨a2, cap2, own2, ?_, hrow9.touch ((Touch.refl [bp] w9).setCell ⟨bp, 3, none⟩ (by simp) _) (fun b hb => by simp; rintro rfl; exact hb' hb), (((((T2.out.drew).mono (by simp)).alloc _).trans ht9 (fun b hb => .inl (by simp [hb]))).setCell ⟨bp, 3, none⟩ (by simp) _), ?_⟩
      · simpa using hat9.set 3 (.slice a2 (nw + 1) cap2)
      · rcases ho9 with h | h
        · exact .inl h
        · exact .inr ⟨_, h, by have := T2.out.size; simp; omega⟩
  case rest =>
    go_wp2_with fail
    go_ret
    exact ⟨rfl, hcut⟩

theorem radd_queue (w : World) (bp : Nat) (x0 x1 : Int) (v2 : Value) (aw aq : Option Addr) (nw cw mq cq : Nat) (oq : List Nat) (xs : List Value) (id : Int) (x : Nat) (hf : Calls Try.prog 40 #[.float .f64 x] w fun e w' => e = .returned (.bool true) ∧ Touch [] w w')
    (hat : At w bp 47 [.int .i64 x0, .int .i64 x1, v2, .slice aw nw cw, .slice aq mq cq]) (hrow : Row w 82 4 aq mq cq oq xs) (F1 : Finds w aw nw cw id (-1)) (F2 : Finds w aq mq cq id (-1)) (h1 : x0 ≤ (nw : Int)) (h2' : (mq : Int) < x1) (hn : mq < 1024) (hbo : bp ∉ oq) :
    Calls Try.prog 32 #[.pointer (some ⟨bp, 0, none⟩), .int .u64 id, .float .f64 x] w fun e w' => e = .returned (.int .i64 0) ∧ RAddPost w bp (.int .i64 x0) (.int .i64 x1) v2 4 (.slice aw nw cw) mq oq xs id x w' := by
  go_enter Try.func32, Try.ntmps32
  go_wp2_with fail
  refine hf.mono ?_
  rintro e w1 ⟨rfl, t1⟩
  have hat1 := hat.touch t1 (by simp)
  have c0 := hat1.cell 0
  have c3 := hat1.cell 3
  have c4 := hat1.cell 4
  simp at c0 c3 c4
  have G1 := Lib.hid (F1 w1 t1)
  have G2 := Lib.hid (F2 w1 t1)
  have HA := Lib.hid hat1
  have T1 := Lib.hid t1
  clear F1 F2 hf hat hat1 t1
  go_wp2_with fail
  refine G1.out.mono ?_
  rintro e w2 ⟨rfl, rfl⟩
  go_wp2_with fail
  refine G2.out.mono ?_
  rintro e w2 ⟨rfl, rfl⟩
  go_wp2_with fail
  have hA := HA.out.alloc (.cells #[.int .u64 id, .float .f64 x, .int .i64 0, .bool false] 82)
  have tA := (Touch.refl [] w1).alloc (.cells #[.int .u64 id, .float .f64 x, .int .i64 0, .bool false] 82)
  have hT := At.new w1 82 [.int .u64 id, .float .f64 x, .int .i64 0, .bool false]
  generalize hwA : w1.alloc _ = wA at hA tA hT ⊢
  clear hwA
  generalize w1.heap.size = bt at hT ⊢
  have c0 := hA.cell 0
  have c3 := hA.cell 3
  simp at c0 c3
  go_quiet (fail)
  generalize hwb : World.drewN _ _ = wb
  have t2 : Touch [] wA wb := by subst hwb; exact (Touch.refl _ _).drewN _
  clear hwb
  have c1 := (hA.touch t2 (by simp)).cell 1
  have c4 := (hA.touch t2 (by simp)).cell 4
  have c0 := (hA.touch t2 (by simp)).cell 0
  simp at c0 c1 c4
  go_wp2
  go_quiet (fail)
  generalize hw2 : World.drewN _ _ = w2
  have t3 : Touch [] wb w2 := by subst hw2; exact (Touch.refl _ _).drewN _
  have tt := t2.trans' t3
  clear hw2 c0 c1 c4
  have h2 := hA.touch tt (by simp)
  have hT2 := hT.touch tt (by simp)
  have c4 := h2.cell 4
  have d0 := hT2.cell 0
  have d1 := hT2.cell 1
  have d2 := hT2.cell 2
  have d3 := hT2.cell 3
  simp at c4 d0 d1 d2 d3
  have hlt := h2.lt
  have hltT := hT2.lt
  have hr2 := (hrow.touch ((T1.out.trans' tA).trans' tt) (by simp))
  have T2 := Lib.hid ((T1.out.trans' tA).trans' tt)
  clear tA t2 t3 tt hrow hA hT
  go_upto_region 11 with (fail)
  go_cut [] (fun wx => RAddPost w bp (.int .i64 x0) (.int .i64 x1) v2 4 (.slice aw nw cw) mq oq xs id x wx)
  case first =>
    obtain ⟨i0, hi, hz0, hz1, hz2⟩ := info_parts Try.infoRTask
    have hr2d := hr2.drew
    have h2d := h2.drew
    go_region_law ((refine step_append_row _ (by rfl) _ _ _ (by rfl) 82 i0 _ 4 32 Try.rtasksT hi hz0 hz1 hz2 rfl (by decide) aq mq cq oq xs (by rfl) (hr2d.alloc _) (some ⟨w2.heap.size, 0, none⟩) 1 1 (Task.cells ⟨id, x, 0, false⟩) (by rfl) (by rfl) (.inr ⟨_, rfl, World.news_of_block (cs := #[.int .u64 id, .float .f64 x, .int .i64 0, .bool false]) (t := 82) (fr := (0, 0)) (heap_alloc_new w2.drew _)⟩) (by simp [Task.cells, Value.oneCell']) (by unfold maxLen; omega) (by omega) ?_; intro a2 cap2 own2 w9 hrow9 ht9 ho9 _ _; have hat9 := (h2d.alloc _).touch ht9 hbo; have f3 := hat9.frozen 4; have k3' := hat9.cell 4; simp at k3'))
    all_goals go_wp2_with fail
    all_goals
      go_meet
      have hb' : bp ∉ own2 := by
        rcases ho9 with rfl | rfl
        · exact hbo
        · simp; have := T2.out.size; omega
      refine ⟨a2, cap2, own2, ?_, hrow9.touch ((Touch.refl [bp] w9).setCell ⟨bp, 4, none⟩ (by simp) _) (fun b hb => by simp; rintro rfl; exact hb' hb), (((((T2.out.drew).mono (by simp)).alloc _).trans ht9 (fun b hb => .inl (by simp [hb]))).setCell ⟨bp, 4, none⟩ (by simp) _), ?_⟩
      · simpa using hat9.set 4 (.slice a2 (mq + 1) cap2)
      · rcases ho9 with h | h
        · exact .inl h
        · exact .inr ⟨_, h, by have := T2.out.size; simp; omega⟩
  case rest =>
    go_wp2_with fail
    go_ret
    exact ⟨rfl, hcut⟩
theorem radd_any (w : World) (bp : Nat) (S : Pool) (own : List Nat) (hok : S.Ok) (hR : RRep w bp S own) (id : Int) (x : Nat) (h64 : x < 18446744073709551616) :
    Calls Try.prog 32 #[.pointer (some ⟨bp, 0, none⟩), .int .u64 id, .float .f64 x] w (After own w (.int .i64 (S.add id x).1) fun w' o => RRep w' bp (S.add id x).2 o) := by
  have hlt := hR.lt
  obtain ⟨aw, nw, cw, ow, aq, nq, cq, oq, hp, rfl⟩ := (fun h => h : RRep w bp S own → RRep w bp S own) hR
  obtain ⟨hnw, hnq⟩ := hp.nw
  have hlw := hok.lw
  have hlq := hok.lq
  have hw2 := hok.w2
  have hr2 := hok.r2
  have hf := finite_any w x h64
  have F1 := finds_any id hp.work hnw (by omega)
  have F2 := finds_any id hp.queue hnq (by omega)
  have same : ∀ (r : Int) e w', e = Ending.returned (.int .i64 r) ∧ Touch [] w w' → After (bp :: (ow ++ oq)) w (.int .i64 r) (fun w' o => RRep w' bp S o) e w' :=
    fun r e w' ⟨he, ht⟩ => ⟨_, he, hR.touch ht (by simp), ht.mono (by simp), fun b hb => .inl hb⟩
  unfold Pool.add
  by_cases hx : okW x = true
  case neg =>
    have hx' : okW x = false := by simpa using hx
    rw [hx'] at hf
    simp only [hx', if_true]
    refine Calls.mono ?_ (fun e w' h => same 2 e w' h)
    clear same hx hx' F1 F2
    go_enter Try.func32, Try.ntmps32
    go_wp2_with (go_at_call 40; refine hf.mono ?_; rintro e w' ⟨rfl, t2⟩)
    go_ret
    exact ⟨rfl, t2⟩
  rw [hx] at hf
  simp only [hx, Bool.true_eq_false, if_false]
  by_cases hid : id ∈ S.ids
  · simp only [hid, if_true]
    refine (radd_there w bp _ _ _ aw aq nw cw nq cq id x hf _ _ hp.at_ F1 F2 ?_).mono (fun e w' h => same 184 e w' h)
    by_cases h1 : id ∈ idsOf S.work
    · exact .inl (idx_mem h1).1
    · rcases List.mem_append.1 hid with h | h
      · exact absurd h h1
      · exact .inr ⟨by rw [idx_not h1]; decide, (idx_mem h).1⟩
  simp only [hid, if_false]
  rw [idx_not (fun h => hid (List.mem_append.2 (.inl h)))] at F1
  rw [idx_not (fun h => hid (List.mem_append.2 (.inr h)))] at F2
  have hbp := hp.at_.lt
  by_cases hfree : (S.work.length : Int) < S.workers
  · simp only [hfree, if_true]
    refine (radd_work w bp _ _ _ aw aq nw cw nq cq ow _ id x hf hp.at_ hp.work F1 F2 (by omega) (by omega) hp.ow_bp).mono fun e w' ⟨he, a', cap', own', h1', h2', h4', h5'⟩ => ?_
    have hn' : bp ∉ own' ∧ ∀ b ∈ own', b ∉ oq := by
      rcases h5' with rfl | ⟨c, rfl, hc⟩
      · exact ⟨hp.ow_bp, hp.ow_oq⟩
      · refine ⟨by simp; omega, fun b hb hb' => ?_⟩
        simp at hb; subst hb
        have := hp.queue.lt b hb'; omega
    refine ⟨bp :: (own' ++ oq), he, ⟨a', nw + 1, cap', own', aq, nq, cq, oq, ⟨by simpa using h1', by rw [cellsOf_append]; exact h2', hp.queue.touch h4' ?_, hn'.1, hp.oq_bp, hn'.2⟩, rfl⟩, h4'.mono ?_, ?_⟩
    · intro b hb
      simp only [List.mem_cons, not_or]
      exact ⟨fun e => hp.oq_bp (e ▸ hb), fun hb' => hp.ow_oq b hb' hb⟩
    · intro b hb
      simp only [List.mem_cons] at hb
      left; simp only [List.mem_cons, List.mem_append]
      rcases hb with h | h <;> simp [h]
    · intro b hb
      simp only [List.mem_cons, List.mem_append] at hb
      rcases hb with rfl | hb | hb
      · simp
      · rcases h5' with rfl | ⟨c, rfl, hc⟩
        · simp [hb]
        · simp at hb; subst hb; exact .inr hc
      · simp [hb]
  simp only [hfree, if_false]
  by_cases hfull : S.room ≤ (S.queue.length : Int)
  · simp only [hfull, if_true]
    exact (radd_full w bp _ _ _ aw aq nw cw nq cq id x hf hp.at_ F1 F2 (by omega) (by omega)).mono (fun e w' h => same 6 e w' h)
  simp only [hfull, if_false]
  refine (radd_queue w bp _ _ _ aw aq nw cw nq cq oq _ id x hf hp.at_ hp.queue F1 F2 (by omega) (by omega) (by omega) hp.oq_bp).mono fun e w' ⟨he, a', cap', own', h1', h2', h4', h5'⟩ => ?_
  have hn' : bp ∉ own' ∧ ∀ b ∈ ow, b ∉ own' := by
    rcases h5' with rfl | ⟨c, rfl, hc⟩
    · exact ⟨hp.oq_bp, hp.ow_oq⟩
    · refine ⟨by simp; omega, fun b hb hb' => ?_⟩
      simp at hb'; subst hb'
      have := hp.work.lt b hb; omega
  refine ⟨bp :: (ow ++ own'), he, ⟨aw, nw, cw, ow, a', nq + 1, cap', own', ⟨by simpa using h1', hp.work.touch h4' ?_, by rw [cellsOf_append]; exact h2', hp.ow_bp, hn'.1, hn'.2⟩, rfl⟩, h4'.mono ?_, ?_⟩
  · intro b hb
    simp only [List.mem_cons, not_or]
    exact ⟨fun e => hp.ow_bp (e ▸ hb), fun hb' => hp.ow_oq b hb hb'⟩
  · intro b hb
    simp only [List.mem_cons] at hb
    left; simp only [List.mem_cons, List.mem_append]
    rcases hb with h | h <;> simp [h]
  · intro b hb
    simp only [List.mem_cons, List.mem_append] at hb
    rcases hb with rfl | hb | hb
    · simp
    · simp [hb]
    · rcases h5' with rfl | ⟨c, rfl, hc⟩
      · simp [hb]
      · simp at hb; subst hb; exact .inr hc
end Go.Proofs.Ytaendccnjiagiaa
