/-
  (*Pool).Done where there is such a task.
-/
import Derived.Test.YtaendccnjiagiaaPDone
import Derived.Deep.DeepCutAuto
namespace Go.Proofs.Ytaendccnjiagiaa
open Go.RowKit

/-- What is appended where an element is cut out: the cells behind it. -/
theorem cut_src {w : World} {e : TypeId} {b off n cap : Nat} {own : List Nat} {l : List Task} (h : Row w e 4 (some ⟨b, off, none⟩) n cap own (cellsOf l)) (hn : n = l.length) (k : Nat) (hk : k ≤ n) :
    n - k = 0 ∨ ∃ ad, (if cap = k then some (⟨b, off, none⟩ : Addr) else some ⟨b, off + k * 4, none⟩) = some ad ∧ ∀ i u, (cellsOf (l.drop k))[i]? = some u → w.cell? (ad.add i) = some u := by
  by_cases hc : cap = k
  · left; have := h.2.1; omega
  · right
    refine ⟨⟨b, off + k * 4, none⟩, by rw [if_neg hc], fun i u hi => ?_⟩
    rw [Addr.add_lit, Nat.add_assoc]
    refine h.cellSome _ _ ?_
    rw [← cellsOf_drop, List.getElem?_drop] at hi
    exact hi
theorem erase_cells (l : List Task) (j : Nat) (hj : j < l.length) : (cellsOf l).take (j * 4) ++ cellsOf (l.drop (j + 1)) = cellsOf (l.eraseIdx j) := by
  rw [cellsOf_take, ← cellsOf_append, List.eraseIdx_eq_take_drop_succ]
theorem erase_len (l : List Task) (j n : Nat) (hn : n = l.length) (hj : j < n) : (cellsOf (l.drop (j + 1))).length = (n - (j + 1)) * 4 := by rw [length_cellsOf, List.length_drop, hn]

/-- A pool's memory, its parts apart (before it is whole again). -/
structure Mem (w0 w : World) (l0 : List Nat) (bp : Nat) (x0 x1 x2 : Int) (aw : Option Addr) (nw cw : Nat) (ow : List Nat) (lw : List Task) (aq : Option Addr) (nq cq : Nat) (oq : List Nat) (lq : List Task) (bm : Nat) (kv : List (Int × Value)) : Prop where
  at_ : At w bp 59 [.int .i64 x0, .int .i64 x1, .int .i64 x2, .slice aw nw cw, .slice aq nq cq, .map (some bm)]
  work : Row w 62 4 aw nw cw ow (cellsOf lw)
  queue : Row w 62 4 aq nq cq oq (cellsOf lq)
  map : IMap w KU.f bm kv
  touch : Touch l0 w0 w
  bp_l : bp ∈ l0
  bm_l : bm ∈ l0
  ow_l : ∀ b ∈ ow, b ∈ l0 ∨ w0.heap.size ≤ b
  oq_l : ∀ b ∈ oq, b ∈ l0 ∨ w0.heap.size ≤ b
  bm_bp : bm ≠ bp
  ow_bp : bp ∉ ow
  ow_bm : bm ∉ ow
  oq_bp : bp ∉ oq
  oq_bm : bm ∉ oq
  ow_oq : ∀ b ∈ ow, b ∉ oq

theorem own_not {ow ow' : List Nat} {H c : Nat} (ho : ow' = ow ∨ ow' = [H]) (h : c ∉ ow) (hlt : c < H) : c ∉ ow' := by
  rcases ho with rfl | rfl
  · exact h
  · simp; omega

theorem Mem.step {w0 w w' : World} {l0 : List Nat} {bp : Nat} {x0 x1 x2 : Int} {aw : Option Addr} {nw cw : Nat} {ow : List Nat} {lw : List Task} {aq : Option Addr} {nq cq : Nat} {oq : List Nat} {lq : List Task} {bm : Nat} {kv : List (Int × Value)}
    (h : Mem w0 w l0 bp x0 x1 x2 aw nw cw ow lw aq nq cq oq lq bm kv) (t : Touch [] w w') : Mem w0 w' l0 bp x0 x1 x2 aw nw cw ow lw aq nq cq oq lq bm kv :=
  ⟨h.at_.touch t (by simp), h.work.touch t (by simp), h.queue.touch t (by simp), h.map.touch t (by simp), h.touch.trans t (by simp), h.bp_l, h.bm_l, h.ow_l, h.oq_l, h.bm_bp, h.ow_bp, h.ow_bm, h.oq_bp, h.oq_bm, h.ow_oq⟩
theorem Mem.del {w0 w w' : World} {l0 : List Nat} {bp : Nat} {x0 x1 x2 : Int} {aw : Option Addr} {nw cw : Nat} {ow : List Nat} {lw : List Task} {aq : Option Addr} {nq cq : Nat} {oq : List Nat} {lq : List Task} {bm : Nat} {kv kv' : List (Int × Value)}
    (h : Mem w0 w l0 bp x0 x1 x2 aw nw cw ow lw aq nq cq oq lq bm kv) (hm : IMap w' KU.f bm kv') (t : Touch [bm] w w') : Mem w0 w' l0 bp x0 x1 x2 aw nw cw ow lw aq nq cq oq lq bm kv' :=
  ⟨h.at_.touch t (by simpa using fun e => h.bm_bp e.symm), h.work.touch t (fun b hb => by simp; rintro rfl; exact h.ow_bm hb), h.queue.touch t (fun b hb => by simp; rintro rfl; exact h.oq_bm hb), hm, h.touch.trans t (by simpa using Or.inl h.bm_l), h.bp_l, h.bm_l, h.ow_l, h.oq_l, h.bm_bp, h.ow_bp, h.ow_bm, h.oq_bp, h.oq_bm, h.ow_oq⟩
/-- The list at work has been laid anew (append), and stored. -/
theorem Mem.setWork {w0 w w' : World} {l0 : List Nat} {bp : Nat} {x0 x1 x2 : Int} {aw : Option Addr} {nw cw : Nat} {ow : List Nat} {lw : List Task} {aq : Option Addr} {nq cq : Nat} {oq : List Nat} {lq : List Task} {bm : Nat} {kv : List (Int × Value)}
    (h : Mem w0 w l0 bp x0 x1 x2 aw nw cw ow lw aq nq cq oq lq bm kv) {a' : Option Addr} {n' c' : Nat} {ow' : List Nat} {lw' : List Task} (hrow : Row w' 62 4 a' n' c' ow' (cellsOf lw')) (t : Touch ow w w') (ho : ow' = ow ∨ ow' = [w.heap.size]) :
    Mem w0 (w'.setCell ⟨bp, 3, none⟩ (.slice a' n' c')) l0 bp x0 x1 x2 a' n' c' ow' lw' aq nq cq oq lq bm kv := by
  have hb := h.at_.lt
  have hm := h.map.lt
  have hq := h.queue.lt
  have hs := h.touch.size
  have h1 : bp ∉ ow' := own_not ho h.ow_bp hb
  have h2 : bm ∉ ow' := own_not ho h.ow_bm hm
  have h3 : ∀ b ∈ ow', b ∉ oq := by
    rcases ho with rfl | rfl
    · exact h.ow_oq
    · intro b hb' hb2; simp at hb'; subst hb'; have := hq _ hb2; omega
  have h4 : ∀ b ∈ ow', b ∈ l0 ∨ w0.heap.size ≤ b := by
    rcases ho with rfl | rfl
    · exact h.ow_l
    · intro b hb'; simp at hb'; subst hb'; exact .inr hs
  have ts : Touch [bp] w' (w'.setCell ⟨bp, 3, none⟩ (.slice a' n' c')) := (Touch.refl _ _).setCell _ (by simp) _
  refine ⟨?_, hrow.touch ts ?_, (h.queue.touch t ?_).touch ts ?_, (h.map.touch t h.ow_bm).touch ts (by simpa using h.bm_bp), (h.touch.trans t h.ow_l).trans ts (by simpa using Or.inl h.bp_l), h.bp_l, h.bm_l, h4, h.oq_l, h.bm_bp, h1, h2, h.oq_bp, h.oq_bm, h3⟩
  · have := (h.at_.touch t h.ow_bp).set 3 (.slice a' n' c')
    simpa using this
  · intro b hb'; simp; rintro rfl; exact h1 hb'
  · intro b hb' hb2; exact h.ow_oq b hb2 hb'
  · intro b hb'; simp; rintro rfl; exact h.oq_bp hb'
/-- .. the queue. -/
theorem Mem.setQueue {w0 w w' : World} {l0 : List Nat} {bp : Nat} {x0 x1 x2 : Int} {aw : Option Addr} {nw cw : Nat} {ow : List Nat} {lw : List Task} {aq : Option Addr} {nq cq : Nat} {oq : List Nat} {lq : List Task} {bm : Nat} {kv : List (Int × Value)}
    (h : Mem w0 w l0 bp x0 x1 x2 aw nw cw ow lw aq nq cq oq lq bm kv) {a' : Option Addr} {n' c' : Nat} {oq' : List Nat} {lq' : List Task} (hrow : Row w' 62 4 a' n' c' oq' (cellsOf lq')) (t : Touch oq w w') (ho : oq' = oq ∨ oq' = [w.heap.size]) :
    Mem w0 (w'.setCell ⟨bp, 4, none⟩ (.slice a' n' c')) l0 bp x0 x1 x2 aw nw cw ow lw a' n' c' oq' lq' bm kv := by
  have hb := h.at_.lt
  have hm := h.map.lt
  have hq := h.work.lt
  have hs := h.touch.size
  have h1 : bp ∉ oq' := own_not ho h.oq_bp hb
  have h2 : bm ∉ oq' := own_not ho h.oq_bm hm
  have h3 : ∀ b ∈ ow, b ∉ oq' := by
    rcases ho with rfl | rfl
    · exact h.ow_oq
    · intro b hb' hb2; simp at hb2; subst hb2; have := hq _ hb'; omega
  have h4 : ∀ b ∈ oq', b ∈ l0 ∨ w0.heap.size ≤ b := by
    rcases ho with rfl | rfl
    · exact h.oq_l
    · intro b hb'; simp at hb'; subst hb'; exact .inr hs
  have ts : Touch [bp] w' (w'.setCell ⟨bp, 4, none⟩ (.slice a' n' c')) := (Touch.refl _ _).setCell _ (by simp) _
  refine ⟨?_, (h.work.touch t ?_).touch ts ?_, hrow.touch ts ?_, (h.map.touch t h.oq_bm).touch ts (by simpa using h.bm_bp), (h.touch.trans t h.oq_l).trans ts (by simpa using Or.inl h.bp_l), h.bp_l, h.bm_l, h.ow_l, h4, h.bm_bp, h.ow_bp, h.ow_bm, h1, h2, h3⟩
  · have := (h.at_.touch t h.oq_bp).set 4 (.slice a' n' c')
    simpa using this
  · intro b hb' hb2; exact h.ow_oq b hb' hb2
  · intro b hb'; simp; rintro rfl; exact h.ow_bp hb'
  · intro b hb'; simp; rintro rfl; exact h1 hb'

def CutPost (w0 : World) (l0 : List Nat) (bp : Nat) (x0 x1 x2 : Int) (n : Nat) (lw : List Task) (aq : Option Addr) (nq cq : Nat) (oq : List Nat) (lq : List Task) (bm : Nat) (kv : List (Int × Value)) (w : World) : Prop :=
  ∃ aw cw ow, Mem w0 w l0 bp x0 x1 x2 aw n cw ow lw aq nq cq oq lq bm kv
def CutPostQ (w0 : World) (l0 : List Nat) (bp : Nat) (x0 x1 x2 : Int) (aw : Option Addr) (nw cw : Nat) (ow : List Nat) (lw : List Task) (n : Nat) (lq : List Task) (bm : Nat) (kv : List (Int × Value)) (w : World) : Prop :=
  ∃ aq cq oq, Mem w0 w l0 bp x0 x1 x2 aw nw cw ow lw aq n cq oq lq bm kv
def DonePost (w0 : World) (l0 : List Nat) (bp : Nat) (x0 x1 x2 : Int) (lw lq : List Task) (bm : Nat) (kv : List (Int × Value)) (e : Ending) (w : World) : Prop :=
  e = .returned (.int .i64 0) ∧ ∃ aw nw cw ow aq nq cq oq, Mem w0 w l0 bp x0 x1 x2 aw nw cw ow lw aq nq cq oq lq bm kv

set_option maxRecDepth 100000 in
set_option maxHeartbeats 1600000 in
theorem done_work (w : World) (l0 : List Nat) (bp : Nat) (x0 x1 x2 : Int) (l q : List Task) (id : Int) (b off : Nat) (n cap : Nat) (aq : Option Addr) (nq cq bm : Nat) (oq : List Nat) (kv : List (Int × Value)) (j : Nat)
    (hw1 : 1 ≤ x0) (hn : n = l.length) (hn64 : n ≤ 64) (hnq : nq = q.length) (hnq64 : nq ≤ 1024) (hj : placeOf l id = some j) (hk : (atKey kv id).getD (.bool false) = .bool true)
    (hM : Mem w w l0 bp x0 x1 x2 (some ⟨b, off, none⟩) n cap [b] l aq nq cq oq q bm kv) :
    Calls Try.prog 16 #[.pointer (some ⟨bp, 0, none⟩), .int .u64 id] w (DonePost w l0 bp x0 x1 x2 (l.eraseIdx j ++ q.take 1) (q.drop 1) bm (delKey kv id)) := by
  have hjl : j < n := by obtain ⟨_, _, _, h, _⟩ := placeOf_some hj; omega
  have hnc : n ≤ cap := hM.work.2.1
  have hcm : cap ≤ maxLen := hM.work.2.2.1
  unfold maxLen at hcm
  have HJ := Lib.hid hj
  have HN := Lib.hid hn
  have HQ := Lib.hid hnq
  clear hj hn hnq
  have lb := hM.at_.lt
  have lm := hM.map.lt
  have hM1 := hM.step ((Touch.refl [] w).alloc (.cells #[.int .u64 id] 30))
  have hc1 := At.new w 30 [.int .u64 id]
  have c0 := hM1.at_.cell 0
  simp at c0
  go_enter Try.func16, Try.ntmps16
  go_wp2_with (go_at_call 24; refine (none_no _ _ _ hw1 c0).mono ?_; rintro e w' ⟨rfl, rfl⟩)
  refine region_tail 5 (by kernel_rfl) (by kernel_rfl) (fun w2 t2 => ?_)
  have hM2 := hM1.step t2
  have hc2 := hc1.touch t2 (by simp)
  have hm2 := hM2.map
  have k5 := hM2.at_.cell 5
  have k0 := hc2.cell 0
  simp at k5 k0
  clear t2 hM1 hc1 c0
  simp only [List.take_succ_cons, List.take_zero, List.drop_succ_cons, List.drop_zero]
  repeat still_step
  refine wpStill_nil ?_
  go_wp2_with (at_lookup; refine wpList_lookup_imap KU rfl _ _ false rfl Try.mapT (zeroBool _) rfl hm2 id rfl ?_; simp only [hk])
  refine region_tail 5 (by kernel_rfl) (by kernel_rfl) (fun w3 t3 => ?_)
  have hM3 := hM2.step t3
  have hc3 := hc2.touch t3 (by simp)
  have k5 := hM3.at_.cell 5
  have k0 := hc3.cell 0
  simp at k5 k0
  clear t3 hM2 hc2 hm2
  simp only [List.take_succ_cons, List.take_zero, List.drop_succ_cons, List.drop_zero]
  repeat still_step
  refine wpStill_nil ?_
  go_upto_region 12 with (first | (at_delete; refine wpList_delete_imap KU rfl _ _ rfl Try.mapT rfl hM3.map id rfl ?_; intro w4 hm4 t4; have hM4 := hM3.del hm4 t4; have hc4 := hc3.touch t4 (by simp; omega); have k3 := hM4.at_.cell 3; have k0 := hc4.cell 0; simp at k3 k0) | (go_at_call 30; refine (index_any _ l id _ _ _ [b] _ hM4.work HN.out (by omega) k0).mono ?_; rintro e w5 ⟨rfl, t5⟩; rw [show idxOf l id = (j : Int) by simp [idxOf, HJ.out]]))
  have hM5 := hM4.step t5
  clear t4 t5 hM3 hM4 hm4 hc3 hc4 k3 k0 k5
  go_cut [6] (fun _ wx => CutPost w l0 bp x0 x1 x2 (n - 1) (l.eraseIdx j) aq nq cq oq q bm (delKey kv id) wx)
  case first =>
    have k3 := hM5.at_.cell 3
    simp at k3
    obtain ⟨i0, hi, hz0, hz1, hz2⟩ := info_parts Try.infoTask
    have j1 : j ≤ cap := by omega
    have j2 : ¬ cap = 0 := by omega
    have j3 : (j : Int) + 1 ≤ (n : Int) := by omega
    have j4 : (0 : Int) ≤ (j : Int) + 1 := by omega
    have j5 : ((j : Int) + 1).toNat = j + 1 := by omega
    have s1 : IntKind.i64.wrap ((j : Int) + 1) = (j : Int) + 1 := IntWalk.i64_in _ (by omega)
    have h63 : j + (n - (j + 1)) ≤ maxLen := by unfold maxLen; omega
    have hX := Lib.hid (cut_src hM5.work.drew HN.out (j + 1) (by omega))
    have hL := Lib.hid (erase_len l j n HN.out hjl)
    have hM6 := Lib.hid (hM5.step (Touch.refl [] w5).drew)
    go_region_law ((refine step_append_row _ (by rfl) _ _ _ (by rfl) 62 i0 _ 4 32 Try.tasksT hi hz0 hz1 hz2 rfl (by decide) (some ⟨b, off, none⟩) j cap [b] ((cellsOf l).take (j * 4)) (by rfl) ((hM5.work.take j (by omega)).drew) _ (n - (j + 1)) _ (cellsOf (l.drop (j + 1))) (by rfl) hL.out hX.out (cellsOf_one _) h63 (by omega) ?_; intro a' cap' own' w7 hrow7 ht7 ho7 _ _; have hat7 := (hM5.at_.drew).touch ht7 hM5.ow_bp; have f3 := hat7.frozen 3; have k3' := hat7.cell 3; simp at k3'))
    all_goals go_wp2_with fail
    all_goals
      go_meet
      rw [erase_cells l j (by rw [← HN.out]; exact hjl), show j + (n - (j + 1)) = n - 1 by omega] at hrow7
      exact ⟨a', cap', own', by simpa [show j + (n - (j + 1)) = n - 1 by omega] using hM6.out.setWork hrow7 ht7 ho7⟩
  case rest =>
    obtain ⟨a', cap', own', hM8⟩ := hcut
    clear hM5
    have k4 := hM8.at_.cell 4
    simp at k4
    by_cases hq0 : nq = 0
    · subst hq0
      go_wp2
      go_ret
      have hqe : q = [] := List.eq_nil_of_length_eq_zero (by have := HQ.out; omega)
      subst hqe
      refine ⟨rfl, a', n - 1, cap', own', aq, 0, cq, oq, by simpa using hM8⟩
    · have hd : (0 : Int) < (nq : Int) := by omega
      obtain ⟨t, q', rfl⟩ : ∃ t q', q = t :: q' := by
        cases q with
        | nil => have := HQ.out; simp at this; omega
        | cons t q' => exact ⟨t, q', rfl⟩
      have hnq1 : nq = q'.length + 1 := by have := HQ.out; simpa using this
      have hcq : nq ≤ cq := hM8.queue.2.1
      obtain ⟨qb, qoff, cur, rfl, rfl, -⟩ := hM8.queue.form (by omega)
      obtain ⟨t0, t1, t2, t3⟩ := hM8.queue.task (k := 0) (t := t) (by simp)
      have k3 := hM8.at_.cell 3
      simp at k3 t0 t1 t2 t3
      have HQ1 := Lib.hid hnq1
      clear hnq1
      go_upto_region 14 with (fail)
      go_cut [6] (fun _ wx => CutPost w l0 bp x0 x1 x2 n (l.eraseIdx j ++ [t]) (some ⟨qb, qoff, none⟩) nq cq [qb] (t :: q') bm (delKey kv id) wx)
      case first =>
        obtain ⟨i0, hi, hz0, hz1, hz2⟩ := info_parts Try.infoTask
        have hM9 := Lib.hid (hM8.step (Touch.refl [] wc).drew)
        have hcc : cap' ≤ maxLen := hM8.work.2.2.1
        have hcc2 : n - 1 ≤ cap' := hM8.work.2.1
        have hW := Lib.hid hM8.work.drew
        have lbc := hM8.at_.lt
        have lqc := hM8.queue.lt qb (by simp)
        go_region_law ((refine step_append_row _ (by rfl) _ _ _ (by rfl) 62 i0 _ 4 32 Try.tasksT hi hz0 hz1 hz2 rfl (by decide) a' (n - 1) cap' own' (cellsOf (l.eraseIdx j)) (by rfl) (hW.out.alloc _) (some ⟨wc.heap.size, 0, none⟩) 1 1 (Task.cells t) (by rfl) (by rfl) (.inr ⟨_, rfl, World.news_of_block (cs := #[.int .u64 t.id, .float .f64 t.wt, .int .i64 t.age, .bool t.blk]) (t := 62) (fr := (0, 0)) (heap_alloc_new wc.drew _)⟩) (by simp [Task.cells, Value.oneCell']) (by unfold maxLen; omega) (by omega) ?_; intro a2 cap2 own2 w9 hrow9 ht9 ho9 _ _; have hat9 := ((hM8.at_.drew).alloc _).touch ht9 hM8.ow_bp; have f3 := hat9.frozen 3; have k3' := hat9.cell 3; simp at k3'))
        all_goals go_wp2_with fail
        all_goals
          go_meet
          have hM10 := (hM9.out).step ((Touch.refl [] wc.drew).alloc (.cells #[.int .u64 t.id, .float .f64 t.wt, .int .i64 t.age, .bool t.blk] 62))
          have hc9 : cellsOf (l.eraseIdx j) ++ t.cells = cellsOf (l.eraseIdx j ++ [t]) := by rw [cellsOf_append]; rfl
          rw [hc9, show n - 1 + 1 = n by omega] at hrow9
          exact ⟨a2, cap2, own2, by simpa [show n - 1 + 1 = n by omega] using hM10.setWork hrow9 ht9 ho9⟩
      case rest =>
        clear k3 k4 t0 t1 t2 t3
        clear hM8
        obtain ⟨a2, cap2, own2, hM8⟩ := hcut
        have hcc : cq ≤ maxLen := hM8.queue.2.2.1
        go_upto_region 15 with (fail)
        go_cut [6] (fun _ wx => CutPostQ w l0 bp x0 x1 x2 a2 n cap2 own2 (l.eraseIdx j ++ [t]) (nq - 1) q' bm (delKey kv id) wx)
        case first =>
          have k4 := hM8.at_.cell 4
          simp at k4
          have j1 : 1 ≤ cq := by omega
          have j2 : ¬ cq = 0 := by omega
          have j3 : (1 : Int) ≤ (nq : Int) := by omega
          have j4 : 1 ≤ nq := by omega
          obtain ⟨i0, hi, hz0, hz1, hz2⟩ := info_parts Try.infoTask
          have hX0 := cut_src hM8.queue.drew HQ.out 1 (by omega)
          simp only [Nat.one_mul, List.drop_succ_cons, List.drop_zero] at hX0
          have hX := Lib.hid hX0
          have hL := Lib.hid (show (cellsOf q').length = (nq - 1) * 4 by rw [length_cellsOf]; have := HQ1.out; omega)
          have h63 : 0 + (nq - 1) ≤ maxLen := by unfold maxLen; omega
          have hM9 := Lib.hid (hM8.step (Touch.refl [] _).drew)
          clear hX0
          go_region_law ((refine step_append_row _ (by rfl) _ _ _ (by rfl) 62 i0 _ 4 32 Try.tasksT hi hz0 hz1 hz2 rfl (by decide) (some ⟨qb, qoff, none⟩) 0 cq [qb] ((cellsOf (t :: q')).take (0 * 4)) (by rfl) ((hM8.queue.take 0 (by omega)).drew) _ (nq - 1) _ (cellsOf q') (by rfl) hL.out hX.out (cellsOf_one _) h63 (by omega) ?_; intro a3 cap3 own3 w9 hrow9 ht9 ho9 _ _; have hat9 := (hM8.at_.drew).touch ht9 hM8.oq_bp; have f4 := hat9.frozen 4; have k4' := hat9.cell 4; simp at k4'))
          all_goals go_wp2_with fail
          all_goals
            go_meet
            simp only [Nat.zero_mul, List.take_zero, List.nil_append, Nat.zero_add] at hrow9
            exact ⟨a3, cap3, own3, by simpa using hM9.out.setQueue hrow9 ht9 ho9⟩
        case rest =>
          obtain ⟨a3, cap3, own3, hM11⟩ := hcut
          go_wp2
          go_ret
          exact ⟨rfl, a2, n, cap2, own2, a3, nq - 1, cap3, own3, by simpa using hM11⟩
end Go.Proofs.Ytaendccnjiagiaa
