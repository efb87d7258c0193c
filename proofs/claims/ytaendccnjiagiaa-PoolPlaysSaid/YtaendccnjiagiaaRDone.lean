/-
  The reference's Done.
-/
import Derived.Test.YtaendccnjiagiaaRIds
import Derived.Test.YtaendccnjiagiaaPDone3
import Derived.Deep.DeepCutAuto
namespace Go.Proofs.Ytaendccnjiagiaa
open Go.RowKit
attribute [local go_sem] run_store_float

/-- The reference's pool since w0; l0: what it had for itself then. -/
structure RMem (w0 w : World) (l0 : List Nat) (bp : Nat) (S : Pool) (aw : Option Addr) (nw cw : Nat) (ow : List Nat) (aq : Option Addr) (nq cq : Nat) (oq : List Nat) : Prop where
  p : RParts w bp S aw nw cw ow aq nq cq oq
  touch : Touch l0 w0 w
  bp_l : bp ∈ l0
  ow_l : ∀ b ∈ ow, b ∈ l0 ∨ w0.heap.size ≤ b
  oq_l : ∀ b ∈ oq, b ∈ l0 ∨ w0.heap.size ≤ b

section
variable {w0 w w1 : World} {l0 : List Nat} {bp : Nat} {S : Pool} {aw : Option Addr} {nw cw : Nat} {ow : List Nat} {aq : Option Addr} {nq cq : Nat} {oq : List Nat}
theorem RParts.mem (h : RParts w bp S aw nw cw ow aq nq cq oq) : RMem w w (bp :: (ow ++ oq)) bp S aw nw cw ow aq nq cq oq :=
  ⟨h, Touch.refl _ _, by simp, fun b hb => .inl (by simp [hb]), fun b hb => .inl (by simp [hb])⟩
theorem RMem.step (h : RMem w0 w l0 bp S aw nw cw ow aq nq cq oq) (t : Touch [] w w1) : RMem w0 w1 l0 bp S aw nw cw ow aq nq cq oq :=
  ⟨h.p.touch t (by simp), h.touch.trans t (by simp), h.bp_l, h.ow_l, h.oq_l⟩
theorem RMem.work (h : RMem w0 w l0 bp S aw nw cw ow aq nq cq oq) {a : Option Addr} {n c : Nat} {o : List Nat} {l : List Task} (hrow : Row w1 82 4 a n c o (cellsOf l)) (t : Touch ow w w1) (ho : o = ow ∨ ∀ b ∈ o, w.heap.size ≤ b) :
    RMem w0 (w1.setCell ⟨bp, 3, none⟩ (.slice a n c)) l0 bp { S with work := l } a n c o aq nq cq oq := by
  have hbp : bp < w.heap.size := h.p.at_.lt
  have hq := h.p.queue.lt
  have ho1 : bp ∉ o := by
    rcases ho with rfl | ho
    · exact h.p.ow_bp
    · exact fun hm => by have := ho _ hm; omega
  have hoq : ∀ b ∈ oq, b ∉ ow := fun b hb hb' => h.p.ow_oq b hb' hb
  refine ⟨⟨?_, hrow.touch ((Touch.refl [bp] _).setCell _ (by simp) _) (fun b hb => by simp; rintro rfl; exact ho1 hb), (h.p.queue.touch t hoq).touch ((Touch.refl [bp] _).setCell _ (by simp) _) (fun b hb => by simp; rintro rfl; exact h.p.oq_bp hb), ho1, h.p.oq_bp, ?_⟩, (h.touch.trans t h.ow_l).setCell _ (.inl h.bp_l) _, h.bp_l, ?_, h.oq_l⟩
  · have := (h.p.at_.touch t h.p.ow_bp).set 3 (.slice a n c)
    simpa using this
  · rcases ho with rfl | ho
    · exact h.p.ow_oq
    · exact fun b hb hb' => by have := ho b hb; have := hq b hb'; omega
  · rcases ho with rfl | ho
    · exact h.ow_l
    · exact fun b hb => .inr (Nat.le_trans h.touch.size (ho b hb))
theorem RMem.queue (h : RMem w0 w l0 bp S aw nw cw ow aq nq cq oq) {a : Option Addr} {n c : Nat} {o : List Nat} {l : List Task} (hrow : Row w1 82 4 a n c o (cellsOf l)) (t : Touch oq w w1) (ho : o = oq ∨ ∀ b ∈ o, w.heap.size ≤ b) :
    RMem w0 (w1.setCell ⟨bp, 4, none⟩ (.slice a n c)) l0 bp { S with queue := l } aw nw cw ow a n c o := by
  have hbp : bp < w.heap.size := h.p.at_.lt
  have hq := h.p.work.lt
  have ho1 : bp ∉ o := by
    rcases ho with rfl | ho
    · exact h.p.oq_bp
    · exact fun hm => by have := ho _ hm; omega
  refine ⟨⟨?_, (h.p.work.touch t h.p.ow_oq).touch ((Touch.refl [bp] _).setCell _ (by simp) _) (fun b hb => by simp; rintro rfl; exact h.p.ow_bp hb), hrow.touch ((Touch.refl [bp] _).setCell _ (by simp) _) (fun b hb => by simp; rintro rfl; exact ho1 hb), h.p.ow_bp, ho1, ?_⟩, (h.touch.trans t h.oq_l).setCell _ (.inl h.bp_l) _, h.bp_l, h.ow_l, ?_⟩
  · have := (h.p.at_.touch t h.p.oq_bp).set 4 (.slice a n c)
    simpa using this
  · rcases ho with rfl | ho
    · exact h.p.ow_oq
    · exact fun b hb hb' => by have := hq b hb; have := ho b hb'; omega
  · rcases ho with rfl | ho
    · exact h.oq_l
    · exact fun b hb => .inr (Nat.le_trans h.touch.size (ho b hb))
theorem RMem.rep (h : RMem w0 w l0 bp S aw nw cw ow aq nq cq oq) : ∃ own', RRep w bp S own' ∧ Touch l0 w0 w ∧ ∀ b ∈ own', b ∈ l0 ∨ w0.heap.size ≤ b :=
  ⟨_, ⟨aw, nw, cw, ow, aq, nq, cq, oq, h.p, rfl⟩, h.touch, by
    intro b hb
    simp only [List.mem_cons, List.mem_append] at hb
    rcases hb with rfl | hb | hb
    · exact .inl h.bp_l
    · exact h.ow_l b hb
    · exact h.oq_l b hb⟩
end

/-- A list of tasks of its own that a call tells. -/
def TasksPost (w : World) (l : List Task) (e : Ending) (w' : World) : Prop :=
  ∃ a c own, e = .returned (.slice a l.length c) ∧ Row w' 82 4 a l.length c own (cellsOf l) ∧ Touch [] w w' ∧ ∀ b ∈ own, w.heap.size ≤ b

theorem erase_take {l : List Task} {j k : Nat} {u : Task} (hu : l[k]? = some u) (hne : k ≠ j) : (l.take (k + 1)).eraseIdx j = (l.take k).eraseIdx j ++ [u] := by
  have hk : k < l.length := (List.getElem?_eq_some_iff.1 hu).1
  have e : l.take (k + 1) = l.take k ++ [u] := by rw [List.take_add_one, hu]; rfl
  have hl : (l.take k).length = k := by rw [List.length_take]; omega
  rw [e]
  rcases Nat.lt_or_gt_of_ne hne with h | h
  · rw [List.eraseIdx_of_length_le (by simp only [List.length_append, List.length_singleton, hl]; omega), List.eraseIdx_of_length_le (by rw [hl]; omega)]
  · rw [List.eraseIdx_append_of_lt_length (by rw [hl]; omega)]
theorem erase_skip {l : List Task} {k : Nat} {u : Task} (hu : l[k]? = some u) : (l.take (k + 1)).eraseIdx k = (l.take k).eraseIdx k := by
  have hk : k < l.length := (List.getElem?_eq_some_iff.1 hu).1
  have e : l.take (k + 1) = l.take k ++ [u] := by rw [List.take_add_one, hu]; rfl
  have hl : (l.take k).length = k := by rw [List.length_take]; omega
  rw [e, List.eraseIdx_append_of_length_le (by rw [hl]; omega), hl, Nat.sub_self, List.eraseIdx_of_length_le (l := l.take k) (by rw [hl]; omega)]
  simp [List.eraseIdx]

set_option maxRecDepth 100000 in
set_option maxHeartbeats 1600000 in
theorem without_any (w : World) (l : List Task) (j : Nat) (a : Option Addr) (n cap : Nat) (ow : List Nat) (hrow : Row w 82 4 a n cap ow (cellsOf l)) (hn : n = l.length) (hn64 : n ≤ 1024) (hj : j ≤ 1024) :
    Calls Try.prog 42 #[.slice a n cap, .int .i64 j] w (TasksPost w (l.eraseIdx j)) := by
  have HN := Lib.hid hn
  clear hn
  go_enter Try.func42, Try.ntmps42
  go_wp2
  go_loopw [6, 5] (fun i s wr => ∃ k no co ao oo, k ≤ n ∧ i = .int .i64 (k : Nat) ∧ s = .slice ao no co ∧ Touch [] w wr ∧ no ≤ k ∧ Hid (Row wr 82 4 ao no co oo (cellsOf ((l.take k).eraseIdx j)) ∧ ∀ b ∈ oo, w.heap.size ≤ b)) (fun i _ _ => n - (intOf i).toNat)
  case atStart => exact ⟨0, 0, 0, none, [], by omega, rfl, rfl, Touch.refl _ _, by omega, by simpa [cellsOf] using Row.nil _ _ _ _, by simp⟩
  case round =>
    obtain ⟨k, no, co, ao, oo, hk, rfl, rfl, t, hno, HR⟩ := hrel
    by_cases hlt : k < n
    · obtain ⟨b, off, _, rfl, -⟩ := hrow.form (by have := hrow.2.1; omega)
      obtain ⟨u, hu⟩ : ∃ u, l[k]? = some u := ⟨_, List.getElem?_eq_getElem (by rw [← HN.out]; exact hlt)⟩
      obtain ⟨t0, t1, t2, t3⟩ := (hrow.touch t (by simp)).task hu
      obtain ⟨i0, hi, hz0, hz1, hz2⟩ := info_parts Try.infoRTask
      have HT := Lib.hid hu
      have T := Lib.hid t
      clear hu t
      by_cases hkj : k = j
      · have hne : ((k : Int) != (j : Int)) = false := by rw [bne_eq_false_iff_eq]; omega
        have HJ := Lib.hid hkj
        clear hkj
        go_wp2_with fail
        go_roundw
        case rel =>
          refine ⟨k + 1, no, co, ao, oo, by omega, by go_num, rfl, T.out, by omega, ?_, HR.2⟩
          have e := erase_skip HT.out
          rw [HJ.out] at e
          rw [HJ.out, e]
          have := HR.1
          rwa [HJ.out] at this
        case measure => simp [intOf]; omega
      · have hne : ((k : Int) != (j : Int)) = true := by rw [bne_iff_ne]; omega
        have HJ := Lib.hid hkj
        clear hkj
        go_wp2_with (at_builtin; refine wpList_append_row _ rfl (.tmp 16) (.tmp 21) 45 rfl 82 i0 _ 4 32 Try.rtasksT hi hz0 hz1 hz2 rfl (by decide) ao no co oo _ rfl (HR.1.alloc _) (some ⟨wr.heap.size, 0, none⟩) 1 1 [.int .u64 u.id, .float .f64 u.wt, .int .i64 u.age, .bool u.blk] rfl rfl (.inr ⟨_, rfl, World.news_of_block (cs := #[.int .u64 u.id, .float .f64 u.wt, .int .i64 u.age, .bool u.blk]) (t := 82) (fr := (0, 0)) (heap_alloc_new wr _)⟩) (by simp [Value.oneCell']) (by unfold maxLen; omega) (by omega) ?_; intro a' cap' own' w3 hrow3 ht3 hown3 _ _)
        go_roundw
        case rel =>
          refine ⟨k + 1, no + 1, cap', a', own', by omega, by go_num, rfl, (T.out.alloc _).trans ht3 (fun b hb => .inr (HR.2 b hb)), by omega, ?_, ?_⟩
          · rw [erase_take HT.out HJ.out, cellsOf_append]
            simpa [cellsOf] using hrow3
          · intro c hc
            rcases hown3 with rfl | rfl
            · exact HR.2 c hc
            · simp at hc; subst hc; have := T.out.size; omega
        case measure => simp [intOf]; omega
    · obtain rfl : k = n := by omega
      go_wp2_with fail
      go_ret
      have h1 := HR.1
      rw [List.take_of_length_le (by rw [← HN.out]; exact Nat.le_refl _)] at h1
      have h2 : no = (l.eraseIdx j).length := by have := h1.1; rw [length_cellsOf] at this; omega
      subst h2
      exact ⟨ao, co, oo, rfl, h1, t, HR.2⟩

/-- without, in any world behind. -/
def Withouts (w : World) (a : Option Addr) (n cap j : Nat) (l : List Task) : Prop := ∀ w1, Touch [] w w1 → Calls Try.prog 42 #[.slice a n cap, .int .i64 j] w1 (TasksPost w1 (l.eraseIdx j))
theorem withouts_any {w : World} {l : List Task} (j : Nat) {a : Option Addr} {n cap : Nat} {ow : List Nat} (hrow : Row w 82 4 a n cap ow (cellsOf l)) (hn : n = l.length) (hn64 : n ≤ 1024) (hj : j ≤ 1024) : Withouts w a n cap j l :=
  fun _ t => without_any _ l j a n cap ow (hrow.touch t (by simp)) hn hn64 hj

def RDonePost (w : World) (l0 : List Nat) (bp : Nat) (S : Pool) (e : Ending) (w' : World) : Prop :=
  e = .returned (.int .i64 0) ∧ ∃ a1 n1 c1 o1 a2 n2 c2 o2, RMem w w' l0 bp S a1 n1 c1 o1 a2 n2 c2 o2

theorem rdone_none (w : World) (bp : Nat) (v0 v1 v2 : Value) (aw aq : Option Addr) (nw cw mq cq : Nat) (id : Int)
    (hat : At w bp 47 [v0, v1, v2, .slice aw nw cw, .slice aq mq cq]) (F1 : Finds w aw nw cw id (-1)) (F2 : Finds w aq mq cq id (-1)) :
    Calls Try.prog 34 #[.pointer (some ⟨bp, 0, none⟩), .int .u64 id] w fun e w' => e = .returned (.int .i64 5) ∧ w = w' := by
  have c3 := hat.cell 3
  have c4 := hat.cell 4
  simp at c3 c4
  have G1 := Lib.hid (F1 w (Touch.refl _ _))
  have G2 := Lib.hid (F2 w (Touch.refl _ _))
  clear F1 F2 hat
  go_enter Try.func34, Try.ntmps34
  go_wp2_with fail
  refine G1.out.mono ?_
  rintro e w' ⟨rfl, rfl⟩
  go_wp2_with fail
  refine G2.out.mono ?_
  rintro e w' ⟨rfl, rfl⟩
  go_wp2_with fail
  go_ret
  exact ⟨rfl, rfl⟩

theorem rdone_queue (w : World) (bp : Nat) (S : Pool) (aw aq : Option Addr) (nw cw mq cq : Nat) (ow oq l0 : List Nat) (id : Int) (j : Nat) (hj64 : j ≤ 1024)
    (hM : RMem w w l0 bp S aw nw cw ow aq mq cq oq) (F1 : Finds w aw nw cw id (-1)) (F2 : Finds w aq mq cq id j) (H : Withouts w aq mq cq j S.queue) :
    Calls Try.prog 34 #[.pointer (some ⟨bp, 0, none⟩), .int .u64 id] w (RDonePost w l0 bp { S with queue := S.queue.eraseIdx j }) := by
  have c3 := hM.p.at_.cell 3
  have c4 := hM.p.at_.cell 4
  simp at c3 c4
  have G1 := Lib.hid (F1 w (Touch.refl _ _))
  have G2 := Lib.hid (F2 w (Touch.refl _ _))
  have G3 := Lib.hid (H w (Touch.refl _ _))
  have HM := Lib.hid hM
  clear F1 F2 hM H
  go_enter Try.func34, Try.ntmps34
  go_wp2_with fail
  refine G1.out.mono ?_
  rintro e w' ⟨rfl, rfl⟩
  go_wp2_with fail
  refine G2.out.mono ?_
  rintro e w' ⟨rfl, rfl⟩
  go_wp2_with fail
  refine G3.out.mono ?_
  rintro e w2 ⟨a, c, o, rfl, hrow, t, ho⟩
  have hM2 := HM.out.step t
  have hM3 := HM.out.queue hrow (t.mono (by simp)) (.inr ho)
  have c4 := hM2.p.at_.cell 4
  have f4 := hM2.p.at_.frozen 4
  simp at c4
  have H3 := Lib.hid hM3
  clear hM2 hM3 t
  go_wp2_with fail
  go_ret
  exact ⟨rfl, _, _, _, _, _, _, _, _, H3.out⟩

theorem rdone_work0 (w : World) (bp : Nat) (S : Pool) (aw aq : Option Addr) (nw cw cq : Nat) (ow oq l0 : List Nat) (id : Int) (j : Nat) (hj64 : j ≤ 1024)
    (hM : RMem w w l0 bp S aw nw cw ow aq 0 cq oq) (F1 : Finds w aw nw cw id j) (H : Withouts w aw nw cw j S.work) :
    Calls Try.prog 34 #[.pointer (some ⟨bp, 0, none⟩), .int .u64 id] w (RDonePost w l0 bp { S with work := S.work.eraseIdx j }) := by
  have c3 := hM.p.at_.cell 3
  have c4 := hM.p.at_.cell 4
  simp at c3 c4
  have G1 := Lib.hid (F1 w (Touch.refl _ _))
  have G3 := Lib.hid (H w (Touch.refl _ _))
  have HM := Lib.hid hM
  clear F1 hM H
  go_enter Try.func34, Try.ntmps34
  go_wp2_with fail
  refine G1.out.mono ?_
  rintro e w' ⟨rfl, rfl⟩
  go_wp2_with fail
  refine G3.out.mono ?_
  rintro e w2 ⟨a, c, o, rfl, hrow, t, ho⟩
  have hM2 := HM.out.step t
  have hM3 := HM.out.work hrow (t.mono (by simp)) (.inr ho)
  have c3 := hM2.p.at_.cell 3
  have c4 := hM2.p.at_.cell 4
  have f3 := hM2.p.at_.frozen 3
  simp at c3 c4
  have H3 := Lib.hid hM3
  clear hM2 hM3 t
  go_wp2_with fail
  go_ret
  exact ⟨rfl, _, _, _, _, _, _, _, _, H3.out⟩

def RCutPost (w : World) (l0 : List Nat) (bp : Nat) (S : Pool) (n : Nat) (aq : Option Addr) (nq cq : Nat) (oq : List Nat) (wx : World) : Prop :=
  ∃ a2 c2 o2, RMem w wx l0 bp S a2 n c2 o2 aq nq cq oq
set_option maxRecDepth 100000 in
set_option maxHeartbeats 1600000 in
theorem rdone_work1 (w : World) (bp : Nat) (S : Pool) (aw : Option Addr) (nw cw mq cq b off : Nat) (ow oq l0 : List Nat) (id : Int) (j : Nat) (u : Task) (q : List Task) (hq : S.queue = u :: q) (hmq : mq = q.length + 1) (h64 : mq ≤ 1024) (hl64 : (S.work.eraseIdx j).length ≤ 1024) (hj64 : j ≤ 1024)
    (hM : RMem w w l0 bp S aw nw cw ow (some ⟨b, off, none⟩) mq cq oq) (F1 : Finds w aw nw cw id j) (H : Withouts w aw nw cw j S.work) :
    Calls Try.prog 34 #[.pointer (some ⟨bp, 0, none⟩), .int .u64 id] w (RDonePost w l0 bp { S with work := S.work.eraseIdx j ++ [u], queue := q }) := by
  have c3 := hM.p.at_.cell 3
  have c4 := hM.p.at_.cell 4
  simp at c3 c4
  have G1 := Lib.hid (F1 w (Touch.refl _ _))
  have G3 := Lib.hid (H w (Touch.refl _ _))
  have HM := Lib.hid hM
  have HQ := Lib.hid hq
  have HMQ := Lib.hid hmq
  have hmq0 : 0 < mq := by omega
  have hqc : mq ≤ cq := hM.p.queue.2.1
  have hqm : cq ≤ maxLen := hM.p.queue.2.2.1
  unfold maxLen at hqm
  clear F1 hM H hq hmq
  go_enter Try.func34, Try.ntmps34
  go_wp2_with fail
  refine G1.out.mono ?_
  rintro e w' ⟨rfl, rfl⟩
  go_wp2_with fail
  refine G3.out.mono ?_
  rintro e w2 ⟨a, c, o, rfl, hrow, t, ho⟩
  have hM2 := HM.out.step t
  have hM3 := HM.out.work hrow (t.mono (by simp)) (.inr ho)
  have c3 := hM2.p.at_.cell 3
  have c4 := hM2.p.at_.cell 4
  have f3 := hM2.p.at_.frozen 3
  simp at c3 c4
  have H3 := Lib.hid hM3
  clear hM2 hM3 t hrow
  generalize hln : (S.work.eraseIdx j).length = ln at hl64 H3 ⊢
  clear hln
  go_wp2_with fail
  have hM3 := H3.out
  generalize hw3 : World.setCell _ _ _ = w3 at hM3 ⊢
  clear hw3 H3 c3 c4 f3
  have hM3d := hM3.step ((Touch.refl [] w3).drew)
  have c3 := hM3.p.at_.cell 3
  have c4 := hM3.p.at_.cell 4
  simp at c3 c4
  obtain ⟨t0, t1, t2, t3⟩ := hM3.p.queue.task (k := 0) (t := u) (by show S.queue[0]? = _; rw [HQ.out]; rfl)
  simp only [Nat.zero_mul, Nat.add_zero] at t0 t1 t2 t3
  go_upto_region 10 with (fail)
  go_cut [] (fun wx => RCutPost w l0 bp { S with work := S.work.eraseIdx j ++ [u] } (ln + 1) (some ⟨b, off, none⟩) mq cq oq wx)
  case first =>
    obtain ⟨i0, hi, hz0, hz1, hz2⟩ := info_parts Try.infoRTask
    have hM9 := Lib.hid (hM3.step (Touch.refl [] w3).drew)
    have hW := Lib.hid hM3.p.work.drew
    have lbc := hM3.p.at_.lt
    have lqc := World.block_lt_of_cell? _ _ t0
    go_region_law ((refine step_append_row _ (by rfl) _ _ _ (by rfl) 82 i0 _ 4 32 Try.rtasksT hi hz0 hz1 hz2 rfl (by decide) a ln c o (cellsOf (S.work.eraseIdx j)) (by rfl) (hW.out.alloc _) (some ⟨w3.heap.size, 0, none⟩) 1 1 (Task.cells u) (by rfl) (by rfl) (.inr ⟨_, rfl, World.news_of_block (cs := #[.int .u64 u.id, .float .f64 u.wt, .int .i64 u.age, .bool u.blk]) (t := 82) (fr := (0, 0)) (heap_alloc_new w3.drew _)⟩) (by simp [Task.cells, Value.oneCell']) (by unfold maxLen; omega) (by omega) ?_; intro a2 cap2 own2 w9 hrow9 ht9 ho9 _ _; have hat9 := ((hM3.p.at_.drew).alloc _).touch ht9 hM3.p.ow_bp; have f3 := hat9.frozen 3; have k3' := hat9.cell 3; simp at k3'))
    all_goals go_wp2_with fail
    all_goals
      go_meet
      have hM10 := (hM9.out).step ((Touch.refl [] w3.drew).alloc (.cells #[.int .u64 u.id, .float .f64 u.wt, .int .i64 u.age, .bool u.blk] 82))
      have hc9 : cellsOf (S.work.eraseIdx j) ++ u.cells = cellsOf (S.work.eraseIdx j ++ [u]) := by rw [cellsOf_append]; rfl
      rw [hc9] at hrow9
      exact ⟨a2, cap2, own2, by simpa using hM10.work hrow9 ht9 (ho9.imp (fun h => h) (fun h b hb => by rw [h] at hb; simp at hb; subst hb; simp))⟩
  case rest =>
    clear t0 t1 t2 t3 hM3 hM3d c3 c4
    obtain ⟨a2, cap2, own2, hM8⟩ := hcut
    have c4 := hM8.p.at_.cell 4
    have f4 := hM8.p.at_.frozen 4
    simp at c4
    have lb := hM8.p.at_.lt
    have H8 := Lib.hid hM8
    obtain ⟨i0, hi, hz0, hz1, hz2⟩ := info_parts Try.infoRTask
    have j1 : 1 ≤ cq := by omega
    have j2 : ¬ cq = 0 := by omega
    have j3 : (1 : Int) ≤ (mq : Int) := by omega
    have j4 : 1 ≤ mq := by omega
    have hQ1 : mq = S.queue.length := by rw [HQ.out, HMQ.out]; rfl
    have hX0 := cut_src hM8.p.queue hQ1 1 (by omega)
    rw [show S.queue.drop 1 = q by rw [HQ.out]; rfl] at hX0
    simp only [Nat.one_mul] at hX0
    have hX := Lib.hid hX0
    have hL := Lib.hid (show (cellsOf q).length = (mq - 1) * 4 by rw [length_cellsOf]; have := HMQ.out; omega)
    have h63 : 0 + (mq - 1) ≤ maxLen := by unfold maxLen; omega
    clear hX0 hM8 hQ1
    go_wp2_with (at_builtin; refine wpList_append_row _ rfl (.tmp 62) (.tmp 67) 45 rfl 82 i0 _ 4 32 Try.rtasksT hi hz0 hz1 hz2 rfl (by decide) none 0 0 [] [] rfl (Row.nil _ _ _ _) _ (mq - 1) _ (cellsOf q) (by rfl) hL.out hX.out (cellsOf_one _) h63 (by omega) ?_; intro a' cap' own' w9 hrow9 ht9 hown9 _ _; have hM9 := H8.out.step ht9; have c4 := hM9.p.at_.cell 4; have f4 := hM9.p.at_.frozen 4; simp at c4)
    all_goals
      have hM10 := H8.out.queue (l := q) hrow9 (ht9.mono (by simp)) (.inr (fun b' hb' => by rcases hown9 with h | h <;> (rw [h] at hb'; simp at hb'); omega))
      rw [Nat.zero_add] at hM10
      have H10 := Lib.hid hM10
      clear hM9 hM10 hX hL H8
      go_wp2_with fail
      go_ret
      exact ⟨rfl, _, _, _, _, _, _, _, _, by simpa using H10.out⟩

theorem rdone_any (w : World) (bp : Nat) (S : Pool) (own : List Nat) (hok : S.Ok) (hR : RRep w bp S own) (id : Int) :
    Calls Try.prog 34 #[.pointer (some ⟨bp, 0, none⟩), .int .u64 id] w (After own w (.int .i64 (S.done id).1) fun w' o => RRep w' bp (S.done id).2 o) := by
  obtain ⟨aw, nw, cw, ow, aq, nq, cq, oq, hp, rfl⟩ := (fun h => h : RRep w bp S own → RRep w bp S own) hR
  obtain ⟨hnw, hnq⟩ := hp.nw
  have hlw := hok.lw
  have hlq := hok.lq
  have hw2 := hok.w2
  have hr2 := hok.r2
  have F1 := finds_any id hp.work hnw (by omega)
  have F2 := finds_any id hp.queue hnq (by omega)
  have fin : ∀ (S' : Pool) e w', RDonePost w (bp :: (ow ++ oq)) bp S' e w' → After (bp :: (ow ++ oq)) w (.int .i64 0) (fun w' o => RRep w' bp S' o) e w' := by
    intro S' e w' ⟨he, a1, n1, c1, o1, a2, n2, c2, o2, hM⟩
    obtain ⟨own', h1, h2, h3⟩ := hM.rep
    exact ⟨own', he, h1, h2, h3⟩
  unfold Pool.done
  cases hj : placeOf S.work id with
  | some j =>
    obtain ⟨t, htj, hti, hjl, -⟩ := placeOf_some hj
    have hid : id ∈ S.ids := by
      unfold Pool.ids; rw [List.mem_append]; left; rw [← hti]; exact List.mem_map.2 ⟨t, List.mem_iff_getElem?.2 ⟨j, htj⟩, rfl⟩
    rw [if_pos hid]
    rw [show idxOf S.work id = (j : Int) by simp [idxOf, hj]] at F1
    have H := withouts_any j hp.work hnw (by omega) (by omega)
    cases hq : S.queue with
    | nil =>
      have hnq0 : nq = 0 := by rw [hnq, hq]; rfl
      subst hnq0
      exact (rdone_work0 w bp S aw aq nw cw cq ow oq _ id j (by omega) hp.mem F1 H).mono fun e w' h => by simpa [hq] using fin _ e w' h
    | cons u q =>
      have hnq1 : nq = q.length + 1 := by rw [hnq, hq]; rfl
      obtain ⟨b, off, cur, rfl, rfl, -⟩ := hp.queue.form (by have := hp.queue.2.1; omega)
      exact (rdone_work1 w bp S aw nw cw nq cq b off ow [b] _ id j u q hq hnq1 (by omega) (by rw [List.length_eraseIdx]; split <;> omega) (by omega) hp.mem F1 H).mono fun e w' h => by simpa using fin _ e w' h
  | none =>
    rw [show idxOf S.work id = -1 by simp [idxOf, hj]] at F1
    cases hjq : placeOf S.queue id with
    | none =>
      have hid : id ∉ S.ids := by
        unfold Pool.ids; rw [List.mem_append, not_or]
        exact ⟨fun h => mem_ids.1 h hj, fun h => mem_ids.1 h hjq⟩
      rw [if_neg hid]
      rw [show idxOf S.queue id = -1 by simp [idxOf, hjq]] at F2
      exact (rdone_none w bp _ _ _ aw aq nw cw nq cq id hp.at_ F1 F2).mono fun e w' ⟨he, hw⟩ => ⟨_, he, hw ▸ hR, hw ▸ Touch.refl _ _, fun b hb => .inl hb⟩
    | some j =>
      obtain ⟨t, htj, hti, hjl, -⟩ := placeOf_some hjq
      have hid : id ∈ S.ids := by
        unfold Pool.ids; rw [List.mem_append]; right; rw [← hti]; exact List.mem_map.2 ⟨t, List.mem_iff_getElem?.2 ⟨j, htj⟩, rfl⟩
      rw [if_pos hid]
      rw [show idxOf S.queue id = (j : Int) by simp [idxOf, hjq]] at F2
      exact (rdone_queue w bp S aw aq nw cw nq cq ow oq _ id j (by omega) hp.mem F1 F2 (withouts_any j hp.queue hnq (by omega) (by omega))).mono fun e w' h => fin _ e w' h
end Go.Proofs.Ytaendccnjiagiaa
