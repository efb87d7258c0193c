/-
  The reference's Copy; slices.Clone of tasks.
-/
import Derived.Test.YtaendccnjiagiaaRPick
namespace Go.Proofs.Ytaendccnjiagiaa
open Go.RowKit
attribute [local go_sem] run_store_float

/-- The copy: its parts are new since w. -/
def RCopyPost (w : World) (S : Pool) (e : Ending) (w' : World) : Prop :=
  ∃ c own, e = .returned (.pointer (some ⟨c, 0, none⟩)) ∧ RRep w' c S own ∧ Touch [] w w' ∧ ∀ b ∈ own, w.heap.size ≤ b
def RCopyMid (w0 : World) (c : Nat) (S : Pool) (aq : Option Addr) (nq cq : Nat) (wx : World) : Prop :=
  ∃ aw nw cw ow oq, RMem w0 wx [c] c S aw nw cw ow aq nq cq oq

def RCopyFin (w0 : World) (c : Nat) (S : Pool) (wx : World) : Prop :=
  ∃ a1 n1 c1 o1 a2 n2 c2 o2, RMem w0 wx [c] c S a1 n1 c1 o1 a2 n2 c2 o2

theorem Row.src {w : World} {e : TypeId} {size : Nat} {a : Option Addr} {n cap : Nat} {own : List Nat} {xs : List Value} (h : Row w e size a n cap own xs) : n = 0 ∨ ∃ ad, a = some ad ∧ ∀ j u, xs[j]? = some u → w.cell? (ad.add j) = some u := by
  rcases Nat.eq_zero_or_pos n with h0 | h0
  · exact .inl h0
  · obtain ⟨b, off, _, rfl, -⟩ := h.form (by have := h.2.1; omega)
    exact .inr ⟨_, rfl, fun j u hj => by rw [Addr.add_lit]; exact h.cellSome j u hj⟩

set_option maxRecDepth 100000 in
set_option maxHeartbeats 3200000 in
theorem rcopy_any (w : World) (bp : Nat) (S : Pool) (own : List Nat) (hok : S.Ok) (hR : RRep w bp S own) :
    Calls Try.prog 19 #[.pointer (some ⟨bp, 0, none⟩)] w (RCopyPost w S) := by
  obtain ⟨aw, nw, cw, ow, aq, mq, cq, oq, hp, rfl⟩ := hR
  obtain ⟨hnw, hnq⟩ := hp.nw
  have hlw := hok.lw
  have hlq := hok.lq
  have hw2 := hok.w2
  have hr2 := hok.r2
  have hn : nw ≤ 1024 := by omega
  have hm : mq ≤ 1024 := by omega
  have HP := Lib.hid hp
  have c0 := hp.at_.cell 0
  have c1 := hp.at_.cell 1
  have c2 := hp.at_.cell 2
  simp at c0 c1 c2
  clear hnw hnq hlq hr2 hp hlw hw2
  go_enter Try.func19, Try.ntmps19
  go_wp2_with fail
  refine region_tail 13 (by kernel_rfl) (by kernel_rfl) (fun w1 t1 => ?_)
  have c0 := (t1.cell (p := ⟨bp, 0, none⟩) (World.block_lt_of_cell? _ _ c0) (by simp)).trans c0
  have c1 := (t1.cell (p := ⟨bp, 1, none⟩) (World.block_lt_of_cell? _ _ c1) (by simp)).trans c1
  have c2 := (t1.cell (p := ⟨bp, 2, none⟩) (World.block_lt_of_cell? _ _ c2) (by simp)).trans c2
  simp only [List.take_succ_cons, List.take_zero, List.drop_succ_cons, List.drop_zero]
  repeat still_step
  refine wpStill_nil ?_
  go_wp2_with fail
  generalize hc : w1.heap.size = c
  generalize hwa : World.alloc w1 _ = wa
  have hnew := At.new w1 47 [.int .i64 S.workers, .int .i64 S.room, .int .i64 S.patience, .slice none 0 0, .slice none 0 0]
  have tA := t1.trans' ((Touch.refl [] w1).alloc (.cells #[.int .i64 S.workers, .int .i64 S.room, .int .i64 S.patience, .slice none 0 0, .slice none 0 0] 47))
  rw [hc] at hnew
  have hcw : w.heap.size ≤ c := by rw [← hc]; exact t1.size
  rw [show w1.alloc (.cells #[.int .i64 S.workers, .int .i64 S.room, .int .i64 S.patience, .slice none 0 0, .slice none 0 0] 47) = wa from hwa] at tA
  have hM : RMem wa wa [c] c { S with work := [], queue := [] } none 0 0 [] none 0 0 [] :=
    ⟨⟨by rw [← hwa]; exact hnew, by simpa [cellsOf] using Row.nil _ _ _ _, by simpa [cellsOf] using Row.nil _ _ _ _, by simp, by simp, by simp⟩, Touch.refl _ _, by simp, by simp, by simp⟩
  have hca : c < wa.heap.size := hM.p.at_.lt
  have hwa1 : wa.heap.size = c + 1 := by rw [← hwa, ← hc]; simp
  clear hnew hwa hc c0 c1 c2 t1
  have hsrcA := HP.out.work
  have hsrcB := HP.out.at_
  go_upto_region 2 with (fail)
  go_cut [] (fun wx => RCopyMid wa c { S with queue := [] } none 0 0 wx)
  case first =>
    obtain ⟨i0, hi, hz0, hz1, hz2⟩ := info_parts Try.infoRTask
    have hM9 := Lib.hid (hM.step (Touch.refl [] wa).drew)
    have hsrc := (hsrcA.touch (tA) (by simp)).drew
    have hX := Lib.hid hsrc.src
    have hL := Lib.hid (hsrc.1)
    have hnil := hM.p.work.drew
    have d3 := hM.p.at_.cell 3
    simp at d3
    have e3 := ((hsrcB.touch (tA) (by simp)).cell 3)
    simp at e3
    have lbc := hM.p.at_.lt
    have h63 : 0 + nw ≤ maxLen := by unfold maxLen; omega
    go_region_law ((refine step_append_row _ (by rfl) _ _ _ (by rfl) 82 i0 _ 4 32 Try.rtasksT hi hz0 hz1 hz2 rfl (by decide) none 0 0 [] [] (by rfl) (Row.nil _ _ _ _) _ nw _ (cellsOf S.work) (by rfl) hL.out hX.out (cellsOf_one _) h63 (by omega) ?_; intro a2 cap2 own2 w9 hrow9 ht9 ho9 _ _; have hat9 := (hM.p.at_.drew).touch ht9 (by simp); have f3 := hat9.frozen 3; have k3' := hat9.cell 3; simp at k3'))
    all_goals go_wp2_with fail
    all_goals
      go_meet
      have hr := hM9.out.work (l := S.work) hrow9 ht9 (.inr (fun b hb => by rcases ho9 with h | h <;> (rw [h] at hb; simp at hb); subst hb; simp))
      exact ⟨a2, 0 + nw, cap2, own2, [], by simpa using hr⟩
  case rest =>
    obtain ⟨a1, n1, cap1, o1, oq1, hM⟩ := hcut
    have TT := tA.trans hM.touch (by simp; exact hcw)
    have hoq1 : oq1 = [] := by
      rcases hM.p.queue.2.2.2 with ⟨-, h⟩ | ⟨b, off, cur, h, -⟩
      · exact h
      · cases h
    subst hoq1
    have hsrcC := HP.out.queue
    go_upto_region 3 with (fail)
    go_cut [] (fun wx => RCopyFin wa c S wx)
    case first =>
      obtain ⟨i0, hi, hz0, hz1, hz2⟩ := info_parts Try.infoRTask
      have hM9 := Lib.hid (hM.step (Touch.refl [] _).drew)
      have hsrc := (hsrcC.touch (TT) (by simp)).drew
      have hX := Lib.hid hsrc.src
      have hL := Lib.hid (hsrc.1)
      have hnil := hM.p.queue.drew
      have d3 := hM.p.at_.cell 4
      simp at d3
      have e3 := ((hsrcB.touch (TT) (by simp)).cell 4)
      simp at e3
      have lbc := hM.p.at_.lt
      have h63 : 0 + mq ≤ maxLen := by unfold maxLen; omega
      go_region_law ((refine step_append_row _ (by rfl) _ _ _ (by rfl) 82 i0 _ 4 32 Try.rtasksT hi hz0 hz1 hz2 rfl (by decide) none 0 0 [] [] (by rfl) (Row.nil _ _ _ _) _ mq _ (cellsOf S.queue) (by rfl) hL.out hX.out (cellsOf_one _) h63 (by omega) ?_; intro a2 cap2 own2 w9 hrow9 ht9 ho9 _ _; have hat9 := (hM.p.at_.drew).touch ht9 (by simp); have f3 := hat9.frozen 4; have k3' := hat9.cell 4; simp at k3'))
      all_goals go_wp2_with fail
      all_goals
        go_meet
        have hr := hM9.out.queue (l := S.queue) hrow9 ht9 (.inr (fun b hb => by rcases ho9 with h | h <;> (rw [h] at hb; simp at hb); subst hb; simp))
        exact ⟨_, _, _, _, _, _, _, _, by simpa using hr⟩
    case rest =>
      obtain ⟨a1, n1, cap1, o1, a3, n3, cap3, o3, hM⟩ := hcut
      have TT := tA.trans hM.touch (by simp; exact hcw)
      obtain ⟨own', h1, h2, h3⟩ := hM.rep
      go_wp2_with fail
      go_ret
      refine ⟨c, own', rfl, h1, TT, fun b hb => ?_⟩
      rcases h3 b hb with h | h
      · simp at h; omega
      · omega
end Go.Proofs.Ytaendccnjiagiaa
