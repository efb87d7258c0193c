/-
  (*Locks).Let, the parts: what stands ahead of its loop.
-/
import Derived.Test.YtppgeljlmckimaaDoorLDel
import Derived.Test.YtppgeljlmckimaaDoorStill
import Derived.Deep.RegionHeld3
namespace Go.Proofs.YtppgeljlmckimaaDoor
open Go.RowKit

namespace Lk
theorem filter_self_of_not {l : List Int} {id : Int} (h : id ∉ l) : l.filter (fun x => decide (x ≠ id)) = l := by
  rw [List.filter_eq_self]
  intro x hx
  simp only [decide_eq_true_eq]
  rintro rfl
  exact h hx
/-- those that wait, when one leaves: where it waits alone there is a change. -/
theorem waits_leave_next {S : Lk} {id p : Int} (h : S.next id = some p) : (S.leave id).waitsFor = up S.waitsFor p ((S.waitsFor p).filter fun x => decide (x ≠ id)) := by
  funext q
  rw [waits_leave]
  by_cases e : q = p
  · subst e; rw [up_same]
  · rw [up_other _ _ e]
    refine filter_self_of_not fun hm => ?_
    unfold waitsFor at hm
    have := (List.mem_filter.1 hm).2
    rw [h] at this
    simp at this
    exact e this.symm
theorem waits_leave_none {S : Lk} {id : Int} (h : S.next id = none) : (S.leave id).waitsFor = S.waitsFor := by
  funext q
  rw [waits_leave]
  refine filter_self_of_not fun hm => ?_
  unfold waitsFor at hm
  have := (List.mem_filter.1 hm).2
  rw [h] at this
  simp at this
end Lk

/-- The state of memory while one lets go: those that ask but for it, its own paths as they were. -/
structure Mid (w : World) (lp : Nat) (col : Nat → Option LTag) (S : Lk) (id : Int) (blk : Int → Nat) (bi bh bw : Nat) (S' : Lk) (wr : World) (colr : Nat → Option LTag) : Prop where
  p : ∃ ao no co oo ki kh kw, LParts wr lp colr (S.order.filter fun x => decide (x ≠ id)) (S.order.filter fun x => decide (x ≠ id)) S.order S'.held S'.waitsFor S.paths (Lk.up S'.has id (S.has id)) blk ao no co oo bi bh bw ki kh kw
  later : Later isRow w col wr colr

/-- The first steps: it is struck from the map and from the list. -/
theorem mid_of {w w1 w2 w3 : World} {lp : Nat} {col : Nat → Option LTag} {S : Lk} {id : Int} {blk : Int → Nat} {ao : Option Addr} {no co : Nat} {oo : List Nat} {bi bh bw : Nat} {ki kh kw : List (Int × Value)}
    (h : LParts w lp col S.order S.order S.order S.held S.waitsFor S.paths S.has blk ao no co oo bi bh bw ki kh kw) (t1 : Touch [] w w1) (hm : IMap w2 KI.f bi (delKey ki id)) (t2 : Touch [bi] w1 w2)
    (hr : Row w3 3 1 ao (S.order.filter fun x => decide (x ≠ id)).length co oo (ints (S.order.filter fun x => decide (x ≠ id)))) (t3 : Touch oo w2 w3) :
    ∃ col', Mid w lp col S id blk bi bh bw S (w3.setCell ⟨lp, 0, none⟩ (.slice ao (S.order.filter fun x => decide (x ≠ id)).length co)) col' ∧ ∀ b, b < w1.heap.size → col' b = col b := by
  have h1 := h.step t1
  have h2 := h1.setIds (order' := S.order.filter fun x => decide (x ≠ id)) (objs' := S.order) (blk' := blk) hm t2 (nodup_del h.idsn _) (fun i => by
    rw [atKey_del h.idsn, h.idsAt]
    by_cases e : i = id
    · subst e; simp
    · simp [e]) (fun i hi => h1.obj i hi)
  have h3 := h2.setOrder t3 hr (fun b hb => .inl hb)
  have h4 := h3.congr (H' := S.held) (W' := S.waitsFor) (P' := S.paths) (N' := Lk.up S.has id (S.has id)) (fun _ => rfl) (fun _ => rfl) (fun j _ => ⟨rfl, by
    by_cases e : j = id
    · subst e; rw [Lk.up_same]
    · exact Lk.up_other _ _ e⟩)
  refine ⟨_, ⟨⟨_, _, _, _, _, _, _, h4⟩, ?_⟩, fun b hb => paint_old _ _ _ (Nat.lt_of_lt_of_le hb t2.size)⟩
  refine ((Later.refl w col).step t1).trans ((Later.of (col1 := col) t2 (fun x hx _ => ?_) (fun _ _ => rfl)).trans (Later.of (t3.mono (l' := lp :: oo) (fun x hx => .inl (by simp [hx])) |>.setCell _ (by simp) _) (fun x hx _ => ?_) (fun b hb => paint_old _ _ _ hb)))
  · simp at hx; subst hx; exact ⟨_, h.c_bi, by simp [isRow]⟩
  · rcases List.mem_cons.1 hx with rfl | hx
    · exact ⟨_, h.c_lp, by simp [isRow]⟩
    · exact ⟨_, h.c_oo x hx, by simp [isRow]⟩

set_option maxRecDepth 100000 in
set_option maxHeartbeats 1600000 in
theorem let_none (w : World) (lp : Nat) (S : Lk) (own : List Nat) (hR : LRep w lp S own) (id : Int) (hid : id ∉ S.order) :
    Calls Tryd.prog 8 #[.pointer (some ⟨lp, 0, none⟩), .int .i64 id] w fun e w' => e = .returned (.tuple #[.slice none 0 0, .int .i64 5]) ∧ Touch [] w w' := by
  obtain ⟨hi, hp, col, blk, ao, no, co, oo, bi, bh, bw, ki, kh, kw, h, rfl⟩ := hR
  have h1 := h.step ((Touch.refl [] w).alloc (.cells #[.int .i64 id] 3))
  have hc1 := At.new w 3 [.int .i64 id]
  have hat := h.idsAt id
  rw [if_neg hid] at hat
  clear h hp hi hid
  go_enter Tryd.func8, Tryd.ntmps8
  go_wp2
  refine region_still (by kernel_rfl) (by kernel_rfl) (fun w2 t2 => ?_)
  have h2 := h1.step t2
  have c1 := h2.at_.cell 1
  have k0 := (hc1.touch t2 (by simp)).cell 0
  simp at c1 k0
  have hrun : (Instr.lookup 66 (.map (some bi)) (.int .i64 id) true).run Tryd.prog w2 = .ok (.tuple #[.pointer none, .bool false]) w2 := by
    have := run_lookup_imap KI w2 Tryd.mapI (zeroAsk w2) h2.ids id true
    rw [hat] at this
    exact this
  have T2 := Lib.hid t2
  clear t2 h1 h2 hc1
  repeat still_step
  refine wpStill_nil ?_
  go_wp2
  go_ret2
  exact ⟨rfl, ((Touch.refl [] w).alloc _).trans' T2.out⟩
end Go.Proofs.YtppgeljlmckimaaDoor
