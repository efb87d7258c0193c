/-
  works: one file at hand; three who ask.
-/
import Derived.Test.YtppgeljlmckimaaDoorLVfs5
import Derived.Test.YtppgeljlmckimaaDoorLAsk
import Derived.Test.YtppgeljlmckimaaDoorLLet2
namespace Go.Proofs.YtppgeljlmckimaaDoor
open Go.RowKit

def kn1 : Lk := (Lk.zero.ask 1 [5, 7]).2.2
def kn2 : Lk := (kn1.ask 2 [5]).2.2
def kn3 : Lk := (kn2.ask 3 [7, 9]).2.2
def kn4 : Lk := (Lk.letTo 1 (kn3.has 1) (kn3.leave 1, [])).1.quit 1
theorem kn1_eq : Lk.zero.ask 1 [5, 7] = (true, 0, kn1) := Prod.ext (by decide +kernel) (Prod.ext (by decide +kernel) rfl)
theorem kn2_eq : kn1.ask 2 [5] = (false, 0, kn2) := Prod.ext (by decide +kernel) (Prod.ext (by decide +kernel) rfl)
theorem kn3_eq : kn2.ask 3 [7, 9] = (false, 0, kn3) := Prod.ext (by decide +kernel) (Prod.ext (by decide +kernel) rfl)
theorem kn4_eq : (Lk.letTo 1 (kn3.has 1) (kn3.leave 1, [])).2 = [2, 3] := by decide +kernel
theorem kn4_held : kn4.held 9 = some 3 := by decide +kernel
theorem kn_len : kn1.order.length ≤ 1000 ∧ kn2.order.length ≤ 1000 ∧ kn3.order.length ≤ 800 ∧ (1 : Int) ∈ kn3.order := by decide +kernel
theorem LRep.lt {w : World} {lp : Nat} {S : Lk} {own : List Nat} (h : LRep w lp S own) : ∀ b ∈ own, b < w.heap.size := by
  obtain ⟨_, _, col, blk, ao, no, co, oo, bi, bh, bw, ki, kh, kw, _, rfl⟩ := h
  exact fun b hb => (mem_owned.1 hb).1

set_option maxRecDepth 100000 in
set_option maxHeartbeats 3200000 in
theorem works_any (w : World) : Calls Tryd.prog 6 #[] w fun e w' => e = .returned (.bool true) ∧ Touch [] w w' := by
  go_enter Tryd.func6, Tryd.ntmps6
  go_wp2_with fail
  refine (newTree_ann _).mono ?_
  rintro e w1 ⟨tb, bm, nb, rfl, T1, t1, g1, g2, g3⟩
  go_wp2_with fail
  refine (newVfs_ann _ tb).mono ?_
  rintro e w2 ⟨v, r, am, km, rfl, V2, R2, M2, t2, hr, ham, hkm, hv⟩
  have ht1 := T1.1.lt
  have ht2 := T1.2.1.lt
  have ht3 := T1.2.2.lt
  have d1 : v ≠ r := by omega
  have d2 : v ≠ am := by omega
  have d3 : r ≠ am := by omega
  have d4 : tb ≠ v := by omega
  have d5 : bm ≠ v := by omega
  have d6 : nb ≠ v := by omega
  have d7 : tb ≠ r := by omega
  have T2 := T1.touch t2 (by simp) (by simp) (by simp)
  have t02 : Touch [] w w2 := t1.trans' t2
  have hge : w.heap.size ≤ v ∧ w.heap.size ≤ r ∧ w.heap.size ≤ am := by have := t1.size; omega
  clear hr ham hkm hv T1 t1 t2 g1 g2 g3 ht1 ht2 ht3
  go_wp2_with fail
  refine (newLocks_any _).mono ?_
  rintro e w3 ⟨lp, own, rfl, L3, t3, ho⟩
  go_wp2_with fail
  refine (stat_miss _ v r am km tb bm nb (V2.touch t3 (by simp)) (R2.touch t3 (by simp)) (M2.touch t3 (by simp)) (T2.touch t3 (by simp) (by simp) (by simp)) d1 d2 d3 d4 d5 d6 d7).mono ?_
  rintro e w4 ⟨rfl, n, hn, V4, R4, N4, M4, t4⟩
  have l2 := V2.lt
  have l3 := R2.at_.lt
  have l4 := M2.lt
  have lo := L3.lt
  have L4 := L3.touch t4 (by intro b hb; have := ho b hb; simp; omega)
  have s3 := t3.size
  have s4 := t4.size
  have e3 : Touch [] w w3 := t02.trans' t3
  have e4 : Touch [v, r, am, n] w w4 := (e3.mono (by simp)).trans t4 (by simp)
  have s2 := t02.size
  clear V2 R2 M2 T2 t02 t3 t4
  go_wp2_with fail
  refine (stat_hit _ v r n am km tb V4 R4 N4 M4 d1 d2 (by omega) (by omega)).mono ?_
  rintro e w5 ⟨rfl, V5, t5⟩
  have L5 := L4.touch t5 (by intro b hb; have := ho b hb; have := lo b hb; simp; omega)
  have e5 : Touch [v, r, am, n] w w5 := e4.trans t5 (by simp)
  clear V4 R4 N4 M4 t5 L4 e4
  go_wp2_with fail
  refine (hits_any _ v tb r am km 1 1 V5).mono ?_
  rintro e w6 ⟨rfl, t6⟩
  have L6 := L5.touch t6 (by simp)
  have e6 : Touch [] w w6 := (e5.trans t6 (by simp)).mono (by have := e3.size; simp; omega)
  clear V5 t6 L5 e5
  have hown : ∀ b ∈ own, w.heap.size ≤ b := fun b hb => by have := ho b hb; have := e3.size; omega
  clear d1 d2 d3 d4 d5 d6 d7 hge hn l2 l3 l4 s2 s3 s4 lo ho L3 e3
  go_wp2_with fail
  have hd1 := ask_any (w6.alloc (.cells #[.int .u64 5, .int .u64 7] 39)) lp Lk.zero own (L6.touch ((Touch.refl [] _).alloc _) (by simp)) 1 _ 2 2 [5, 7] (Nums.ofRow (Row.lit w6 39 1 [.int .u64 5, .int .u64 7] 2 rfl (by decide))) (by decide)
  rw [kn1_eq] at hd1
  refine hd1.mono ?_
  rintro e w7 ⟨o7, rfl, L7, t7, ho7⟩
  have e7 : Touch [] w w7 := ((e6.alloc _).trans t7 (fun x hx => .inr (hown x hx)))
  have hown7 : ∀ b ∈ o7, w.heap.size ≤ b := fun b hb => by
    rcases ho7 b hb with h | h
    · exact hown b h
    · have := e6.size; simp at h; omega
  clear L6 t7 ho7 e6 hown hd1
  go_wp2_with fail
  have hd2 := ask_any (w7.alloc (.cells #[.int .u64 5] 39)) lp kn1 o7 (L7.touch ((Touch.refl [] _).alloc _) (by simp)) 2 _ 1 1 [5] (Nums.ofRow (Row.lit w7 39 1 [.int .u64 5] 1 rfl (by decide))) kn_len.1
  rw [kn2_eq] at hd2
  refine hd2.mono ?_
  rintro e w8 ⟨o8, rfl, L8, t8, ho8⟩
  have e8 : Touch [] w w8 := ((e7.alloc _).trans t8 (fun x hx => .inr (hown7 x hx)))
  have hown8 : ∀ b ∈ o8, w.heap.size ≤ b := fun b hb => by
    rcases ho8 b hb with h | h
    · exact hown7 b h
    · have := e7.size; simp at h; omega
  clear L7 t8 ho8 e7 hown7 hd2
  go_wp2_with fail
  have hd3 := ask_any (w8.alloc (.cells #[.int .u64 7, .int .u64 9] 39)) lp kn2 o8 (L8.touch ((Touch.refl [] _).alloc _) (by simp)) 3 _ 2 2 [7, 9] (Nums.ofRow (Row.lit w8 39 1 [.int .u64 7, .int .u64 9] 2 rfl (by decide))) kn_len.2.1
  rw [kn3_eq] at hd3
  refine hd3.mono ?_
  rintro e w9 ⟨o9, rfl, L9, t9, ho9⟩
  have e9 : Touch [] w w9 := ((e8.alloc _).trans t9 (fun x hx => .inr (hown8 x hx)))
  have hown9 : ∀ b ∈ o9, w.heap.size ≤ b := fun b hb => by
    rcases ho9 b hb with h | h
    · exact hown8 b h
    · have := e8.size; simp at h; omega
  clear L8 t9 ho9 e8 hown8 hd3
  go_wp2_with fail
  have hd4 := let_some w9 lp kn3 o9 L9 1 kn_len.2.2.2 kn_len.2.2.1
  rw [kn4_eq] at hd4
  refine hd4.mono ?_
  rintro e wa ⟨a, k, c, o, ⟨oa, rfl, ⟨La, hdis⟩, ta, hoa⟩, hrow, hoo⟩
  have ea : Touch [] w wa := (e9.trans ta (fun x hx => .inr (hown9 x hx)))
  clear L9 ta hoa e9 hown9 hd4 hoo hdis
  go_wp2_with fail
  have hd5 := holder_any wa lp kn4 oa La 9
  rw [kn4_held] at hd5
  refine hd5.mono ?_
  rintro e wb ⟨rfl, tb⟩
  have eb := ea.trans' tb
  have hrow := hrow.touch tb (by simp)
  obtain rfl : 2 = k := by have := hrow.1; simpa [ints] using this
  obtain ⟨b, off, _, rfl, -⟩ := hrow.form (by have := hrow.2.1; omega)
  have r0 := hrow.cellSome 0 (.int .i64 2) rfl
  have r1 := hrow.cellSome 1 (.int .i64 3) rfl
  rw [Nat.add_zero] at r0
  clear hd5 La ea hrow tb
  unfold holderV
  go_wp2_with fail
  go_ret
  exact ⟨rfl, eb⟩
end Go.Proofs.YtppgeljlmckimaaDoor
