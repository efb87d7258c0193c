/-
  copied, of the message of a step.
-/
import Derived.Test.YteblflebjhncbaaGreatDoorSHeavy
namespace Go.Proofs.YteblflebjhncbaaGreatDoor
open Go.RowKit

theorem Tryz.strsT : Tryz.prog.underlying 43 = some (.slice 9) := by kernel_rfl
theorem Tryz.qidsT : Tryz.prog.underlying 44 = some (.slice 32) := by kernel_rfl
theorem infoStr : (Tryz.prog.info? 9).map (fun i => (i.zero, i.size, i.bytes)) = some (some (.string .empty), 1, 16) := by kernel_rfl
theorem infoQid : (Tryz.prog.info? 32).map (fun i => (i.zero, i.size, i.bytes)) = some (some (.agg #[.int .u8 0, .int .u32 0, .int .u64 0]), 3, 16) := by kernel_rfl
namespace SessionNone
def CopiedPost (x : StepV) (w : World) (e : Ending) (w' : World) : Prop := ∃ a1 c1 a2 c2, e = .returned (.agg ((x.mcells.set 12 (.slice a1 x.namesn c1)).set 16 (.slice a2 x.qidsn c2)).toArray) ∧ Touch [] w w'
set_option maxRecDepth 100000 in
set_option maxHeartbeats 1600000 in
theorem copied_one (w : World) (x : StepV) (hs : StepIn w x) : Calls Tryz.prog 16 #[.agg x.mcells.toArray] w (CopiedPost x w) := by
  obtain ⟨i1, hi1, hz⟩ := Option.map_eq_some_iff.1 infoStr
  simp only [Prod.mk.injEq] at hz
  obtain ⟨z1, z2, z3⟩ := hz
  obtain ⟨i2, hi2, hz⟩ := Option.map_eq_some_iff.1 infoQid
  simp only [Prod.mk.injEq] at hz
  obtain ⟨y1, y2, y3⟩ := hz
  obtain ⟨xs, s1, -⟩ := hs.names
  obtain ⟨ys, s2⟩ := hs.qids
  have nb := hs.nb
  have qb := hs.qb
  have A1 := At.new w 48 x.mcells
  have c12 : ∀ o, ((w.alloc (.cells x.mcells.toArray 48)).alloc o).cell? ⟨w.heap.size, 12, none⟩ = some (.slice x.namesa x.namesn x.namesc) := fun o => (A1.alloc o).cell 12
  have fw : ∀ o i, ((w.alloc (.cells x.mcells.toArray 48)).alloc o).frozen? ⟨w.heap.size, i, none⟩ = false := fun o i => (A1.alloc o).frozen i
  have T0 : ∀ o, Touch [] w ((w.alloc (.cells x.mcells.toArray 48)).alloc o) := fun o => ((Touch.refl _ _).alloc _).alloc _
  have lw : ∀ o, w.heap.size < ((w.alloc (.cells x.mcells.toArray 48)).alloc o).heap.size := fun o => (A1.alloc o).lt
  have HA := Lib.hid (fun o => A1.alloc o)
  have HT := Lib.hid T0
  have src1 : ∀ o, x.namesn = 0 ∨ ∃ ad, x.namesa = some ad ∧ ∀ j u, xs[j]? = some u → ((w.alloc (.cells x.mcells.toArray 48)).alloc o).cell? (ad.add j) = some u := fun o => s1.at_.imp id fun ⟨b, off, h1, h2, h3⟩ => ⟨_, h1, fun j u hj => by rw [Addr.add_lit]; exact ((T0 o).cell (p := ⟨b, _, none⟩) h2 (by simp)).trans (h3 j u hj)⟩
  have HS1 := Lib.hid src1
  have HL1 := Lib.hid s1.len
  have HO1 := Lib.hid s1.one
  have HS2 := Lib.hid s2
  have HY := Lib.hid y1
  have n1 : 0 + x.namesn ≤ maxLen := by unfold maxLen; omega
  have n2 : 0 + x.qidsn ≤ maxLen := by unfold maxLen; omega
  clear A1 T0 src1 s1 s2 hs
  go_enter Tryz.func16, Tryz.ntmps16
  have HZ : Hid (∀ c t, ((w.alloc (.cells x.mcells.toArray 48)).alloc (.cells c t)).heap[w.heap.size + 1]? = some (.cells c t)) := Lib.hid (fun c t => by
    have := heap_alloc_new (w.alloc (.cells x.mcells.toArray 48)) (.cells c t)
    simpa using this)
  go_wp2_with (first | (at_builtin; refine wpList_append_row _ rfl (.const (.slice none 0 0)) (.tmp 4) 43 rfl 9 i1 _ 1 16 Tryz.strsT hi1 z1 z2 z3 rfl (by decide) none 0 0 [] [] rfl (Row.nil _ _ _ _) x.namesa x.namesn x.namesc xs rfl HL1.out (HS1.out _) HO1.out n1 (by omega) ?_; intro a1 cap1 own1 w1 hrow1 ht1 hown1 _ _; have hB1 := (HA.out _).touch ht1 (by simp); have f1 := fun i => hB1.frozen i; have l1 := hB1.lt; have e12 := hB1.cell 12; have hD1 := (ht1.block _ (by simp) (by simp)).trans (HZ.out _ _); have hT1 := (HT.out _).trans' ht1; have hC1 := hB1.set 12 (.slice a1 x.namesn cap1); have g1 := fun i => hC1.frozen i; have e16 := hC1.cell 16; have hU1 := hT1.setCell ⟨w.heap.size, 12, none⟩ (.inr (Nat.le_refl _)) (.slice a1 x.namesn cap1); have hS := HS2.out.touch (fun k hk => ⟨Nat.lt_of_lt_of_le hk hU1.size, hU1.block k hk (by simp)⟩); simp [StepV.mcells] at e12 e16) | (at_builtin; refine wpList_append_row _ rfl (.const (.slice none 0 0)) (.tmp 8) 44 rfl 32 i2 _ 3 16 Tryz.qidsT hi2 HY.out y2 y3 rfl (by decide) none 0 0 [] [] rfl (Row.nil _ _ _ _) x.qidsa x.qidsn x.qidsc ys rfl HS2.out.len (hS.at_.imp id fun ⟨b, off, h1, h2, h3⟩ => ⟨_, h1, fun j u hj => by rw [Addr.add_lit]; exact h3 j u hj⟩) HS2.out.one n2 (by omega) ?_; intro a2 cap2 own2 w2 hrow2 ht2 hown2 _ _; have hB2 := hC1.touch ht2 (by simp); have f2 := fun i => hB2.frozen i; have l2 := hB2.lt; have e16b := hB2.cell 16; simp [StepV.mcells] at e16b; have hC2 := hB2.set 16 (.slice a2 x.qidsn cap2); have hU2 := (hU1.trans' ht2).setCell ⟨w.heap.size, 16, none⟩ (.inr (Nat.le_refl _)) (.slice a2 x.qidsn cap2); have hD2 := (heap_setCell_other w2 ⟨w.heap.size, 16, none⟩ (w.heap.size + 1) (.slice a2 x.qidsn cap2) (by simp)).trans ((ht2.block _ (by simp; have := ht1.size; simp at this; omega) (by simp)).trans ((heap_setCell_other w1 ⟨w.heap.size, 12, none⟩ (w.heap.size + 1) (.slice a1 x.namesn cap1) (by simp)).trans hD1))) | (refine wpList_load_row rfl 48 (.tmp 1) rfl w.heap.size rfl 48 _ (0, 0) _ hC2 Tryz.underlying48 rfl (by kernel_rfl) ?_) | (refine wpList_store_rowTo rfl 48 (.tmp 2) (.tmp 11) rfl rfl (w.heap.size + 1) _ rfl rfl 48 _ hD2 (by kernel_rfl) (by simp [StepV.mcells]) (by simp [StepV.mcells, Value.oneCell']) ?_))
  have hTU : Touch [] w ((w2.setCell ⟨w.heap.size, 16, none⟩ (.slice a2 x.qidsn cap2)).setRow (w.heap.size + 1) ((x.mcells.set 12 (.slice a1 x.namesn cap1)).set 16 (.slice a2 x.qidsn cap2)).toArray) :=
    ⟨hU2.os, hU2.tape, hU2.output, by have := hU2.size; simpa using this, fun k hk _ => (setRow_other _ _ k _ (by omega)).trans (hU2.block k hk (by simp))⟩
  refine bodyPost_ret (v := .agg ((x.mcells.set 12 (.slice a1 x.namesn cap1)).set 16 (.slice a2 x.qidsn cap2)).toArray) ?_ rfl ⟨a1, cap1, a2, cap2, rfl, hTU⟩
  exact results_cell_row (p := 2) (ty := 48) rfl _ _ (w.heap.size + 1) 48 _ (0, 0) _ rfl (setRow_heap _ _ _ _ _ _ hD2) Tryz.underlying48 rfl (by kernel_rfl)
end SessionNone
end Go.Proofs.YteblflebjhncbaaGreatDoor
