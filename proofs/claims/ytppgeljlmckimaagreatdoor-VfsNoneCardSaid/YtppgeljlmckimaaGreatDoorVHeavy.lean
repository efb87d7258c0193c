/-
  heavy, of one step.
-/
import Derived.Test.YtppgeljlmckimaaGreatDoorVStep
import Derived.Test.YtppgeljlmckimaaGreatDoorVNone
import Derived.Great.BuildSlice
import Derived.Deep.WholeRow
namespace Go.Proofs.YtppgeljlmckimaaGreatDoor
open Go.RowKit

theorem wpList_store_new {P : Program} {ops : Array Oper} {rest : List Oper} {o : Oper} {a : Act} {w : World} {Q : Exit → Act → World → Prop} (hgd : o.guard = none) (ty : TypeId) (x y : Operand) (ho : o.op = .store ty x y)
    (hd : o.dst = none) (old cells : Array Value) (t : TypeId) (hx : a.eval x = .pointer (some ⟨w.heap.size, 0, none⟩)) (hy : a.eval y = .agg cells) (hi : (P.info? ty).map (·.size) = some cells.size)
    (hold : old.size = cells.size) (h1 : cells.all (·.oneCell') = true)
    (h : wpList P ops Q rest a (w.alloc (.cells cells t))) : wpList P ops Q (o :: rest) a (w.alloc (.cells old t)) := by
  refine wpList_store_rowTo hgd ty x y ho hd w.heap.size cells hx hy t old (heap_alloc_new w _) hi hold h1 ?_
  rw [World.setRow_alloc_new]
  exact h
theorem StepV.one (x : StepV) : x.cells.toArray.all (·.oneCell') = true := by simp [StepV.cells, Value.oneCell']
namespace VfsNone
def HeavyPost (w : World) (e : Ending) (w' : World) : Prop := ∃ r, e = .returned (.bool r) ∧ Touch [] w w'
set_option maxRecDepth 100000 in
set_option maxHeartbeats 1600000 in
theorem heavy_one (w : World) (b : Nat) (x : StepV) (h : At w b 48 x.cells) (hs : x.small) : Calls Tryz.prog 5 #[.slice (some ⟨b, 0, none⟩) 1 1] w (HeavyPost w) := by
  have lt := h.lt
  have H := Lib.hid h
  clear h
  obtain ⟨b1, b2, b3, b4, b5, b6, b7⟩ := hs
  have A1 := At.new w 48 x.cells
  have k2 : (w.alloc (.cells x.cells.toArray 48)).cell? ⟨w.heap.size, 2, none⟩ = some (.string x.name) := A1.cell 2
  have k3 : (w.alloc (.cells x.cells.toArray 48)).cell? ⟨w.heap.size, 3, none⟩ = some (.string x.who) := A1.cell 3
  have k9 : (w.alloc (.cells x.cells.toArray 48)).cell? ⟨w.heap.size, 9, none⟩ = some (.string x.data) := A1.cell 9
  have k19 : (w.alloc (.cells x.cells.toArray 48)).cell? ⟨w.heap.size, 19, none⟩ = some (.string x.s0) := A1.cell 19
  have k20 : (w.alloc (.cells x.cells.toArray 48)).cell? ⟨w.heap.size, 20, none⟩ = some (.string x.s1) := A1.cell 20
  have k21 : (w.alloc (.cells x.cells.toArray 48)).cell? ⟨w.heap.size, 21, none⟩ = some (.string x.s2) := A1.cell 21
  have k22 : (w.alloc (.cells x.cells.toArray 48)).cell? ⟨w.heap.size, 22, none⟩ = some (.string x.s3) := A1.cell 22
  clear A1
  go_enter Tryz.func5, Tryz.ntmps5
  go_wp2
  refine wp_loop_rounds 2 ?_
  rw [rounds_succ]
  go_wp2_with (first | (refine wpList_load_row rfl 48 (.tmp 16) rfl b rfl 48 x.cells.toArray (0, 0) _ H.out Tryz.underlying48 rfl (by kernel_rfl) ?_) | (refine wpList_store_new rfl 48 (.tmp 4) (.tmp 17) rfl rfl _ x.cells.toArray _ rfl rfl (by kernel_rfl) rfl x.one ?_))
  all_goals first | (go_ret; exact ⟨_, rfl, (Touch.refl _ _).alloc _⟩) | (rw [rounds_succ]; go_wp2; go_ret; exact ⟨_, rfl, (Touch.refl _ _).alloc _⟩)
end VfsNone
end Go.Proofs.YtppgeljlmckimaaGreatDoor
