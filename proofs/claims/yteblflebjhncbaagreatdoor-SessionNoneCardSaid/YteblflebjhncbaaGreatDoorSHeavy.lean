/-
  heavy, of one step of a session.
-/
import Derived.Test.YteblflebjhncbaaGreatDoorSStep
import Derived.Great.BuildSlice
import Derived.Deep.WholeRow
import Derived.Lib.Hide
namespace Go.Proofs.YteblflebjhncbaaGreatDoor
open Go.RowKit

theorem wpList_store_new {P : Program} {ops : Array Oper} {rest : List Oper} {o : Oper} {a : Act} {w : World} {Q : Exit → Act → World → Prop} (hgd : o.guard = none) (ty : TypeId) (x y : Operand) (ho : o.op = .store ty x y)
    (hd : o.dst = none) (old cells : Array Value) (t : TypeId) (hx : a.eval x = .pointer (some ⟨w.heap.size, 0, none⟩)) (hy : a.eval y = .agg cells) (hi : (P.info? ty).map (·.size) = some cells.size)
    (hold : old.size = cells.size) (h1 : cells.all (·.oneCell') = true)
    (h : wpList P ops Q rest a (w.alloc (.cells cells t))) : wpList P ops Q (o :: rest) a (w.alloc (.cells old t)) := by
  refine wpList_store_rowTo hgd ty x y ho hd w.heap.size cells hx hy t old (heap_alloc_new w _) hi hold h1 ?_
  rw [World.setRow_alloc_new]
  exact h
/-- part of a block is read whole. -/
theorem wpList_load_part {P : Program} {ops : Array Oper} {rest : List Oper} {o : Oper} {a : Act} {w : World} {Q : Exit → Act → World → Prop} (hgd : o.guard = none) (ty : TypeId) (x : Operand) (ho : o.op = .load ty x)
    (b off : Nat) (hx : a.eval x = .pointer (some ⟨b, off, none⟩)) (l : List Value) (hc : ∀ j u, l[j]? = some u → w.cell? ⟨b, off + j, none⟩ = some u) (fs : Array Field)
    (hu : P.underlying ty = some (.struct fs)) (hi : (P.info? ty).map (·.size) = some l.length)
    (h : wpList P ops Q rest (a.put o.dst (.agg l.toArray)) w) : wpList P ops Q (o :: rest) a w := by
  refine wpList_plain hgd fun _ hK => ?_
  have hg : (isAgg ty).run P w = .ok true w := by simp [isAgg, run_underlying hu w]
  obtain ⟨i, hi1, hi2⟩ := Option.map_eq_some_iff.1 hi
  have hs : (sizeOf ty).run P w = .ok l.length w := by simp [sizeOf, run_typeInfo w hi1, hi2]
  have hl := run_loadCells_list (P := P) w ⟨b, off, none⟩ l (fun j u hj => by rw [Addr.add_lit]; exact hc j u hj)
  unfold Oper.wp execOp
  simp only [ho, hx, Instr.loadAt, Instr.sureAddr, loadVar, Sem.run_bind, Sem.run_pure, Result.andThen_ok, hg, hs, if_true, hl]
  exact hK _ _ h
theorem StepV.mone (x : StepV) : x.mcells.toArray.all (·.oneCell') = true := by simp [StepV.mcells, Value.oneCell']
theorem StepV.msplit (x : StepV) : x.cells = x.mcells ++ [.int .u32 x.now, .bool x.fin] := rfl
namespace SessionNone
def HeavyPost (w : World) (e : Ending) (w' : World) : Prop := ∃ r, e = .returned (.bool r) ∧ Touch [] w w'
set_option maxRecDepth 100000 in
set_option maxHeartbeats 1600000 in
theorem heavy_one (w : World) (b : Nat) (z : Nat × Nat) (x : StepV) (h : w.heap[b]? = some (.cells x.cells.toArray 50 z)) (hs : StepIn w x) : Calls Tryz.prog 7 #[.slice (some ⟨b, 0, none⟩) 1 1] w (HeavyPost w) := by
  have lt : b < w.heap.size := (Array.getElem?_eq_some_iff.1 h).1
  have H := Lib.hid h
  clear h
  have A1 := At.new w 48 x.mcells
  have k3 : (w.alloc (.cells x.mcells.toArray 48)).cell? ⟨w.heap.size, 3, none⟩ = some (.string x.version) := A1.cell 3
  have k8 : (w.alloc (.cells x.mcells.toArray 48)).cell? ⟨w.heap.size, 8, none⟩ = some (.string x.uname) := A1.cell 8
  have k9 : (w.alloc (.cells x.mcells.toArray 48)).cell? ⟨w.heap.size, 9, none⟩ = some (.string x.aname) := A1.cell 9
  have k10 : (w.alloc (.cells x.mcells.toArray 48)).cell? ⟨w.heap.size, 10, none⟩ = some (.string x.ename) := A1.cell 10
  have k11 : (w.alloc (.cells x.mcells.toArray 48)).cell? ⟨w.heap.size, 11, none⟩ = some (.string x.name) := A1.cell 11
  have k12 : (w.alloc (.cells x.mcells.toArray 48)).cell? ⟨w.heap.size, 12, none⟩ = some (.slice x.namesa x.namesn x.namesc) := A1.cell 12
  have k16 : (w.alloc (.cells x.mcells.toArray 48)).cell? ⟨w.heap.size, 16, none⟩ = some (.slice x.qidsa x.qidsn x.qidsc) := A1.cell 16
  have k22 : (w.alloc (.cells x.mcells.toArray 48)).cell? ⟨w.heap.size, 22, none⟩ = some (.string x.data) := A1.cell 22
  have k32 : (w.alloc (.cells x.mcells.toArray 48)).cell? ⟨w.heap.size, 32, none⟩ = some (.string x.s0) := A1.cell 32
  have k33 : (w.alloc (.cells x.mcells.toArray 48)).cell? ⟨w.heap.size, 33, none⟩ = some (.string x.s1) := A1.cell 33
  have k34 : (w.alloc (.cells x.mcells.toArray 48)).cell? ⟨w.heap.size, 34, none⟩ = some (.string x.s2) := A1.cell 34
  have k35 : (w.alloc (.cells x.mcells.toArray 48)).cell? ⟨w.heap.size, 35, none⟩ = some (.string x.s3) := A1.cell 35
  clear A1
  go_enter Tryz.func7, Tryz.ntmps7
  go_wp2
  refine wp_loop_rounds 2 ?_
  rw [rounds_succ]
  have hm : ∀ j u, x.mcells[j]? = some u → w.cell? ⟨b, 0 + j, none⟩ = some u := fun j u hj => by
    rw [Nat.zero_add, cell_of_row w b j _ _ z H.out, x.msplit]
    simp only [List.getElem?_toArray]
    rw [List.getElem?_append_left (List.getElem?_eq_some_iff.1 hj).1]
    exact hj
  go_wp2_with (first | (refine wpList_load_part rfl 48 (.tmp 19) rfl b 0 rfl x.mcells hm _ Tryz.underlying48 (by kernel_rfl) ?_) | (refine wpList_store_new rfl 48 (.tmp 4) (.tmp 20) rfl rfl _ x.mcells.toArray _ rfl rfl (by kernel_rfl) rfl x.mone ?_))
  have lW : w.heap.size < (w.alloc (.cells x.mcells.toArray 48)).heap.size := by simp
  have TW : Touch [] w (w.alloc (.cells x.mcells.toArray 48)) := (Touch.refl _ _).alloc _
  have hN0 : ∀ i, i < x.namesn → ∃ nb off s, x.namesa = some ⟨nb, off, none⟩ ∧ (w.alloc (.cells x.mcells.toArray 48)).cell? ⟨nb, off + i, none⟩ = some (.string s) := by
    intro i hi
    obtain ⟨xs, s1, s2⟩ := hs.names
    rcases s1.at_ with h0 | ⟨nb, off, h1, h2, h3⟩
    · omega
    · have hlen := s1.len
      have hget : xs[i]? = some (xs[i]'(by omega)) := List.getElem?_eq_getElem (by omega)
      obtain ⟨s, h4⟩ := s2 _ (List.getElem_mem (show i < xs.length by omega))
      rw [h4] at hget
      exact ⟨nb, off, s, h1, (TW.cell (p := ⟨nb, _, none⟩) h2 (by simp)).trans (h3 i _ hget)⟩
  have HN := Lib.hid hN0
  have HT := Lib.hid TW
  clear hN0 TW hs hm H lt
  generalize x.namesa = na at k12 HN
  generalize x.namesn = nn at k12 HN
  generalize x.namesc = nc at k12
  generalize x.qidsn = qn at k16
  generalize hW : w.alloc (.cells x.mcells.toArray 48) = W at *
  generalize hg : w.heap.size = g at *
  go_loopw [5, 6] (fun n k wr => ∃ z : Int, ∃ i : Nat, i ≤ 100 ∧ n = .int .i64 z ∧ k = .int .i64 i ∧ wr = W) (fun _ k _ => 100 - (intOf k).toNat)
  case atStart => exact ⟨_, 0, by omega, rfl, rfl, rfl⟩
  case round =>
    obtain ⟨z1, i, hi, rfl, rfl, rfl⟩ := hrel
    by_cases h1 : i < nn
    · have h1i : (i : Int) < (nn : Int) := by omega
      obtain ⟨nb, off, s, rfl, hc⟩ := HN.out i h1
      by_cases h2 : i < 100
      · have h2i : (i : Int) < 100 := by omega
        have h3i : (0 : Int) ≤ (i : Int) ∧ (i : Int) < (nn : Int) := by omega
        go_wp2
        refine ⟨⟨_, i + 1, by omega, by first | trivial | rfl, by go_num, by first | trivial | rfl⟩, ?_⟩
        simp [intOf]
        omega
      · have h2i : ¬ (i : Int) < 100 := by omega
        go_wp2
        all_goals first | (go_ret; exact ⟨_, rfl, HT.out⟩) | (rw [rounds_succ]; go_wp2; go_ret; exact ⟨_, rfl, HT.out⟩)
    · have h1i : ¬ (i : Int) < (nn : Int) := by omega
      go_wp2
      all_goals first | (go_ret; exact ⟨_, rfl, HT.out⟩) | (rw [rounds_succ]; go_wp2; go_ret; exact ⟨_, rfl, HT.out⟩)
end SessionNone
end Go.Proofs.YteblflebjhncbaaGreatDoor
