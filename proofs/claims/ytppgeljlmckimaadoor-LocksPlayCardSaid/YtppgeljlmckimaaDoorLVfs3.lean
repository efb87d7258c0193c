/-
  The known files at hand: trim, New, Hits.
-/
import Derived.Test.YtppgeljlmckimaaDoorLVfs
import Derived.Test.YtppgeljlmckimaaDoorMapLen
import Derived.Test.YtppgeljlmckimaaDoorStill
namespace Go.Proofs.YtppgeljlmckimaaDoor
open Go.RowKit

theorem Tryd.ptrE : Tryd.prog.underlying 94 = some (.pointer 96) := by kernel_rfl
theorem Tryd.infoE : ∃ j, Tryd.prog.info? 96 = some j ∧ j.size ≠ 0 := by
  have h : (Tryd.prog.info? 96).map (fun j => j.size != 0) = some true := by kernel_rfl
  cases hj : Tryd.prog.info? 96 with
  | none => rw [hj] at h; simp at h
  | some j => rw [hj] at h; exact ⟨j, rfl, by simpa using h⟩
theorem Tryd.mapE : Tryd.prog.underlying 97 = some (.map 39 94) := by kernel_rfl

set_option maxRecDepth 100000 in
/-- Nothing is trimmed where there is no more than the bound. -/
theorem trim_none (w : World) (v r n am : Nat) (kv : List (Int × Value)) (m : Int) (c1 : w.cell? ⟨v, 1, none⟩ = some (.int .i64 m)) (c2 : w.cell? ⟨v, 2, none⟩ = some (.pointer (some ⟨r, 0, none⟩))) (c3 : w.cell? ⟨v, 3, none⟩ = some (.map (some am)))
    (hm : IMap w KU.f am kv) (hk : (kv.length : Int) ≤ m) (hr hn : List Value) (x y z : Value) (R : Ent w r hr (ptr n) x) (N : Ent w n hn y z) (hrn : r ≠ n) :
    Calls Tryd.prog 35 #[.pointer (some ⟨v, 0, none⟩)] w fun e w' => e = .returned (.tuple #[]) ∧ Touch [] w w' := by
  obtain ⟨j, hji, hjs⟩ := Tryd.infoE
  obtain ⟨k, hkk⟩ : ∃ k, kv.length = k := ⟨_, rfl⟩
  have h1 : decide (m < (k : Int)) = false := by rw [decide_eq_false_iff_not]; omega
  have e14 := R.c14
  unfold ptr at e14
  clear hk
  go_enter Tryd.func35, Tryd.ntmps35
  go_wp2
  refine wp_loop_rounds 1 ?_
  rw [rounds_succ]
  go_wp2
  refine region_still (by kernel_rfl) (by kernel_rfl) (fun w2 t2 => ?_)
  have g1 := (t2.cell (p := ⟨v, 1, none⟩) (World.block_lt_of_cell? w _ c1) (by simp)).trans c1
  have g2 := (t2.cell (p := ⟨v, 2, none⟩) (World.block_lt_of_cell? w _ c2) (by simp)).trans c2
  have g3 := (t2.cell (p := ⟨v, 3, none⟩) (World.block_lt_of_cell? w _ c3) (by simp)).trans c3
  have hl := run_len_imap (hm.touch t2 (by simp)) Tryd.mapE 3
  rw [hkk] at hl
  have hne := run_neq_ptr_other (P := Tryd.prog) (tp := 94) (a := ⟨n, 0, none⟩) (b := ⟨r, 0, none⟩) Tryd.ptrE hji hjs (by simp [hrn.symm]) (N.at_.touch t2 (by simp)) (R.at_.touch t2 (by simp))
  have T2 := Lib.hid t2
  clear t2 c1 c2 c3 hm hrn R N
  repeat still_step
  refine wpStill_nil ?_
  clear hl hne
  go_wp2
  go_end0
  exact ⟨rfl, T2.out⟩

def noHead : List Value := [.int .u16 0, .int .u32 0, .int .u8 0, .int .u32 0, .int .u64 0, .int .u32 0, .int .u32 0, .int .u32 0, .int .u64 0, .string ⟨#[]⟩, .string ⟨#[]⟩, .string ⟨#[]⟩, .string ⟨#[]⟩, .int .u64 0]
/-- The files at hand: their own cells. -/
def vfsCells (tb r am km : Nat) (h m : Int) : List Value := [.iface 50 (.pointer (some ⟨tb, 0, none⟩)), .int .i64 1, .pointer (some ⟨r, 0, none⟩), .map (some am), .map (some km), .int .i64 h, .int .i64 m]

set_option maxRecDepth 100000 in
theorem newVfs_ann (w : World) (tb : Nat) : Calls Tryd.prog 19 #[.iface 50 (.pointer (some ⟨tb, 0, none⟩)), .int .i64 1] w fun e w' => ∃ v r am km, e = .returned (.tuple #[.pointer (some ⟨v, 0, none⟩), .int .i64 0]) ∧
    At w' v 99 (vfsCells tb r am km 0 0) ∧ Ent w' r noHead (ptr r) (ptr r) ∧ IMap w' KU.f am [] ∧ Touch [] w w' ∧ r = w.heap.size ∧ am = r + 1 ∧ km = r + 2 ∧ v = r + 3 := by
  have hmm := @run_makeMap Tryd.prog
  go_enter Tryd.func19, Tryd.ntmps19
  go_wp2
  go_ret2
  refine ⟨w.heap.size + 1 + 1 + 1, w.heap.size, w.heap.size + 1, w.heap.size + 1 + 1, rfl, ?_, ⟨?_, rfl⟩, ?_, ((((Touch.refl [] w).alloc _).alloc _).alloc _).alloc _, rfl, rfl, rfl, rfl⟩
  · have := At.new (((w.alloc (.cells (ent noHead (ptr w.heap.size) (ptr w.heap.size)).toArray 96)).alloc (.map #[] 0)).alloc (.map #[] 0)) 99 (vfsCells tb w.heap.size (w.heap.size + 1) (w.heap.size + 1 + 1) 0 0)
    simp only [World.size_alloc] at this
    exact this
  · exact (((At.new w 96 (ent noHead (ptr w.heap.size) (ptr w.heap.size))).alloc _).alloc _).alloc _
  · have := ((IMap.new (w.alloc (.cells (ent noHead (ptr w.heap.size) (ptr w.heap.size)).toArray 96)) KU.f).alloc (.map #[] 0)).alloc (.cells (vfsCells tb w.heap.size (w.heap.size + 1) (w.heap.size + 1 + 1) 0 0).toArray 99)
    simp only [World.size_alloc] at this
    exact this

set_option maxRecDepth 100000 in
theorem hits_any (w : World) (v tb r am km : Nat) (h m : Int) (V : At w v 99 (vfsCells tb r am km h m)) : Calls Tryd.prog 21 #[.pointer (some ⟨v, 0, none⟩)] w fun e w' => e = .returned (.tuple #[.int .i64 h, .int .i64 m]) ∧ Touch [] w w' := by
  have c5 := V.cell 5
  have c6 := V.cell 6
  simp [vfsCells] at c5 c6
  clear V
  go_enter Tryd.func21, Tryd.ntmps21
  go_wp2
  go_quiet (fail)
  go_wp2
  go_ret2
  exact ⟨rfl, (Touch.refl _ _).drewN _⟩
end Go.Proofs.YtppgeljlmckimaaDoor
