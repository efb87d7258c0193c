/-
  A record copied.
-/
import Derived.Test.YtodehmognjofhaaGreatQJMay
namespace Go.Proofs.YtodehmognjofhaaGreat
open Go.RowKit

theorem Tryz.intsJ : Tryz.prog.underlying 38 = some (.slice 3) := by kernel_rfl
theorem Tryz.infoI : (Tryz.prog.info? 3).map (fun i => (i.zero, i.size, i.bytes)) = some (some (.int .i64 0), 1, 8) := by kernel_rfl
theorem Tryz.sizeRec : (Tryz.prog.info? 40).map (·.size) = some 4 := by kernel_rfl
set_option maxRecDepth 100000 in
set_option maxHeartbeats 1600000 in
theorem copied_any (w : World) (v : Value) (R : RecJ) (h : RecV w v R) (hn : R.bl.length ≤ 300) : Calls Tryz.prog 12 #[v] w fun e w' => ∃ u, e = .returned u ∧ RecV w' u R ∧ Touch [] w w' := by
  obtain ⟨a, n, cap, rfl, hN⟩ := h
  have hlen := hN.len
  obtain ⟨ep, root, sum, bl⟩ := R
  simp only at hlen hn hN ⊢
  have HN := Lib.hid hN
  clear hN
  obtain ⟨i0, hii, hz0, hz1, hz2⟩ := info_parts Tryz.infoI
  have hl2 : (bl.map (Value.int .i64)).length = n * 1 := by rw [List.length_map, hlen, Nat.mul_one]
  go_enter Tryz.func12, Tryz.ntmps12
  go_wp2_with (refine wpList_append_row _ rfl (.tmp 3) (.tmp 5) 38 rfl 3 i0 _ 1 8 Tryz.intsJ hii hz0 hz1 hz2 rfl (by decide) _ 0 0 [] [] rfl (Row.nil _ _ _ _) a n cap (bl.map (Value.int .i64)) rfl hl2 (HN.out.touch (by repeat' (first | exact Touch.refl _ _ | refine Touch.alloc ?_ _ | refine Touch.drew ?_))).src (by intro u hu; obtain ⟨z, -, rfl⟩ := List.mem_map.1 hu; rfl) (by simp only [maxLen]; omega) (by omega) ?_; intro a2 cap2 own2 w7 hR7 t7 ho7 hz7 hn7; have hz := At.new (w.alloc (.cells #[.int .u64 (ep : Int), .string root, .string sum, .slice a n cap] 40)) 40 [.int .u64 0, .string ByteArray.empty, .string ByteArray.empty, .slice none 0 0]; rw [World.size_alloc] at hz; have HZ7 := Lib.hid ((hz.alloc (.cells #[] 3)).touch t7 (by simp)); have HB7 := Lib.hid ((((At.new w 40 [.int .u64 (ep : Int), .string root, .string sum, .slice a n cap]).alloc (.cells #[.int .u64 0, .string ByteArray.empty, .string ByteArray.empty, .slice none 0 0] 40)).alloc (.cells #[] 3)).touch t7 (by simp)); have c0 : w7.cell? ⟨w.heap.size, 0, none⟩ = some (.int .u64 (ep : Int)) := HB7.out.cell 0; have c1 : w7.cell? ⟨w.heap.size, 1, none⟩ = some (.string root) := HB7.out.cell 1; have c2 : w7.cell? ⟨w.heap.size, 2, none⟩ = some (.string sum) := HB7.out.cell 2; have d0 : w7.cell? ⟨w.heap.size + 1, 0, none⟩ = some (.int .u64 0) := HZ7.out.cell 0; have d1 : w7.cell? ⟨w.heap.size + 1, 1, none⟩ = some (.string ByteArray.empty) := HZ7.out.cell 1; have d2 : w7.cell? ⟨w.heap.size + 1, 2, none⟩ = some (.string ByteArray.empty) := HZ7.out.cell 2; have d3 : w7.cell? ⟨w.heap.size + 1, 3, none⟩ = some (.slice none 0 0) := HZ7.out.cell 3; have fz := fun o => HZ7.out.frozen o; have c3 : w7.cell? ⟨w.heap.size, 3, none⟩ = some (.slice a n cap) := HB7.out.cell 3; have fr := HB7.out.frozen 3; clear hz)
  have hz1 := HZ7.out.other (p := ⟨w.heap.size, 3, none⟩) (by simp) (.slice a2 n cap2)
  have hz2 := (((hz1.set 0 (.int .u64 (ep : Int))).set 1 (.string root)).set 2 (.string sum)).set 3 (.slice a2 n cap2)
  have T8 : Touch [w.heap.size, w.heap.size + 1] w7 (((((w7.setCell ⟨w.heap.size, 3, none⟩ (.slice a2 n cap2)).setCell ⟨w.heap.size + 1, 0, none⟩ (.int .u64 (ep : Int))).setCell ⟨w.heap.size + 1, 1, none⟩ (.string root)).setCell ⟨w.heap.size + 1, 2, none⟩ (.string sum)).setCell ⟨w.heap.size + 1, 3, none⟩ (.slice a2 n cap2)) :=
    (((((Touch.refl [w.heap.size, w.heap.size + 1] w7).setCell ⟨w.heap.size, 3, none⟩ (.inl (by simp)) _).setCell ⟨w.heap.size + 1, 0, none⟩ (.inl (by simp)) _).setCell ⟨w.heap.size + 1, 1, none⟩ (.inl (by simp)) _).setCell ⟨w.heap.size + 1, 2, none⟩ (.inl (by simp)) _).setCell ⟨w.heap.size + 1, 3, none⟩ (.inl (by simp)) _
  rw [Nat.zero_add, List.nil_append] at hR7
  have hown : ∀ b ∈ own2, b ∉ [w.heap.size, w.heap.size + 1] := by
    intro b hb hb'
    simp only [List.mem_cons, List.not_mem_nil, or_false] at hb'
    rcases ho7 with rfl | rfl
    · cases hb
    · rw [List.mem_singleton] at hb
      simp only [World.size_alloc] at hb
      omega
  have hR8 := hR7.touch T8 hown
  have TT := (((((Touch.refl [] w).alloc _).alloc _).alloc _).trans' t7).trans T8 (fun x hx => .inr (by simp only [List.mem_cons, List.not_mem_nil, or_false] at hx; omega))
  refine bodyPost_ret (v := .agg #[.int .u64 (ep : Int), .string root, .string sum, .slice a2 n cap2]) ?_ rfl ⟨_, rfl, ⟨a2, n, cap2, rfl, Nums.ofRow hR8⟩, TT⟩
  exact results_cell_row (p := 2) (ty := 40) rfl _ _ (w.heap.size + 1) 40 _ (0, 0) _ rfl hz2 Tryz.underlying40 rfl (by kernel_rfl)
end Go.Proofs.YtodehmognjofhaaGreat
