/-
  What bytes say: the program's answer.
-/
import Derived.Test.YtodehmognjofhaaGreatQJEncP
import Derived.Test.YtodehmognjofhaaGreatQJStep
import Derived.Test.YtodehmognjofhaaGreatQJCopied
import Derived.Laws.ResultCell
namespace Go.Proofs.YtodehmognjofhaaGreat
open Go.RowKit

theorem results_row_tmp {P : Program} {fn : Func} {p u : Tmp} {ty : TypeId} (h : fn.results = #[.cell p ty, .tmp u]) (tmps : Array Value) (w : World) (g : Nat) (cs : Array Value) (d : TypeDesc)
    (hp : tmps.getD p undef = .pointer (some ⟨g, 0, none⟩)) (hg : w.heap[g]? = some (.cells cs ty (0, 0))) (hu : P.underlying ty = some d) (hd : (match d with | .struct _ | .array _ _ => true | _ => false) = true) (hi : (P.info? ty).map (·.size) = some cs.size) :
    (results fn tmps).run P w = .ok (.tuple #[.agg cs, tmps.getD u undef]) w := by
  rw [results_cell_tmp h, hp]
  simp [asAddr, run_loadVar_row w g ty ty cs (0, 0) d hg hu hd hi, Result.andThen]
theorem st_short {s : ByteArray} (h : s.size < 74) : stF s (stA s (stA s (stA s 0 0 8) (stF s 0 0 8) 32) (stF s (stA s 0 0 8) (stF s 0 0 8) 32) 32) (stF s (stA s (stA s 0 0 8) (stF s 0 0 8) 32) (stF s (stA s 0 0 8) (stF s 0 0 8) 32) 32) 2 ≠ 0 := by
  intro h2
  unfold stF stA at h2
  repeat (first | omega | split at h2)
set_option maxRecDepth 100000 in
set_option maxHeartbeats 1600000 in
theorem jdec_short (w : World) (s : ByteArray) (hs : s.size < 1099511627776) (h74 : s.size < 74) : Calls Tryz.prog 15 #[.string s] w fun e w' => ∃ u, e = .returned (.tuple #[u, .int .i64 50]) ∧ RecV w' u noR ∧ Touch [] w w' := by
  have hF := Lib.hid (st_short h74)
  have l0 : 0 ≤ s.size := Nat.zero_le _
  have l1 := Lib.hid (stA_le (s := s) (a := 0) 0 8 l0)
  have l2 := Lib.hid (stA_le (stF s 0 0 8) 32 l1.out)
  have l3 := Lib.hid (stA_le (stF s (stA s 0 0 8) (stF s 0 0 8) 32) 32 l2.out)
  have l4 := Lib.hid (stA_le (stF s (stA s (stA s 0 0 8) (stF s 0 0 8) 32) (stF s (stA s 0 0 8) (stF s 0 0 8) 32) 32) 2 l3.out)
  have HZ := Lib.hid (At.new w 40 [.int .u64 0, .string ByteArray.empty, .string ByteArray.empty, .slice none 0 0])
  go_enter Tryz.func15, Tryz.ntmps15
  go_wp2_with (go_at_call 47; refine (jnew_any _ s).mono ?_; rintro e w2 ⟨rb, rfl, hge, t2, hR2⟩; have HR2 := Lib.hid hR2; have HZ2 := Lib.hid (HZ.out.touch t2 (by simp)); have hne : w.heap.size ≠ rb := (by simp only [World.size_alloc] at hge; omega))
  have T2 := Lib.hid (((Touch.refl [] w).alloc (.cells #[.int .u64 0, .string ByteArray.empty, .string ByteArray.empty, .slice none 0 0] 40)).trans' t2)
  have HGE : Hid (w.heap.size < rb) := Lib.hid (by simp only [World.size_alloc] at hge; omega)
  clear t2 hR2 HZ hge
  refine (jU64_any w2 rb s 0 0 l0 hs HR2.out).mono ?_
  rintro e w3 ⟨rfl, t3, hR3⟩
  have HR3 := Lib.hid hR3
  have HZ3 := Lib.hid (HZ2.out.touch t3 (by simpa using hne))
  have T3 := Lib.hid (T2.out.trans t3 (fun x hx => .inr (by rw [List.mem_singleton.1 hx]; exact Nat.le_of_lt HGE.out)))
  clear t3 hR3
  generalize leV (bsOf (stY s 0 0 8)) = x1
  generalize stA s 0 0 8 = a1 at hF l1 l2 l3 l4 HR3
  generalize stF s 0 0 8 = f1 at hF l2 l3 l4 HR3
  go_wp2_with fail
  refine (jbytes_any w3 rb s a1 f1 32 l1.out hs HR3.out).mono ?_
  rintro e w4 ⟨rfl, t4, hR4⟩
  have HR4 := Lib.hid hR4
  have HZ4 := Lib.hid (HZ3.out.touch t4 (by simpa using hne))
  have T4 := Lib.hid (T3.out.trans t4 (fun x hx => .inr (by rw [List.mem_singleton.1 hx]; exact Nat.le_of_lt HGE.out)))
  clear t4 hR4
  generalize stY s a1 f1 32 = y1
  generalize stA s a1 f1 32 = a2 at hF l2 l3 l4 HR4
  generalize stF s a1 f1 32 = f2 at hF l3 l4 HR4
  go_wp2_with fail
  refine (jbytes_any w4 rb s a2 f2 32 l2.out hs HR4.out).mono ?_
  rintro e w5 ⟨rfl, t5, hR5⟩
  have HR5 := Lib.hid hR5
  have HZ5 := Lib.hid (HZ4.out.touch t5 (by simpa using hne))
  have T5 := Lib.hid (T4.out.trans t5 (fun x hx => .inr (by rw [List.mem_singleton.1 hx]; exact Nat.le_of_lt HGE.out)))
  clear t5 hR5
  generalize stY s a2 f2 32 = y2
  generalize stA s a2 f2 32 = a3 at hF l3 l4 HR5
  generalize stF s a2 f2 32 = f3 at hF l4 HR5
  go_wp2_with fail
  refine (jU16_any _ rb s a3 f3 l3.out hs (HR5.out.alloc _)).mono ?_
  rintro e w6 ⟨rfl, t6, hR6⟩
  have HR6 := Lib.hid hR6
  have HZ6 := Lib.hid ((HZ5.out.alloc (.cells #[.int .u64 (x1 : Int), .string y1, .string y2, .slice none 0 0] 40)).touch t6 (by simpa using hne))
  have T6 := Lib.hid ((T5.out.alloc (.cells #[.int .u64 (x1 : Int), .string y1, .string y2, .slice none 0 0] 40)).trans t6 (fun x hx => .inr (by rw [List.mem_singleton.1 hx]; exact Nat.le_of_lt HGE.out)))
  clear t6 hR6
  have hx4 := leV_lt (bsOf (stY s a3 f3 2)) (bsOf_bytes _)
  have hy4 := stY_size s a3 f3 2
  rw [bsOf_len] at hx4
  have hx4 : leV (bsOf (stY s a3 f3 2)) < 65536 := Nat.lt_of_lt_of_le hx4 (Nat.le_trans (Nat.pow_le_pow_right (by decide) hy4) (by decide))
  generalize leV (bsOf (stY s a3 f3 2)) = x4 at hx4
  generalize stA s a3 f3 2 = a4 at l4 HR6
  generalize stF s a3 f3 2 = f4 at hF HR6
  clear hy4
  have jx : IntKind.i64.wrap (x4 : Int) = (x4 : Int) := IntWalk.i64_in _ (by omega)
  go_wp2_with fail
  refine (jrest_any w6 rb s a4 f4 l4.out HR6.out).mono ?_
  rintro e w7 ⟨rfl, t7⟩
  have HR7 := Lib.hid (HR6.out.touch t7 (by simp))
  have HZ7 := Lib.hid (HZ6.out.touch t7 (by simp))
  have T7 := Lib.hid (T6.out.trans' t7)
  clear t7
  generalize s.extract a4 s.size = yr
  go_wp2_with fail
  refine (jfault_any w7 rb s a4 f4 HR7.out).mono ?_
  rintro e w8 ⟨rfl, t8⟩
  have HZ8 := Lib.hid (HZ7.out.touch t8 (by simp))
  have T8 := Lib.hid (T7.out.trans' t8)
  clear t8
  have hfb : (f4 != 0) = true := by simpa using hF.out
  have hfb2 : decide (f4 = 0) = false := decide_eq_false hF.out
  have d0 : w8.cell? ⟨w.heap.size, 0, none⟩ = some (.int .u64 0) := HZ8.out.cell 0
  have d1 : w8.cell? ⟨w.heap.size, 1, none⟩ = some (.string ByteArray.empty) := HZ8.out.cell 1
  have d2 : w8.cell? ⟨w.heap.size, 2, none⟩ = some (.string ByteArray.empty) := HZ8.out.cell 2
  have d3 : w8.cell? ⟨w.heap.size, 3, none⟩ = some (.slice none 0 0) := HZ8.out.cell 3
  have fz := fun o => HZ8.out.frozen o
  go_wp2_with fail
  have hz := (((HZ8.out.set 0 (.int .u64 0)).set 1 (.string ⟨#[]⟩)).set 2 (.string ⟨#[]⟩)).set 3 (.slice none 0 0)
  have TT := (((T8.out.setCell ⟨w.heap.size, 0, none⟩ (.inr (Nat.le_refl _)) (.int .u64 0)).setCell ⟨w.heap.size, 1, none⟩ (.inr (Nat.le_refl _)) (.string ⟨#[]⟩)).setCell ⟨w.heap.size, 2, none⟩ (.inr (Nat.le_refl _)) (.string ⟨#[]⟩)).setCell ⟨w.heap.size, 3, none⟩ (.inr (Nat.le_refl _)) (.slice none 0 0)
  refine bodyPost_ret (v := .tuple #[.agg #[.int .u64 0, .string ⟨#[]⟩, .string ⟨#[]⟩, .slice none 0 0], .int .i64 50]) ?_ rfl ⟨_, rfl, RecV.no _, TT⟩
  exact results_row_tmp (p := 2) (u := 3) (ty := 40) rfl _ _ w.heap.size _ _ rfl hz Tryz.underlying40 rfl (by kernel_rfl)
end Go.Proofs.YtodehmognjofhaaGreat
