/-
  Blocks: unpacked: rows of bytes 0.
-/
import Derived.Test.YtodehmognjofhaaGreatQNSF
import Derived.Test.YtodehmognjofhaaGreatQNS6
import Derived.Test.YtodehmognjofhaaGreatQJB
namespace Go.Proofs.YtodehmognjofhaaGreat
open Go.RowKit

theorem zmk (W : World) (n : Nat) (hn : n = 16 ∨ n = 448 ∨ n = 512) : (Instr.makeSlice 36 (.int .i64 (n : Int)) (.int .i64 (n : Int))).run Tryz.prog W = .ok (.slice (some ⟨W.heap.size, 0, none⟩) n n) (W.alloc (.cells (bcells (List.replicate n 0)).toArray 5)) := by rcases hn with rfl | rfl | rfl <;> kernel_rfl
theorem zcv {W : World} {b n : Nat} {arr : Array Value} (h : W.heap[b]? = some (.cells arr 5 (0, 0))) (ha : arr = (bcells (List.replicate n 0)).toArray) : (convert 36 9 (.slice (some ⟨b, 0, none⟩) n n)).run Tryz.prog W = .ok (.string (zB n)) W :=
  conv_at (P := Tryz.prog) (src := 36) (dst := 9) (e := 5) (show At W b 5 (bcells (List.replicate n 0)) by rw [ha] at h; exact h) (fun x hx => by rw [List.eq_of_mem_replicate hx]; decide) n n (List.length_replicate ..) Tryz.u8sT Tryz.underlying5 Tryz.underlying9
end Go.Proofs.YtodehmognjofhaaGreat

namespace Go.Proofs.YtodehmognjofhaaGreat
open Go.RowKit

set_option maxRecDepth 100000 in
set_option maxHeartbeats 3200000 in
theorem punpack_main (w : World) (c m : ByteArray) (n : Nat) (x : ByteArray) (hk : mayK c m) (hn : n < 9223372036854775808) (hx : x.size = 512) (hz : ¬ x = zB 512) : Calls Tryz.prog 20 #[.agg #[.string c, .string m], .int .i64 (n : Int), .string x] w fun e w' =>
    e = .returned (unp c m (n : Int) x).val ∧ Touch [] w w' := by
  have CM := Lib.hid fun W => pkmay_any W c m
  rw [show mayC c m = 0 from if_pos hk] at CM
  have hq : (x.toList == (zB 512).toList) = false := by rw [beq_bytes]; exact decide_eq_false hz
  have g1 : stA x 0 0 8 = 8 ∧ stF x 0 0 8 = 0 ∧ stY x 0 0 8 = x.extract 0 8 := by unfold stA stF stY; rw [if_pos ⟨rfl, by omega⟩, if_pos rfl, if_pos (by omega), if_pos ⟨rfl, by omega⟩]; exact ⟨rfl, rfl, rfl⟩
  have g2 : stA x 8 0 488 = 496 ∧ stF x 8 0 488 = 0 ∧ stY x 8 0 488 = x.extract 8 496 := by unfold stA stF stY; rw [if_pos ⟨rfl, by omega⟩, if_pos rfl, if_pos (by omega), if_pos ⟨rfl, by omega⟩]; exact ⟨rfl, rfl, rfl⟩
  have C1 := Lib.hid fun (W : World) (rb : Nat) (h : At W rb 142 (rdJ x (0 : Nat) 0)) => jU64_any W rb x 0 0 (Nat.zero_le _) (by omega) h
  have C2 := Lib.hid fun (W : World) (rb : Nat) (h : At W rb 142 (rdJ x (8 : Nat) 0)) => jbytes_any W rb x 8 0 488 (by omega) (by omega) h
  rw [g1.1, g1.2.1, g1.2.2, bsOf_extract, List.drop_zero, Nat.sub_zero] at C1
  rw [g2.1, g2.2.1, g2.2.2] at C2
  have C3 := Lib.hid fun (W : World) (rb : Nat) (h : At W rb 142 (rdJ x (496 : Nat) 0)) => jrest_any W rb x 496 0 (by omega) h
  have hv : vOf x < 18446744073709551616 := by
    have h := leV_lt ((bsOf x).take 8) fun y hy => bsOf_bytes x y (List.mem_of_mem_take hy)
    exact Nat.lt_of_lt_of_le h (Nat.le_trans (Nat.pow_le_pow_right (by decide) (show _ ≤ 8 by rw [List.length_take]; omega)) (by decide))
  have CL := Lib.hid fun W => plabel_any W n (vOf x) hn hv
  have hXs : (x.extract 8 496).size = 488 := by rw [ByteArray.size_extract]; omega
  have CO := Lib.hid fun W => popen_any W c m (labB n (vOf x)) (x.extract 8 496) hk (by omega) (by omega) (by rw [labB_size]; omega)
  have HU : Hid (unp c m (n : Int) x = if x.extract 496 512 ≠ zB 16 then unpNo 7 else if openB m (labB n (vOf x)) (x.extract 8 496) = true then ⟨openS c (x.extract 8 496), vOf x, (x.extract 8 496).extract 456 488, 0⟩ else unpNo 7) := Lib.hid (by
    unfold unp
    rw [if_neg (fun h => h ⟨hk, by omega⟩), if_neg (fun h => h hx), if_neg hz, Int.toNat_natCast])
  have HOS : Hid (opS c m (labB n (vOf x)) (x.extract 8 496) = if openB m (labB n (vOf x)) (x.extract 8 496) = true then openS c (x.extract 8 496) else ⟨#[]⟩) := Lib.hid rfl
  have HOC : Hid (opC m (labB n (vOf x)) (x.extract 8 496) = if openB m (labB n (vOf x)) (x.extract 8 496) = true then 0 else 7) := Lib.hid rfl
  rw [show leV ((bsOf x).take 8) = vOf x from rfl] at C1
  have hxi : (x.size : Int) = 512 := by omega
  have n0 : ¬ (n : Int) < 0 := by omega
  obtain ⟨a5, ha5⟩ : ∃ a5, a5 = (bcells (List.replicate 512 0)).toArray := ⟨_, rfl⟩
  obtain ⟨a1, ha1⟩ : ∃ a1, a1 = (bcells (List.replicate 16 0)).toArray := ⟨_, rfl⟩
  have M5 := Lib.hid fun W => zmk W 512 (.inr (.inr rfl))
  have M1 := Lib.hid fun W => zmk W 16 (.inl rfl)
  rw [← ha5] at M5
  rw [← ha1] at M1
  have V5 := Lib.hid fun (W : World) (b : Nat) (h : W.heap[b]? = some (.cells a5 5 (0, 0))) => zcv h ha5
  have V1 := Lib.hid fun (W : World) (b : Nat) (h : W.heap[b]? = some (.cells a1 5 (0, 0))) => zcv h ha1
  clear ha5 ha1
  generalize zB 512 = Z5 at V5 hq
  generalize zB 16 = Z1 at V1 HU
  generalize labB n (vOf x) = L at CL CO HU HOS HOC
  generalize vOf x = V at C1 CL HU
  have HK := Lib.hid (At.new w 30 [.string c, .string m])
  generalize unp c m (n : Int) x = U at HU ⊢
  have e1 : x.extract 496 512 = x.extract 496 x.size := by rw [hx]
  rw [e1] at HU
  generalize x.extract 496 x.size = E at HU C3
  generalize x.extract 8 496 = X at CO HU HOS HOC hXs C2
  have hX4 : Hid (X.extract 456 488 = X.extract 456 X.size) := Lib.hid (by rw [hXs])
  have x456 : (456 : Int) ≤ (X.size : Int) := by omega
  clear hz hk hv e1 hx hXs g1 g2
  go_enter Tryz.func20, Tryz.ntmps20
  go_wp2_with fail
  refine (CM.out _).mono ?_
  rintro e w2 ⟨rfl, t2⟩
  have T2 := Lib.hid (((Touch.refl [] w).alloc (.cells #[.string c, .string m] 30)).trans' t2)
  have HK2 := Lib.hid (HK.out.touch t2 (by simp))
  clear t2 HK CM
  have m5 : (Instr.makeSlice 36 (.int .i64 512) (.int .i64 512)).run Tryz.prog w2 = .ok (.slice (some ⟨w2.heap.size, 0, none⟩) 512 512) (w2.alloc (.cells a5 5)) := M5.out w2
  have v5 : (convert 36 9 (.slice (some ⟨w2.heap.size, 0, none⟩) 512 512)).run Tryz.prog (w2.alloc (.cells a5 5)) = .ok (.string Z5) (w2.alloc (.cells a5 5)) := V5.out (w2.alloc (.cells a5 5)) w2.heap.size (heap_alloc_new w2 _)
  go_wp2_with fail
  refine (jnew_any _ x).mono ?_
  rintro e w3 ⟨rb, rfl, hge, t3, hR3⟩
  have T3 := Lib.hid ((T2.out.alloc (.cells a5 5)).trans' t3)
  have HK3 := Lib.hid ((HK2.out.alloc (.cells a5 5)).touch t3 (by simp))
  have HR3 := Lib.hid hR3
  have HGE : Hid (w.heap.size < rb) := Lib.hid (by have := HK2.out.lt; simp only [World.size_alloc] at hge; omega)
  clear t3 hR3 hge m5 v5 HK2 T2 M5 V5
  go_wp2_with fail
  refine (C1.out w3 rb HR3.out).mono ?_
  rintro e w4 ⟨rfl, t4, hR4⟩
  have T4 := Lib.hid (T3.out.trans t4 (fun y hy => .inr (by rw [List.mem_singleton.1 hy]; exact Nat.le_of_lt HGE.out)))
  have HK4 := Lib.hid (HK3.out.touch t4 (by have := HGE.out; simp; omega))
  have HR4 := Lib.hid hR4
  clear t4 hR4 T3 HK3 HR3 C1
  go_wp2_with fail
  refine (C2.out w4 rb HR4.out).mono ?_
  rintro e w5 ⟨rfl, t5, hR5⟩
  have T5 := Lib.hid (T4.out.trans t5 (fun y hy => .inr (by rw [List.mem_singleton.1 hy]; exact Nat.le_of_lt HGE.out)))
  have HK5 := Lib.hid (HK4.out.touch t5 (by have := HGE.out; simp; omega))
  have HR5 := Lib.hid hR5
  clear t5 hR5 T4 HK4 HR4 C2
  go_upto_region 10 with (fail)
  go_cut [41] (fun b wx => b = .bool (!(decide (E = Z1))) ∧ Hid (Touch [] w wx) ∧ Hid (At wx w.heap.size 30 [.string c, .string m]))
  case first =>
    have m0 : (Instr.makeSlice 36 (.int .i64 16) (.int .i64 16)).run Tryz.prog w5.drew = .ok (.slice (some ⟨w5.heap.size, 0, none⟩) 16 16) ((w5.alloc (.cells a1 5)).drew) := M1.out w5.drew
    have v0 : (convert 36 9 (.slice (some ⟨w5.heap.size, 0, none⟩) 16 16)).run Tryz.prog ((w5.alloc (.cells a1 5)).drew) = .ok (.string Z1) ((w5.alloc (.cells a1 5)).drew) := V1.out _ _ (heap_alloc_new w5 _)
    have rne : rb < w5.heap.size := HR5.out.lt
    have HO5 := Lib.hid rne
    clear CL CO HU HOS HOC hX4 x456 hq
    go_region_with (first | (go_at_call 51; refine (C3.out w5.drew rb HR5.out.drew).mono ?_; rintro e w6 ⟨rfl, t6⟩; have T6 := Lib.hid (T5.out.drew.trans' t6); have HK6 := Lib.hid (HK5.out.drew.touch t6 (by simp)); clear t6; have m6 : (Instr.makeSlice 36 (.int .i64 16) (.int .i64 16)).run Tryz.prog w6 = .ok (.slice (some ⟨w6.heap.size, 0, none⟩) 16 16) (w6.alloc (.cells a1 5)) := M1.out w6; have v6 : (convert 36 9 (.slice (some ⟨w6.heap.size, 0, none⟩) 16 16)).run Tryz.prog (w6.alloc (.cells a1 5)) = .ok (.string Z1) (w6.alloc (.cells a1 5)) := V1.out _ _ (heap_alloc_new w6 _)) | (go_at_call 51; refine (C3.out ((w5.alloc (.cells a1 5)).drew) rb ((HR5.out.alloc _).drew)).mono ?_; rintro e w6 ⟨rfl, t6⟩; have T6 := Lib.hid (((T5.out.alloc _).drew).trans' t6); have HK6 := Lib.hid (((HK5.out.alloc _).drew).touch t6 (by simp)); have v6 : (convert 36 9 (.slice (some ⟨w5.heap.size, 0, none⟩) 16 16)).run Tryz.prog w6 = .ok (.string Z1) w6 := V1.out _ _ ((t6.block _ (by simp only [World.size_drew, World.size_alloc]; omega) (by simp)).trans (heap_alloc_new w5 _)); clear t6))
    all_goals go_wp2_with fail
    all_goals (go_meet; first | exact ⟨by rw [beq_bytes], T6, HK6⟩ | exact ⟨by rw [beq_bytes], Lib.hid (T6.out.alloc _), Lib.hid (HK6.out.alloc _)⟩)
  case rest =>
    obtain ⟨rfl, T7, HK7⟩ := hcut
    clear T5 HK5 HR5 C3 M1 V1
    by_cases hEZ : E = Z1
    · have hd : decide (E = Z1) = true := decide_eq_true hEZ
      have HU2 : Hid (U = if openB m L X = true then ⟨openS c X, V, X.extract 456 488, 0⟩ else unpNo 7) := Lib.hid (by rw [HU.out, if_neg (fun h => h hEZ)])
      clear HU hEZ
      rw [hd]
      go_upto_region 12 with (fail)
      have c0 : wc.cell? ⟨w.heap.size, 0, none⟩ = some (.string c) := HK7.out.cell 0
      have c1 : wc.cell? ⟨w.heap.size, 1, none⟩ = some (.string m) := HK7.out.cell 1
      by_cases ho : openB m L X = true
      · have e1 : opS c m L X = openS c X := by rw [HOS.out, if_pos ho]
        have e2 : opC m L X = 0 := by rw [HOC.out, if_pos ho]
        rw [e1, e2] at CO
        have HU3 : Hid (U = ⟨openS c X, V, X.extract 456 X.size, 0⟩) := Lib.hid (by rw [HU2.out, if_pos ho, hX4.out])
        clear e1 e2 ho HU2 HOS HOC
        generalize openS c X = O at CO HU3
        go_region_held3 (fun W => W.cell? ⟨w.heap.size, 0, none⟩ = some (.string c) ∧ W.cell? ⟨w.heap.size, 1, none⟩ = some (.string m)) (first | assumption | go_keep) (first | (go_at_call 25; refine (CL.out _).mono ?_; rintro e w8 ⟨rfl, t8⟩; have HK8 := Lib.hid (HK7.out.drew.touch t8 (by simp)); have T8 := Lib.hid (T7.out.drew.trans' t8); clear t8; have hK8 : w8.cell? ⟨w.heap.size, 0, none⟩ = some (.string c) ∧ w8.cell? ⟨w.heap.size, 1, none⟩ = some (.string m) := ⟨HK8.out.cell 0, HK8.out.cell 1⟩) | (go_at_call 55; refine (CO.out _).mono ?_; rintro e w9 ⟨rfl, t9⟩; have HK9 := Lib.hid (HK8.out.touch t9 (by simp)); have T9 := Lib.hid (T8.out.trans' t9); clear t9; have hK9 : w9.cell? ⟨w.heap.size, 0, none⟩ = some (.string c) ∧ w9.cell? ⟨w.heap.size, 1, none⟩ = some (.string m) := ⟨HK9.out.cell 0, HK9.out.cell 1⟩))
        go_upto_region 15 with (fail)
        go_quiet (fail)
        go_wp2_with fail
        refine bodyPost_ret (v := (⟨O, V, X.extract 456 X.size, 0⟩ : Unp).val) ?_ rfl ⟨by rw [HU3.out], T9.out.drewN _⟩
        exact results_tmp4 (t := 6) (u := 7) (v := 8) (z := 9) rfl _ _ _
      · have e1 : opS c m L X = ⟨#[]⟩ := by rw [HOS.out, if_neg ho]
        have e2 : opC m L X = 7 := by rw [HOC.out, if_neg ho]
        rw [e1, e2] at CO
        have HU3 : Hid (U = unpNo 7) := Lib.hid (by rw [HU2.out, if_neg ho])
        clear e1 e2 ho HU2 HOS HOC
        go_region_held3 (fun W => W.cell? ⟨w.heap.size, 0, none⟩ = some (.string c) ∧ W.cell? ⟨w.heap.size, 1, none⟩ = some (.string m)) (first | assumption | go_keep) (first | (go_at_call 25; refine (CL.out _).mono ?_; rintro e w8 ⟨rfl, t8⟩; have HK8 := Lib.hid (HK7.out.drew.touch t8 (by simp)); have T8 := Lib.hid (T7.out.drew.trans' t8); clear t8; have hK8 : w8.cell? ⟨w.heap.size, 0, none⟩ = some (.string c) ∧ w8.cell? ⟨w.heap.size, 1, none⟩ = some (.string m) := ⟨HK8.out.cell 0, HK8.out.cell 1⟩) | (go_at_call 55; refine (CO.out _).mono ?_; rintro e w9 ⟨rfl, t9⟩; have HK9 := Lib.hid (HK8.out.touch t9 (by simp)); have T9 := Lib.hid (T8.out.trans' t9); clear t9; have hK9 : w9.cell? ⟨w.heap.size, 0, none⟩ = some (.string c) ∧ w9.cell? ⟨w.heap.size, 1, none⟩ = some (.string m) := ⟨HK9.out.cell 0, HK9.out.cell 1⟩))
        go_wp2_with fail
        refine bodyPost_ret (v := (unpNo 7).val) ?_ rfl ⟨by rw [HU3.out], T9.out⟩
        exact results_tmp4 (t := 6) (u := 7) (v := 8) (z := 9) rfl _ _ _
    · have HR : Hid (U = unpNo 7) := Lib.hid (by rw [HU.out, if_pos hEZ])
      have hd : decide (E = Z1) = false := decide_eq_false hEZ
      rw [hd]
      go_wp2_with fail
      refine bodyPost_ret (v := (unpNo 7).val) ?_ rfl ⟨by rw [HR.out], T7.out⟩
      exact results_tmp4 (t := 6) (u := 7) (v := 8) (z := 9) rfl _ _ _
end Go.Proofs.YtodehmognjofhaaGreat

namespace Go.Proofs.YtodehmognjofhaaGreat
open Go.RowKit

set_option maxRecDepth 100000 in
set_option maxHeartbeats 1600000 in
theorem punpack_any (w : World) (c m : ByteArray) (num : Int) (x : ByteArray) (hm : num < 9223372036854775808) : Calls Tryz.prog 20 #[.agg #[.string c, .string m], .int .i64 num, .string x] w fun e w' =>
    e = .returned (unp c m num x).val ∧ Touch [] w w' := by
  by_cases h1 : mayK c m
  · have CM := Lib.hid fun W => pkmay_any W c m
    rw [show mayC c m = 0 from if_pos h1] at CM
    by_cases h2 : 0 ≤ num
    · have n0 : ¬ num < 0 := by omega
      by_cases h3 : x.size = 512
      · by_cases h4 : x = zB 512
        · have HU : Hid (unp c m num x = ⟨zB 448, 0, ⟨#[]⟩, 0⟩) := Lib.hid (by unfold unp; rw [if_neg (fun h => h ⟨h1, h2⟩), if_neg (fun h => h h3), if_pos h4])
          have hq : (x.toList == (zB 512).toList) = true := by rw [beq_bytes]; exact decide_eq_true h4
          have hxi : (x.size : Int) = 512 := by omega
          obtain ⟨a5, ha5⟩ : ∃ a5, a5 = (bcells (List.replicate 512 0)).toArray := ⟨_, rfl⟩
          obtain ⟨a4, ha4⟩ : ∃ a4, a4 = (bcells (List.replicate 448 0)).toArray := ⟨_, rfl⟩
          have M5 := Lib.hid fun W => zmk W 512 (.inr (.inr rfl))
          have M4 := Lib.hid fun W => zmk W 448 (.inr (.inl rfl))
          rw [← ha5] at M5
          rw [← ha4] at M4
          have V5 := Lib.hid fun (W : World) (b : Nat) (h : W.heap[b]? = some (.cells a5 5 (0, 0))) => zcv h ha5
          have V4 := Lib.hid fun (W : World) (b : Nat) (h : W.heap[b]? = some (.cells a4 5 (0, 0))) => zcv h ha4
          clear ha5 ha4
          generalize unp c m num x = U at HU ⊢
          generalize zB 512 = Z5 at V5 hq
          generalize zB 448 = Z4 at V4 HU
          clear h1 h3 h4
          go_enter Tryz.func20, Tryz.ntmps20
          go_wp2_with fail
          refine (CM.out _).mono ?_
          rintro e w2 ⟨rfl, t2⟩
          have T2 := Lib.hid (((Touch.refl [] w).alloc (.cells #[.string c, .string m] 30)).trans' t2)
          clear t2
          have m5 : (Instr.makeSlice 36 (.int .i64 512) (.int .i64 512)).run Tryz.prog w2 = .ok (.slice (some ⟨w2.heap.size, 0, none⟩) 512 512) (w2.alloc (.cells a5 5)) := M5.out w2
          have v5 : (convert 36 9 (.slice (some ⟨w2.heap.size, 0, none⟩) 512 512)).run Tryz.prog (w2.alloc (.cells a5 5)) = .ok (.string Z5) (w2.alloc (.cells a5 5)) := V5.out _ _ (heap_alloc_new w2 _)
          have m4 : (Instr.makeSlice 36 (.int .i64 448) (.int .i64 448)).run Tryz.prog (w2.alloc (.cells a5 5)) = .ok (.slice (some ⟨w2.heap.size + 1, 0, none⟩) 448 448) ((w2.alloc (.cells a5 5)).alloc (.cells a4 5)) := by have := M4.out (w2.alloc (.cells a5 5)); rw [World.size_alloc] at this; exact this
          have v4 : (convert 36 9 (.slice (some ⟨w2.heap.size + 1, 0, none⟩) 448 448)).run Tryz.prog ((w2.alloc (.cells a5 5)).alloc (.cells a4 5)) = .ok (.string Z4) ((w2.alloc (.cells a5 5)).alloc (.cells a4 5)) := V4.out _ _ (by have := heap_alloc_new (w2.alloc (.cells a5 5)) (.cells a4 5); rw [World.size_alloc] at this; exact this)
          go_wp2_with fail
          refine bodyPost_ret (v := (⟨Z4, 0, ⟨#[]⟩, 0⟩ : Unp).val) ?_ rfl ⟨by rw [HU.out], (T2.out.alloc _).alloc _⟩
          exact results_tmp4 (t := 6) (u := 7) (v := 8) (z := 9) rfl _ _ _
        · obtain ⟨n, rfl⟩ : ∃ n : Nat, num = (n : Int) := ⟨num.toNat, by omega⟩
          exact punpack_main w c m n x h1 (by omega) h3 h4
      · have HU : Hid (unp c m num x = unpNo 7) := Lib.hid (by unfold unp; rw [if_neg (fun h => h ⟨h1, h2⟩), if_pos h3])
        have hxi : ¬ (x.size : Int) = 512 := by omega
        have hxb : ((x.size : Int) != 512) = true := bne_iff_ne.2 hxi
        generalize unp c m num x = U at HU ⊢
        clear h1 h3
        go_enter Tryz.func20, Tryz.ntmps20
        go_wp2_with fail
        refine (CM.out _).mono ?_
        rintro e w2 ⟨rfl, t2⟩
        go_wp2_with fail
        refine bodyPost_ret (v := (unpNo 7).val) ?_ rfl ⟨by rw [HU.out], ((Touch.refl [] w).alloc _).trans' t2⟩
        exact results_tmp4 (t := 6) (u := 7) (v := 8) (z := 9) rfl _ _ _
    · have HU : Hid (unp c m num x = unpNo 2) := Lib.hid (if_pos fun h => h2 h.2)
      have n0 : num < 0 := by omega
      clear h1
      go_enter Tryz.func20, Tryz.ntmps20
      go_wp2_with (go_at_call 23; refine (CM.out _).mono ?_; rintro e w2 ⟨rfl, t2⟩)
      refine bodyPost_ret (v := (unpNo 2).val) ?_ rfl ⟨by rw [HU.out], ((Touch.refl [] w).alloc _).trans' t2⟩
      exact results_tmp4 (t := 6) (u := 7) (v := 8) (z := 9) rfl _ _ _
  · have CM := Lib.hid fun W => pkmay_any W c m
    rw [show mayC c m = 2 from if_neg h1] at CM
    have HU : Hid (unp c m num x = unpNo 2) := Lib.hid (if_pos fun h => h1 h.1)
    clear h1
    go_enter Tryz.func20, Tryz.ntmps20
    go_wp2_with (go_at_call 23; refine (CM.out _).mono ?_; rintro e w2 ⟨rfl, t2⟩)
    refine bodyPost_ret (v := (unpNo 2).val) ?_ rfl ⟨by rw [HU.out], ((Touch.refl [] w).alloc _).trans' t2⟩
    exact results_tmp4 (t := 6) (u := 7) (v := 8) (z := 9) rfl _ _ _
end Go.Proofs.YtodehmognjofhaaGreat
