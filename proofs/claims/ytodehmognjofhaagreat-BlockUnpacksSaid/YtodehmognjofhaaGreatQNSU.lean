/-
  BlockUnpacks: the walk.
-/
import Derived.Test.YtodehmognjofhaaGreatQNSH
namespace Go.Proofs.YtodehmognjofhaaGreat
open Go.RowKit

theorem secB_size (c m : ByteArray) (nn n v : Nat) (s : ByteArray) (hs : s.size = 448) : (secB c m nn n v s).size = 512 := by
  unfold secB
  rw [ByteArray.size_append, ByteArray.size_append, bytesOf_size, leL_len, slB_size _ _ _ _ _ _ hs, zB_size]
set_option maxRecDepth 100000 in
set_option maxHeartbeats 3200000 in
theorem unpacks_walk (w : World) (kb : Nat) (odd : Bool) (nn : Nat) (num : Int) (v : Nat) (s : ByteArray) (at_ : Int) (by_ : Nat) (raw : ByteArray) (hkb : kb < 256) (hnn : nn < 18446744073709551616) (h1 : -9223372036854775808 ≤ num) (h2 : num < 9223372036854775808) (hv : v < 18446744073709551616) (hby : by_ < 256) :
    Calls Tryz.prog 4 #[pkV kb odd nn num v s, .int .i64 at_, .int .u8 (by_ : Int), .string raw] w fun e w' => e = .returned (.bool true) ∧ Touch [] w w' := by
  have AL := Lib.hid alive09_any
  by_cases hs : s.size ≤ 4096
  rotate_left
  · have i1 : (4096 : Int) < (s.size : Int) := by omega
    unfold pkV
    go_enter Tryz.func4, Tryz.ntmps4
    go_wp2_with (go_at_call 6; refine (AL.out _).mono ?_; clear AL; rintro e w2 ⟨rfl, t2⟩)
    go_ret
    exact ⟨rfl, ((Touch.refl [] w).alloc _).trans' t2⟩
  have i1 : ¬ (4096 : Int) < (s.size : Int) := by omega
  by_cases hr : raw.size ≤ 4096
  rotate_left
  · have i2 : (4096 : Int) < (raw.size : Int) := by omega
    unfold pkV
    go_enter Tryz.func4, Tryz.ntmps4
    go_wp2_with (go_at_call 6; refine (AL.out _).mono ?_; clear AL; rintro e w2 ⟨rfl, t2⟩)
    go_ret
    exact ⟨rfl, ((Touch.refl [] w).alloc _).trans' t2⟩
  have i2 : ¬ (4096 : Int) < (raw.size : Int) := by omega
  have CK := Lib.hid fun W => pkeys_any W kb odd nn num v s hkb hnn h1 h2 hv hs
  have CP := Lib.hid fun W => ppack_any W (keyC kb) (keyM kb odd) nn num v s h2 hv
  have CU := Lib.hid fun W => unpacks_any W (keyC kb) (keyM kb odd) num raw h2
  have CV := Lib.hid fun (W : World) (y : ByteArray) => unpacks_any W (keyC kb) (keyM kb odd) num y h2
  have HPC : Hid ((packC (keyC kb) (keyM kb odd) num s = 0 ∧ (packS (keyC kb) (keyM kb odd) nn num v s).size = 512) ∨ packC (keyC kb) (keyM kb odd) num s = 2) := Lib.hid (by
    by_cases ho : okP (keyC kb) (keyM kb odd) num s
    · exact .inl ⟨if_pos ho, by rw [show packS (keyC kb) (keyM kb odd) nn num v s = _ from if_pos ho]; exact secB_size _ _ _ _ _ _ ho.2.2⟩
    · exact .inr (if_neg ho))
  generalize packS (keyC kb) (keyM kb odd) nn num v s = PS at CP HPC
  generalize packC (keyC kb) (keyM kb odd) num s = PC at CP HPC
  generalize keyC kb = kc at CK CP CU CV
  generalize keyM kb odd = km at CK CP CU CV
  have HP := Lib.hid (At.new w 24 (pkL kb odd nn num v s))
  have T0 := Lib.hid ((Touch.refl [] w).alloc (.cells (pkL kb odd nn num v s).toArray 24))
  unfold pkV
  clear hs hr hkb hnn h1 h2 hv
  go_enter Tryz.func4, Tryz.ntmps4
  go_upto_region 3 with (fail)
  have c0 : (w.alloc (.cells (pkL kb odd nn num v s).toArray 24)).cell? ⟨w.heap.size, 0, none⟩ = some (.int .u8 (kb : Int)) := HP.out.cell 0
  have c1 : (w.alloc (.cells (pkL kb odd nn num v s).toArray 24)).cell? ⟨w.heap.size, 1, none⟩ = some (.bool odd) := HP.out.cell 1
  have c2 : (w.alloc (.cells (pkL kb odd nn num v s).toArray 24)).cell? ⟨w.heap.size, 2, none⟩ = some (.int .u64 (nn : Int)) := HP.out.cell 2
  have c3 : (w.alloc (.cells (pkL kb odd nn num v s).toArray 24)).cell? ⟨w.heap.size, 3, none⟩ = some (.int .i64 num) := HP.out.cell 3
  have c4 : (w.alloc (.cells (pkL kb odd nn num v s).toArray 24)).cell? ⟨w.heap.size, 4, none⟩ = some (.int .u64 (v : Int)) := HP.out.cell 4
  have c5 : (w.alloc (.cells (pkL kb odd nn num v s).toArray 24)).cell? ⟨w.heap.size, 5, none⟩ = some (.string s) := HP.out.cell 5
  go_region_held3 (fun W => W.cell? ⟨w.heap.size, 0, none⟩ = some (.int .u8 (kb : Int)) ∧ W.cell? ⟨w.heap.size, 1, none⟩ = some (.bool odd) ∧ W.cell? ⟨w.heap.size, 2, none⟩ = some (.int .u64 (nn : Int)) ∧ W.cell? ⟨w.heap.size, 3, none⟩ = some (.int .i64 num) ∧ W.cell? ⟨w.heap.size, 4, none⟩ = some (.int .u64 (v : Int)) ∧ W.cell? ⟨w.heap.size, 5, none⟩ = some (.string s)) (first | assumption | go_keep) (first | (go_at_call 8; refine (CK.out _).mono ?_; rintro e w3 ⟨rfl, t3⟩; have HP' : Hid (At w3 w.heap.size 24 (pkL kb odd nn num v s)) := Lib.hid (by first | exact HP.out.drew.touch t3 (by simp) | exact HP.out.touch t3 (by simp)); have T' : Hid (Touch [] w w3) := Lib.hid (by first | exact T0.out.drew.trans' t3 | exact T0.out.trans' t3); clear t3 HP T0; have HP := HP'; have T0 := T'; clear HP' T'; have hK3 : w3.cell? ⟨w.heap.size, 0, none⟩ = some (.int .u8 (kb : Int)) ∧ w3.cell? ⟨w.heap.size, 1, none⟩ = some (.bool odd) ∧ w3.cell? ⟨w.heap.size, 2, none⟩ = some (.int .u64 (nn : Int)) ∧ w3.cell? ⟨w.heap.size, 3, none⟩ = some (.int .i64 num) ∧ w3.cell? ⟨w.heap.size, 4, none⟩ = some (.int .u64 (v : Int)) ∧ w3.cell? ⟨w.heap.size, 5, none⟩ = some (.string s) := pkC_of HP.out) | (go_at_call 10; refine (CU.out _).mono ?_; rintro e w4 ⟨rfl, t4⟩; have HP' : Hid (At w4 w.heap.size 24 (pkL kb odd nn num v s)) := Lib.hid (by first | exact HP.out.drew.touch t4 (by simp) | exact HP.out.touch t4 (by simp)); have T' : Hid (Touch [] w w4) := Lib.hid (by first | exact T0.out.drew.trans' t4 | exact T0.out.trans' t4); clear t4 HP T0; have HP := HP'; have T0 := T'; clear HP' T'; have hK4 : w4.cell? ⟨w.heap.size, 0, none⟩ = some (.int .u8 (kb : Int)) ∧ w4.cell? ⟨w.heap.size, 1, none⟩ = some (.bool odd) ∧ w4.cell? ⟨w.heap.size, 2, none⟩ = some (.int .u64 (nn : Int)) ∧ w4.cell? ⟨w.heap.size, 3, none⟩ = some (.int .i64 num) ∧ w4.cell? ⟨w.heap.size, 4, none⟩ = some (.int .u64 (v : Int)) ∧ w4.cell? ⟨w.heap.size, 5, none⟩ = some (.string s) := pkC_of HP.out))
  go_upto_region 5 with (fail)
  clear c0 c1 c2 c3 c4 c5
  have c0 : w4.cell? ⟨w.heap.size, 0, none⟩ = some (.int .u8 (kb : Int)) := HP.out.cell 0
  have c1 : w4.cell? ⟨w.heap.size, 1, none⟩ = some (.bool odd) := HP.out.cell 1
  have c2 : w4.cell? ⟨w.heap.size, 2, none⟩ = some (.int .u64 (nn : Int)) := HP.out.cell 2
  have c3 : w4.cell? ⟨w.heap.size, 3, none⟩ = some (.int .i64 num) := HP.out.cell 3
  have c4 : w4.cell? ⟨w.heap.size, 4, none⟩ = some (.int .u64 (v : Int)) := HP.out.cell 4
  have c5 : w4.cell? ⟨w.heap.size, 5, none⟩ = some (.string s) := HP.out.cell 5
  go_region_held3 (fun W => W.cell? ⟨w.heap.size, 0, none⟩ = some (.int .u8 (kb : Int)) ∧ W.cell? ⟨w.heap.size, 1, none⟩ = some (.bool odd) ∧ W.cell? ⟨w.heap.size, 2, none⟩ = some (.int .u64 (nn : Int)) ∧ W.cell? ⟨w.heap.size, 3, none⟩ = some (.int .i64 num) ∧ W.cell? ⟨w.heap.size, 4, none⟩ = some (.int .u64 (v : Int)) ∧ W.cell? ⟨w.heap.size, 5, none⟩ = some (.string s)) (first | assumption | go_keep) (first | (go_at_call 8; refine (CK.out _).mono ?_; rintro e w5 ⟨rfl, t5⟩; have HP' : Hid (At w5 w.heap.size 24 (pkL kb odd nn num v s)) := Lib.hid (by first | exact HP.out.drew.touch t5 (by simp) | exact HP.out.touch t5 (by simp)); have T' : Hid (Touch [] w w5) := Lib.hid (by first | exact T0.out.drew.trans' t5 | exact T0.out.trans' t5); clear t5 HP T0; have HP := HP'; have T0 := T'; clear HP' T'; have hK5 : w5.cell? ⟨w.heap.size, 0, none⟩ = some (.int .u8 (kb : Int)) ∧ w5.cell? ⟨w.heap.size, 1, none⟩ = some (.bool odd) ∧ w5.cell? ⟨w.heap.size, 2, none⟩ = some (.int .u64 (nn : Int)) ∧ w5.cell? ⟨w.heap.size, 3, none⟩ = some (.int .i64 num) ∧ w5.cell? ⟨w.heap.size, 4, none⟩ = some (.int .u64 (v : Int)) ∧ w5.cell? ⟨w.heap.size, 5, none⟩ = some (.string s) := pkC_of HP.out) | (go_at_call 7; refine (CP.out _).mono ?_; rintro e w6 ⟨rfl, t6⟩; have HP' : Hid (At w6 w.heap.size 24 (pkL kb odd nn num v s)) := Lib.hid (by first | exact HP.out.drew.touch t6 (by simp) | exact HP.out.touch t6 (by simp)); have T' : Hid (Touch [] w w6) := Lib.hid (by first | exact T0.out.drew.trans' t6 | exact T0.out.trans' t6); clear t6 HP T0; have HP := HP'; have T0 := T'; clear HP' T'; have hK6 : w6.cell? ⟨w.heap.size, 0, none⟩ = some (.int .u8 (kb : Int)) ∧ w6.cell? ⟨w.heap.size, 1, none⟩ = some (.bool odd) ∧ w6.cell? ⟨w.heap.size, 2, none⟩ = some (.int .u64 (nn : Int)) ∧ w6.cell? ⟨w.heap.size, 3, none⟩ = some (.int .i64 num) ∧ w6.cell? ⟨w.heap.size, 4, none⟩ = some (.int .u64 (v : Int)) ∧ w6.cell? ⟨w.heap.size, 5, none⟩ = some (.string s) := pkC_of HP.out))
  clear CP CU c0 c1 c2 c3 c4 c5
  rcases HPC.out with ⟨hpc, hps⟩ | hpc
  rotate_left
  · subst hpc
    go_wp2_with (go_at_call 6; refine (AL.out _).mono ?_; clear AL; rintro e w7 ⟨rfl, t7⟩)
    go_ret
    exact ⟨rfl, T0.out.trans' t7⟩
  subst hpc
  have hpi : (PS.size : Int) = 512 := by omega
  by_cases a0 : 0 ≤ at_
  rotate_left
  · have a1 : at_ < 0 := by omega
    go_wp2_with (go_at_call 6; refine (AL.out _).mono ?_; clear AL; rintro e w7 ⟨rfl, t7⟩)
    go_ret
    exact ⟨rfl, T0.out.trans' t7⟩
  by_cases a1 : at_ < 512
  rotate_left
  · have a2 : ¬ at_ < 0 := by omega
    have a3 : (512 : Int) ≤ at_ := by omega
    go_wp2_with (go_at_call 6; refine (AL.out _).mono ?_; clear AL; rintro e w7 ⟨rfl, t7⟩)
    go_ret
    exact ⟨rfl, T0.out.trans' t7⟩
  obtain ⟨k, rfl⟩ : ∃ k : Nat, at_ = (k : Int) := ⟨at_.toNat, by omega⟩
  have k512 : k < 512 := by omega
  have kn : ¬ (k : Int) < 0 := by omega
  have kp : (0 : Int) ≤ (k : Int) := by omega
  have kge : ¬ (512 : Int) ≤ (k : Int) := by omega
  have hcv := run_bytes_of_string (P := Tryz.prog) w6 9 36 5 PS Tryz.underlying9 Tryz.underlying36 Tryz.underlying5
  have hcap := grownCap_ge w6 PS.size 0 5
  have HR := Lib.hid (rowZ_bytes w6 PS (grownCap w6 PS.size 0 5) 5 hcap)
  generalize bytesRow PS (grownCap w6 PS.size 0 5) = row at hcv HR
  generalize grownCap w6 PS.size 0 5 = cap at hcv hcap
  rw [hps] at hcv
  have hbl : (bsOf PS).length = 512 := by rw [bsOf_len, hps]
  have hbb := bsOf_bytes PS
  have c0 := HR.out.cell (i := k) (v := .int .u8 (((bsOf PS).getD k 0 : Nat) : Int)) (bcells_get (getD_some (by omega)))
  have fr := HR.out.frozen (i := k) (by rw [bcells_len]; omega)
  have hg := getD_lt hbb (by decide) k
  have hst := HR.out.set (i := k) (by rw [bcells_len]; omega) (.int .u8 ((((bsOf PS).getD k 0) ^^^ by_ : Nat) : Int))
  rw [bcells_set'] at hst
  have hXL : ((bsOf PS).set k ((bsOf PS).getD k 0 ^^^ by_)).length = 512 := by rw [List.length_set]; exact hbl
  have hXB : Bytes ((bsOf PS).set k ((bsOf PS).getD k 0 ^^^ by_)) := set_bytes hbb (xlt hg hby) k
  have hx := u8_xor_nat ((bsOf PS).getD k 0) by_ hg hby
  have HST := Lib.hid hst
  generalize (bsOf PS).set k ((bsOf PS).getD k 0 ^^^ by_) = XL at HST hXL hXB
  have HXL := Lib.hid hXL
  have HXB := Lib.hid hXB
  generalize (bsOf PS).getD k 0 ^^^ by_ = xy at HST hx
  generalize (bsOf PS).getD k 0 = xx at c0 hx
  clear hst hbl hbb hg hXL hXB hps hcap HR hby a0 HPC
  have HGE : Hid (w.heap.size ≤ w6.heap.size ∧ w.heap.size ≠ w6.heap.size) := Lib.hid ⟨T0.out.size, by have := HP.out.lt; omega⟩
  have HCV := Lib.hid fun (W : World) (h : RowZ W w6.heap.size 5 (bcells XL)) => RowZ.conv (P := Tryz.prog) h HXB.out 512 cap HXL.out Tryz.underlying36 Tryz.underlying5 Tryz.underlying9
  generalize bytesOf XL = Y at HCV
  have CY := Lib.hid fun W => CV.out W Y
  go_upto_region 10 with (fail)
  have hP7 := ((HP.out.alloc (.cells row 5 (row.size, row.size + 1))).other (p := ⟨w6.heap.size, k, none⟩) HGE.out.2 (.int .u8 ((xy : Nat) : Int))).drew
  have hT7 := ((T0.out.alloc (.cells row 5 (row.size, row.size + 1))).setCell ⟨w6.heap.size, k, none⟩ (.inr HGE.out.1) (.int .u8 ((xy : Nat) : Int))).drew
  have hZ7 : RowZ (((w6.alloc (.cells row 5 (row.size, row.size + 1))).setCell ⟨w6.heap.size, k, none⟩ (.int .u8 ((xy : Nat) : Int))).drew) w6.heap.size 5 (bcells XL) := HST.out
  generalize hbb : w6.heap.size = bb at hP7 hT7 hZ7 HCV ⊢
  generalize ((w6.alloc (.cells row 5 (row.size, row.size + 1))).setCell ⟨bb, k, none⟩ (.int .u8 ((xy : Nat) : Int))).drew = w7 at hP7 hT7 hZ7 ⊢
  clear HP T0 HST HXL HXB hbb HGE CV hcv c0 fr hx
  have HP := Lib.hid hP7
  have T0 := Lib.hid hT7
  have HZ := Lib.hid hZ7
  clear hP7 hT7 hZ7
  have c0 : w7.cell? ⟨w.heap.size, 0, none⟩ = some (.int .u8 (kb : Int)) := HP.out.cell 0
  have c1 : w7.cell? ⟨w.heap.size, 1, none⟩ = some (.bool odd) := HP.out.cell 1
  have c2 : w7.cell? ⟨w.heap.size, 2, none⟩ = some (.int .u64 (nn : Int)) := HP.out.cell 2
  have c3 : w7.cell? ⟨w.heap.size, 3, none⟩ = some (.int .i64 num) := HP.out.cell 3
  have c4 : w7.cell? ⟨w.heap.size, 4, none⟩ = some (.int .u64 (v : Int)) := HP.out.cell 4
  have c5 : w7.cell? ⟨w.heap.size, 5, none⟩ = some (.string s) := HP.out.cell 5
  have cv0 : (convert 36 9 (.slice (some ⟨bb, 0, none⟩) 512 cap)).run Tryz.prog w7.drew = .ok (.string Y) w7.drew := HCV.out _ (show RowZ w7.drew _ _ _ from HZ.out)
  go_region_held3 (fun W => W.cell? ⟨w.heap.size, 0, none⟩ = some (.int .u8 (kb : Int)) ∧ W.cell? ⟨w.heap.size, 1, none⟩ = some (.bool odd) ∧ W.cell? ⟨w.heap.size, 2, none⟩ = some (.int .u64 (nn : Int)) ∧ W.cell? ⟨w.heap.size, 3, none⟩ = some (.int .i64 num) ∧ W.cell? ⟨w.heap.size, 4, none⟩ = some (.int .u64 (v : Int)) ∧ W.cell? ⟨w.heap.size, 5, none⟩ = some (.string s) ∧ (convert 36 9 (.slice (some ⟨bb, 0, none⟩) 512 cap)).run Tryz.prog W = .ok (.string Y) W) (first | assumption | go_keep) (first | (go_at_call 8; refine (CK.out _).mono ?_; rintro e w8 ⟨rfl, t8⟩; have HP' : Hid (At w8 w.heap.size 24 (pkL kb odd nn num v s)) := Lib.hid (by first | exact HP.out.drew.touch t8 (by simp) | exact HP.out.touch t8 (by simp)); have HZ' : Hid (RowZ w8 bb 5 (bcells XL)) := Lib.hid (by first | exact HZ.out.touch t8 (by simp) | exact (show RowZ w7.drew _ _ _ from HZ.out).touch t8 (by simp)); have T' : Hid (Touch [] w w8) := Lib.hid (by first | exact T0.out.drew.trans' t8 | exact T0.out.trans' t8); clear t8 HP T0 HZ; have HP := HP'; have T0 := T'; have HZ := HZ'; clear HP' T' HZ'; have hK8 : w8.cell? ⟨w.heap.size, 0, none⟩ = some (.int .u8 (kb : Int)) ∧ w8.cell? ⟨w.heap.size, 1, none⟩ = some (.bool odd) ∧ w8.cell? ⟨w.heap.size, 2, none⟩ = some (.int .u64 (nn : Int)) ∧ w8.cell? ⟨w.heap.size, 3, none⟩ = some (.int .i64 num) ∧ w8.cell? ⟨w.heap.size, 4, none⟩ = some (.int .u64 (v : Int)) ∧ w8.cell? ⟨w.heap.size, 5, none⟩ = some (.string s) ∧ (convert 36 9 (.slice (some ⟨bb, 0, none⟩) 512 cap)).run Tryz.prog w8 = .ok (.string Y) w8 := by { obtain ⟨p0, p1, p2, p3, p4, p5⟩ := pkC_of HP.out; exact ⟨p0, p1, p2, p3, p4, p5, HCV.out _ HZ.out⟩ }) | (go_at_call 10; refine (CY.out _).mono ?_; rintro e w9 ⟨rfl, t9⟩; have HP' : Hid (At w9 w.heap.size 24 (pkL kb odd nn num v s)) := Lib.hid (by first | exact HP.out.drew.touch t9 (by simp) | exact HP.out.touch t9 (by simp)); have HZ' : Hid (RowZ w9 bb 5 (bcells XL)) := Lib.hid (by first | exact HZ.out.touch t9 (by simp) | exact (show RowZ w7.drew _ _ _ from HZ.out).touch t9 (by simp)); have T' : Hid (Touch [] w w9) := Lib.hid (by first | exact T0.out.drew.trans' t9 | exact T0.out.trans' t9); clear t9 HP T0 HZ; have HP := HP'; have T0 := T'; have HZ := HZ'; clear HP' T' HZ'; have hK9 : w9.cell? ⟨w.heap.size, 0, none⟩ = some (.int .u8 (kb : Int)) ∧ w9.cell? ⟨w.heap.size, 1, none⟩ = some (.bool odd) ∧ w9.cell? ⟨w.heap.size, 2, none⟩ = some (.int .u64 (nn : Int)) ∧ w9.cell? ⟨w.heap.size, 3, none⟩ = some (.int .i64 num) ∧ w9.cell? ⟨w.heap.size, 4, none⟩ = some (.int .u64 (v : Int)) ∧ w9.cell? ⟨w.heap.size, 5, none⟩ = some (.string s) ∧ (convert 36 9 (.slice (some ⟨bb, 0, none⟩) 512 cap)).run Tryz.prog w9 = .ok (.string Y) w9 := by { obtain ⟨p0, p1, p2, p3, p4, p5⟩ := pkC_of HP.out; exact ⟨p0, p1, p2, p3, p4, p5, HCV.out _ HZ.out⟩ }) | (go_at_call 6; refine (AL.out _).mono ?_; rintro e w10 ⟨rfl, t10⟩; have HP' : Hid (At w10 w.heap.size 24 (pkL kb odd nn num v s)) := Lib.hid (by first | exact HP.out.drew.touch t10 (by simp) | exact HP.out.touch t10 (by simp)); have HZ' : Hid (RowZ w10 bb 5 (bcells XL)) := Lib.hid (by first | exact HZ.out.touch t10 (by simp) | exact (show RowZ w7.drew _ _ _ from HZ.out).touch t10 (by simp)); have T' : Hid (Touch [] w w10) := Lib.hid (by first | exact T0.out.drew.trans' t10 | exact T0.out.trans' t10); clear t10 HP T0 HZ; have HP := HP'; have T0 := T'; have HZ := HZ'; clear HP' T' HZ'; have hK10 : w10.cell? ⟨w.heap.size, 0, none⟩ = some (.int .u8 (kb : Int)) ∧ w10.cell? ⟨w.heap.size, 1, none⟩ = some (.bool odd) ∧ w10.cell? ⟨w.heap.size, 2, none⟩ = some (.int .u64 (nn : Int)) ∧ w10.cell? ⟨w.heap.size, 3, none⟩ = some (.int .i64 num) ∧ w10.cell? ⟨w.heap.size, 4, none⟩ = some (.int .u64 (v : Int)) ∧ w10.cell? ⟨w.heap.size, 5, none⟩ = some (.string s) ∧ (convert 36 9 (.slice (some ⟨bb, 0, none⟩) 512 cap)).run Tryz.prog w10 = .ok (.string Y) w10 := by { obtain ⟨p0, p1, p2, p3, p4, p5⟩ := pkC_of HP.out; exact ⟨p0, p1, p2, p3, p4, p5, HCV.out _ HZ.out⟩ }))
  go_wp2_with fail
  go_ret
  exact ⟨rfl, T0.out⟩
end Go.Proofs.YtodehmognjofhaaGreat

namespace Go.Proofs.YtodehmognjofhaaGreat.BlockUnpacks
open Go.RowKit

theorem walk (v : Value) (z : PkR) (n b : Int) (raw : ByteArray) (w : World) (h : PkIn v z) (_ : (Lit.int .i64 n).wf = true) (hb : (Lit.int .u8 b).wf = true) (_ : raw.size ≤ maxLen) : Calls Tryz.prog 4 #[v, .int .i64 n, .int .u8 b, .string raw] w fun e w' => e = .returned (.bool true) ∧ Below w.heap.size w w' := by
  have r := wf_u8 hb
  obtain ⟨q, rfl⟩ : ∃ q : Nat, b = (q : Int) := ⟨b.toNat, by omega⟩
  rw [h.v]
  exact (unpacks_walk w z.kb z.odd z.nn z.num z.v z.s n q raw h.kb h.nn h.n1 h.n2 h.vv (by omega)).mono fun _ _ h => ⟨h.1, h.2.toBelow (Nat.le_refl _) (by simp)⟩
end Go.Proofs.YtodehmognjofhaaGreat.BlockUnpacks
