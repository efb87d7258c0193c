/-
  JournalCodes: the walk.
-/
import Derived.Test.YtodehmognjofhaaGreatQJDecR
import Derived.Test.YtodehmognjofhaaGreatQJAlive
import Derived.Test.YtodehmognjofhaaGreatQJEq
import Derived.Test.YtodehmognjofhaaGreatQJCopied
namespace Go.Proofs.YtodehmognjofhaaGreat.JournalCodes
open Go.RowKit

set_option maxRecDepth 100000 in
set_option maxHeartbeats 3200000 in
theorem walk0 (w : World) (v : Value) (R : RecJ) (s : ByteArray) (h : RecV w v R) (hep : R.ep < 18446744073709551616) : Calls Tryz.prog 5 #[v, .string s] w fun e w' => e = .returned (.bool true) ∧ Touch [] w w' := by
  obtain ⟨a, n, cap, rfl, hN⟩ := h
  have hlen := hN.len
  have AL := Lib.hid alive11_any
  by_cases b1 : n ≤ 300
  rotate_left
  · have i1 : (300 : Int) < (n : Int) := by omega
    go_enter Tryz.func5, Tryz.ntmps5
    go_wp2_with (go_at_call 11; refine (AL.out _).mono ?_; clear AL; rintro e w2 ⟨rfl, t2⟩)
    go_ret
    exact ⟨rfl, ((Touch.refl [] w).alloc _).trans' t2⟩
  have i1 : ¬ (300 : Int) < (n : Int) := by omega
  have HN := Lib.hid hN
  clear hN
  generalize hz : IntKind.i64.wrap ((R.root.size : Int) + (R.sum.size : Int)) = z
  by_cases b2 : (4096 : Int) < z
  · go_enter Tryz.func5, Tryz.ntmps5
    go_wp2_with (go_at_call 11; refine (AL.out _).mono ?_; clear AL; rintro e w2 ⟨rfl, t2⟩)
    go_ret
    exact ⟨rfl, ((Touch.refl [] w).alloc _).trans' t2⟩
  by_cases b3 : (4096 : Int) < (s.size : Int)
  · go_enter Tryz.func5, Tryz.ntmps5
    go_wp2_with (go_at_call 11; refine (AL.out _).mono ?_; clear AL; rintro e w2 ⟨rfl, t2⟩)
    go_ret
    exact ⟨rfl, ((Touch.refl [] w).alloc _).trans' t2⟩
  have hs : s.size < 1099511627776 := by omega
  have HB := Lib.hid (At.new w 40 [.int .u64 (R.ep : Int), .string R.root, .string R.sum, .slice a n cap])
  have T0 := Lib.hid ((Touch.refl [] w).alloc (.cells #[.int .u64 (R.ep : Int), .string R.root, .string R.sum, .slice a n cap] 40))
  go_enter Tryz.func5, Tryz.ntmps5
  go_wp2_with fail
  refine (copied_any _ _ R ⟨a, n, cap, rfl, HN.out.touch T0.out⟩ (by omega)).mono ?_
  rintro e w2 ⟨u, rfl, ⟨a1, n1, cap1, rfl, hN1⟩, t2⟩
  have HB2 := Lib.hid (HB.out.touch t2 (by simp))
  have T2 := Lib.hid (T0.out.trans' t2)
  have HN1 := Lib.hid hN1
  have L2 : w.heap.size < w2.heap.size := HB2.out.lt
  clear t2 hN1
  go_wp2_with fail
  have HC3 := Lib.hid (At.new w2 40 [.int .u64 (R.ep : Int), .string R.root, .string R.sum, .slice a1 n1 cap1])
  have HB3 := Lib.hid (HB2.out.alloc (.cells #[.int .u64 (R.ep : Int), .string R.root, .string R.sum, .slice a1 n1 cap1] 40))
  have T3 := Lib.hid (T2.out.alloc (.cells #[.int .u64 (R.ep : Int), .string R.root, .string R.sum, .slice a1 n1 cap1] 40))
  have t23 := (Touch.refl [] w2).alloc (.cells #[.int .u64 (R.ep : Int), .string R.root, .string R.sum, .slice a1 n1 cap1] 40)
  refine (jenc_any _ _ R ⟨a1, n1, cap1, rfl, HN1.out.touch t23⟩ hep).mono ?_
  rintro e w4 ⟨rfl, t4⟩
  have HB4 := Lib.hid (HB3.out.touch t4 (by simp))
  have HC4 := Lib.hid (HC3.out.touch t4 (by simp))
  have T4 := Lib.hid (T3.out.trans' t4)
  have T24 := Lib.hid (t23.trans' t4)
  clear t4
  have c0 : w4.cell? ⟨w.heap.size, 0, none⟩ = some (.int .u64 (R.ep : Int)) := HB4.out.cell 0
  have c1 : w4.cell? ⟨w.heap.size, 1, none⟩ = some (.string R.root) := HB4.out.cell 1
  have c2 : w4.cell? ⟨w.heap.size, 2, none⟩ = some (.string R.sum) := HB4.out.cell 2
  have c3 : w4.cell? ⟨w.heap.size, 3, none⟩ = some (.slice a n cap) := HB4.out.cell 3
  go_wp2_with fail
  refine (renc_any w4 _ R ⟨a, n, cap, rfl, HN.out.touch T4.out⟩ hep).mono ?_
  rintro e w5 ⟨rfl, t5⟩
  have HB5 := Lib.hid (HB4.out.touch t5 (by simp))
  have HC5 := Lib.hid (HC4.out.touch t5 (by simp))
  have T5 := Lib.hid (T4.out.trans' t5)
  have T25 := Lib.hid (T24.out.trans' t5)
  clear t5 c0 c1 c2 c3
  go_wp2_with fail
  refine (jdec_any w5 s hs).mono ?_
  rintro e w6 ⟨u, rfl, ⟨a2, n2, cap2, rfl, hN2⟩, t6⟩
  have HN2 := Lib.hid hN2
  have HB6 := Lib.hid (HB5.out.touch t6 (by simp))
  have HC6 := Lib.hid (HC5.out.touch t6 (by simp))
  have T6 := Lib.hid (T5.out.trans' t6)
  have T26 := Lib.hid (T25.out.trans' t6)
  clear t6 hN2
  go_wp2_with fail
  have HX7 := Lib.hid (At.new w6 40 [.int .u64 ((decD s).ep : Int), .string (decD s).root, .string (decD s).sum, .slice a2 n2 cap2])
  have t67 := (Touch.refl [] w6).alloc (.cells #[.int .u64 ((decD s).ep : Int), .string (decD s).root, .string (decD s).sum, .slice a2 n2 cap2] 40)
  refine (rdec_any _ s hs).mono ?_
  rintro e w8 ⟨u, rfl, ⟨a3, n3, cap3, rfl, hN3⟩, t8⟩
  have HN3 := Lib.hid hN3
  have HX8 := Lib.hid (HX7.out.touch t8 (by simp))
  have T68 := Lib.hid (t67.trans' t8)
  have HB8 := Lib.hid (HB6.out.touch T68.out (by simp))
  have HC8 := Lib.hid (HC6.out.touch T68.out (by simp))
  have T8 := Lib.hid (T6.out.trans' T68.out)
  have T28 := Lib.hid (T26.out.trans' T68.out)
  clear t8 hN3 t67
  have HY9 := Lib.hid (At.new w8 40 [.int .u64 ((decD s).ep : Int), .string (decD s).root, .string (decD s).sum, .slice a3 n3 cap3])
  have t89 := (Touch.refl [] w8).alloc (.cells #[.int .u64 ((decD s).ep : Int), .string (decD s).root, .string (decD s).sum, .slice a3 n3 cap3] 40)
  have l6 := HX8.out.lt
  have l8 := HB8.out.lt
  have l9 := HC8.out.lt
  have x0 : w8.cell? ⟨w6.heap.size, 0, none⟩ = some (.int .u64 ((decD s).ep : Int)) := HX8.out.cell 0
  have x1 : w8.cell? ⟨w6.heap.size, 1, none⟩ = some (.string (decD s).root) := HX8.out.cell 1
  have x2 : w8.cell? ⟨w6.heap.size, 2, none⟩ = some (.string (decD s).sum) := HX8.out.cell 2
  have x3 : w8.cell? ⟨w6.heap.size, 3, none⟩ = some (.slice a2 n2 cap2) := HX8.out.cell 3
  go_wp2_with fail
  refine (eq_any _ _ _ (decD s) ⟨a2, n2, cap2, rfl, HN2.out.touch (T68.out.trans' t89)⟩ ⟨a3, n3, cap3, rfl, HN3.out.touch t89⟩).mono ?_
  rintro e w10 ⟨rfl, t10⟩
  have T810 := Lib.hid (t89.trans' t10)
  have HX10 := Lib.hid (HX8.out.touch T810.out (by simp))
  have HB10 := Lib.hid (HB8.out.touch T810.out (by simp))
  have HC10 := Lib.hid (HC8.out.touch T810.out (by simp))
  have T10 := Lib.hid (T8.out.trans' T810.out)
  have T210 := Lib.hid (T28.out.trans' T810.out)
  clear t10 t89 x0 x1 x2 x3 l6 l8 l9
  have c0 : w10.cell? ⟨w.heap.size, 0, none⟩ = some (.int .u64 (R.ep : Int)) := HB10.out.cell 0
  have c1 : w10.cell? ⟨w.heap.size, 1, none⟩ = some (.string R.root) := HB10.out.cell 1
  have c2 : w10.cell? ⟨w.heap.size, 2, none⟩ = some (.string R.sum) := HB10.out.cell 2
  have c3 : w10.cell? ⟨w.heap.size, 3, none⟩ = some (.slice a n cap) := HB10.out.cell 3
  have d0 : w10.cell? ⟨w2.heap.size, 0, none⟩ = some (.int .u64 (R.ep : Int)) := HC10.out.cell 0
  have d1 : w10.cell? ⟨w2.heap.size, 1, none⟩ = some (.string R.root) := HC10.out.cell 1
  have d2 : w10.cell? ⟨w2.heap.size, 2, none⟩ = some (.string R.sum) := HC10.out.cell 2
  have d3 : w10.cell? ⟨w2.heap.size, 3, none⟩ = some (.slice a1 n1 cap1) := HC10.out.cell 3
  go_wp2_with fail
  refine (eq_any w10 _ _ R ⟨a1, n1, cap1, rfl, HN1.out.touch T210.out⟩ ⟨a, n, cap, rfl, HN.out.touch T10.out⟩).mono ?_
  rintro e w11 ⟨rfl, t11⟩
  have HX11 := Lib.hid (HX10.out.touch t11 (by simp))
  have HB11 := Lib.hid (HB10.out.touch t11 (by simp))
  have T11 := Lib.hid (T10.out.trans' t11)
  have T611 := Lib.hid ((T68.out.trans' T810.out).trans' t11)
  clear t11 c0 c1 c2 c3 d0 d1 d2 d3
  by_cases hm : mayR R
  · have he : (encE R == 0) = true := by rw [show encE R = 0 from if_pos hm]; rfl
    have hES : encS R = bytesOf (encR R) := if_pos hm
    obtain ⟨g1, g2⟩ := dec_enc hm hep
    rw [← hES] at g1 g2
    have hD2 : decD (encS R) = R := (if_pos g1).trans g2
    have hsz : (encS R).size < 1099511627776 := by rw [hES, bytesOf_size, encR_len, hm.2.1, hm.2.2.1]; omega
    have J := Lib.hid (jdec_any w11 (encS R) hsz)
    rw [g1, hD2] at J
    clear g1 g2 hD2 hsz hES
    go_wp2_with fail
    refine J.out.mono ?_
    clear J
    rintro e w12 ⟨u, rfl, ⟨a4, n4, cap4, rfl, hN4⟩, t12⟩
    have HN4 := Lib.hid hN4
    have HB12 := Lib.hid (HB11.out.touch t12 (by simp))
    have HX12 := Lib.hid (HX11.out.touch t12 (by simp))
    have T12 := Lib.hid (T11.out.trans' t12)
    have T612 := Lib.hid (T611.out.trans' t12)
    clear t12 hN4
    have t13 := (Touch.refl [] w12).alloc (.cells #[.int .u64 (R.ep : Int), .string R.root, .string R.sum, .slice a4 n4 cap4] 40)
    have l12 := HB12.out.lt
    have c0 : w12.cell? ⟨w.heap.size, 0, none⟩ = some (.int .u64 (R.ep : Int)) := HB12.out.cell 0
    have c1 : w12.cell? ⟨w.heap.size, 1, none⟩ = some (.string R.root) := HB12.out.cell 1
    have c2 : w12.cell? ⟨w.heap.size, 2, none⟩ = some (.string R.sum) := HB12.out.cell 2
    have c3 : w12.cell? ⟨w.heap.size, 3, none⟩ = some (.slice a n cap) := HB12.out.cell 3
    go_wp2_with fail
    refine (eq_any _ _ _ R ⟨a4, n4, cap4, rfl, HN4.out.touch t13⟩ ⟨a, n, cap, rfl, HN.out.touch (T12.out.trans' t13)⟩).mono ?_
    rintro e w14 ⟨rfl, t14⟩
    have HX14 := Lib.hid (HX12.out.touch (t13.trans' t14) (by simp))
    have T14 := Lib.hid (T12.out.trans' (t13.trans' t14))
    have T614 := Lib.hid (T612.out.trans' (t13.trans' t14))
    clear t13 t14 l12 c0 c1 c2 c3
    by_cases hc : codeD s = 0
    · have hk : (((codeD s : Nat) : Int) == 0) = true := by rw [hc]; rfl
      obtain ⟨e1, e2⟩ := enc_dec hc
      have hd : decD s = recD s := if_pos hc
      rw [← hd] at e1 e2
      have hE : encS (decD s) = s := (if_pos e1).trans e2
      have hE2 : encE (decD s) = 0 := if_pos e1
      have HE := Lib.hid hE
      have HE2 := Lib.hid hE2
      have hpp : (decD s).ep < 18446744073709551616 := by
        rw [hd]
        have h := leV_lt ((bsOf s).take 8) fun x hx => bsOf_bytes s x (List.mem_of_mem_take hx)
        exact Nat.lt_of_lt_of_le h (Nat.le_trans (Nat.pow_le_pow_right (by decide) (show _ ≤ 8 by rw [List.length_take]; omega)) (by decide))
      have HPP := Lib.hid hpp
      clear e1 e2 hd hE hE2 hc hpp
      have x0 : w14.cell? ⟨w6.heap.size, 0, none⟩ = some (.int .u64 ((decD s).ep : Int)) := HX14.out.cell 0
      have x1 : w14.cell? ⟨w6.heap.size, 1, none⟩ = some (.string (decD s).root) := HX14.out.cell 1
      have x2 : w14.cell? ⟨w6.heap.size, 2, none⟩ = some (.string (decD s).sum) := HX14.out.cell 2
      have x3 : w14.cell? ⟨w6.heap.size, 3, none⟩ = some (.slice a2 n2 cap2) := HX14.out.cell 3
      go_wp2_with fail
      have J := jenc_any w14 _ (decD s) ⟨a2, n2, cap2, rfl, HN2.out.touch T614.out⟩ HPP.out
      rw [HE.out, HE2.out] at J
      refine J.mono ?_
      clear J
      rintro e w20 ⟨rfl, t20⟩
      go_wp2_with (go_at_call 11; refine (AL.out _).mono ?_; clear AL; rintro e w21 ⟨rfl, t21⟩)
      go_ret
      exact ⟨rfl, (T14.out.trans' t20).trans' t21⟩
    · have hk : (((codeD s : Nat) : Int) == 0) = false := by rw [beq_eq_false_iff_ne]; omega
      go_wp2_with (go_at_call 11; refine (AL.out _).mono ?_; clear AL; rintro e w21 ⟨rfl, t21⟩)
      go_ret
      exact ⟨rfl, T14.out.trans' t21⟩
  · have he : (encE R == 0) = false := by rw [show encE R = 2 from if_neg hm]; rfl
    by_cases hc : codeD s = 0
    · have hk : (((codeD s : Nat) : Int) == 0) = true := by rw [hc]; rfl
      obtain ⟨e1, e2⟩ := enc_dec hc
      have hd : decD s = recD s := if_pos hc
      rw [← hd] at e1 e2
      have hE : encS (decD s) = s := (if_pos e1).trans e2
      have hE2 : encE (decD s) = 0 := if_pos e1
      have HE := Lib.hid hE
      have HE2 := Lib.hid hE2
      have hpp : (decD s).ep < 18446744073709551616 := by
        rw [hd]
        have h := leV_lt ((bsOf s).take 8) fun x hx => bsOf_bytes s x (List.mem_of_mem_take hx)
        exact Nat.lt_of_lt_of_le h (Nat.le_trans (Nat.pow_le_pow_right (by decide) (show _ ≤ 8 by rw [List.length_take]; omega)) (by decide))
      have HPP := Lib.hid hpp
      clear e1 e2 hd hE hE2 hc hpp
      have x0 : w11.cell? ⟨w6.heap.size, 0, none⟩ = some (.int .u64 ((decD s).ep : Int)) := HX11.out.cell 0
      have x1 : w11.cell? ⟨w6.heap.size, 1, none⟩ = some (.string (decD s).root) := HX11.out.cell 1
      have x2 : w11.cell? ⟨w6.heap.size, 2, none⟩ = some (.string (decD s).sum) := HX11.out.cell 2
      have x3 : w11.cell? ⟨w6.heap.size, 3, none⟩ = some (.slice a2 n2 cap2) := HX11.out.cell 3
      go_wp2_with fail
      have J := jenc_any w11 _ (decD s) ⟨a2, n2, cap2, rfl, HN2.out.touch T611.out⟩ HPP.out
      rw [HE.out, HE2.out] at J
      refine J.mono ?_
      clear J
      rintro e w20 ⟨rfl, t20⟩
      go_wp2_with (go_at_call 11; refine (AL.out _).mono ?_; clear AL; rintro e w21 ⟨rfl, t21⟩)
      go_ret
      exact ⟨rfl, (T11.out.trans' t20).trans' t21⟩
    · have hk : (((codeD s : Nat) : Int) == 0) = false := by rw [beq_eq_false_iff_ne]; omega
      go_wp2_with (go_at_call 11; refine (AL.out _).mono ?_; clear AL; rintro e w21 ⟨rfl, t21⟩)
      go_ret
      exact ⟨rfl, T11.out.trans' t21⟩
end Go.Proofs.YtodehmognjofhaaGreat.JournalCodes
