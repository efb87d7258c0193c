/-
  Blocks: unpacked: the document's.
-/
import Derived.Test.YtodehmognjofhaaGreatQNSD
import Derived.Test.YtodehmognjofhaaGreatQNSV
import Derived.Test.YtodehmognjofhaaGreatQJB
namespace Go.Proofs.YtodehmognjofhaaGreat
open Go.RowKit

theorem results_tmp4 {fn : Func} {t u v z : Tmp} (h : fn.results = #[.tmp t, .tmp u, .tmp v, .tmp z]) (tmps : Array Value) (P : Program) (w : World) :
    (results fn tmps).run P w = .ok (.tuple #[tmps.getD t undef, tmps.getD u undef, tmps.getD v undef, tmps.getD z undef]) w := by
  simp [results, h]
/-- the version that a sector tells. -/
def vOf (x : ByteArray) : Nat := leV ((bsOf x).take 8)
structure Unp where
  s : ByteArray
  v : Nat
  t : ByteArray
  c : Int
def unpNo (k : Int) : Unp := ⟨⟨#[]⟩, 0, ⟨#[]⟩, k⟩
def unp (c m : ByteArray) (num : Int) (x : ByteArray) : Unp :=
  if ¬ (mayK c m ∧ 0 ≤ num) then unpNo 2 else if x.size ≠ 512 then unpNo 7 else if x = zB 512 then ⟨zB 448, 0, ⟨#[]⟩, 0⟩ else if x.extract 496 512 ≠ zB 16 then unpNo 7
  else if openB m (labB num.toNat (vOf x)) (x.extract 8 496) = true then ⟨openS c (x.extract 8 496), vOf x, (x.extract 8 496).extract 456 488, 0⟩ else unpNo 7
def Unp.val (u : Unp) : Value := .tuple #[.string u.s, .int .u64 (u.v : Int), .string u.t, .int .i64 u.c]
set_option maxRecDepth 100000 in
set_option maxHeartbeats 1600000 in
theorem runpack_main (w : World) (c m : ByteArray) (n : Nat) (x : ByteArray) (hk : mayK c m) (hn : n < 9223372036854775808) (hx : x.size = 512) (hz : ¬ x = zB 512) : Calls Tryz.prog 32 #[.agg #[.string c, .string m], .int .i64 (n : Int), .string x] w fun e w' =>
    e = .returned (unp c m (n : Int) x).val ∧ Touch [] w w' := by
  have CM := Lib.hid fun W => rkmay_any W c m
  rw [decide_eq_true hk] at CM
  have CZ5 := Lib.hid fun W => rnoughts_any W 512 (.inr (.inr rfl))
  have CZ1 := Lib.hid fun W => rnoughts_any W 16 (.inl rfl)
  have hq : (x.toList == (zB 512).toList) = false := by rw [beq_bytes]; exact decide_eq_false hz
  have CR := Lib.hid fun (W : World) (rb : Nat) (h : At W rb 103 (rdR x (0 : Nat) 0)) => rrnum_any W rb x 0 8 (by omega) (by omega) (by omega) h
  rw [List.drop_zero] at CR
  have hv : vOf x < 18446744073709551616 := by
    have h := leV_lt ((bsOf x).take 8) fun y hy => bsOf_bytes x y (List.mem_of_mem_take hy)
    exact Nat.lt_of_lt_of_le h (Nat.le_trans (Nat.pow_le_pow_right (by decide) (show _ ≤ 8 by rw [List.length_take]; omega)) (by decide))
  have CL := Lib.hid fun W => rlabel_any W n (vOf x) hn hv
  have hXs : (x.extract 8 496).size = 488 := by rw [ByteArray.size_extract]; omega
  have CO := Lib.hid fun W => ropen_any W c m (labB n (vOf x)) (x.extract 8 496) hk (by omega) (by omega) (by rw [labB_size]; omega)
  have HU : Hid (unp c m (n : Int) x = if x.extract 496 512 ≠ zB 16 then unpNo 7 else if openB m (labB n (vOf x)) (x.extract 8 496) = true then ⟨openS c (x.extract 8 496), vOf x, (x.extract 8 496).extract 456 488, 0⟩ else unpNo 7) := Lib.hid (by
    unfold unp
    rw [if_neg (fun h => h ⟨hk, by omega⟩), if_neg (fun h => h hx), if_neg hz, Int.toNat_natCast])
  have HOS : Hid (opS c m (labB n (vOf x)) (x.extract 8 496) = if openB m (labB n (vOf x)) (x.extract 8 496) = true then openS c (x.extract 8 496) else ⟨#[]⟩) := Lib.hid rfl
  have HOC : Hid (opC m (labB n (vOf x)) (x.extract 8 496) = if openB m (labB n (vOf x)) (x.extract 8 496) = true then 0 else 7) := Lib.hid rfl
  rw [show leV ((bsOf x).take 8) = vOf x from rfl] at CR
  have hxi : (x.size : Int) = 512 := by omega
  have n0 : ¬ (n : Int) < 0 := by omega
  generalize zB 512 = Z5 at CZ5 hq
  generalize zB 16 = Z1 at CZ1 HU
  generalize labB n (vOf x) = L at CL CO HU HOS HOC
  generalize vOf x = V at CR CL HU
  have HK := Lib.hid (At.new w 30 [.string c, .string m])
  generalize unp c m (n : Int) x = U at HU ⊢
  have x496 : (496 : Int) ≤ (x.size : Int) := by omega
  have e1 : x.extract 496 512 = x.extract 496 x.size := by rw [hx]
  rw [e1] at HU
  generalize hE : x.extract 496 x.size = E at HU
  generalize hX : x.extract 8 496 = X at CO HU HOS HOC hXs
  have hX4 : Hid (X.extract 456 488 = X.extract 456 X.size) := Lib.hid (by rw [hXs])
  have x456 : (456 : Int) ≤ (X.size : Int) := by omega
  clear hz hk hv e1 hx hXs
  go_enter Tryz.func32, Tryz.ntmps32
  go_wp2_with fail
  refine (CM.out _).mono ?_
  rintro e w2 ⟨rfl, t2⟩
  have T2 := Lib.hid (((Touch.refl [] w).alloc (.cells #[.string c, .string m] 30)).trans' t2)
  have HK2 := Lib.hid (HK.out.touch t2 (by simp))
  clear t2 HK CM
  go_wp2_with fail
  refine (CZ5.out _).mono ?_
  rintro e w3 ⟨rfl, t3⟩
  have T3 := Lib.hid (T2.out.trans' t3)
  have HK3 := Lib.hid (HK2.out.touch t3 (by simp))
  clear t3 HK2 T2 CZ5
  go_upto_region 5 with (fail)
  go_cut [34] (fun b wx => b = .bool (!(decide (E = Z1))) ∧ Hid (Touch [] w wx) ∧ Hid (At wx w.heap.size 30 [.string c, .string m]))
  case first =>
    go_region_held3 (fun _ => True) (exact trivial) (first | (go_at_call 31; refine (CZ1.out _).mono ?_; rintro e w5 ⟨rfl, t5⟩))
    all_goals go_wp2_with fail
    all_goals (go_meet; exact ⟨by rw [beq_bytes], Lib.hid (T3.out.drew.trans' t5), Lib.hid (HK3.out.drew.touch t5 (by simp))⟩)
  case rest =>
    obtain ⟨rfl, T7, HK7⟩ := hcut
    clear T3 HK3 CZ1
    by_cases hEZ : E = Z1
    · have hd : decide (E = Z1) = true := decide_eq_true hEZ
      have HU2 : Hid (U = if openB m L X = true then ⟨openS c X, V, X.extract 456 488, 0⟩ else unpNo 7) := Lib.hid (by rw [HU.out, if_neg (fun h => h hEZ)])
      clear HU hEZ
      rw [hd]
      have x496b : (496 : Int) ≤ 512 := by decide
      go_upto_region 8 with (fail)
      have hRd : At (wc.alloc (.cells #[.string x, .int .i64 0, .int .i64 0] 103)) wc.heap.size 103 (rdR x (0 : Nat) 0) := At.new wc _ _
      have hT8 := T7.out.alloc (.cells #[.string x, .int .i64 0, .int .i64 0] 103)
      have hK8 := HK7.out.alloc (.cells #[.string x, .int .i64 0, .int .i64 0] 103)
      have hrb : w.heap.size < wc.heap.size := HK7.out.lt
      generalize wc.alloc (.cells #[.string x, .int .i64 0, .int .i64 0] 103) = w8 at hRd hT8 hK8 ⊢
      have HRd := Lib.hid hRd
      have T8 := Lib.hid hT8
      have HK8 := Lib.hid hK8
      have HRB := Lib.hid hrb
      clear hRd hT8 hK8 hrb T7 HK7
      go_wp2_with fail
      refine (CR.out w8 wc.heap.size HRd.out).mono ?_
      rintro e w9 ⟨rfl, t9, -⟩
      have T9 := Lib.hid (T8.out.trans t9 (fun y hy => .inr (by rw [List.mem_singleton.1 hy]; exact Nat.le_of_lt HRB.out)))
      have HK9 := Lib.hid (HK8.out.touch t9 (by have := HRB.out; simp; omega))
      clear t9 CR T8 HK8 HRd
      go_upto_region 10 with (fail)
      have c0 : w9.cell? ⟨w.heap.size, 0, none⟩ = some (.string c) := HK9.out.cell 0
      have c1 : w9.cell? ⟨w.heap.size, 1, none⟩ = some (.string m) := HK9.out.cell 1
      by_cases ho : openB m L X = true
      · have e1 : opS c m L X = openS c X := by rw [HOS.out, if_pos ho]
        have e2 : opC m L X = 0 := by rw [HOC.out, if_pos ho]
        rw [e1, e2] at CO
        have HU3 : Hid (U = ⟨openS c X, V, X.extract 456 X.size, 0⟩) := Lib.hid (by rw [HU2.out, if_pos ho, hX4.out])
        clear e1 e2 ho HU2 HOS HOC
        generalize openS c X = O at CO HU3
        go_region_held3 (fun W => W.cell? ⟨w.heap.size, 0, none⟩ = some (.string c) ∧ W.cell? ⟨w.heap.size, 1, none⟩ = some (.string m)) (first | assumption | go_keep) (first | (go_at_call 29; refine (CL.out _).mono ?_; rintro e w5 ⟨rfl, t5⟩; have HK5 := Lib.hid (HK9.out.drew.touch t5 (by simp)); have T5 := Lib.hid (T9.out.drew.trans' t5); clear t5; have hK5 : w5.cell? ⟨w.heap.size, 0, none⟩ = some (.string c) ∧ w5.cell? ⟨w.heap.size, 1, none⟩ = some (.string m) := ⟨HK5.out.cell 0, HK5.out.cell 1⟩) | (go_at_call 66; refine (CO.out _).mono ?_; rintro e w6 ⟨rfl, t6⟩; have HK6 := Lib.hid (HK5.out.touch t6 (by simp)); have T6 := Lib.hid (T5.out.trans' t6); clear t6; have hK6 : w6.cell? ⟨w.heap.size, 0, none⟩ = some (.string c) ∧ w6.cell? ⟨w.heap.size, 1, none⟩ = some (.string m) := ⟨HK6.out.cell 0, HK6.out.cell 1⟩))
        go_upto_region 13 with (fail)
        go_quiet (fail)
        go_wp2_with fail
        refine bodyPost_ret (v := (⟨O, V, X.extract 456 X.size, 0⟩ : Unp).val) ?_ rfl ⟨by rw [HU3.out], T6.out.drewN _⟩
        exact results_tmp4 (t := 6) (u := 7) (v := 8) (z := 9) rfl _ _ _
      · have e1 : opS c m L X = ⟨#[]⟩ := by rw [HOS.out, if_neg ho]
        have e2 : opC m L X = 7 := by rw [HOC.out, if_neg ho]
        rw [e1, e2] at CO
        have HU3 : Hid (U = unpNo 7) := Lib.hid (by rw [HU2.out, if_neg ho])
        clear e1 e2 ho HU2 HOS HOC
        go_region_held3 (fun W => W.cell? ⟨w.heap.size, 0, none⟩ = some (.string c) ∧ W.cell? ⟨w.heap.size, 1, none⟩ = some (.string m)) (first | assumption | go_keep) (first | (go_at_call 29; refine (CL.out _).mono ?_; rintro e w5 ⟨rfl, t5⟩; have HK5 := Lib.hid (HK9.out.drew.touch t5 (by simp)); have T5 := Lib.hid (T9.out.drew.trans' t5); clear t5; have hK5 : w5.cell? ⟨w.heap.size, 0, none⟩ = some (.string c) ∧ w5.cell? ⟨w.heap.size, 1, none⟩ = some (.string m) := ⟨HK5.out.cell 0, HK5.out.cell 1⟩) | (go_at_call 66; refine (CO.out _).mono ?_; rintro e w6 ⟨rfl, t6⟩; have HK6 := Lib.hid (HK5.out.touch t6 (by simp)); have T6 := Lib.hid (T5.out.trans' t6); clear t6; have hK6 : w6.cell? ⟨w.heap.size, 0, none⟩ = some (.string c) ∧ w6.cell? ⟨w.heap.size, 1, none⟩ = some (.string m) := ⟨HK6.out.cell 0, HK6.out.cell 1⟩))
        go_wp2_with fail
        refine bodyPost_ret (v := (unpNo 7).val) ?_ rfl ⟨by rw [HU3.out], T6.out⟩
        exact results_tmp4 (t := 6) (u := 7) (v := 8) (z := 9) rfl _ _ _
    · have HR : Hid (U = unpNo 7) := Lib.hid (by rw [HU.out, if_pos hEZ])
      have hd : decide (E = Z1) = false := decide_eq_false hEZ
      rw [hd]
      go_wp2_with fail
      refine bodyPost_ret (v := (unpNo 7).val) ?_ rfl ⟨by rw [HR.out], T7.out⟩
      exact results_tmp4 (t := 6) (u := 7) (v := 8) (z := 9) rfl _ _ _
end Go.Proofs.YtodehmognjofhaaGreat

namespace Go.Proofs.YtodehmognjofhaaGreat
open Go.RowKit

set_option maxRecDepth 100000 in
set_option maxHeartbeats 1600000 in
theorem runpack_any (w : World) (c m : ByteArray) (num : Int) (x : ByteArray) (hm : num < 9223372036854775808) : Calls Tryz.prog 32 #[.agg #[.string c, .string m], .int .i64 num, .string x] w fun e w' =>
    e = .returned (unp c m num x).val ∧ Touch [] w w' := by
  by_cases h1 : mayK c m
  · have CM := Lib.hid fun W => rkmay_any W c m
    rw [decide_eq_true h1] at CM
    by_cases h2 : 0 ≤ num
    · have CZ5 := Lib.hid fun W => rnoughts_any W 512 (.inr (.inr rfl))
      have n0 : ¬ num < 0 := by omega
      by_cases h3 : x.size = 512
      · by_cases h4 : x = zB 512
        · have HU : Hid (unp c m num x = ⟨zB 448, 0, ⟨#[]⟩, 0⟩) := Lib.hid (by unfold unp; rw [if_neg (fun h => h ⟨h1, h2⟩), if_neg (fun h => h h3), if_pos h4])
          have CZ4 := Lib.hid fun W => rnoughts_any W 448 (.inr (.inl rfl))
          have hq : (x.toList == (zB 512).toList) = true := by rw [beq_bytes]; exact decide_eq_true h4
          generalize unp c m num x = U at HU ⊢
          generalize zB 512 = Z5 at CZ5 hq
          generalize zB 448 = Z4 at CZ4 HU
          clear h1 h3 h4
          go_enter Tryz.func32, Tryz.ntmps32
          go_wp2_with fail
          refine (CM.out _).mono ?_
          rintro e w2 ⟨rfl, t2⟩
          go_wp2_with fail
          refine (CZ5.out _).mono ?_
          rintro e w3 ⟨rfl, t3⟩
          go_wp2_with fail
          refine (CZ4.out _).mono ?_
          rintro e w4 ⟨rfl, t4⟩
          go_wp2_with fail
          refine bodyPost_ret (v := (⟨Z4, 0, ⟨#[]⟩, 0⟩ : Unp).val) ?_ rfl ⟨by rw [HU.out], ((((Touch.refl [] w).alloc _).trans' t2).trans' t3).trans' t4⟩
          exact results_tmp4 (t := 6) (u := 7) (v := 8) (z := 9) rfl _ _ _
        · obtain ⟨n, rfl⟩ : ∃ n : Nat, num = (n : Int) := ⟨num.toNat, by omega⟩
          exact runpack_main w c m n x h1 (by omega) h3 h4
      · have h4 : ¬ x = zB 512 := fun h => h3 (by rw [h, zB_size])
        have HU : Hid (unp c m num x = unpNo 7) := Lib.hid (by unfold unp; rw [if_neg (fun h => h ⟨h1, h2⟩), if_pos h3])
        have hq : (x.toList == (zB 512).toList) = false := by rw [beq_bytes]; exact decide_eq_false h4
        have hxi : ¬ (x.size : Int) = 512 := by omega
        have hxb : ((x.size : Int) != 512) = true := bne_iff_ne.2 hxi
        have hxd : decide ((x.size : Int) = 512) = false := decide_eq_false hxi
        generalize unp c m num x = U at HU ⊢
        generalize zB 512 = Z5 at CZ5 hq
        clear h1 h3 h4
        go_enter Tryz.func32, Tryz.ntmps32
        go_wp2_with fail
        refine (CM.out _).mono ?_
        rintro e w2 ⟨rfl, t2⟩
        go_wp2_with fail
        refine (CZ5.out _).mono ?_
        rintro e w3 ⟨rfl, t3⟩
        go_upto_region 5 with (fail)
        go_quiet (fail)
        go_wp2_with fail
        refine bodyPost_ret (v := (unpNo 7).val) ?_ rfl ⟨by rw [HU.out], ((((Touch.refl [] w).alloc _).trans' t2).trans' t3).drewN _⟩
        exact results_tmp4 (t := 6) (u := 7) (v := 8) (z := 9) rfl _ _ _
    · have HU : Hid (unp c m num x = unpNo 2) := Lib.hid (if_pos fun h => h2 h.2)
      have n0 : num < 0 := by omega
      clear h1
      go_enter Tryz.func32, Tryz.ntmps32
      go_wp2_with (go_at_call 27; refine (CM.out _).mono ?_; rintro e w2 ⟨rfl, t2⟩)
      refine bodyPost_ret (v := (unpNo 2).val) ?_ rfl ⟨by rw [HU.out], ((Touch.refl [] w).alloc _).trans' t2⟩
      exact results_tmp4 (t := 6) (u := 7) (v := 8) (z := 9) rfl _ _ _
  · have CM := Lib.hid fun W => rkmay_any W c m
    rw [decide_eq_false h1] at CM
    have HU : Hid (unp c m num x = unpNo 2) := Lib.hid (if_pos fun h => h1 h.1)
    clear h1
    go_enter Tryz.func32, Tryz.ntmps32
    go_wp2_with (go_at_call 27; refine (CM.out _).mono ?_; rintro e w2 ⟨rfl, t2⟩)
    refine bodyPost_ret (v := (unpNo 2).val) ?_ rfl ⟨by rw [HU.out], ((Touch.refl [] w).alloc _).trans' t2⟩
    exact results_tmp4 (t := 6) (u := 7) (v := 8) (z := 9) rfl _ _ _
end Go.Proofs.YtodehmognjofhaaGreat
