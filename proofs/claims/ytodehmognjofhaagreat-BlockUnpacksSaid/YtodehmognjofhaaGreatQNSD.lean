/-
  Blocks: labels, bytes 0.
-/
import Derived.Test.YtodehmognjofhaaGreatQNS7
import Derived.Test.YtodehmognjofhaaGreatQNSV
import Derived.Test.YtodehmognjofhaaGreatQJA
namespace Go.Proofs.YtodehmognjofhaaGreat
open Go.RowKit

/-- a block's label. -/
def labB (n v : Nat) : ByteArray := ((⟨#[98]⟩ : ByteArray) ++ bytesOf (leL 8 n)) ++ bytesOf (leL 8 v)
theorem labB_size (n v : Nat) : (labB n v).size = 17 := by
  unfold labB
  rw [ByteArray.size_append, ByteArray.size_append, bytesOf_size, bytesOf_size, leL_len, leL_len]; rfl
/-- so many bytes 0. -/
def zB (n : Nat) : ByteArray := bytesOf (List.replicate n 0)
theorem zB_size (n : Nat) : (zB n).size = n := by unfold zB; rw [bytesOf_size, List.length_replicate]
set_option maxRecDepth 100000 in
theorem rlabel_any (w : World) (n v : Nat) (hn : n < 9223372036854775808) (hv : v < 18446744073709551616) : Calls Tryz.prog 29 #[.int .i64 (n : Int), .int .u64 (v : Int)] w fun e w' => e = .returned (.string (labB n v)) ∧ Touch [] w w' := by
  have C1 := Lib.hid fun W => rnum_any W n 8 (by omega) (.inr (.inr rfl))
  have C2 := Lib.hid fun W => rnum_any W v 8 hv (.inr (.inr rfl))
  have jn : IntKind.u64.wrap (n : Int) = (n : Int) := by rw [IntKind.wrap_u64]; omega
  have HL : Hid (labB n v = ((⟨#[98]⟩ : ByteArray) ++ bytesOf (leL 8 n)) ++ bytesOf (leL 8 v)) := Lib.hid rfl
  have h1 : (bytesOf (leL 8 n)).size = 8 := by rw [bytesOf_size, leL_len]
  have h2 : (bytesOf (leL 8 v)).size = 8 := by rw [bytesOf_size, leL_len]
  generalize labB n v = L at HL ⊢
  generalize bytesOf (leL 8 n) = A at C1 HL h1
  generalize bytesOf (leL 8 v) = B at C2 HL h2
  have no1 : ¬ 9223372036854775807 < 1 + A.size := by omega
  have no2 : ¬ 9223372036854775807 < 1 + A.size + B.size := by omega
  clear h1 h2
  go_enter Tryz.func29, Tryz.ntmps29
  go_wp2_with fail
  refine (C1.out _).mono ?_
  rintro e w2 ⟨rfl, t2⟩
  go_wp2_with fail
  refine (C2.out _).mono ?_
  rintro e w3 ⟨rfl, t3⟩
  go_wp2_with fail
  go_ret
  exact ⟨by rw [HL.out]; rfl, t2.trans' t3⟩
set_option maxRecDepth 100000 in
theorem plabel_any (w : World) (n v : Nat) (hn : n < 9223372036854775808) (hv : v < 18446744073709551616) : Calls Tryz.prog 25 #[.int .i64 (n : Int), .int .u64 (v : Int)] w fun e w' => e = .returned (.string (labB n v)) ∧ Touch [] w w' := by
  have C1 := Lib.hid fun W => U64_any W n (by omega)
  have C2 := Lib.hid fun W => U64_any W v hv
  have jn : IntKind.u64.wrap (n : Int) = (n : Int) := by rw [IntKind.wrap_u64]; omega
  have HL : Hid (labB n v = ((⟨#[98]⟩ : ByteArray) ++ bytesOf (leL 8 n)) ++ bytesOf (leL 8 v)) := Lib.hid rfl
  have h1 : (bytesOf (leL 8 n)).size = 8 := by rw [bytesOf_size, leL_len]
  have h2 : (bytesOf (leL 8 v)).size = 8 := by rw [bytesOf_size, leL_len]
  generalize labB n v = L at HL ⊢
  generalize bytesOf (leL 8 n) = A at C1 HL h1
  generalize bytesOf (leL 8 v) = B at C2 HL h2
  have no1 : ¬ 9223372036854775807 < 1 + A.size := by omega
  have no2 : ¬ 9223372036854775807 < 1 + A.size + B.size := by omega
  clear h1 h2
  go_enter Tryz.func25, Tryz.ntmps25
  go_wp2_with fail
  refine (C1.out _).mono ?_
  rintro e w2 ⟨rfl, t2⟩
  go_wp2_with fail
  refine (C2.out _).mono ?_
  rintro e w3 ⟨rfl, t3⟩
  go_wp2_with fail
  go_ret
  exact ⟨by rw [HL.out]; rfl, t2.trans' t3⟩
set_option maxRecDepth 100000 in
theorem rnoughts_any (w : World) (n : Nat) (hn : n = 16 ∨ n = 448 ∨ n = 512) : Calls Tryz.prog 31 #[.int .i64 (n : Int)] w fun e w' => e = .returned (.string (zB n)) ∧ Touch [] w w' := by
  have hmk : (Instr.makeSlice 36 (.int .i64 (n : Int)) (.int .i64 (n : Int))).run Tryz.prog w = .ok (.slice (some ⟨w.heap.size, 0, none⟩) n n) (w.alloc (.cells (bcells (List.replicate n 0)).toArray 5)) := by rcases hn with rfl | rfl | rfl <;> kernel_rfl
  have hb : Bytes (List.replicate n 0) := fun x hx => by rw [List.eq_of_mem_replicate hx]; decide
  have cv := conv_at (P := Tryz.prog) (src := 36) (dst := 9) (e := 5) (At.new w 5 (bcells (List.replicate n 0))) hb n n (List.length_replicate ..) Tryz.u8sT Tryz.underlying5 Tryz.underlying9
  have HZ : Hid (zB n = bytesOf (List.replicate n 0)) := Lib.hid rfl
  generalize bytesOf (List.replicate n 0) = z at cv HZ
  generalize (bcells (List.replicate n 0)).toArray = arr at hmk cv
  clear hn hb
  go_enter Tryz.func31, Tryz.ntmps31
  go_wp2
  go_ret
  exact ⟨by rw [HZ.out]; rfl, (Touch.refl [] w).alloc _⟩
end Go.Proofs.YtodehmognjofhaaGreat

namespace Go.Proofs.YtodehmognjofhaaGreat
open Go.RowKit

def okP (c m : ByteArray) (num : Int) (s : ByteArray) : Prop := mayK c m ∧ 0 ≤ num ∧ s.size = 448
instance (c m : ByteArray) (num : Int) (s : ByteArray) : Decidable (okP c m num s) := by unfold okP; infer_instance
/-- the sealed text. -/
def slB (c m : ByteArray) (nn n v : Nat) (s : ByteArray) : ByteArray := bytesOf (sealF (bsOf c) (bsOf m) nn (bsOf (labB n v)) (bsOf s))
def secB (c m : ByteArray) (nn n v : Nat) (s : ByteArray) : ByteArray := (bytesOf (leL 8 v) ++ slB c m nn n v s) ++ zB 16
def packS (c m : ByteArray) (nn : Nat) (num : Int) (v : Nat) (s : ByteArray) : ByteArray := if okP c m num s then secB c m nn num.toNat v s else ⟨#[]⟩
def packC (c m : ByteArray) (num : Int) (s : ByteArray) : Int := if okP c m num s then 0 else 2
theorem slB_size (c m : ByteArray) (nn n v : Nat) (s : ByteArray) (hs : s.size = 448) : (slB c m nn n v s).size = 488 := by
  unfold slB sealF
  rw [bytesOf_size, List.length_append, bodyF_len, tagF_len, bsOf_len, hs]
set_option maxRecDepth 100000 in
set_option maxHeartbeats 1600000 in
theorem rpack_ok (w : World) (c m : ByteArray) (nn n v : Nat) (s : ByteArray) (hk : mayK c m) (hs : s.size = 448) (hn : n < 9223372036854775808) (hv : v < 18446744073709551616) : Calls Tryz.prog 9 #[.agg #[.string c, .string m], .int .u64 (nn : Int), .int .i64 (n : Int), .int .u64 (v : Int), .string s] w fun e w' =>
    e = .returned (.tuple #[.string (secB c m nn n v s), .int .i64 0]) ∧ Touch [] w w' := by
  have CM := Lib.hid fun W => rkmay_any W c m
  rw [decide_eq_true hk] at CM
  have CL := Lib.hid fun W => rlabel_any W n v hn hv
  have CS : Hid (∀ W, Calls Tryz.prog 28 #[.agg #[.string c, .string m], .int .u64 (nn : Int), .string (labB n v), .string s] W fun e w' => e = .returned (.tuple #[.string (slB c m nn n v s), .int .i64 0]) ∧ Touch [] W w') := Lib.hid fun W => rseal_any W c m nn (labB n v) s hk (by omega) (by rw [labB_size]; omega)
  have CN := Lib.hid fun W => rnum_any W v 8 hv (.inr (.inr rfl))
  have CZ := Lib.hid fun W => rnoughts_any W 16 (.inl rfl)
  have hsz := slB_size c m nn n v s hs
  have h8 : (bytesOf (leL 8 v)).size = 8 := by rw [bytesOf_size, leL_len]
  have hz16 := zB_size 16
  have HX : Hid (secB c m nn n v s = (bytesOf (leL 8 v) ++ slB c m nn n v s) ++ zB 16) := Lib.hid rfl
  generalize secB c m nn n v s = R at HX ⊢
  generalize slB c m nn n v s = S at CS HX hsz
  generalize bytesOf (leL 8 v) = V at CN HX h8
  generalize zB 16 = Z at CZ HX hz16
  generalize labB n v = L at CL CS
  have no1 : ¬ 9223372036854775807 < V.size + S.size := by omega
  have no2 : ¬ 9223372036854775807 < V.size + S.size + Z.size := by omega
  have hsi : (s.size : Int) = 448 := by omega
  have n0 : ¬ (n : Int) < 0 := by omega
  clear hsz h8 hz16 hk hs
  have HK := Lib.hid (At.new w 30 [.string c, .string m])
  go_enter Tryz.func9, Tryz.ntmps9
  go_wp2_with fail
  refine (CM.out _).mono ?_
  rintro e w2 ⟨rfl, t2⟩
  have T2 := Lib.hid (((Touch.refl [] w).alloc (.cells #[.string c, .string m] 30)).trans' t2)
  have HK2 := Lib.hid (HK.out.touch t2 (by simp))
  clear t2 HK CM
  go_upto_region 3 with (fail)
  have c0 : w2.cell? ⟨w.heap.size, 0, none⟩ = some (.string c) := HK2.out.cell 0
  have c1 : w2.cell? ⟨w.heap.size, 1, none⟩ = some (.string m) := HK2.out.cell 1
  go_region_held3 (fun W => W.cell? ⟨w.heap.size, 0, none⟩ = some (.string c) ∧ W.cell? ⟨w.heap.size, 1, none⟩ = some (.string m)) (first | assumption | go_keep) (first | (go_at_call 29; refine (CL.out _).mono ?_; rintro e w5 ⟨rfl, t5⟩; have HK5 := Lib.hid (HK2.out.drew.touch t5 (by simp)); have T5 := Lib.hid (T2.out.drew.trans' t5); clear t5; have hK5 : w5.cell? ⟨w.heap.size, 0, none⟩ = some (.string c) ∧ w5.cell? ⟨w.heap.size, 1, none⟩ = some (.string m) := ⟨HK5.out.cell 0, HK5.out.cell 1⟩) | (go_at_call 28; refine (CS.out _).mono ?_; rintro e w6 ⟨rfl, t6⟩; have HK6 := Lib.hid (HK5.out.touch t6 (by simp)); have T6 := Lib.hid (T5.out.trans' t6); clear t6; have hK6 : w6.cell? ⟨w.heap.size, 0, none⟩ = some (.string c) ∧ w6.cell? ⟨w.heap.size, 1, none⟩ = some (.string m) := ⟨HK6.out.cell 0, HK6.out.cell 1⟩))
  go_wp2_with fail
  refine (CN.out _).mono ?_
  rintro e w7 ⟨rfl, t7⟩
  have T7 := Lib.hid (T6.out.trans' t7)
  clear t7 CN
  go_wp2_with fail
  refine (CZ.out _).mono ?_
  rintro e w8 ⟨rfl, t8⟩
  have T8 := Lib.hid (T7.out.trans' t8)
  clear t8 CZ
  go_wp2_with fail
  go_ret2
  exact ⟨by rw [HX.out]; rfl, T8.out⟩
set_option maxRecDepth 100000 in
set_option maxHeartbeats 1600000 in
theorem rpack_any (w : World) (c m : ByteArray) (nn : Nat) (num : Int) (v : Nat) (s : ByteArray) (hm : num < 9223372036854775808) (hv : v < 18446744073709551616) : Calls Tryz.prog 9 #[.agg #[.string c, .string m], .int .u64 (nn : Int), .int .i64 num, .int .u64 (v : Int), .string s] w fun e w' =>
    e = .returned (.tuple #[.string (packS c m nn num v s), .int .i64 (packC c m num s)]) ∧ Touch [] w w' := by
  by_cases h1 : mayK c m
  · have CM := Lib.hid fun W => rkmay_any W c m
    rw [decide_eq_true h1] at CM
    by_cases h2 : 0 ≤ num
    · by_cases h3 : s.size = 448
      · obtain ⟨n, rfl⟩ : ∃ n : Nat, num = (n : Int) := ⟨num.toNat, by omega⟩
        have ho : okP c m (n : Int) s := ⟨h1, h2, h3⟩
        rw [show packS c m nn (n : Int) v s = secB c m nn n v s from if_pos ho, show packC c m (n : Int) s = 0 from if_pos ho]
        exact rpack_ok w c m nn n v s h1 h3 (by omega) hv
      · have HR : Hid (packS c m nn num v s = ⟨#[]⟩ ∧ packC c m num s = 2) := Lib.hid ⟨if_neg fun h => h3 h.2.2, if_neg fun h => h3 h.2.2⟩
        have n0 : ¬ num < 0 := by omega
        have hsi : ¬ (s.size : Int) = 448 := by omega
        have hsb : ((s.size : Int) != 448) = true := bne_iff_ne.2 hsi
        clear h1
        go_enter Tryz.func9, Tryz.ntmps9
        go_wp2_with (go_at_call 27; refine (CM.out _).mono ?_; rintro e w2 ⟨rfl, t2⟩)
        go_ret2
        exact ⟨by rw [HR.out.1, HR.out.2]; rfl, ((Touch.refl [] w).alloc _).trans' t2⟩
    · have HR : Hid (packS c m nn num v s = ⟨#[]⟩ ∧ packC c m num s = 2) := Lib.hid ⟨if_neg fun h => h2 h.2.1, if_neg fun h => h2 h.2.1⟩
      have n0 : num < 0 := by omega
      clear h1
      go_enter Tryz.func9, Tryz.ntmps9
      go_wp2_with (go_at_call 27; refine (CM.out _).mono ?_; rintro e w2 ⟨rfl, t2⟩)
      go_ret2
      exact ⟨by rw [HR.out.1, HR.out.2]; rfl, ((Touch.refl [] w).alloc _).trans' t2⟩
  · have CM := Lib.hid fun W => rkmay_any W c m
    rw [decide_eq_false h1] at CM
    have HR : Hid (packS c m nn num v s = ⟨#[]⟩ ∧ packC c m num s = 2) := Lib.hid ⟨if_neg fun h => h1 h.1, if_neg fun h => h1 h.1⟩
    clear h1
    go_enter Tryz.func9, Tryz.ntmps9
    go_wp2_with (go_at_call 27; refine (CM.out _).mono ?_; rintro e w2 ⟨rfl, t2⟩)
    go_ret2
    exact ⟨by rw [HR.out.1, HR.out.2]; rfl, ((Touch.refl [] w).alloc _).trans' t2⟩
end Go.Proofs.YtodehmognjofhaaGreat
