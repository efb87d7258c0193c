/-
  Blocks: the law's own functions: two answers compared, keys.
-/
import Derived.Test.YtodehmognjofhaaGreatQNSF
import Derived.Test.YtodehmognjofhaaGreatQNSG
import Derived.Test.YtodehmognjofhaaGreatQEF
import Derived.Test.YtodehmognjofhaaGreatQNSX
import Derived.Test.YtodehmognjofhaaGreatQNSD
import Derived.Test.YtodehmognjofhaaGreatQNRun9
import Derived.Test.YtodehmognjofhaaGreatQReadN
import Derived.Lib.SmallJoins
import Derived.Deep.Strs
namespace Go.Proofs.YtodehmognjofhaaGreat
open Go.RowKit

set_option maxRecDepth 100000 in
set_option maxHeartbeats 1600000 in
theorem unpacks_any (w : World) (c m : ByteArray) (num : Int) (x : ByteArray) (hm : num < 9223372036854775808) : Calls Tryz.prog 10 #[.agg #[.string c, .string m], .int .i64 num, .string x] w fun e w' => e = .returned (.bool true) ∧ Touch [] w w' := by
  have C1 := Lib.hid fun W => punpack_any W c m num x hm
  have C2 := Lib.hid fun W => runpack_any W c m num x hm
  generalize unp c m num x = u at C1 C2
  obtain ⟨s, v, t, k⟩ := u
  have C1 : Hid (∀ W, Calls Tryz.prog 20 #[.agg #[.string c, .string m], .int .i64 num, .string x] W fun e w' => e = .returned (.tuple #[.string s, .int .u64 (v : Int), .string t, .int .i64 k]) ∧ Touch [] W w') := Lib.hid C1.out
  have C2 : Hid (∀ W, Calls Tryz.prog 32 #[.agg #[.string c, .string m], .int .i64 num, .string x] W fun e w' => e = .returned (.tuple #[.string s, .int .u64 (v : Int), .string t, .int .i64 k]) ∧ Touch [] W w') := Lib.hid C2.out
  have HK := Lib.hid (At.new w 30 [.string c, .string m])
  go_enter Tryz.func10, Tryz.ntmps10
  go_wp2_with fail
  refine (C1.out _).mono ?_
  rintro e w2 ⟨rfl, t2⟩
  have T2 := Lib.hid (((Touch.refl [] w).alloc (.cells #[.string c, .string m] 30)).trans' t2)
  have HK2 := Lib.hid (HK.out.touch t2 (by simp))
  have c0 : w2.cell? ⟨w.heap.size, 0, none⟩ = some (.string c) := HK2.out.cell 0
  have c1 : w2.cell? ⟨w.heap.size, 1, none⟩ = some (.string m) := HK2.out.cell 1
  clear t2 HK C1
  go_wp2_with fail
  refine (C2.out _).mono ?_
  rintro e w3 ⟨rfl, t3⟩
  go_wp2_with fail
  go_ret
  exact ⟨rfl, T2.out.trans' t3⟩
end Go.Proofs.YtodehmognjofhaaGreat

namespace Go.Proofs.YtodehmognjofhaaGreat
open Go.RowKit

def kyA (odd : Bool) : List SV := [.agg [.sym (.int .u8) 0, .bool odd, .sym (.int .u64) 1, .sym (.int .i64) 2, .sym (.int .u64) 3, .sym .str 4]]
def kyN (odd : Bool) : Nat := match odd with
  | true => 31
  | false => 32
def kyS (odd : Bool) : Smy where
  f := 8
  args := kyA odd
  blks := []
  nx0 := 5
  log := []
  v := .agg [.strs ((List.range 16).map fun _ => b8 0), .strs ((List.range (kyN odd)).map fun _ => b8 0)]
set_option maxRecDepth 1000000 in
theorem ky_run (odd : Bool) : genOk2 env0 (fun _ _ _ _ => none) 100000 0 0 (kyS odd) [] = true := by cases odd <;> decide +kernel
def keyC (kb : Nat) : ByteArray := bytesOf (List.replicate 16 kb)
def keyM (kb : Nat) (odd : Bool) : ByteArray := bytesOf (List.replicate (kyN odd) kb)
def kyV (kb nn : Nat) (num : Int) (v : Nat) (s : ByteArray) : Nat → Option Value
  | 0 => some (.int .u8 (kb : Int))
  | 1 => some (.int .u64 (nn : Int))
  | 2 => some (.int .i64 num)
  | 3 => some (.int .u64 (v : Int))
  | 4 => some (.string s)
  | _ => none
theorem is_u64n {n : Nat} (h : n < 18446744073709551616) : (SK.int .u64).is (.int .u64 (n : Int)) = true := by
  simp only [SK.is, decide_eq_true_eq, true_and]
  rw [IntKind.wrap_u64]
  omega
theorem is_i64n {n : Int} (h1 : -9223372036854775808 ≤ n) (h2 : n < 9223372036854775808) : (SK.int .i64).is (.int .i64 n) = true := by
  simp only [SK.is, decide_eq_true_eq, true_and]
  exact IntWalk.i64_in _ (by omega)
theorem rep_map (kb n : Nat) : (List.replicate n kb).map (fun (x : Nat) => Value.int .u8 (x : Int)) = (List.range n).map fun _ => Value.int .u8 (kb : Int) := by
  apply List.ext_getElem?
  intro i
  simp only [List.getElem?_map]
  by_cases h : i < n
  · rw [List.getElem?_replicate_of_lt h, List.getElem?_range h]; rfl
  · rw [List.getElem?_eq_none (by simpa using h), List.getElem?_eq_none (by simpa using h)]; rfl
set_option maxRecDepth 100000 in
theorem pkeys_any (w : World) (kb : Nat) (odd : Bool) (nn : Nat) (num : Int) (v : Nat) (s : ByteArray) (hkb : kb < 256) (hnn : nn < 18446744073709551616) (h1 : -9223372036854775808 ≤ num) (h2 : num < 9223372036854775808) (hv : v < 18446744073709551616) (hs : s.size ≤ 4096) :
    Calls Tryz.prog 8 #[.agg #[.int .u8 (kb : Int), .bool odd, .int .u64 (nn : Int), .int .i64 num, .int .u64 (v : Int), .string s]] w fun e w' => e = .returned (.agg #[.string (keyC kb), .string (keyM kb odd)]) ∧ Touch [] w w' := by
  have hd0 : denL (plOf [] (kyV kb nn num v s)) [.sym (.int .u8) 0, .bool odd, .sym (.int .u64) 1, .sym (.int .i64) 2, .sym (.int .u64) 3, .sym .str 4] = some [.int .u8 (kb : Int), .bool odd, .int .u64 (nn : Int), .int .i64 num, .int .u64 (v : Int), .string s] :=
    denL_cons.2 ⟨_, _, symD_mk (is8 hkb), denL_cons.2 ⟨_, _, den_bool _ _, denL_cons.2 ⟨_, _, symD_mk (is_u64n hnn), denL_cons.2 ⟨_, _, symD_mk (is_i64n h1 h2), denL_cons.2 ⟨_, _, symD_mk (is_u64n hv), denL_cons.2 ⟨_, _, symD_mk (by simp [SK.is]; omega), denL_nil _, rfl⟩, rfl⟩, rfl⟩, rfl⟩, rfl⟩, rfl⟩
  have hargs : denL (plOf [] (kyV kb nn num v s)) (kyA odd) = some [.agg #[.int .u8 (kb : Int), .bool odd, .int .u64 (nn : Int), .int .i64 num, .int .u64 (v : Int), .string s]] :=
    denL_cons.2 ⟨_, _, den_agg_mk (by rw [denC_of_L rfl]; exact hd0) (onc_of_one rfl), denL_nil _, rfl⟩
  refine (gen_new2 envOk (fun {_} => noI_ok _) (ky_run odd) (Nat.zero_le _) (kyV kb nn num v s) (fun b h1 _ => by
    have h1 : 5 ≤ b := h1
    match b, h1 with
    | b + 5, _ => rfl) (fun W n k e h => by rw [show (ofA (kyS odd).log).get n = none from T.get_leaf n] at h; cases h) w (bl := []) rfl (by simp) (fun x hx => by cases hx) (fun j b x hj _ => by simp at hj) hargs).mono ?_
  rintro e w' ⟨ρ', u, rfl, l1, l2, l3, -, -⟩
  have hb : ∀ n, den ρ' (.strs ((List.range n).map fun _ => b8 0)) = some (.string (bytesOf (List.replicate n kb))) := fun n => den_strs_mk (by rw [rep_map]; exact denL_map _ _ _ fun i _ => D.sym8 (l1.val 0 _ rfl) hkb) (fun x hx => by rw [List.eq_of_mem_replicate hx]; exact hkb)
  have hv' : den ρ' (kyS odd).v = some (.agg #[.string (keyC kb), .string (keyM kb odd)]) := den_agg_mk (us := [.string (keyC kb), .string (keyM kb odd)]) (by rw [denC_of_L rfl]; exact denL_cons.2 ⟨_, _, hb 16, denL_cons.2 ⟨_, _, hb (kyN odd), denL_nil _, rfl⟩, rfl⟩) (onc_of_one rfl)
  rw [hv'] at l2
  cases l2
  exact ⟨rfl, l3⟩
end Go.Proofs.YtodehmognjofhaaGreat

namespace Go.Proofs.YtodehmognjofhaaGreat
open Go.RowKit

/-- a packed block as a value. -/
def pkL (kb : Nat) (odd : Bool) (nn : Nat) (num : Int) (v : Nat) (s : ByteArray) : List Value := [.int .u8 (kb : Int), .bool odd, .int .u64 (nn : Int), .int .i64 num, .int .u64 (v : Int), .string s]
def pkV (kb : Nat) (odd : Bool) (nn : Nat) (num : Int) (v : Nat) (s : ByteArray) : Value := .agg #[.int .u8 (kb : Int), .bool odd, .int .u64 (nn : Int), .int .i64 num, .int .u64 (v : Int), .string s]
/-- its cells. -/
def pkC (w : World) (pb kb : Nat) (odd : Bool) (nn : Nat) (num : Int) (v : Nat) (s : ByteArray) : Prop := w.cell? ⟨pb, 0, none⟩ = some (.int .u8 (kb : Int)) ∧ w.cell? ⟨pb, 1, none⟩ = some (.bool odd) ∧ w.cell? ⟨pb, 2, none⟩ = some (.int .u64 (nn : Int)) ∧ w.cell? ⟨pb, 3, none⟩ = some (.int .i64 num) ∧ w.cell? ⟨pb, 4, none⟩ = some (.int .u64 (v : Int)) ∧ w.cell? ⟨pb, 5, none⟩ = some (.string s)
theorem pkC_of {w : World} {pb kb : Nat} {odd : Bool} {nn : Nat} {num : Int} {v : Nat} {s : ByteArray} (h : At w pb 24 (pkL kb odd nn num v s)) : pkC w pb kb odd nn num v s := ⟨h.cell 0, h.cell 1, h.cell 2, h.cell 3, h.cell 4, h.cell 5⟩
set_option maxRecDepth 100000 in
set_option maxHeartbeats 3200000 in
theorem packs_walk (w : World) (kb : Nat) (odd : Bool) (nn : Nat) (num : Int) (v : Nat) (s : ByteArray) (n2 : Int) (hkb : kb < 256) (hnn : nn < 18446744073709551616) (h1 : -9223372036854775808 ≤ num) (h2 : num < 9223372036854775808) (hv : v < 18446744073709551616) (hn2 : n2 < 9223372036854775808) :
    Calls Tryz.prog 3 #[pkV kb odd nn num v s, .int .i64 n2] w fun e w' => e = .returned (.bool true) ∧ Touch [] w w' := by
  have AL := Lib.hid alive09_any
  by_cases hs : s.size ≤ 4096
  rotate_left
  · have i1 : (4096 : Int) < (s.size : Int) := by omega
    unfold pkV
    go_enter Tryz.func3, Tryz.ntmps3
    go_wp2_with (go_at_call 6; refine (AL.out _).mono ?_; clear AL; rintro e w2 ⟨rfl, t2⟩)
    go_ret
    exact ⟨rfl, ((Touch.refl [] w).alloc _).trans' t2⟩
  have i1 : ¬ (4096 : Int) < (s.size : Int) := by omega
  have CK := Lib.hid fun W => pkeys_any W kb odd nn num v s hkb hnn h1 h2 hv hs
  have CP := Lib.hid fun W => ppack_any W (keyC kb) (keyM kb odd) nn num v s h2 hv
  have CQ := Lib.hid fun W => rpack_any W (keyC kb) (keyM kb odd) nn num v s h2 hv
  have CU := Lib.hid fun W => unpacks_any W (keyC kb) (keyM kb odd) n2 (packS (keyC kb) (keyM kb odd) nn num v s) hn2
  have CV := Lib.hid fun W => unpacks_any W (keyC kb) (keyM kb odd) num (packS (keyC kb) (keyM kb odd) nn num v s) h2
  generalize packS (keyC kb) (keyM kb odd) nn num v s = PS at CP CQ CU CV
  generalize packC (keyC kb) (keyM kb odd) num s = PC at CP CQ
  generalize keyC kb = kc at CK CP CQ CU CV
  generalize keyM kb odd = km at CK CP CQ CU CV
  have HP := Lib.hid (At.new w 24 (pkL kb odd nn num v s))
  have T0 := Lib.hid ((Touch.refl [] w).alloc (.cells (pkL kb odd nn num v s).toArray 24))
  unfold pkV
  clear hs hkb hnn h1 h2 hv hn2
  go_enter Tryz.func3, Tryz.ntmps3
  go_upto_region 3 with (fail)
  have c0 : (w.alloc (.cells (pkL kb odd nn num v s).toArray 24)).cell? ⟨w.heap.size, 0, none⟩ = some (.int .u8 (kb : Int)) := HP.out.cell 0
  have c1 : (w.alloc (.cells (pkL kb odd nn num v s).toArray 24)).cell? ⟨w.heap.size, 1, none⟩ = some (.bool odd) := HP.out.cell 1
  have c2 : (w.alloc (.cells (pkL kb odd nn num v s).toArray 24)).cell? ⟨w.heap.size, 2, none⟩ = some (.int .u64 (nn : Int)) := HP.out.cell 2
  have c3 : (w.alloc (.cells (pkL kb odd nn num v s).toArray 24)).cell? ⟨w.heap.size, 3, none⟩ = some (.int .i64 num) := HP.out.cell 3
  have c4 : (w.alloc (.cells (pkL kb odd nn num v s).toArray 24)).cell? ⟨w.heap.size, 4, none⟩ = some (.int .u64 (v : Int)) := HP.out.cell 4
  have c5 : (w.alloc (.cells (pkL kb odd nn num v s).toArray 24)).cell? ⟨w.heap.size, 5, none⟩ = some (.string s) := HP.out.cell 5
  go_region_held3 (fun W => W.cell? ⟨w.heap.size, 0, none⟩ = some (.int .u8 (kb : Int)) ∧ W.cell? ⟨w.heap.size, 1, none⟩ = some (.bool odd) ∧ W.cell? ⟨w.heap.size, 2, none⟩ = some (.int .u64 (nn : Int)) ∧ W.cell? ⟨w.heap.size, 3, none⟩ = some (.int .i64 num) ∧ W.cell? ⟨w.heap.size, 4, none⟩ = some (.int .u64 (v : Int)) ∧ W.cell? ⟨w.heap.size, 5, none⟩ = some (.string s)) (first | assumption | go_keep) (first | (go_at_call 8; refine (CK.out _).mono ?_; rintro e w3 ⟨rfl, t3⟩; have HP' : Hid (At w3 w.heap.size 24 (pkL kb odd nn num v s)) := Lib.hid (by first | exact HP.out.drew.touch t3 (by simp) | exact HP.out.touch t3 (by simp)); have T' : Hid (Touch [] w w3) := Lib.hid (by first | exact T0.out.drew.trans' t3 | exact T0.out.trans' t3); clear t3 HP T0; have HP := HP'; have T0 := T'; clear HP' T'; have hK3 : w3.cell? ⟨w.heap.size, 0, none⟩ = some (.int .u8 (kb : Int)) ∧ w3.cell? ⟨w.heap.size, 1, none⟩ = some (.bool odd) ∧ w3.cell? ⟨w.heap.size, 2, none⟩ = some (.int .u64 (nn : Int)) ∧ w3.cell? ⟨w.heap.size, 3, none⟩ = some (.int .i64 num) ∧ w3.cell? ⟨w.heap.size, 4, none⟩ = some (.int .u64 (v : Int)) ∧ w3.cell? ⟨w.heap.size, 5, none⟩ = some (.string s) := pkC_of HP.out) | (go_at_call 7; refine (CP.out _).mono ?_; rintro e w4 ⟨rfl, t4⟩; have HP' : Hid (At w4 w.heap.size 24 (pkL kb odd nn num v s)) := Lib.hid (by first | exact HP.out.drew.touch t4 (by simp) | exact HP.out.touch t4 (by simp)); have T' : Hid (Touch [] w w4) := Lib.hid (by first | exact T0.out.drew.trans' t4 | exact T0.out.trans' t4); clear t4 HP T0; have HP := HP'; have T0 := T'; clear HP' T'; have hK4 : w4.cell? ⟨w.heap.size, 0, none⟩ = some (.int .u8 (kb : Int)) ∧ w4.cell? ⟨w.heap.size, 1, none⟩ = some (.bool odd) ∧ w4.cell? ⟨w.heap.size, 2, none⟩ = some (.int .u64 (nn : Int)) ∧ w4.cell? ⟨w.heap.size, 3, none⟩ = some (.int .i64 num) ∧ w4.cell? ⟨w.heap.size, 4, none⟩ = some (.int .u64 (v : Int)) ∧ w4.cell? ⟨w.heap.size, 5, none⟩ = some (.string s) := pkC_of HP.out))
  go_upto_region 4 with (fail)
  clear CP c0 c1 c2 c3 c4 c5
  have c0 : w4.cell? ⟨w.heap.size, 0, none⟩ = some (.int .u8 (kb : Int)) := HP.out.cell 0
  have c1 : w4.cell? ⟨w.heap.size, 1, none⟩ = some (.bool odd) := HP.out.cell 1
  have c2 : w4.cell? ⟨w.heap.size, 2, none⟩ = some (.int .u64 (nn : Int)) := HP.out.cell 2
  have c3 : w4.cell? ⟨w.heap.size, 3, none⟩ = some (.int .i64 num) := HP.out.cell 3
  have c4 : w4.cell? ⟨w.heap.size, 4, none⟩ = some (.int .u64 (v : Int)) := HP.out.cell 4
  have c5 : w4.cell? ⟨w.heap.size, 5, none⟩ = some (.string s) := HP.out.cell 5
  go_region_held3 (fun W => W.cell? ⟨w.heap.size, 0, none⟩ = some (.int .u8 (kb : Int)) ∧ W.cell? ⟨w.heap.size, 1, none⟩ = some (.bool odd) ∧ W.cell? ⟨w.heap.size, 2, none⟩ = some (.int .u64 (nn : Int)) ∧ W.cell? ⟨w.heap.size, 3, none⟩ = some (.int .i64 num) ∧ W.cell? ⟨w.heap.size, 4, none⟩ = some (.int .u64 (v : Int)) ∧ W.cell? ⟨w.heap.size, 5, none⟩ = some (.string s)) (first | assumption | go_keep) (first | (go_at_call 8; refine (CK.out _).mono ?_; rintro e w5 ⟨rfl, t5⟩; have HP' : Hid (At w5 w.heap.size 24 (pkL kb odd nn num v s)) := Lib.hid (by first | exact HP.out.drew.touch t5 (by simp) | exact HP.out.touch t5 (by simp)); have T' : Hid (Touch [] w w5) := Lib.hid (by first | exact T0.out.drew.trans' t5 | exact T0.out.trans' t5); clear t5 HP T0; have HP := HP'; have T0 := T'; clear HP' T'; have hK5 : w5.cell? ⟨w.heap.size, 0, none⟩ = some (.int .u8 (kb : Int)) ∧ w5.cell? ⟨w.heap.size, 1, none⟩ = some (.bool odd) ∧ w5.cell? ⟨w.heap.size, 2, none⟩ = some (.int .u64 (nn : Int)) ∧ w5.cell? ⟨w.heap.size, 3, none⟩ = some (.int .i64 num) ∧ w5.cell? ⟨w.heap.size, 4, none⟩ = some (.int .u64 (v : Int)) ∧ w5.cell? ⟨w.heap.size, 5, none⟩ = some (.string s) := pkC_of HP.out) | (go_at_call 9; refine (CQ.out _).mono ?_; rintro e w6 ⟨rfl, t6⟩; have HP' : Hid (At w6 w.heap.size 24 (pkL kb odd nn num v s)) := Lib.hid (by first | exact HP.out.drew.touch t6 (by simp) | exact HP.out.touch t6 (by simp)); have T' : Hid (Touch [] w w6) := Lib.hid (by first | exact T0.out.drew.trans' t6 | exact T0.out.trans' t6); clear t6 HP T0; have HP := HP'; have T0 := T'; clear HP' T'; have hK6 : w6.cell? ⟨w.heap.size, 0, none⟩ = some (.int .u8 (kb : Int)) ∧ w6.cell? ⟨w.heap.size, 1, none⟩ = some (.bool odd) ∧ w6.cell? ⟨w.heap.size, 2, none⟩ = some (.int .u64 (nn : Int)) ∧ w6.cell? ⟨w.heap.size, 3, none⟩ = some (.int .i64 num) ∧ w6.cell? ⟨w.heap.size, 4, none⟩ = some (.int .u64 (v : Int)) ∧ w6.cell? ⟨w.heap.size, 5, none⟩ = some (.string s) := pkC_of HP.out))
  go_upto_region 7 with (fail)
  clear CQ c0 c1 c2 c3 c4 c5
  have c0 : w6.cell? ⟨w.heap.size, 0, none⟩ = some (.int .u8 (kb : Int)) := HP.out.cell 0
  have c1 : w6.cell? ⟨w.heap.size, 1, none⟩ = some (.bool odd) := HP.out.cell 1
  have c2 : w6.cell? ⟨w.heap.size, 2, none⟩ = some (.int .u64 (nn : Int)) := HP.out.cell 2
  have c3 : w6.cell? ⟨w.heap.size, 3, none⟩ = some (.int .i64 num) := HP.out.cell 3
  have c4 : w6.cell? ⟨w.heap.size, 4, none⟩ = some (.int .u64 (v : Int)) := HP.out.cell 4
  have c5 : w6.cell? ⟨w.heap.size, 5, none⟩ = some (.string s) := HP.out.cell 5
  have tok1 : True := trivial
  go_region_held3 (fun W => W.cell? ⟨w.heap.size, 0, none⟩ = some (.int .u8 (kb : Int)) ∧ W.cell? ⟨w.heap.size, 1, none⟩ = some (.bool odd) ∧ W.cell? ⟨w.heap.size, 2, none⟩ = some (.int .u64 (nn : Int)) ∧ W.cell? ⟨w.heap.size, 3, none⟩ = some (.int .i64 num) ∧ W.cell? ⟨w.heap.size, 4, none⟩ = some (.int .u64 (v : Int)) ∧ W.cell? ⟨w.heap.size, 5, none⟩ = some (.string s)) (first | assumption | go_keep) (first | (go_at_call 8; refine (CK.out _).mono ?_; rintro e w7 ⟨rfl, t7⟩; have HP' : Hid (At w7 w.heap.size 24 (pkL kb odd nn num v s)) := Lib.hid (by first | exact HP.out.drew.touch t7 (by simp) | exact HP.out.touch t7 (by simp)); have T' : Hid (Touch [] w w7) := Lib.hid (by first | exact T0.out.drew.trans' t7 | exact T0.out.trans' t7); clear t7 HP T0; have HP := HP'; have T0 := T'; clear HP' T'; have hK7 : w7.cell? ⟨w.heap.size, 0, none⟩ = some (.int .u8 (kb : Int)) ∧ w7.cell? ⟨w.heap.size, 1, none⟩ = some (.bool odd) ∧ w7.cell? ⟨w.heap.size, 2, none⟩ = some (.int .u64 (nn : Int)) ∧ w7.cell? ⟨w.heap.size, 3, none⟩ = some (.int .i64 num) ∧ w7.cell? ⟨w.heap.size, 4, none⟩ = some (.int .u64 (v : Int)) ∧ w7.cell? ⟨w.heap.size, 5, none⟩ = some (.string s) := pkC_of HP.out) | (go_at_call 10; have _t := tok1; refine (CU.out _).mono ?_; rintro e w8 ⟨rfl, t8⟩; clear _t tok1; have tok2 : True := trivial; have HP' : Hid (At w8 w.heap.size 24 (pkL kb odd nn num v s)) := Lib.hid (by first | exact HP.out.drew.touch t8 (by simp) | exact HP.out.touch t8 (by simp)); have T' : Hid (Touch [] w w8) := Lib.hid (by first | exact T0.out.drew.trans' t8 | exact T0.out.trans' t8); clear t8 HP T0; have HP := HP'; have T0 := T'; clear HP' T'; have hK8 : w8.cell? ⟨w.heap.size, 0, none⟩ = some (.int .u8 (kb : Int)) ∧ w8.cell? ⟨w.heap.size, 1, none⟩ = some (.bool odd) ∧ w8.cell? ⟨w.heap.size, 2, none⟩ = some (.int .u64 (nn : Int)) ∧ w8.cell? ⟨w.heap.size, 3, none⟩ = some (.int .i64 num) ∧ w8.cell? ⟨w.heap.size, 4, none⟩ = some (.int .u64 (v : Int)) ∧ w8.cell? ⟨w.heap.size, 5, none⟩ = some (.string s) := pkC_of HP.out) | (go_at_call 10; have _t := tok2; refine (CV.out _).mono ?_; rintro e w9 ⟨rfl, t9⟩; clear _t tok2; have tok3 : True := trivial; have HP' : Hid (At w9 w.heap.size 24 (pkL kb odd nn num v s)) := Lib.hid (by first | exact HP.out.drew.touch t9 (by simp) | exact HP.out.touch t9 (by simp)); have T' : Hid (Touch [] w w9) := Lib.hid (by first | exact T0.out.drew.trans' t9 | exact T0.out.trans' t9); clear t9 HP T0; have HP := HP'; have T0 := T'; clear HP' T'; have hK9 : w9.cell? ⟨w.heap.size, 0, none⟩ = some (.int .u8 (kb : Int)) ∧ w9.cell? ⟨w.heap.size, 1, none⟩ = some (.bool odd) ∧ w9.cell? ⟨w.heap.size, 2, none⟩ = some (.int .u64 (nn : Int)) ∧ w9.cell? ⟨w.heap.size, 3, none⟩ = some (.int .i64 num) ∧ w9.cell? ⟨w.heap.size, 4, none⟩ = some (.int .u64 (v : Int)) ∧ w9.cell? ⟨w.heap.size, 5, none⟩ = some (.string s) := pkC_of HP.out) | (go_at_call 6; refine (AL.out _).mono ?_; rintro e w10 ⟨rfl, t10⟩; have HP' : Hid (At w10 w.heap.size 24 (pkL kb odd nn num v s)) := Lib.hid (by first | exact HP.out.drew.touch t10 (by simp) | exact HP.out.touch t10 (by simp)); have T' : Hid (Touch [] w w10) := Lib.hid (by first | exact T0.out.drew.trans' t10 | exact T0.out.trans' t10); clear t10 HP T0; have HP := HP'; have T0 := T'; clear HP' T'; have hK10 : w10.cell? ⟨w.heap.size, 0, none⟩ = some (.int .u8 (kb : Int)) ∧ w10.cell? ⟨w.heap.size, 1, none⟩ = some (.bool odd) ∧ w10.cell? ⟨w.heap.size, 2, none⟩ = some (.int .u64 (nn : Int)) ∧ w10.cell? ⟨w.heap.size, 3, none⟩ = some (.int .i64 num) ∧ w10.cell? ⟨w.heap.size, 4, none⟩ = some (.int .u64 (v : Int)) ∧ w10.cell? ⟨w.heap.size, 5, none⟩ = some (.string s) := pkC_of HP.out))
  go_wp2_with fail
  go_ret
  exact ⟨rfl, T0.out⟩
end Go.Proofs.YtodehmognjofhaaGreat

namespace Go.Proofs.YtodehmognjofhaaGreat
open Go.ChangeShapes Go.WideShapes Go.ChangeAt Go.RowKit Go.Joins

structure PkR where
  kb : Nat
  odd : Bool
  nn : Nat
  num : Int
  v : Nat
  s : ByteArray
structure PkIn (v : Value) (z : PkR) : Prop where
  v : v = pkV z.kb z.odd z.nn z.num z.v z.s
  kb : z.kb < 256
  nn : z.nn < 18446744073709551616
  n1 : -9223372036854775808 ≤ z.num
  n2 : z.num < 9223372036854775808
  vv : z.v < 18446744073709551616
theorem array6 {α : Type} {cs : Array α} (h : cs.size = 6) : ∃ c0 c1 c2 c3 c4 c5, cs = #[c0, c1, c2, c3, c4, c5] := by
  obtain ⟨l⟩ := cs
  match l, h with
  | [a, b, c, d, e, f], _ => exact ⟨a, b, c, d, e, f, rfl⟩
theorem trod_struct6 {H : Type} {enc : TypeId × Value → H} {P : Program} {w : World} {base : Nat} {spare : Nat → Bool} {held : Bool} {t : TypeId} {f0 f1 f2 f3 f4 f5 : Field} {fuel : Nat} {cs : List Value} {x : DataW H × List MemPlace} (ht : P.underlying t = some (.struct #[f0, f1, f2, f3, f4, f5])) (h : DataW.trod enc P w base spare held fuel t cs = some x) :
    ∃ y0 y1 y2 y3 y4 y5 n, DataW.trod enc P w base spare held n f0.type ((cs.drop f0.offset).take (P.cellsOf f0.type)) = some y0 ∧ DataW.trod enc P w base spare held n f1.type ((cs.drop f1.offset).take (P.cellsOf f1.type)) = some y1 ∧ DataW.trod enc P w base spare held n f2.type ((cs.drop f2.offset).take (P.cellsOf f2.type)) = some y2 ∧
      DataW.trod enc P w base spare held n f3.type ((cs.drop f3.offset).take (P.cellsOf f3.type)) = some y3 ∧ DataW.trod enc P w base spare held n f4.type ((cs.drop f4.offset).take (P.cellsOf f4.type)) = some y4 ∧ DataW.trod enc P w base spare held n f5.type ((cs.drop f5.offset).take (P.cellsOf f5.type)) = some y5 := by
  obtain ⟨xs, n, _, rfl, hl, hlen, hf⟩ := DataW.trod_struct ht h
  match xs, hlen with
  | [y0, y1, y2, y3, y4, y5], _ => exact ⟨y0, y1, y2, y3, y4, y5, n, by simpa using hf 0 f0 rfl, by simpa using hf 1 f1 rfl, by simpa using hf 2 f2 rfl, by simpa using hf 3 f3 rfl, by simpa using hf 4 f4 rfl, by simpa using hf 5 f5 rfl⟩
theorem cellsPk : Tryz.prog.cellsOf 24 = 6 := by kernel_rfl
theorem cellsP0 : Tryz.prog.cellsOf 5 = 1 := by kernel_rfl
theorem cellsP1 : Tryz.prog.cellsOf 4 = 1 := by kernel_rfl
theorem cellsP2 : Tryz.prog.cellsOf 22 = 1 := by kernel_rfl
theorem cellsP3 : Tryz.prog.cellsOf 3 = 1 := by kernel_rfl
theorem cellsP5 : Tryz.prog.cellsOf 9 = 1 := by kernel_rfl
set_option maxRecDepth 100000 in
theorem read_pk {H : Type} {enc : TypeId × Value → H} {W : World} {base base2 : Nat} {spare : Nat → Bool} {held : Bool} {v : Value} {d : DataW H} {ps : List MemPlace}
    (hv : Value.okWide Tryz.prog W .any base2 24 v) (h : DataW.Trod enc Tryz.prog W base spare held 24 v d ps) : ∃ z, PkIn v z := by
  obtain ⟨cs, rfl, hsz⟩ := okWide_struct Tryz.underlying24 hv
  rw [cellsPk] at hsz
  obtain ⟨v0, v1, v2, v3, v4, v5, rfl⟩ := array6 hsz
  obtain ⟨fuel, hf⟩ := h
  have hf' : DataW.trod enc Tryz.prog W base spare held fuel 24 [v0, v1, v2, v3, v4, v5] = some (d, ps) := hf
  obtain ⟨y0, y1, y2, y3, y4, y5, m, g0, g1, g2, g3, g4, g5⟩ := trod_struct6 Tryz.underlying24 hf'
  simp only [cellsP0, cellsP1, cellsP2, cellsP3, cellsP5, List.drop_zero, List.drop_succ_cons, List.take_succ_cons, List.take_zero] at g0 g1 g2 g3 g4 g5
  obtain ⟨a0, e0, -, w0⟩ := DataW.trod_int Tryz.underlying5 g0
  obtain ⟨a1, e1, -⟩ := DataW.trod_bool Tryz.underlying4 g1
  obtain ⟨a2, e2, -, w2⟩ := DataW.trod_int Tryz.underlying22 g2
  obtain ⟨a3, e3, -, w3⟩ := DataW.trod_int Tryz.underlying3 g3
  obtain ⟨a4, e4, -, w4⟩ := DataW.trod_int Tryz.underlying22 g4
  obtain ⟨a5, e5, -, w5⟩ := DataW.trod_string Tryz.underlying9 g5
  simp only [List.cons.injEq, and_true] at e0 e1 e2 e3 e4 e5
  subst e0 e1 e2 e3 e4 e5
  have r0 := wf_u8 w0
  have r2 := wf_u64 w2
  have r3 := wf_i64 w3
  have r4 := wf_u64 w4
  obtain ⟨q0, rfl⟩ : ∃ q : Nat, a0 = (q : Int) := ⟨a0.toNat, by omega⟩
  obtain ⟨q2, rfl⟩ : ∃ q : Nat, a2 = (q : Int) := ⟨a2.toNat, by omega⟩
  obtain ⟨q4, rfl⟩ : ∃ q : Nat, a4 = (q : Int) := ⟨a4.toNat, by omega⟩
  exact ⟨⟨q0, a1, q2, a3, q4, a5⟩, rfl, by simp only; omega, by simp only; omega, r3.1, by simp only; omega, by simp only; omega⟩
end Go.Proofs.YtodehmognjofhaaGreat

namespace Go.Proofs.YtodehmognjofhaaGreat.BlockPacks
open Go.RowKit

theorem walk (v : Value) (z : PkR) (n : Int) (w : World) (h : PkIn v z) (hn : (Lit.int .i64 n).wf = true) : Calls Tryz.prog 3 #[v, .int .i64 n] w fun e w' => e = .returned (.bool true) ∧ Below w.heap.size w w' := by
  rw [h.v]
  exact (packs_walk w z.kb z.odd z.nn z.num z.v z.s n h.kb h.nn h.n1 h.n2 h.vv (by have := (wf_i64 hn).2; omega)).mono fun _ _ h => ⟨h.1, h.2.toBelow (Nat.le_refl _) (by simp)⟩
end Go.Proofs.YtodehmognjofhaaGreat.BlockPacks
