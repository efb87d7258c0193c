/-
  The program's reader of bytes.
-/
import Derived.Test.YtodehmognjofhaaGreatQJA
import Derived.Test.YtodehmognjofhaaGreatQNTurn3
namespace Go.Proofs.YtodehmognjofhaaGreat
open Go.RowKit

theorem touch_dset (w : World) (n rb o : Nat) (v : Value) : Touch [rb] w ((w.drewN n).setCell ⟨rb, o, none⟩ v) := ((Touch.refl [rb] w).drewN n).setCell ⟨rb, o, none⟩ (.inl (by simp)) v
def rdJ (s : ByteArray) (a f : Int) : List Value := [.string s, .int .i64 a, .int .i64 f, .bool true]
theorem jnew_any (w : World) (s : ByteArray) : Calls Tryz.prog 47 #[.string s] w fun e w' => ∃ rb, e = .returned (.pointer (some ⟨rb, 0, none⟩)) ∧ w.heap.size ≤ rb ∧ Touch [] w w' ∧ At w' rb 142 (rdJ s 0 0) := by
  go_enter Tryz.func47, Tryz.ntmps47
  go_wp2
  go_ret
  exact ⟨_, rfl, Nat.le_refl _, (Touch.refl [] w).alloc _, At.new' w _ (by kernel_rfl)⟩
section
variable {w : World} {rb : Nat} {s : ByteArray} {a f : Int} (hR : At w rb 142 (rdJ s a f))
include hR
theorem rdc : w.cell? ⟨rb, 0, none⟩ = some (.string s) ∧ w.cell? ⟨rb, 1, none⟩ = some (.int .i64 a) ∧ w.cell? ⟨rb, 2, none⟩ = some (.int .i64 f) ∧ w.cell? ⟨rb, 3, none⟩ = some (.bool true) := ⟨hR.cell 0, hR.cell 1, hR.cell 2, hR.cell 3⟩
end
set_option maxRecDepth 100000 in
theorem jbytes_bad (w : World) (rb : Nat) (s : ByteArray) (a f n : Int) (hf : f ≠ 0) (hR : At w rb 142 (rdJ s a f)) :
    Calls Tryz.prog 49 #[.pointer (some ⟨rb, 0, none⟩), .int .i64 n] w fun e w' => e = .returned (.string ByteArray.empty) ∧ w' = w := by
  obtain ⟨c0, c1, c2, c3⟩ := rdc hR
  have hfb : (f != 0) = true := by simpa using hf
  clear hR
  go_enter Tryz.func49, Tryz.ntmps49
  go_wp2
  go_ret
  exact ⟨rfl, rfl⟩
set_option maxRecDepth 100000 in
theorem jbytes_short (w : World) (rb : Nat) (s : ByteArray) (a : Nat) (n : Int) (hn : 0 ≤ n) (ha : a ≤ s.size) (hs : s.size < 1099511627776) (hl : (s.size : Int) - a < n) (hR : At w rb 142 (rdJ s a 0)) :
    Calls Tryz.prog 49 #[.pointer (some ⟨rb, 0, none⟩), .int .i64 n] w fun e w' => e = .returned (.string ByteArray.empty) ∧ Touch [rb] w w' ∧ At w' rb 142 (rdJ s a 50) := by
  obtain ⟨c0, c1, c2, c3⟩ := rdc hR
  have fr := fun o => hR.frozen o
  have j1 : IntKind.i64.wrap ((s.size : Int) - (a : Int)) = (s.size : Int) - (a : Int) := IntWalk.i64_in _ (by omega)
  have j2 : ¬ n < 0 := by omega
  have HR := Lib.hid hR
  clear hR
  go_enter Tryz.func49, Tryz.ntmps49
  go_wp2
  go_quiet (fail)
  go_wp2
  go_ret
  exact ⟨rfl, touch_dset w _ rb _ _, (show At (w.drewN _) _ _ _ from HR.out).set 2 (.int .i64 50)⟩
set_option maxRecDepth 100000 in
theorem jbytes_ok (w : World) (rb : Nat) (s : ByteArray) (a n : Nat) (hs : s.size < 1099511627776) (hl : a + n ≤ s.size) (hR : At w rb 142 (rdJ s a 0)) :
    Calls Tryz.prog 49 #[.pointer (some ⟨rb, 0, none⟩), .int .i64 (n : Int)] w fun e w' => e = .returned (.string (s.extract a (a + n))) ∧ Touch [rb] w w' ∧ At w' rb 142 (rdJ s ((a + n : Nat) : Int) 0) := by
  obtain ⟨c0, c1, c2, c3⟩ := rdc hR
  have fr := fun o => hR.frozen o
  have j1 : IntKind.i64.wrap ((s.size : Int) - (a : Int)) = (s.size : Int) - (a : Int) := IntWalk.i64_in _ (by omega)
  have j2 : ¬ (n : Int) < 0 := by omega
  have j3 : ¬ (s.size : Int) - (a : Int) < (n : Int) := by omega
  have j4 : IntKind.i64.wrap ((a : Int) + (n : Int)) = ((a + n : Nat) : Int) := by rw [IntWalk.i64_in _ (by omega)]; omega
  have j5 : IntKind.i64.wrap (((a + n : Nat) : Int) - (n : Int)) = (a : Int) := by rw [IntWalk.i64_in _ (by omega)]; omega
  have j6 : (a : Int) ≤ ((a + n : Nat) : Int) := by omega
  have j7 : ((a + n : Nat) : Int) ≤ (s.size : Int) := by omega
  have j8 : (0 : Int) ≤ (a : Int) := by omega
  have HR := Lib.hid hR
  clear hR
  go_enter Tryz.func49, Tryz.ntmps49
  go_wp2
  go_quiet (fail)
  go_wp2
  go_quiet (fail)
  go_wp2
  go_ret
  exact ⟨rfl, (touch_dset w _ rb _ _).drewN _, (show At (w.drewN _) _ _ _ from HR.out).set 1 (.int .i64 ((a + n : Nat) : Int))⟩
end Go.Proofs.YtodehmognjofhaaGreat

namespace Go.Proofs.YtodehmognjofhaaGreat
open Go.RowKit

theorem leV_take_succ : ∀ (l : List Nat) (k : Nat), k < l.length → leV (l.take (k + 1)) = leV (l.take k) + l.getD k 0 * 2 ^ (8 * k)
  | [], k, h => by simp at h
  | a :: l, 0, _ => by simp [leV]
  | a :: l, k + 1, h => by
    have ih := leV_take_succ l k (by simpa using h)
    rw [List.take_succ_cons, List.take_succ_cons]
    show a + 256 * leV (l.take (k + 1)) = a + 256 * leV (l.take k) + l.getD k 0 * 2 ^ (8 * (k + 1))
    rw [ih, show 8 * (k + 1) = 8 * k + 8 by omega, Nat.pow_add, Nat.mul_add, ← Nat.mul_assoc (l.getD k 0), Nat.mul_comm _ (2 ^ 8), Nat.add_assoc]
theorem leV_take_lt {l : List Nat} (h : Bytes l) (k : Nat) : leV (l.take k) < 2 ^ (8 * k) := by
  have h1 := leV_lt (l.take k) fun x hx => h x (List.mem_of_mem_take hx)
  rw [List.length_take] at h1
  have h2 : (256 : Nat) ^ min k l.length ≤ 256 ^ k := Nat.pow_le_pow_right (by decide) (Nat.min_le_left _ _)
  rw [Nat.pow_mul]
  exact Nat.lt_of_lt_of_le h1 h2
theorem or_shl (a c k : Nat) (h : a < 2 ^ k) : a ||| (c * 2 ^ k) = a + c * 2 ^ k := by
  have := Nat.shiftLeft_add_eq_or_of_lt h c
  rw [Nat.shiftLeft_eq] at this
  rw [Nat.or_comm, ← this, Nat.add_comm]
/-- one byte more. -/
theorem get_step {l : List Nat} (hb : Bytes l) {k : Nat} (hk : k < l.length) (h8 : k < 8) : bits .or .u64 ((leV (l.take k) : Nat) : Int) (IntKind.u64.wrap (((l.getD k 0 : Nat) : Int) * 2 ^ (8 * k))) = ((leV (l.take (k + 1)) : Nat) : Int) := by
  have h1 := leV_take_lt hb k
  have h2 := getD_lt hb (by decide) k
  have h3 : (2 : Nat) ^ (8 * k) ≤ 2 ^ 56 := Nat.pow_le_pow_right (by decide) (by omega)
  have h4 : l.getD k 0 * 2 ^ (8 * k) ≤ 255 * 2 ^ 56 := Nat.mul_le_mul (by omega) h3
  have h5 := leV_take_succ l k hk
  rw [← or_shl _ _ _ h1] at h5
  rw [h5]
  generalize l.getD k 0 = c at h4 ⊢
  generalize leV (l.take k) = x at h1 ⊢
  have e : IntKind.u64.wrap ((c : Int) * 2 ^ (8 * k)) = ((c * 2 ^ (8 * k) : Nat) : Int) := by
    have : ((c : Int) * 2 ^ (8 * k)) = ((c * 2 ^ (8 * k) : Nat) : Int) := by simp
    rw [this, IntKind.wrap_u64]
    omega
  rw [e, bits_or_u64_nat _ _ (by omega) (by omega)]
set_option maxRecDepth 100000 in
set_option maxHeartbeats 1600000 in
theorem get64_of {R : World → Prop} (hst : ∀ w w', R w → Touch [] w w' → R w') (w : World) (rb : Nat) (n : Int) (y : ByteArray) (hy : y.size ≤ 8)
    (C : Calls Tryz.prog 49 #[.pointer (some ⟨rb, 0, none⟩), .int .i64 n] w fun e w' => e = .returned (.string y) ∧ R w') :
    Calls Tryz.prog 86 #[.pointer (some ⟨rb, 0, none⟩), .int .i64 n] w fun e w' => e = .returned (.int .u64 (leV (bsOf y) : Nat)) ∧ R w' := by
  have hb := bsOf_bytes y
  have hyl := bsOf_len y
  go_enter Tryz.func86, Tryz.ntmps86
  go_wp2_with (go_at_call 49; refine C.mono ?_; clear C; rintro e w2 ⟨rfl, hR⟩; have hcv := run_bytes_of_string (P := Tryz.prog) w2 9 36 5 y Tryz.underlying9 Tryz.underlying36 Tryz.underlying5; have hcap := grownCap_ge w2 y.size 0 5; have HR := Lib.hid (rowZ_bytes w2 y (grownCap w2 y.size 0 5) 5 hcap); generalize bytesRow y (grownCap w2 y.size 0 5) = row at hcv HR; generalize grownCap w2 y.size 0 5 = cap at hcv hcap)
  have HRR := Lib.hid hR
  clear hR hcv
  go_loopw [5, 13] (fun x i wr => ∃ k : Nat, k ≤ y.size ∧ i = .int .i64 (k : Int) ∧ x = .int .u64 ((leV ((bsOf y).take k) : Nat) : Int) ∧ Touch [] w2 wr ∧ Hid (RowZ wr w2.heap.size 5 (bcells (bsOf y)))) (fun _ i _ => y.size - (intOf i).toNat)
  case atStart => exact ⟨0, Nat.zero_le _, rfl, rfl, ((Touch.refl [] w2).alloc _).drew, HR⟩
  case round =>
    obtain ⟨k, hk, rfl, rfl, tr, HA⟩ := hrel
    by_cases hkn : k < y.size
    · have hki : (k : Int) < (y.size : Int) := by omega
      have j0 : (0 : Int) ≤ (k : Int) := by omega
      have j2 : IntKind.i64.wrap (8 * (k : Int)) = ((8 * k : Nat) : Int) := by rw [IntWalk.i64_in _ (by omega)]; omega
      have j4 : IntKind.u64.wrap ((8 * k : Nat) : Int) = ((8 * k : Nat) : Int) := by rw [IntKind.wrap_u64]; omega
      have c0 := HA.out.cell (i := k) (bcells_get (getD_some (by omega)))
      have st := get_step hb (k := k) (by omega) (by omega)
      have hg := getD_lt hb (by decide) k
      have j5 : IntKind.u64.wrap (((bsOf y).getD k 0 : Nat) : Int) = (((bsOf y).getD k 0 : Nat) : Int) := by rw [IntKind.wrap_u64]; omega
      generalize leV ((bsOf y).take k) = x1 at st
      generalize (bsOf y).getD k 0 = c at c0 st hg j5
      go_wp2
      refine ⟨⟨k + 1, by omega, rfl, rfl, tr, HA⟩, by simp [intOf]; omega⟩
    · have hki : ¬ (k : Int) < (y.size : Int) := by omega
      obtain rfl : k = y.size := by omega
      rw [List.take_of_length_le (by omega)]
      go_wp2
      go_ret
      exact ⟨rfl, hst _ _ HRR.out tr⟩
set_option maxRecDepth 100000 in
set_option maxHeartbeats 1600000 in
theorem get32_of {R : World → Prop} (hst : ∀ w w', R w → Touch [] w w' → R w') (w : World) (rb : Nat) (n : Int) (y : ByteArray) (hy : y.size ≤ 4)
    (C : Calls Tryz.prog 49 #[.pointer (some ⟨rb, 0, none⟩), .int .i64 n] w fun e w' => e = .returned (.string y) ∧ R w') :
    Calls Tryz.prog 88 #[.pointer (some ⟨rb, 0, none⟩), .int .i64 n] w fun e w' => e = .returned (.int .u32 (leV (bsOf y) : Nat)) ∧ R w' := by
  have hb := bsOf_bytes y
  have hyl := bsOf_len y
  go_enter Tryz.func88, Tryz.ntmps88
  go_wp2_with (go_at_call 49; refine C.mono ?_; clear C; rintro e w2 ⟨rfl, hR⟩; have hcv := run_bytes_of_string (P := Tryz.prog) w2 9 36 5 y Tryz.underlying9 Tryz.underlying36 Tryz.underlying5; have hcap := grownCap_ge w2 y.size 0 5; have HR := Lib.hid (rowZ_bytes w2 y (grownCap w2 y.size 0 5) 5 hcap); generalize bytesRow y (grownCap w2 y.size 0 5) = row at hcv HR; generalize grownCap w2 y.size 0 5 = cap at hcv hcap)
  have HRR := Lib.hid hR
  clear hR hcv
  go_loopw [5, 13] (fun x i wr => ∃ k : Nat, k ≤ y.size ∧ i = .int .i64 (k : Int) ∧ x = .int .u64 ((leV ((bsOf y).take k) : Nat) : Int) ∧ Touch [] w2 wr ∧ Hid (RowZ wr w2.heap.size 5 (bcells (bsOf y)))) (fun _ i _ => y.size - (intOf i).toNat)
  case atStart => exact ⟨0, Nat.zero_le _, rfl, rfl, ((Touch.refl [] w2).alloc _).drew, HR⟩
  case round =>
    obtain ⟨k, hk, rfl, rfl, tr, HA⟩ := hrel
    by_cases hkn : k < y.size
    · have hki : (k : Int) < (y.size : Int) := by omega
      have j0 : (0 : Int) ≤ (k : Int) := by omega
      have j2 : IntKind.i64.wrap (8 * (k : Int)) = ((8 * k : Nat) : Int) := by rw [IntWalk.i64_in _ (by omega)]; omega
      have j4 : IntKind.u64.wrap ((8 * k : Nat) : Int) = ((8 * k : Nat) : Int) := by rw [IntKind.wrap_u64]; omega
      have c0 := HA.out.cell (i := k) (bcells_get (getD_some (by omega)))
      have st := get_step hb (k := k) (by omega) (by omega)
      have hg := getD_lt hb (by decide) k
      have j5 : IntKind.u64.wrap (((bsOf y).getD k 0 : Nat) : Int) = (((bsOf y).getD k 0 : Nat) : Int) := by rw [IntKind.wrap_u64]; omega
      generalize leV ((bsOf y).take k) = x1 at st
      generalize (bsOf y).getD k 0 = c at c0 st hg j5
      go_wp2
      refine ⟨⟨k + 1, by omega, rfl, rfl, tr, HA⟩, by simp [intOf]; omega⟩
    · have hki : ¬ (k : Int) < (y.size : Int) := by omega
      obtain rfl : k = y.size := by omega
      rw [List.take_of_length_le (by omega)]
      have hv := leV_lt (bsOf y) hb
      have hv2 : leV (bsOf y) < 4294967296 := Nat.lt_of_lt_of_le hv (Nat.le_trans (Nat.pow_le_pow_right (by decide) (show (bsOf y).length ≤ 4 by omega)) (by decide))
      have jm : ((leV (bsOf y) : Nat) : Int) % 4294967296 = ((leV (bsOf y) : Nat) : Int) := by omega
      go_wp2
      go_ret
      exact ⟨rfl, hst _ _ HRR.out tr⟩
set_option maxRecDepth 100000 in
set_option maxHeartbeats 1600000 in
theorem get16_of {R : World → Prop} (hst : ∀ w w', R w → Touch [] w w' → R w') (w : World) (rb : Nat) (n : Int) (y : ByteArray) (hy : y.size ≤ 2)
    (C : Calls Tryz.prog 49 #[.pointer (some ⟨rb, 0, none⟩), .int .i64 n] w fun e w' => e = .returned (.string y) ∧ R w') :
    Calls Tryz.prog 87 #[.pointer (some ⟨rb, 0, none⟩), .int .i64 n] w fun e w' => e = .returned (.int .u16 (leV (bsOf y) : Nat)) ∧ R w' := by
  have hb := bsOf_bytes y
  have hyl := bsOf_len y
  go_enter Tryz.func87, Tryz.ntmps87
  go_wp2_with (go_at_call 49; refine C.mono ?_; clear C; rintro e w2 ⟨rfl, hR⟩; have hcv := run_bytes_of_string (P := Tryz.prog) w2 9 36 5 y Tryz.underlying9 Tryz.underlying36 Tryz.underlying5; have hcap := grownCap_ge w2 y.size 0 5; have HR := Lib.hid (rowZ_bytes w2 y (grownCap w2 y.size 0 5) 5 hcap); generalize bytesRow y (grownCap w2 y.size 0 5) = row at hcv HR; generalize grownCap w2 y.size 0 5 = cap at hcv hcap)
  have HRR := Lib.hid hR
  clear hR hcv
  go_loopw [5, 13] (fun x i wr => ∃ k : Nat, k ≤ y.size ∧ i = .int .i64 (k : Int) ∧ x = .int .u64 ((leV ((bsOf y).take k) : Nat) : Int) ∧ Touch [] w2 wr ∧ Hid (RowZ wr w2.heap.size 5 (bcells (bsOf y)))) (fun _ i _ => y.size - (intOf i).toNat)
  case atStart => exact ⟨0, Nat.zero_le _, rfl, rfl, ((Touch.refl [] w2).alloc _).drew, HR⟩
  case round =>
    obtain ⟨k, hk, rfl, rfl, tr, HA⟩ := hrel
    by_cases hkn : k < y.size
    · have hki : (k : Int) < (y.size : Int) := by omega
      have j0 : (0 : Int) ≤ (k : Int) := by omega
      have j2 : IntKind.i64.wrap (8 * (k : Int)) = ((8 * k : Nat) : Int) := by rw [IntWalk.i64_in _ (by omega)]; omega
      have j4 : IntKind.u64.wrap ((8 * k : Nat) : Int) = ((8 * k : Nat) : Int) := by rw [IntKind.wrap_u64]; omega
      have c0 := HA.out.cell (i := k) (bcells_get (getD_some (by omega)))
      have st := get_step hb (k := k) (by omega) (by omega)
      have hg := getD_lt hb (by decide) k
      have j5 : IntKind.u64.wrap (((bsOf y).getD k 0 : Nat) : Int) = (((bsOf y).getD k 0 : Nat) : Int) := by rw [IntKind.wrap_u64]; omega
      generalize leV ((bsOf y).take k) = x1 at st
      generalize (bsOf y).getD k 0 = c at c0 st hg j5
      go_wp2
      refine ⟨⟨k + 1, by omega, rfl, rfl, tr, HA⟩, by simp [intOf]; omega⟩
    · have hki : ¬ (k : Int) < (y.size : Int) := by omega
      obtain rfl : k = y.size := by omega
      rw [List.take_of_length_le (by omega)]
      have hv := leV_lt (bsOf y) hb
      have hv2 : leV (bsOf y) < 65536 := Nat.lt_of_lt_of_le hv (Nat.le_trans (Nat.pow_le_pow_right (by decide) (show (bsOf y).length ≤ 2 by omega)) (by decide))
      have jm : IntKind.u16.wrap ((leV (bsOf y) : Nat) : Int) = ((leV (bsOf y) : Nat) : Int) := by rw [IntKind.wrap_u16]; omega
      go_wp2
      go_ret
      exact ⟨rfl, hst _ _ HRR.out tr⟩
end Go.Proofs.YtodehmognjofhaaGreat

namespace Go.Proofs.YtodehmognjofhaaGreat
open Go.RowKit

def rdR (s : ByteArray) (a f : Int) : List Value := [.string s, .int .i64 a, .int .i64 f]
set_option maxRecDepth 100000 in
theorem rbytes_ok (w : World) (rb : Nat) (s : ByteArray) (a n : Nat) (hs : s.size < 1099511627776) (hl : a + n ≤ s.size) (hR : At w rb 103 (rdR s a 0)) :
    Calls Tryz.prog 89 #[.pointer (some ⟨rb, 0, none⟩), .int .i64 (n : Int)] w fun e w' => e = .returned (.string (s.extract a (a + n))) ∧ Touch [rb] w w' ∧ At w' rb 103 (rdR s ((a + n : Nat) : Int) 0) := by
  have c0 : w.cell? ⟨rb, 0, none⟩ = some (.string s) := hR.cell 0
  have c1 : w.cell? ⟨rb, 1, none⟩ = some (.int .i64 (a : Int)) := hR.cell 1
  have c2 : w.cell? ⟨rb, 2, none⟩ = some (.int .i64 0) := hR.cell 2
  have fr := fun o => hR.frozen o
  have j1 : IntKind.i64.wrap ((s.size : Int) - (a : Int)) = (s.size : Int) - (a : Int) := IntWalk.i64_in _ (by omega)
  have j2 : ¬ (n : Int) < 0 := by omega
  have j3 : ¬ (s.size : Int) - (a : Int) < (n : Int) := by omega
  have j4 : IntKind.i64.wrap ((a : Int) + (n : Int)) = ((a + n : Nat) : Int) := by rw [IntWalk.i64_in _ (by omega)]; omega
  have j6 : (a : Int) ≤ ((a + n : Nat) : Int) := by omega
  have j7 : ((a + n : Nat) : Int) ≤ (s.size : Int) := by omega
  have j8 : (0 : Int) ≤ (a : Int) := by omega
  have HR := Lib.hid hR
  clear hR
  go_enter Tryz.func89, Tryz.ntmps89
  go_wp2
  go_quiet (fail)
  go_wp2
  go_quiet (fail)
  go_wp2
  go_ret
  exact ⟨rfl, touch_dset w _ rb _ _, (show At (w.drewN _) _ _ _ from HR.out).set 1 (.int .i64 ((a + n : Nat) : Int))⟩
theorem leV_drop {l : List Nat} {k : Nat} (h : k < l.length) : leV (l.drop k) = l.getD k 0 + 256 * leV (l.drop (k + 1)) := by
  rw [List.drop_eq_getElem_cons h, List.getD_eq_getElem?_getD, List.getElem?_eq_getElem h]; rfl
set_option maxRecDepth 100000 in
set_option maxHeartbeats 1600000 in
theorem rrnum_any (w : World) (rb : Nat) (s : ByteArray) (a n : Nat) (hs : s.size < 1099511627776) (hl : a + n ≤ s.size) (hn : n ≤ 8) (hR : At w rb 103 (rdR s a 0)) :
    Calls Tryz.prog 54 #[.pointer (some ⟨rb, 0, none⟩), .int .i64 (n : Int)] w fun e w' => e = .returned (.int .u64 (leV (((bsOf s).drop a).take n) : Nat)) ∧ Touch [rb] w w' ∧ At w' rb 103 (rdR s ((a + n : Nat) : Int) 0) := by
  have C := rbytes_ok w rb s a n hs hl hR
  have hex := bsOf_extract s a (a + n)
  rw [Nat.add_sub_cancel_left] at hex
  have hxl : (s.extract a (a + n)).size = n := by rw [← bsOf_len, hex, List.length_take, List.length_drop, bsOf_len]; omega
  rw [← hex]
  generalize s.extract a (a + n) = y at C hxl
  clear hex hl hR
  subst hxl
  have hb := bsOf_bytes y
  have hyl := bsOf_len y
  go_enter Tryz.func54, Tryz.ntmps54
  have j0 : IntKind.i64.wrap ((y.size : Int) - 1) = (y.size : Int) - 1 := IntWalk.i64_in _ (by omega)
  go_wp2_with (go_at_call 89; refine C.mono ?_; clear C; rintro e w2 ⟨rfl, t2, hR2⟩)
  have HR2 := Lib.hid hR2
  clear hR2
  go_loopw [6, 7] (fun x i wr => wr = w2 ∧ ∃ k : Nat, k ≤ y.size ∧ i = .int .i64 ((k : Int) - 1) ∧ x = .int .u64 ((leV ((bsOf y).drop k) : Nat) : Int)) (fun _ i _ => (intOf i + 1).toNat)
  case atStart => exact ⟨rfl, y.size, Nat.le_refl _, rfl, by rw [List.drop_of_length_le (by omega)]; rfl⟩
  case round =>
    obtain ⟨rfl, k, hk, rfl, rfl⟩ := hrel
    by_cases hk0 : 0 < k
    · have hki : (0 : Int) ≤ (k : Int) - 1 := by omega
      obtain ⟨m, rfl⟩ : ∃ m, k = m + 1 := ⟨k - 1, by omega⟩
      have hm : ((m + 1 : Nat) : Int) - 1 = (m : Int) := by omega
      rw [hm] at hki ⊢
      have hms : m < y.size := by omega
      have hmi : (m : Int) < (y.size : Int) := by omega
      have h1 := leV_drop (l := bsOf y) (k := m) (by omega)
      have h2 := leV_lt ((bsOf y).drop (m + 1)) fun x hx => hb x (List.mem_of_mem_drop hx)
      have h3 : leV ((bsOf y).drop (m + 1)) < 72057594037927936 := Nat.lt_of_lt_of_le h2 (by
        rw [List.length_drop]
        exact Nat.le_trans (Nat.pow_le_pow_right (by decide) (show (bsOf y).length - (m + 1) ≤ 7 by omega)) (by decide))
      have hg := getD_lt hb (by decide) m
      have c0 : (y[m]'hms).toNat = (bsOf y).getD m 0 := (bsJ_at y hms).symm
      have st : bits .or .u64 (((leV ((bsOf y).drop (m + 1)) : Nat) : Int) * 256) (IntKind.u64.wrap (((bsOf y).getD m 0 : Nat) : Int)) = ((leV ((bsOf y).drop m) : Nat) : Int) := by
        rw [h1]
        generalize leV ((bsOf y).drop (m + 1)) = x at h3 ⊢
        generalize (bsOf y).getD m 0 = c at hg ⊢
        have e : IntKind.u64.wrap (c : Int) = (c : Int) := by rw [IntKind.wrap_u64]; omega
        have e2 : (x : Int) * 256 = ((x * 2 ^ 8 : Nat) : Int) := by omega
        rw [e, e2, bits_or_u64_nat _ _ (by omega) (by omega), Nat.or_comm, or_shl c x 8 (by omega)]
        congr 1; omega
      go_wp2
      have e3 : ∀ h, (bsOf y)[m]'h = (bsOf y).getD m 0 := fun h => by rw [List.getD_eq_getElem?_getD, List.getElem?_eq_getElem h]; rfl
      refine ⟨⟨trivial, m, by omega, rfl, ?_⟩, by simp [intOf]⟩
      rw [e3, st]
    · have hki : ¬ (0 : Int) ≤ (k : Int) - 1 := by omega
      obtain rfl : k = 0 := by omega
      go_wp2
      go_ret
      exact ⟨rfl, t2, HR2.out⟩
end Go.Proofs.YtodehmognjofhaaGreat

namespace Go.Proofs.YtodehmognjofhaaGreat
open Go.RowKit

theorem jU64_of {R : World → Prop} (hst : ∀ w w', R w → Touch [] w w' → R w') (w : World) (rb : Nat) (y : ByteArray) (hy : y.size ≤ 8)
    (C : Calls Tryz.prog 49 #[.pointer (some ⟨rb, 0, none⟩), .int .i64 8] w fun e w' => e = .returned (.string y) ∧ R w') :
    Calls Tryz.prog 48 #[.pointer (some ⟨rb, 0, none⟩)] w fun e w' => e = .returned (.int .u64 (leV (bsOf y) : Nat)) ∧ R w' := by
  have D := get64_of hst w rb 8 y hy C
  clear C
  go_enter Tryz.func48, Tryz.ntmps48
  go_wp2_with (go_at_call 86; refine D.mono ?_; clear D; rintro e w2 ⟨rfl, hR⟩)
  go_ret
  exact ⟨rfl, hR⟩
theorem jU32_of {R : World → Prop} (hst : ∀ w w', R w → Touch [] w w' → R w') (w : World) (rb : Nat) (y : ByteArray) (hy : y.size ≤ 4)
    (C : Calls Tryz.prog 49 #[.pointer (some ⟨rb, 0, none⟩), .int .i64 4] w fun e w' => e = .returned (.string y) ∧ R w') :
    Calls Tryz.prog 53 #[.pointer (some ⟨rb, 0, none⟩)] w fun e w' => e = .returned (.int .u32 (leV (bsOf y) : Nat)) ∧ R w' := by
  have D := get32_of hst w rb 4 y hy C
  clear C
  go_enter Tryz.func53, Tryz.ntmps53
  go_wp2_with (go_at_call 88; refine D.mono ?_; clear D; rintro e w2 ⟨rfl, hR⟩)
  go_ret
  exact ⟨rfl, hR⟩
theorem jU16_of {R : World → Prop} (hst : ∀ w w', R w → Touch [] w w' → R w') (w : World) (rb : Nat) (y : ByteArray) (hy : y.size ≤ 2)
    (C : Calls Tryz.prog 49 #[.pointer (some ⟨rb, 0, none⟩), .int .i64 2] w fun e w' => e = .returned (.string y) ∧ R w') :
    Calls Tryz.prog 50 #[.pointer (some ⟨rb, 0, none⟩)] w fun e w' => e = .returned (.int .u16 (leV (bsOf y) : Nat)) ∧ R w' := by
  have D := get16_of hst w rb 2 y hy C
  clear C
  go_enter Tryz.func50, Tryz.ntmps50
  go_wp2_with (go_at_call 87; refine D.mono ?_; clear D; rintro e w2 ⟨rfl, hR⟩)
  go_ret
  exact ⟨rfl, hR⟩
theorem jrest_any (w : World) (rb : Nat) (s : ByteArray) (a : Nat) (f : Int) (ha : a ≤ s.size) (hR : At w rb 142 (rdJ s a f)) :
    Calls Tryz.prog 51 #[.pointer (some ⟨rb, 0, none⟩)] w fun e w' => e = .returned (.string (s.extract a s.size)) ∧ Touch [] w w' := by
  obtain ⟨c0, c1, c2, c3⟩ := rdc hR
  have j1 : (a : Int) ≤ (s.size : Int) := by omega
  have j2 : (0 : Int) ≤ (a : Int) := by omega
  clear hR
  go_enter Tryz.func51, Tryz.ntmps51
  go_wp2
  go_quiet (fail)
  go_wp2
  go_ret
  exact ⟨rfl, (Touch.refl _ w).drewN _⟩
theorem jfault_any (w : World) (rb : Nat) (s : ByteArray) (a f : Int) (hR : At w rb 142 (rdJ s a f)) :
    Calls Tryz.prog 52 #[.pointer (some ⟨rb, 0, none⟩)] w fun e w' => e = .returned (.int .i64 f) ∧ Touch [] w w' := by
  obtain ⟨c0, c1, c2, c3⟩ := rdc hR
  clear hR
  go_enter Tryz.func52, Tryz.ntmps52
  go_wp2
  go_ret
  exact ⟨rfl, Touch.refl _ w⟩
end Go.Proofs.YtodehmognjofhaaGreat

namespace Go.Proofs.YtodehmognjofhaaGreat
open Go.RowKit

def stA (s : ByteArray) (a : Nat) (f : Int) (n : Nat) : Nat := if f = 0 ∧ a + n ≤ s.size then a + n else a
def stF (s : ByteArray) (a : Nat) (f : Int) (n : Nat) : Int := if f = 0 then (if a + n ≤ s.size then 0 else 50) else f
def stY (s : ByteArray) (a : Nat) (f : Int) (n : Nat) : ByteArray := if f = 0 ∧ a + n ≤ s.size then s.extract a (a + n) else ByteArray.empty
theorem stA_le {s : ByteArray} {a : Nat} (f : Int) (n : Nat) (h : a ≤ s.size) : stA s a f n ≤ s.size := by unfold stA; split <;> omega
theorem stY_size (s : ByteArray) (a : Nat) (f : Int) (n : Nat) : (stY s a f n).size ≤ n := by
  unfold stY
  split
  · rw [ByteArray.size_extract]; omega
  · exact Nat.zero_le _
/-- the reader as it stands behind a call. -/
def RdAt (w : World) (rb : Nat) (s : ByteArray) (a : Nat) (f : Int) (w' : World) : Prop := Touch [rb] w w' ∧ At w' rb 142 (rdJ s a f)
theorem RdAt.stable {w : World} {rb : Nat} {s : ByteArray} {a : Nat} {f : Int} : ∀ x y, RdAt w rb s a f x → Touch [] x y → RdAt w rb s a f y :=
  fun _ _ h t => ⟨h.1.trans t (by simp), h.2.touch t (by simp)⟩
theorem jbytes_any (w : World) (rb : Nat) (s : ByteArray) (a : Nat) (f : Int) (n : Nat) (ha : a ≤ s.size) (hs : s.size < 1099511627776) (hR : At w rb 142 (rdJ s a f)) :
    Calls Tryz.prog 49 #[.pointer (some ⟨rb, 0, none⟩), .int .i64 (n : Int)] w fun e w' => e = .returned (.string (stY s a f n)) ∧ RdAt w rb s (stA s a f n) (stF s a f n) w' := by
  by_cases hf : f = 0
  · subst hf
    by_cases hl : a + n ≤ s.size
    · refine (jbytes_ok w rb s a n hs hl hR).mono ?_
      rintro e w' ⟨rfl, t, h⟩
      unfold stY stA stF
      rw [if_pos ⟨rfl, hl⟩, if_pos ⟨rfl, hl⟩, if_pos rfl, if_pos hl]
      exact ⟨rfl, t, h⟩
    · refine (jbytes_short w rb s a n (by omega) ha hs (by omega) hR).mono ?_
      rintro e w' ⟨rfl, t, h⟩
      unfold stY stA stF
      rw [if_neg (fun h => hl h.2), if_neg (fun h => hl h.2), if_pos rfl, if_neg hl]
      exact ⟨rfl, t, h⟩
  · refine (jbytes_bad w rb s a f n hf hR).mono ?_
    rintro e w' ⟨rfl, rfl⟩
    unfold stY stA stF
    rw [if_neg (fun h => hf h.1), if_neg (fun h => hf h.1), if_neg hf]
    exact ⟨rfl, Touch.refl _ _, hR⟩
theorem jU64_any (w : World) (rb : Nat) (s : ByteArray) (a : Nat) (f : Int) (ha : a ≤ s.size) (hs : s.size < 1099511627776) (hR : At w rb 142 (rdJ s a f)) :
    Calls Tryz.prog 48 #[.pointer (some ⟨rb, 0, none⟩)] w fun e w' => e = .returned (.int .u64 (leV (bsOf (stY s a f 8)) : Nat)) ∧ RdAt w rb s (stA s a f 8) (stF s a f 8) w' :=
  jU64_of RdAt.stable w rb _ (stY_size _ _ _ _) (jbytes_any w rb s a f 8 ha hs hR)
theorem jU32_any (w : World) (rb : Nat) (s : ByteArray) (a : Nat) (f : Int) (ha : a ≤ s.size) (hs : s.size < 1099511627776) (hR : At w rb 142 (rdJ s a f)) :
    Calls Tryz.prog 53 #[.pointer (some ⟨rb, 0, none⟩)] w fun e w' => e = .returned (.int .u32 (leV (bsOf (stY s a f 4)) : Nat)) ∧ RdAt w rb s (stA s a f 4) (stF s a f 4) w' :=
  jU32_of RdAt.stable w rb _ (stY_size _ _ _ _) (jbytes_any w rb s a f 4 ha hs hR)
theorem jU16_any (w : World) (rb : Nat) (s : ByteArray) (a : Nat) (f : Int) (ha : a ≤ s.size) (hs : s.size < 1099511627776) (hR : At w rb 142 (rdJ s a f)) :
    Calls Tryz.prog 50 #[.pointer (some ⟨rb, 0, none⟩)] w fun e w' => e = .returned (.int .u16 (leV (bsOf (stY s a f 2)) : Nat)) ∧ RdAt w rb s (stA s a f 2) (stF s a f 2) w' :=
  jU16_of RdAt.stable w rb _ (stY_size _ _ _ _) (jbytes_any w rb s a f 2 ha hs hR)
end Go.Proofs.YtodehmognjofhaaGreat
