/-
  The program's reader of numbers.
-/
import Derived.Test.YtodehmognjofhaaGreatQJRd
import Derived.Test.YtodehmognjofhaaGreatQNTurn3
namespace Go.Proofs.YtodehmognjofhaaGreat
open Go.RowKit

theorem leV_take_succ : ∀ (l : List Nat) (k : Nat), k < l.length → leV (l.take (k + 1)) = leV (l.take k) + l.getD k 0 * 2 ^ (8 * k)
  | [], k, h => by simp at h
  | a :: l, 0, _ => by simp [leV]
  | a :: l, k + 1, h => by
    have ih := leV_take_succ l k (by simpa using h)
    rw [List.take_succ_cons, List.take_succ_cons]
    show a + 256 * leV (l.take (k + 1)) = a + 256 * leV (l.take k) + l.getD k 0 * 2 ^ (8 * (k + 1))
    rw [ih, show 8 * (k + 1) = 8 * k + 8 by omega, Nat.pow_add, Nat.mul_add, ← Nat.mul_assoc (l.getD k 0), Nat.mul_comm _ (2 ^ 8), Nat.add_assoc]
theorem leV_take_lt {l : List Nat} (h : Bytes l) (k : Nat) : leV (l.take k) < 2 ^ (8 * k) := by
  have h1 := leV_lt (l.take k) fun x hx => h x (List.mem_of_mem_take hx)
  rw [List.length_take] at h1
  have h2 : (256 : Nat) ^ min k l.length ≤ 256 ^ k := Nat.pow_le_pow_right (by decide) (Nat.min_le_left _ _)
  rw [Nat.pow_mul]
  exact Nat.lt_of_lt_of_le h1 h2
theorem or_shl (a c k : Nat) (h : a < 2 ^ k) : a ||| (c * 2 ^ k) = a + c * 2 ^ k := by
  have := Nat.shiftLeft_add_eq_or_of_lt h c
  rw [Nat.shiftLeft_eq] at this
  rw [Nat.or_comm, ← this, Nat.add_comm]
/-- one byte more. -/
theorem get_step {l : List Nat} (hb : Bytes l) {k : Nat} (hk : k < l.length) (h8 : k < 8) : bits .or .u64 ((leV (l.take k) : Nat) : Int) (IntKind.u64.wrap (((l.getD k 0 : Nat) : Int) * 2 ^ (8 * k))) = ((leV (l.take (k + 1)) : Nat) : Int) := by
  have h1 := leV_take_lt hb k
  have h2 := getD_lt hb (by decide) k
  have h3 : (2 : Nat) ^ (8 * k) ≤ 2 ^ 56 := Nat.pow_le_pow_right (by decide) (by omega)
  have h4 : l.getD k 0 * 2 ^ (8 * k) ≤ 255 * 2 ^ 56 := Nat.mul_le_mul (by omega) h3
  have h5 := leV_take_succ l k hk
  rw [← or_shl _ _ _ h1] at h5
  rw [h5]
  generalize l.getD k 0 = c at h4 ⊢
  generalize leV (l.take k) = x at h1 ⊢
  have e : IntKind.u64.wrap ((c : Int) * 2 ^ (8 * k)) = ((c * 2 ^ (8 * k) : Nat) : Int) := by
    have : ((c : Int) * 2 ^ (8 * k)) = ((c * 2 ^ (8 * k) : Nat) : Int) := by simp
    rw [this, IntKind.wrap_u64]
    omega
  rw [e, bits_or_u64_nat _ _ (by omega) (by omega)]
set_option maxRecDepth 100000 in
set_option maxHeartbeats 1600000 in
theorem get64_of {R : World → Prop} (hst : ∀ w w', R w → Touch [] w w' → R w') (w : World) (rb : Nat) (n : Int) (y : ByteArray) (hy : y.size ≤ 8)
    (C : Calls Tryz.prog 49 #[.pointer (some ⟨rb, 0, none⟩), .int .i64 n] w fun e w' => e = .returned (.string y) ∧ R w') :
    Calls Tryz.prog 86 #[.pointer (some ⟨rb, 0, none⟩), .int .i64 n] w fun e w' => e = .returned (.int .u64 (leV (bsOf y) : Nat)) ∧ R w' := by
  have hb := bsOf_bytes y
  have hyl := bsOf_len y
  go_enter Tryz.func86, Tryz.ntmps86
  go_wp2_with (go_at_call 49; refine C.mono ?_; clear C; rintro e w2 ⟨rfl, hR⟩; have hcv := run_bytes_of_string (P := Tryz.prog) w2 9 36 5 y Tryz.underlying9 Tryz.underlying36 Tryz.underlying5; have hcap := grownCap_ge w2 y.size 0 5; have HR := Lib.hid (rowZ_bytes w2 y (grownCap w2 y.size 0 5) 5 hcap); generalize bytesRow y (grownCap w2 y.size 0 5) = row at hcv HR; generalize grownCap w2 y.size 0 5 = cap at hcv hcap)
  have HRR := Lib.hid hR
  clear hR hcv
  go_loopw [5, 13] (fun x i wr => ∃ k : Nat, k ≤ y.size ∧ i = .int .i64 (k : Int) ∧ x = .int .u64 ((leV ((bsOf y).take k) : Nat) : Int) ∧ Touch [] w2 wr ∧ Hid (RowZ wr w2.heap.size 5 (bcells (bsOf y)))) (fun _ i _ => y.size - (intOf i).toNat)
  case atStart => exact ⟨0, Nat.zero_le _, rfl, rfl, ((Touch.refl [] w2).alloc _).drew, HR⟩
  case round =>
    obtain ⟨k, hk, rfl, rfl, tr, HA⟩ := hrel
    by_cases hkn : k < y.size
    · have hki : (k : Int) < (y.size : Int) := by omega
      have j0 : (0 : Int) ≤ (k : Int) := by omega
      have j2 : IntKind.i64.wrap (8 * (k : Int)) = ((8 * k : Nat) : Int) := by rw [IntWalk.i64_in _ (by omega)]; omega
      have j4 : IntKind.u64.wrap ((8 * k : Nat) : Int) = ((8 * k : Nat) : Int) := by rw [IntKind.wrap_u64]; omega
      have c0 := HA.out.cell (i := k) (bcells_get (getD_some (by omega)))
      have st := get_step hb (k := k) (by omega) (by omega)
      have hg := getD_lt hb (by decide) k
      have j5 : IntKind.u64.wrap (((bsOf y).getD k 0 : Nat) : Int) = (((bsOf y).getD k 0 : Nat) : Int) := by rw [IntKind.wrap_u64]; omega
      generalize leV ((bsOf y).take k) = x1 at st
      generalize (bsOf y).getD k 0 = c at c0 st hg j5
      go_wp2
      refine ⟨⟨k + 1, by omega, rfl, rfl, tr, HA⟩, by simp [intOf]; omega⟩
    · have hki : ¬ (k : Int) < (y.size : Int) := by omega
      obtain rfl : k = y.size := by omega
      rw [List.take_of_length_le (by omega)]
      go_wp2
      go_ret
      exact ⟨rfl, hst _ _ HRR.out tr⟩
set_option maxRecDepth 100000 in
set_option maxHeartbeats 1600000 in
theorem get32_of {R : World → Prop} (hst : ∀ w w', R w → Touch [] w w' → R w') (w : World) (rb : Nat) (n : Int) (y : ByteArray) (hy : y.size ≤ 4)
    (C : Calls Tryz.prog 49 #[.pointer (some ⟨rb, 0, none⟩), .int .i64 n] w fun e w' => e = .returned (.string y) ∧ R w') :
    Calls Tryz.prog 88 #[.pointer (some ⟨rb, 0, none⟩), .int .i64 n] w fun e w' => e = .returned (.int .u32 (leV (bsOf y) : Nat)) ∧ R w' := by
  have hb := bsOf_bytes y
  have hyl := bsOf_len y
  go_enter Tryz.func88, Tryz.ntmps88
  go_wp2_with (go_at_call 49; refine C.mono ?_; clear C; rintro e w2 ⟨rfl, hR⟩; have hcv := run_bytes_of_string (P := Tryz.prog) w2 9 36 5 y Tryz.underlying9 Tryz.underlying36 Tryz.underlying5; have hcap := grownCap_ge w2 y.size 0 5; have HR := Lib.hid (rowZ_bytes w2 y (grownCap w2 y.size 0 5) 5 hcap); generalize bytesRow y (grownCap w2 y.size 0 5) = row at hcv HR; generalize grownCap w2 y.size 0 5 = cap at hcv hcap)
  have HRR := Lib.hid hR
  clear hR hcv
  go_loopw [5, 13] (fun x i wr => ∃ k : Nat, k ≤ y.size ∧ i = .int .i64 (k : Int) ∧ x = .int .u64 ((leV ((bsOf y).take k) : Nat) : Int) ∧ Touch [] w2 wr ∧ Hid (RowZ wr w2.heap.size 5 (bcells (bsOf y)))) (fun _ i _ => y.size - (intOf i).toNat)
  case atStart => exact ⟨0, Nat.zero_le _, rfl, rfl, ((Touch.refl [] w2).alloc _).drew, HR⟩
  case round =>
    obtain ⟨k, hk, rfl, rfl, tr, HA⟩ := hrel
    by_cases hkn : k < y.size
    · have hki : (k : Int) < (y.size : Int) := by omega
      have j0 : (0 : Int) ≤ (k : Int) := by omega
      have j2 : IntKind.i64.wrap (8 * (k : Int)) = ((8 * k : Nat) : Int) := by rw [IntWalk.i64_in _ (by omega)]; omega
      have j4 : IntKind.u64.wrap ((8 * k : Nat) : Int) = ((8 * k : Nat) : Int) := by rw [IntKind.wrap_u64]; omega
      have c0 := HA.out.cell (i := k) (bcells_get (getD_some (by omega)))
      have st := get_step hb (k := k) (by omega) (by omega)
      have hg := getD_lt hb (by decide) k
      have j5 : IntKind.u64.wrap (((bsOf y).getD k 0 : Nat) : Int) = (((bsOf y).getD k 0 : Nat) : Int) := by rw [IntKind.wrap_u64]; omega
      generalize leV ((bsOf y).take k) = x1 at st
      generalize (bsOf y).getD k 0 = c at c0 st hg j5
      go_wp2
      refine ⟨⟨k + 1, by omega, rfl, rfl, tr, HA⟩, by simp [intOf]; omega⟩
    · have hki : ¬ (k : Int) < (y.size : Int) := by omega
      obtain rfl : k = y.size := by omega
      rw [List.take_of_length_le (by omega)]
      have hv := leV_lt (bsOf y) hb
      have hv2 : leV (bsOf y) < 4294967296 := Nat.lt_of_lt_of_le hv (Nat.le_trans (Nat.pow_le_pow_right (by decide) (show (bsOf y).length ≤ 4 by omega)) (by decide))
      have jm : ((leV (bsOf y) : Nat) : Int) % 4294967296 = ((leV (bsOf y) : Nat) : Int) := by omega
      go_wp2
      go_ret
      exact ⟨rfl, hst _ _ HRR.out tr⟩
set_option maxRecDepth 100000 in
set_option maxHeartbeats 1600000 in
theorem get16_of {R : World → Prop} (hst : ∀ w w', R w → Touch [] w w' → R w') (w : World) (rb : Nat) (n : Int) (y : ByteArray) (hy : y.size ≤ 2)
    (C : Calls Tryz.prog 49 #[.pointer (some ⟨rb, 0, none⟩), .int .i64 n] w fun e w' => e = .returned (.string y) ∧ R w') :
    Calls Tryz.prog 87 #[.pointer (some ⟨rb, 0, none⟩), .int .i64 n] w fun e w' => e = .returned (.int .u16 (leV (bsOf y) : Nat)) ∧ R w' := by
  have hb := bsOf_bytes y
  have hyl := bsOf_len y
  go_enter Tryz.func87, Tryz.ntmps87
  go_wp2_with (go_at_call 49; refine C.mono ?_; clear C; rintro e w2 ⟨rfl, hR⟩; have hcv := run_bytes_of_string (P := Tryz.prog) w2 9 36 5 y Tryz.underlying9 Tryz.underlying36 Tryz.underlying5; have hcap := grownCap_ge w2 y.size 0 5; have HR := Lib.hid (rowZ_bytes w2 y (grownCap w2 y.size 0 5) 5 hcap); generalize bytesRow y (grownCap w2 y.size 0 5) = row at hcv HR; generalize grownCap w2 y.size 0 5 = cap at hcv hcap)
  have HRR := Lib.hid hR
  clear hR hcv
  go_loopw [5, 13] (fun x i wr => ∃ k : Nat, k ≤ y.size ∧ i = .int .i64 (k : Int) ∧ x = .int .u64 ((leV ((bsOf y).take k) : Nat) : Int) ∧ Touch [] w2 wr ∧ Hid (RowZ wr w2.heap.size 5 (bcells (bsOf y)))) (fun _ i _ => y.size - (intOf i).toNat)
  case atStart => exact ⟨0, Nat.zero_le _, rfl, rfl, ((Touch.refl [] w2).alloc _).drew, HR⟩
  case round =>
    obtain ⟨k, hk, rfl, rfl, tr, HA⟩ := hrel
    by_cases hkn : k < y.size
    · have hki : (k : Int) < (y.size : Int) := by omega
      have j0 : (0 : Int) ≤ (k : Int) := by omega
      have j2 : IntKind.i64.wrap (8 * (k : Int)) = ((8 * k : Nat) : Int) := by rw [IntWalk.i64_in _ (by omega)]; omega
      have j4 : IntKind.u64.wrap ((8 * k : Nat) : Int) = ((8 * k : Nat) : Int) := by rw [IntKind.wrap_u64]; omega
      have c0 := HA.out.cell (i := k) (bcells_get (getD_some (by omega)))
      have st := get_step hb (k := k) (by omega) (by omega)
      have hg := getD_lt hb (by decide) k
      have j5 : IntKind.u64.wrap (((bsOf y).getD k 0 : Nat) : Int) = (((bsOf y).getD k 0 : Nat) : Int) := by rw [IntKind.wrap_u64]; omega
      generalize leV ((bsOf y).take k) = x1 at st
      generalize (bsOf y).getD k 0 = c at c0 st hg j5
      go_wp2
      refine ⟨⟨k + 1, by omega, rfl, rfl, tr, HA⟩, by simp [intOf]; omega⟩
    · have hki : ¬ (k : Int) < (y.size : Int) := by omega
      obtain rfl : k = y.size := by omega
      rw [List.take_of_length_le (by omega)]
      have hv := leV_lt (bsOf y) hb
      have hv2 : leV (bsOf y) < 65536 := Nat.lt_of_lt_of_le hv (Nat.le_trans (Nat.pow_le_pow_right (by decide) (show (bsOf y).length ≤ 2 by omega)) (by decide))
      have jm : IntKind.u16.wrap ((leV (bsOf y) : Nat) : Int) = ((leV (bsOf y) : Nat) : Int) := by rw [IntKind.wrap_u16]; omega
      go_wp2
      go_ret
      exact ⟨rfl, hst _ _ HRR.out tr⟩
end Go.Proofs.YtodehmognjofhaaGreat
