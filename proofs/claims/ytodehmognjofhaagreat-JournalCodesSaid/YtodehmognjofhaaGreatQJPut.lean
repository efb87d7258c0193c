/-
  Numbers as bytes, the lowest first: the program's.
-/
import Derived.Test.YtodehmognjofhaaGreatQJNum
namespace Go.Proofs.YtodehmognjofhaaGreat
open Go.RowKit

set_option maxRecDepth 100000 in
set_option maxHeartbeats 1600000 in
theorem put64_any (w : World) (x : Nat) (hx : x < 18446744073709551616) : Calls Tryz.prog 62 #[.int .u64 (x : Int), .int .i64 8] w fun e w' => e = .returned (.string (bytesOf (leL 8 x))) ∧ Touch [] w w' := by
  have hmk : (Instr.makeSlice 36 (.int .i64 8) (.int .i64 8)).run Tryz.prog w = .ok (.slice (some ⟨w.heap.size, 0, none⟩) 8 8) (w.alloc (.cells (bcells (List.replicate 8 0)).toArray 5)) := by kernel_rfl
  have jx : IntKind.u64.wrap (x : Int) = (x : Int) := by rw [IntKind.wrap_u64]; omega
  go_enter Tryz.func62, Tryz.ntmps62
  go_wp2
  clear hmk
  go_loopw [11] (fun i wr => ∃ k : Nat, k ≤ 8 ∧ i = .int .i64 (k : Int) ∧ Touch [] w wr ∧ Hid (At wr w.heap.size 5 (bcells (sofar (leL 8 x) k)))) (fun i _ => 8 - (intOf i).toNat)
  case atStart => exact ⟨0, by omega, rfl, (Touch.refl [] w).alloc _, Lib.hid (At.new' w _ (by rw [sofar_zero, leL_len]; rfl))⟩
  case round =>
    obtain ⟨k, hk', rfl, tr, HA⟩ := hrel
    by_cases hk8 : k < 8
    · have hki : (k : Int) < 8 := by omega
      have j0 : (0 : Int) ≤ (k : Int) := by omega
      have j2 : IntKind.i64.wrap (8 * (k : Int)) = ((8 * k : Nat) : Int) := by rw [IntWalk.i64_in _ (by omega)]; omega
      have j4 : IntKind.u64.wrap ((8 * k : Nat) : Int) = ((8 * k : Nat) : Int) := by rw [IntKind.wrap_u64]; omega
      obtain ⟨x0, cL⟩ := sofar_get (leL 8 x) k (by rw [leL_len]; exact hk8)
      rw [← HA.out.cell] at cL
      have fr := fun o => HA.out.frozen o
      go_wp2
      have ex : ((x : Int) / 2 ^ (8 * k) % 256) = (((leL 8 x).getD k 0 : Nat) : Int) := by rw [leL_get x hk8]; simp
      rw [ex]
      refine ⟨⟨k + 1, by omega, rfl, tr.setCell _ (.inr (by simp)) _, Lib.hid ?_⟩, by simp [intOf]; omega⟩
      have h := HA.out.set k (.int .u8 (((leL 8 x).getD k 0 : Nat) : Int))
      rw [sofar_set _ _ _ (by rw [leL_len]; exact hk8) rfl] at h
      exact h
    · have hki : ¬ (k : Int) < 8 := by omega
      obtain rfl : k = 8 := by omega
      have h8 := HA.out
      have e8 : sofar (leL 8 x) 8 = leL 8 x := by
        have := sofar_all (leL 8 x)
        rw [leL_len] at this
        exact this
      rw [e8] at h8
      have cv := conv_at (P := Tryz.prog) (src := 36) (dst := 9) (e := 5) h8 (leL_bytes _ _) 8 8 (leL_len _ _) Tryz.u8sT Tryz.underlying5 Tryz.underlying9
      go_wp2
      go_ret
      exact ⟨rfl, tr⟩
theorem U64_any (w : World) (x : Nat) (hx : x < 18446744073709551616) : Calls Tryz.prog 26 #[.int .u64 (x : Int)] w fun e w' => e = .returned (.string (bytesOf (leL 8 x))) ∧ Touch [] w w' := by
  have C := put64_any w x hx
  go_enter Tryz.func26, Tryz.ntmps26
  go_wp2_with (go_at_call 62; refine C.mono ?_; clear C; rintro e w2 ⟨rfl, t2⟩)
  go_ret
  exact ⟨rfl, t2⟩
set_option maxRecDepth 100000 in
set_option maxHeartbeats 1600000 in
theorem put32_any (w : World) (x : Nat) (hx : x < 4294967296) : Calls Tryz.prog 84 #[.int .u32 (x : Int), .int .i64 4] w fun e w' => e = .returned (.string (bytesOf (leL 4 x))) ∧ Touch [] w w' := by
  have hmk : (Instr.makeSlice 36 (.int .i64 4) (.int .i64 4)).run Tryz.prog w = .ok (.slice (some ⟨w.heap.size, 0, none⟩) 4 4) (w.alloc (.cells (bcells (List.replicate 4 0)).toArray 5)) := by kernel_rfl
  have jx : IntKind.u64.wrap (x : Int) = (x : Int) := by rw [IntKind.wrap_u64]; omega
  go_enter Tryz.func84, Tryz.ntmps84
  go_wp2
  clear hmk
  go_loopw [11] (fun i wr => ∃ k : Nat, k ≤ 4 ∧ i = .int .i64 (k : Int) ∧ Touch [] w wr ∧ Hid (At wr w.heap.size 5 (bcells (sofar (leL 4 x) k)))) (fun i _ => 4 - (intOf i).toNat)
  case atStart => exact ⟨0, by omega, rfl, (Touch.refl [] w).alloc _, Lib.hid (At.new' w _ (by rw [sofar_zero, leL_len]; rfl))⟩
  case round =>
    obtain ⟨k, hk', rfl, tr, HA⟩ := hrel
    by_cases hk8 : k < 4
    · have hki : (k : Int) < 4 := by omega
      have j0 : (0 : Int) ≤ (k : Int) := by omega
      have j2 : IntKind.i64.wrap (8 * (k : Int)) = ((8 * k : Nat) : Int) := by rw [IntWalk.i64_in _ (by omega)]; omega
      have j4 : IntKind.u64.wrap ((8 * k : Nat) : Int) = ((8 * k : Nat) : Int) := by rw [IntKind.wrap_u64]; omega
      obtain ⟨x0, cL⟩ := sofar_get (leL 4 x) k (by rw [leL_len]; exact hk8)
      rw [← HA.out.cell] at cL
      have fr := fun o => HA.out.frozen o
      go_wp2
      have ex : ((x : Int) / 2 ^ (8 * k) % 256) = (((leL 4 x).getD k 0 : Nat) : Int) := by rw [leL_get x hk8]; simp
      rw [ex]
      refine ⟨⟨k + 1, by omega, rfl, tr.setCell _ (.inr (by simp)) _, Lib.hid ?_⟩, by simp [intOf]; omega⟩
      have h := HA.out.set k (.int .u8 (((leL 4 x).getD k 0 : Nat) : Int))
      rw [sofar_set _ _ _ (by rw [leL_len]; exact hk8) rfl] at h
      exact h
    · have hki : ¬ (k : Int) < 4 := by omega
      obtain rfl : k = 4 := by omega
      have h8 := HA.out
      have e8 : sofar (leL 4 x) 4 = leL 4 x := by
        have := sofar_all (leL 4 x)
        rw [leL_len] at this
        exact this
      rw [e8] at h8
      have cv := conv_at (P := Tryz.prog) (src := 36) (dst := 9) (e := 5) h8 (leL_bytes _ _) 4 4 (leL_len _ _) Tryz.u8sT Tryz.underlying5 Tryz.underlying9
      go_wp2
      go_ret
      exact ⟨rfl, tr⟩
theorem U32_any (w : World) (x : Nat) (hx : x < 4294967296) : Calls Tryz.prog 44 #[.int .u32 (x : Int)] w fun e w' => e = .returned (.string (bytesOf (leL 4 x))) ∧ Touch [] w w' := by
  have C := put32_any w x hx
  go_enter Tryz.func44, Tryz.ntmps44
  go_wp2_with (go_at_call 84; refine C.mono ?_; clear C; rintro e w2 ⟨rfl, t2⟩)
  go_ret
  exact ⟨rfl, t2⟩
set_option maxRecDepth 100000 in
set_option maxHeartbeats 1600000 in
theorem put16_any (w : World) (x : Nat) (hx : x < 65536) : Calls Tryz.prog 83 #[.int .u16 (x : Int), .int .i64 2] w fun e w' => e = .returned (.string (bytesOf (leL 2 x))) ∧ Touch [] w w' := by
  have hmk : (Instr.makeSlice 36 (.int .i64 2) (.int .i64 2)).run Tryz.prog w = .ok (.slice (some ⟨w.heap.size, 0, none⟩) 2 2) (w.alloc (.cells (bcells (List.replicate 2 0)).toArray 5)) := by kernel_rfl
  have jx : IntKind.u64.wrap (x : Int) = (x : Int) := by rw [IntKind.wrap_u64]; omega
  go_enter Tryz.func83, Tryz.ntmps83
  go_wp2
  clear hmk
  go_loopw [11] (fun i wr => ∃ k : Nat, k ≤ 2 ∧ i = .int .i64 (k : Int) ∧ Touch [] w wr ∧ Hid (At wr w.heap.size 5 (bcells (sofar (leL 2 x) k)))) (fun i _ => 2 - (intOf i).toNat)
  case atStart => exact ⟨0, by omega, rfl, (Touch.refl [] w).alloc _, Lib.hid (At.new' w _ (by rw [sofar_zero, leL_len]; rfl))⟩
  case round =>
    obtain ⟨k, hk', rfl, tr, HA⟩ := hrel
    by_cases hk8 : k < 2
    · have hki : (k : Int) < 2 := by omega
      have j0 : (0 : Int) ≤ (k : Int) := by omega
      have j2 : IntKind.i64.wrap (8 * (k : Int)) = ((8 * k : Nat) : Int) := by rw [IntWalk.i64_in _ (by omega)]; omega
      have j4 : IntKind.u64.wrap ((8 * k : Nat) : Int) = ((8 * k : Nat) : Int) := by rw [IntKind.wrap_u64]; omega
      obtain ⟨x0, cL⟩ := sofar_get (leL 2 x) k (by rw [leL_len]; exact hk8)
      rw [← HA.out.cell] at cL
      have fr := fun o => HA.out.frozen o
      go_wp2
      have ex : ((x : Int) / 2 ^ (8 * k) % 256) = (((leL 2 x).getD k 0 : Nat) : Int) := by rw [leL_get x hk8]; simp
      rw [ex]
      refine ⟨⟨k + 1, by omega, rfl, tr.setCell _ (.inr (by simp)) _, Lib.hid ?_⟩, by simp [intOf]; omega⟩
      have h := HA.out.set k (.int .u8 (((leL 2 x).getD k 0 : Nat) : Int))
      rw [sofar_set _ _ _ (by rw [leL_len]; exact hk8) rfl] at h
      exact h
    · have hki : ¬ (k : Int) < 2 := by omega
      obtain rfl : k = 2 := by omega
      have h8 := HA.out
      have e8 : sofar (leL 2 x) 2 = leL 2 x := by
        have := sofar_all (leL 2 x)
        rw [leL_len] at this
        exact this
      rw [e8] at h8
      have cv := conv_at (P := Tryz.prog) (src := 36) (dst := 9) (e := 5) h8 (leL_bytes _ _) 2 2 (leL_len _ _) Tryz.u8sT Tryz.underlying5 Tryz.underlying9
      go_wp2
      go_ret
      exact ⟨rfl, tr⟩
theorem U16_any (w : World) (x : Nat) (hx : x < 65536) : Calls Tryz.prog 43 #[.int .u16 (x : Int)] w fun e w' => e = .returned (.string (bytesOf (leL 2 x))) ∧ Touch [] w w' := by
  have C := put16_any w x hx
  go_enter Tryz.func43, Tryz.ntmps43
  go_wp2_with (go_at_call 83; refine C.mono ?_; clear C; rintro e w2 ⟨rfl, t2⟩)
  go_ret
  exact ⟨rfl, t2⟩
end Go.Proofs.YtodehmognjofhaaGreat
