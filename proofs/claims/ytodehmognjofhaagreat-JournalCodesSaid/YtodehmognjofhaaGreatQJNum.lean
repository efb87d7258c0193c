/-
  Numbers as bytes, the lowest first: the document's.
-/
import Derived.Test.YtodehmognjofhaaGreatQJSpec
namespace Go.Proofs.YtodehmognjofhaaGreat
open Go.RowKit

set_option maxRecDepth 100000 in
set_option maxHeartbeats 1600000 in
theorem rnum_any (w : World) (x n : Nat) (_hx : x < 18446744073709551616) (hn : n = 2 ∨ n = 4 ∨ n = 8) : Calls Tryz.prog 30 #[.int .u64 (x : Int), .int .i64 (n : Int)] w fun e w' => e = .returned (.string (bytesOf (leL n x))) ∧ Touch [] w w' := by
  have hmk : (Instr.makeSlice 36 (.int .i64 (n : Int)) (.int .i64 (n : Int))).run Tryz.prog w = .ok (.slice (some ⟨w.heap.size, 0, none⟩) n n) (w.alloc (.cells (bcells (List.replicate n 0)).toArray 5)) := by rcases hn with rfl | rfl | rfl <;> kernel_rfl
  have hn8 : n ≤ 8 := by omega
  clear hn
  go_enter Tryz.func30, Tryz.ntmps30
  go_wp2
  clear hmk
  go_loopw [6] (fun i wr => ∃ k : Nat, k ≤ n ∧ i = .int .i64 (k : Int) ∧ Touch [] w wr ∧ Hid (At wr w.heap.size 5 (bcells (sofar (leL n x) k)))) (fun i _ => n - (intOf i).toNat)
  case atStart => exact ⟨0, by omega, rfl, (Touch.refl [] w).alloc _, Lib.hid (At.new' w _ (by rw [sofar_zero, leL_len]))⟩
  case round =>
    obtain ⟨k, hk', rfl, tr, HA⟩ := hrel
    by_cases hk8 : k < n
    · have hki : (k : Int) < (n : Int) := by omega
      have j0 : (0 : Int) ≤ (k : Int) := by omega
      have j2 : IntKind.i64.wrap (8 * (k : Int)) = ((8 * k : Nat) : Int) := by rw [IntWalk.i64_in _ (by omega)]; omega
      have j4 : IntKind.u64.wrap ((8 * k : Nat) : Int) = ((8 * k : Nat) : Int) := by rw [IntKind.wrap_u64]; omega
      obtain ⟨x0, cL⟩ := sofar_get (leL n x) k (by rw [leL_len]; exact hk8)
      rw [← HA.out.cell] at cL
      have fr := fun o => HA.out.frozen o
      go_wp2
      have ex : ((x : Int) / 2 ^ (8 * k) % 256) = (((leL n x).getD k 0 : Nat) : Int) := by rw [leL_get x hk8]; simp
      rw [ex]
      refine ⟨⟨k + 1, by omega, rfl, tr.setCell _ (.inr (by simp)) _, Lib.hid ?_⟩, by simp [intOf]; omega⟩
      have h := HA.out.set k (.int .u8 (((leL n x).getD k 0 : Nat) : Int))
      rw [sofar_set _ _ _ (by rw [leL_len]; exact hk8) rfl] at h
      exact h
    · have hki : ¬ (k : Int) < (n : Int) := by omega
      obtain rfl : k = n := by omega
      have h8 := HA.out
      have e8 : sofar (leL k x) k = leL k x := by
        have := sofar_all (leL k x)
        rw [leL_len] at this
        exact this
      rw [e8] at h8
      have cv := conv_at (P := Tryz.prog) (src := 36) (dst := 9) (e := 5) h8 (leL_bytes _ _) k k (leL_len _ _) Tryz.u8sT Tryz.underlying5 Tryz.underlying9
      go_wp2
      go_ret
      exact ⟨rfl, tr⟩
end Go.Proofs.YtodehmognjofhaaGreat
