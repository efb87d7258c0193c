/-
  Two records alike.
-/
import Derived.Test.YtodehmognjofhaaGreatQJMayR
namespace Go.Proofs.YtodehmognjofhaaGreat
open Go.RowKit

set_option maxRecDepth 100000 in
set_option maxHeartbeats 1600000 in
theorem eq_any (w : World) (v u : Value) (R : RecJ) (h : RecV w v R) (k : RecV w u R) : Calls Tryz.prog 17 #[v, u] w fun e w' => e = .returned (.bool true) ∧ Touch [] w w' := by
  obtain ⟨a, n, cap, rfl, hN⟩ := h
  obtain ⟨a', n', cap', rfl, hN'⟩ := k
  obtain rfl : n = n' := hN.len.symm.trans hN'.len
  obtain ⟨ep, root, sum, bl⟩ := R
  have hm : (n : Int) ≤ 9223372036854775807 := by have := hN.cap_; have := hN.max; omega
  have HN := Lib.hid hN
  have HN' := Lib.hid hN'
  clear hN hN'
  simp only at HN HN' ⊢
  go_enter Tryz.func17, Tryz.ntmps17
  go_wp2
  go_loopw [5] (fun i wr => Touch [] w wr ∧ Hid (At wr w.heap.size 40 [.int .u64 (ep : Int), .string root, .string sum, .slice a n cap]) ∧ Hid (At wr (w.heap.size + 1) 40 [.int .u64 (ep : Int), .string root, .string sum, .slice a' n cap']) ∧ ∃ k : Nat, k ≤ n ∧ i = .int .i64 (k : Int)) (fun i _ => n - (intOf i).toNat)
  case atStart =>
    have h2 := At.new (w.alloc (.cells #[.int .u64 (ep : Int), .string root, .string sum, .slice a n cap] 40)) 40 [.int .u64 (ep : Int), .string root, .string sum, .slice a' n cap']
    rw [World.size_alloc] at h2
    exact ⟨((Touch.refl _ w).alloc _).alloc _, Lib.hid ((At.new w _ _).alloc _), Lib.hid h2, 0, Nat.zero_le _, rfl⟩
  case round =>
    obtain ⟨tr, HB, HB2, k, hk, rfl⟩ := hrel
    have cB : wr.cell? ⟨w.heap.size, 3, none⟩ = some (.slice a n cap) := HB.out.cell 3
    have cB2 : wr.cell? ⟨w.heap.size + 1, 3, none⟩ = some (.slice a' n cap') := HB2.out.cell 3
    by_cases hkn : k < n
    · have hki : (k : Int) < (n : Int) := by omega
      have j0 : (0 : Int) ≤ (k : Int) := by omega
      obtain ⟨b, off, rfl, -, hc⟩ := (HN.out.touch tr).at_ (by omega)
      obtain ⟨b', off', rfl, -, hc'⟩ := (HN'.out.touch tr).at_ (by omega)
      have c0 := hc k hkn
      have c1 := hc' k hkn
      clear hc hc'
      generalize bl.getD k 0 = z at c0 c1
      go_wp2
      go_quiet (fail)
      go_wp2
      exact ⟨⟨tr.drewN _, HB, HB2, k + 1, by omega, rfl⟩, by simp [intOf]; omega⟩
    · have hki : ¬ (k : Int) < (n : Int) := by omega
      go_wp2
      go_ret
      exact ⟨rfl, tr⟩
end Go.Proofs.YtodehmognjofhaaGreat
