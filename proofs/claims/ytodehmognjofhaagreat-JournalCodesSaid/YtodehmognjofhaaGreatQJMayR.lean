/-
  May a record be: the document's answer.
-/
import Derived.Test.YtodehmognjofhaaGreatQJMay
namespace Go.Proofs.YtodehmognjofhaaGreat
open Go.RowKit

set_option maxRecDepth 100000 in
set_option maxHeartbeats 16000000 in
theorem rmay_any (w : World) (v : Value) (R : RecJ) (h : RecV w v R) : Calls Tryz.prog 46 #[v] w fun e w' => e = .returned (.bool (decide (mayR R))) ∧ Touch [] w w' := by
  obtain ⟨a, n, cap, rfl, hN⟩ := h
  have hlen := hN.len
  obtain ⟨ep, root, sum, bl⟩ := R
  simp only at hlen hN ⊢
  have HN := Lib.hid hN
  clear hN
  have bad : ¬ mayR ⟨ep, root, sum, bl⟩ → Hid (decide (mayR ⟨ep, root, sum, bl⟩) = false) := fun h => Lib.hid (decide_eq_false h)
  by_cases h1 : ep = 0
  · have hb := bad fun h => h.1 h1
    have h1i : (ep : Int) = 0 := by omega
    go_enter Tryz.func46, Tryz.ntmps46
    go_wp2
    go_ret
    exact ⟨by rw [hb.out]; rfl, (Touch.refl _ w).alloc _⟩
  by_cases h2 : root.size = 32
  rotate_left
  · have hb := bad fun h => h2 h.2.1
    have h1i : ¬ (ep : Int) = 0 := by omega
    have h2i : ¬ (root.size : Int) = 32 := by omega
    go_enter Tryz.func46, Tryz.ntmps46
    go_wp2
    go_ret
    exact ⟨by rw [hb.out]; rfl, (Touch.refl _ w).alloc _⟩
  by_cases h3 : sum.size = 32
  rotate_left
  · have hb := bad fun h => h3 h.2.2.1
    have h1i : ¬ (ep : Int) = 0 := by omega
    have h2i : (root.size : Int) = 32 := by omega
    have h3i : ¬ (sum.size : Int) = 32 := by omega
    go_enter Tryz.func46, Tryz.ntmps46
    go_wp2
    go_ret
    exact ⟨by rw [hb.out]; rfl, (Touch.refl _ w).alloc _⟩
  by_cases h4 : n ≤ 32
  rotate_left
  · have hb := bad fun h => h4 (by have := h.2.2.2.1; simp only at this; omega)
    have h1i : ¬ (ep : Int) = 0 := by omega
    have h2i : (root.size : Int) = 32 := by omega
    have h3i : (sum.size : Int) = 32 := by omega
    have h4i : (32 : Int) < (n : Int) := by omega
    go_enter Tryz.func46, Tryz.ntmps46
    go_wp2
    go_ret
    exact ⟨by rw [hb.out]; rfl, (Touch.refl _ w).alloc _⟩
  have h1i : ¬ (ep : Int) = 0 := by omega
  have h2i : (root.size : Int) = 32 := by omega
  have h3i : (sum.size : Int) = 32 := by omega
  have h4i : ¬ (32 : Int) < (n : Int) := by omega
  have good : Hid ((decide (mayR ⟨ep, root, sum, bl⟩) = true) = okTo bl n) := Lib.hid (by
    rw [decide_eq_true_eq]
    refine propext ⟨fun h => by rw [← hlen]; exact h.2.2.2.2, fun h => ⟨h1, h2, h3, by simp only; omega, by simp only; rw [hlen]; exact h⟩⟩)
  generalize decide (mayR ⟨ep, root, sum, bl⟩) = D at good
  clear bad
  go_enter Tryz.func46, Tryz.ntmps46
  go_wp2
  go_loopw [3] (fun i wr => Touch [] w wr ∧ Hid (At wr w.heap.size 40 [.int .u64 (ep : Int), .string root, .string sum, .slice a n cap]) ∧ ∃ k : Nat, k ≤ n ∧ i = .int .i64 (k : Int) ∧ Hid (okTo bl k)) (fun i _ => n - (intOf i).toNat)
  case atStart => exact ⟨(Touch.refl _ w).alloc _, Lib.hid (At.new w _ _), 0, Nat.zero_le _, rfl, Lib.hid (okTo_zero _)⟩
  case round =>
    obtain ⟨tr, HB, k, hk, rfl, HO⟩ := hrel
    have cB : wr.cell? ⟨w.heap.size, 3, none⟩ = some (.slice a n cap) := HB.out.cell 3
    by_cases hkn : k < n
    · have hki : (k : Int) < (n : Int) := by omega
      have j0 : (0 : Int) ≤ (k : Int) := by omega
      obtain ⟨b, off, rfl, -, hc⟩ := (HN.out.touch tr).at_ (by omega)
      have c0 := hc k hkn
      have st := okTo_succ bl k
      have hno : ¬ okTo bl (k + 1) → Hid (D = false) := fun h => Lib.hid (by
        rw [Bool.eq_false_iff]; intro hd
        have := (good.out ▸ hd : okTo bl n)
        exact h (okTo_mono this (by omega)))
      by_cases g1 : bl.getD k 0 < 0
      · have HD := hno fun h => by have := (st.1 h).2.1; omega
        clear st hno hc
        generalize bl.getD k 0 = z at c0 g1
        go_wp2
        go_quiet (fail)
        go_wp2
        go_ret
        exact ⟨by rw [HD.out]; rfl, tr.drewN _⟩
      · by_cases g2 : 16384 ≤ bl.getD k 0
        · have HD := hno fun h => by have := (st.1 h).2.2.1; omega
          clear st hno hc
          generalize bl.getD k 0 = z at c0 g1 g2
          have d1 : decide (z < 0) = false := decide_eq_false g1
          have d2 : decide (16384 ≤ z) = true := decide_eq_true g2
          clear g1 g2 HO HN
          go_wp2
          go_quiet (fail)
          go_wp2
          go_ret
          exact ⟨by rw [HD.out]; rfl, tr.drewN _⟩
        · by_cases g3 : k = 0
          · subst g3
            have HG := Lib.hid (st.2 ⟨HO.out, by omega, by omega, fun h => absurd h (by omega)⟩)
            clear st hno hc
            rw [Nat.add_zero] at c0
            generalize bl.getD 0 0 = z at c0 g1 g2
            have d1 : decide (z < 0) = false := decide_eq_false g1
            have d2 : decide (16384 ≤ z) = false := decide_eq_false g2
            clear g1 g2
            go_wp2
            go_quiet (fail)
            go_wp2
            exact ⟨⟨tr.drewN _, HB, 1, by omega, rfl, HG⟩, by simp [intOf]; omega⟩
          · have g3i : (0 : Int) < (k : Int) := by omega
            obtain ⟨m, rfl⟩ : ∃ m, k = m + 1 := ⟨k - 1, by omega⟩
            have c1 := hc m (by omega)
            have hm : IntKind.i64.wrap (((m + 1 : Nat) : Int) - 1) = (m : Int) := by rw [IntWalk.i64_in _ (by omega)]; omega
            have j1 : (0 : Int) ≤ (m : Int) := by omega
            have hmi : (m : Int) < (n : Int) := by omega
            have d3 : decide ((0 : Int) < ((m + 1 : Nat) : Int)) = true := decide_eq_true g3i
            rw [Nat.add_sub_cancel] at st
            by_cases g4 : bl.getD (m + 1) 0 ≤ bl.getD m 0
            · have HD := hno fun h => by have := (st.1 h).2.2.2 (by omega); omega
              clear st hno hc
              generalize bl.getD (m + 1) 0 = z at c0 g1 g2 g4
              generalize bl.getD m 0 = y at c1 g4
              have d1 : decide (z < 0) = false := decide_eq_false g1
              have d2 : decide (16384 ≤ z) = false := decide_eq_false g2
              have d4 : decide (z ≤ y) = true := decide_eq_true g4
              clear g1 g2 g4 HO
              go_wp2
              go_quiet (fail)
              go_wp2
              go_ret
              exact ⟨by rw [HD.out]; rfl, tr.drewN _⟩
            · have HG := Lib.hid (st.2 ⟨HO.out, by omega, by omega, fun _ => by omega⟩)
              clear st hno hc
              generalize bl.getD (m + 1) 0 = z at c0 g1 g2 g4
              generalize bl.getD m 0 = y at c1 g4
              have d1 : decide (z < 0) = false := decide_eq_false g1
              have d2 : decide (16384 ≤ z) = false := decide_eq_false g2
              have d4 : decide (z ≤ y) = false := decide_eq_false g4
              clear g1 g2 g4 HO
              go_wp2
              go_quiet (fail)
              go_wp2
              exact ⟨⟨tr.drewN _, HB, m + 1 + 1, by omega, rfl, HG⟩, by simp [intOf]; omega⟩
    · have hki : ¬ (k : Int) < (n : Int) := by omega
      obtain rfl : k = n := by omega
      have hD : D = true := by rw [good.out]; exact HO.out
      have HD := Lib.hid hD
      clear hD
      go_wp2
      go_ret
      exact ⟨by rw [HD.out]; rfl, tr⟩
end Go.Proofs.YtodehmognjofhaaGreat
