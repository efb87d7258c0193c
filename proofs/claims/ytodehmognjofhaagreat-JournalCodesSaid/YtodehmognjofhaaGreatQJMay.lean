/-
  May a record be: the program's answer, and the document's.
-/
import Derived.Test.YtodehmognjofhaaGreatQJRecV
import Derived.Test.YtodehmognjofhaaGreatProg
namespace Go.Proofs.YtodehmognjofhaaGreat
open Go.RowKit

def lastV (l : List Int) (k : Nat) : Int := if k = 0 then -1 else l.getD (k - 1) 0
theorem lastV_succ (l : List Int) (k : Nat) : lastV l (k + 1) = l.getD k 0 := by unfold lastV; rw [if_neg (by omega), Nat.add_sub_cancel]
theorem ok_step {l : List Int} {k : Nat} (h : okTo l k) : okTo l (k + 1) ↔ lastV l k < l.getD k 0 ∧ l.getD k 0 < 16384 := by
  rw [okTo_succ]
  unfold lastV
  by_cases hk : k = 0
  · subst hk
    simp only [if_true]
    constructor
    · rintro ⟨-, h1, h2, -⟩; exact ⟨by omega, h2⟩
    · rintro ⟨h1, h2⟩; exact ⟨h, by omega, h2, fun h => absurd h (by omega)⟩
  · rw [if_neg hk]
    have h3 := (h (k - 1) (by omega)).1
    constructor
    · rintro ⟨-, h1, h2, h4⟩; exact ⟨h4 (by omega), h2⟩
    · rintro ⟨h1, h2⟩; exact ⟨h, by omega, h2, fun _ => h1⟩
set_option maxRecDepth 100000 in
set_option maxHeartbeats 1600000 in
theorem jmay_any (w : World) (v : Value) (R : RecJ) (h : RecV w v R) : Calls Tryz.prog 42 #[v] w fun e w' => e = .returned (.bool (decide (mayR R))) ∧ Touch [] w w' := by
  obtain ⟨a, n, cap, rfl, hN⟩ := h
  have hlen := hN.len
  obtain ⟨ep, root, sum, bl⟩ := R
  simp only at hlen hN ⊢
  have HN := Lib.hid hN
  clear hN
  have bad : ¬ mayR ⟨ep, root, sum, bl⟩ → Hid (decide (mayR ⟨ep, root, sum, bl⟩) = false) := fun h => Lib.hid (decide_eq_false h)
  by_cases h1 : ep = 0
  · have hb := bad fun h => h.1 h1
    have h1i : (ep : Int) = 0 := by omega
    go_enter Tryz.func42, Tryz.ntmps42
    go_wp2
    go_ret
    exact ⟨by rw [hb.out]; rfl, (Touch.refl _ w).alloc _⟩
  by_cases h2 : root.size = 32
  rotate_left
  · have hb := bad fun h => h2 h.2.1
    have h1i : ¬ (ep : Int) = 0 := by omega
    have h2i : ¬ (root.size : Int) = 32 := by omega
    go_enter Tryz.func42, Tryz.ntmps42
    go_wp2
    go_ret
    exact ⟨by rw [hb.out]; rfl, (Touch.refl _ w).alloc _⟩
  by_cases h3 : sum.size = 32
  rotate_left
  · have hb := bad fun h => h3 h.2.2.1
    have h1i : ¬ (ep : Int) = 0 := by omega
    have h2i : (root.size : Int) = 32 := by omega
    have h3i : ¬ (sum.size : Int) = 32 := by omega
    go_enter Tryz.func42, Tryz.ntmps42
    go_wp2
    go_ret
    exact ⟨by rw [hb.out]; rfl, (Touch.refl _ w).alloc _⟩
  by_cases h4 : n ≤ 32
  rotate_left
  · have hb := bad fun h => h4 (by have := h.2.2.2.1; simp only at this; omega)
    have h1i : ¬ (ep : Int) = 0 := by omega
    have h2i : (root.size : Int) = 32 := by omega
    have h3i : (sum.size : Int) = 32 := by omega
    have h4i : (32 : Int) < (n : Int) := by omega
    go_enter Tryz.func42, Tryz.ntmps42
    go_wp2
    go_ret
    exact ⟨by rw [hb.out]; rfl, (Touch.refl _ w).alloc _⟩
  have h1i : ¬ (ep : Int) = 0 := by omega
  have h2i : (root.size : Int) = 32 := by omega
  have h3i : (sum.size : Int) = 32 := by omega
  have h4i : ¬ (32 : Int) < (n : Int) := by omega
  have good : Hid ((decide (mayR ⟨ep, root, sum, bl⟩) = true) = okTo bl n) := Lib.hid (by
    rw [decide_eq_true_eq]
    refine propext ⟨fun h => by rw [← hlen]; exact h.2.2.2.2, fun h => ⟨h1, h2, h3, by simp only; omega, by simp only; rw [hlen]; exact h⟩⟩)
  generalize decide (mayR ⟨ep, root, sum, bl⟩) = D at good
  clear bad
  go_enter Tryz.func42, Tryz.ntmps42
  go_wp2
  go_loopw [3, 30] (fun last i wr => Touch [] w wr ∧ ∃ k : Nat, k ≤ n ∧ i = .int .i64 (k : Int) ∧ last = .int .i64 (lastV bl k) ∧ Hid (okTo bl k)) (fun _ i _ => n - (intOf i).toNat)
  case atStart => exact ⟨(Touch.refl _ w).alloc _, 0, Nat.zero_le _, rfl, rfl, Lib.hid (okTo_zero _)⟩
  case round =>
    obtain ⟨tr, k, hk, rfl, rfl, HO⟩ := hrel
    by_cases hkn : k < n
    · have hki : (k : Int) < (n : Int) := by omega
      have j0 : (0 : Int) ≤ (k : Int) := by omega
      obtain ⟨b, off, rfl, -, hc⟩ := (HN.out.touch tr).at_ (by omega)
      have c0 := hc k hkn
      clear hc
      have st := ok_step HO.out
      have ls := lastV_succ bl k
      generalize bl.getD k 0 = z at c0 st ls
      by_cases g1 : z ≤ lastV bl k
      · have hD : D = false := by
          rw [Bool.eq_false_iff]; intro hd
          have := (good.out ▸ hd : okTo bl n)
          have := st.1 (okTo_mono this (by omega)); omega
        have HD := Lib.hid hD
        generalize lastV bl k = y at g1
        clear st ls hD
        go_wp2
        go_ret
        exact ⟨by rw [HD.out]; rfl, tr⟩
      · by_cases g2 : 16384 ≤ z
        · have hD : D = false := by
            rw [Bool.eq_false_iff]; intro hd
            have := (good.out ▸ hd : okTo bl n)
            have := st.1 (okTo_mono this (by omega)); omega
          have HD := Lib.hid hD
          generalize lastV bl k = y at g1
          clear st ls hD
          go_wp2
          go_ret
          exact ⟨by rw [HD.out]; rfl, tr⟩
        · have h5 := Lib.hid (st.2 ⟨by omega, by omega⟩)
          have LS := Lib.hid ls
          generalize lastV bl k = y at g1
          clear st ls
          go_wp2
          exact ⟨⟨tr, k + 1, by omega, rfl, by rw [LS.out], h5⟩, by simp [intOf]; omega⟩
    · have hki : ¬ (k : Int) < (n : Int) := by omega
      obtain rfl : k = n := by omega
      have hD : D = true := by rw [good.out]; exact HO.out
      have HD := Lib.hid hD
      clear hD
      go_wp2
      go_ret
      exact ⟨by rw [HD.out]; rfl, tr⟩
end Go.Proofs.YtodehmognjofhaaGreat
