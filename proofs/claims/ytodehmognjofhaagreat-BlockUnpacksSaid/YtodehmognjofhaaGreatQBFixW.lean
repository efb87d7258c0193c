/-
  The program's digest: its constants: the walk.
-/
import Derived.Test.YtodehmognjofhaaGreatQNA
import Derived.Great.BuildSlice
namespace Go.Proofs.YtodehmognjofhaaGreat
open Go.RowKit

set_option maxRecDepth 100000 in
set_option maxHeartbeats 1600000 in
theorem fixed_any (w : World) : Calls Tryz.prog 155 #[] w fun e w' => ∃ b, e = .returned (.pointer (some ⟨b, 0, none⟩)) ∧ w.heap.size ≤ b ∧ Touch [] w w' ∧ At w' b 245 (wcells (tabW (ps 312))) := by
  go_enter Tryz.func155, Tryz.ntmps155
  go_wp2
  go_step3
  go_wp2
  go_step3
  go_wp2
  go_loopw [2, 3] (fun n p wr => ∃ k : Nat, 2 ≤ k ∧ k ≤ 312 ∧ p = .int .u64 k ∧ n = .int .i64 ((ps k).length : Int) ∧ Touch [] w wr ∧ Hid (At wr w.heap.size 245 (wcells (tabW (ps k))))) (fun _ p _ => 312 - (intOf p).toNat)
  case atStart =>
    refine ⟨2, by omega, by omega, rfl, ?_, (Touch.refl [] w).alloc _, ?_⟩
    · have : (ps 2).length = 0 := by decide
      rw [this]
      rfl
    · have e : Tryz.zeroCells245 = (wcells (tabW (ps 2))).toArray := by kernel_rfl
      rw [e]
      exact At.new w _ _
  case round =>
    obtain ⟨k, hk2, hk, rfl, rfl, tr, hA⟩ := hrel
    have HT := Lib.hid tr
    clear tr
    by_cases hn : (ps k).length < 64
    · have hk3 : k < 312 := by
        rcases Nat.lt_or_ge k 312 with h | h
        · exact h
        · obtain rfl : k = 312 := by omega
          rw [ps_312] at hn
          omega
      have hni : ((ps k).length : Int) < 64 := by omega
      have hc := ps_succ k hk2
      have HC := Lib.hid hc
      clear hc
      generalize hpk : (ps k).length = n at hn hni ⊢
      have HN := Lib.hid hpk
      clear hpk
      go_wp2
      go_loopw [4] (fun q wq => ∃ m : Nat, 2 ≤ m ∧ m ≤ 18 ∧ q = .int .u64 m ∧ wq = wr ∧ Hid (∀ d, 2 ≤ d → d < m → k % d ≠ 0)) (fun q _ => 18 - (intOf q).toNat)
      case atStart => exact ⟨2, by omega, by omega, rfl, rfl, fun d h1 h2 => by omega⟩
      case round =>
        obtain ⟨m, hm2, hm, rfl, rfl, HD⟩ := hrel
        have e1 : IntKind.u64.wrap ((m : Int) * (m : Int)) = ((m * m : Nat) : Int) := by
          have := Nat.mul_le_mul hm hm
          rw [Mul64.mulN]
          exact Mul64.wrapN _ (by omega)
        by_cases hs : m * m ≤ k
        · have hsi : ((m * m : Nat) : Int) ≤ (k : Int) := by omega
          by_cases hr : k % m = 0
          · have hri : ((k % m : Nat) : Int) = 0 := by omega
            have e2 : ((k : Int) % (m : Int)) = ((k % m : Nat) : Int) := by simp
            have hq : isP k = false := isP_no hk3 hm2 hs hr
            have hps : ps (k + 1) = ps k := by rw [HC.out, hq]; simp
            have HPS := Lib.hid hps
            generalize k % m = r at e2 hri
            have HM := Lib.hid hm2
            clear hps hq hr HC HD hm2 hm hs
            generalize m * m = mm at e1 hsi
            have hm0 : m ≠ 0 := by have := HM.out; omega
            go_wp2
            refine ⟨⟨k + 1, by omega, by omega, by go_num, ?_, HT.out, ?_⟩, ?_⟩
            · rw [HPS.out, HN.out]
            · rw [HPS.out]
              exact hA.out
            · simp [intOf]; omega
          · have hri : ¬ ((k % m : Nat) : Int) = 0 := by omega
            have e2 : ((k : Int) % (m : Int)) = ((k % m : Nat) : Int) := by simp
            have HR := Lib.hid hr
            have hm17 : m + 1 ≤ 18 := by
              rcases Nat.lt_or_ge m 18 with g | g
              · omega
              · have := Nat.mul_le_mul g g
                omega
            generalize k % m = r at e2 hri
            generalize m * m = mm at e1 hsi
            clear hs hr HC
            have hm0 : m ≠ 0 := by omega
            go_wp2
            refine ⟨⟨m + 1, by omega, hm17, by go_num, trivial, ?_⟩, ?_⟩
            · intro d h1 h2
              rcases Nat.lt_or_ge d m with g | g
              · exact HD.out d h1 g
              · obtain rfl : d = m := by omega
                exact HR.out
            · simp [intOf]; omega
        · have hsi : ¬ ((m * m : Nat) : Int) ≤ (k : Int) := by omega
          have hP : isP k = true := isP_yes (fun d h1 h2 => HD.out d h1 h2) (by omega)
          generalize m * m = mm at e1 hs hsi
          have hps : ps (k + 1) = ps k ++ [k] := by rw [HC.out, if_pos hP]
          have HPS := Lib.hid hps
          have CU := fun W => frac_cu k W
          have SQ := fun W => frac_sq k W
          generalize hcu : fracGo (fun x => cuP x k) 37 0 % 4294967296 = cu at CU
          generalize hsq : fracGo (fun x => sqP x k) 37 0 % 4294967296 = sq at SQ
          have HCU : Hid (cuR k = cu) := Lib.hid hcu
          have HSQ : Hid (sqR k = sq) := Lib.hid hsq
          clear hP hps HD HC hcu hsq
          by_cases h8 : n < 8
          · have h8i : (n : Int) < 8 := by omega
            have lw := hA.out.lt
            have fw := fun o => hA.out.frozen o
            obtain ⟨v0, hv0⟩ := at_some hA.out n (by rw [wcells_len, tabW_len _ (by have := HN.out; omega)]; omega)
            go_wp2
            refine region_tail 7 (by kernel_rfl) (by kernel_rfl) (fun w3 t3 => ?_)
            have hv3 := (t3.cell (p := ⟨w.heap.size, n, none⟩) (World.block_lt_of_cell? _ _ hv0) (by simp)).trans hv0
            have hB := Lib.hid (hA.out.touch t3 (by simp))
            have HT3 := Lib.hid (HT.out.trans' t3)
            clear t3 fw lw hv0 hA
            have lw := hB.out.lt
            have fw := fun o => hB.out.frozen o
            simp only [List.take_succ_cons, List.take_zero, List.drop_succ_cons, List.drop_zero]
            repeat (first | still_step | still_call (SQ w3))
            refine wpStill_nil ?_
            go_wp2
            have hB2 := hB.out.set n (.int .u32 sq)
            have HT5 := Lib.hid (HT3.out.setCell ⟨w.heap.size, n, none⟩ (by simp) (.int .u32 sq))
            clear hB HT3 fw lw hv3
            rw [wcells_set] at hB2
            have hB := Lib.hid hB2
            clear hB2
            generalize w3.setCell ⟨w.heap.size, n, none⟩ (.int .u32 sq) = w5 at HT5 hB ⊢
            have HT3 := HT5
            clear HT5
            have hvz := at_some hB.out (8 + n) (by rw [wcells_len, List.length_set, tabW_len _ (by have := HN.out; omega)]; omega)
            obtain ⟨v1, hv1⟩ := hvz
            have lw := hB.out.lt
            have fw := fun o => hB.out.frozen o
            go_wp2
            refine region_tail 7 (by kernel_rfl) (by kernel_rfl) (fun w4 t4 => ?_)
            have hv4 := (t4.cell (p := ⟨w.heap.size, 8 + n, none⟩) (World.block_lt_of_cell? _ _ hv1) (by simp)).trans hv1
            have hC := Lib.hid (hB.out.touch t4 (by simp))
            have HT4 := Lib.hid (HT3.out.trans' t4)
            clear t4 fw lw hv1 hB HT3
            have lw := hC.out.lt
            have fw := fun o => hC.out.frozen o
            simp only [List.take_succ_cons, List.take_zero, List.drop_succ_cons, List.drop_zero]
            repeat (first | still_step | still_call (CU w4))
            refine wpStill_nil ?_
            go_wp2
            go_roundw
            case rel =>
              refine ⟨k + 1, by omega, by omega, by go_num, ?_, HT4.out.setCell ⟨w.heap.size, 8 + n, none⟩ (by simp) _, ?_⟩
              · rw [HPS.out, List.length_append, HN.out]
                go_num
              · have h := hC.out.set (8 + n) (.int .u32 cu)
                rw [wcells_set, ← HCU.out, ← HSQ.out, ← HN.out, tabW_step1 _ _ (by have := HN.out; omega)] at h
                rw [HPS.out, ← HN.out, ← HCU.out]
                exact h
            case measure => simp [intOf]; omega
          · have h8i : ¬ (n : Int) < 8 := by omega
            have hB := hA
            have HT3 := HT
            have hvz := at_some hB.out (8 + n) (by rw [wcells_len, tabW_len _ (by have := HN.out; omega)]; omega)
            obtain ⟨v1, hv1⟩ := hvz
            have lw := hB.out.lt
            have fw := fun o => hB.out.frozen o
            go_wp2
            refine region_tail 7 (by kernel_rfl) (by kernel_rfl) (fun w4 t4 => ?_)
            have hv4 := (t4.cell (p := ⟨w.heap.size, 8 + n, none⟩) (World.block_lt_of_cell? _ _ hv1) (by simp)).trans hv1
            have hC := Lib.hid (hB.out.touch t4 (by simp))
            have HT4 := Lib.hid (HT3.out.trans' t4)
            clear t4 fw lw hv1 hB HT3
            have lw := hC.out.lt
            have fw := fun o => hC.out.frozen o
            simp only [List.take_succ_cons, List.take_zero, List.drop_succ_cons, List.drop_zero]
            repeat (first | still_step | still_call (CU w4))
            refine wpStill_nil ?_
            go_wp2
            go_roundw
            case rel =>
              refine ⟨k + 1, by omega, by omega, by go_num, ?_, HT4.out.setCell ⟨w.heap.size, 8 + n, none⟩ (by simp) _, ?_⟩
              · rw [HPS.out, List.length_append, HN.out]
                go_num
              · have h := hC.out.set (8 + n) (.int .u32 cu)
                rw [wcells_set, ← HCU.out, ← HN.out, tabW_step2 _ _ (by have := HN.out; omega) (by have := HN.out; omega)] at h
                rw [HPS.out, ← HN.out, ← HCU.out]
                exact h
            case measure => simp [intOf]; omega
    · have hni : ¬ ((ps k).length : Int) < 64 := by omega
      go_wp2
      go_ret
      refine ⟨w.heap.size, rfl, Nat.le_refl _, HT.out, ?_⟩
      obtain rfl := ps_end hk hn
      exact hA.out
end Go.Proofs.YtodehmognjofhaaGreat
