/-
  (*Pool).which: which one of some tasks is picked.
-/
import Derived.Test.YtaendccnjiagiaaPFind
namespace Go.Proofs.Ytaendccnjiagiaa
open Go.RowKit

/-- l holds pointers to tasks, the k-th one at (b, ad k). -/
structure Ptrs (w : World) (g goff n : Nat) (b : Nat) (ad : Nat → Nat) (ts : List Task) : Prop where
  ptr : ∀ k, k < n → w.cell? ⟨g, goff + k, none⟩ = some (.pointer (some ⟨b, ad k, none⟩))
  wt : ∀ k, k < n → w.cell? ⟨b, ad k + 1, none⟩ = some (.float .f64 (tk ts k).wt)
  age : ∀ k, k < n → w.cell? ⟨b, ad k + 2, none⟩ = some (.int .i64 (tk ts k).age)
theorem Ptrs.lt {w : World} {g goff n b : Nat} {ad : Nat → Nat} {ts : List Task} (h : Ptrs w g goff n b ad ts) (hn : 0 < n) : g < w.heap.size ∧ b < w.heap.size :=
  ⟨World.block_lt_of_cell? w _ (h.ptr 0 hn), World.block_lt_of_cell? w _ (h.wt 0 hn)⟩
theorem Ptrs.touch {w w' : World} {g goff n b : Nat} {ad : Nat → Nat} {ts : List Task} (h : Ptrs w g goff n b ad ts) (t : Touch [] w w') : Ptrs w' g goff n b ad ts :=
  ⟨fun k hk => (t.cell (p := ⟨g, _, none⟩) (h.lt (by omega)).1 (by simp)).trans (h.ptr k hk), fun k hk => (t.cell (p := ⟨b, _, none⟩) (h.lt (by omega)).2 (by simp)).trans (h.wt k hk), fun k hk => (t.cell (p := ⟨b, _, none⟩) (h.lt (by omega)).2 (by simp)).trans (h.age k hk)⟩

theorem oldTo_lt (ts : List Task) : ∀ k, 0 < k → oldTo ts k < k
  | 0, h => by omega
  | 1, _ => by unfold oldTo; split <;> simp [oldTo]
  | k + 2, _ => by
    have := oldTo_lt ts (k + 1) (by omega)
    rw [oldTo]; split <;> omega
theorem oldTo_le (ts : List Task) (k n : Nat) (hk : k ≤ n) (hn : 0 < n) : oldTo ts k < n := by
  rcases Nat.eq_zero_or_pos k with rfl | h
  · simpa [oldTo] using hn
  · have := oldTo_lt ts k h; omega
theorem sumTo_pos (ts : List Task) (n : Nat) (h : ∀ k, k < n → Fl.Pos (tk ts k).wt) : ∀ k, k ≤ n → Fl.Pos (sumTo ts k)
  | 0, _ => by unfold sumTo Fl.Pos; exact Nat.zero_le _
  | k + 1, hk => by
    obtain ⟨c, h1, h2⟩ := Fl.add_pos (sumTo_pos ts n h k (by omega)) (h k (by omega))
    unfold sumTo; rw [h1]; exact h2
theorem sumTo_add (ts : List Task) (n : Nat) (h : ∀ k, k < n → Fl.Pos (tk ts k).wt) (k : Nat) (hk : k < n) : FloatKind.f64.format.add (sumTo ts k) (tk ts k).wt = some (sumTo ts (k + 1)) := by
  obtain ⟨c, h1, h2⟩ := Fl.add_pos (sumTo_pos ts n h k (by omega)) (h k (by omega))
  rw [sumTo, h1]; exact h1

theorem above_no (ts : List Task) (aim : Option Nat) (n : Nat) (hl : ts.length = n) (h : ∀ j, j < n → above (sumTo ts (j + 1)) aim = false) : firstAbove ts aim = n - 1 := by
  unfold firstAbove
  rw [List.find?_eq_none.2 (by intro i hi; rw [List.mem_range, hl] at hi; simp [h i hi]), hl]
  rfl
theorem above_yes (ts : List Task) (aim : Option Nat) (n k : Nat) (hl : ts.length = n) (hk : k < n) (h : ∀ j, j < k → above (sumTo ts (j + 1)) aim = false) (hy : above (sumTo ts (k + 1)) aim = true) : firstAbove ts aim = k := by
  unfold firstAbove
  have : (List.range ts.length).find? (fun i => above (sumTo ts (i + 1)) aim) = some k := by
    rw [List.find?_eq_some_iff_getElem]
    refine ⟨hy, k, by simp [hl, hk], by simp, fun j hj => by simp [h j hj]⟩
  rw [this]; rfl

/-- what a float in memory is, as an aim: a sum is above it, or not. -/
def IsAim (av : Nat) (aim : Option Nat) : Prop := ∀ s, (FloatKind.f64.format.order s av == some .gt) = above s aim

theorem run_aim (P : Program) (w : World) (t : TypeId) (x y : Nat) : ∃ av w', (binOp .mul t (.float .f64 x) (.float .f64 y)).run P w = .ok (.float .f64 av) w' ∧ IsAim av (Ieee.double.mul x y) ∧ Touch [] w w' := by
  cases h : Ieee.double.mul x y with
  | some r => exact ⟨r, w, run_float_arith w .mul t .f64 x y r h, fun s => rfl, Touch.refl _ _⟩
  | none =>
    have h' : FloatKind.f64.format.mul x y = none := h
    refine ⟨(Question.nanBits .f64 x y).cut (w.tape w.drawn (.nanBits .f64 x y)), w.drew, ?_, ?_, (Touch.refl _ _).drew⟩
    · simp [binOp, Op.floatArith, h', choose, Sem.run, Question.forced]
    · intro s
      have : FloatKind.f64.format.order s ((Question.nanBits .f64 x y).cut (w.tape w.drawn (.nanBits .f64 x y))) = none := Fl.order_nan s x y _
      rw [this]; rfl

set_option maxRecDepth 100000 in
set_option maxHeartbeats 1600000 in
theorem which_any (w : World) (bp : Nat) (pat : Int) (g goff n cap b : Nat) (ad : Nat → Nat) (ts : List Task) (x : Nat) (hP : Ptrs w g goff n b ad ts) (hn : 0 < n) (hn64 : n ≤ 64) (hl : ts.length = n)
    (hw : ∀ k, k < n → Fl.Pos (tk ts k).wt) (c2 : w.cell? ⟨bp, 2, none⟩ = some (.int .i64 pat)) :
    Calls Try.prog 26 #[.pointer (some ⟨bp, 0, none⟩), .slice (some ⟨g, goff, none⟩) n cap, .float .f64 x] w fun e w' => e = .returned (.pointer (some ⟨b, ad (whichOf pat x ts), none⟩)) ∧ Touch [] w w' := by
  have lbp := World.block_lt_of_cell? w _ c2
  have hs := sumTo_pos ts n hw
  have HL := Lib.hid hl
  have HS := Lib.hid hs
  have HW := Lib.hid hw
  have HP := Lib.hid hP
  clear hl hs hw
  have p0 := hP.ptr 0 hn
  simp only [Nat.add_zero] at p0
  have hn0 : (0 : Int) < (n : Int) := by omega
  clear hP
  go_enter Try.func26, Try.ntmps26
  go_wp2
  go_step3
  go_wp2
  go_loopw [21, 7, 8] (fun i o s wr => ∃ k : Nat, k ≤ n ∧ i = .int .i64 k ∧ o = .pointer (some ⟨b, ad (oldTo ts k), none⟩) ∧ s = .float .f64 (sumTo ts k) ∧ Touch [] w wr) (fun i _ _ _ => n - (intOf i).toNat)
  case atStart => exact ⟨0, by omega, rfl, rfl, rfl, Touch.refl _ _⟩
  case round =>
    obtain ⟨k, hk, rfl, rfl, rfl, t⟩ := hrel
    by_cases hlt : k < n
    · have P := HP.out.touch t
      have q1 := P.ptr k hlt
      have q2 := P.age k hlt
      have q3 := P.wt k hlt
      have ho := oldTo_le ts k n hk hn
      have q4 := P.age _ ho
      have hadd := fun W => run_float_arith (P := Try.prog) W .add 24 .f64 _ _ _ (sumTo_add ts n HW.out k hlt)
      have T := Lib.hid t
      clear P t ho
      by_cases ha : (tk ts (oldTo ts k)).age < (tk ts k).age
      · have HA := Lib.hid (show oldTo ts (k + 1) = k by rw [oldTo, if_pos ha])
        go_wp2
        go_quiet (fail)
        go_wp2
        go_roundw
        case rel => exact ⟨k + 1, by omega, by go_num, by rw [HA.out], rfl, T.out.drewN _⟩
        case measure => simp [intOf]; omega
      · have HA := Lib.hid (show oldTo ts (k + 1) = oldTo ts k by rw [oldTo, if_neg ha])
        go_wp2
        go_quiet (fail)
        go_wp2
        go_roundw
        case rel => exact ⟨k + 1, by omega, by go_num, by rw [HA.out], rfl, T.out.drewN _⟩
        case measure => simp [intOf]; omega
    · obtain rfl : k = n := by omega
      have P := HP.out.touch t
      have ho := oldTo_le ts k k (Nat.le_refl _) hn
      have q4 := P.age _ ho
      have k2 := (t.cell (p := ⟨bp, 2, none⟩) lbp (by simp)).trans c2
      have T := Lib.hid t
      clear P t ho hlt hk
      by_cases ha : pat ≤ (tk ts (oldTo ts k)).age
      · have HA := Lib.hid (show whichOf pat x ts = oldTo ts k by unfold whichOf; rw [HL.out, if_pos ha])
        go_wp2
        go_quiet (fail)
        go_wp2
        rw [Exit.noGoto_ret]
        go_ret
        exact ⟨by rw [HA.out]; rfl, T.out.drewN _⟩
      · have HA := Lib.hid (show whichOf pat x ts = firstAbove ts (Ieee.double.mul x (sumTo ts k)) by unfold whichOf; rw [HL.out, if_neg ha])
        go_wp2
        go_quiet (fail)
        generalize hw2 : wr.drewN _ = w2
        have t2 : Touch [] w w2 := by subst hw2; exact T.out.drewN _
        obtain ⟨av, w3, hrun, hI, t23⟩ := run_aim Try.prog w2 24 x (sumTo ts k)
        have t3 := t2.trans' t23
        have hlast : k - 1 < k := by omega
        have q5 := (HP.out.touch t3).ptr (k - 1) hlast
        have HI := Lib.hid hI
        have T3 := Lib.hid t3
        have hsub : IntKind.i64.wrap ((k : Int) - 1) = (k : Int) - 1 := IntWalk.i64_in _ (by omega)
        have hsub2 : ((k : Int) - 1).toNat = k - 1 := by omega
        have hsub3 : (0 : Int) ≤ (k : Int) - 1 := by omega
        have hsub4 : (k : Int) - 1 < (k : Int) := by omega
        clear hw2 t2 t23 hI t3 T hlast q4 k2
        go_wp2
        go_step3
        go_wp2
        clear q5 hrun hsub hsub2 hsub3 hsub4 ha
        go_loopw [63, 12, 13] (fun i s l wr => ∃ j : Nat, j ≤ k ∧ i = .int .i64 j ∧ s = .float .f64 (sumTo ts j) ∧ l = .pointer (some ⟨b, ad (k - 1), none⟩) ∧ Touch [] w wr ∧ Hid (∀ m, m < j → above (sumTo ts (m + 1)) (Ieee.double.mul x (sumTo ts k)) = false)) (fun i _ _ _ => k - (intOf i).toNat)
        case atStart => exact ⟨0, by omega, rfl, rfl, rfl, T3.out, fun m hm => by omega⟩
        case round =>
          obtain ⟨j, hj, rfl, rfl, rfl, t, HB⟩ := hrel
          by_cases hlt : j < k
          · have P := HP.out.touch t
            have q1 := P.ptr j hlt
            have q3 := P.wt j hlt
            have hadd := fun W => run_float_arith (P := Try.prog) W .add 24 .f64 _ _ _ (sumTo_add ts k HW.out j hlt)
            have T := Lib.hid t
            clear P t
            cases ha : above (sumTo ts (j + 1)) (Ieee.double.mul x (sumTo ts k))
            · have hgt := (HI.out (sumTo ts (j + 1))).trans ha
              have HA := Lib.hid ha
              clear ha
              go_wp2
              go_roundw
              case rel =>
                refine ⟨j + 1, by omega, by go_num, rfl, rfl, T.out, fun m hm => ?_⟩
                by_cases e : m = j
                · subst e; exact HA.out
                · exact HB m (by omega)
              case measure => simp [intOf]; omega
            · have hgt := (HI.out (sumTo ts (j + 1))).trans ha
              have HF := Lib.hid (above_yes ts _ k j HL.out hlt HB ha)
              clear ha
              go_wp2
              rw [Exit.noGoto_ret]
              go_ret
              exact ⟨by rw [HA.out, HF.out]; rfl, T.out⟩
          · obtain rfl : j = k := by omega
            have HF := Lib.hid (above_no ts _ j HL.out HB)
            clear hlt hj
            go_wp2
            rw [Exit.noGoto_ret]
            go_ret
            exact ⟨by rw [HA.out, HF.out]; rfl, t⟩
end Go.Proofs.Ytaendccnjiagiaa
