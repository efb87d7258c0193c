/-
  The reference's runnable and which.
-/
import Derived.Test.YtaendccnjiagiaaRDone
import Derived.Test.YtaendccnjiagiaaPPick
namespace Go.Proofs.Ytaendccnjiagiaa
open Go.RowKit
attribute [local go_sem] run_store_float

theorem Try.infoInt : (Try.prog.info? 3).map (fun i => (i.zero, i.size, i.bytes)) = some (some (.int .i64 0), 1, 8) := by kernel_rfl
theorem Try.intsT : Try.prog.underlying 36 = some (.slice 3) := by kernel_rfl

def i64s (l : List Nat) : List Value := l.map fun (i : Nat) => Value.int .i64 (i : Int)
/-- the places that runnable tells. -/
def RunPost (w : World) (is : List Nat) (e : Ending) (w' : World) : Prop :=
  ∃ a n c own, e = .returned (.slice a n c) ∧ n = is.length ∧ Row w' 3 1 a n c own (i64s is) ∧ Touch [] w w' ∧ ∀ b ∈ own, w.heap.size ≤ b

set_option maxRecDepth 100000 in
set_option maxHeartbeats 1600000 in
theorem runnableR_any (w : World) (bp : Nat) (S : Pool) (own : List Nat) (hok : S.Ok) (hR : RRep w bp S own) :
    Calls Try.prog 43 #[.pointer (some ⟨bp, 0, none⟩)] w (RunPost w (runIdx S.work)) := by
  obtain ⟨aw, nw, cw, ow, aq, mq, cq, oq, hp, rfl⟩ := hR
  obtain ⟨hnw, hnq⟩ := hp.nw
  have hlq := hok.lw
  have hr2 := hok.w2
  have hn : nw ≤ 1024 := by omega
  have HN := Lib.hid hnw
  have HP := Lib.hid hp
  have c3 := hp.at_.cell 3
  simp at c3
  clear hnw hnq hlq hr2 hp
  go_enter Try.func43, Try.ntmps43
  go_wp2_with fail
  have hrow := HP.out.work
  go_loopw [4, 3] (fun i s wr => ∃ k no co ao oo, k ≤ nw ∧ i = .int .i64 (k : Nat) ∧ s = .slice ao no co ∧ Touch [] w wr ∧ no ≤ k ∧ Hid (Row wr 3 1 ao no co oo (i64s (runTo S.work k)) ∧ ∀ b ∈ oo, w.heap.size ≤ b)) (fun i _ _ => nw - (intOf i).toNat)
  case atStart => exact ⟨0, 0, 0, none, [], by omega, rfl, rfl, Touch.refl _ _, by omega, Row.nil _ _ _ _, by simp⟩
  case round =>
    obtain ⟨k, no, co, ao, oo, hk, rfl, rfl, t, hno, HR⟩ := hrel
    have c3' := (HP.out.at_.touch t (by simp)).cell 3
    simp at c3'
    by_cases hlt : k < nw
    · obtain ⟨b, off, _, rfl, -⟩ := hrow.form (by have := hrow.2.1; omega)
      have hu : S.work[k]? = some (tk S.work k) := tk_some (by rw [← HN.out]; exact hlt)
      obtain ⟨-, -, -, t3⟩ := (hrow.touch t (by simp)).task hu
      have lb := hrow.lt b (by have := hrow.form (by have := hrow.2.1; omega); obtain ⟨b', _, _, h1, h2, _⟩ := this; cases h1; simp [h2])
      have lb2 := Nat.lt_of_lt_of_le lb t.size
      have lp := Nat.lt_of_lt_of_le HP.out.at_.lt t.size
      obtain ⟨i0, hi, hz0, hz1, hz2⟩ := info_parts Try.infoInt
      have T := Lib.hid t
      have hs := runTo_succ S.work k
      clear hu t
      cases hb : (tk S.work k).blk
      · rw [hb] at t3
        rw [hb, if_neg (by decide)] at hs
        have HS := Lib.hid hs
        clear hb hs
        go_wp2_with (at_builtin; refine wpList_append_row _ rfl (.tmp 23) (.tmp 25) 36 rfl 3 i0 _ 1 8 Try.intsT hi hz0 hz1 hz2 rfl (by decide) ao no co oo _ rfl (HR.1.alloc _) (some ⟨wr.heap.size, 0, none⟩) 1 1 [.int .i64 (k : Int)] rfl rfl (.inr ⟨_, rfl, World.news_of_block (cs := #[.int .i64 (k : Int)]) (t := 3) (fr := (0, 0)) (heap_alloc_new wr _)⟩) (by simp [Value.oneCell']) (by unfold maxLen; omega) (by omega) ?_; intro a' cap' own' w3 hrow3 ht3 hown3 _ _)
        go_roundw
        case rel =>
          refine ⟨k + 1, no + 1, cap', a', own', by omega, by go_num, rfl, (T.out.alloc _).trans ht3 (fun b hb => .inr (HR.2 b hb)), by omega, ?_, ?_⟩
          · rw [HS.out]
            simpa [i64s] using hrow3
          · intro c hc
            rcases hown3 with rfl | rfl
            · exact HR.2 c hc
            · simp at hc; subst hc; have := T.out.size; omega
        case measure => simp [intOf]; omega
      · rw [hb] at t3
        rw [hb, if_pos rfl] at hs
        have HS := Lib.hid hs
        clear hb hs
        go_wp2_with fail
        go_roundw
        case rel =>
          refine ⟨k + 1, no, co, ao, oo, by omega, by go_num, rfl, T.out, by omega, ?_, HR.2⟩
          rw [HS.out]
          exact HR.1
        case measure => simp [intOf]; omega
    · obtain rfl : k = nw := by omega
      go_wp2_with fail
      go_ret
      have h1 := HR.1
      have e : runTo S.work k = runIdx S.work := by unfold runIdx; rw [← HN.out]
      rw [e] at h1
      exact ⟨ao, no, co, oo, rfl, by have := h1.1; simpa [i64s] using this.symm, h1, t, HR.2⟩

/-- is there one of a great age among the first k? -/
def hasOld (pat : Int) (ts : List Task) (k : Nat) : Prop := 0 < k ∧ pat ≤ (tk ts (oldTo ts k)).age
/-- the best place among the first k; -1: none. -/
noncomputable def bestTo (pat : Int) (ts : List Task) (is : List Nat) (k : Nat) : Int := open Classical in if hasOld pat ts k then (is.getD (oldTo ts k) 0 : Nat) else -1
theorem best_zero (pat : Int) (ts : List Task) (is : List Nat) : bestTo pat ts is 0 = -1 := by unfold bestTo; rw [if_neg]; exact fun h => by have := h.1; omega

/-- tasks at places of a row, for reading. -/
structure RPtrs (w : World) (bp g goff n b off nw cw : Nat) (pat : Int) (is : List Nat) (ts : List Task) : Prop where
  c2 : w.cell? ⟨bp, 2, none⟩ = some (.int .i64 pat)
  c3 : w.cell? ⟨bp, 3, none⟩ = some (.slice (some ⟨b, off, none⟩) nw cw)
  idx : ∀ k, k < n → w.cell? ⟨g, goff + k, none⟩ = some (.int .i64 (is.getD k 0 : Nat))
  lt : ∀ k, k < n → is.getD k 0 < nw
  wt : ∀ k, k < n → w.cell? ⟨b, off + is.getD k 0 * 4 + 1, none⟩ = some (.float .f64 (tk ts k).wt)
  age : ∀ k, k < n → w.cell? ⟨b, off + is.getD k 0 * 4 + 2, none⟩ = some (.int .i64 (tk ts k).age)
theorem RPtrs.touch {w w' : World} {bp g goff n b off nw cw : Nat} {pat : Int} {is : List Nat} {ts : List Task} (h : RPtrs w bp g goff n b off nw cw pat is ts) (t : Touch [] w w') : RPtrs w' bp g goff n b off nw cw pat is ts := by
  have keep : ∀ (c o : Nat) (v : Value), w.cell? ⟨c, o, none⟩ = some v → w'.cell? ⟨c, o, none⟩ = some v := fun c o v hc => (t.cell (p := ⟨c, o, none⟩) (World.block_lt_of_cell? w _ hc) (by simp)).trans hc
  exact ⟨keep _ _ _ h.c2, keep _ _ _ h.c3, fun k hk => keep _ _ _ (h.idx k hk), h.lt, fun k hk => keep _ _ _ (h.wt k hk), fun k hk => keep _ _ _ (h.age k hk)⟩

set_option maxRecDepth 100000 in
set_option maxHeartbeats 3200000 in
theorem whichR_any (w : World) (bp : Nat) (pat : Int) (g goff n cap b off nw cw : Nat) (is : List Nat) (ts : List Task) (x : Nat) (hP : RPtrs w bp g goff n b off nw cw pat is ts) (hn : 0 < n) (hn64 : n ≤ 64) (hl : ts.length = n)
    (hw : ∀ k, k < n → Fl.Pos (tk ts k).wt) :
    Calls Try.prog 44 #[.pointer (some ⟨bp, 0, none⟩), .slice (some ⟨g, goff, none⟩) n cap, .float .f64 x] w fun e w' => e = .returned (.int .i64 (is.getD (whichOf pat x ts) 0 : Nat)) ∧ Touch [] w w' := by
  have hs := sumTo_pos ts n hw
  have HL := Lib.hid hl
  have HS := Lib.hid hs
  have HW := Lib.hid hw
  have HP := Lib.hid hP
  clear hl hs hw hP
  go_enter Try.func44, Try.ntmps44
  go_wp2
  go_loopw [8, 7] (fun i o wr => ∃ k : Nat, k ≤ n ∧ i = .int .i64 k ∧ o = .int .i64 (bestTo pat ts is k) ∧ Touch [] w wr) (fun i _ _ => n - (intOf i).toNat)
  case atStart => exact ⟨0, by omega, rfl, by rw [best_zero], Touch.refl _ _⟩
  case round =>
    obtain ⟨k, hk, rfl, rfl, t⟩ := hrel
    by_cases hlt : k < n
    · have P := HP.out.touch t
      have q0 := P.c3
      have q00 := P.c2
      have q1 := P.idx k hlt
      have q2 := P.age k hlt
      have l1 := P.lt k hlt
      obtain ⟨i, hi⟩ : ∃ i, is.getD k 0 = i := ⟨_, rfl⟩
      rw [hi] at q1 q2 l1
      have l1' : (i : Int) < (nw : Int) := by omega
      have HI := Lib.hid hi
      have T := Lib.hid t
      obtain ⟨a, ha⟩ : ∃ a, (tk ts k).age = a := ⟨_, rfl⟩
      rw [ha] at q2
      have HA := Lib.hid ha
      clear hi ha t
      by_cases hb : hasOld pat ts k
      · have ho := oldTo_lt ts k hb.1
        have q3 := P.age (oldTo ts k) (by omega)
        have l2 := P.lt (oldTo ts k) (by omega)
        have hbv : bestTo pat ts is k = (is.getD (oldTo ts k) 0 : Nat) := by unfold bestTo; rw [if_pos hb]
        rw [hbv]
        obtain ⟨j, hj⟩ : ∃ j, is.getD (oldTo ts k) 0 = j := ⟨_, rfl⟩
        obtain ⟨a0, ha0⟩ : ∃ a0, (tk ts (oldTo ts k)).age = a0 := ⟨_, rfl⟩
        rw [ha0, hj] at q3
        rw [hj] at l2 ⊢
        have l2' : (j : Int) < (nw : Int) := by omega
        have HJ := Lib.hid hj
        have HB := Lib.hid hb
        have HA0 := Lib.hid ha0
        have HBV := Lib.hid hbv
        have hpa : pat ≤ a0 := by rw [← ha0]; exact hb.2
        clear hj hb ha0 hbv P
        by_cases hage : a0 < a
        · have hpa2 : pat ≤ a := by omega
          have HN := Lib.hid (show bestTo pat ts is (k + 1) = (i : Nat) by
            have e : oldTo ts (k + 1) = k := by rw [oldTo, if_pos (by rw [HA0.out, HA.out]; exact hage)]
            unfold bestTo; rw [if_pos ⟨by omega, by rw [e, HA.out]; exact hpa2⟩, e, HI.out])
          go_wp2
          go_quiet (fail)
          go_wp2
          go_roundw
          case rel => exact ⟨k + 1, by omega, by go_num, by rw [HN.out], T.out.drewN _⟩
          case measure => simp [intOf]; omega
        · have HN := Lib.hid (show bestTo pat ts is (k + 1) = (j : Nat) by
            have e : oldTo ts (k + 1) = oldTo ts k := by rw [oldTo, if_neg (by rw [HA0.out, HA.out]; exact hage)]
            unfold bestTo; rw [if_pos ⟨by omega, by rw [e, HA0.out]; exact hpa⟩, e, HJ.out])
          by_cases hpa2 : pat ≤ a
          all_goals
            go_wp2
            go_quiet (fail)
            go_wp2
            go_roundw
            case rel => exact ⟨k + 1, by omega, by go_num, by rw [HN.out], T.out.drewN _⟩
            case measure => simp [intOf]; omega
      · have hbv : bestTo pat ts is k = -1 := by unfold bestTo; rw [if_neg hb]
        rw [hbv]
        have HB := Lib.hid hb
        clear hbv P hb
        by_cases hpa2 : pat ≤ a
        · have HN := Lib.hid (show bestTo pat ts is (k + 1) = (i : Nat) by
            have e : oldTo ts (k + 1) = k := by
              rcases Nat.eq_zero_or_pos k with h0 | h0
              · subst h0; simp [oldTo]
              · rw [oldTo, if_pos]
                have : ¬ pat ≤ (tk ts (oldTo ts k)).age := fun h => HB.out ⟨h0, h⟩
                rw [HA.out]; omega
            unfold bestTo; rw [if_pos ⟨by omega, by rw [e, HA.out]; exact hpa2⟩, e, HI.out])
          go_wp2
          go_quiet (fail)
          go_wp2
          go_roundw
          case rel => exact ⟨k + 1, by omega, by go_num, by rw [HN.out], T.out.drewN _⟩
          case measure => simp [intOf]; omega
        · have HN := Lib.hid (show bestTo pat ts is (k + 1) = -1 by
            unfold bestTo
            rw [if_neg]
            rintro ⟨-, h⟩
            rw [oldTo] at h
            split at h
            · rw [HA.out] at h; exact hpa2 h
            · rename_i h2
              rcases Nat.eq_zero_or_pos k with h0 | h0
              · subst h0; simp only [oldTo] at h; rw [HA.out] at h; exact hpa2 h
              · exact HB.out ⟨h0, h⟩)
          go_wp2
          go_quiet (fail)
          go_wp2
          go_roundw
          case rel => exact ⟨k + 1, by omega, by go_num, by rw [HN.out], T.out.drewN _⟩
          case measure => simp [intOf]; omega
    · obtain rfl : k = n := by omega
      by_cases ha : pat ≤ (tk ts (oldTo ts k)).age
      · have hbv : bestTo pat ts is k = (is.getD (oldTo ts k) 0 : Nat) := by unfold bestTo; rw [if_pos ⟨hn, ha⟩]
        have HA := Lib.hid (show whichOf pat x ts = oldTo ts k by unfold whichOf; rw [HL.out, if_pos ha])
        rw [hbv]
        obtain ⟨j, hj⟩ : ∃ j, is.getD (oldTo ts k) 0 = j := ⟨_, rfl⟩
        have HJ := Lib.hid hj
        rw [hj]
        clear hbv hj ha hlt
        go_wp2
        go_ret
        exact ⟨by rw [HA.out, HJ.out]; rfl, t⟩
      · have hbv : bestTo pat ts is k = -1 := by unfold bestTo; rw [if_neg (fun h => ha h.2)]
        have HA := Lib.hid (show whichOf pat x ts = firstAbove ts (Ieee.double.mul x (sumTo ts k)) by unfold whichOf; rw [HL.out, if_neg ha])
        rw [hbv]
        clear hbv ha hlt
        obtain ⟨w1, hw1⟩ : ∃ w1, wr = w1 := ⟨_, rfl⟩
        rw [hw1] at t ⊢
        have T1 := Lib.hid t
        clear hw1 t
        go_wp2
        go_loopw [11, 10] (fun i s wr => ∃ j : Nat, j ≤ k ∧ i = .int .i64 j ∧ s = .float .f64 (sumTo ts j) ∧ Touch [] w wr) (fun i _ _ => k - (intOf i).toNat)
        case atStart => exact ⟨0, by omega, rfl, rfl, T1.out⟩
        case round =>
          obtain ⟨j, hj, rfl, rfl, t⟩ := hrel
          by_cases hlt : j < k
          · have P := HP.out.touch t
            have q0 := P.c3
            have q1 := P.idx j hlt
            have q2 := P.wt j hlt
            have l1 := P.lt j hlt
            obtain ⟨i, hi⟩ : ∃ i, is.getD j 0 = i := ⟨_, rfl⟩
            rw [hi] at q1 q2 l1
            have l1' : (i : Int) < (nw : Int) := by omega
            have hadd := fun W => run_float_arith (P := Try.prog) W .add 24 .f64 _ _ _ (sumTo_add ts k HW.out j hlt)
            have T := Lib.hid t
            clear hi t P
            go_wp2
            go_quiet (fail)
            go_wp2
            go_roundw
            case rel => exact ⟨j + 1, by omega, by go_num, rfl, T.out.drewN _⟩
            case measure => simp [intOf]; omega
          · obtain rfl : j = k := by omega
            clear hlt hj
            obtain ⟨av, w3, hrun, hI, t23⟩ := run_aim Try.prog wr 24 x (sumTo ts j)
            have HI := Lib.hid hI
            have T3 := Lib.hid (t.trans' t23)
            clear hI t t23
            go_wp2
            clear hrun
            go_loopw [14, 13] (fun i s wr => ∃ m : Nat, m ≤ j ∧ i = .int .i64 m ∧ s = .float .f64 (sumTo ts m) ∧ Touch [] w wr ∧ Hid (∀ m', m' < m → above (sumTo ts (m' + 1)) (Ieee.double.mul x (sumTo ts j)) = false)) (fun i _ _ => j - (intOf i).toNat)
            case atStart => exact ⟨0, by omega, rfl, rfl, T3.out, fun m hm => by omega⟩
            case round =>
              obtain ⟨m, hm, rfl, rfl, t, HB⟩ := hrel
              by_cases hlt : m < j
              · have P := HP.out.touch t
                have q0 := P.c3
                have q1 := P.idx m hlt
                have q2 := P.wt m hlt
                have l1 := P.lt m hlt
                obtain ⟨i, hi⟩ : ∃ i, is.getD m 0 = i := ⟨_, rfl⟩
                rw [hi] at q1 q2 l1
                have l1' : (i : Int) < (nw : Int) := by omega
                have hadd := fun W => run_float_arith (P := Try.prog) W .add 24 .f64 _ _ _ (sumTo_add ts j HW.out m hlt)
                have T := Lib.hid t
                have HI2 := Lib.hid hi
                clear hi t P
                cases ha : above (sumTo ts (m + 1)) (Ieee.double.mul x (sumTo ts j))
                · have hgt := (HI.out (sumTo ts (m + 1))).trans ha
                  have HA := Lib.hid ha
                  clear ha
                  go_wp2
                  go_quiet (fail)
                  go_wp2
                  go_roundw
                  case rel =>
                    refine ⟨m + 1, by omega, by go_num, rfl, T.out.drewN _, fun m' hm' => ?_⟩
                    by_cases e : m' = m
                    · subst e; exact HA.out
                    · exact HB m' (by omega)
                  case measure => simp [intOf]; omega
                · have hgt := (HI.out (sumTo ts (m + 1))).trans ha
                  have HF := Lib.hid (above_yes ts _ j m HL.out hlt HB ha)
                  clear ha
                  go_wp2
                  go_quiet (fail)
                  go_wp2
                  go_ret
                  exact ⟨by rw [HA.out, HF.out, HI2.out]; rfl, T.out.drewN _⟩
              · obtain rfl : m = j := by omega
                have HF := Lib.hid (above_no ts _ m HL.out HB)
                have hlast : m - 1 < m := by omega
                have P := HP.out.touch t
                have q1 := P.idx (m - 1) hlast
                obtain ⟨i, hi⟩ : ∃ i, is.getD (m - 1) 0 = i := ⟨_, rfl⟩
                rw [hi] at q1
                have HI2 := Lib.hid hi
                have hsub : IntKind.i64.wrap ((m : Int) - 1) = (m : Int) - 1 := IntWalk.i64_in _ (by omega)
                have hsub2 : ((m : Int) - 1).toNat = m - 1 := by omega
                have hsub3 : (0 : Int) ≤ (m : Int) - 1 := by omega
                have hsub4 : (m : Int) - 1 < (m : Int) := by omega
                clear hlt hm P hi
                go_wp2
                go_ret
                exact ⟨by rw [HA.out, HF.out, HI2.out]; rfl, t⟩
end Go.Proofs.Ytaendccnjiagiaa
