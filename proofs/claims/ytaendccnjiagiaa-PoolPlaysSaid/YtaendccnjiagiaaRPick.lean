/-
  The reference's Pick.
-/
import Derived.Test.YtaendccnjiagiaaRWhich
namespace Go.Proofs.Ytaendccnjiagiaa
open Go.RowKit
attribute [local go_sem] run_store_float

theorem rpick_bad (w : World) (bp : Nat) (x : Nat) (hx : okX x = false) :
    Calls Try.prog 35 #[.pointer (some ⟨bp, 0, none⟩), .float .f64 x] w fun e w' => e = .returned (.tuple #[.int .u64 0, .int .i64 2]) ∧ w = w' := by
  unfold okX at hx
  cases h0 : fromZero x
  · have h1 : (FloatKind.f64.format.order x 0 == some .gt || FloatKind.f64.format.order x 0 == some .eq) = false := h0
    clear h0 hx
    go_enter Try.func35, Try.ntmps35
    go_wp2_with fail
    go_ret2
    exact ⟨rfl, rfl⟩
  · rw [h0] at hx
    have h1 : (FloatKind.f64.format.order x 0 == some .gt || FloatKind.f64.format.order x 0 == some .eq) = true := h0
    have h2 : (FloatKind.f64.format.order x 4607182418800017408 == some .lt) = false := hx
    clear h0 hx
    go_enter Try.func35, Try.ntmps35
    go_wp2_with fail
    go_ret2
    exact ⟨rfl, rfl⟩

set_option maxRecDepth 100000 in
set_option maxHeartbeats 3200000 in
theorem rpick_any (w : World) (bp : Nat) (S : Pool) (own : List Nat) (hok : S.Ok) (hR : RRep w bp S own) (x : Nat) :
    Calls Try.prog 35 #[.pointer (some ⟨bp, 0, none⟩), .float .f64 x] w (After own w (.tuple #[.int .u64 (S.pick x).1, .int .i64 (S.pick x).2.1]) fun w' o => RRep w' bp (S.pick x).2.2 o) := by
  by_cases hx : okX x = true
  case neg =>
    have hx' : okX x = false := by simpa using hx
    have e : S.pick x = (0, 2, S) := by unfold Pool.pick; rw [if_pos hx']
    rw [e]
    exact (rpick_bad w bp x hx').mono fun e w' ⟨he, hw⟩ => ⟨_, he, hw ▸ hR, hw ▸ Touch.refl _ _, fun b hb => .inl hb⟩
  have h1 : (FloatKind.f64.format.order x 0 == some .gt || FloatKind.f64.format.order x 0 == some .eq) = true := (Bool.and_eq_true_iff.1 hx).1
  have h2 : (FloatKind.f64.format.order x 4607182418800017408 == some .lt) = true := (Bool.and_eq_true_iff.1 hx).2
  have hrun := runnableR_any w bp S own hok hR
  obtain ⟨pk, hpk⟩ : ∃ pk, S.pick x = pk := ⟨_, rfl⟩
  rw [hpk]
  have HPK := Lib.hid hpk
  clear hpk
  have H := Lib.hid hrun
  have HR := Lib.hid hR
  have HOK := Lib.hid hok
  have HX := Lib.hid hx
  clear hrun hx hR hok
  go_enter Try.func35, Try.ntmps35
  go_wp2_with fail
  refine H.out.mono ?_
  rintro e w1 ⟨ai, ni, ci, oi, rfl, hni, hri, t1, hoi⟩
  by_cases h0 : runIdx S.work = []
  · have hn0 : ni = 0 := by rw [hni, h0]; rfl
    subst hn0
    have e : S.pick x = (0, 5, S) := by unfold Pool.pick; rw [if_neg (by rw [HX.out]; decide), if_pos h0]
    have E := Lib.hid (HPK.out.symm.trans e)
    clear e h0 hni hri
    go_wp2_with fail
    go_ret2
    rw [E.out]
    exact ⟨_, rfl, HR.out.touch t1 (by simp), t1.mono (by simp), fun b hb => .inl hb⟩
  · have hlen : 0 < (runIdx S.work).length := by
      rcases Nat.eq_zero_or_pos (runIdx S.work).length with h | h
      · exact absurd (List.eq_nil_of_length_eq_zero h) h0
      · exact h
    have h00 : ((ni : Int) == 0) = false := beq_eq_false_iff_ne.2 (by omega)
    have e : S.pick x = ((tk S.work ((runIdx S.work).getD (whichOf S.patience x ((runIdx S.work).map (tk S.work))) 0)).id, 0, { S with work := (agedTo S.work (runIdx S.work)).set ((runIdx S.work).getD (whichOf S.patience x ((runIdx S.work).map (tk S.work))) 0) { tk (agedTo S.work (runIdx S.work)) ((runIdx S.work).getD (whichOf S.patience x ((runIdx S.work).map (tk S.work))) 0) with age := 0 } }) := by
      unfold Pool.pick; rw [if_neg (by rw [HX.out]; decide), if_neg h0]
    have hR1 := HR.out.touch t1 (l := []) (by simp)
    obtain ⟨aw, nw, cw, ow, aq, mq, cq, oq, hp, rfl⟩ := (fun h => h : RRep w1 bp S own → RRep w1 bp S own) hR1
    obtain ⟨hnw, hnq⟩ := hp.nw
    have hlw := HOK.out.lw
    have hw2 := HOK.out.w2
    have hrl := runTo_len S.work S.work.length
    have hni64 : ni ≤ 64 := by rw [hni]; unfold runIdx; omega
    have hil : ∀ j, j < ni → (runIdx S.work).getD j 0 < nw := fun j hj => by
      rw [hnw]; exact runTo_lt S.work _ _ (getD_mem (by unfold runIdx at hni; omega))
    have hnw0 : 0 < nw := by have := hil 0 (by omega); omega
    obtain ⟨b, off, _, rfl, rfl, -⟩ := hp.work.form (by have := hp.work.2.1; omega)
    obtain ⟨g, goff, _, rfl, rfl, -⟩ := hri.form (by have := hri.2.1; omega)
    obtain ⟨is, his⟩ : ∃ is, runIdx S.work = is := ⟨_, rfl⟩
    rw [his] at hni hil hri hlen e
    have lg := hoi g (by simp)
    have hlo := HR.out.lt
    have hgb : g ≠ b := by have := hlo b (by simp); omega
    have hgbp : g ≠ bp := by have := hlo bp (by simp); omega
    have hbbp : b ≠ bp := by have := hp.ow_bp; simp at this; exact fun h => this h.symm
    have lg1 := hri.lt g (by simp)
    have c2 := hp.at_.cell 2
    have c3 := hp.at_.cell 3
    simp at c2 c3
    have hidx : ∀ (W : World), Touch [b] w1 W → ∀ k, k < ni → W.cell? ⟨g, goff + k, none⟩ = some (.int .i64 (is.getD k 0 : Nat)) := by
      intro W t k hk
      rw [t.cell (p := ⟨g, goff + k, none⟩) lg1 (by simpa using hgb)]
      refine hri.cellSome k _ ?_
      unfold i64s
      rw [List.getElem?_map, List.getElem?_eq_getElem (by omega)]
      simp [List.getD, List.getElem?_eq_getElem (show k < is.length by omega)]
    have hP : RPtrs w1 bp g goff ni b off nw cw S.patience is (is.map (tk S.work)) := by
      refine ⟨c2, c3, hidx w1 (Touch.refl _ _), hil, fun k hk => ?_, fun k hk => ?_⟩
      · rw [tk_map (by omega)]
        exact (hp.work.task (tk_some (by rw [← hnw]; exact hil k hk))).2.1
      · rw [tk_map (by omega)]
        exact (hp.work.task (tk_some (by rw [← hnw]; exact hil k hk))).2.2.1
    have hwt : ∀ j, j < ni → Fl.Pos (tk (is.map (tk S.work)) j).wt := by
      intro j hj
      rw [tk_map (by omega)]
      have := (HOK.out.wt _ (List.mem_iff_getElem?.2 ⟨_, tk_some (l := S.work) (by rw [← hnw]; exact hil j hj)⟩)).1
      unfold okW at this
      rw [Bool.and_eq_true, decide_eq_true_iff, decide_eq_true_iff] at this
      unfold Fl.Pos; omega
    have hwh := whichR_any w1 bp S.patience g goff ni ci b off nw cw is _ x hP (by omega) hni64 (by simp [hni]) hwt
    obtain ⟨wi, hwi⟩ : ∃ wi, whichOf S.patience x (is.map (tk S.work)) = wi := ⟨_, rfl⟩
    have hwin : wi < ni := by rw [← hwi]; have := whichOf_lt S.patience x (is.map (tk S.work)) (by simp; omega); simp at this; omega
    rw [hwi] at hwh e
    obtain ⟨at_, hat⟩ : ∃ q, is.getD wi 0 = q := ⟨_, rfl⟩
    rw [hat] at hwh e
    have hatn : at_ < nw := by rw [← hat]; exact hil wi hwin
    have E := Lib.hid (HPK.out.symm.trans e)
    have WH := Lib.hid hwh
    have HIDX := Lib.hid hidx
    have HIL := Lib.hid hil
    have HN := Lib.hid hnw
    have HNI := Lib.hid hni
    have HP := Lib.hid hp
    have HLO := Lib.hid hlo
    have T1 := Lib.hid t1
    have lbp := hp.at_.lt
    have lb := hp.work.lt b (by simp)
    have hcw : 0 < cw := by have := hp.work.2.1; omega
    have hcwn : nw ≤ cw := hp.work.2.1
    clear e h0 hni hri t1 hoi hR1 hp hnw hnq hlw hw2 hrl hil hlen his c2 hidx hP hwt hwh hwi hat hlo c3
    go_wp2_with fail
    refine WH.out.mono ?_
    rintro e w5 ⟨rfl, t5⟩
    have T5 := Lib.hid t5
    have lg5 : g < w5.heap.size := Nat.lt_of_lt_of_le lg1 t5.size
    have lbp5 : bp < w5.heap.size := Nat.lt_of_lt_of_le lbp t5.size
    clear t5
    go_wp2_with fail
    go_loopw [8] (fun i wr => ∃ j : Nat, j ≤ ni ∧ i = .int .i64 j ∧ Touch [b] w5 wr ∧ Hid (Row wr 82 4 (some ⟨b, off, none⟩) nw cw [b] (cellsOf (agedTo S.work (is.take j))))) (fun i _ => ni - (intOf i).toNat)
    case atStart => exact ⟨0, by omega, rfl, Touch.refl _ _, (HP.out.work.touch T5.out (by simp))⟩
    case round =>
      obtain ⟨j, hj, rfl, t6, HR6⟩ := hrel
      have t16 : Touch [b] w1 wr := (T5.out.mono (by simp)).trans' t6
      have hat6 := HP.out.at_.touch t16 (by simpa using hbbp.symm)
      have c3 := hat6.cell 3
      simp at c3
      have hA := aged_to S.work (is.take j)
      by_cases hlt : j < ni
      · have q1 := HIDX.out wr t16 j hlt
        obtain ⟨i, hi⟩ : ∃ i, is.getD j 0 = i := ⟨_, rfl⟩
        have l1 := HIL.out j hlt
        rw [hi] at q1 l1
        have l1' : (i : Int) < (nw : Int) := by omega
        have hAl : i < (agedTo S.work (is.take j)).length := by rw [hA.len, ← HN.out]; exact l1
        obtain ⟨-, -, q3, -⟩ := Row.task HR6 (tk_some hAl)
        have HA := Lib.hid hAl
        obtain ⟨old, hold⟩ : ∃ old, tk (agedTo S.work (is.take j)) i = old := ⟨_, rfl⟩
        rw [hold] at q3
        have HO := Lib.hid hold
        have HI := Lib.hid hi
        have T6 := Lib.hid t6
        clear hA hAl t6 hold hi t16 hat6
        go_wp2_with fail
        refine region_tail 14 (by kernel_rfl) (by kernel_rfl) (fun w7 t7 => ?_)
        have c3 := (t7.cell (p := ⟨bp, 3, none⟩) (World.block_lt_of_cell? _ _ c3) (by simp)).trans c3
        have q1 := (t7.cell (p := ⟨g, goff + j, none⟩) (World.block_lt_of_cell? _ _ q1) (by simp)).trans q1
        have q3 := (t7.cell (p := ⟨b, off + i * 4 + 2, none⟩) (World.block_lt_of_cell? _ _ q3) (by simp)).trans q3
        have HR7 := Lib.hid (Row.touch HR6 t7 (by simp))
        have f3 := Row.frozen HR7.out (by omega) (off + i * 4 + 2)
        have T7 := Lib.hid (T6.out.trans t7 (by simp))
        clear t7
        simp only [List.take_succ_cons, List.take_zero, List.drop_succ_cons, List.drop_zero]
        repeat still_step
        refine wpStill_nil ?_
        go_wp2_with fail
        go_roundw
        case rel =>
          refine ⟨j + 1, by omega, by go_num, T7.out.setCell _ (by simp) _, ?_⟩
          have h5 := Row.set HR7.out (i * 4 + 2) (by omega) (.int .i64 (wrap64 (old.age + 1)))
          rw [cellsOf_set_age _ _ _ _ (tk_some HA.out), ← Nat.add_assoc, HO.out] at h5
          rw [agedTo_snoc S.work is j (by rw [← HNI.out]; exact hlt), HI.out]
          unfold agedAt
          rw [HO.out]
          exact h5
        case measure => simp [intOf]; omega
      · obtain rfl : j = ni := by omega
        have e1 : is.take j = is := List.take_of_length_le (by rw [HNI.out]; exact Nat.le_refl _)
        rw [e1] at hA
        have h6 : Row wr 82 4 (some ⟨b, off, none⟩) nw cw [b] (cellsOf (agedTo S.work is)) := by have := HR6; rw [e1] at this; exact this
        have hAl : at_ < (agedTo S.work is).length := by rw [hA.len, ← HN.out]; exact hatn
        obtain ⟨q0, -, q2, -⟩ := h6.task (tk_some hAl)
        have hid := hA.id at_ (by rw [← HN.out]; exact hatn)
        rw [hid] at q0
        have f3 := h6.frozen (by omega) (off + at_ * 4 + 2)
        have l1' : (at_ : Int) < (nw : Int) := by omega
        have h7 := h6.set (at_ * 4 + 2) (by omega) (.int .i64 0)
        rw [cellsOf_set_age _ _ _ _ (tk_some hAl), ← Nat.add_assoc] at h7
        have H7 := Lib.hid h7
        have T16 := Lib.hid (t16.setCell ⟨b, off + at_ * 4 + 2, none⟩ (by simp) (.int .i64 0))
        have hne : bp ≠ b := fun h => hbbp h.symm
        clear e1 h6 hAl hA hid h7 t16 t6 HR6 hat6
        go_wp2_with fail
        go_ret2
        rw [E.out]
        exact ⟨_, rfl, RRep.setWork HP.out H7.out (T16.out), (T1.out.mono (by simp)).trans T16.out (by simp), fun b hb => .inl hb⟩
end Go.Proofs.Ytaendccnjiagiaa
