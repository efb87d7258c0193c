/-
  The document's locks: one takes what nobody has.
-/
import Derived.Test.YtppgeljlmckimaaDoorQWaits
import Derived.Test.YtppgeljlmckimaaDoorLGoes
namespace Go.Proofs.YtppgeljlmckimaaDoor
open Go.RowKit

structure QGoesRel (w : World) (rp : Nat) (col : Nat → Option QTag) (i : Int) (ex : List Int) (blk : Int → Nat) (la : Option Addr) (ln lc : Nat) (lo : List Nat) (qa : Option Addr) (qn qc : Nat) (qo : List Nat) (S0 S : Lk) (wr : World) : Prop where
  p : QParts wr rp col S blk la ln lc lo qa qn qc qo
  inv : Lk.Inv (i :: ex) S
  all : S.goesAll i = S0.goesAll i
  paths : S.paths = S0.paths
  order : S.order = S0.order
  queue : S.queue = S0.queue
  later : Later noTag w col wr col
def QGoesPost (w : World) (rp : Nat) (col : Nat → Option QTag) (blk : Int → Nat) (r : Lk × Bool) (e : Ending) (w' : World) : Prop :=
  e = .returned (.bool r.2) ∧ ∃ col', QAt w' rp col' r.1 blk ∧ Later noTag w col w' col'
def QGoesWait (w : World) (rp : Nat) (col : Nat → Option QTag) (blk : Int → Nat) (S : Lk) (w' : World) : Prop := ∃ col', QAt w' rp col' S blk ∧ Later noTag w col w' col'
theorem QParts.qat {w : World} {rp : Nat} {col : Nat → Option QTag} {S : Lk} {blk : Int → Nat} {la : Option Addr} {ln lc : Nat} {lo : List Nat} {qa : Option Addr} {qn qc : Nat} {qo : List Nat} (h : QParts w rp col S blk la ln lc lo qa qn qc qo) : QAt w rp col S blk := ⟨_, _, _, _, _, _, _, _, h⟩

set_option maxRecDepth 100000 in
set_option maxHeartbeats 3200000 in
theorem qgoes_any (w : World) (rp : Nat) (col : Nat → Option QTag) (S : Lk) (blk : Int → Nat) (hQ : QAt w rp col S blk) (i : Int) (ex : List Int) (hio : i ∈ S.order) (hinv : Lk.Inv (i :: ex) S) (hp : (S.paths i).length ≤ 128) (hq : S.queue.length ≤ 1000) :
    Calls Tryd.prog 28 #[.pointer (some ⟨rp, 0, none⟩), .pointer (some ⟨blk i, 0, none⟩)] w (QGoesPost w rp col blk (S.goesAll i)) := by
  obtain ⟨la, ln, lc, lo, qa, qn, qc, qo, h⟩ := hQ
  have hqn := h.qnEq
  have hqn1 : qn ≤ 1000 := by omega
  have R0 := Lib.hid (QGoesRel.mk (ex := ex) h hinv rfl rfl rfl rfl (Later.refl w col))
  clear h hinv hqn
  go_enter Tryd.func28, Tryd.ntmps28
  go_wp2
  go_loopw [] (fun wr => ∃ S', QGoesRel w rp col i ex blk la ln lc lo qa qn qc qo S S' wr) (fun wr => 128 - hasCell wr (blk i))
  case atStart => exact ⟨S, R0.out⟩
  case round =>
    obtain ⟨S', hR⟩ := hrel
    have hio' : i ∈ S'.order := by rw [hR.order]; exact hio
    obtain ⟨a, n, c, o, hob⟩ := hR.p.obj i hio'
    have d0 := hob.at_.cell 0
    have d1 := hob.at_.cell 1
    have d2 := hob.at_.cell 2
    simp at d0 d1 d2
    have hn : n = (S'.paths i).length := by have := hob.row.1; simpa [u64s] using this.symm
    have hn128 : n ≤ 128 := by rw [hn, hR.paths]; exact hp
    have hcell : hasCell wr (blk i) = S'.has i := by unfold hasCell; rw [d2]; simp
    have HC := Lib.hid hcell
    have hl := hR.inv.hl i
    have HR := Lib.hid hR
    clear R0 hcell
    cases hx : S'.next i with
    | none =>
      have hh := Lk.next_none hx
      have e := Lk.goesAll_none hx
      have E := Lib.hid (hR.all.symm.trans e)
      have hge : ¬ (S'.has i < n) := by omega
      have hge' : ¬ (((S'.has i : Nat) : Int) < (n : Int)) := by omega
      have hd : decide (S'.has i < n) = false := decide_eq_false hge
      clear e hx hh hl hob hR d0
      go_wp2
      go_quiet (fail)
      go_wp2
      go_ret
      rw [E.out]
      exact ⟨rfl, col, (HR.out.p.step ((Touch.refl _ _).drewN _)).qat, HR.out.later.step ((Touch.refl _ _).drewN _)⟩
    | some p =>
      obtain ⟨hlt, -⟩ := Lk.next_lt hx
      obtain ⟨k, hk⟩ : ∃ k, S'.has i = k := ⟨_, rfl⟩
      obtain ⟨b, off, -, rfl, -⟩ := hob.row.form (by have := hob.row.2.1; omega)
      have d4 := hob.row.cellSome k (.int .u64 p) (by unfold u64s; rw [List.getElem?_map]; unfold Lk.next at hx; rw [hk] at hx; rw [hx]; rfl)
      rw [hk] at d2 hlt
      have hkn : (k : Int) < (n : Int) := by omega
      have hnc := hob.row.2.1
      have HX := Lib.hid hx
      have HK := Lib.hid hk
      have HOB := Lib.hid hob
      clear hx hk hn hl hob hR hlt d0
      go_wp2
      go_quiet (fail)
      generalize hw1 : World.drewN _ _ = w1
      have t1 : Touch [] wr w1 := by subst hw1; exact (Touch.refl _ _).drewN _
      have keep : ∀ (B O : Nat) (v : Value), wr.cell? ⟨B, O, none⟩ = some v → w1.cell? ⟨B, O, none⟩ = some v := fun B O v hc => (t1.cell (p := ⟨B, O, none⟩) (World.block_lt_of_cell? _ _ hc) (by simp)).trans hc
      have d1 := keep _ _ _ d1
      have d2 := keep _ _ _ d2
      have d4 := keep _ _ _ d4
      have CH : ∀ nq, Calls Tryd.prog 30 #[.pointer (some ⟨rp, 0, none⟩), .int .u64 p] (w1.drewN nq) fun e w' => e = .returned (holderV (S'.held p)) ∧ w' = w1.drewN nq := fun nq =>
        (qholder_any (w1.drewN nq) rp col S' blk (HR.out.p.step (t1.trans' ((Touch.refl _ _).drewN nq))).qat HR.out.inv.hl p).mono fun e w' ⟨x, y⟩ => ⟨x, y.symm⟩
      have T1 := Lib.hid t1
      clear hw1 keep t1
      go_wp2
      cases hh : S'.held p with
      | some j =>
        rw [hh] at CH
        have HH := Lib.hid hh
        clear hh
        unfold holderV at CH
        go_quiet ((go_at_call 30; exact Calls.quiet_of_same (CH _)))
        clear CH
        generalize hw2 : World.drewN _ _ = w2
        have t2 : Touch [] w1 w2 := by subst hw2; exact (Touch.refl _ _).drewN _
        have T2 := Lib.hid (T1.out.trans' t2)
        clear hw2 t2 d1 d2 d4
        have h2 := HR.out.p.step T2.out
        have hA2 := HOB.out.at_.touch T2.out (by simp)
        have c1 := h2.at_.cell 1
        have d0 := hA2.cell 0
        simp at c1 d0
        have hro := h2.row_ne.2
        have hr2d := h2.queue.drew
        have h2d := h2.at_.drew
        have lrp := h2.at_.lt
        have lb2 := hA2.lt
        have H2 := Lib.hid h2
        have e2 : (S.goesAll i).2 = false := by rw [← HR.out.all, Lk.goesAll_wait HX.out HH.out]
        have E2 := Lib.hid e2
        clear h2 hA2 e2
        go_upto_region 4 with (fail)
        go_cut [] (fun wx => QGoesWait w rp col blk (S.goesAll i).1 wx)
        case first =>
          obtain ⟨i0, hii, hz0, hz1, hz2⟩ := info_parts Tryd.infoInt
          go_region_law ((refine step_append_row _ (by rfl) _ _ _ (by rfl) 3 i0 _ 1 8 Tryd.intsT hii hz0 hz1 hz2 rfl (by decide) qa qn qc qo _ (by rfl) (hr2d.alloc _) (some ⟨w2.heap.size, 0, none⟩) 1 1 [.int .i64 i] (by rfl) (by rfl) (.inr ⟨_, rfl, World.news_of_block (cs := #[.int .i64 i]) (t := 3) (fr := (0, 0)) (heap_alloc_new w2.drew _)⟩) (by simp [Value.oneCell']) (by unfold maxLen; omega) (by omega) ?_; intro a9 cap9 own9 w9 hrow9 ht9 hown9 _ _; have hat9 := (h2d.alloc _).touch ht9 hro; have f9 := hat9.frozen 1; have k9 := hat9.cell 1; simp at k9))
          all_goals go_wp2_with fail
          all_goals
            go_meet
            have e := Lk.goesAll_wait HX.out HH.out
            rw [← HR.out.all, e]
            have tt := ((Touch.refl [] w2).drew.alloc (.cells #[.int .i64 i] 3)).mono (l' := qo) (by simp) |>.trans ht9 (fun b hb => .inl hb)
            have hfin := H2.out.setQueue (q' := S'.queue ++ [i]) tt (by simpa [ints] using hrow9) (fun b hb => by
              rcases hown9 with h | h
              · rw [h] at hb; exact .inl hb
              · rw [h] at hb; simp at hb; subst hb; exact .inr (by simp))
            refine ⟨_, hfin.qat, (HR.out.later.step T2.out).trans (Later.of ((tt.mono (l' := rp :: qo) (fun x hx => .inl (by simp [hx]))).setCell ⟨rp, 1, none⟩ (by simp) _) (fun x hx _ => ?_) (fun b hb => paint_old _ _ _ hb))⟩
            rcases List.mem_cons.1 hx with rfl | hx
            · exact ⟨_, H2.out.c_rp, fun h => h⟩
            · exact ⟨_, H2.out.c_qo x hx, fun h => h⟩
        case rest =>
          obtain ⟨col', hfin, hlat⟩ := hcut
          have HF := Lib.hid hfin
          have HLT := Lib.hid hlat
          clear hfin hlat
          go_wp2_with fail
          go_ret
          exact ⟨by rw [E2.out]; rfl, col', HF.out, HLT.out⟩
      | none =>
        rw [hh] at CH
        have HH := Lib.hid hh
        clear hh
        unfold holderV at CH
        go_quiet ((go_at_call 30; exact Calls.quiet_of_same (CH _)))
        clear CH
        generalize hw2 : World.drewN _ _ = w2
        have t2 : Touch [] w1 w2 := by subst hw2; exact (Touch.refl _ _).drewN _
        have T2 := Lib.hid (T1.out.trans' t2)
        clear hw2 t2 d1 d2 d4
        have hA2 := HOB.out.at_.touch T2.out (by simp)
        have d2 := hA2.cell 2
        have f2 := hA2.frozen 2
        have lb2 := hA2.lt
        simp at d2
        rw [HK.out] at d2
        have HA2 := Lib.hid hA2
        clear hA2
        go_wp2
        go_roundw
        case rel =>
          have hA5 : At (w2.setCell ⟨blk i, 2, none⟩ (.int .i64 ((k : Int) + 1))) (blk i) 82 [.int .i64 i, .slice (some ⟨b, off, none⟩) n c, .int .i64 ((k + 1 : Nat) : Int)] := by
            have := HA2.out.set 2 (.int .i64 ((k : Int) + 1))
            simpa using this
          have hno : blk i ∉ o := fun hm => by { have := HOB.out.co _ hm; rw [HOB.out.cb] at this; cases this }
          have hr5 := (HOB.out.row.touch T2.out (by simp)).touch ((Touch.refl [blk i] w2).setCell ⟨blk i, 2, none⟩ (by simp) (.int .i64 ((k : Int) + 1))) (fun x hx => by simp; rintro rfl; exact hno hx)
          have e := Lk.goesAll_take HX.out HH.out
          have hinv := HR.out.inv.take hio' (by simp) HX.out HH.out
          rw [HK.out] at hinv e
          have hfin := (HR.out.p.step T2.out).setObj (S' := S'.setHas i (k + 1)) (i := i) (w' := w2.setCell ⟨blk i, 2, none⟩ (.int .i64 ((k : Int) + 1))) rfl rfl (fun j hj => ⟨rfl, Lk.up_other _ _ hj⟩)
            (by rw [show (S'.setHas i (k + 1)).has i = k + 1 from Lk.up_same _ _ _]; exact ⟨_, n, c, o, hA5, hr5, HOB.out.cb, HOB.out.co⟩) ((Touch.refl [blk i] w2).setCell ⟨blk i, 2, none⟩ (by simp) _) HOB.out.cb
          refine ⟨S'.setHas i (k + 1), hfin, hinv, e.symm.trans HR.out.all, HR.out.paths, HR.out.order, HR.out.queue, (HR.out.later.step T2.out).trans (Later.of ((Touch.refl [blk i] w2).setCell ⟨blk i, 2, none⟩ (by simp) _) (fun x hx _ => ?_) (fun _ _ => rfl))⟩
          simp at hx
          subst hx
          exact ⟨_, HOB.out.cb, fun h => h⟩
        case measure =>
          have h5 := (HA2.out.set 2 (.int .i64 ((k : Int) + 1))).cell 2
          simp at h5
          have e5 : hasCell (w2.setCell ⟨blk i, 2, none⟩ (.int .i64 ((k : Int) + 1))) (blk i) = k + 1 := by
            unfold hasCell
            rw [h5]
            show ((k : Int) + 1).toNat = k + 1
            omega
          rw [e5, HC.out, HK.out]
          omega
end Go.Proofs.YtppgeljlmckimaaDoor
