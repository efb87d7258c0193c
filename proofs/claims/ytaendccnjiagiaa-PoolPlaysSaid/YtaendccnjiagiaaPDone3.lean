/-
  (*Pool).Done: whatever the id.
-/
import Derived.Test.YtaendccnjiagiaaPDone2
namespace Go.Proofs.Ytaendccnjiagiaa
open Go.RowKit

set_option maxRecDepth 100000 in
set_option maxHeartbeats 1600000 in
theorem done_queue (w : World) (l0 : List Nat) (bp : Nat) (x0 x1 x2 : Int) (l q : List Task) (id : Int) (b off : Nat) (n cap : Nat) (aw : Option Addr) (nw cw bm : Nat) (ow : List Nat) (kv : List (Int × Value)) (j : Nat)
    (hw1 : 1 ≤ x0) (hn : n = q.length) (hn64 : n ≤ 1024) (hnw : nw = l.length) (hnw64 : nw ≤ 64) (hjw : placeOf l id = none) (hj : placeOf q id = some j) (hk : (atKey kv id).getD (.bool false) = .bool true)
    (hM : Mem w w l0 bp x0 x1 x2 aw nw cw ow l (some ⟨b, off, none⟩) n cap [b] q bm kv) :
    Calls Try.prog 16 #[.pointer (some ⟨bp, 0, none⟩), .int .u64 id] w (DonePost w l0 bp x0 x1 x2 l (q.eraseIdx j) bm (delKey kv id)) := by
  have hjl : j < n := by obtain ⟨_, _, _, h, _⟩ := placeOf_some hj; omega
  have hnc : n ≤ cap := hM.queue.2.1
  have hcm : cap ≤ maxLen := hM.queue.2.2.1
  unfold maxLen at hcm
  have HJ := Lib.hid hj
  have HW := Lib.hid hjw
  have HN := Lib.hid hn
  have HQ := Lib.hid hnw
  clear hj hn hnw hjw
  have lb := hM.at_.lt
  have lm := hM.map.lt
  have hM1 := hM.step ((Touch.refl [] w).alloc (.cells #[.int .u64 id] 30))
  have hc1 := At.new w 30 [.int .u64 id]
  have c0 := hM1.at_.cell 0
  simp at c0
  go_enter Try.func16, Try.ntmps16
  go_wp2_with (go_at_call 24; refine (none_no _ _ _ hw1 c0).mono ?_; rintro e w' ⟨rfl, rfl⟩)
  refine region_tail 5 (by kernel_rfl) (by kernel_rfl) (fun w2 t2 => ?_)
  have hM2 := hM1.step t2
  have hc2 := hc1.touch t2 (by simp)
  have hm2 := hM2.map
  have k5 := hM2.at_.cell 5
  have k0 := hc2.cell 0
  simp at k5 k0
  clear t2 hM1 hc1 c0
  simp only [List.take_succ_cons, List.take_zero, List.drop_succ_cons, List.drop_zero]
  repeat still_step
  refine wpStill_nil ?_
  go_wp2_with (at_lookup; refine wpList_lookup_imap KU rfl _ _ false rfl Try.mapT (zeroBool _) rfl hm2 id rfl ?_; simp only [hk])
  refine region_tail 5 (by kernel_rfl) (by kernel_rfl) (fun w3 t3 => ?_)
  have hM3 := hM2.step t3
  have hc3 := hc2.touch t3 (by simp)
  have k5 := hM3.at_.cell 5
  have k0 := hc3.cell 0
  simp at k5 k0
  clear t3 hM2 hc2 hm2
  simp only [List.take_succ_cons, List.take_zero, List.drop_succ_cons, List.drop_zero]
  repeat still_step
  refine wpStill_nil ?_
  go_upto_region 10 with (first | (at_delete; refine wpList_delete_imap KU rfl _ _ rfl Try.mapT rfl hM3.map id rfl ?_; intro w4 hm4 t4; have hM4 := hM3.del hm4 t4; have hc4 := hc3.touch t4 (by simp; omega); have k3 := hM4.at_.cell 3; have k4 := hM4.at_.cell 4; have k0 := hc4.cell 0; simp at k3 k4 k0; have tok1 : True := trivial) | (go_at_call 30; have _t := tok1; refine (index_any _ l id _ _ _ ow _ hM4.work HQ.out (by omega) k0).mono ?_; rintro e w5 ⟨rfl, t5⟩; rw [show idxOf l id = -1 by simp [idxOf, HW.out]]; have hM5 := hM4.step t5; have hc5 := hc4.touch t5 (by simp); have k4 := hM5.at_.cell 4; have k0 := hc5.cell 0; simp at k4 k0; clear tok1) | (go_at_call 30; refine (index_any _ q id _ _ _ [b] _ hM5.queue HN.out (by omega) k0).mono ?_; rintro e w6 ⟨rfl, t6⟩; rw [show idxOf q id = (j : Int) by simp [idxOf, HJ.out]]))
  have hM6 := hM5.step t6
  clear t4 t5 t6 hM3 hM4 hM5 hm4 hc3 hc4 hc5 k3 k4 k0 k5
  go_cut [6] (fun _ wx => CutPostQ w l0 bp x0 x1 x2 aw nw cw ow l (n - 1) (q.eraseIdx j) bm (delKey kv id) wx)
  case first =>
    have k4 := hM6.at_.cell 4
    simp at k4
    obtain ⟨i0, hi, hz0, hz1, hz2⟩ := info_parts Try.infoTask
    have j1 : j ≤ cap := by omega
    have j2 : ¬ cap = 0 := by omega
    have j3 : (j : Int) + 1 ≤ (n : Int) := by omega
    have j4 : (0 : Int) ≤ (j : Int) + 1 := by omega
    have j5 : ((j : Int) + 1).toNat = j + 1 := by omega
    have s1 : IntKind.i64.wrap ((j : Int) + 1) = (j : Int) + 1 := IntWalk.i64_in _ (by omega)
    have h63 : j + (n - (j + 1)) ≤ maxLen := by unfold maxLen; omega
    have hX := Lib.hid (cut_src hM6.queue.drew HN.out (j + 1) (by omega))
    have hL := Lib.hid (erase_len q j n HN.out hjl)
    have hM7 := Lib.hid (hM6.step (Touch.refl [] w6).drew)
    go_region_law ((refine step_append_row _ (by rfl) _ _ _ (by rfl) 62 i0 _ 4 32 Try.tasksT hi hz0 hz1 hz2 rfl (by decide) (some ⟨b, off, none⟩) j cap [b] ((cellsOf q).take (j * 4)) (by rfl) ((hM6.queue.take j (by omega)).drew) _ (n - (j + 1)) _ (cellsOf (q.drop (j + 1))) (by rfl) hL.out hX.out (cellsOf_one _) h63 (by omega) ?_; intro a' cap' own' w7 hrow7 ht7 ho7 _ _; have hat7 := (hM6.at_.drew).touch ht7 hM6.oq_bp; have f4 := hat7.frozen 4; have k4' := hat7.cell 4; simp at k4'))
    all_goals go_wp2_with fail
    all_goals
      go_meet
      rw [erase_cells q j (by rw [← HN.out]; exact hjl), show j + (n - (j + 1)) = n - 1 by omega] at hrow7
      exact ⟨a', cap', own', by simpa [show j + (n - (j + 1)) = n - 1 by omega] using hM7.out.setQueue hrow7 ht7 ho7⟩
  case rest =>
    obtain ⟨a', cap', own', hM8⟩ := hcut
    go_wp2
    go_ret
    exact ⟨rfl, aw, nw, cw, ow, a', n - 1, cap', own', hM8⟩

theorem erase_perm {α : Type} : ∀ (l : List α) (j : Nat) (x : α), l[j]? = some x → l.Perm (x :: l.eraseIdx j)
  | [], j, x, h => by simp at h
  | y :: l, 0, x, h => by simp at h; subst h; simp
  | y :: l, j + 1, x, h => by
    have ih := erase_perm l j x (by simpa using h)
    simp only [List.eraseIdx_cons_succ]
    exact (ih.cons y).trans (List.Perm.swap x y _)
theorem idsOf_append (l l' : List Task) : idsOf (l ++ l') = idsOf l ++ idsOf l' := by simp [idsOf]
theorem Keys.del {kv : List (Int × Value)} {ids ids' : List Int} (h : Keys kv ids) {id : Int} (hm : id ∈ ids) (hp : ids.Perm (id :: ids')) (hnd : ids.Nodup) : Keys (delKey kv id) ids' := by
  have hn : (kv.map (·.1)).Nodup := h.perm.nodup_iff.2 hnd
  unfold delKey
  cases hk : keyAt kv id with
  | none =>
    obtain ⟨p, hp', rfl⟩ := List.mem_map.1 (h.perm.mem_iff.2 hm)
    exact absurd rfl ((keyAt_none hk).1 p hp')
  | some j =>
    obtain ⟨v, h1, h2⟩ := keyAt_some hk
    have hj : j < kv.length := (List.getElem?_eq_some_iff.1 h1).1
    refine ⟨fun p hp' => h.val p ((List.eraseIdx_sublist _ _).subset hp'), ?_⟩
    have h3 : kv.Perm ((id, v) :: kv.eraseIdx j) := erase_perm kv j _ h1
    have h5 : (id :: (kv.eraseIdx j).map (·.1)).Perm (id :: ids') := by
      have := (h3.map (·.1)).symm.trans (h.perm.trans hp)
      simpa using this
    exact (List.perm_cons id).1 h5
theorem ids_erase {l : List Task} {id : Int} {j : Nat} (h : placeOf l id = some j) : (idsOf l).Perm (id :: idsOf (l.eraseIdx j)) := by
  obtain ⟨t, ht, rfl, hj, _⟩ := placeOf_some h
  simpa [idsOf] using (erase_perm l j _ ht).map (·.id)
theorem mem_ids {l : List Task} {id : Int} : id ∈ idsOf l ↔ placeOf l id ≠ none := by
  unfold idsOf
  rw [List.mem_map]
  constructor
  · rintro ⟨t, ht, rfl⟩ hn
    obtain ⟨i, hi⟩ := List.mem_iff_getElem?.1 ht
    exact placeOf_none hn i t hi rfl
  · intro h
    cases hp : placeOf l id with
    | none => exact absurd hp h
    | some j =>
      obtain ⟨t, ht, hid, _⟩ := placeOf_some hp
      exact ⟨t, List.mem_iff_getElem?.2 ⟨j, ht⟩, hid⟩

theorem Mem.rep {w0 w : World} {bp : Nat} {S : Pool} {aw : Option Addr} {nw cw : Nat} {ow : List Nat} {aq : Option Addr} {nq cq : Nat} {oq : List Nat} {bm : Nat} {kv : List (Int × Value)} {l0 : List Nat}
    (h : Mem w0 w l0 bp S.workers S.room S.patience aw nw cw ow S.work aq nq cq oq S.queue bm kv) (hk : Keys kv S.ids) (hok : S.Ok) : ∃ own', Rep w bp S own' ∧ Touch l0 w0 w ∧ ∀ b ∈ own', b ∈ l0 ∨ w0.heap.size ≤ b :=
  ⟨_, ⟨hok, aw, nw, cw, ow, aq, nq, cq, oq, bm, kv, ⟨h.at_, h.work, h.queue, h.map, hk, h.bm_bp, h.ow_bp, h.ow_bm, h.oq_bp, h.oq_bm, h.ow_oq⟩, rfl⟩, h.touch, by
    intro b hb
    simp only [List.mem_cons, List.mem_append] at hb
    rcases hb with rfl | rfl | hb | hb
    · exact .inl h.bp_l
    · exact .inl h.bm_l
    · exact h.ow_l b hb
    · exact h.oq_l b hb⟩
theorem Parts.mem {w : World} {bp : Nat} {S : Pool} {aw : Option Addr} {nw cw : Nat} {ow : List Nat} {aq : Option Addr} {nq cq : Nat} {oq : List Nat} {bm : Nat} {kv : List (Int × Value)}
    (h : Parts w bp S aw nw cw ow aq nq cq oq bm kv) : Mem w w (bp :: bm :: (ow ++ oq)) bp S.workers S.room S.patience aw nw cw ow S.work aq nq cq oq S.queue bm kv :=
  ⟨h.at_, h.work, h.queue, h.map, Touch.refl _ _, by simp, by simp, fun b hb => .inl (by simp [hb]), fun b hb => .inl (by simp [hb]), h.bm_bp, h.ow_bp, h.ow_bm, h.oq_bp, h.oq_bm, h.ow_oq⟩

theorem done_any (w : World) (bp : Nat) (S : Pool) (own : List Nat) (hR : Rep w bp S own) (id : Int) :
    Calls Try.prog 16 #[.pointer (some ⟨bp, 0, none⟩), .int .u64 id] w (After own w (.int .i64 (S.done id).1) fun w' o => Rep w' bp (S.done id).2 o) := by
  obtain ⟨hok, aw, nw, cw, ow, aq, nq, cq, oq, bm, kv, hp, rfl⟩ := (fun h => h : Rep w bp S own → Rep w bp S own) hR
  obtain ⟨hnw, hnq⟩ := hp.nw
  have hlw := hok.lw
  have hlq := hok.lq
  have hw2 := hok.w2
  have hr2 := hok.r2
  unfold Pool.done
  by_cases hid : id ∈ S.ids
  case neg =>
    rw [if_neg hid]
    exact (done_none w bp _ _ _ _ _ bm kv id hok.w1 hp.at_ hp.map (by rw [atKey_none (hp.keys.not_mem hid)]; rfl)).mono fun e w' ⟨he, ht⟩ =>
      ⟨_, he, hR.touch ht (by simp), ht.mono (by simp), fun b hb => .inl hb⟩
  rw [if_pos hid]
  have hk : (atKey kv id).getD (.bool false) = .bool true := by rw [hp.keys.mem hid]; rfl
  cases hj : placeOf S.work id with
  | some j =>
    obtain ⟨t, htj, hti, hjl, -⟩ := placeOf_some hj
    obtain ⟨b, off, cur, rfl, rfl, -⟩ := hp.work.form (by have := hp.work.2.1; omega)
    have h := done_work w _ bp _ _ _ S.work S.queue id b off nw cw aq nq cq bm oq kv j hok.w1 hnw (by omega) hnq (by omega) hj hk hp.mem
    cases hq : S.queue with
    | nil =>
      rw [hq] at h
      simp only [List.take_nil, List.drop_nil, List.append_nil] at h
      have hids : S.ids.Perm (id :: ({ S with work := S.work.eraseIdx j } : Pool).ids) := by
        simp only [Pool.ids, hq]
        simpa [idsOf] using ids_erase hj
      refine h.mono fun e w' ⟨he, a1, n1, c1, o1, a2, n2, c2, o2, hM⟩ => ?_
      have hl : (S.work.eraseIdx j).length ≤ S.work.length := by rw [List.length_eraseIdx]; split <;> omega
      obtain ⟨own', h1, h2, h3⟩ := Mem.rep (S := { S with work := S.work.eraseIdx j }) (by simpa [hq] using hM) (hp.keys.del hid hids hok.nd) ⟨hok.w1, hok.w2, hok.r1, hok.r2, hok.p1, hok.p2, by simp only; omega, hok.lq, fun t ht => hok.wt t ((List.eraseIdx_sublist _ _).subset ht), hok.qt, ((hids.nodup_iff.1 hok.nd)).of_cons⟩
      exact ⟨own', he, by simpa [hq] using h1, h2, h3⟩
    | cons t q =>
      rw [hq] at h
      simp only [List.take_succ_cons, List.take_zero, List.drop_succ_cons, List.drop_zero] at h
      have hids : S.ids.Perm (id :: ({ S with work := S.work.eraseIdx j ++ [t], queue := q } : Pool).ids) := by
        simp only [Pool.ids, hq, idsOf_append]
        have := (ids_erase hj).append_right (idsOf (t :: q))
        simpa [idsOf] using this
      refine h.mono fun e w' ⟨he, a1, n1, c1, o1, a2, n2, c2, o2, hM⟩ => ?_
      have hl : (S.work.eraseIdx j).length + 1 = S.work.length := by rw [List.length_eraseIdx, if_pos hjl]; omega
      rw [hq] at hlq
      have hwt : ∀ t' ∈ S.work.eraseIdx j ++ [t], okW t'.wt = true ∧ 0 ≤ t'.id ∧ t'.id < 18446744073709551616 ∧ -9223372036854775808 ≤ t'.age ∧ t'.age ≤ 9223372036854775807 := by
        intro t' ht'
        simp only [List.mem_append, List.mem_singleton] at ht'
        rcases ht' with ht' | rfl
        · exact hok.wt t' ((List.eraseIdx_sublist _ _).subset ht')
        · have := hok.qt t' (by rw [hq]; simp)
          exact ⟨this.1, this.2.1, this.2.2.1, by rw [this.2.2.2.1]; decide, by rw [this.2.2.2.1]; decide⟩
      obtain ⟨own', h1, h2, h3⟩ := Mem.rep (S := { S with work := S.work.eraseIdx j ++ [t], queue := q }) hM (hp.keys.del hid hids hok.nd) ⟨hok.w1, hok.w2, hok.r1, hok.r2, hok.p1, hok.p2, by simp only [List.length_append, List.length_singleton]; omega, by simp at hlq ⊢; omega, hwt, fun t' ht' => hok.qt t' (by rw [hq]; simp [ht']), ((hids.nodup_iff.1 hok.nd)).of_cons⟩
      exact ⟨own', he, h1, h2, h3⟩
  | none =>
    have hq : id ∈ idsOf S.queue := by
      unfold Pool.ids at hid
      rw [List.mem_append] at hid
      rcases hid with h | h
      · exact absurd hj (mem_ids.1 h)
      · exact h
    cases hjq : placeOf S.queue id with
    | none => exact absurd hjq (mem_ids.1 hq)
    | some j =>
      obtain ⟨t, htj, hti, hjl, -⟩ := placeOf_some hjq
      obtain ⟨b, off, cur, rfl, rfl, -⟩ := hp.queue.form (by have := hp.queue.2.1; omega)
      have h := done_queue w _ bp _ _ _ S.work S.queue id b off nq cq aw nw cw bm ow kv j hok.w1 hnq (by omega) hnw (by omega) hj hjq hk hp.mem
      have hids : S.ids.Perm (id :: ({ S with queue := S.queue.eraseIdx j } : Pool).ids) := by
        simp only [Pool.ids]
        exact ((ids_erase hjq).append_left (idsOf S.work)).trans List.perm_middle
      refine h.mono fun e w' ⟨he, a1, n1, c1, o1, a2, n2, c2, o2, hM⟩ => ?_
      have hl : (S.queue.eraseIdx j).length ≤ S.queue.length := by rw [List.length_eraseIdx]; split <;> omega
      obtain ⟨own', h1, h2, h3⟩ := Mem.rep (S := { S with queue := S.queue.eraseIdx j }) hM (hp.keys.del hid hids hok.nd) ⟨hok.w1, hok.w2, hok.r1, hok.r2, hok.p1, hok.p2, hok.lw, by simp only; omega, hok.wt, fun t ht => hok.qt t ((List.eraseIdx_sublist _ _).subset ht), ((hids.nodup_iff.1 hok.nd)).of_cons⟩
      exact ⟨own', he, h1, h2, h3⟩
end Go.Proofs.Ytaendccnjiagiaa
