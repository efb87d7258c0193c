/-
  The reference's IDs.
-/
import Derived.Test.YtaendccnjiagiaaRTurn
namespace Go.Proofs.Ytaendccnjiagiaa
open Go.RowKit
attribute [local go_sem] run_store_float

/-- the ids that IDs tells. -/
def RIdsPost (w : World) (ids : List Int) (e : Ending) (w' : World) : Prop :=
  ∃ a n c own, e = .returned (.slice a n c) ∧ Row w' 30 1 a n c own (u64s ids) ∧ Touch [] w w' ∧ ∀ b ∈ own, w.heap.size ≤ b

set_option maxRecDepth 100000 in
set_option maxHeartbeats 800000 in
theorem rids_queue (w : World) (bp : Nat) (S : Pool) (own : List Nat) (hok : S.Ok) (hR : RRep w bp S own) :
    Calls Try.prog 36 #[.pointer (some ⟨bp, 0, none⟩), .bool false, .bool true] w (RIdsPost w (idsOf S.queue)) := by
  obtain ⟨aw, nw, cw, ow, aq, mq, cq, oq, hp, rfl⟩ := hR
  obtain ⟨hnw, hnq⟩ := hp.nw
  have hlq := hok.lq
  have hr2 := hok.r2
  have hn : mq ≤ 1024 := by omega
  have HN := Lib.hid hnq
  have HP := Lib.hid hp
  have c4 := hp.at_.cell 4
  simp at c4
  clear hnw hnq hlq hr2 hp
  go_enter Try.func36, Try.ntmps36
  go_wp2_with fail
  have hrow := HP.out.queue
  go_loopw [8, 7] (fun i s wr => ∃ k no co ao oo, k ≤ mq ∧ i = .int .i64 (k : Nat) ∧ s = .slice ao no co ∧ Touch [] w wr ∧ no ≤ k ∧ Hid (Row wr 30 1 ao no co oo (u64s (idsOf (S.queue.take k))) ∧ ∀ b ∈ oo, w.heap.size ≤ b)) (fun i _ _ => mq - (intOf i).toNat)
  case atStart => exact ⟨0, 0, 0, none, [], by omega, rfl, rfl, Touch.refl _ _, by omega, Row.nil _ _ _ _, by simp⟩
  case round =>
    obtain ⟨k, no, co, ao, oo, hk, rfl, rfl, t, hno, HR⟩ := hrel
    have c4' := (HP.out.at_.touch t (by simp)).cell 4
    simp at c4'
    by_cases hlt : k < mq
    · obtain ⟨b, off, _, rfl, -⟩ := hrow.form (by have := hrow.2.1; omega)
      obtain ⟨u, hu⟩ : ∃ u, S.queue[k]? = some u := ⟨_, List.getElem?_eq_getElem (by rw [← HN.out]; exact hlt)⟩
      obtain ⟨t0, -, -, -⟩ := (hrow.touch t (by simp)).task hu
      have lb := hrow.lt b (by have := hrow.form (by have := hrow.2.1; omega); obtain ⟨b', _, _, h1, h2, _⟩ := this; cases h1; simp [h2])
      have lb2 := Nat.lt_of_lt_of_le lb t.size
      have lp := Nat.lt_of_lt_of_le HP.out.at_.lt t.size
      obtain ⟨i0, hi, hz0, hz1, hz2⟩ := info_parts Try.infoU64
      have HT := Lib.hid hu
      have T := Lib.hid t
      clear hu t
      go_wp2_with (at_builtin; refine wpList_append_row _ rfl (.tmp 20) (.tmp 29) 34 rfl 30 i0 _ 1 8 Try.u64sT hi hz0 hz1 hz2 rfl (by decide) ao no co oo _ rfl (HR.1.alloc _) (some ⟨wr.heap.size, 0, none⟩) 1 1 [.int .u64 u.id] rfl rfl (.inr ⟨_, rfl, World.news_of_block (cs := #[.int .u64 u.id]) (t := 30) (fr := (0, 0)) (heap_alloc_new wr _)⟩) (by simp [Value.oneCell']) (by unfold maxLen; omega) (by omega) ?_; intro a' cap' own' w3 hrow3 ht3 hown3 _ _)
      go_roundw
      case rel =>
        refine ⟨k + 1, no + 1, cap', a', own', by omega, by go_num, rfl, (T.out.alloc _).trans ht3 (fun b hb => .inr (HR.2 b hb)), by omega, ?_, ?_⟩
        · have e : S.queue.take (k + 1) = S.queue.take k ++ [u] := by rw [List.take_add_one, HT.out]; rfl
          rw [e]
          simpa [u64s, idsOf] using hrow3
        · intro c hc
          rcases hown3 with rfl | rfl
          · exact HR.2 c hc
          · simp at hc; subst hc; have := T.out.size; omega
      case measure => simp [intOf]; omega
    · obtain rfl : k = mq := by omega
      go_wp2_with fail
      go_ret
      refine ⟨ao, no, co, oo, rfl, ?_, t, HR.2⟩
      have := HR.1
      rwa [List.take_of_length_le (by rw [← HN.out]; exact Nat.le_refl _)] at this

set_option maxRecDepth 100000 in
set_option maxHeartbeats 1600000 in
theorem rids_list (w : World) (bp : Nat) (S : Pool) (own : List Nat) (hok : S.Ok) (hR : RRep w bp S own) (q : Bool) :
    Calls Try.prog 36 #[.pointer (some ⟨bp, 0, none⟩), .bool q, .bool false] w (RIdsPost w (idsOf (S.work.filter (kept q)))) := by
  obtain ⟨aw, nw, cw, ow, aq, mq, cq, oq, hp, rfl⟩ := hR
  obtain ⟨hnw, hnq⟩ := hp.nw
  have hlq := hok.lw
  have hr2 := hok.w2
  have hn : nw ≤ 1024 := by omega
  have HN := Lib.hid hnw
  have HP := Lib.hid hp
  have c3 := hp.at_.cell 3
  simp at c3
  clear hnw hnq hlq hr2 hp
  cases q
  · go_enter Try.func36, Try.ntmps36
    go_wp2_with fail
    have hrow := HP.out.work
    go_loopw [9, 7] (fun i s wr => ∃ k no co ao oo, k ≤ nw ∧ i = .int .i64 (k : Nat) ∧ s = .slice ao no co ∧ Touch [] w wr ∧ no ≤ k ∧ Hid (Row wr 30 1 ao no co oo (u64s (idsOf ((S.work.take k).filter (kept false)))) ∧ ∀ b ∈ oo, w.heap.size ≤ b)) (fun i _ _ => nw - (intOf i).toNat)
    case atStart => exact ⟨0, 0, 0, none, [], by omega, rfl, rfl, Touch.refl _ _, by omega, Row.nil _ _ _ _, by simp⟩
    case round =>
      obtain ⟨k, no, co, ao, oo, hk, rfl, rfl, t, hno, HR⟩ := hrel
      have c3' := (HP.out.at_.touch t (by simp)).cell 3
      simp at c3'
      by_cases hlt : k < nw
      · obtain ⟨b, off, _, rfl, -⟩ := hrow.form (by have := hrow.2.1; omega)
        obtain ⟨u, hu⟩ : ∃ u, S.work[k]? = some u := ⟨_, List.getElem?_eq_getElem (by rw [← HN.out]; exact hlt)⟩
        obtain ⟨t0, -, -, t3⟩ := (hrow.touch t (by simp)).task hu
        have lb := hrow.lt b (by have := hrow.form (by have := hrow.2.1; omega); obtain ⟨b', _, _, h1, h2, _⟩ := this; cases h1; simp [h2])
        have lb2 := Nat.lt_of_lt_of_le lb t.size
        have lp := Nat.lt_of_lt_of_le HP.out.at_.lt t.size
        obtain ⟨i0, hi, hz0, hz1, hz2⟩ := info_parts Try.infoU64
        have HT := Lib.hid hu
        have T := Lib.hid t
        clear hu t
        have HB := Lib.hid (rfl : (0 : Nat) = 0)
        go_wp2_with (at_builtin; refine wpList_append_row _ rfl (.tmp 54) (.tmp 63) 34 rfl 30 i0 _ 1 8 Try.u64sT hi hz0 hz1 hz2 rfl (by decide) ao no co oo _ rfl (HR.1.alloc _) (some ⟨wr.heap.size, 0, none⟩) 1 1 [.int .u64 u.id] rfl rfl (.inr ⟨_, rfl, World.news_of_block (cs := #[.int .u64 u.id]) (t := 30) (fr := (0, 0)) (heap_alloc_new wr _)⟩) (by simp [Value.oneCell']) (by unfold maxLen; omega) (by omega) ?_; intro a' cap' own' w3 hrow3 ht3 hown3 _ _)
        go_roundw
        case rel =>
          refine ⟨k + 1, no + 1, cap', a', own', by omega, by go_num, rfl, (T.out.alloc _).trans ht3 (fun b hb => .inr (HR.2 b hb)), by omega, ?_, ?_⟩
          · have e : (S.work.take (k + 1)).filter (kept false) = (S.work.take k).filter (kept false) ++ [u] := by
              rw [List.take_add_one, HT.out, List.filter_append]; simp [kept]
            rw [e]
            simpa [u64s, idsOf] using hrow3
          · intro c hc
            rcases hown3 with rfl | rfl
            · exact HR.2 c hc
            · simp at hc; subst hc; have := T.out.size; omega
        case measure => simp [intOf]; omega
      · obtain rfl : k = nw := by omega
        go_wp2_with fail
        go_ret
        refine ⟨ao, no, co, oo, rfl, ?_, t, HR.2⟩
        have := HR.1
        rwa [List.take_of_length_le (by rw [← HN.out]; exact Nat.le_refl _)] at this
  · go_enter Try.func36, Try.ntmps36
    go_wp2_with fail
    have hrow := HP.out.work
    go_loopw [9, 7] (fun i s wr => ∃ k no co ao oo, k ≤ nw ∧ i = .int .i64 (k : Nat) ∧ s = .slice ao no co ∧ Touch [] w wr ∧ no ≤ k ∧ Hid (Row wr 30 1 ao no co oo (u64s (idsOf ((S.work.take k).filter (kept true)))) ∧ ∀ b ∈ oo, w.heap.size ≤ b)) (fun i _ _ => nw - (intOf i).toNat)
    case atStart => exact ⟨0, 0, 0, none, [], by omega, rfl, rfl, Touch.refl _ _, by omega, Row.nil _ _ _ _, by simp⟩
    case round =>
      obtain ⟨k, no, co, ao, oo, hk, rfl, rfl, t, hno, HR⟩ := hrel
      have c3' := (HP.out.at_.touch t (by simp)).cell 3
      simp at c3'
      by_cases hlt : k < nw
      · obtain ⟨b, off, _, rfl, -⟩ := hrow.form (by have := hrow.2.1; omega)
        obtain ⟨u, hu⟩ : ∃ u, S.work[k]? = some u := ⟨_, List.getElem?_eq_getElem (by rw [← HN.out]; exact hlt)⟩
        obtain ⟨t0, -, -, t3⟩ := (hrow.touch t (by simp)).task hu
        have lb := hrow.lt b (by have := hrow.form (by have := hrow.2.1; omega); obtain ⟨b', _, _, h1, h2, _⟩ := this; cases h1; simp [h2])
        have lb2 := Nat.lt_of_lt_of_le lb t.size
        have lp := Nat.lt_of_lt_of_le HP.out.at_.lt t.size
        obtain ⟨i0, hi, hz0, hz1, hz2⟩ := info_parts Try.infoU64
        have HT := Lib.hid hu
        have T := Lib.hid t
        clear hu t
        cases hb : u.blk
        · rw [hb] at t3
          have HB := Lib.hid hb
          clear hb
          go_wp2_with (at_builtin; refine wpList_append_row _ rfl (.tmp 54) (.tmp 63) 34 rfl 30 i0 _ 1 8 Try.u64sT hi hz0 hz1 hz2 rfl (by decide) ao no co oo _ rfl (HR.1.alloc _) (some ⟨wr.heap.size, 0, none⟩) 1 1 [.int .u64 u.id] rfl rfl (.inr ⟨_, rfl, World.news_of_block (cs := #[.int .u64 u.id]) (t := 30) (fr := (0, 0)) (heap_alloc_new wr _)⟩) (by simp [Value.oneCell']) (by unfold maxLen; omega) (by omega) ?_; intro a' cap' own' w3 hrow3 ht3 hown3 _ _)
          go_roundw
          case rel =>
            refine ⟨k + 1, no + 1, cap', a', own', by omega, by go_num, rfl, (T.out.alloc _).trans ht3 (fun b hb => .inr (HR.2 b hb)), by omega, ?_, ?_⟩
            · have e : (S.work.take (k + 1)).filter (kept true) = (S.work.take k).filter (kept true) ++ [u] := by
                rw [List.take_add_one, HT.out, List.filter_append]; simp [kept, HB.out]
              rw [e]
              simpa [u64s, idsOf] using hrow3
            · intro c hc
              rcases hown3 with rfl | rfl
              · exact HR.2 c hc
              · simp at hc; subst hc; have := T.out.size; omega
          case measure => simp [intOf]; omega
        · rw [hb] at t3
          have HB := Lib.hid hb
          clear hb
          go_wp2_with fail
          go_roundw
          case rel =>
            refine ⟨k + 1, no, co, ao, oo, by omega, by go_num, rfl, T.out, by omega, ?_, HR.2⟩
            have e : (S.work.take (k + 1)).filter (kept true) = (S.work.take k).filter (kept true) := by
              rw [List.take_add_one, HT.out, List.filter_append]; simp [kept, HB.out]
            rw [e]
            exact HR.1
          case measure => simp [intOf]; omega
      · obtain rfl : k = nw := by omega
        go_wp2_with fail
        go_ret
        refine ⟨ao, no, co, oo, rfl, ?_, t, HR.2⟩
        have := HR.1
        rwa [List.take_of_length_le (by rw [← HN.out]; exact Nat.le_refl _)] at this
end Go.Proofs.Ytaendccnjiagiaa
