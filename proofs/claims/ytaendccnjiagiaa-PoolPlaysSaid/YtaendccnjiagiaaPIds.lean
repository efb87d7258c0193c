/-
  Runnable, Working, Waiting: the ids that they tell.
-/
import Derived.Test.YtaendccnjiagiaaPFind
namespace Go.Proofs.Ytaendccnjiagiaa
open Go.RowKit
attribute [local go_sem] run_store_float

theorem Try.infoU64 : (Try.prog.info? 30).map (fun i => (i.zero, i.size, i.bytes)) = some (some (.int .u64 0), 1, 8) := by kernel_rfl
theorem Try.u64sT : Try.prog.underlying 34 = some (.slice 30) := by kernel_rfl

def u64s (l : List Int) : List Value := l.map (Value.int .u64)
def kept (q : Bool) (t : Task) : Bool := !(q && t.blk)
/-- the closure that asks whether a task is blocked, or none. -/
def butOf (q : Bool) : Value := if q then .func (.func 28) #[] #[] else .nilFunc

theorem Row.clip {w : World} {e : TypeId} {size : Nat} {a : Option Addr} {n cap : Nat} {own : List Nat} {xs : List Value} (h : Row w e size a n cap own xs) : Row w e size a n n own xs := by
  refine ⟨h.1, Nat.le_refl _, Nat.le_trans h.2.1 h.2.2.1, ?_⟩
  rcases h.2.2.2 with ⟨h0, h1⟩ | ⟨b, off, cur, h1, h2, hg, hs, ht⟩
  · exact .inl ⟨by have := h.2.1; omega, h1⟩
  · exact .inr ⟨b, off, cur, h1, h2, hg, Nat.le_trans (Nat.add_le_add_left (Nat.mul_le_mul_right _ h.2.1) _) hs, ht⟩

theorem clip_any (w : World) (a : Option Addr) (n cap : Nat) (hn : n ≤ cap) (hc : cap ≤ 9223372036854775807) : Calls Try.prog 39 #[.slice a n cap] w fun e w' => e = .returned (.slice a n n) ∧ w = w' := by
  have h0 : (0 : Int) ≤ (n : Int) := by omega
  go_enter Try.func39, Try.ntmps39
  go_wp2
  go_ret
  exact ⟨rfl, rfl⟩

theorem isBlk (w : World) (t : Task) :
    Calls Try.prog 28 #[.agg #[.int .u64 t.id, .float .f64 t.wt, .int .i64 t.age, .bool t.blk]] w fun e w' => e = .returned (.bool t.blk) ∧ Touch [] w w' := by
  go_enter Try.func28, Try.ntmps28
  go_wp2
  go_ret
  exact ⟨rfl, (Touch.refl [] w).alloc _⟩

def IdsPost (w : World) (ids : List Int) (e : Ending) (w' : World) : Prop :=
  ∃ a n own, e = .returned (.slice a n n) ∧ Row w' 30 1 a n n own (u64s ids) ∧ Touch [] w w' ∧ ∀ b ∈ own, w.heap.size ≤ b

set_option maxRecDepth 100000 in
set_option maxHeartbeats 800000 in
theorem ids_any (w : World) (l : List Task) (a : Option Addr) (n cap : Nat) (ow : List Nat) (q : Bool) (hrow : Row w 62 4 a n cap ow (cellsOf l)) (hn : n = l.length) (hn64 : n ≤ 1024) :
    Calls Try.prog 27 #[.slice a n cap, butOf q] w (IdsPost w (idsOf (l.filter (kept q)))) := by
  have HN := Lib.hid hn
  clear hn
  have hb : butOf q = if q then .func (.func 28) #[] #[] else .nilFunc := rfl
  cases q
  · rw [hb]
    clear hb
    simp only [if_neg (show ¬ (false = true) by decide)]
    have heq := run_eql_nilFunc Try.underlying67
    go_enter Try.func27, Try.ntmps27
    go_wp2
    go_loopw [10, 5] (fun i s wr => ∃ k no co ao oo, k ≤ n ∧ i = .int .i64 (k : Nat) ∧ s = .slice ao no co ∧ Touch [] w wr ∧ no ≤ k ∧ Hid (Row wr 30 1 ao no co oo (u64s (idsOf ((l.take k).filter (kept false)))) ∧ ∀ b ∈ oo, w.heap.size ≤ b)) (fun i _ _ => n - (intOf i).toNat)
    case atStart => exact ⟨0, 0, 0, none, [], by omega, rfl, rfl, Touch.refl _ _, by omega, Row.nil _ _ _ _, by simp⟩
    case round =>
      obtain ⟨k, no, co, ao, oo, hk, rfl, rfl, t, hno, HR⟩ := hrel
      by_cases hlt : k < n
      · obtain ⟨b, off, _, rfl, -⟩ := hrow.form (by have := hrow.2.1; omega)
        obtain ⟨u, hu⟩ : ∃ u, l[k]? = some u := ⟨_, List.getElem?_eq_getElem (by rw [← HN.out]; exact hlt)⟩
        obtain ⟨t0, t1, t2, t3⟩ := (hrow.touch t (by simp)).task hu
        have lb := hrow.lt b (by have := hrow.form (by have := hrow.2.1; omega); obtain ⟨b', _, _, h1, h2, _⟩ := this; cases h1; simp [h2])
        have lb2 := Nat.lt_of_lt_of_le lb t.size
        obtain ⟨i0, hi, hz0, hz1, hz2⟩ := info_parts Try.infoU64
        have HT := Lib.hid hu
        have T := Lib.hid t
        clear hu t
        go_wp2_with (at_builtin; refine wpList_append_row _ rfl (.tmp 22) (.tmp 25) 34 rfl 30 i0 _ 1 8 Try.u64sT hi hz0 hz1 hz2 rfl (by decide) ao no co oo _ rfl ((HR.1.alloc _).alloc _) (some ⟨wr.heap.size + 1, 0, none⟩) 1 1 [.int .u64 u.id] rfl rfl (.inr ⟨_, rfl, World.news_of_block (cs := #[.int .u64 u.id]) (t := 30) (fr := (0, 0)) (by simpa using heap_alloc_new (wr.alloc _) _)⟩) (by simp [Value.oneCell']) (by unfold maxLen; omega) (by omega) ?_; intro a' cap' own' w3 hrow3 ht3 hown3 _ _)
        go_roundw
        case rel =>
          refine ⟨k + 1, no + 1, cap', a', own', by omega, by go_num, rfl, ((T.out.alloc _).alloc _).trans ht3 (fun b hb => .inr (HR.2 b hb)), by omega, ?_, ?_⟩
          · have e : (l.take (k + 1)).filter (kept false) = (l.take k).filter (kept false) ++ [u] := by
              rw [List.take_add_one, HT.out, List.filter_append]; rfl
            rw [e]
            simpa [u64s, idsOf] using hrow3
          · intro c hc
            rcases hown3 with rfl | rfl
            · exact HR.2 c hc
            · simp at hc; subst hc; have := T.out.size; omega
        case measure => simp [intOf]; omega
      · obtain rfl : k = n := by omega
        have h1 := HR.1.2.1
        have h2 := HR.1.2.2.1
        unfold maxLen at h2
        go_wp2_with (go_at_call 39; refine (clip_any _ _ _ _ h1 (by omega)).mono ?_; rintro e w' ⟨rfl, rfl⟩)
        go_ret
        refine ⟨ao, no, oo, rfl, ?_, t, HR.2⟩
        have := HR.1.clip
        rwa [List.take_of_length_le (by rw [← HN.out]; exact Nat.le_refl _)] at this
  · rw [hb]
    clear hb
    simp only [if_pos]
    have heq := run_eql_func_nil Try.underlying67
    go_enter Try.func27, Try.ntmps27
    go_wp2
    go_loopw [10, 5] (fun i s wr => ∃ k no co ao oo, k ≤ n ∧ i = .int .i64 (k : Nat) ∧ s = .slice ao no co ∧ Touch [] w wr ∧ no ≤ k ∧ Hid (Row wr 30 1 ao no co oo (u64s (idsOf ((l.take k).filter (kept true)))) ∧ ∀ b ∈ oo, w.heap.size ≤ b)) (fun i _ _ => n - (intOf i).toNat)
    case atStart => exact ⟨0, 0, 0, none, [], by omega, rfl, rfl, Touch.refl _ _, by omega, Row.nil _ _ _ _, by simp⟩
    case round =>
      obtain ⟨k, no, co, ao, oo, hk, rfl, rfl, t, hno, HR⟩ := hrel
      by_cases hlt : k < n
      · obtain ⟨b, off, _, rfl, -⟩ := hrow.form (by have := hrow.2.1; omega)
        obtain ⟨u, hu⟩ : ∃ u, l[k]? = some u := ⟨_, List.getElem?_eq_getElem (by rw [← HN.out]; exact hlt)⟩
        obtain ⟨t0, t1, t2, t3⟩ := (hrow.touch t (by simp)).task hu
        have lb := hrow.lt b (by have := hrow.form (by have := hrow.2.1; omega); obtain ⟨b', _, _, h1, h2, _⟩ := this; cases h1; simp [h2])
        have lb2 := Nat.lt_of_lt_of_le lb t.size
        obtain ⟨i0, hi, hz0, hz1, hz2⟩ := info_parts Try.infoU64
        have HT := Lib.hid hu
        have T := Lib.hid t
        clear hu t
        cases hb : u.blk
        · rw [hb] at t3
          go_wp2_with (first | (go_at_call 28; refine (isBlk _ { u with blk := false }).mono ?_; rintro e w2 ⟨rfl, t2⟩; have a2 := (At.new wr 62 [.int .u64 u.id, .float .f64 u.wt, .int .i64 u.age, .bool false]).touch t2 (by simp); have b2 := a2.cell 0; simp at b2; have l2 := t2.size; simp at l2) | (at_builtin; refine wpList_append_row _ rfl (.tmp 22) (.tmp 25) 34 rfl 30 i0 _ 1 8 Try.u64sT hi hz0 hz1 hz2 rfl (by decide) ao no co oo _ rfl (((HR.1.alloc _).touch t2 (by simp)).alloc _) (some ⟨w2.heap.size, 0, none⟩) 1 1 [.int .u64 u.id] rfl rfl (.inr ⟨_, rfl, World.news_of_block (cs := #[.int .u64 u.id]) (t := 30) (fr := (0, 0)) (heap_alloc_new w2 _)⟩) (by simp [Value.oneCell']) (by unfold maxLen; omega) (by omega) ?_; intro a' cap' own' w3 hrow3 ht3 hown3 _ _))
          go_roundw
          case rel =>
            refine ⟨k + 1, no + 1, cap', a', own', by omega, by go_num, rfl, (((T.out.alloc _).trans' t2).alloc _).trans ht3 (fun b hb => .inr (HR.2 b hb)), by omega, ?_, ?_⟩
            · have e : (l.take (k + 1)).filter (kept true) = (l.take k).filter (kept true) ++ [u] := by
                rw [List.take_add_one, HT.out, List.filter_append]; simp [kept, hb]
              rw [e]
              simpa [u64s, idsOf] using hrow3
            · intro c hc
              rcases hown3 with rfl | rfl
              · exact HR.2 c hc
              · simp at hc; subst hc; have := T.out.size; simp at *; omega
          case measure => simp [intOf]; omega
        · rw [hb] at t3
          go_wp2_with (go_at_call 28; refine (isBlk _ { u with blk := true }).mono ?_; rintro e w2 ⟨rfl, t2⟩)
          go_roundw
          case rel =>
            refine ⟨k + 1, no, co, ao, oo, by omega, by go_num, rfl, (T.out.alloc _).trans' t2, by omega, ?_, HR.2⟩
            have e : (l.take (k + 1)).filter (kept true) = (l.take k).filter (kept true) := by
              rw [List.take_add_one, HT.out, List.filter_append]; simp [kept, hb]
            rw [e]
            exact (HR.1.alloc _).touch t2 (by simp)
          case measure => simp [intOf]; omega
      · obtain rfl : k = n := by omega
        have h1 := HR.1.2.1
        have h2 := HR.1.2.2.1
        unfold maxLen at h2
        go_wp2_with (go_at_call 39; refine (clip_any _ _ _ _ h1 (by omega)).mono ?_; rintro e w' ⟨rfl, rfl⟩)
        go_ret
        refine ⟨ao, no, oo, rfl, ?_, t, HR.2⟩
        have := HR.1.clip
        rwa [List.take_of_length_le (by rw [← HN.out]; exact Nat.le_refl _)] at this

theorem kept_true : kept true = fun t : Task => !t.blk := by funext t; simp [kept]
theorem kept_false (l : List Task) : l.filter (kept false) = l := List.filter_eq_self.2 (fun t _ => by simp [kept])
theorem runnable_any (w : World) (bp : Nat) (S : Pool) (own : List Nat) (hR : Rep w bp S own) : Calls Try.prog 12 #[.pointer (some ⟨bp, 0, none⟩)] w (IdsPost w (idsOf (S.work.filter fun t => !t.blk))) := by
  obtain ⟨hok, aw, nw, cw, ow, aq, nq, cq, oq, bm, kv, hp, rfl⟩ := hR
  obtain ⟨hnw, hnq⟩ := hp.nw
  have hlw := hok.lw
  have hlq := hok.lq
  have hw2 := hok.w2
  have hr2 := hok.r2
  have hw1 := hok.w1
  have c0 := hp.at_.cell 0
  have c3 := hp.at_.cell 3
  simp at c0 c3
  have H := Lib.hid (ids_any w S.work _ _ _ _ true hp.work hnw (by omega))
  clear hnw hnq hlw hlq hw2 hr2
  go_enter Try.func12, Try.ntmps12
  go_wp2_with (first | (go_at_call 24; refine (none_no _ _ _ hw1 c0).mono ?_; rintro e w' ⟨rfl, rfl⟩) | (go_at_call 27; refine H.out.mono ?_; rintro e w' ⟨a, n, o, rfl, hr, ht, ho⟩))
  go_ret
  exact ⟨a, n, o, rfl, by rwa [kept_true] at hr, ht, ho⟩
theorem runnable_nil (w : World) : Calls Try.prog 12 #[.pointer none] w fun e w' => e = .returned (.slice none 0 0) ∧ w = w' := by
  go_enter Try.func12, Try.ntmps12
  go_wp2_with (go_at_call 24; refine (none_nil _).mono ?_; rintro e w' ⟨rfl, rfl⟩)
  go_ret
  exact ⟨rfl, rfl⟩

theorem working_any (w : World) (bp : Nat) (S : Pool) (own : List Nat) (hR : Rep w bp S own) : Calls Try.prog 14 #[.pointer (some ⟨bp, 0, none⟩)] w (IdsPost w (idsOf S.work)) := by
  obtain ⟨hok, aw, nw, cw, ow, aq, nq, cq, oq, bm, kv, hp, rfl⟩ := hR
  obtain ⟨hnw, hnq⟩ := hp.nw
  have hlw := hok.lw
  have hlq := hok.lq
  have hw2 := hok.w2
  have hr2 := hok.r2
  have hw1 := hok.w1
  have c0 := hp.at_.cell 0
  have c3 := hp.at_.cell 3
  simp at c0 c3
  have H := Lib.hid (ids_any w S.work _ _ _ _ false hp.work hnw (by omega))
  clear hnw hnq hlw hlq hw2 hr2
  go_enter Try.func14, Try.ntmps14
  go_wp2_with (first | (go_at_call 24; refine (none_no _ _ _ hw1 c0).mono ?_; rintro e w' ⟨rfl, rfl⟩) | (go_at_call 27; refine H.out.mono ?_; rintro e w' ⟨a, n, o, rfl, hr, ht, ho⟩))
  go_ret
  exact ⟨a, n, o, rfl, by rwa [kept_false] at hr, ht, ho⟩
theorem working_nil (w : World) : Calls Try.prog 14 #[.pointer none] w fun e w' => e = .returned (.slice none 0 0) ∧ w = w' := by
  go_enter Try.func14, Try.ntmps14
  go_wp2_with (go_at_call 24; refine (none_nil _).mono ?_; rintro e w' ⟨rfl, rfl⟩)
  go_ret
  exact ⟨rfl, rfl⟩

theorem waiting_any (w : World) (bp : Nat) (S : Pool) (own : List Nat) (hR : Rep w bp S own) : Calls Try.prog 15 #[.pointer (some ⟨bp, 0, none⟩)] w (IdsPost w (idsOf S.queue)) := by
  obtain ⟨hok, aw, nw, cw, ow, aq, nq, cq, oq, bm, kv, hp, rfl⟩ := hR
  obtain ⟨hnw, hnq⟩ := hp.nw
  have hlw := hok.lw
  have hlq := hok.lq
  have hw2 := hok.w2
  have hr2 := hok.r2
  have hw1 := hok.w1
  have c0 := hp.at_.cell 0
  have c3 := hp.at_.cell 4
  simp at c0 c3
  have H := Lib.hid (ids_any w S.queue _ _ _ _ false hp.queue hnq (by omega))
  clear hnw hnq hlw hlq hw2 hr2
  go_enter Try.func15, Try.ntmps15
  go_wp2_with (first | (go_at_call 24; refine (none_no _ _ _ hw1 c0).mono ?_; rintro e w' ⟨rfl, rfl⟩) | (go_at_call 27; refine H.out.mono ?_; rintro e w' ⟨a, n, o, rfl, hr, ht, ho⟩))
  go_ret
  exact ⟨a, n, o, rfl, by rwa [kept_false] at hr, ht, ho⟩
theorem waiting_nil (w : World) : Calls Try.prog 15 #[.pointer none] w fun e w' => e = .returned (.slice none 0 0) ∧ w = w' := by
  go_enter Try.func15, Try.ntmps15
  go_wp2_with (go_at_call 24; refine (none_nil _).mono ?_; rintro e w' ⟨rfl, rfl⟩)
  go_ret
  exact ⟨rfl, rfl⟩
end Go.Proofs.Ytaendccnjiagiaa
