/-
  (*Pool).Add: what it does to a pool.
-/
import Derived.Test.YtaendccnjiagiaaPRep
namespace Go.Proofs.Ytaendccnjiagiaa
open Go.RowKit

theorem okW_pos {x : Nat} (h : okW x = true) : Fl.Pos x ∧ (FloatKind.f64.format.order x 0 == some .gt) = true ∧ decide (x = Fl.inf) = false := by
  unfold okW at h
  rw [Bool.and_eq_true, decide_eq_true_iff, decide_eq_true_iff] at h
  have hp : Fl.Pos x := by unfold Fl.Pos; omega
  refine ⟨hp, ?_, by rw [decide_eq_false_iff_not]; omega⟩
  have := Fl.gt_pos (a := x) (b := 0) hp (by unfold Fl.Pos; omega)
  unfold Fl.gt at this
  exact this.trans (by rw [decide_eq_true_iff]; omega)
theorem okW_not {x : Nat} (h : okW x = false) (hx : x < 18446744073709551616) : (FloatKind.f64.format.order x 0 == some .gt) = false ∨ x = Fl.inf ∧ (FloatKind.f64.format.order x 0 == some .gt) = true := by
  by_cases e : x = Fl.inf
  · refine .inr ⟨e, ?_⟩
    subst e; decide +kernel
  · refine .inl (Fl.gt_zero hx ?_)
    unfold okW at h
    unfold Fl.inf at e h
    rw [Bool.and_eq_false_iff, decide_eq_false_iff_not, decide_eq_false_iff_not] at h
    omega

theorem add_nil (w : World) (id : Int) (x : Nat) : Calls Try.prog 10 #[.pointer none, .int .u64 id, .float .f64 x] w fun e w' => e = .returned (.int .i64 1) ∧ w = w' := by
  go_enter Try.func10, Try.ntmps10
  go_wp2_with (go_at_call 24; refine (none_nil _).mono ?_; rintro e w' ⟨rfl, rfl⟩)
  go_ret
  exact ⟨rfl, rfl⟩

theorem add_bad (w : World) (bp : Nat) (n : Int) (id : Int) (x : Nat) (hx : okW x = false) (h64 : x < 18446744073709551616) (hw1 : 1 ≤ n) (c0 : w.cell? ⟨bp, 0, none⟩ = some (.int .i64 n)) :
    Calls Try.prog 10 #[.pointer (some ⟨bp, 0, none⟩), .int .u64 id, .float .f64 x] w fun e w' => e = .returned (.int .i64 2) ∧ w = w' := by
  rcases okW_not hx h64 with hgt | ⟨hi, hgt⟩
  · go_enter Try.func10, Try.ntmps10
    go_wp2_with (go_at_call 24; refine (none_no _ _ _ hw1 c0).mono ?_; rintro e w' ⟨rfl, rfl⟩)
    go_ret
    exact ⟨rfl, rfl⟩
  · have hp : Fl.Pos x := by unfold Fl.Pos; omega
    have hinf : decide (x = Fl.inf) = true := by rw [decide_eq_true_iff]; exact hi
    have HI := Lib.hid hi
    clear hi
    go_enter Try.func10, Try.ntmps10
    go_wp2_with (first | (go_at_call 24; refine (none_no _ _ _ hw1 c0).mono ?_; rintro e w' ⟨rfl, rfl⟩) | (go_at_call 25; refine (isInf_any _ _ hp).mono ?_; rw [hinf]; rintro e w' ⟨rfl, rfl⟩))
    go_ret
    exact ⟨rfl, rfl⟩

theorem add_there (w : World) (bp : Nat) (n v1 v2 : Int) (v3 v4 : Value) (bm : Nat) (kv : List (Int × Value)) (id : Int) (x : Nat) (hx : okW x = true) (hw1 : 1 ≤ n)
    (hat : At w bp 59 [.int .i64 n, .int .i64 v1, .int .i64 v2, v3, v4, .map (some bm)]) (hm : IMap w KU.f bm kv) (hk : (atKey kv id).getD (.bool false) = .bool true) :
    Calls Try.prog 10 #[.pointer (some ⟨bp, 0, none⟩), .int .u64 id, .float .f64 x] w fun e w' => e = .returned (.int .i64 184) ∧ w = w' := by
  obtain ⟨hp, hgt, hinf⟩ := okW_pos hx
  have c0 := hat.cell 0
  have c5 := hat.cell 5
  simp at c0 c5
  go_enter Try.func10, Try.ntmps10
  go_wp2_with (first | (go_at_call 24; refine (none_no _ _ _ hw1 c0).mono ?_; rintro e w' ⟨rfl, rfl⟩) | (go_at_call 25; refine (isInf_any _ _ hp).mono ?_; rw [hinf]; rintro e w' ⟨rfl, rfl⟩) | (at_lookup; refine wpList_lookup_imap KU rfl _ _ false rfl Try.mapT (zeroBool _) rfl hm id rfl ?_; simp only [hk]))
  go_ret
  exact ⟨rfl, rfl⟩

theorem add_full (w : World) (bp : Nat) (n v1 v2 : Int) (a3 a4 : Option Addr) (n3 c3' n4 c4' : Nat) (bm : Nat) (kv : List (Int × Value)) (id : Int) (x : Nat) (hx : okW x = true) (hw1 : 1 ≤ n) (hlt : n ≤ (n3 : Int)) (hfull : v1 ≤ (n4 : Int))
    (hat : At w bp 59 [.int .i64 n, .int .i64 v1, .int .i64 v2, .slice a3 n3 c3', .slice a4 n4 c4', .map (some bm)]) (hm : IMap w KU.f bm kv) (hk : (atKey kv id).getD (.bool false) = .bool false) :
    Calls Try.prog 10 #[.pointer (some ⟨bp, 0, none⟩), .int .u64 id, .float .f64 x] w fun e w' => e = .returned (.int .i64 6) ∧ Touch [] w w' := by
  obtain ⟨hp, hgt, hinf⟩ := okW_pos hx
  have c0 := hat.cell 0
  have c1 := hat.cell 1
  have c3 := hat.cell 3
  have c4 := hat.cell 4
  have c5 := hat.cell 5
  simp at c0 c1 c3 c4 c5
  go_enter Try.func10, Try.ntmps10
  go_wp2_with (first | (go_at_call 24; refine (none_no _ _ _ hw1 c0).mono ?_; rintro e w' ⟨rfl, rfl⟩) | (go_at_call 25; refine (isInf_any _ _ hp).mono ?_; rw [hinf]; rintro e w' ⟨rfl, rfl⟩) | (at_lookup; refine wpList_lookup_imap KU rfl _ _ false rfl Try.mapT (zeroBool _) rfl hm id rfl ?_; simp only [hk]))
  go_quiet (fail)
  go_wp2
  go_quiet (fail)
  go_wp2
  go_ret
  exact ⟨rfl, ((Touch.refl [] w).drewN _).drewN _⟩

/-- What stands behind the append of a task and the store of its id: to the list at work. -/
def AddPost (w : World) (bp : Nat) (x0 x1 x2 : Int) (k : Nat) (other : Value) (n bm : Nat) (ow : List Nat) (xs : List Value) (kv : List (Int × Value)) (id : Int) (x : Nat) (e : Ending) (w' : World) : Prop :=
  e = .returned (.int .i64 0) ∧ ∃ a' cap' own', At w' bp 59 ([.int .i64 x0, .int .i64 x1, .int .i64 x2] ++ (if k = 3 then [.slice a' (n + 1) cap', other] else [other, .slice a' (n + 1) cap']) ++ [.map (some bm)]) ∧
    Row w' 62 4 a' (n + 1) cap' own' (xs ++ Task.cells ⟨id, x, 0, false⟩) ∧ IMap w' KU.f bm (putKey kv id (.bool true)) ∧ Touch (bp :: bm :: ow) w w' ∧ (own' = ow ∨ ∃ b, own' = [b] ∧ w.heap.size ≤ b)

theorem touch_add {w w2 w3 w4 : World} {o : Obj} {ow : List Nat} {bp bm k : Nat} {v : Value} (t2 : Touch [] w w2) (t3 : Touch ow (w2.alloc o) w3) (t4 : Touch [bm] (w3.setCell ⟨bp, k, none⟩ v) w4) : Touch (bp :: bm :: ow) w w4 := by
  refine ((((t2.mono (by simp)).alloc o).trans t3 ?_).setCell ⟨bp, k, none⟩ (by simp) v).trans t4 (by simp)
  intro b hb; simp [hb]

theorem add_work (w : World) (bp : Nat) (x0 x1 x2 : Int) (id : Int) (x : Nat) (a : Option Addr) (n cap bm : Nat) (ow : List Nat) (vq : Value) (kv : List (Int × Value)) (xs : List Value)
    (hx : okW x = true) (hw1 : 1 ≤ x0) (hn : n < 64) (hlt : (n : Int) < x0)
    (hat : At w bp 59 [.int .i64 x0, .int .i64 x1, .int .i64 x2, .slice a n cap, vq, .map (some bm)])
    (hrow : Row w 62 4 a n cap ow xs) (hm : IMap w KU.f bm kv) (hk : (atKey kv id).getD (.bool false) = .bool false)
    (hbo : bp ∉ ow) (hmo : bm ∉ ow) (hmb : bm ≠ bp) :
    Calls Try.prog 10 #[.pointer (some ⟨bp, 0, none⟩), .int .u64 id, .float .f64 x] w (AddPost w bp x0 x1 x2 3 vq n bm ow xs kv id x) := by
  obtain ⟨hp, hgt, hinf⟩ := okW_pos hx
  have c0 := hat.cell 0
  have c3 := hat.cell 3
  have c5 := hat.cell 5
  simp at c0 c3 c5
  go_enter Try.func10, Try.ntmps10
  go_wp2_with (first | (go_at_call 24; refine (none_no _ _ _ hw1 c0).mono ?_; rintro e w' ⟨rfl, rfl⟩) | (go_at_call 25; refine (isInf_any _ _ hp).mono ?_; rw [hinf]; rintro e w' ⟨rfl, rfl⟩) | (at_lookup; refine wpList_lookup_imap KU rfl _ _ false rfl Try.mapT (zeroBool _) rfl hm id rfl ?_; simp only [hk]))
  go_quiet (fail)
  generalize hw2 : w.drewN _ = w2
  have t2 : Touch [] w w2 := by subst hw2; exact (Touch.refl _ _).drewN _
  clear hw2 c0 c3 c5
  replace hat := hat.touch t2 (by simp)
  replace hrow := hrow.touch t2 (by simp)
  replace hm := hm.touch t2 (by simp)
  obtain ⟨i0, hi, hz0, hz1, hz2⟩ := info_parts Try.infoTask
  have c3 := hat.cell 3
  simp at c3
  have hlm := hm.lt
  have hlb := hat.lt
  have T2 := Lib.hid t2
  clear t2
  go_wp2_with (first | (at_builtin; refine wpList_append_row _ rfl (.tmp 52) (.tmp 56) 57 rfl 62 i0 _ 4 32 Try.tasksT hi hz0 hz1 hz2 rfl (by decide) a n cap ow xs rfl (hrow.alloc _) (some ⟨w2.heap.size, 0, none⟩) 1 1 (Task.cells ⟨id, x, 0, false⟩) rfl rfl (.inr ⟨_, rfl, World.news_of_block (cs := #[.int .u64 id, .float .f64 x, .int .i64 0, .bool false]) (t := 62) (fr := (0, 0)) (heap_alloc_new w2 _)⟩) (by simp [Task.cells, Value.oneCell']) (by unfold maxLen; omega) (by omega) ?_; intro a' cap' own' w3 hrow3 ht3 hown3 _ _; have hat3 := (hat.alloc _).touch ht3 hbo; have hm3 := (hm.alloc _).touch ht3 hmo; have k3 := hat3.cell 3; have k5 := hat3.cell 5; have f3 := hat3.frozen 3; simp at k3 k5) | (at_mapUpdate; refine wpList_update_imap KU rfl _ _ _ rfl Try.mapT rfl (hm3.setCell hmb _) id rfl _ rfl ?_; intro w4 hm4 ht4))
  go_ret
  have hs2 := T2.out.size
  have hb' : bp ∉ own' ∧ bm ∉ own' := by
    rcases hown3 with rfl | rfl
    · exact ⟨hbo, hmo⟩
    · simp at hlm hlb ⊢; omega
  refine ⟨rfl, a', cap', own', ?_, ?_, hm4, touch_add T2.out ht3 ht4, ?_⟩
  · have := (hat3.set 3 (.slice a' (n + 1) cap')).touch ht4 (by simp; omega)
    simpa using this
  · refine ((hrow3.touch ((Touch.refl [bp] w3).setCell ⟨bp, 3, none⟩ (by simp) _) ?_).touch ht4 ?_)
    · intro b hb; simp; rintro rfl; exact hb'.1 hb
    · intro b hb; simp; rintro rfl; exact hb'.2 hb
  · rcases hown3 with h | h
    · exact .inl h
    · exact .inr ⟨_, h, by simp; omega⟩
theorem add_queue (w : World) (bp : Nat) (x0 x1 x2 : Int) (id : Int) (x : Nat) (a : Option Addr) (n cap bm : Nat) (ow : List Nat) (kv : List (Int × Value)) (xs : List Value)
    (hx : okW x = true) (hw1 : 1 ≤ x0) (n3 c3' : Nat) (a3 : Option Addr) (hn : n < 1024) (hlt : x0 ≤ (n3 : Int)) (hroom : (n : Int) < x1)
    (hat : At w bp 59 [.int .i64 x0, .int .i64 x1, .int .i64 x2, .slice a3 n3 c3', .slice a n cap, .map (some bm)])
    (hrow : Row w 62 4 a n cap ow xs) (hm : IMap w KU.f bm kv) (hk : (atKey kv id).getD (.bool false) = .bool false)
    (hbo : bp ∉ ow) (hmo : bm ∉ ow) (hmb : bm ≠ bp) :
    Calls Try.prog 10 #[.pointer (some ⟨bp, 0, none⟩), .int .u64 id, .float .f64 x] w (AddPost w bp x0 x1 x2 4 (.slice a3 n3 c3') n bm ow xs kv id x) := by
  obtain ⟨hp, hgt, hinf⟩ := okW_pos hx
  have c0 := hat.cell 0
  have c1 := hat.cell 1
  have c3 := hat.cell 3
  have c4 := hat.cell 4
  have c5 := hat.cell 5
  simp at c0 c1 c3 c4 c5
  go_enter Try.func10, Try.ntmps10
  go_wp2_with (first | (go_at_call 24; refine (none_no _ _ _ hw1 c0).mono ?_; rintro e w' ⟨rfl, rfl⟩) | (go_at_call 25; refine (isInf_any _ _ hp).mono ?_; rw [hinf]; rintro e w' ⟨rfl, rfl⟩) | (at_lookup; refine wpList_lookup_imap KU rfl _ _ false rfl Try.mapT (zeroBool _) rfl hm id rfl ?_; simp only [hk]))
  go_quiet (fail)
  go_wp2
  go_quiet (fail)
  generalize hw2 : (w.drewN _).drewN _ = w2
  have t2 : Touch [] w w2 := by subst hw2; exact ((Touch.refl _ _).drewN _).drewN _
  clear hw2 c0 c1 c3 c4 c5
  replace hat := hat.touch t2 (by simp)
  replace hrow := hrow.touch t2 (by simp)
  replace hm := hm.touch t2 (by simp)
  obtain ⟨i0, hi, hz0, hz1, hz2⟩ := info_parts Try.infoTask
  have c4 := hat.cell 4
  simp at c4
  have hlm := hm.lt
  have hlb := hat.lt
  have T2 := Lib.hid t2
  clear t2
  go_wp2_with (first | (at_builtin; refine wpList_append_row _ rfl (.tmp 11) (.tmp 15) 57 rfl 62 i0 _ 4 32 Try.tasksT hi hz0 hz1 hz2 rfl (by decide) a n cap ow xs rfl (hrow.alloc _) (some ⟨w2.heap.size, 0, none⟩) 1 1 (Task.cells ⟨id, x, 0, false⟩) rfl rfl (.inr ⟨_, rfl, World.news_of_block (cs := #[.int .u64 id, .float .f64 x, .int .i64 0, .bool false]) (t := 62) (fr := (0, 0)) (heap_alloc_new w2 _)⟩) (by simp [Task.cells, Value.oneCell']) (by unfold maxLen; omega) (by omega) ?_; intro a' cap' own' w3 hrow3 ht3 hown3 _ _; have hat3 := (hat.alloc _).touch ht3 hbo; have hm3 := (hm.alloc _).touch ht3 hmo; have k4 := hat3.cell 4; have k5 := hat3.cell 5; have f4 := hat3.frozen 4; simp at k4 k5) | (at_mapUpdate; refine wpList_update_imap KU rfl _ _ _ rfl Try.mapT rfl (hm3.setCell hmb _) id rfl _ rfl ?_; intro w4 hm4 ht4))
  go_ret
  have hs2 := T2.out.size
  have hb' : bp ∉ own' ∧ bm ∉ own' := by
    rcases hown3 with rfl | rfl
    · exact ⟨hbo, hmo⟩
    · simp at hlm hlb ⊢; omega
  refine ⟨rfl, a', cap', own', ?_, ?_, hm4, touch_add T2.out ht3 ht4, ?_⟩
  · have := (hat3.set 4 (.slice a' (n + 1) cap')).touch ht4 (by simp; omega)
    simpa using this
  · refine ((hrow3.touch ((Touch.refl [bp] w3).setCell ⟨bp, 4, none⟩ (by simp) _) ?_).touch ht4 ?_)
    · intro b hb; simp; rintro rfl; exact hb'.1 hb
    · intro b hb; simp; rintro rfl; exact hb'.2 hb
  · rcases hown3 with h | h
    · exact .inl h
    · exact .inr ⟨_, h, by simp; omega⟩

theorem ids_not {S : Pool} {kv : List (Int × Value)} (h : Keys kv S.ids) {id : Int} (hm : id ∉ S.ids) : (atKey kv id).getD (.bool false) = .bool false := by
  rw [atKey_none (h.not_mem hm)]; rfl

theorem Keys.put {S : Pool} {kv : List (Int × Value)} {ids : List Int} (h : Keys kv S.ids) {id : Int} (hm : id ∉ S.ids) (hp : (S.ids ++ [id]).Perm ids) : Keys (putKey kv id (.bool true)) ids := by
  rw [putKey_new (h.not_mem hm)]
  refine ⟨?_, ?_⟩
  · intro p hp
    rw [List.mem_append, List.mem_singleton] at hp
    rcases hp with hp | rfl
    · exact h.val p hp
    · rfl
  · rw [List.map_append]
    exact (h.perm.append_right _).trans hp

theorem own_of {own : List Nat} {bp bm : Nat} {ow oq own' : List Nat} {w : World} (h : own' = ow ∨ ∃ b, own' = [b] ∧ w.heap.size ≤ b) (ho : own = bp :: bm :: (ow ++ oq)) : ∀ b ∈ own', b ∈ own ∨ w.heap.size ≤ b := by
  subst ho
  rcases h with rfl | ⟨c, rfl, hc⟩
  · intro b hb; simp [hb]
  · intro b hb; simp at hb; subst hb; exact .inr hc

theorem add_any (w : World) (bp : Nat) (S : Pool) (own : List Nat) (hR : Rep w bp S own) (id : Int) (x : Nat) (h0 : 0 ≤ id) (h1 : id < 18446744073709551616) (h64 : x < 18446744073709551616) :
    Calls Try.prog 10 #[.pointer (some ⟨bp, 0, none⟩), .int .u64 id, .float .f64 x] w (After own w (.int .i64 (S.add id x).1) fun w' o => Rep w' bp (S.add id x).2 o) := by
  have hlt := hR.lt
  obtain ⟨hok, aw, nw, cw, ow, aq, nq, cq, oq, bm, kv, hp, rfl⟩ := (fun h => h : Rep w bp S own → Rep w bp S own) hR
  obtain ⟨hnw, hnq⟩ := hp.nw
  have hlw := hok.lw
  have hlq := hok.lq
  have hw2 := hok.w2
  have hr2 := hok.r2
  have c0 := hp.at_.cell 0
  simp at c0
  unfold Pool.add
  by_cases hx : okW x = true
  case neg =>
    have hx' : okW x = false := by simpa using hx
    simp only [hx', if_true]
    exact (add_bad w bp _ id x hx' h64 hok.w1 c0).mono fun e w' ⟨he, hw⟩ => by
      subst hw; exact ⟨_, he, hR, Touch.refl _ _, fun b hb => .inl hb⟩
  simp only [hx, Bool.true_eq_false, if_false]
  by_cases hid : id ∈ S.ids
  · simp only [hid, if_true]
    exact (add_there w bp _ _ _ _ _ bm kv id x hx hok.w1 hp.at_ hp.map (by rw [hp.keys.mem hid]; rfl)).mono fun e w' ⟨he, hw⟩ => by
      subst hw; exact ⟨_, he, hR, Touch.refl _ _, fun b hb => .inl hb⟩
  simp only [hid, if_false]
  by_cases hfree : (S.work.length : Int) < S.workers
  · simp only [hfree, if_true]
    refine (add_work w bp _ _ _ id x aw nw cw bm ow _ kv _ hx hok.w1 (by omega) (by omega) hp.at_ hp.work hp.map (ids_not hp.keys hid) hp.ow_bp hp.ow_bm hp.bm_bp).mono fun e w' ⟨he, a', cap', own', h1', h2', h3', h4', h5'⟩ => ?_
    have hbp := hp.at_.lt
    have hbm := hp.map.lt
    have hq := hp.queue.lt
    have hn' : bp ∉ own' ∧ bm ∉ own' ∧ ∀ b ∈ own', b ∉ oq := by
      rcases h5' with rfl | ⟨c, rfl, hc⟩
      · exact ⟨hp.ow_bp, hp.ow_bm, hp.ow_oq⟩
      · refine ⟨by simp; omega, by simp; omega, ?_⟩
        intro b hb hb'
        simp at hb; subst hb
        have := hq b hb'; omega
    have hnd : (S.ids ++ [id]).Perm (({ S with work := S.work ++ [⟨id, x, 0, false⟩] } : Pool).ids) := by
      simp only [Pool.ids, idsOf, List.map_append, List.map_cons, List.map_nil, List.append_assoc]
      exact (List.perm_append_comm (l₁ := S.queue.map (·.id)) (l₂ := [id])).append_left _
    refine ⟨bp :: bm :: (own' ++ oq), he, ⟨⟨hok.w1, hok.w2, hok.r1, hok.r2, hok.p1, hok.p2, by simp; omega, hok.lq, ?_, hok.qt, ?_⟩, a', nw + 1, cap', own', aq, nq, cq, oq, bm, putKey kv id (.bool true), ⟨?_, ?_, ?_, h3', hp.keys.put hid hnd, hp.bm_bp, hn'.1, hn'.2.1, hp.oq_bp, hp.oq_bm, hn'.2.2⟩, rfl⟩, h4'.mono ?_, ?_⟩
    · intro t ht
      simp only [List.mem_append, List.mem_singleton] at ht
      rcases ht with ht | rfl
      · exact hok.wt t ht
      · exact ⟨hx, h0, h1, by simp, by simp⟩
    · refine hnd.nodup_iff.1 ?_
      rw [List.nodup_append]
      refine ⟨hok.nd, by simp, ?_⟩
      intro a ha b hb
      simp at hb; subst hb
      rintro rfl; exact hid ha
    · simpa using h1'
    · rw [cellsOf_append]; exact h2'
    · exact hp.queue.touch h4' (by
        intro b hb
        simp only [List.mem_cons, not_or]
        exact ⟨fun e => hp.oq_bp (e ▸ hb), fun e => hp.oq_bm (e ▸ hb), fun hb' => hp.ow_oq b hb' hb⟩)
    · intro b hb
      simp only [List.mem_cons] at hb
      left; simp only [List.mem_cons, List.mem_append]
      rcases hb with h | h | h <;> simp [h]
    · intro b hb
      simp only [List.mem_cons, List.mem_append] at hb
      rcases hb with rfl | rfl | hb | hb
      · simp
      · simp
      · exact own_of h5' rfl b hb
      · simp [hb]
  simp only [hfree, if_false]
  by_cases hfull : S.room ≤ (S.queue.length : Int)
  · simp only [hfull, if_true]
    exact (add_full w bp _ _ _ aw aq nw cw nq cq bm kv id x hx hok.w1 (by omega) (by omega) hp.at_ hp.map (ids_not hp.keys hid)).mono fun e w' ⟨he, ht⟩ =>
      ⟨_, he, hR.touch ht (by simp), ht.mono (by simp), fun b hb => .inl hb⟩
  simp only [hfull, if_false]
  refine (add_queue w bp _ _ _ id x aq nq cq bm oq kv _ hx hok.w1 nw cw aw (by omega) (by omega) (by omega) hp.at_ hp.queue hp.map (ids_not hp.keys hid) hp.oq_bp hp.oq_bm hp.bm_bp).mono fun e w' ⟨he, a', cap', own', h1', h2', h3', h4', h5'⟩ => ?_
  have hbp := hp.at_.lt
  have hbm := hp.map.lt
  have hq := hp.work.lt
  have hn' : bp ∉ own' ∧ bm ∉ own' ∧ ∀ b ∈ ow, b ∉ own' := by
    rcases h5' with rfl | ⟨c, rfl, hc⟩
    · exact ⟨hp.oq_bp, hp.oq_bm, hp.ow_oq⟩
    · refine ⟨by simp; omega, by simp; omega, ?_⟩
      intro b hb hb'
      simp at hb'; subst hb'
      have := hq b hb; omega
  have hnd : (S.ids ++ [id]).Perm (({ S with queue := S.queue ++ [⟨id, x, 0, false⟩] } : Pool).ids) := by
    simp only [Pool.ids, idsOf, List.map_append, List.map_cons, List.map_nil, List.append_assoc]
    exact List.Perm.refl _
  refine ⟨bp :: bm :: (ow ++ own'), he, ⟨⟨hok.w1, hok.w2, hok.r1, hok.r2, hok.p1, hok.p2, hok.lw, by simp; omega, hok.wt, ?_, ?_⟩, aw, nw, cw, ow, a', nq + 1, cap', own', bm, putKey kv id (.bool true), ⟨?_, ?_, ?_, h3', hp.keys.put hid hnd, hp.bm_bp, hp.ow_bp, hp.ow_bm, hn'.1, hn'.2.1, hn'.2.2⟩, rfl⟩, h4'.mono ?_, ?_⟩
  · intro t ht
    simp only [List.mem_append, List.mem_singleton] at ht
    rcases ht with ht | rfl
    · exact hok.qt t ht
    · exact ⟨hx, h0, h1, rfl, rfl⟩
  · refine hnd.nodup_iff.1 ?_
    rw [List.nodup_append]
    refine ⟨hok.nd, by simp, ?_⟩
    intro a ha b hb
    simp at hb; subst hb
    rintro rfl; exact hid ha
  · simpa using h1'
  · exact hp.work.touch h4' (by
      intro b hb
      simp only [List.mem_cons, not_or]
      exact ⟨fun e => hp.ow_bp (e ▸ hb), fun e => hp.ow_bm (e ▸ hb), fun hb' => hp.ow_oq b hb hb'⟩)
  · rw [cellsOf_append]; exact h2'
  · intro b hb
    simp only [List.mem_cons] at hb
    left; simp only [List.mem_cons, List.mem_append]
    rcases hb with h | h | h <;> simp [h]
  · intro b hb
    simp only [List.mem_cons, List.mem_append] at hb
    rcases hb with rfl | rfl | hb | hb
    · simp
    · simp
    · simp [hb]
    · rcases h5' with rfl | ⟨c, rfl, hc⟩
      · simp [hb]
      · simp at hb; subst hb; exact .inr hc
end Go.Proofs.Ytaendccnjiagiaa
