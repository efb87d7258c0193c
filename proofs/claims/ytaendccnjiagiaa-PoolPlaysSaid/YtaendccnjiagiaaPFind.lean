/-
  find, turn, Block, Wake: what they do to a pool.
-/
import Derived.Test.YtaendccnjiagiaaPRep
namespace Go.Proofs.Ytaendccnjiagiaa
open Go.RowKit

theorem Row.task {w : World} {e : TypeId} {b off n cap : Nat} {ow : List Nat} {l : List Task} (h : Row w e 4 (some ⟨b, off, none⟩) n cap ow (cellsOf l)) {k : Nat} {t : Task} (hk : l[k]? = some t) :
    w.cell? ⟨b, off + k * 4, none⟩ = some (.int .u64 t.id) ∧ w.cell? ⟨b, off + k * 4 + 1, none⟩ = some (.float .f64 t.wt) ∧ w.cell? ⟨b, off + k * 4 + 2, none⟩ = some (.int .i64 t.age) ∧ w.cell? ⟨b, off + k * 4 + 3, none⟩ = some (.bool t.blk) := by
  obtain ⟨h0, h1, h2, h3⟩ := cellsOf_at l k t hk
  exact ⟨h.cellSome _ _ h0, by rw [Nat.add_assoc]; exact h.cellSome _ _ h1, by rw [Nat.add_assoc]; exact h.cellSome _ _ h2, by rw [Nat.add_assoc]; exact h.cellSome _ _ h3⟩

theorem placeOf_some {l : List Task} {id : Int} {j : Nat} (h : placeOf l id = some j) : ∃ t, l[j]? = some t ∧ t.id = id ∧ j < l.length ∧ ∀ i t', i < j → l[i]? = some t' → t'.id ≠ id := by
  unfold placeOf at h
  obtain ⟨hj, h1, h2⟩ := List.findIdx?_eq_some_iff_getElem.1 h
  refine ⟨l[j], List.getElem?_eq_getElem hj, by simpa using h1, hj, fun i t' hi ht => ?_⟩
  have := h2 i hi
  obtain ⟨hi', rfl⟩ := List.getElem?_eq_some_iff.1 ht
  simpa using this
theorem placeOf_none {l : List Task} {id : Int} (h : placeOf l id = none) : ∀ (i : Nat) (t : Task), l[i]? = some t → t.id ≠ id := by
  intro i t ht
  obtain ⟨hi, rfl⟩ := List.getElem?_eq_some_iff.1 ht
  simpa using List.findIdx?_eq_none_iff.1 h _ (List.getElem_mem hi)

theorem idsOf_set {l : List Task} {j : Nat} {t t' : Task} (h : l[j]? = some t) (hi : t'.id = t.id) : idsOf (l.set j t') = idsOf l := by
  unfold idsOf
  apply List.ext_getElem?
  intro i
  rw [List.getElem?_map, List.getElem?_map, List.getElem?_set]
  by_cases e : j = i
  · subst e
    have hj : j < l.length := (List.getElem?_eq_some_iff.1 h).1
    rw [if_pos rfl, if_pos hj, h]
    simp [hi]
  · rw [if_neg e]

/-- Where the cells of those at work alone have turned (and no id). -/
theorem Rep.setWork {w w' : World} {bp : Nat} {S : Pool} {aw : Option Addr} {nw cw : Nat} {ow : List Nat} {aq : Option Addr} {nq cq : Nat} {oq : List Nat} {bm : Nat} {kv : List (Int × Value)} (hR : Rep w bp S (bp :: bm :: (ow ++ oq))) (hp : Parts w bp S aw nw cw ow aq nq cq oq bm kv)
    {l : List Task} (hrow : Row w' 62 4 aw nw cw ow (cellsOf l)) (hids : idsOf l = idsOf S.work) (hlen : l.length = S.work.length)
    (hl : ∀ t ∈ l, okW t.wt = true ∧ 0 ≤ t.id ∧ t.id < 18446744073709551616 ∧ -9223372036854775808 ≤ t.age ∧ t.age ≤ 9223372036854775807) (t : Touch ow w w') : Rep w' bp { S with work := l } (bp :: bm :: (ow ++ oq)) := by
  obtain ⟨hok, -⟩ := hR
  have hi : Pool.ids { S with work := l } = S.ids := by simp [Pool.ids, hids]
  refine ⟨⟨hok.w1, hok.w2, hok.r1, hok.r2, hok.p1, hok.p2, by simpa [hlen] using hok.lw, hok.lq, hl, hok.qt, by rw [hi]; exact hok.nd⟩, aw, nw, cw, ow, aq, nq, cq, oq, bm, kv, ⟨hp.at_.touch t hp.ow_bp, hrow, hp.queue.touch t ?_, hp.map.touch t hp.ow_bm, by rw [hi]; exact hp.keys, hp.bm_bp, hp.ow_bp, hp.ow_bm, hp.oq_bp, hp.oq_bm, hp.ow_oq⟩, rfl⟩
  intro b hb hb'
  exact hp.ow_oq b hb' hb

set_option maxRecDepth 100000 in
theorem find_none (w : World) (bp : Nat) (l : List Task) (id : Int) (a : Option Addr) (n cap : Nat) (ow : List Nat) (h : placeOf l id = none) (hrow : Row w 62 4 a n cap ow (cellsOf l)) (hn : n = l.length) (hn64 : n ≤ 64)
    (c3 : w.cell? ⟨bp, 3, none⟩ = some (.slice a n cap)) :
    Calls Try.prog 45 #[.pointer (some ⟨bp, 0, none⟩), .int .u64 id] w fun e w' => e = .returned (.pointer none) ∧ w = w' := by
  have HN := Lib.hid hn
  clear hn
  go_enter Try.func45, Try.ntmps45
  go_wp2
  go_loop [11] (fun i => ∃ k : Nat, k ≤ n ∧ i = .int .i64 k) (fun i => n - (intOf i).toNat)
  case atStart => exact ⟨0, by omega, rfl⟩
  case round =>
    obtain ⟨k, hk, rfl⟩ := hrel
    by_cases hlt : k < n
    · obtain ⟨b, off, _, rfl, -⟩ := hrow.form (by have := hrow.2.1; omega)
      obtain ⟨t, ht⟩ : ∃ t, l[k]? = some t := ⟨_, List.getElem?_eq_getElem (by rw [← HN.out]; exact hlt)⟩
      obtain ⟨t0, -, -, -⟩ := hrow.task ht
      have hne : (t.id == id) = false := beq_eq_false_iff_ne.2 (placeOf_none h k t ht)
      clear ht
      go_wp2
      go_round
      case rel => exact ⟨k + 1, by omega, by go_num⟩
      case measure => simp [intOf]; omega
    · go_wp2
      go_ret
      exact ⟨rfl, rfl⟩

set_option maxRecDepth 100000 in
theorem find_some (w : World) (bp : Nat) (l : List Task) (id : Int) (b off : Nat) (n cap : Nat) (ow : List Nat) (j : Nat) (h : placeOf l id = some j) (hrow : Row w 62 4 (some ⟨b, off, none⟩) n cap ow (cellsOf l)) (hn : n = l.length) (hn64 : n ≤ 64)
    (c3 : w.cell? ⟨bp, 3, none⟩ = some (.slice (some ⟨b, off, none⟩) n cap)) :
    Calls Try.prog 45 #[.pointer (some ⟨bp, 0, none⟩), .int .u64 id] w fun e w' => e = .returned (.pointer (some ⟨b, off + j * 4, none⟩)) ∧ w = w' := by
  have HN := Lib.hid hn
  obtain ⟨tj, htj, hid, hjn, hbe⟩ := placeOf_some h
  have hjn' : j < n := by omega
  have HB := Lib.hid hbe
  have HJ := Lib.hid htj
  have HI := Lib.hid hid
  clear hn htj hid hbe hjn h
  go_enter Try.func45, Try.ntmps45
  go_wp2
  go_loop [11] (fun i => ∃ k : Nat, k ≤ j ∧ i = .int .i64 k) (fun i => n - (intOf i).toNat)
  case atStart => exact ⟨0, by omega, rfl⟩
  case round =>
    obtain ⟨k, hk, rfl⟩ := hrel
    have hlt : k < n := by omega
    obtain ⟨t, ht⟩ : ∃ t, l[k]? = some t := ⟨_, List.getElem?_eq_getElem (by rw [← HN.out]; exact hlt)⟩
    obtain ⟨t0, -, -, -⟩ := hrow.task ht
    by_cases hkj : k < j
    · have hne : (t.id == id) = false := beq_eq_false_iff_ne.2 (HB.out k t hkj ht)
      clear ht
      go_wp2
      go_round
      case rel => exact ⟨k + 1, by omega, by go_num⟩
      case measure => simp [intOf]; omega
    · obtain rfl : k = j := by omega
      have hne : (t.id == id) = true := by
        have := HJ.out; rw [ht] at this; cases this
        exact beq_iff_eq.2 HI.out
      clear ht
      go_wp2
      go_ret
      exact ⟨rfl, rfl⟩

theorem turn_nil (w : World) (id : Int) (q : Bool) : Calls Try.prog 37 #[.pointer none, .int .u64 id, .bool q] w fun e w' => e = .returned (.int .i64 1) ∧ w = w' := by
  go_enter Try.func37, Try.ntmps37
  go_wp2_with (go_at_call 24; refine (none_nil _).mono ?_; rintro e w' ⟨rfl, rfl⟩)
  go_ret
  exact ⟨rfl, rfl⟩

theorem turn_any (w : World) (bp : Nat) (S : Pool) (own : List Nat) (hR : Rep w bp S own) (id : Int) (q : Bool) :
    Calls Try.prog 37 #[.pointer (some ⟨bp, 0, none⟩), .int .u64 id, .bool q] w (After own w (.int .i64 (S.turn id q).1) fun w' o => Rep w' bp (S.turn id q).2 o) := by
  obtain ⟨hok, aw, nw, cw, ow, aq, nq, cq, oq, bm, kv, hp, rfl⟩ := (fun h => h : Rep w bp S own → Rep w bp S own) hR
  obtain ⟨hnw, hnq⟩ := hp.nw
  have hlw := hok.lw
  have hw2 := hok.w2
  have hw1 := hok.w1
  have c0 := hp.at_.cell 0
  have c3 := hp.at_.cell 3
  simp at c0 c3
  have hn64 : nw ≤ 64 := by omega
  have HN := Lib.hid hnw
  clear hnw hnq hlw hw2
  cases hj : placeOf S.work id with
  | none =>
    have e : S.turn id q = (5, S) := by simp [Pool.turn, hj]
    rw [e]
    go_enter Try.func37, Try.ntmps37
    go_wp2_with (first | (go_at_call 24; refine (none_no _ _ _ hw1 c0).mono ?_; rintro e w' ⟨rfl, rfl⟩) | (go_at_call 45; refine (find_none _ _ S.work _ _ _ _ ow hj hp.work HN.out hn64 c3).mono ?_; rintro e w' ⟨rfl, rfl⟩))
    go_ret
    exact ⟨_, rfl, hR, Touch.refl _ _, fun b hb => .inl hb⟩
  | some j =>
    obtain ⟨t, ht, hti, hjl, -⟩ := placeOf_some hj
    have hjn : j < nw := by rw [HN.out]; exact hjl
    obtain ⟨b, off, cur, rfl, rfl, hcur, -⟩ := hp.work.form (by have := hp.work.2.1; omega)
    obtain ⟨-, -, t2, t3⟩ := hp.work.task ht
    have f2 := hp.work.frozen (by have := hp.work.2.1; omega) (off + j * 4 + 2)
    have f3 := hp.work.frozen (by have := hp.work.2.1; omega) (off + j * 4 + 3)
    have HT := Lib.hid ht
    have HO := Lib.hid hti
    have HJ := Lib.hid hj
    have HC := Lib.hid hcur
    clear ht hti hj hcur
    by_cases hb : t.blk = q
    · have e : S.turn id q = (3, S) := by simp [Pool.turn, HJ.out, HT.out, hb]
      rw [e]
      have hb' : (t.blk == q) = true := by rw [hb]; simp
      clear hb e
      go_enter Try.func37, Try.ntmps37
      go_wp2_with (first | (go_at_call 24; refine (none_no _ _ _ hw1 c0).mono ?_; rintro e w' ⟨rfl, rfl⟩) | (go_at_call 45; refine (find_some _ _ S.work _ _ _ _ _ _ j HJ.out hp.work HN.out hn64 c3).mono ?_; rintro e w' ⟨rfl, rfl⟩))
      go_ret
      exact ⟨_, rfl, hR, Touch.refl _ _, fun b hb => .inl hb⟩
    · have e : S.turn id q = (0, { S with work := S.work.set j { t with blk := q, age := 0 } }) := by simp [Pool.turn, HJ.out, HT.out, hb]
      rw [e]
      have hb' : (t.blk == q) = false := by simpa using hb
      clear hb e
      go_enter Try.func37, Try.ntmps37
      go_wp2_with (first | (go_at_call 24; refine (none_no _ _ _ hw1 c0).mono ?_; rintro e w' ⟨rfl, rfl⟩) | (go_at_call 45; refine (find_some _ _ S.work _ _ _ _ _ _ j HJ.out hp.work HN.out hn64 c3).mono ?_; rintro e w' ⟨rfl, rfl⟩))
      go_ret
      have hr1 := hp.work.set (j * 4 + 3) (by omega) (.bool q)
      have hr2 := hr1.set (j * 4 + 2) (by omega) (.int .i64 0)
      rw [cellsOf_set_blk _ _ _ _ HT.out, cellsOf_set_age _ _ { t with blk := q } _ (by simp [HN.out ▸ hjn]), List.set_set, ← Nat.add_assoc, ← Nat.add_assoc] at hr2
      refine ⟨_, rfl, hR.setWork hp hr2 (idsOf_set HT.out rfl) (by simp) ?_ (((Touch.refl _ w).setCell _ (by simp) _).setCell _ (by simp) _), ((Touch.refl _ w).setCell _ (by simp) _).setCell _ (by simp) _, fun b hb => .inl hb⟩
      intro t' ht'
      rcases List.mem_or_eq_of_mem_set ht' with h | rfl
      · exact hok.wt t' h
      · have := hok.wt t (List.mem_iff_getElem?.2 ⟨j, HT.out⟩)
        exact ⟨this.1, this.2.1, this.2.2.1, by simp, by simp⟩

theorem block_any (w : World) (bp : Nat) (S : Pool) (own : List Nat) (hR : Rep w bp S own) (id : Int) :
    Calls Try.prog 22 #[.pointer (some ⟨bp, 0, none⟩), .int .u64 id] w (After own w (.int .i64 (S.turn id true).1) fun w' o => Rep w' bp (S.turn id true).2 o) := by
  generalize hS : S.turn id true = r
  have h := turn_any w bp S own hR id true
  rw [hS] at h
  clear hS
  have H := Lib.hid h
  clear h
  go_enter Try.func22, Try.ntmps22
  go_wp2_with (go_at_call 37; refine H.out.mono ?_; rintro e w' ⟨own', rfl, hI, ht, ho⟩)
  go_ret
  exact ⟨own', rfl, hI, ht, ho⟩
theorem wake_any (w : World) (bp : Nat) (S : Pool) (own : List Nat) (hR : Rep w bp S own) (id : Int) :
    Calls Try.prog 23 #[.pointer (some ⟨bp, 0, none⟩), .int .u64 id] w (After own w (.int .i64 (S.turn id false).1) fun w' o => Rep w' bp (S.turn id false).2 o) := by
  generalize hS : S.turn id false = r
  have h := turn_any w bp S own hR id false
  rw [hS] at h
  clear hS
  have H := Lib.hid h
  clear h
  go_enter Try.func23, Try.ntmps23
  go_wp2_with (go_at_call 37; refine H.out.mono ?_; rintro e w' ⟨own', rfl, hI, ht, ho⟩)
  go_ret
  exact ⟨own', rfl, hI, ht, ho⟩
theorem block_nil (w : World) (id : Int) : Calls Try.prog 22 #[.pointer none, .int .u64 id] w fun e w' => e = .returned (.int .i64 1) ∧ w = w' := by
  go_enter Try.func22, Try.ntmps22
  go_wp2_with (go_at_call 37; refine (turn_nil _ _ _).mono ?_; rintro e w' ⟨rfl, rfl⟩)
  go_ret
  exact ⟨rfl, rfl⟩
theorem wake_nil (w : World) (id : Int) : Calls Try.prog 23 #[.pointer none, .int .u64 id] w fun e w' => e = .returned (.int .i64 1) ∧ w = w' := by
  go_enter Try.func23, Try.ntmps23
  go_wp2_with (go_at_call 37; refine (turn_nil _ _ _).mono ?_; rintro e w' ⟨rfl, rfl⟩)
  go_ret
  exact ⟨rfl, rfl⟩
end Go.Proofs.Ytaendccnjiagiaa
