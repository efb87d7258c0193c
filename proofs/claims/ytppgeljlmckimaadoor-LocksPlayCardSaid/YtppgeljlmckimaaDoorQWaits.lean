/-
  The document's locks: Waits; out.
-/
import Derived.Test.YtppgeljlmckimaaDoorQLook
namespace Go.Proofs.YtppgeljlmckimaaDoor
open Go.RowKit

set_option maxRecDepth 100000 in
theorem qwaits_any (w : World) (rp : Nat) (col : Nat → Option QTag) (S : Lk) (blk : Int → Nat) (hQ : QAt w rp col S blk) (hl : ∀ i, S.has i ≤ (S.paths i).length) (i : Int) :
    Calls Tryd.prog 29 #[.pointer (some ⟨rp, 0, none⟩), .int .i64 i] w fun e w' => e = .returned (waitsV (S.waitsV i)) ∧ Touch [] w w' := by
  have CF := qfind_any w rp col S blk hQ i
  obtain ⟨la, ln, lc, lo, qa, qn, qc, qo, h⟩ := hQ
  unfold Lk.waitsV
  by_cases hio : i ∈ S.order
  · rw [if_pos hio]
    obtain ⟨a, n, c, o, hob⟩ := h.obj i hio
    have d1 := hob.at_.cell 1
    have d2 := hob.at_.cell 2
    simp at d1 d2
    have hn : n = (S.paths i).length := by have := hob.row.1; simpa [u64s] using this.symm
    have hli := hl i
    have hnc := hob.row.2.1
    have hcm := hob.row.2.2.1
    unfold maxLen at hcm
    have hf : findV blk S i = .pointer (some ⟨blk i, 0, none⟩) := by rw [findV, if_pos hio]
    rw [hf] at CF
    cases hx : S.next i with
    | none =>
      have hh := Lk.next_none hx
      have hq2 : (((S.has i : Nat) : Int) == (n : Int)) = true := by rw [beq_iff_eq]; omega
      have hq3 : (S.has i == n) = true := by rw [beq_iff_eq]; omega
      have HCF := Lib.hid CF
      clear hh hn h hob hl hli hx hf CF
      go_enter Tryd.func29, Tryd.ntmps29
      go_wp2_with fail
      refine HCF.out.mono ?_
      rintro e w1 ⟨rfl, rfl⟩
      go_wp2_with fail
      go_quiet (fail)
      go_wp2
      go_ret2
      exact ⟨rfl, (Touch.refl _ _).drewN _⟩
    | some p =>
      obtain ⟨hlt, hpp⟩ := Lk.next_lt hx
      obtain ⟨k, hk⟩ : ∃ k, S.has i = k := ⟨_, rfl⟩
      rw [hk] at hlt d2
      have hq2 : (((k : Nat) : Int) == (n : Int)) = false := by rw [beq_eq_false_iff_ne]; omega
      have hq3 : (k == n) = false := by rw [beq_eq_false_iff_ne]; omega
      obtain ⟨b, off, _, rfl, -⟩ := hob.row.form (by omega)
      have d3 := hob.row.cellSome k (.int .u64 p) (by unfold u64s; rw [List.getElem?_map]; unfold Lk.next at hx; rw [hk] at hx; rw [hx]; rfl)
      have hkn : (k : Int) < (n : Int) := by omega
      have HCF := Lib.hid CF
      clear hlt hpp hk hn h hob hl hli hx hf CF
      go_enter Tryd.func29, Tryd.ntmps29
      go_wp2_with fail
      refine HCF.out.mono ?_
      rintro e w1 ⟨rfl, rfl⟩
      go_wp2_with fail
      go_quiet (fail)
      go_wp2
      go_quiet (fail)
      go_wp2
      go_ret2
      exact ⟨rfl, ((Touch.refl _ _).drewN _).drewN _⟩
  · rw [if_neg hio]
    have hf : findV blk S i = .pointer none := by rw [findV, if_neg hio]
    rw [hf] at CF
    have HCF := Lib.hid CF
    clear h hl hio hf CF
    go_enter Tryd.func29, Tryd.ntmps29
    go_wp2_with fail
    refine HCF.out.mono ?_
    rintro e w1 ⟨rfl, rfl⟩
    go_wp2_with fail
    go_quiet (fail)
    go_wp2
    go_ret2
    exact ⟨rfl, (Touch.refl _ _).drewN _⟩

/-- out: a new list. -/
def OutPost (w : World) (q : List Int) (id : Int) (e : Ending) (w' : World) : Prop :=
  ∃ a n c o, e = .returned (.slice a n c) ∧ Row w' 3 1 a n c o (ints (q.filter fun x => decide (x ≠ id))) ∧ Touch [] w w' ∧ ∀ b ∈ o, w.heap.size ≤ b
set_option maxRecDepth 100000 in
set_option maxHeartbeats 800000 in
theorem qout_any (w : World) (q : List Int) (id : Int) (qa : Option Addr) (qn qc : Nat) (qo : List Nat) (hrow : Row w 3 1 qa qn qc qo (ints q)) (hq : q.length ≤ 1000) :
    Calls Tryd.prog 27 #[.slice qa qn qc, .int .i64 id] w (OutPost w q id) := by
  have hqn : qn = q.length := by have := hrow.1; simpa [ints] using this.symm
  have hle := hrow.2.1
  have hmax := hrow.2.2.1
  unfold maxLen at hmax
  have HQN := Lib.hid hqn
  have hq1 : qn ≤ 1000 := by omega
  have HR := Lib.hid hrow
  clear hqn hq hrow
  obtain ⟨i0, hii, hz0, hz1, hz2⟩ := info_parts Tryd.infoInt
  go_enter Tryd.func27, Tryd.ntmps27
  go_wp2_with fail
  go_loopw [6, 5] (fun i s wr => ∃ k a n c, k ≤ qn ∧ i = .int .i64 (k : Nat) ∧ s = .slice a n c ∧ n ≤ k ∧ Touch [] w wr ∧ Hid (∃ o, Row wr 3 1 a n c o (ints ((q.take k).filter fun x => decide (x ≠ id))) ∧ ∀ b ∈ o, w.heap.size ≤ b)) (fun i _ _ => qn - (intOf i).toNat)
  case atStart => exact ⟨0, none, 0, 0, by omega, rfl, rfl, by omega, Touch.refl _ _, [], Row.nil _ _ _ _, by simp⟩
  case round =>
    obtain ⟨k, a, n, c, hk, rfl, rfl, hnk, t, o, hr, ho⟩ := hrel
    by_cases hlt : k < qn
    · have hki : (k : Int) < (qn : Int) := by omega
      obtain ⟨x, hx⟩ : ∃ x, q[k]? = some x := ⟨_, List.getElem?_eq_getElem (by rw [← HQN.out]; exact hlt)⟩
      obtain ⟨b, off, _, rfl, -⟩ := HR.out.form (by omega)
      have cx := (HR.out.touch t (by simp)).cellSome k (.int .i64 x) (by rw [ints, List.getElem?_map, hx]; rfl)
      have htk : q.take (k + 1) = q.take k ++ [x] := by rw [List.take_add_one, hx]; rfl
      have HTK := Lib.hid htk
      have HRO := Lib.hid hr
      have HO := Lib.hid ho
      have HT := Lib.hid t
      clear hx htk hr ho t
      by_cases e : x = id
      · have hne : (x != id) = false := by simp [e]
        have HE := Lib.hid e
        clear e
        go_wp2_with fail
        go_roundw
        case rel =>
          refine ⟨k + 1, a, n, c, by omega, by go_num, rfl, by omega, HT.out, o, ?_, HO.out⟩
          rw [HTK.out, List.filter_append, List.filter_cons_of_neg (by simp [HE.out])]
          simpa using HRO.out
        case measure => simp [intOf]; omega
      · have hne : (x != id) = true := by simpa using e
        have HE := Lib.hid e
        clear e
        go_wp2_with (at_builtin; refine wpList_append_row _ rfl (.tmp 19) (.tmp 24) 30 rfl 3 i0 _ 1 8 Tryd.intsT hii hz0 hz1 hz2 rfl (by decide) a n c o _ rfl (HRO.out.alloc _) (some ⟨wr.heap.size, 0, none⟩) 1 1 [.int .i64 x] rfl rfl (.inr ⟨_, rfl, World.news_of_block (cs := #[.int .i64 x]) (t := 3) (fr := (0, 0)) (heap_alloc_new wr _)⟩) (by simp [Value.oneCell']) (by unfold maxLen; omega) (by omega) ?_; intro a9 cap9 own9 w9 hrow9 ht9 hown9 _ _)
        go_roundw
        case rel =>
          have hnew : ∀ b ∈ own9, w.heap.size ≤ b := fun b hb => by
            rcases hown9 with h | h
            · rw [h] at hb; exact HO.out b hb
            · rw [h] at hb; simp at hb; subst hb; have := HT.out.size; omega
          refine ⟨k + 1, a9, n + 1, cap9, by omega, by go_num, rfl, by omega, (HT.out.alloc _).trans ht9 (fun b hb => .inr (HO.out b hb)), own9, ?_, hnew⟩
          rw [HTK.out, List.filter_append, List.filter_cons_of_pos (by simpa using HE.out)]
          simpa [ints] using hrow9
        case measure => simp [intOf]; omega
    · have hki : ¬ (k : Int) < (qn : Int) := by omega
      rw [List.take_of_length_le (by rw [← HQN.out]; omega)] at hr
      have HRO := Lib.hid hr
      have HO := Lib.hid ho
      have HT := Lib.hid t
      clear hr ho t
      go_wp2_with fail
      go_ret
      exact ⟨a, n, c, o, rfl, HRO.out, HT.out, HO.out⟩
end Go.Proofs.YtppgeljlmckimaaDoor
