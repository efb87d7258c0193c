/-
  slices.DeleteFunc and IndexFunc by a number.
-/
import Derived.Test.YtppgeljlmckimaaDoorLAsk
namespace Go.Proofs.YtppgeljlmckimaaDoor
open Go.RowKit

/-- clear of a slice's tail. -/
theorem run_clear_ints (w : World) {b off n cap : Nat} {own : List Nat} {xs : List Value} (h : Row w 3 1 (some ⟨b, off, none⟩) n cap own xs) (k c : Nat) (hk : k < n) :
    ∃ w', (∀ ty, (Builtin.clear_ #[30] ty #[.slice (some ⟨b, off + k, none⟩) (n - k) c]).run Tryd.prog w = .ok (.tuple #[]) w') ∧ Row w' 3 1 (some ⟨b, off, none⟩) n cap own (xs.take k ++ List.replicate (n - k) (.int .i64 0)) ∧ Touch [b] w w' := by
  obtain ⟨b', off', cur, h1, h2, hg, hs, ht⟩ := h.form (by have := h.2.1; omega)
  cases h1
  have hcap := h.2.1
  have hxl : xs.length = n := by have := h.1; omega
  have hz : (Builtin.zeroCells (Value.int .i64 0).cells (n - k)).toList = List.replicate (n - k) (.int .i64 0) := by
    have hc : (Value.int .i64 0).cells = #[Value.int .i64 0] := rfl
    unfold Builtin.zeroCells
    rw [hc]
    refine List.eq_replicate_iff.2 ⟨by simp, fun x hx => ?_⟩
    simp only [Array.toList_map, List.mem_map] at hx
    obtain ⟨i, -, rfl⟩ := hx
    rw [show i % #[Value.int .i64 0].size = 0 from Nat.mod_one i]
    rfl
  have hst := run_storeCells_at Tryd.prog b (off + k) 3 (List.replicate (n - k) (.int .i64 0)) 0 cur w hg (by simp; omega) (by intro v hv; rw [List.eq_of_mem_replicate hv]; rfl)
  simp only [Nat.add_zero, List.length_replicate] at hst
  refine ⟨w.setRow b (cur.toList.take (off + k) ++ List.replicate (n - k) (Value.int .i64 0) ++ cur.toList.drop (off + k + (n - k))).toArray, fun ty => ?_, ?_, ?_⟩
  · have hnz : n - k ≠ 0 := by omega
    obtain ⟨m, hm⟩ : ∃ m, n - k = m + 1 := ⟨n - k - 1, by omega⟩
    rw [hm] at hst hz ⊢
    simp only [Builtin.clear_, Sem.run_bind]
    simp [run_underlying Tryd.intsT, zeroInt, hz, hst]
  · refine ⟨by simp; omega, h.2.1, h.2.2.1, .inr ⟨b, off, _, rfl, h2, setRow_heap w b cur _ _ _ hg, ?_, ?_⟩⟩
    · simp; omega
    · simp only
      rw [Nat.mul_one]
      have e2 : cur.toList.take (off + k) = cur.toList.take off ++ xs.take k := by
        rw [List.take_add, ← ht, List.take_take, Nat.mul_one, Nat.min_eq_left (by omega)]
      have e3 : (cur.toList.take off).length = off := by rw [List.length_take]; simp; omega
      rw [e2, List.append_assoc, List.append_assoc, List.drop_left' e3, ← List.append_assoc]
      exact List.take_left' (by rw [List.length_append, List.length_take, List.length_replicate]; omega)
  · exact ⟨rfl, rfl, rfl, by simp, fun j _ hj => setRow_other w b j _ (by simpa using hj)⟩

theorem isIt (w : World) (x : Int) (c : Nat) (id : Int) (hc : w.cell? ⟨c, 0, none⟩ = some (.int .i64 id)) :
    Calls Tryd.prog 22 #[.int .i64 x, .pointer (some ⟨c, 0, none⟩)] w fun e w' => e = .returned (.bool (x == id)) ∧ w = w' := by
  go_enter Tryd.func22, Tryd.ntmps22
  go_wp2
  go_ret
  exact ⟨rfl, rfl⟩

def idxOf (l : List Int) (id : Int) : Int := match l.findIdx? (fun x => decide (x = id)) with
  | some j => (j : Int)
  | none => -1
theorem findIdx_none {l : List Int} {id : Int} (h : ∀ i, i < l.length → l.getD i 0 ≠ id) : l.findIdx? (fun x => decide (x = id)) = none := by
  rw [List.findIdx?_eq_none_iff]
  intro x hx
  obtain ⟨i, hi, rfl⟩ := List.mem_iff_getElem.1 hx
  have := h i hi
  simpa [List.getD, List.getElem?_eq_getElem hi] using this
theorem findIdx_some {l : List Int} {id : Int} {k : Nat} (hk : k < l.length) (h : ∀ i, i < k → l.getD i 0 ≠ id) (he : l.getD k 0 = id) : l.findIdx? (fun x => decide (x = id)) = some k := by
  rw [List.findIdx?_eq_some_iff_getElem]
  refine ⟨hk, ?_, fun j hj => ?_⟩
  · simpa [List.getD, List.getElem?_eq_getElem hk] using he
  · have := h j hj
    simpa [List.getD, List.getElem?_eq_getElem (show j < l.length by omega)] using this

set_option maxRecDepth 100000 in
theorem index_any (w : World) (l : List Int) (id : Int) (a : Option Addr) (n cap : Nat) (c : Nat) (hN : Nums w .i64 a n cap l) (hn64 : n ≤ 1024) (hc : w.cell? ⟨c, 0, none⟩ = some (.int .i64 id)) :
    Calls Tryd.prog 36 #[.slice a n cap, .func (.func 22) #[] #[.pointer (some ⟨c, 0, none⟩)]] w fun e w' => e = .returned (.int .i64 (idxOf l id)) ∧ w = w' := by
  have HN := Lib.hid hN
  have hcap := hN.cap_
  have hmax := hN.max
  clear hN
  go_enter Tryd.func36, Tryd.ntmps36
  go_wp2
  go_loop [8] (fun i => ∃ k : Nat, k ≤ n ∧ i = .int .i64 k ∧ Hid (∀ i, i < k → l.getD i 0 ≠ id)) (fun i => n - (intOf i).toNat)
  case atStart => exact ⟨0, by omega, rfl, fun i h => by omega⟩
  case round =>
    obtain ⟨k, hk, rfl, HB⟩ := hrel
    by_cases hlt' : k < n
    · obtain ⟨b, off, rfl, -, hb⟩ := HN.out.at_ (by omega)
      have q := hb k hlt'
      obtain ⟨x, hx⟩ : ∃ x, l.getD k 0 = x := ⟨_, rfl⟩
      rw [hx] at q
      have HX := Lib.hid hx
      clear hb hx
      cases hne : x == id
      · go_wp2_with (go_at_call 22; refine (isIt _ x c id hc).mono ?_; rw [hne]; rintro e w' ⟨rfl, rfl⟩)
        go_round
        case rel =>
          refine ⟨k + 1, by omega, by go_num, fun i hi => ?_⟩
          by_cases e : i = k
          · subst e; rw [HX.out]; simpa using hne
          · exact HB i (by omega)
        case measure => simp [intOf]; omega
      · go_wp2_with (go_at_call 22; refine (isIt _ x c id hc).mono ?_; rw [hne]; rintro e w' ⟨rfl, rfl⟩)
        go_ret
        exact ⟨by unfold idxOf; rw [findIdx_some (by rw [HN.out.len]; exact hlt') HB (by rw [HX.out]; simpa using hne)]; rfl, rfl⟩
    · obtain rfl : k = n := by omega
      have e : idxOf l id = -1 := by unfold idxOf; rw [findIdx_none (fun i hi => HB i (by rw [← HN.out.len]; exact hi))]
      have E := Lib.hid e
      clear e HB
      go_wp2
      go_ret
      exact ⟨by rw [E.out]; rfl, rfl⟩

/-- What DeleteFunc leaves: the same cells, those that are left ahead. -/
def DelPost (w : World) (l : List Int) (id : Int) (a : Option Addr) (cap : Nat) (o : List Nat) (e : Ending) (w' : World) : Prop :=
  e = .returned (.slice a (l.filter fun x => decide (x ≠ id)).length cap) ∧ Row w' 3 1 a (l.filter fun x => decide (x ≠ id)).length cap o (ints (l.filter fun x => decide (x ≠ id))) ∧ Touch o w w'

set_option maxRecDepth 100000 in
set_option maxHeartbeats 1600000 in
theorem delete_any (w : World) (l : List Int) (id : Int) (a : Option Addr) (n cap : Nat) (o : List Nat) (c : Nat) (hrow : Row w 3 1 a n cap o (ints l)) (hn64 : n ≤ 1024) (hc : w.cell? ⟨c, 0, none⟩ = some (.int .i64 id)) (hco : c ∉ o) :
    Calls Tryd.prog 23 #[.slice a n cap, .func (.func 22) #[] #[.pointer (some ⟨c, 0, none⟩)]] w (DelPost w l id a cap o) := by
  have hn : l.length = n := by have := hrow.1; simpa [ints] using this
  cases hf : l.findIdx? (fun x => decide (x = id)) with
  | none =>
    have e : idxOf l id = -1 := by unfold idxOf; rw [hf]
    have hfl : l.filter (fun x => decide (x ≠ id)) = l := by
      rw [List.filter_eq_self]
      intro x hx
      have := (List.findIdx?_eq_none_iff.1 hf) x hx
      simpa using this
    have H := index_any w l id a n cap c (Nums.ofRow hrow) hn64 hc
    rw [e] at H
    have HH := Lib.hid H
    have HR := Lib.hid hrow
    have HF := Lib.hid hfl
    have HL := Lib.hid hn
    clear H hrow hf e hfl hn
    go_enter Tryd.func23, Tryd.ntmps23
    go_wp2_with (go_at_call 36; refine HH.out.mono ?_; rintro e w' ⟨rfl, rfl⟩)
    go_ret
    unfold DelPost
    rw [HF.out, HL.out]
    exact ⟨rfl, HR.out, Touch.refl _ _⟩
  | some i0 =>
    have e : idxOf l id = (i0 : Int) := by unfold idxOf; rw [hf]
    obtain ⟨hi0, hx1, hx2⟩ := List.findIdx?_eq_some_iff_getElem.1 hf
    have hfl : (l.take (i0 + 1)).filter (fun x => decide (x ≠ id)) = l.take i0 := by
      rw [List.take_succ_eq_append_getElem hi0, List.filter_append]
      have h1 : (l.take i0).filter (fun x => decide (x ≠ id)) = l.take i0 := by
        rw [List.filter_eq_self]
        intro x hx
        obtain ⟨j, hj, rfl⟩ := List.mem_iff_getElem.1 hx
        rw [List.length_take] at hj
        have := hx2 j (by omega)
        simpa using this
      have h2 : [l[i0]].filter (fun x => decide (x ≠ id)) = [] := by
        have : l[i0] = id := by simpa using hx1
        simp [this]
      rw [h1, h2, List.append_nil]
    have H := index_any w l id a n cap c (Nums.ofRow hrow) hn64 hc
    rw [e] at H
    obtain ⟨b, off, _, rfl, rfl, -⟩ := hrow.form (by have := hrow.2.1; omega)
    have hcap := hrow.2.1
    have hmax := hrow.2.2.1
    unfold maxLen at hmax
    have hi0n : i0 < n := by omega
    have hm1 : ((i0 : Int) == -1) = false := beq_eq_false_iff_ne.2 (by omega)
    have lc := World.block_lt_of_cell? w _ hc
    have hcb : c ≠ b := by simpa using hco
    have HH := Lib.hid H
    have HR := Lib.hid hrow
    have HF := Lib.hid hfl
    have HL := Lib.hid hn
    clear H hrow hf e hfl hn hx1 hx2 hi0
    go_enter Tryd.func23, Tryd.ntmps23
    go_wp2_with (go_at_call 36; refine HH.out.mono ?_; rintro e w' ⟨rfl, rfl⟩)
    go_loopw [6, 5] (fun j i wr => ∃ jj ii : Nat, jj ≤ n ∧ ii < jj ∧ j = .int .i64 jj ∧ i = .int .i64 ii ∧ Touch [b] w wr ∧ Hid (∃ xs : List Int, Row wr 3 1 (some ⟨b, off, none⟩) n cap [b] (ints xs) ∧ ii = ((l.take jj).filter fun x => decide (x ≠ id)).length ∧ xs.take ii = ((l.take jj).filter fun x => decide (x ≠ id)) ∧ xs.drop jj = l.drop jj)) (fun j _ _ => n - (intOf j).toNat)
    case atStart => exact ⟨i0 + 1, i0, by omega, by omega, by go_num, rfl, Touch.refl _ _, l, HR.out, by rw [HF.out, List.length_take, HL.out]; omega, by rw [HF.out], rfl⟩
    case round =>
      obtain ⟨jj, ii, hj, hi, rfl, rfl, t, xs, hr, h1, h2, h3⟩ := hrel
      have hc' := (t.cell (p := ⟨c, 0, none⟩) lc (by simpa using hcb)).trans hc
      have hxl : xs.length = n := by have := hr.1; simpa [ints] using this
      by_cases hlt : jj < n
      · have q := hr.one jj hlt
        obtain ⟨v, hv⟩ : ∃ v, xs.getD jj 0 = v := ⟨_, rfl⟩
        rw [hv] at q
        have hlv : l[jj]? = some v := by
          have e1 : (xs.drop jj)[0]? = (l.drop jj)[0]? := by rw [h3]
          rw [List.getElem?_drop, List.getElem?_drop, Nat.add_zero] at e1
          rw [← e1, ← hv]
          simp [List.getD, List.getElem?_eq_getElem (show jj < xs.length by omega)]
        have hd1 : xs.drop (jj + 1) = l.drop (jj + 1) := by rw [← List.drop_drop, ← List.drop_drop, h3]
        have htk : l.take (jj + 1) = l.take jj ++ [v] := by rw [List.take_add_one, hlv]; rfl
        have qi := hr.one ii (by omega)
        have fi := hr.frozen (by omega) (off + ii)
        have hji : (jj : Int) < (n : Int) := by omega
        have hii : (ii : Int) < (n : Int) := by omega
        have HRR := Lib.hid hr
        have H1 := Lib.hid h1
        have H2 := Lib.hid h2
        have HD := Lib.hid hd1
        have HT := Lib.hid htk
        have T := Lib.hid t
        have HXL := Lib.hid hxl
        clear hv hlv hd1 htk hr h1 h2 h3 t hxl
        cases hne : v == id
        · have hvi := Lib.hid (show ¬ v = id by simpa using hne)
          go_wp2_with (go_at_call 22; refine (isIt _ v c id hc').mono ?_; rw [hne]; rintro e w' ⟨rfl, rfl⟩)
          go_roundw
          case rel =>
            have hs := HRR.out.set ii (by omega) (.int .i64 v)
            have ef : (l.take (jj + 1)).filter (fun x => decide (x ≠ id)) = (l.take jj).filter (fun x => decide (x ≠ id)) ++ [v] := by
              rw [HT.out, List.filter_append]
              simp [hvi.out]
            refine ⟨jj + 1, ii + 1, by omega, by omega, by go_num, by go_num, T.out.setCell _ (by simp) _, xs.set ii v, ?_, ?_, ?_, ?_⟩
            · have e1 : ints (xs.set ii v) = (ints xs).set ii (.int .i64 v) := by unfold ints; rw [List.map_set]
              rw [e1]; exact hs
            · rw [ef, List.length_append, ← H1.out]; rfl
            · rw [ef, ← H2.out, List.take_succ_eq_append_getElem (by rw [List.length_set, HXL.out]; omega), List.take_set_of_le (Nat.le_refl _)]
              simp
            · rw [List.drop_set_of_lt (by omega)]; exact HD.out
          case measure => simp [intOf]; omega
        · have hvi := Lib.hid (show v = id by simpa using hne)
          go_wp2_with (go_at_call 22; refine (isIt _ v c id hc').mono ?_; rw [hne]; rintro e w' ⟨rfl, rfl⟩)
          go_roundw
          case rel =>
            have ef : (l.take (jj + 1)).filter (fun x => decide (x ≠ id)) = (l.take jj).filter (fun x => decide (x ≠ id)) := by
              rw [HT.out, List.filter_append]
              simp [hvi.out]
            exact ⟨jj + 1, ii, by omega, by omega, by go_num, rfl, T.out, xs, HRR.out, by rw [ef]; exact H1.out, by rw [ef]; exact H2.out, HD.out⟩
          case measure => simp [intOf]; omega
      · obtain rfl : jj = n := by omega
        rw [List.take_of_length_le (l := l) (by rw [HL.out]; exact Nat.le_refl _)] at h1 h2
        obtain ⟨w5, hcl, hr5, t5⟩ := run_clear_ints wr hr ii (cap - ii) (by omega)
        have hcl := hcl (0)
        have e5 : (ints xs).take ii = ints (l.filter fun x => decide (x ≠ id)) := by unfold ints; rw [← List.map_take, h2]
        have hr6 := hr5.take ii (by omega)
        rw [Nat.mul_one, List.take_left' (by rw [List.length_take]; unfold ints; rw [List.length_map, hxl]; omega), e5] at hr6
        have HR6 := Lib.hid hr6
        have H1 := Lib.hid h1
        have T := Lib.hid (t.trans' t5)
        have hii : (ii : Int) ≤ (jj : Int) := by omega
        have hic : ¬ cap = ii := by omega
        have hicp : ii ≤ cap := by omega
        have hicp2 : (ii : Int) ≤ (cap : Int) := by omega
        have hil : ii ≤ jj := by omega
        clear hr5 hr6 t5 t h1 h2 h3 hxl e5 hr
        go_wp2_with fail
        go_ret
        unfold DelPost
        rw [← H1.out]
        exact ⟨rfl, HR6.out, T.out⟩
end Go.Proofs.YtppgeljlmckimaaDoor
