/-
  The document's locks: find, Holder, Waits.
-/
import Derived.Test.YtppgeljlmckimaaDoorQRep
namespace Go.Proofs.YtppgeljlmckimaaDoor
open Go.RowKit

theorem find_at {α : Type} {f : α → Bool} {x : α} : ∀ {l : List α} {k : Nat}, (∀ y ∈ l.take k, f y = false) → l[k]? = some x → f x = true → l.find? f = some x
  | [], k, _, h, _ => by simp at h
  | a :: l, 0, _, h, hf => by simp at h; subst h; rw [List.find?_cons, hf]
  | a :: l, k + 1, h0, h, hf => by
    rw [List.find?_cons, h0 a (by simp)]
    exact find_at (fun y hy => h0 y (by rw [List.take_succ_cons]; exact List.mem_cons_of_mem _ hy)) (by simpa using h) hf
section
variable {w : World} {rp : Nat} {col : Nat → Option QTag} {S : Lk} {blk : Int → Nat} {la : Option Addr} {ln lc : Nat} {lo : List Nat} {qa : Option Addr} {qn qc : Nat} {qo : List Nat}
theorem QParts.lnEq (h : QParts w rp col S blk la ln lc lo qa qn qc qo) : ln = S.order.length := by have := h.row.1; simpa [ptrs] using this.symm
theorem QParts.qnEq (h : QParts w rp col S blk la ln lc lo qa qn qc qo) : qn = S.queue.length := by have := h.queue.1; simpa [ints] using this.symm
theorem QParts.ptr {b off : Nat} (h : QParts w rp col S blk (some ⟨b, off, none⟩) ln lc lo qa qn qc qo) {k : Nat} {x : Int} (hx : S.order[k]? = some x) : w.cell? ⟨b, off + k, none⟩ = some (.pointer (some ⟨blk x, 0, none⟩)) :=
  h.row.cellSome k _ (by rw [ptrs, List.getElem?_map, hx]; rfl)
end
def findV (blk : Int → Nat) (S : Lk) (id : Int) : Value := .pointer (if id ∈ S.order then some ⟨blk id, 0, none⟩ else none)
set_option maxRecDepth 100000 in
theorem qfind_any (w : World) (rp : Nat) (col : Nat → Option QTag) (S : Lk) (blk : Int → Nat) (hQ : QAt w rp col S blk) (id : Int) :
    Calls Tryd.prog 26 #[.pointer (some ⟨rp, 0, none⟩), .int .i64 id] w fun e w' => e = .returned (findV blk S id) ∧ w = w' := by
  obtain ⟨la, ln, lc, lo, qa, qn, qc, qo, h⟩ := hQ
  have c0 := h.at_.cell 0
  simp at c0
  have hln := h.lnEq
  have hle := h.row.2.1
  have hmax := h.row.2.2.1
  unfold maxLen at hmax
  have H := Lib.hid h
  have HLN := Lib.hid hln
  clear h hln
  go_enter Tryd.func26, Tryd.ntmps26
  go_wp2_with fail
  go_loop [5] (fun i => ∃ k : Nat, k ≤ ln ∧ i = .int .i64 k ∧ Hid (∀ x ∈ S.order.take k, x ≠ id)) (fun i => ln - (intOf i).toNat)
  case atStart => exact ⟨0, by omega, rfl, fun x hx => by simp at hx⟩
  case round =>
    obtain ⟨k, hk, rfl, hno⟩ := hrel
    by_cases hlt : k < ln
    · have hki : (k : Int) < (ln : Int) := by omega
      obtain ⟨x, hx⟩ : ∃ x, S.order[k]? = some x := ⟨_, List.getElem?_eq_getElem (by rw [← HLN.out]; exact hlt)⟩
      obtain ⟨b, off, _, rfl, -⟩ := H.out.row.form (by omega)
      have cx := H.out.ptr hx
      have hxo := List.mem_of_getElem? hx
      obtain ⟨a', n', c', o', hob⟩ := H.out.obj x hxo
      have d0 := hob.at_.cell 0
      simp at d0
      have HNO := Lib.hid hno
      have HX := Lib.hid hx
      have HXO := Lib.hid hxo
      clear hob hno hx hxo
      by_cases e : x = id
      · subst e
        go_wp2_with fail
        go_ret
        exact ⟨by rw [findV, if_pos HXO.out]; rfl, rfl⟩
      · have hne : (x == id) = false := by rw [beq_eq_false_iff_ne]; exact e
        have HE := Lib.hid e
        clear e
        go_wp2_with fail
        go_round
        case rel =>
          refine ⟨k + 1, by omega, by go_num, ?_⟩
          intro y hy
          rw [List.take_add_one, HX.out] at hy
          rcases List.mem_append.1 hy with hy | hy
          · exact HNO.out y hy
          · simp at hy; subst hy; exact HE.out
        case measure => simp [intOf]; omega
    · have hki : ¬ (k : Int) < (ln : Int) := by omega
      have hn : id ∉ S.order := fun hm => by
        rw [List.take_of_length_le (by rw [← HLN.out]; omega)] at hno
        exact hno id hm rfl
      have HN := Lib.hid hn
      clear hno hn
      go_wp2_with fail
      go_ret
      exact ⟨by rw [findV, if_neg HN.out]; rfl, rfl⟩

set_option maxRecDepth 100000 in
set_option maxHeartbeats 800000 in
theorem qholder_any (w : World) (rp : Nat) (col : Nat → Option QTag) (S : Lk) (blk : Int → Nat) (hQ : QAt w rp col S blk) (hl : ∀ i, S.has i ≤ (S.paths i).length) (p : Int) :
    Calls Tryd.prog 30 #[.pointer (some ⟨rp, 0, none⟩), .int .u64 p] w fun e w' => e = .returned (holderV (S.held p)) ∧ w = w' := by
  obtain ⟨la, ln, lc, lo, qa, qn, qc, qo, h⟩ := hQ
  have c0 := h.at_.cell 0
  simp at c0
  have hln := h.lnEq
  have hle := h.row.2.1
  have hmax := h.row.2.2.1
  unfold maxLen at hmax
  have H := Lib.hid h
  have HLN := Lib.hid hln
  have HL := Lib.hid hl
  clear h hln hl
  go_enter Tryd.func30, Tryd.ntmps30
  go_wp2_with fail
  go_loop [6] (fun i => ∃ k : Nat, k ≤ ln ∧ i = .int .i64 k ∧ Hid (∀ x ∈ S.order.take k, S.holds x p = false)) (fun i => ln - (intOf i).toNat)
  case atStart => exact ⟨0, by omega, rfl, fun x hx => by simp at hx⟩
  case round =>
    obtain ⟨k, hk, rfl, hno⟩ := hrel
    by_cases hlt : k < ln
    · have hki : (k : Int) < (ln : Int) := by omega
      obtain ⟨x, hx⟩ : ∃ x, S.order[k]? = some x := ⟨_, List.getElem?_eq_getElem (by rw [← HLN.out]; exact hlt)⟩
      obtain ⟨b, off, _, rfl, -⟩ := H.out.row.form (by omega)
      have cx := H.out.ptr hx
      have hxo := List.mem_of_getElem? hx
      obtain ⟨a', n', c', o', hob⟩ := H.out.obj x hxo
      obtain ⟨hh, hhe⟩ : ∃ hh, S.has x = hh := ⟨_, rfl⟩
      rw [hhe] at hob
      have d0 := hob.at_.cell 0
      have d1 := hob.at_.cell 1
      have d2 := hob.at_.cell 2
      simp at d0 d1 d2
      have hn' : n' = (S.paths x).length := by have := hob.row.1; simpa [u64s] using this.symm
      have hhn : hh ≤ n' := by rw [← hhe, hn']; exact HL.out x
      have hnc := hob.row.2.1
      have hcm := hob.row.2.2.1
      unfold maxLen at hcm
      have HNO := Lib.hid hno
      have HX := Lib.hid hx
      have HOB := Lib.hid hob
      have HHE := Lib.hid hhe
      have HN' := Lib.hid hn'
      clear hob hno hx hxo hhe hn'
      go_wp2_with fail
      go_loop [7] (fun i => ∃ m : Nat, m ≤ hh ∧ i = .int .i64 m ∧ Hid (∀ q ∈ (S.paths x).take m, q ≠ p)) (fun i => hh - (intOf i).toNat)
      case atStart => exact ⟨0, by omega, rfl, fun x hx => by simp at hx⟩
      case round =>
        obtain ⟨m, hm, rfl, hno2⟩ := hrel
        by_cases hmt : m < hh
        · have hmi : (m : Int) < (hh : Int) := by omega
          have hmn : (m : Int) < (n' : Int) := by omega
          obtain ⟨q, hq⟩ : ∃ q, (S.paths x)[m]? = some q := ⟨_, List.getElem?_eq_getElem (by rw [← HN'.out]; omega)⟩
          obtain ⟨b', off', _, rfl, -⟩ := HOB.out.row.form (by omega)
          have cq := HOB.out.row.cellSome m (.int .u64 q) (by rw [u64s, List.getElem?_map, hq]; rfl)
          have HQ := Lib.hid hq
          have HNO2 := Lib.hid hno2
          clear hq hno2
          by_cases e : q = p
          · subst e
            go_wp2_with fail
            go_ret2
            refine ⟨?_, rfl⟩
            have : S.held q = some x := find_at HNO.out HX.out (by
              unfold Lk.holds
              rw [decide_eq_true_eq, HHE.out]
              refine List.mem_of_getElem? (i := m) ?_
              rw [List.getElem?_take, if_pos hmt]
              exact HQ.out)
            rw [this]
            rfl
          · have hne : (q == p) = false := by rw [beq_eq_false_iff_ne]; exact e
            have HE := Lib.hid e
            clear e
            go_wp2_with fail
            go_round
            case rel =>
              refine ⟨m + 1, by omega, by go_num, ?_⟩
              intro y hy
              rw [List.take_add_one, HQ.out] at hy
              rcases List.mem_append.1 hy with hy | hy
              · exact HNO2.out y hy
              · simp at hy; subst hy; exact HE.out
            case measure => simp [intOf]; omega
        · have hmi : ¬ (m : Int) < (hh : Int) := by omega
          obtain rfl : m = hh := by omega
          have HNO2 := Lib.hid hno2
          clear hno2
          go_wp2_with fail
          go_round
          case rel =>
            refine ⟨k + 1, by omega, by go_num, ?_⟩
            intro y hy
            rw [List.take_add_one, HX.out] at hy
            rcases List.mem_append.1 hy with hy | hy
            · exact HNO.out y hy
            · simp at hy
              subst hy
              unfold Lk.holds
              rw [decide_eq_false_iff_not, HHE.out]
              exact fun hm => HNO2.out p hm rfl
          case measure => simp [intOf]; omega
    · have hki : ¬ (k : Int) < (ln : Int) := by omega
      have hn : S.held p = none := by
        rw [List.take_of_length_le (by rw [← HLN.out]; omega)] at hno
        unfold Lk.held
        rw [List.find?_eq_none]
        intro y hy
        rw [hno y hy]
        simp
      have HN := Lib.hid hn
      clear hno hn
      go_wp2_with fail
      go_ret2
      exact ⟨by rw [HN.out]; rfl, rfl⟩
end Go.Proofs.YtppgeljlmckimaaDoor
