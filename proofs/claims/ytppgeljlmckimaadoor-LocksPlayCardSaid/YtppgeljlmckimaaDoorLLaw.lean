/-
  Locks: what goes, a cut, a leaving and a quitting keep.
-/
import Derived.Test.YtppgeljlmckimaaDoorLSpec
namespace Go.Proofs.YtppgeljlmckimaaDoor.Lk

theorem find_congr {α : Type} {f g : α → Bool} : ∀ {l : List α}, (∀ x ∈ l, f x = g x) → l.find? f = l.find? g
  | [], _ => rfl
  | x :: l, h => by rw [List.find?_cons, List.find?_cons, h x (by simp), find_congr (fun y hy => h y (by simp [hy]))]

/-- What goes leaves. -/
structure Gone (i : Int) (S : Lk) (r : Lk × Bool) : Prop where
  order : r.1.order = S.order
  paths : r.1.paths = S.paths
  has : ∀ j, j ≠ i → r.1.has j = S.has j
  up : S.has i ≤ r.1.has i
  yes : r.2 = true → r.1.next i = none ∧ r.1.queue = S.queue
  no : r.2 = false → r.1.next i ≠ none ∧ r.1.queue = S.queue ++ [i]

theorem goes_gone (i : Int) : ∀ (n : Nat) (S : Lk), (S.paths i).length ≤ S.has i + n → Gone i S (goes i n S)
  | 0, S, hl => ⟨rfl, rfl, fun _ _ => rfl, Nat.le_refl _, fun _ => ⟨by unfold goes next; exact List.getElem?_eq_none_iff.2 hl, rfl⟩, fun h => by cases h⟩
  | n + 1, S, hl => by
    unfold goes
    cases hn : S.next i with
    | none => exact ⟨rfl, rfl, fun _ _ => rfl, Nat.le_refl _, fun _ => ⟨hn, rfl⟩, fun h => by cases h⟩
    | some p =>
      simp only
      split
      · exact ⟨rfl, rfl, fun _ _ => rfl, Nat.le_refl _, (fun h => by cases h), fun _ => ⟨by unfold next at hn ⊢; simp only; rw [hn]; simp, rfl⟩⟩
      · have ih := goes_gone i n (S.setHas i (S.has i + 1)) (by simp only [setHas, up_same]; omega)
        refine ⟨ih.order, ih.paths, fun j hj => ?_, ?_, ih.yes, ih.no⟩
        · rw [ih.has j hj]; simp only [setHas, up_other _ _ hj]
        · have := ih.up
          rw [show (S.setHas i (S.has i + 1)).has i = S.has i + 1 from up_same _ _ _] at this
          omega
theorem goes_inv (i : Int) (ex : List Int) (hx : i ∉ ex) : ∀ (n : Nat) (S : Lk), Inv (i :: ex) S → i ∈ S.order → (S.paths i).length ≤ S.has i + n → Inv ex (goes i n S).1
  | 0, S, h, hi, hl => h.done (by unfold next; exact List.getElem?_eq_none_iff.2 hl)
  | n + 1, S, h, hi, hl => by
    unfold goes
    cases hn : S.next i with
    | none => exact h.done hn
    | some p =>
      simp only
      split
      · exact h.wait hi hx (by rw [hn]; simp)
      · rename_i hh
        have hh' : S.held p = none := by cases hq : S.held p with
          | none => rfl
          | some j => rw [hq] at hh; simp at hh
        exact goes_inv i ex hx n _ (h.take hi (by simp) hn hh') hi (by simp only [setHas, up_same]; omega)
theorem goesAll_gone (S : Lk) (i : Int) (hl : S.has i ≤ (S.paths i).length) : Gone i S (S.goesAll i) := goes_gone i _ S (by omega)
theorem goesAll_inv {S : Lk} {i : Int} {ex : List Int} (hx : i ∉ ex) (h : Inv (i :: ex) S) (hi : i ∈ S.order) : Inv ex (S.goesAll i).1 := goes_inv i ex hx _ S h hi (by have := h.hl i; omega)

theorem sorted_iff {l : List Int} : sorted l = true ↔ l.Pairwise (· < ·) := by simp [sorted]
theorem Inv.empty : Inv [] ⟨[], fun _ => [], fun _ => 0, []⟩ :=
  ⟨by simp, by simp, by simp, by simp, by simp, by simp, by simp, by simp⟩
theorem Inv.join {S : Lk} (h : Inv [] S) {id : Int} (hid : id ∉ S.order) {ps : List Int} (hs : sorted ps = true) : Inv [id] (S.join id ps) := by
  have hq : id ∉ S.queue := fun hm => hid (h.qo id hm).1
  have hnx : ∀ j, j ≠ id → (S.join id ps).next j = S.next j := fun j hj => by unfold next Lk.join; simp only [up_other _ _ hj]
  have ho : ∀ j ∈ (S.join id ps).order, j ∈ S.order ∧ j ≠ id ∨ j = id := by
    intro j hj
    rcases List.mem_append.1 hj with h' | h'
    · exact .inl ⟨h', fun e => hid (e ▸ h')⟩
    · simp at h'; exact .inr h'
  have htk : ∀ j, j ≠ id → ((S.join id ps).paths j).take ((S.join id ps).has j) = (S.paths j).take (S.has j) := fun j hj => by unfold Lk.join; simp only [up_other _ _ hj]
  have ht0 : ((S.join id ps).paths id).take ((S.join id ps).has id) = [] := by unfold Lk.join; simp only [up_same, List.take_zero]
  refine ⟨?_, h.qn, fun j hj => ?_, fun j hj => ?_, fun j hj hjx hjn => ?_, fun j => ?_, fun j hj => ?_, fun a ha b hb p hpa hpb => ?_⟩
  · unfold Lk.join
    simp only [List.nodup_append]
    exact ⟨h.nd, by simp, fun a ha b hb => by simp at hb; subst hb; rintro rfl; exact hid ha⟩
  · have hne : j ≠ id := fun e => hq (e ▸ hj)
    rw [hnx j hne]
    exact ⟨List.mem_append.2 (.inl (h.qo j hj).1), (h.qo j hj).2⟩
  · have hne : j ≠ id := fun e => hq (e ▸ hj)
    simpa using hne
  · have hne : j ≠ id := by simpa using hjx
    rw [hnx j hne] at hjn
    rcases ho j hj with ⟨h1, -⟩ | h1
    · exact h.wq j h1 (by simp) hjn
    · exact absurd h1 hne
  · by_cases e : j = id
    · subst e; unfold Lk.join; simp only [up_same]; omega
    · unfold Lk.join; simp only [up_other _ _ e]; exact h.hl j
  · rcases ho j hj with ⟨h1, h2⟩ | h1
    · unfold Lk.join; simp only [up_other _ _ h2]; exact h.srt j h1
    · subst h1; unfold Lk.join; simp only [up_same]; exact sorted_iff.1 hs
  · rcases ho a ha with ⟨h1, h2⟩ | rfl
    · rcases ho b hb with ⟨h3, h4⟩ | rfl
      · rw [htk a h2] at hpa; rw [htk b h4] at hpb; exact h.dis a h1 b h3 p hpa hpb
      · rw [ht0] at hpb; simp at hpb
    · rw [ht0] at hpa; simp at hpa
theorem held_join {S : Lk} {id : Int} (hid : id ∉ S.order) (ps : List Int) (p : Int) : (S.join id ps).held p = S.held p := by
  unfold held join
  simp only [List.find?_append]
  have e1 : S.order.find? (fun i => holds { order := S.order ++ [id], paths := up S.paths id ps, has := up S.has id 0, queue := S.queue } i p) = S.order.find? (fun i => S.holds i p) := by
    refine find_congr fun i hi => ?_
    have hne : i ≠ id := fun e => hid (e ▸ hi)
    unfold holds; simp only [up_other _ _ hne]
  rw [e1]
  have e2 : List.find? (fun i => holds { order := S.order ++ [id], paths := up S.paths id ps, has := up S.has id 0, queue := S.queue } i p) [id] = none := by
    simp [holds, up_same]
  rw [e2]
  cases S.order.find? _ <;> rfl
theorem waits_join {S : Lk} (h : Inv [] S) {id : Int} (hid : id ∉ S.order) (ps : List Int) (p : Int) : (S.join id ps).waitsFor p = S.waitsFor p := by
  unfold waitsFor
  refine List.filter_congr fun j hj => ?_
  have hne : j ≠ id := fun e => hid (e ▸ (h.qo j hj).1)
  unfold next join
  simp only [up_other _ _ hne]

/-! one lets go -/
theorem next_cut {S : Lk} {id : Int} (h : 0 < S.has id) (j : Int) : (S.cut id).next j = S.next j := by
  unfold next cut
  by_cases e : j = id
  · subst e
    simp only [up_same, List.getElem?_tail]
    rw [Nat.sub_add_cancel h]
  · simp only [up_other _ _ e]
theorem take_cut {S : Lk} {id p : Int} {t : List Int} (hp : S.paths id = p :: t) (h : 0 < S.has id) : ((S.cut id).paths id).take ((S.cut id).has id) = t.take (S.has id - 1) ∧ (S.paths id).take (S.has id) = p :: t.take (S.has id - 1) := by
  unfold cut
  simp only [up_same, hp, List.tail_cons, true_and]
  cases hh : S.has id with
  | zero => omega
  | succ k => simp
theorem Inv.cut {ex : List Int} {S : Lk} {id p : Int} {t : List Int} (h : Inv ex S) (hp : S.paths id = p :: t) (h0 : 0 < S.has id) : Inv ex (S.cut id) := by
  obtain ⟨t1, t2⟩ := take_cut hp h0
  have sub : ∀ j q, q ∈ ((S.cut id).paths j).take ((S.cut id).has j) → q ∈ (S.paths j).take (S.has j) := by
    intro j q hq
    by_cases e : j = id
    · subst e; rw [t1] at hq; rw [t2]; simp [hq]
    · unfold Lk.cut at hq; simp only [up_other _ _ e] at hq; exact hq
  refine ⟨h.nd, h.qn, fun j hj => by rw [next_cut h0]; exact h.qo j hj, h.qx, fun j hj hjx hjn => by rw [next_cut h0] at hjn; exact h.wq j hj hjx hjn, fun j => ?_, fun j hj => ?_, fun a ha b hb q hqa hqb => h.dis a ha b hb q (sub a q hqa) (sub b q hqb)⟩
  · have := h.hl id
    by_cases e : j = id
    · subst e; unfold Lk.cut; simp only [up_same, List.length_tail]; omega
    · unfold Lk.cut; simp only [up_other _ _ e]; exact h.hl j
  · by_cases e : j = id
    · subst e; unfold Lk.cut; simp only [up_same]; exact (h.srt j hj).sublist (List.tail_sublist _)
    · unfold Lk.cut; simp only [up_other _ _ e]; exact h.srt j hj
theorem held_cut {ex : List Int} {S : Lk} {id p : Int} {t : List Int} (h : Inv ex S) (hid : id ∈ S.order) (hp : S.paths id = p :: t) (h0 : 0 < S.has id) (q : Int) : (S.cut id).held q = if q = p then none else S.held q := by
  obtain ⟨t1, t2⟩ := take_cut hp h0
  have hnd : p ∉ t := by
    have := h.srt id hid
    rw [hp, List.pairwise_cons] at this
    intro hm
    have := this.1 p hm
    omega
  split
  · subst q
    cases hh : (S.cut id).held p with
    | none => rfl
    | some j =>
      exfalso
      obtain ⟨h1, h2⟩ := held_some hh
      by_cases e : j = id
      · subst e; rw [t1] at h2; exact hnd (List.mem_of_mem_take h2)
      · have h3 : p ∈ (S.paths j).take (S.has j) := by unfold Lk.cut at h2; simp only [up_other _ _ e] at h2; exact h2
        exact e (h.dis j h1 id hid p h3 (by rw [t2]; simp))
  · rename_i hne
    unfold held
    have e : ∀ j, (S.cut id).holds j q = S.holds j q := by
      intro j
      unfold holds
      by_cases e : j = id
      · subst e; rw [t1, t2]; simp [hne]
      · unfold Lk.cut; simp only [up_other _ _ e]
    simp only [e]
    rfl
theorem waits_cut {S : Lk} {id : Int} (h : 0 < S.has id) (q : Int) : (S.cut id).waitsFor q = S.waitsFor q := by
  unfold waitsFor
  simp only [next_cut h]
  rfl
theorem Inv.leave {ex : List Int} {S : Lk} (h : Inv ex S) (j : Int) : Inv (j :: ex) (S.leave j) := by
  refine ⟨h.nd, h.qn.filter _, fun i hi => h.qo i (List.mem_filter.1 hi).1, fun i hi => ?_, fun i hi hx hn => ?_, h.hl, h.srt, h.dis⟩
  · obtain ⟨h1, h2⟩ := List.mem_filter.1 hi
    simp only [List.mem_cons, not_or]
    exact ⟨by simpa using h2, h.qx i h1⟩
  · simp only [List.mem_cons, not_or] at hx
    exact List.mem_filter.2 ⟨h.wq i hi hx.2 hn, by simpa using hx.1⟩
theorem held_leave (S : Lk) (j p : Int) : (S.leave j).held p = S.held p := rfl
theorem next_leave (S : Lk) (j i : Int) : (S.leave j).next i = S.next i := rfl
theorem waits_leave (S : Lk) (j p : Int) : (S.leave j).waitsFor p = (S.waitsFor p).filter fun x => decide (x ≠ j) := by
  unfold waitsFor leave next
  simp only [List.filter_filter, Bool.and_comm]
theorem waits_leave_head {ex : List Int} {S : Lk} (h : Inv ex S) {j p : Int} {l : List Int} (hw : S.waitsFor p = j :: l) (q : Int) : (S.leave j).waitsFor q = if q = p then l else S.waitsFor q := by
  rw [waits_leave]
  have hj : S.next j = some p := by
    have : j ∈ S.waitsFor p := by rw [hw]; simp
    unfold waitsFor at this
    simpa using (List.mem_filter.1 this).2
  split
  · subst q
    have hn : (S.waitsFor p).Nodup := h.qn.filter _
    rw [hw] at hn ⊢
    rw [List.filter_cons]
    simp only [ne_eq, not_true, decide_false, if_neg (show ¬ (false = true) by decide)]
    rw [List.filter_eq_self]
    intro x hx
    have := (List.nodup_cons.1 hn).1
    simp only [decide_eq_true_eq]
    rintro rfl
    exact this hx
  · rename_i hne
    rw [List.filter_eq_self]
    intro x hx
    unfold waitsFor at hx
    have := (List.mem_filter.1 hx).2
    simp only [decide_eq_true_eq] at this ⊢
    rintro rfl
    rw [hj] at this
    exact hne (by simpa using this.symm)
end Go.Proofs.YtppgeljlmckimaaDoor.Lk
