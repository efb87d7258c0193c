/-
  One lets go: what each of its paths does to the locks (plain).
-/
import Derived.Test.YtppgeljlmckimaaDoorLLaw
namespace Go.Proofs.YtppgeljlmckimaaDoor.Lk

theorem letStep_nil {S : Lk} {id p : Int} {rest ready : List Int} (hp : S.paths id = p :: rest) (hw : (S.cut id).waitsFor p = []) : letStep id (S, ready) = (S.cut id, ready) := by
  unfold letStep; simp [hp, hw]
theorem letStep_cons {S : Lk} {id p j : Int} {rest ready l : List Int} (hp : S.paths id = p :: rest) (hw : (S.cut id).waitsFor p = j :: l) :
    letStep id (S, ready) = ((((S.cut id).leave j).goesAll j).1, if (((S.cut id).leave j).goesAll j).2 then ready ++ [j] else ready) := by
  unfold letStep; simp [hp, hw]

/-- after t of its paths: S', and those that have all of theirs now. -/
structure Sem (S : Lk) (id : Int) (t : Nat) (S' : Lk) (ready : List Int) : Prop where
  inv : Inv [id] S'
  order : S'.order = S.order
  pid : S'.paths id = (S.paths id).drop t
  hid : S'.has id = S.has id - t
  oth : ∀ j, j ≠ id → S'.paths j = S.paths j
  all : letTo id (S.has id - t) (S', ready) = letTo id (S.has id) (S.leave id, [])
  rlen : ready.length ≤ t
  qlen : S'.queue.length ≤ S.queue.length + t
theorem Sem.start {S : Lk} (h : Inv [] S) (id : Int) : Sem S id 0 (S.leave id) [] :=
  ⟨h.leave id, rfl, by simp [leave], by simp [leave], fun _ _ => rfl, by simp, by simp, by simp [leave, List.length_filter_le]⟩
theorem Sem.path {S S' : Lk} {id : Int} {t : Nat} {ready : List Int} (h : Sem S id t S' ready) (hl : S.has id ≤ (S.paths id).length) (ht : t < S.has id) : S'.paths id = (S.paths id).getD t 0 :: (S.paths id).drop (t + 1) := by
  rw [h.pid, List.drop_eq_getElem_cons (by omega)]
  simp [List.getD, List.getElem?_eq_getElem (show t < (S.paths id).length by omega)]
theorem Sem.nil {S S' : Lk} {id : Int} {t : Nat} {ready : List Int} (h : Sem S id t S' ready) (hl : S.has id ≤ (S.paths id).length) (ht : t < S.has id) (hw : (S'.cut id).waitsFor ((S.paths id).getD t 0) = []) : Sem S id (t + 1) (S'.cut id) ready := by
  have hp := h.path hl ht
  have h0 : 0 < S'.has id := by rw [h.hid]; omega
  refine ⟨h.inv.cut hp h0, h.order, ?_, ?_, fun j hj => ?_, ?_, by have := h.rlen; omega, by have := h.qlen; simp only [cut]; omega⟩
  · simp only [cut, up_same]; rw [hp]; rfl
  · simp only [cut, up_same]; rw [h.hid]; omega
  · simp only [cut, up_other _ _ hj]; exact h.oth j hj
  · rw [← h.all, show S.has id - t = (S.has id - (t + 1)) + 1 by omega]
    conv => rhs; unfold letTo
    rw [letStep_nil hp hw]
theorem Sem.cons {S S' : Lk} {id j : Int} {t : Nat} {ready l : List Int} (h : Sem S id t S' ready) (hl : S.has id ≤ (S.paths id).length) (ht : t < S.has id) (hw : (S'.cut id).waitsFor ((S.paths id).getD t 0) = j :: l) :
    j ∈ S.order ∧ j ≠ id ∧ Inv (j :: [id]) ((S'.cut id).leave j) ∧ Gone j ((S'.cut id).leave j) (((S'.cut id).leave j).goesAll j) ∧
    Sem S id (t + 1) (((S'.cut id).leave j).goesAll j).1 (if (((S'.cut id).leave j).goesAll j).2 then ready ++ [j] else ready) := by
  have hp := h.path hl ht
  have h0 : 0 < S'.has id := by rw [h.hid]; omega
  have hc := h.inv.cut hp h0
  have hj : j ∈ (S'.cut id).queue := by
    have : j ∈ (S'.cut id).waitsFor ((S.paths id).getD t 0) := by rw [hw]; simp
    exact (List.mem_filter.1 this).1
  have hjo := (hc.qo j hj).1
  have hjid : j ≠ id := by have := hc.qx j hj; simpa using this
  have hd := hc.leave j
  have hg := goesAll_gone ((S'.cut id).leave j) j (hd.hl j)
  have hgi := goesAll_inv (by simpa using hjid) hd hjo
  have hjo' : j ∈ S.order := by rw [← h.order]; exact hjo
  refine ⟨hjo', hjid, hd, hg, hgi, hg.order.trans h.order, ?_, ?_, fun i hi => ?_, ?_, ?_, ?_⟩
  · rw [hg.paths]; simp only [leave, cut, up_same]; rw [hp]; rfl
  · rw [hg.has id (Ne.symm hjid)]; simp only [leave, cut, up_same]; rw [h.hid]; omega
  · rw [hg.paths]; simp only [leave, cut, up_other _ _ hi]; exact h.oth i hi
  · rw [← h.all, show S.has id - t = (S.has id - (t + 1)) + 1 by omega]
    conv => rhs; unfold letTo
    rw [letStep_cons hp hw]
  · have := h.rlen
    split <;> simp <;> omega
  · have h1 := h.qlen
    have h2 : ((S'.cut id).leave j).queue.length ≤ S'.queue.length := List.length_filter_le _ _
    cases hb : (((S'.cut id).leave j).goesAll j).2 with
    | true => rw [(hg.yes hb).2]; omega
    | false => rw [(hg.no hb).2]; simp; omega

/-- at the end: it has nothing any more, and goes. -/
theorem Inv.quit {S : Lk} {id : Int} (h : Inv [id] S) (h0 : S.has id = 0) : Inv [] (S.quit id) := by
  have ho : ∀ j, j ∈ (S.quit id).order → j ∈ S.order ∧ j ≠ id := fun j hj => by
    obtain ⟨h1, h2⟩ := List.mem_filter.1 hj
    exact ⟨h1, by simpa using h2⟩
  refine ⟨h.nd.filter _, h.qn, fun i hi => ⟨List.mem_filter.2 ⟨(h.qo i hi).1, by have := h.qx i hi; simpa using this⟩, (h.qo i hi).2⟩, by simp, fun i hi _ hn => h.wq i (ho i hi).1 (by simpa using (ho i hi).2) hn, h.hl, fun i hi => h.srt i (ho i hi).1, fun a ha b hb p hpa hpb => h.dis a (ho a ha).1 b (ho b hb).1 p hpa hpb⟩
theorem held_quit {S : Lk} {id : Int} (h0 : S.has id = 0) (p : Int) : (S.quit id).held p = S.held p := by
  unfold held quit
  simp only
  have : ∀ l : List Int, (l.filter fun x => decide (x ≠ id)).find? (fun i => holds { order := S.order.filter fun x => decide (x ≠ id), paths := S.paths, has := S.has, queue := S.queue } i p) = l.find? (fun i => S.holds i p) := by
    intro l
    rw [List.find?_filter]
    refine find_congr fun i _ => ?_
    by_cases e : i = id
    · subst e
      simp [holds, h0]
    · simp [e, holds]
  exact this S.order
theorem waits_quit (S : Lk) (id p : Int) : (S.quit id).waitsFor p = S.waitsFor p := rfl
end Go.Proofs.YtppgeljlmckimaaDoor.Lk
