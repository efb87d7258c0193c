/-
  LocksAlone: the plain part: who has all of his paths has each of them himself.
-/
import Derived.Test.YtppgeljlmckimaaDoorLRead
import Derived.Test.YtppgeljlmckimaaDoorLWorks
namespace Go.Proofs.YtppgeljlmckimaaDoor
namespace Lk
theorem letFin {S : Lk} (h : Inv [] S) (id : Int) : ∀ t, t ≤ S.has id → ∃ S' ready, Sem S id t S' ready
  | 0, _ => ⟨_, _, Sem.start h id⟩
  | t + 1, ht => by
    obtain ⟨S', ready, hs⟩ := letFin h id t (by omega)
    cases hw : (S'.cut id).waitsFor ((S.paths id).getD t 0) with
    | nil => exact ⟨_, _, hs.nil (h.hl id) (by omega) hw⟩
    | cons j l => exact ⟨_, _, (hs.cons (h.hl id) (by omega) hw).2.2.2.2⟩
def letEnd (S : Lk) (id : Int) : Lk := (letTo id (S.has id) (S.leave id, [])).1.quit id
theorem letEnd_spec {S : Lk} (h : Inv [] S) (id : Int) : (S.letEnd id).order = S.order.filter (fun x => decide (x ≠ id)) ∧ ∀ j, j ≠ id → (S.letEnd id).paths j = S.paths j := by
  obtain ⟨S', ready, hs⟩ := letFin h id _ (Nat.le_refl _)
  have ha := hs.all
  rw [Nat.sub_self] at ha
  unfold letEnd
  rw [← ha]
  exact ⟨by simp only [letTo, quit, hs.order], fun j hj => hs.oth j hj⟩

/-- What is kept by LocksAlone. -/
structure Alone (S : Lk) (ga : Nat → Bool) (l : Nat → Asking) (i : Nat) : Prop where
  lt : ∀ j ∈ S.order, 0 ≤ j ∧ j < i
  len : S.order.length ≤ i
  own : ∀ k, ga k = true → k < i ∧ ((k : Int) ∈ S.order → S.paths k = (l k).zs)
def setB (ga : Nat → Bool) (m : Nat) (b : Bool) : Nat → Bool := fun k => if k = m then b else ga k
theorem Alone.step {S : Lk} {ga : Nat → Bool} {l : Nat → Asking} {i : Nat} (h : Alone S ga l i) (m : Nat) : Alone S (setB ga m false) l (i + 1) :=
  ⟨fun j hj => by have := h.lt j hj; omega, by have := h.len; omega, fun k hk => by
    unfold setB at hk
    split at hk
    · cases hk
    · have := h.own k hk; exact ⟨by omega, this.2⟩⟩
theorem Alone.let_ {S : Lk} {ga : Nat → Bool} {l : Nat → Asking} {i : Nat} (h : Alone S ga l i) (hi : Inv [] S) (m : Nat) : Alone (S.letEnd m) (setB ga m false) l (i + 1) := by
  obtain ⟨h1, h2⟩ := letEnd_spec hi m
  refine ⟨fun j hj => ?_, ?_, fun k hk => ?_⟩
  · rw [h1] at hj
    have := h.lt j (List.mem_filter.1 hj).1
    omega
  · rw [h1]
    exact Nat.le_trans (List.length_filter_le _ _) (by have := h.len; omega)
  · unfold setB at hk
    split at hk
    · cases hk
    · rename_i hkm
      obtain ⟨h3, h4⟩ := h.own k hk
      refine ⟨by omega, fun ho => ?_⟩
      rw [h1] at ho
      rw [h2 k (by omega)]
      exact h4 (List.mem_filter.1 ho).1
theorem Alone.ask {S : Lk} {ga : Nat → Bool} {l : Nat → Asking} {i : Nat} (h : Alone S ga l i) :
    ((S.ask i (l i).zs).2.1 = 0 ∧ Alone (S.ask i (l i).zs).2.2 (setB ga i true) l (i + 1)) ∨ ((S.ask i (l i).zs).2.1 = 2 ∧ Alone (S.ask i (l i).zs).2.2 ga l (i + 1)) := by
  have hio : (i : Int) ∉ S.order := fun hm => by have := (h.lt i hm).2; omega
  unfold Lk.ask
  rw [if_neg hio]
  split
  · have h2 : Alone S ga l (i + 1) := ⟨fun j hj => by have := h.lt j hj; omega, by have := h.len; omega, fun k hk => by have := h.own k hk; exact ⟨by omega, this.2⟩⟩
    exact .inr ⟨rfl, h2⟩
  · have hg := goesAll_gone (S.join i (l i).zs) i (by simp [join, up_same])
    have ho : ((S.join i (l i).zs).goesAll i).1.order = S.order ++ [(i : Int)] := hg.order
    have hp : ((S.join i (l i).zs).goesAll i).1.paths = up S.paths i (l i).zs := hg.paths
    refine .inl ⟨rfl, fun j hj => ?_, ?_, fun k hk => ?_⟩
    · rw [ho] at hj
      rcases List.mem_append.1 hj with hj | hj
      · have := h.lt j hj; omega
      · simp at hj; omega
    · rw [ho]; have := h.len; simp; omega
    · unfold setB at hk
      rw [ho, hp]
      split at hk
      · rename_i hki
        subst hki
        exact ⟨by omega, fun _ => up_same _ _ _⟩
      · rename_i hki
        obtain ⟨h3, h4⟩ := h.own k hk
        refine ⟨by omega, fun hm => ?_⟩
        rw [up_other _ _ (by omega)]
        rcases List.mem_append.1 hm with hm | hm
        · exact h4 hm
        · simp at hm; omega
theorem Alone.check {S : Lk} {ga : Nat → Bool} {l : Nat → Asking} {i k : Nat} (h : Alone S ga l i) (hi : Inv [] S) (hk : ga k = true) (hh : S.hasB k = true) {p : Int} (hp : p ∈ (l k).zs) : S.held p = some (k : Int) := by
  unfold hasB at hh
  rw [Bool.and_eq_true, decide_eq_true_eq, decide_eq_true_eq] at hh
  refine held_of hi hh.1 ?_
  rw [hh.2, List.take_length, (h.own k hk).2 hh.1]
  exact hp
theorem Alone.start (l : Nat → Asking) : Alone zero (fun _ => false) l 0 := ⟨by simp [zero], by simp [zero], by simp⟩
end Lk

def askCell (l : Nat → Asking) (b : Bool) (k : Nat) : Value := if b then .slice (l k).a (l k).n (l k).cap else .slice none 0 0
def askCells (l : Nat → Asking) (ga : Nat → Bool) (n : Nat) : List Value := (List.range n).map fun k => askCell l (ga k) k
theorem askCells_set (l : Nat → Asking) (ga : Nat → Bool) (n m : Nat) (b : Bool) : (askCells l ga n).set m (askCell l b m) = askCells l (Lk.setB ga m b) n := by
  unfold askCells
  refine List.ext_getElem (by simp) fun k h1 h2 => ?_
  simp at h1
  rw [List.getElem_set]
  simp only [List.getElem_map, List.getElem_range, Lk.setB]
  by_cases hk : m = k
  · subst hk; simp
  · rw [if_neg hk, if_neg (by omega)]
theorem askCells_get (l : Nat → Asking) (ga : Nat → Bool) (n k : Nat) (hk : k < n) : (askCells l ga n)[k]? = some (askCell l (ga k) k) := by
  unfold askCells
  rw [List.getElem?_map, List.getElem?_range hk]; rfl
theorem askCells_none (l : Nat → Asking) (n : Nat) : askCells l (fun _ => false) n = List.replicate n (.slice none 0 0) := by
  unfold askCells askCell
  simp [List.map_const']
end Go.Proofs.YtppgeljlmckimaaDoor
