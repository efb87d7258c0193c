/-
  What locks are and do, in plain words.
-/
import Derived.Handy
namespace Go.Proofs.YtppgeljlmckimaaDoor

/-- Those that ask, in order; their paths, how many of them each has; who waits, in order. -/
structure Lk where
  order : List Int
  paths : Int → List Int
  has : Int → Nat
  queue : List Int

namespace Lk
def up {α : Type} (f : Int → α) (i : Int) (v : α) : Int → α := fun j => if j = i then v else f j
theorem up_same {α : Type} (f : Int → α) (i : Int) (v : α) : up f i v i = v := if_pos rfl
theorem up_other {α : Type} (f : Int → α) {i j : Int} (v : α) (h : j ≠ i) : up f i v j = f j := if_neg h

theorem up_up {α : Type} (f : Int → α) (i : Int) (v v' : α) : up (up f i v) i v' = up f i v' := by
  funext j; unfold up; split <;> rfl

def next (S : Lk) (i : Int) : Option Int := (S.paths i)[S.has i]?
def holds (S : Lk) (i p : Int) : Bool := decide (p ∈ (S.paths i).take (S.has i))
def held (S : Lk) (p : Int) : Option Int := S.order.find? fun i => S.holds i p
def waitsFor (S : Lk) (p : Int) : List Int := S.queue.filter fun i => decide (S.next i = some p)
def setHas (S : Lk) (i : Int) (n : Nat) : Lk := { S with has := up S.has i n }

def goes (i : Int) : Nat → Lk → Lk × Bool
  | 0, S => (S, true)
  | n + 1, S => match S.next i with
    | none => (S, true)
    | some p => if (S.held p).isSome then ({ S with queue := S.queue ++ [i] }, false) else goes i n (S.setHas i (S.has i + 1))
def goesAll (S : Lk) (i : Int) : Lk × Bool := goes i ((S.paths i).length - S.has i) S

def sorted (l : List Int) : Bool := decide (l.Pairwise (· < ·))
def join (S : Lk) (id : Int) (ps : List Int) : Lk := { S with order := S.order ++ [id], paths := up S.paths id ps, has := up S.has id 0 }
def ask (S : Lk) (id : Int) (ps : List Int) : Bool × Int × Lk :=
  if id ∈ S.order then (false, 184, S)
  else if 128 < ps.length ∨ sorted ps = false then (false, 2, S)
  else (((S.join id ps).goesAll id).2, 0, ((S.join id ps).goesAll id).1)

/-- the first path of one that lets go is had no more. -/
def cut (S : Lk) (id : Int) : Lk := { S with paths := up S.paths id (S.paths id).tail, has := up S.has id (S.has id - 1) }
def leave (S : Lk) (j : Int) : Lk := { S with queue := S.queue.filter fun x => decide (x ≠ j) }
def letStep (id : Int) (r : Lk × List Int) : Lk × List Int :=
  match (r.1.paths id) with
  | [] => r
  | p :: _ => match (r.1.cut id).waitsFor p with
    | [] => (r.1.cut id, r.2)
    | j :: _ => ((((r.1.cut id).leave j).goesAll j).1, if (((r.1.cut id).leave j).goesAll j).2 then r.2 ++ [j] else r.2)
def letTo (id : Int) : Nat → Lk × List Int → Lk × List Int
  | 0, r => r
  | n + 1, r => letTo id n (letStep id r)
def quit (S : Lk) (id : Int) : Lk := { S with order := S.order.filter fun x => decide (x ≠ id) }
def letGo (S : Lk) (id : Int) : List Int × Int × Lk :=
  if id ∈ S.order then ((letTo id (S.has id) (S.leave id, [])).2, 0, (letTo id (S.has id) (S.leave id, [])).1.quit id) else ([], 5, S)

/-- What is kept; ex: those of whom it is open whether they wait in the queue. -/
structure Inv (ex : List Int) (S : Lk) : Prop where
  nd : S.order.Nodup
  qn : S.queue.Nodup
  qo : ∀ i ∈ S.queue, i ∈ S.order ∧ S.next i ≠ none
  qx : ∀ i ∈ S.queue, i ∉ ex
  wq : ∀ i ∈ S.order, i ∉ ex → S.next i ≠ none → i ∈ S.queue
  hl : ∀ i, S.has i ≤ (S.paths i).length
  srt : ∀ i ∈ S.order, (S.paths i).Pairwise (· < ·)
  dis : ∀ i ∈ S.order, ∀ j ∈ S.order, ∀ p, p ∈ (S.paths i).take (S.has i) → p ∈ (S.paths j).take (S.has j) → i = j

theorem held_none {S : Lk} {p : Int} (h : S.held p = none) : ∀ i ∈ S.order, p ∉ (S.paths i).take (S.has i) := by
  intro i hi hp
  unfold held at h
  rw [List.find?_eq_none] at h
  exact h i hi (by simpa [holds] using hp)
theorem held_some {S : Lk} {p i : Int} (h : S.held p = some i) : i ∈ S.order ∧ p ∈ (S.paths i).take (S.has i) := by
  unfold held at h
  have h1 := List.find?_some h
  exact ⟨List.mem_of_find?_eq_some h, by simpa [holds] using h1⟩
theorem held_of {ex : List Int} {S : Lk} (h : Inv ex S) {p i : Int} (hi : i ∈ S.order) (hp : p ∈ (S.paths i).take (S.has i)) : S.held p = some i := by
  cases hh : S.held p with
  | none => exact absurd hp (held_none hh i hi)
  | some j =>
    obtain ⟨h1, h2⟩ := held_some hh
    rw [h.dis j h1 i hi p h2 hp]
theorem next_lt {S : Lk} {i p : Int} (h : S.next i = some p) : S.has i < (S.paths i).length ∧ ∀ k, S.has i = k → (S.paths i).getD k 0 = p := by
  unfold next at h
  obtain ⟨h1, h2⟩ := List.getElem?_eq_some_iff.1 h
  refine ⟨h1, fun k hk => ?_⟩
  subst hk
  simp [List.getD, List.getElem?_eq_getElem h1, h2]
theorem next_none {S : Lk} {i : Int} (h : S.next i = none) : (S.paths i).length ≤ S.has i := by
  unfold next at h
  exact List.getElem?_eq_none_iff.1 h
theorem take_has_succ {S : Lk} {i p : Int} (h : S.next i = some p) : (S.paths i).take (S.has i + 1) = (S.paths i).take (S.has i) ++ [p] := by
  unfold next at h
  rw [List.take_add_one, h]; rfl

/-- one more path is had. -/
theorem Inv.take {ex : List Int} {S : Lk} (h : Inv ex S) {i p : Int} (hi : i ∈ S.order) (hx : i ∈ ex) (hn : S.next i = some p) (hh : S.held p = none) : Inv ex (S.setHas i (S.has i + 1)) := by
  have hq : i ∉ S.queue := fun hm => h.qx i hm hx
  have hnx : ∀ j, j ≠ i → (S.setHas i (S.has i + 1)).next j = S.next j := fun j hj => by unfold next setHas; simp only [up_other _ _ hj]
  have hno := held_none hh
  have hmem : ∀ j ∈ S.order, ∀ q, q ∈ (S.paths j).take ((S.setHas i (S.has i + 1)).has j) → q ∈ (S.paths j).take (S.has j) ∨ (j = i ∧ q = p) := by
    intro j hj q hq
    by_cases e : j = i
    · subst e
      simp only [setHas, up_same] at hq
      rw [take_has_succ hn] at hq
      rcases List.mem_append.1 hq with h' | h'
      · exact .inl h'
      · exact .inr ⟨rfl, by simpa using h'⟩
    · simp only [setHas, up_other _ _ e] at hq
      exact .inl hq
  refine ⟨h.nd, h.qn, fun j hj => ?_, h.qx, fun j hj hjx hjn => ?_, fun j => ?_, h.srt, fun a ha b hb q hqa hqb => ?_⟩
  · have : j ≠ i := fun e => hq (e ▸ hj)
    rw [hnx j this]; exact h.qo j hj
  · have : j ≠ i := fun e => hjx (e ▸ hx)
    rw [hnx j this] at hjn; exact h.wq j hj hjx hjn
  · by_cases e : j = i
    · subst e; simp only [setHas, up_same]; exact (next_lt hn).1
    · simp only [setHas, up_other _ _ e]; exact h.hl j
  · rcases hmem a ha q hqa with h1 | ⟨rfl, rfl⟩ <;> rcases hmem b hb q hqb with h2 | ⟨rfl, h2⟩
    · exact h.dis a ha b hb q h1 h2
    · subst h2; exact absurd h1 (hno a ha)
    · exact absurd h2 (hno b hb)
    · rfl
theorem held_take {ex : List Int} {S : Lk} (h : Inv ex S) {i p : Int} (hi : i ∈ S.order) (hx : i ∈ ex) (hn : S.next i = some p) (hh : S.held p = none) (q : Int) :
    (S.setHas i (S.has i + 1)).held q = if q = p then some i else S.held q := by
  have h' := h.take hi hx hn hh
  split
  · subst q
    exact held_of h' hi (by simp only [setHas, up_same]; rw [take_has_succ hn]; simp)
  · rename_i hne
    have e : ∀ j, (S.setHas i (S.has i + 1)).holds j q = S.holds j q := by
      intro j
      unfold holds
      by_cases e : j = i
      · subst e
        simp only [setHas, up_same]
        rw [take_has_succ hn]
        simp [hne]
      · simp only [setHas, up_other _ _ e]
    unfold held
    simp only [e]
    rfl
theorem waits_take {ex : List Int} {S : Lk} (h : Inv ex S) {i : Int} (hx : i ∈ ex) (n : Nat) (q : Int) : (S.setHas i n).waitsFor q = S.waitsFor q := by
  unfold waitsFor
  refine List.filter_congr fun j hj => ?_
  have : j ≠ i := fun e => h.qx j hj (e ▸ hx)
  unfold next setHas
  simp only [up_other _ _ this]
/-- one waits now. -/
theorem Inv.wait {ex : List Int} {S : Lk} {i : Int} (h : Inv (i :: ex) S) (hi : i ∈ S.order) (hx : i ∉ ex) (hn : S.next i ≠ none) : Inv ex { S with queue := S.queue ++ [i] } := by
  have hq : i ∉ S.queue := fun hm => h.qx i hm (by simp)
  refine ⟨h.nd, ?_, fun j hj => ?_, fun j hj => ?_, fun j hj hjx hjn => ?_, h.hl, h.srt, h.dis⟩
  · rw [List.nodup_append]
    exact ⟨h.qn, by simp, fun a ha b hb => by simp at hb; subst hb; rintro rfl; exact hq ha⟩
  · rcases List.mem_append.1 hj with h' | h'
    · exact h.qo j h'
    · simp at h'; subst h'; exact ⟨hi, hn⟩
  · rcases List.mem_append.1 hj with h' | h'
    · exact fun hm => h.qx j h' (by simp [hm])
    · simp at h'; subst h'; exact hx
  · by_cases e : j = i
    · subst e; simp
    · exact List.mem_append.2 (.inl (h.wq j hj (by simp [e, hjx]) hjn))
theorem Inv.done {ex : List Int} {S : Lk} {i : Int} (h : Inv (i :: ex) S) (hn : S.next i = none) : Inv ex S :=
  ⟨h.nd, h.qn, h.qo, fun j hj hm => h.qx j hj (by simp [hm]), fun j hj hjx hjn => h.wq j hj (by simp only [List.mem_cons, not_or]; exact ⟨fun e => hjn (e ▸ hn), hjx⟩) hjn, h.hl, h.srt, h.dis⟩
end Lk
end Go.Proofs.YtppgeljlmckimaaDoor
