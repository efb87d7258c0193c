/-
  'for k, v := range m' over a map that is known as a list of keys and elements (IMap): what is left to come.
-/
import Derived.Test.YtaendccnjiagiaaMap
import Derived.Maps.RangeWalk
namespace Go.Proofs.Ytaendccnjiagiaa
open Go.RowKit

/-- Block r is an iterator over the map in block b, which holds kv; left: what is still to come, in some order. -/
def IRange {κ : Type} (w : World) (f : κ → Value) (b r : Nat) (kv left : List (κ × Value)) : Prop :=
  ∃ es clock since seen c0, w.heap[b]? = some (.map es clock) ∧ es.toList.map (fun e => (e.key, e.val)) = kv.map (fun p => (f p.1, p.2)) ∧ (es.toList.map (·.born)).Nodup ∧ (∀ e ∈ es.toList, e.born < clock) ∧
    w.heap[r]? = some (.mapIter (some b) since seen c0) ∧ (∀ x ∈ es.toList, x.born < since) ∧ since ≤ c0 ∧ since ≤ clock ∧ left.Sublist kv ∧ (leftOf es seen).toList.map (fun e => (e.key, e.val)) = left.map (fun p => (f p.1, p.2))

theorem filter_ne_eraseIdx {α : Type} (g : α → Nat) : ∀ (l : List α) (j : Nat) (x : α), l[j]? = some x → (l.map g).Nodup → l.filter (fun y => !(g y == g x)) = l.eraseIdx j
  | [], j, x, h, _ => by simp at h
  | y :: l, 0, x, h, hn => by
    simp at h; subst h
    simp only [List.map_cons, List.nodup_cons, List.mem_map, not_exists, not_and] at hn
    rw [List.filter_cons]
    simp only [beq_self_eq_true, Bool.not_true, List.eraseIdx_zero, List.tail_cons, if_neg (show ¬ (false = true) by decide)]
    rw [List.filter_eq_self]
    intro z hz
    have := hn.1 z hz
    simpa using this
  | y :: l, j + 1, x, h, hn => by
    have ih := filter_ne_eraseIdx g l j x (by simpa using h) (by simp only [List.map_cons, List.nodup_cons] at hn; exact hn.2)
    have hx : x ∈ l := List.mem_iff_getElem?.2 ⟨j, by simpa using h⟩
    simp only [List.map_cons, List.nodup_cons, List.mem_map, not_exists, not_and] at hn
    have hne : g y ≠ g x := fun e => hn.1 x hx e.symm
    rw [List.filter_cons]
    simp only [List.eraseIdx_cons_succ, ih, beq_eq_false_iff_ne.2 hne, Bool.not_false, if_true]

namespace IRange
variable {κ : Type} {w w' : World} {f : κ → Value} {b r : Nat} {kv left : List (κ × Value)}
theorem ne (h : IRange w f b r kv left) : r ≠ b := by
  obtain ⟨es, clock, since, seen, c0, hb, -, -, -, hr, -⟩ := h
  intro e; rw [e, hb] at hr; cases hr
theorem lt (h : IRange w f b r kv left) : b < w.heap.size ∧ r < w.heap.size := by
  obtain ⟨es, clock, since, seen, c0, hb, -, -, -, hr, -⟩ := h
  exact ⟨(Array.getElem?_eq_some_iff.1 hb).1, (Array.getElem?_eq_some_iff.1 hr).1⟩
theorem touch {l : List Nat} (h : IRange w f b r kv left) (t : Touch l w w') (hb' : b ∉ l) (hr' : r ∉ l) : IRange w' f b r kv left := by
  obtain ⟨l1, l2⟩ := h.lt
  obtain ⟨es, clock, since, seen, c0, hb, h1, h2, h3, hr, h4⟩ := h
  exact ⟨es, clock, since, seen, c0, (t.block b l1 hb').trans hb, h1, h2, h3, (t.block r l2 hr').trans hr, h4⟩
theorem left_len (h : IRange w f b r kv left) : w.rangeLeft b r = left.length := by
  obtain ⟨es, clock, since, seen, c0, hb, -, -, -, hr, -, -, -, -, hl⟩ := h
  simp only [World.rangeLeft, hb, hr]
  have := congrArg List.length hl
  simpa using this
theorem map (h : IRange w f b r kv left) : IMap w f b kv := by
  obtain ⟨es, clock, since, seen, c0, hb, h1, h2, h3, -⟩ := h
  exact ⟨es, clock, hb, h1, h2, h3⟩

theorem new {P : Program} {t k e : TypeId} (h : IMap w f b kv) (ht : P.underlying t = some (.map k e)) :
    ∃ w', (Instr.range t (.map (some b))).run P w = .ok (.pointer (some ⟨w.heap.size, 0, none⟩)) w' ∧ IRange w' f b w.heap.size kv kv ∧ Touch [] w w' ∧ w'.heap.size = w.heap.size + 1 := by
  have hlt := h.lt
  obtain ⟨es, clock, hb, h1, h2, h3⟩ := h
  refine ⟨_, run_range_map w t k e b es clock ht hb, ⟨es, clock, clock, #[], clock, (Below.heap_alloc w _ b hlt).trans hb, h1, h2, h3, heap_alloc_new w _, h3, Nat.le_refl _, Nat.le_refl _, List.Sublist.refl _, ?_⟩, (Touch.refl [] w).alloc _, by simp⟩
  rw [← h1]
  unfold leftOf
  rw [Array.toList_filter, List.filter_eq_self.2 (by simp)]

theorem next {P : Program} (h : IRange w f b r kv left) (ty : TypeId) :
    (left = [] ∧ (Instr.next (.pointer (some ⟨r, 0, none⟩)) false ty).run P w = .ok (.tuple #[.bool false]) w) ∨
    ∃ j p w1, left[j]? = some p ∧ p ∈ kv ∧ left.Sublist kv ∧ (Instr.next (.pointer (some ⟨r, 0, none⟩)) false ty).run P w = .ok (.tuple #[.bool true, f p.1, p.2]) w1 ∧ IRange w1 f b r kv (left.eraseIdx j) ∧ Touch [r] w w1 ∧ w1.heap.size = w.heap.size ∧
      (Instr.entry (.pointer (some ⟨r, 0, none⟩))).run P w1 = .ok (.tuple #[f p.1, p.2]) w1 := by
  have hne := h.ne
  obtain ⟨es, clock, since, seen, c0, hb, h1, h2, h3, hr, hold, hsc, hscl, hsub, hl⟩ := h
  rcases run_next_at (P := P) w ty r b since c0 seen es clock hr hb hold hsc with ⟨h0, hrun⟩ | ⟨e, he, w1, hal, hrun⟩
  · left
    refine ⟨?_, hrun⟩
    have h5 : (leftOf es seen).toList = [] := List.eq_nil_of_length_eq_zero (by simpa using h0)
    rw [h5] at hl
    simpa using hl.symm
  · right
    obtain ⟨j, hj⟩ := List.mem_iff_getElem?.1 he
    have hl1 := congrArg (fun l => l[j]?) hl
    simp only [List.getElem?_map, hj, Option.map_some] at hl1
    obtain ⟨p, hp, hpe⟩ := Option.map_eq_some_iff.1 hl1.symm
    obtain ⟨hp1, hp2⟩ := Prod.mk.inj hpe
    have hees : e ∈ es.toList := by unfold leftOf at he; simp at he ⊢; exact he.1
    have hlsub : ((leftOf es seen).toList.map (·.born)).Nodup := by
      unfold leftOf
      rw [Array.toList_filter]
      exact (List.filter_sublist.map _).nodup h2
    have hr1 : w1.heap = w.heap := by rcases hal with rfl | rfl <;> rfl
    have hrlt : r < w1.heap.size := by rw [hr1]; exact (Array.getElem?_eq_some_iff.1 hr).1
    have hset : (ChangeMaps.setBlock w1 r (.mapIter (some b) since (seen.push e.born) clock)).heap[r]? = some (.mapIter (some b) since (seen.push e.born) clock) := by
      simp [ChangeMaps.setBlock, hrlt]
    have hoth : ∀ k, k ≠ r → (ChangeMaps.setBlock w1 r (.mapIter (some b) since (seen.push e.born) clock)).heap[k]? = w.heap[k]? := by
      intro k hk
      simp [ChangeMaps.setBlock, hr1, Ne.symm hk]
    have hb1 := (hoth b hne.symm).trans hb
    have htape : w1.tape = w.tape ∧ w1.os = w.os ∧ w1.output = w.output := by rcases hal with rfl | rfl <;> exact ⟨rfl, rfl, rfl⟩
    refine ⟨j, p, _, hp, hsub.subset (List.mem_iff_getElem?.2 ⟨j, hp⟩), hsub, by rw [hp1, hp2]; exact hrun, ⟨es, clock, since, seen.push e.born, clock, hb1, h1, h2, h3, hset, hold, hscl, hscl, (List.eraseIdx_sublist _ _).trans hsub, ?_⟩, ⟨?_, ?_, ?_, ?_, ?_⟩, ?_, ?_⟩
    · have h6 : (leftOf es (seen.push e.born)).toList = (leftOf es seen).toList.eraseIdx j := by
        rw [← filter_ne_eraseIdx (fun x : MapEntry => x.born) _ j e hj hlsub]
        unfold leftOf
        rw [Array.toList_filter, Array.toList_filter, List.filter_filter]
        congr 1
        funext x
        rw [Array.contains_push, Bool.not_or, Bool.and_comm]
      rw [h6, map_erase, map_erase, hl]
    · exact htape.2.1
    · exact htape.1
    · exact htape.2.2
    · simp [ChangeMaps.setBlock, hr1]
    · intro k hk hn
      exact hoth k (by simpa using hn)
    · simp [ChangeMaps.setBlock, hr1]
    · rw [hp1, hp2]
      exact run_entry_at _ r b since seen es clock e hset hb1 hees h2
end IRange

section
variable {κ : Type} {P : Program} {ops : Array Oper} {rest : List Oper} {o : Oper} {a : Act} {w : World} {Q : Exit → Act → World → Prop} {f : κ → Value}

theorem wpList_range_imap (hgd : o.guard = none) (m : Operand) (t k e : TypeId) (ho : o.op = Op.range t m) (ht : P.underlying t = some (.map k e)) {b : Nat} {kv : List (κ × Value)} (hm : a.eval m = .map (some b)) (h : IMap w f b kv)
    (hK : ∀ w', IRange w' f b w.heap.size kv kv → Touch [] w w' → w'.heap.size = w.heap.size + 1 → wpList P ops Q rest (a.put o.dst (.pointer (some ⟨w.heap.size, 0, none⟩))) w') : wpList P ops Q (o :: rest) a w := by
  refine wpList_plain hgd fun K' hK' => ?_
  obtain ⟨w', hrun, r1, r2, r3⟩ := IRange.new h ht
  unfold Oper.wp
  simp [execOp, ho, hm, hrun, Result.andThen]
  exact hK' _ _ (hK w' r1 r2 r3)

theorem wpList_next_irange (hgd : o.guard = none) (it : Operand) (ho : o.op = Op.next it false) {b r : Nat} {kv left : List (κ × Value)} (hit : a.eval it = .pointer (some ⟨r, 0, none⟩)) (h : IRange w f b r kv left)
    (hDone : left = [] → wpList P ops Q rest (a.put o.dst (.tuple #[.bool false])) w)
    (hMore : ∀ j p w1, left[j]? = some p → p ∈ kv → left.Sublist kv → IRange w1 f b r kv (left.eraseIdx j) → Touch [r] w w1 → w1.heap.size = w.heap.size →
      (Instr.entry (.pointer (some ⟨r, 0, none⟩))).run P w1 = .ok (.tuple #[f p.1, p.2]) w1 → wpList P ops Q rest (a.put o.dst (.tuple #[.bool true, f p.1, p.2])) w1) : wpList P ops Q (o :: rest) a w := by
  refine wpList_plain hgd fun K' hK' => ?_
  unfold Oper.wp
  rcases h.next (P := P) o.type with ⟨h0, hrun⟩ | ⟨j, p, w1, h1, h2, h3, hrun, h4, h5, h6, h7⟩
  · simp [execOp, ho, hit, hrun, Result.andThen]
    exact hK' _ _ (hDone h0)
  · simp [execOp, ho, hit, hrun, Result.andThen]
    exact hK' _ _ (hMore j p w1 h1 h2 h3 h4 h5 h6 h7)
end
end Go.Proofs.Ytaendccnjiagiaa
