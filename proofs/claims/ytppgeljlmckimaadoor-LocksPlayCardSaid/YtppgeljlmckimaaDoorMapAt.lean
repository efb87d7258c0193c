/-
  Maps as look-ups: what putKey and delKey do to atKey.
-/
import Derived.Test.YtppgeljlmckimaaDoorMap
namespace Go.Proofs.YtppgeljlmckimaaDoor
open Go.RowKit

section
variable {κ : Type} [DecidableEq κ]
def keysOf (kv : List (κ × Value)) : List κ := kv.map (·.1)

theorem atKey_some_mem {kv : List (κ × Value)} {k : κ} {v : Value} (h : atKey kv k = some v) : (k, v) ∈ kv := by
  unfold atKey at h
  obtain ⟨p, hp, rfl⟩ := Option.map_eq_some_iff.1 h
  have h1 := List.find?_some hp
  have h2 := List.mem_of_find?_eq_some hp
  obtain ⟨a, b⟩ := p
  simp at h1
  subst h1
  exact h2
theorem atKey_of_mem : ∀ {kv : List (κ × Value)} {k : κ} {v : Value}, (keysOf kv).Nodup → (k, v) ∈ kv → atKey kv k = some v
  | [], k, v, _, h => by simp at h
  | (a, b) :: kv, k, v, hn, h => by
    simp only [keysOf, List.map_cons, List.nodup_cons] at hn
    unfold atKey
    rw [List.find?_cons]
    by_cases e : a = k
    · subst e
      rcases List.mem_cons.1 h with h' | h'
      · cases h'; simp
      · exact absurd (List.mem_map.2 ⟨_, h', rfl⟩) hn.1
    · simp only [e, decide_false]
      rcases List.mem_cons.1 h with h' | h'
      · cases h'; exact absurd rfl e
      · exact atKey_of_mem hn.2 h'
theorem atKey_none_iff {kv : List (κ × Value)} {k : κ} : atKey kv k = none ↔ k ∉ keysOf kv := by
  unfold atKey keysOf
  rw [Option.map_eq_none_iff, List.find?_eq_none]
  simp only [decide_eq_true_eq, List.mem_map, not_exists, not_and]
theorem keysOf_put (kv : List (κ × Value)) (k : κ) (v : Value) : keysOf (putKey kv k v) = if k ∈ keysOf kv then keysOf kv else keysOf kv ++ [k] := by
  unfold putKey
  cases h : keyAt kv k with
  | none =>
    have := keyAt_none h
    rw [if_neg (atKey_none_iff.1 this.2)]
    simp [keysOf]
  | some j =>
    obtain ⟨u, h1, h2⟩ := keyAt_some h
    have hm : k ∈ keysOf kv := List.mem_map.2 ⟨_, List.mem_iff_getElem?.2 ⟨j, h1⟩, rfl⟩
    rw [if_pos hm]
    unfold keysOf
    rw [List.map_set]
    apply List.ext_getElem?
    intro i
    rw [List.getElem?_set]
    split
    · subst i
      rw [List.getElem?_map, h1]
      have := (List.getElem?_eq_some_iff.1 h1).1
      simp [this]
    · rfl
theorem nodup_put {kv : List (κ × Value)} (h : (keysOf kv).Nodup) (k : κ) (v : Value) : (keysOf (putKey kv k v)).Nodup := by
  rw [keysOf_put]
  split
  · exact h
  · rename_i hk
    rw [List.nodup_append]
    exact ⟨h, by simp, fun a ha b hb => by simp at hb; subst hb; rintro rfl; exact hk ha⟩
theorem atKey_put {kv : List (κ × Value)} (h : (keysOf kv).Nodup) (k : κ) (v : Value) (k' : κ) : atKey (putKey kv k v) k' = if k' = k then some v else atKey kv k' := by
  have hn := nodup_put h k v
  have hmem : ∀ q, q ∈ putKey kv k v ↔ q = (k, v) ∨ q ∈ kv ∧ q.1 ≠ k := by
    intro q
    unfold putKey
    cases hk : keyAt kv k with
    | none =>
      have := (keyAt_none hk).1
      simp only [List.mem_append, List.mem_singleton]
      constructor
      · rintro (h1 | h1)
        · exact .inr ⟨h1, this q h1⟩
        · exact .inl h1
      · rintro (h1 | ⟨h1, -⟩)
        · exact .inr h1
        · exact .inl h1
    | some j =>
      obtain ⟨u, h1, -⟩ := keyAt_some hk
      have hj := (List.getElem?_eq_some_iff.1 h1).1
      simp only
      constructor
      · intro hq
        obtain ⟨i, hi⟩ := List.mem_iff_getElem?.1 hq
        rw [List.getElem?_set] at hi
        split at hi
        · simp at hi; exact .inl hi.symm
        · rename_i hne
          right
          refine ⟨List.mem_iff_getElem?.2 ⟨i, hi⟩, fun e => ?_⟩
          have e1 : (keysOf kv)[i]? = (keysOf kv)[j]? := by
            unfold keysOf
            rw [List.getElem?_map, List.getElem?_map, hi, h1]
            simp [e]
          have hil : i < (keysOf kv).length := by unfold keysOf; rw [List.length_map]; exact (List.getElem?_eq_some_iff.1 hi).1
          exact hne (((List.getElem?_inj hil h).1 e1).symm)
      · rintro (rfl | ⟨hq, hne⟩)
        · exact List.mem_iff_getElem?.2 ⟨j, by rw [List.getElem?_set]; simp [hj]⟩
        · obtain ⟨i, hi⟩ := List.mem_iff_getElem?.1 hq
          refine List.mem_iff_getElem?.2 ⟨i, ?_⟩
          rw [List.getElem?_set, if_neg]
          · exact hi
          · rintro rfl; rw [h1] at hi; cases hi; exact hne rfl
  by_cases e : k' = k
  · subst e
    rw [if_pos rfl]
    exact atKey_of_mem hn ((hmem _).2 (.inl rfl))
  · rw [if_neg e]
    cases ha : atKey kv k' with
    | some u => exact atKey_of_mem hn ((hmem _).2 (.inr ⟨atKey_some_mem ha, e⟩))
    | none =>
      rw [atKey_none_iff] at ha ⊢
      intro hm
      obtain ⟨q, hq, hqe⟩ := List.mem_map.1 hm
      rcases (hmem q).1 hq with rfl | ⟨h1, -⟩
      · exact e hqe.symm
      · exact ha (List.mem_map.2 ⟨q, h1, hqe⟩)
theorem nodup_del {kv : List (κ × Value)} (h : (keysOf kv).Nodup) (k : κ) : (keysOf (delKey kv k)).Nodup := by
  unfold delKey
  split
  · exact ((List.eraseIdx_sublist _ _).map _).nodup h
  · exact h
theorem atKey_del {kv : List (κ × Value)} (h : (keysOf kv).Nodup) (k k' : κ) : atKey (delKey kv k) k' = if k' = k then none else atKey kv k' := by
  have hn := nodup_del h k
  unfold delKey at hn ⊢
  cases hk : keyAt kv k with
  | none =>
    have h1 := keyAt_none hk
    simp only
    split
    · subst k'; exact h1.2
    · rfl
  | some j =>
    obtain ⟨u, h1, h2⟩ := keyAt_some hk
    rw [hk] at hn
    simp only at hn ⊢
    have hj := (List.getElem?_eq_some_iff.1 h1).1
    have hmem : ∀ q, q ∈ kv.eraseIdx j ↔ q ∈ kv ∧ q.1 ≠ k := by
      intro q
      rw [List.mem_eraseIdx_iff_getElem?]
      constructor
      · rintro ⟨i, hne, hi⟩
        refine ⟨List.mem_iff_getElem?.2 ⟨i, hi⟩, fun e => ?_⟩
        have e1 : (keysOf kv)[i]? = (keysOf kv)[j]? := by
          unfold keysOf
          rw [List.getElem?_map, List.getElem?_map, hi, h1]
          simp [e]
        have hil : i < (keysOf kv).length := by unfold keysOf; rw [List.length_map]; exact (List.getElem?_eq_some_iff.1 hi).1
        exact hne ((List.getElem?_inj hil h).1 e1)
      · rintro ⟨hq, hne⟩
        obtain ⟨i, hi⟩ := List.mem_iff_getElem?.1 hq
        exact ⟨i, fun e => by subst e; rw [h1] at hi; cases hi; exact hne rfl, hi⟩
    by_cases e : k' = k
    · subst e
      rw [if_pos rfl, atKey_none_iff]
      intro hm
      obtain ⟨q, hq, hqe⟩ := List.mem_map.1 hm
      exact ((hmem q).1 hq).2 hqe
    · rw [if_neg e]
      cases ha : atKey kv k' with
      | some u' => exact atKey_of_mem hn ((hmem _).2 ⟨atKey_some_mem ha, e⟩)
      | none =>
        rw [atKey_none_iff] at ha ⊢
        intro hm
        obtain ⟨q, hq, hqe⟩ := List.mem_map.1 hm
        exact ha (List.mem_map.2 ⟨q, ((hmem q).1 hq).1, hqe⟩)
end
end Go.Proofs.YtppgeljlmckimaaDoor
