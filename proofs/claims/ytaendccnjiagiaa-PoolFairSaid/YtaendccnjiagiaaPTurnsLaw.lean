/-
  The queue goes by turns: in plain words, over the plain pool.
-/
import Derived.Test.YtaendccnjiagiaaPDone3
namespace Go.Proofs.Ytaendccnjiagiaa.PoolTurns
open Go.RowKit

theorem and_mask (a : Int) : 0 ≤ bits .and .i64 a 65535 ∧ bits .and .i64 a 65535 ≤ 65535 := by
  have h : bits .and .i64 a 65535 = IntKind.i64.wrap (((BitVec.ofInt 64 a &&& BitVec.ofInt 64 65535).toNat : Nat) : Int) := rfl
  have h2 : (BitVec.ofInt 64 a &&& BitVec.ofInt 64 65535).toNat ≤ 65535 := by
    rw [BitVec.toNat_and]
    exact Nat.le_trans Nat.and_le_right (by decide)
  rw [h, IntWalk.i64_in _ (by omega)]
  omega

structure Adding (S : Pool) (k : Int) (all : List Int) : Prop where
  wk : S.workers = k
  rm : S.room = 100
  ids : S.ids = all
  lw : (S.work.length : Int) ≤ k
  q : S.queue ≠ [] → (S.work.length : Int) = k
  nd : all.Nodup

theorem ids_len (S : Pool) : S.ids.length = S.work.length + S.queue.length := by simp [Pool.ids, idsOf]

theorem Adding.add {S : Pool} {k : Int} {all : List Int} (h : Adding S k all) (hl : all.length ≤ 60) (id : Int) (x : Nat) (hx : okW x = true) :
    ((S.add id x).1 = 0 ∧ Adding (S.add id x).2 k (all ++ [id])) ∨ ((S.add id x).1 = 184 ∧ Adding (S.add id x).2 k all) := by
  unfold Pool.add
  rw [if_neg (by rw [hx]; decide)]
  by_cases hid : id ∈ S.ids
  · rw [if_pos hid]; exact .inr ⟨rfl, h⟩
  · rw [if_neg hid]
    left
    have hn : (all ++ [id]).Nodup := by
      rw [List.nodup_append]
      refine ⟨h.nd, by simp, ?_⟩
      intro a ha b hb
      simp at hb; subst hb
      rintro rfl; exact hid (by rw [h.ids]; exact ha)
    have hlen := ids_len S
    rw [h.ids] at hlen
    by_cases hf : (S.work.length : Int) < S.workers
    · rw [if_pos hf]
      rw [h.wk] at hf
      have hq : S.queue = [] := by
        cases hq : S.queue with
        | nil => rfl
        | cons t q => have := h.q (by rw [hq]; simp); omega
      refine ⟨rfl, h.wk, h.rm, ?_, by simp; omega, by simp [hq], hn⟩
      have := h.ids
      simp only [Pool.ids, idsOf, hq, List.map_nil, List.append_nil] at this
      simp [Pool.ids, idsOf, hq, this]
    · rw [if_neg hf, if_neg (by rw [h.rm]; omega)]
      rw [h.wk] at hf
      have hlw := h.lw
      refine ⟨rfl, h.wk, h.rm, ?_, hlw, fun _ => by simp only; omega, hn⟩
      have := h.ids
      simp only [Pool.ids, idsOf] at this
      simp [Pool.ids, idsOf, ← this]

structure Turns (S : Pool) (k : Int) (all : List Int) (next : Nat) : Prop where
  q : idsOf S.queue = all.drop next
  nx : next ≤ all.length
  full : next < all.length → (S.work.length : Int) = k
  nd : S.ids.Nodup
  wl : S.work.length ≤ next
theorem Adding.turns {S : Pool} {k : Int} {all : List Int} (h : Adding S k all) (hok : S.Ok) : Turns S k all S.work.length ∧ (S.work.length : Int) = min k (all.length : Int) := by
  have hi := h.ids
  have hlen := ids_len S
  rw [hi] at hlen
  have hlw := h.lw
  refine ⟨⟨?_, by omega, fun hlt => h.q (fun e => by rw [e] at hlen; simp at hlen; omega), hok.nd, Nat.le_refl _⟩, ?_⟩
  · rw [← hi]
    simp [Pool.ids, idsOf]
  · by_cases hq : S.queue = []
    · rw [hq] at hlen; simp at hlen; omega
    · have := h.q hq
      have h2 : 0 < S.queue.length := List.length_pos_iff.2 hq
      omega

theorem place_at {l : List Task} (hn : (idsOf l).Nodup) (j : Nat) (hj : j < l.length) : placeOf l ((idsOf l).getD j 0) = some j := by
  have e : (idsOf l).getD j 0 = l[j].id := by simp [idsOf, List.getD, hj]
  rw [e]
  unfold placeOf
  rw [List.findIdx?_eq_some_iff_getElem]
  refine ⟨hj, by simp, fun i hi => ?_⟩
  have h1 := (List.pairwise_iff_getElem.1 hn) i j (by simp [idsOf]; omega) (by simp [idsOf]; omega) hi
  simp only [idsOf, List.getElem_map] at h1
  simpa using h1

/-- one at work is done: it is there, then it is gone; the next one comes to work, as the last. -/
theorem Turns.done {S : Pool} {k : Int} {all : List Int} {next : Nat} (h : Turns S k all next) (j : Nat) (hj : j < S.work.length) :
    (S.done ((idsOf S.work).getD j 0)).1 = 0 ∧ (S.done ((idsOf S.work).getD j 0)).2.done ((idsOf S.work).getD j 0) = (5, (S.done ((idsOf S.work).getD j 0)).2) ∧
    (if next < all.length then (idsOf (S.done ((idsOf S.work).getD j 0)).2.work).length = S.work.length ∧ (idsOf (S.done ((idsOf S.work).getD j 0)).2.work).getD (S.work.length - 1) 0 = all.getD next 0 ∧ Turns (S.done ((idsOf S.work).getD j 0)).2 k all (next + 1)
     else (idsOf (S.done ((idsOf S.work).getD j 0)).2.work).length = S.work.length - 1 ∧ Turns (S.done ((idsOf S.work).getD j 0)).2 k all next) := by
  have hnw : (idsOf S.work).Nodup := by have := h.nd; unfold Pool.ids at this; exact (List.nodup_append.1 this).1
  have hp := place_at hnw j hj
  generalize hid : (idsOf S.work).getD j 0 = id at hp ⊢
  have hmem : id ∈ S.ids := by unfold Pool.ids; rw [List.mem_append]; exact .inl (mem_ids.2 (by rw [hp]; simp))
  have hlenq : S.queue.length = all.length - next := by have := congrArg List.length h.q; simpa [idsOf] using this
  have hgone : ∀ S' : Pool, S.ids.Perm (id :: S'.ids) → S'.done id = (5, S') := by
    intro S' hperm
    have hn2 := hperm.nodup_iff.1 h.nd
    unfold Pool.done
    rw [if_neg (List.nodup_cons.1 hn2).1]
  cases hq : S.queue with
  | nil =>
    have e : S.done id = (0, { S with work := S.work.eraseIdx j }) := by simp [Pool.done, hmem, hp, hq]
    rw [hq] at hlenq
    have hids : S.ids.Perm (id :: ({ S with work := S.work.eraseIdx j } : Pool).ids) := by
      simp only [Pool.ids, hq]
      simpa [idsOf] using ids_erase hp
    simp only [e]
    have hnx : ¬ next < all.length := by simp at hlenq; omega
    rw [if_neg hnx]
    refine ⟨trivial, hgone _ hids, by simp [idsOf, List.length_eraseIdx, hj], h.q, h.nx, fun hlt => absurd hlt hnx, (List.nodup_cons.1 (hids.nodup_iff.1 h.nd)).2, by have := h.wl; simp [List.length_eraseIdx, hj]; omega⟩
  | cons t q =>
    have e : S.done id = (0, { S with work := S.work.eraseIdx j ++ [t], queue := q }) := by simp [Pool.done, hmem, hp, hq]
    rw [hq] at hlenq
    have hids : S.ids.Perm (id :: ({ S with work := S.work.eraseIdx j ++ [t], queue := q } : Pool).ids) := by
      simp only [Pool.ids, hq, idsOf_append]
      have := (ids_erase hp).append_right (idsOf (t :: q))
      simpa [idsOf] using this
    simp only [e]
    have hnx : next < all.length := by simp at hlenq; omega
    rw [if_pos hnx]
    have hel : (S.work.eraseIdx j).length = S.work.length - 1 := by rw [List.length_eraseIdx, if_pos hj]
    have hqd := h.q
    rw [hq, List.drop_eq_getElem_cons hnx] at hqd
    simp only [idsOf, List.map_cons, List.cons.injEq] at hqd
    have hlen2 : (S.work.eraseIdx j ++ [t]).length = S.work.length := by rw [List.length_append, hel]; simp; omega
    refine ⟨trivial, hgone _ hids, by simp only [idsOf, List.length_map]; exact hlen2, ?_, hqd.2, hnx, fun _ => by rw [hlen2]; exact h.full hnx, (List.nodup_cons.1 (hids.nodup_iff.1 h.nd)).2, by have := h.wl; rw [hlen2]; omega⟩
    rw [idsOf_append]
    have : (idsOf (S.work.eraseIdx j)).length = S.work.length - 1 := by simp only [idsOf, List.length_map]; exact hel
    simp only [List.getD, List.getElem?_append, this, Nat.lt_irrefl, if_false, Nat.sub_self]
    simp [idsOf, hqd.1, hnx]
end Go.Proofs.Ytaendccnjiagiaa.PoolTurns
