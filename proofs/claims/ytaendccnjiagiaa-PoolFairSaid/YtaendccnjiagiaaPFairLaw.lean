/-
  A task that stays runnable is picked in time: in plain words, over the plain pool.
-/
import Derived.Test.YtaendccnjiagiaaPPick
namespace Go.Proofs.Ytaendccnjiagiaa.PoolFair
open Go.RowKit

/-- how many ages of a list are p or more. -/
def many (l : List Int) (p : Int) : Nat := l.countP fun a => decide (p ≤ a)
theorem many_set : ∀ (l : List Int) (j : Nat) (p y : Int) (x : Int), l[j]? = some x → many (l.set j y) p + (if p ≤ x then 1 else 0) = many l p + (if p ≤ y then 1 else 0)
  | [], j, p, y, x, h => by simp at h
  | a :: l, 0, p, y, x, h => by
    simp at h; subst h
    simp only [List.set_cons_zero, many, List.countP_cons, decide_eq_true_eq]
    omega
  | a :: l, j + 1, p, y, x, h => by
    have ih := many_set l j p y x (by simpa using h)
    simp only [List.set_cons_succ, many, List.countP_cons, decide_eq_true_eq] at ih ⊢
    omega
theorem many_map (l : List Int) (p : Int) : many (l.map (· + 1)) p = many l (p - 1) := by
  unfold many
  rw [List.countP_map]
  congr 1
  funext a
  simp only [Function.comp, decide_eq_decide]
  omega
theorem many_le (l : List Int) (p : Int) : many l p ≤ l.length := List.countP_le_length
theorem many_none {l : List Int} {p : Int} (h : ∀ a ∈ l, a < p) : many l p = 0 := by
  unfold many
  rw [List.countP_eq_zero]
  intro a ha
  have := h a ha
  simp; omega
theorem many_zero {l : List Int} {p : Int} (h : many l p = 0) : ∀ a ∈ l, a < p := by
  unfold many at h
  rw [List.countP_eq_zero] at h
  intro a ha
  have := h a ha
  simp at this; omega

/-- The law of the ages: of those that have waited the patience and c more there are fewer than n - c. -/
def Fair (pat : Int) (A : List Int) : Prop := ∀ c : Nat, many A (pat + c) ≤ A.length - 1 - c
theorem Fair.bound {pat : Int} {A : List Int} (h : Fair pat A) : ∀ a ∈ A, a < pat + A.length := by
  intro a ha
  have h1 := h (A.length - 1)
  have h2 := many_zero (by omega : many A (pat + (A.length - 1 : Nat)) = 0) a ha
  omega
theorem Fair.step {pat : Int} (hp : 1 ≤ pat) {A : List Int} (h : Fair pat A) (j : Nat) (x : Int) (hj : A[j]? = some x) (hold : (∃ a ∈ A, pat ≤ a) → ∀ a ∈ A, a ≤ x) : Fair pat ((A.map (· + 1)).set j 0) := by
  intro c
  have hlt : j < A.length := (List.getElem?_eq_some_iff.1 hj).1
  have hx : x ∈ A := List.mem_iff_getElem?.2 ⟨j, hj⟩
  have hs := many_set (A.map (· + 1)) j (pat + c) 0 (x + 1) (by rw [List.getElem?_map, hj]; rfl)
  rw [if_neg (show ¬ pat + (c : Int) ≤ 0 by omega), many_map] at hs
  simp only [List.length_set, List.length_map]
  cases c with
  | zero =>
    have hl := many_le (A.map (· + 1)) (pat + (0 : Nat))
    have hs2 := many_set (A.map (· + 1)) j (pat + (0 : Nat)) 0 (x + 1) (by rw [List.getElem?_map, hj]; rfl)
    by_cases hex : ∃ a ∈ A, pat + ((0 : Nat) : Int) - 1 ≤ a
    · by_cases hxp : pat + ((0 : Nat) : Int) ≤ x + 1
      · rw [if_pos hxp] at hs
        have := many_le A (pat + ((0 : Nat) : Int) - 1)
        omega
      · -- the one that is picked is below; then nobody is at the patience, and it is not counted
        have hb : many A (pat + ((0 : Nat) : Int) - 1) < A.length := by
          unfold many
          rcases Nat.lt_or_ge (A.countP fun a => decide (pat + ((0 : Nat) : Int) - 1 ≤ a)) A.length with h' | h'
          · exact h'
          · have he : (A.countP fun a => decide (pat + ((0 : Nat) : Int) - 1 ≤ a)) = A.length := Nat.le_antisymm List.countP_le_length h'
            rw [List.countP_eq_length] at he
            have := he x hx
            simp at this; omega
        rw [if_neg hxp] at hs
        omega
    · have : many A (pat + ((0 : Nat) : Int) - 1) = 0 := many_none (fun a ha => by
        rcases Int.lt_or_le a (pat + ((0 : Nat) : Int) - 1) with h' | h'
        · exact h'
        · exact absurd ⟨a, ha, h'⟩ hex)
      omega
  | succ c =>
    have hc := h c
    have e : pat + ((c + 1 : Nat) : Int) - 1 = pat + (c : Int) := by omega
    rw [e] at hs
    by_cases hex : ∃ a ∈ A, pat ≤ a
    · have hmax := hold hex
      by_cases hxp : pat + ((c + 1 : Nat) : Int) ≤ x + 1
      · rw [if_pos hxp] at hs; omega
      · have : many A (pat + (c : Int)) = 0 := many_none (fun a ha => by have := hmax a ha; omega)
        omega
    · have : many A (pat + (c : Int)) = 0 := many_none (fun a ha => by
        rcases Int.lt_or_le a pat with h' | h'
        · omega
        · exact absurd ⟨a, ha, h'⟩ hex)
      omega
theorem Fair.zero {pat : Int} (hp : 1 ≤ pat) {A : List Int} (h : ∀ a ∈ A, a = 0) : Fair pat A := by
  intro c
  rw [many_none (fun a ha => by have := h a ha; omega)]
  omega

/-! ### the plain pool: nobody blocked -/
def agesOf (l : List Task) : List Int := l.map (·.age)
theorem run_all {l : List Task} (h : ∀ t ∈ l, t.blk = false) (k : Nat) (hk : k ≤ l.length) : runTo l k = List.range k := by
  unfold runTo
  rw [List.filter_eq_self]
  intro i hi
  have hi' : i < l.length := by have := List.mem_range.1 hi; omega
  have := h (tk l i) (List.mem_iff_getElem?.2 ⟨i, tk_some hi'⟩)
  unfold tk at this
  rw [this]; rfl
theorem map_tk (l : List Task) : (List.range l.length).map (tk l) = l := by
  apply List.ext_getElem?
  intro i
  rw [List.getElem?_map]
  rcases Nat.lt_or_ge i l.length with h | h
  · rw [List.getElem?_range h, tk_some h]; rfl
  · rw [List.getElem?_eq_none (by simpa using h), List.getElem?_eq_none h]; rfl

theorem oldTo_max (ts : List Task) : ∀ k i, i < k → (tk ts i).age ≤ (tk ts (oldTo ts k)).age
  | 0, i, h => by omega
  | k + 1, i, h => by
    rw [oldTo]
    by_cases hi : i = k
    · subst hi; split <;> omega
    · have ih := oldTo_max ts k i (by omega)
      split <;> omega

def older (t : Task) : Task := { t with age := wrap64 (t.age + 1) }
theorem aged_range (l : List Task) : ∀ k, k ≤ l.length → agedTo l (List.range k) = (l.take k).map older ++ l.drop k
  | 0, _ => by simp [agedTo]
  | k + 1, hk => by
    have ih := aged_range l k (by omega)
    unfold agedTo at ih ⊢
    rw [List.range_succ, List.foldl_append, ih]
    simp only [List.foldl_cons, List.foldl_nil]
    have hk' : k < l.length := by omega
    have ht := tk_some hk'
    have htk : tk ((l.take k).map older ++ l.drop k) k = tk l k := by
      unfold tk
      have h0 : ((l.take k).map older).length = k := by simp; omega
      simp only [List.getD, List.getElem?_append, h0, Nat.lt_irrefl, if_false, Nat.sub_self, List.getElem?_drop, Nat.add_zero]
    unfold agedAt
    rw [htk]
    apply List.ext_getElem?
    intro i
    have h0 : ((l.take k).map older).length = k := by simp; omega
    have h1 : ((l.take (k + 1)).map older).length = k + 1 := by simp; omega
    rw [List.getElem?_set]
    by_cases e : k = i
    · subst e
      rw [if_pos rfl, if_pos (by simp; omega), List.getElem?_append_left (by omega), List.getElem?_map, List.getElem?_take, if_pos (by omega), ht]
      rfl
    · rw [if_neg e]
      rcases Nat.lt_or_ge i k with h | h
      · rw [List.getElem?_append_left (by omega), List.getElem?_append_left (by omega), List.getElem?_map, List.getElem?_map, List.getElem?_take, List.getElem?_take, if_pos h, if_pos (by omega)]
      · rw [List.getElem?_append_right (by omega), List.getElem?_append_right (by omega), h0, h1, List.getElem?_drop, List.getElem?_drop]
        congr 1; omega

/-- what is kept from pick to pick. -/
structure Fine (S : Pool) (K pat : Int) (ids : List Int) : Prop where
  wk : S.workers = K
  pt : S.patience = pat
  ids : idsOf S.work = ids
  run : ∀ t ∈ S.work, t.blk = false
  age : ∀ t ∈ S.work, 0 ≤ t.age
  fair : Fair pat (agesOf S.work)
  len : (S.work.length : Int) ≤ K

theorem Fine.pick {S : Pool} {K pat : Int} {ids : List Int} (h : Fine S K pat ids) (hp : 1 ≤ pat) (hK : K ≤ 8) (hp2 : pat ≤ 20) (x : Nat) (hx : okX x = true) (h0 : S.work ≠ []) :
    ∃ j, j < ids.length ∧ (S.pick x).1 = ids.getD j 0 ∧ (S.pick x).2.1 = 0 ∧ Fine (S.pick x).2.2 K pat ids ∧ agesOf (S.pick x).2.2.work = ((agesOf S.work).map (· + 1)).set j 0 := by
  have hlen : 0 < S.work.length := List.length_pos_iff.2 h0
  have hri : runIdx S.work = List.range S.work.length := run_all h.run _ (Nat.le_refl _)
  have hne : runIdx S.work ≠ [] := by rw [hri]; intro e; have := congrArg List.length e; simp at this; exact h0 this
  unfold Pool.pick
  rw [if_neg (by rw [hx]; decide), if_neg hne, hri]
  simp only []
  rw [map_tk]
  obtain ⟨j, hj⟩ : ∃ j, whichOf S.patience x S.work = j := ⟨_, rfl⟩
  have hjl : j < S.work.length := by rw [← hj]; exact whichOf_lt _ _ _ hlen
  rw [hj]
  have hg : (List.range S.work.length).getD j 0 = j := by simp [List.getD, hjl]
  rw [hg]
  have hil : ids.length = S.work.length := by rw [← h.ids]; simp [idsOf]
  have hag : agedTo S.work (List.range S.work.length) = S.work.map older := by
    rw [aged_range _ _ (Nat.le_refl _), List.take_length, List.drop_length, List.append_nil]
  have hbound : ∀ t ∈ S.work, t.age < 40 := by
    intro t ht
    have := h.fair.bound t.age (List.mem_map.2 ⟨t, ht, rfl⟩)
    have hl2 : (agesOf S.work).length = S.work.length := by simp [agesOf]
    have := h.len
    omega
  have hage : agesOf (S.work.map older) = (agesOf S.work).map (· + 1) := by
    unfold agesOf
    rw [List.map_map, List.map_map]
    refine List.map_congr_left fun t ht => ?_
    have h1 := h.age t ht
    have h2 := hbound t ht
    show wrap64 (t.age + 1) = t.age + 1
    unfold wrap64; omega
  have hset : agesOf ((S.work.map older).set j { tk (S.work.map older) j with age := 0 }) = ((agesOf S.work).map (· + 1)).set j 0 := by
    rw [← hage]
    unfold agesOf
    rw [List.map_set]
  have hA := (aged_to S.work (List.range S.work.length)).set j 0 (by decide)
  rw [hag] at hA
  refine ⟨j, by omega, ?_, trivial, ?_, by rw [hag]; exact hset⟩
  · rw [← h.ids]
    simp [tk, idsOf, List.getD, hjl]
  · rw [hag]
    refine ⟨h.wk, h.pt, hA.ids.trans h.ids, ?_, ?_, ?_, by simp only [List.length_set, List.length_map]; exact h.len⟩
    · intro t ht
      rcases List.mem_or_eq_of_mem_set ht with ht | rfl
      · obtain ⟨u, hu, rfl⟩ := List.mem_map.1 ht
        exact h.run u hu
      · show (tk (S.work.map older) j).blk = false
        have hjm : j < (S.work.map older).length := by simpa using hjl
        obtain ⟨u, hu, e⟩ := List.mem_map.1 (List.mem_iff_getElem?.2 ⟨j, tk_some hjm⟩)
        rw [← e]; exact h.run u hu
    · intro t ht
      rcases List.mem_or_eq_of_mem_set ht with ht | rfl
      · obtain ⟨u, hu, rfl⟩ := List.mem_map.1 ht
        have h1 := h.age u hu
        have h2 := hbound u hu
        show 0 ≤ wrap64 (u.age + 1)
        unfold wrap64; omega
      · exact Int.le_refl 0
    · simp only
      rw [hset]
      refine h.fair.step hp j (tk S.work j).age (by unfold agesOf; rw [List.getElem?_map, tk_some hjl]; rfl) ?_
      rintro ⟨a, ha, hpa⟩
      obtain ⟨t, ht, rfl⟩ := List.mem_map.1 ha
      obtain ⟨i, hi⟩ := List.mem_iff_getElem?.1 ht
      have hil' : i < S.work.length := (List.getElem?_eq_some_iff.1 hi).1
      have hmax := oldTo_max S.work S.work.length
      have e1 : tk S.work i = t := Option.some.inj ((tk_some hil').symm.trans hi)
      have hold : whichOf S.patience x S.work = oldTo S.work S.work.length := by
        unfold whichOf
        rw [if_pos]
        have := hmax i hil'
        rw [e1] at this
        rw [h.pt]; omega
      rw [hj] at hold
      intro b hb
      obtain ⟨u, hu, rfl⟩ := List.mem_map.1 hb
      obtain ⟨i', hi'⟩ := List.mem_iff_getElem?.1 hu
      have hil2 : i' < S.work.length := (List.getElem?_eq_some_iff.1 hi').1
      have e2 : tk S.work i' = u := Option.some.inj ((tk_some hil2).symm.trans hi')
      have := hmax i' hil2
      rw [e2, ← hold] at this
      exact this

/-! ### since: how many picks ago -/
def sinceStep (σ : List Int) (id : Int) : List Int := σ.set id.toNat (σ.getD id.toNat 0 + 1)
def sinceTo (σ : List Int) (ids : List Int) : List Int := ids.foldl sinceStep σ
/-- since holds, for each id that is runnable, its age; else 0. -/
def Since (σ : List Int) (ids A : List Int) : Prop := σ.length = 9 ∧ ∀ k, k < 9 → σ.getD k 0 = match ids.findIdx? (fun i => decide (i = (k : Int))) with | some j => A.getD j 0 | none => 0

theorem sinceTo_get (ids : List Int) (hn : ids.Nodup) (hr : ∀ i ∈ ids, 1 ≤ i ∧ i ≤ 8) : ∀ (σ : List Int), σ.length = 9 → (sinceTo σ ids).length = 9 ∧ ∀ k, k < 9 → (sinceTo σ ids).getD k 0 = σ.getD k 0 + (if (k : Int) ∈ ids then 1 else 0) := by
  induction ids with
  | nil => intro σ hσ; exact ⟨hσ, fun k hk => by simp [sinceTo]⟩
  | cons i ids ih =>
    intro σ hσ
    have hi := hr i (by simp)
    have h1 : (sinceStep σ i).length = 9 := by simp [sinceStep, hσ]
    obtain ⟨h2, h3⟩ := ih (List.nodup_cons.1 hn).2 (fun j hj => hr j (by simp [hj])) (sinceStep σ i) h1
    have e : sinceTo σ (i :: ids) = sinceTo (sinceStep σ i) ids := rfl
    rw [e]
    refine ⟨h2, fun k hk => ?_⟩
    rw [h3 k hk]
    have hget : (sinceStep σ i).getD k 0 = σ.getD k 0 + (if (k : Int) = i then 1 else 0) := by
      unfold sinceStep
      by_cases hki : (k : Int) = i
      · have : i.toNat = k := by omega
        rw [this, if_pos hki]
        simp [List.getD, hσ, hk]
      · have : i.toNat ≠ k := by omega
        rw [if_neg hki]
        simp [List.getD, List.getElem?_set, this]
    rw [hget]
    by_cases hki : (k : Int) = i
    · have hnm : (k : Int) ∉ ids := by rw [hki]; exact (List.nodup_cons.1 hn).1
      simp [hki, (List.nodup_cons.1 hn).1]
    · simp [hki]

theorem find_in {ids : List Int} (hn : ids.Nodup) (j : Nat) (hj : j < ids.length) (k : Int) (hk : ids.getD j 0 = k) : ids.findIdx? (fun i => decide (i = k)) = some j := by
  rw [List.findIdx?_eq_some_iff_getElem]
  have e : ids[j] = k := by simpa [List.getD, hj] using hk
  refine ⟨hj, by simp [e], fun i hi => ?_⟩
  have := (List.pairwise_iff_getElem.1 hn) i j (by omega) hj hi
  simp; rw [← e]; exact this

theorem Since.step {σ ids A : List Int} (h : Since σ ids A) (hn : ids.Nodup) (hr : ∀ i ∈ ids, 1 ≤ i ∧ i ≤ 8) (hA : A.length = ids.length) (j : Nat) (hj : j < ids.length) :
    Since ((sinceTo σ ids).set (ids.getD j 0).toNat 0) ids ((A.map (· + 1)).set j 0) := by
  obtain ⟨h1, h2⟩ := sinceTo_get ids hn hr σ h.1
  have hmem : ids.getD j 0 ∈ ids := by simp [List.getD, hj]
  have hjr := hr _ hmem
  refine ⟨by simp [h1], fun k hk => ?_⟩
  by_cases hkj : (k : Int) = ids.getD j 0
  · have e : (ids.getD j 0).toNat = k := by omega
    rw [e, find_in hn j hj k hkj.symm]
    simp [List.getD, h1, hk, hA, hj]
  · have e : (ids.getD j 0).toNat ≠ k := by omega
    have hg : ((sinceTo σ ids).set (ids.getD j 0).toNat 0).getD k 0 = (sinceTo σ ids).getD k 0 := by
      show ((sinceTo σ ids).set _ 0)[k]?.getD 0 = _
      rw [List.getElem?_set_ne e]; rfl
    rw [hg, h2 k hk, h.2 k hk]
    cases hf : ids.findIdx? (fun i => decide (i = (k : Int))) with
    | none =>
      have hnm : (k : Int) ∉ ids := by
        intro hm
        have := List.findIdx?_eq_none_iff.1 hf _ hm
        simp at this
      simp [hnm]
    | some i =>
      obtain ⟨hi, h3, -⟩ := List.findIdx?_eq_some_iff_getElem.1 hf
      have h4 : ids[i] = (k : Int) := by simpa using h3
      have hm : (k : Int) ∈ ids := by rw [← h4]; exact List.getElem_mem hi
      have hij : j ≠ i := by rintro rfl; apply hkj; rw [← h4]; simp [List.getD, hi]
      simp [hm, List.getD, List.getElem?_set, hij, hA, hi]
theorem Since.bound {σ ids A : List Int} (h : Since σ ids A) (hA : A.length = ids.length) {b : Int} (hb : 0 ≤ b) (hall : ∀ a ∈ A, a ≤ b) : ∀ k, k < 9 → σ.getD k 0 ≤ b := by
  intro k hk
  rw [h.2 k hk]
  cases hf : ids.findIdx? (fun i => decide (i = (k : Int))) with
  | none => exact hb
  | some i =>
    obtain ⟨hi, -, -⟩ := List.findIdx?_eq_some_iff_getElem.1 hf
    exact hall _ (by simp [List.getD, hA, hi])
end Go.Proofs.Ytaendccnjiagiaa.PoolFair
