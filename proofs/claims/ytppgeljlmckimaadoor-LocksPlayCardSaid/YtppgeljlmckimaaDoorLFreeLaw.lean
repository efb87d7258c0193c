/-
  LocksFree: the plain part: among those that ask there is always one that has all.
-/
import Derived.Test.YtppgeljlmckimaaDoorLAloneLaw
namespace Go.Proofs.YtppgeljlmckimaaDoor.Lk

/-- What is waited for is had by somebody (but for p). -/
def Hold (S : Lk) (ok : Int → Prop) : Prop := ∀ i ∈ S.queue, ∀ q, S.next i = some q → ok q ∨ S.held q ≠ none
theorem goes_hold (i : Int) (ex : List Int) : ∀ (n : Nat) (S : Lk), Inv (i :: ex) S → i ∈ S.order → (S.paths i).length ≤ S.has i + n → Hold S (fun _ => False) → Hold (goes i n S).1 (fun _ => False)
  | 0, _, _, _, _, hH => hH
  | n + 1, S, h, hi, hl, hH => by
    unfold goes
    cases hn : S.next i with
    | none => exact hH
    | some p =>
      simp only
      split
      · rename_i hh
        intro j hj q hq
        rcases List.mem_append.1 hj with hj | hj
        · exact hH j hj q hq
        · simp at hj
          subst hj
          have e : S.next j = some q := hq
          rw [hn] at e
          cases e
          have e2 : ({ S with queue := S.queue ++ [j] } : Lk).held p = S.held p := rfl
          rw [e2]
          right
          intro hc
          rw [hc] at hh
          simp at hh
      · rename_i hh
        have hh' : S.held p = none := by cases hq : S.held p with
          | none => rfl
          | some j => rw [hq] at hh; simp at hh
        refine goes_hold i ex n _ (h.take hi (by simp) hn hh') hi (by simp only [setHas, up_same]; omega) fun j hj q hq => ?_
        have hji : j ≠ i := fun e => h.qx j hj (by simp [e])
        have e : S.next j = some q := by
          have : (S.setHas i (S.has i + 1)).next j = S.next j := by unfold next setHas; simp only [up_other _ _ hji]
          rw [← this]; exact hq
        right
        rw [held_take h hi (by simp) hn hh']
        split
        · simp
        · exact (hH j hj q e).resolve_left id
theorem goesAll_hold {S : Lk} {i : Int} {ex : List Int} (h : Inv (i :: ex) S) (hi : i ∈ S.order) (hH : Hold S (fun _ => False)) : Hold (S.goesAll i).1 (fun _ => False) := goes_hold i ex _ S h hi (by have := h.hl i; omega) hH
/-- where one takes what nobody has, what was open for that path alone is so no more. -/
theorem goesAll_hold_first {S : Lk} {i p : Int} {ex : List Int} (h : Inv (i :: ex) S) (hi : i ∈ S.order) (hn : S.next i = some p) (hh : S.held p = none) (hH : Hold S (fun q => q = p)) : Hold (S.goesAll i).1 (fun _ => False) := by
  have hlt := (next_lt hn).1
  unfold goesAll
  obtain ⟨n, hnn⟩ : ∃ n, (S.paths i).length - S.has i = n + 1 := ⟨(S.paths i).length - S.has i - 1, by omega⟩
  rw [hnn]
  unfold goes
  rw [hn]
  simp only [hh, Option.isSome_none, Bool.false_eq_true, if_false]
  refine goes_hold i ex n _ (h.take hi (by simp) hn hh) hi (by simp only [setHas, up_same]; omega) fun j hj q hq => ?_
  have hji : j ≠ i := fun e => h.qx j hj (by simp [e])
  have e : S.next j = some q := by
    have : (S.setHas i (S.has i + 1)).next j = S.next j := by unfold next setHas; simp only [up_other _ _ hji]
    rw [← this]; exact hq
  right
  rw [held_take h hi (by simp) hn hh]
  split
  · simp
  · rename_i hne
    exact (hH j hj q e).resolve_left hne

theorem letFinH {S : Lk} (h : Inv [] S) (hH : Hold S (fun _ => False)) {id : Int} (hid : id ∈ S.order) : ∀ t, t ≤ S.has id → ∃ S' ready, Sem S id t S' ready ∧ Hold S' (fun _ => False)
  | 0, _ => ⟨_, _, Sem.start h id, fun i hi q hq => hH i (List.mem_filter.1 hi).1 q hq⟩
  | t + 1, ht => by
    obtain ⟨S', ready, hs, hH'⟩ := letFinH h hH hid t (by omega)
    have hp := hs.path (h.hl id) (by omega)
    have h0 : 0 < S'.has id := by rw [hs.hid]; omega
    have ho : id ∈ S'.order := by rw [hs.order]; exact hid
    have hc := hs.inv.cut hp h0
    have hcut := held_cut hs.inv ho hp h0
    cases hw : (S'.cut id).waitsFor ((S.paths id).getD t 0) with
    | nil =>
      refine ⟨_, _, hs.nil (h.hl id) (by omega) hw, fun i hi q hq => ?_⟩
      rw [hcut]
      split
      · rename_i hqp
        exfalso
        have : i ∈ (S'.cut id).waitsFor ((S.paths id).getD t 0) := List.mem_filter.2 ⟨hi, by rw [hq, hqp]; simp⟩
        rw [hw] at this
        simp at this
      · rw [next_cut h0] at hq
        exact hH' i hi q hq
    | cons j l =>
      obtain ⟨hjo, hjid, hd, hg, hs2⟩ := hs.cons (h.hl id) (by omega) hw
      refine ⟨_, _, hs2, ?_⟩
      have hjw : j ∈ (S'.cut id).waitsFor ((S.paths id).getD t 0) := by rw [hw]; simp
      have hjn : (S'.cut id).next j = some ((S.paths id).getD t 0) := by simpa using (List.mem_filter.1 hjw).2
      refine goesAll_hold_first hd (by show j ∈ S'.order; rw [hs.order]; exact hjo) (p := (S.paths id).getD t 0) hjn ?_ fun i hi q hq => ?_
      · rw [held_leave, hcut, if_pos rfl]
      · have hi' : i ∈ S'.queue := (List.mem_filter.1 hi).1
        have hq' : S'.next i = some q := by rw [← next_cut h0]; exact hq
        by_cases e : q = (S.paths id).getD t 0
        · exact .inl e
        · right
          rw [held_leave, hcut, if_neg e]
          exact (hH' i hi' q hq').resolve_left (fun x => x)

/-- What is kept by LocksFree. -/
structure Free (S : Lk) (i m : Nat) : Prop where
  hold : Hold S (fun _ => False)
  lt : ∀ j ∈ S.order, 0 ≤ j ∧ j < i
  len : S.order.length = m
theorem Free.start : Free zero 0 0 := ⟨fun i hi => by simp [zero] at hi, by simp [zero], rfl⟩
theorem Free.ask {S : Lk} {i m : Nat} (h : Free S i m) (hi : Inv [] S) (zs : List Int) :
    ((S.ask i zs).2.1 = 0 ∧ Free (S.ask i zs).2.2 (i + 1) (m + 1)) ∨ ((S.ask i zs).2.1 = 2 ∧ Free (S.ask i zs).2.2 (i + 1) m) := by
  have hio : (i : Int) ∉ S.order := fun hm => by have := (h.lt i hm).2; omega
  unfold Lk.ask
  rw [if_neg hio]
  split
  · have h2 : Free S (i + 1) m := ⟨h.hold, fun j hj => by have := h.lt j hj; omega, h.len⟩
    exact .inr ⟨rfl, h2⟩
  · rename_i hb
    rw [not_or] at hb
    have hso : sorted zs = true := by cases hx : sorted zs with
      | true => rfl
      | false => exact absurd hx hb.2
    have hj := hi.join hio hso
    have hg := goesAll_gone (S.join i zs) i (by simp [join, up_same])
    have ho : ((S.join i zs).goesAll i).1.order = S.order ++ [(i : Int)] := hg.order
    refine .inl ⟨rfl, goesAll_hold hj (by simp [join]) (fun j hjq q hq => ?_), fun j hj => ?_, ?_⟩
    · right
      rw [held_join hio]
      have hji : j ≠ (i : Int) := fun e => hio (e ▸ (hi.qo j hjq).1)
      have e : S.next j = some q := by
        have : (S.join i zs).next j = S.next j := by unfold next join; simp only [up_other _ _ hji]
        rw [← this]; exact hq
      exact (h.hold j hjq q e).resolve_left (fun x => x)
    · rw [ho] at hj
      rcases List.mem_append.1 hj with hj | hj
      · have := h.lt j hj; omega
      · simp at hj; omega
    · rw [ho]; have := h.len; simp; omega
theorem length_filter_ne {l : List Int} (hn : l.Nodup) {x : Int} (hx : x ∈ l) : (l.filter fun y => decide (y ≠ x)).length + 1 = l.length := by
  induction l with
  | nil => cases hx
  | cons a l ih =>
    rw [List.nodup_cons] at hn
    by_cases e : a = x
    · subst e
      rw [List.filter_cons_of_neg (by simp), List.length_cons, List.filter_eq_self.2]
      intro y hy
      simp only [ne_eq, decide_not, Bool.not_eq_eq_eq_not, Bool.not_true, decide_eq_false_iff_not]
      rintro rfl
      exact hn.1 hy
    · rw [List.filter_cons_of_pos (by simpa using e), List.length_cons, List.length_cons, ih hn.2 (by
        rcases List.mem_cons.1 hx with h | h
        · exact absurd h.symm e
        · exact h)]
theorem Free.let_ {S : Lk} {i m : Nat} (h : Free S i m) (hi : Inv [] S) {id : Int} (hid : id ∈ S.order) : Free (S.letEnd id) i (m - 1) := by
  obtain ⟨h1, -⟩ := letEnd_spec hi id
  refine ⟨?_, fun j hj => ?_, ?_⟩
  · obtain ⟨S', ready, hs, hH⟩ := letFinH hi h.hold hid _ (Nat.le_refl _)
    have ha := hs.all
    rw [Nat.sub_self] at ha
    unfold letEnd
    rw [← ha]
    intro j hj q hq
    right
    show ((S'.quit id).held q) ≠ none
    rw [held_quit (by rw [hs.hid]; omega)]
    exact (hH j hj q hq).resolve_left (fun x => x)
  · rw [h1] at hj
    exact h.lt j (List.mem_filter.1 hj).1
  · rw [h1]
    have := length_filter_ne hi.nd hid
    have := h.len
    omega

/-- Among those that ask there is one that has all. -/
theorem Free.one {S : Lk} {i m : Nat} (h : Free S i m) (hi : Inv [] S) (hm : S.order ≠ []) : ∃ j ∈ S.order, S.next j = none := by
  by_cases hall : ∃ j ∈ S.order, S.next j = none
  · exact hall
  exfalso
  have hsome : ∀ j ∈ S.order, ∃ p, S.next j = some p := fun j hj => by
    cases hn : S.next j with
    | none => exact absurd ⟨j, hj, hn⟩ hall
    | some p => exact ⟨p, rfl⟩
  -- whoever waits, somebody waits for a greater path
  have up : ∀ j ∈ S.order, ∀ p, S.next j = some p → ∃ k ∈ S.order, ∃ q, S.next k = some q ∧ p < q := by
    intro j hj p hp
    have hq := hi.wq j hj (by simp) (by rw [hp]; simp)
    have hh := (h.hold j hq p hp).resolve_left (fun x => x)
    cases hk : S.held p with
    | none => exact absurd hk hh
    | some k =>
      obtain ⟨h1, h2⟩ := held_some hk
      obtain ⟨q, hq⟩ := hsome k h1
      refine ⟨k, h1, q, hq, ?_⟩
      obtain ⟨a, ha, hpa⟩ := List.getElem_of_mem h2
      simp at ha
      have hs := List.pairwise_iff_getElem.1 (hi.srt k h1) a (S.has k) (by omega) (next_lt hq).1 (by omega)
      have e1 : (S.paths k)[a]'(by omega) = p := by rw [← hpa]; simp
      have e2 : (S.paths k)[S.has k]'(next_lt hq).1 = q := by
        unfold next at hq
        obtain ⟨_, e⟩ := List.getElem?_eq_some_iff.1 hq
        exact e
      rw [e1, e2] at hs
      exact hs
  -- a greatest one: by the number of those that wait for more
  have great : ∀ l : List Int, l ≠ [] → (∀ j ∈ l, ∃ p, S.next j = some p) → ∃ j ∈ l, ∀ k ∈ l, ∀ p q, S.next j = some p → S.next k = some q → q ≤ p := by
    intro l
    induction l with
    | nil => intro h; exact absurd rfl h
    | cons a l ih =>
      intro _ hs
      by_cases hl : l = []
      · subst hl
        exact ⟨a, by simp, fun k hk p q hp hq => by simp at hk; subst hk; rw [hp] at hq; cases hq; exact Int.le_refl _⟩
      · obtain ⟨j, hj, hg⟩ := ih hl fun j hj => hs j (by simp [hj])
        obtain ⟨pa, hpa⟩ := hs a (by simp)
        obtain ⟨pj, hpj⟩ := hs j (by simp [hj])
        by_cases hc : pa ≤ pj
        · refine ⟨j, by simp [hj], fun k hk p q hp hq => ?_⟩
          rcases List.mem_cons.1 hk with rfl | hk
          · rw [hpj] at hp; rw [hpa] at hq; cases hp; cases hq; exact hc
          · exact hg k hk p q hp hq
        · refine ⟨a, by simp, fun k hk p q hp hq => ?_⟩
          rw [hpa] at hp
          cases hp
          rcases List.mem_cons.1 hk with rfl | hk
          · rw [hpa] at hq; cases hq; exact Int.le_refl _
          · have := hg k hk pj q hpj hq; omega
  obtain ⟨j, hj, hg⟩ := great S.order hm hsome
  obtain ⟨p, hp⟩ := hsome j hj
  obtain ⟨k, hk, q, hq, hlt⟩ := up j hj p hp
  have := hg k hk p q hp hq
  omega

/-- one that asks waits just if it has not all. -/
theorem waits_has {S : Lk} {ex : List Int} (hi : Inv ex S) {j : Int} (hj : j ∈ S.order) : S.waitsV j = S.next j ∧ S.hasB j = (S.next j).isNone := by
  unfold waitsV hasB
  rw [if_pos hj, decide_eq_true hj, Bool.true_and]
  refine ⟨rfl, ?_⟩
  have hl := hi.hl j
  cases hn : S.next j with
  | none =>
    have := next_none hn
    simp; omega
  | some p =>
    have := (next_lt hn).1
    simp; omega
end Go.Proofs.YtppgeljlmckimaaDoor.Lk
