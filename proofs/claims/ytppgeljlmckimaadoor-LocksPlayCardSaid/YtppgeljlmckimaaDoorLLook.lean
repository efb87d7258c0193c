/-
  What the calls that only look answer: Has, Waits, Holder, All; NewLocks.
-/
import Derived.Test.YtppgeljlmckimaaDoorLRep
import Derived.Test.YtppgeljlmckimaaDoorNums
namespace Go.Proofs.YtppgeljlmckimaaDoor
open Go.RowKit

def LRep (w : World) (lp : Nat) (S : Lk) (own : List Nat) : Prop :=
  Lk.Inv [] S ∧ (∀ i ∈ S.order, (S.paths i).length ≤ 128) ∧ ∃ col blk ao no co oo bi bh bw ki kh kw, LParts w lp col S.order S.order S.order S.held S.waitsFor S.paths S.has blk ao no co oo bi bh bw ki kh kw ∧ own = owned col w
theorem LRep.inv {w : World} {lp : Nat} {S : Lk} {own : List Nat} (h : LRep w lp S own) : Lk.Inv [] S := h.1
theorem owned_touch {τ : Type} {col : Nat → Option τ} {w w' : World} (hs : w.heap.size ≤ w'.heap.size) (hc : ∀ b, col b ≠ none → b < w.heap.size) : owned col w' = owned col w := by
  unfold owned
  obtain ⟨d, hd⟩ : ∃ d, w'.heap.size = w.heap.size + d := ⟨w'.heap.size - w.heap.size, by omega⟩
  rw [hd]
  clear hd hs
  induction d with
  | zero => rfl
  | succ d ih =>
    rw [← Nat.add_assoc, List.range_succ, List.filter_append, ih]
    have : (col (w.heap.size + d)).isSome = false := by
      cases h : col (w.heap.size + d) with
      | none => rfl
      | some t => have := hc _ (by rw [h]; simp); omega
    simp [this]
/-- the colours below the heap's size alone. -/
def below {τ : Type} (col : Nat → Option τ) (n : Nat) : Nat → Option τ := fun b => if b < n then col b else none
theorem below_lt {τ : Type} (col : Nat → Option τ) {n b : Nat} (h : b < n) : below col n b = col b := if_pos h
theorem owned_below {τ : Type} (col : Nat → Option τ) (w : World) : owned (below col w.heap.size) w = owned col w := by
  unfold owned
  refine List.filter_congr fun b hb => ?_
  rw [below_lt col (List.mem_range.1 hb)]
theorem LRep.touch {w w' : World} {lp : Nat} {S : Lk} {own l : List Nat} (h : LRep w lp S own) (t : Touch l w w') (hl : ∀ b ∈ own, b ∉ l) : LRep w' lp S own := by
  obtain ⟨hi, hp, col, blk, ao, no, co, oo, bi, bh, bw, ki, kh, kw, h, rfl⟩ := h
  have hc : ∀ b, below col w.heap.size b ≠ none → b < w.heap.size := fun b hb => by
    unfold below at hb; split at hb
    · assumption
    · exact absurd rfl hb
  -- the blocks that are coloured have not turned: a world in which all others are as they were in w
  have old : ∀ (T : LTag) (b : Nat), col b = some T → b < w.heap.size → w'.heap[b]? = w.heap[b]? ∧ below col w.heap.size b = some T := fun T b hb hlt =>
    ⟨t.block b hlt (hl b (mem_owned.2 ⟨hlt, by rw [hb]; simp⟩)), by rw [below_lt _ hlt, hb]⟩
  have row : ∀ {e : TypeId} {size : Nat} {a : Option Addr} {n cap : Nat} {o : List Nat} {xs : List Value} {T : LTag}, Row w e size a n cap o xs → (∀ b ∈ o, col b = some T) → Row w' e size a n cap o xs ∧ ∀ b ∈ o, below col w.heap.size b = some T := by
    intro e size a n cap o xs T hr hco
    refine ⟨hr.touch t (fun b hb => hl b (mem_owned.2 ⟨hr.lt b hb, by rw [hco b hb]; simp⟩)), fun b hb => (old T b (hco b hb) (hr.lt b hb)).2⟩
  have at_ : ∀ {b : Nat} {e : TypeId} {cs : List Value} {T : LTag}, At w b e cs → col b = some T → At w' b e cs ∧ below col w.heap.size b = some T := fun {b e cs T} ha hcb =>
    ⟨(old T b hcb ha.lt).1.trans ha, (old T b hcb ha.lt).2⟩
  have im : ∀ {κ : Type} {f : κ → Value} {b : Nat} {kv : List (κ × Value)} {T : LTag}, IMap w f b kv → col b = some T → IMap w' f b kv ∧ below col w.heap.size b = some T := fun {κ f b kv T} hm hcb =>
    ⟨hm.touch t (hl b (mem_owned.2 ⟨hm.lt, by rw [hcb]; simp⟩)), (old T b hcb hm.lt).2⟩
  refine ⟨hi, hp, below col w.heap.size, blk, ao, no, co, oo, bi, bh, bw, ki, kh, kw, ⟨(at_ h.at_ h.c_lp).1, (row h.order_ h.c_oo).1, (im h.ids h.c_bi).1, h.idsn, h.idsAt, (im h.held h.c_bh).1, h.heldn, h.heldAt, (im h.waits h.c_bw).1, h.waitsn, fun p => ?_, fun i hi => ?_,
    (at_ h.at_ h.c_lp).2, (row h.order_ h.c_oo).2, (im h.ids h.c_bi).2, (im h.held h.c_bh).2, (im h.waits h.c_bw).2⟩, ?_⟩
  · have hw := h.waitsAt p
    cases hk : atKey kw p with
    | none => rw [hk] at hw; exact hw
    | some v =>
      rw [hk] at hw
      obtain ⟨a, n, c, o, h1, h2, h3⟩ := hw
      exact ⟨a, n, c, o, h1, (row h2 h3).1, (row h2 h3).2⟩
  · obtain ⟨a, n, c, o, h1, h2, h3, h4⟩ := h.obj i hi
    exact ⟨a, n, c, o, (at_ h1 h3).1, (row h2 h4).1, (at_ h1 h3).2, (row h2 h4).2⟩
  · rw [owned_touch t.size hc, owned_below]

def Lk.hasB (S : Lk) (i : Int) : Bool := decide (i ∈ S.order) && decide (S.has i = (S.paths i).length)
def Lk.waitsV (S : Lk) (i : Int) : Option Int := if i ∈ S.order then S.next i else none

set_option maxRecDepth 100000 in
theorem has_any (w : World) (lp : Nat) (S : Lk) (own : List Nat) (hR : LRep w lp S own) (i : Int) : Calls Tryd.prog 10 #[.pointer (some ⟨lp, 0, none⟩), .int .i64 i] w fun e w' => e = .returned (.bool (S.hasB i)) ∧ Touch [] w w' := by
  obtain ⟨hi, hp, col, blk, ao, no, co, oo, bi, bh, bw, ki, kh, kw, h, rfl⟩ := hR
  have c1 := h.at_.cell 1
  simp at c1
  have hids := h.ids
  by_cases hio : i ∈ S.order
  · have hat := h.idsAt i
    rw [if_pos hio] at hat
    obtain ⟨a, n, c, o, h1, h2, h3, h4⟩ := h.obj i hio
    have d1 := h1.cell 1
    have d2 := h1.cell 2
    simp at d1 d2
    have hn : n = (S.paths i).length := by have := h2.1; simpa [u64s] using this.symm
    obtain ⟨q, hq⟩ : ∃ q, S.hasB i = q := ⟨_, rfl⟩
    have hq2 : (((S.has i : Nat) : Int) == (n : Int)) = q := by
      rw [← hq]; unfold Lk.hasB; rw [decide_eq_true hio, Bool.true_and, hn]
      rw [Bool.eq_iff_iff, beq_iff_eq, decide_eq_true_iff]; omega
    have hq3 : (S.has i == n) = q := by rw [← hq2, Bool.eq_iff_iff, beq_iff_eq, beq_iff_eq]; omega
    rw [hq]
    clear hq hn h hp hi h1 h2 h3 h4
    go_enter Tryd.func10, Tryd.ntmps10
    go_wp2_with (at_lookup; refine wpList_lookup_imap KI rfl _ _ true rfl Tryd.mapI (zeroAsk _) rfl hids i rfl ?_; simp only [hat, Option.getD_some, Option.isSome_some, if_true])
    go_quiet (fail)
    go_wp2
    go_ret
    exact ⟨rfl, (Touch.refl _ _).drewN _⟩
  · have hat := h.idsAt i
    rw [if_neg hio] at hat
    have hq : S.hasB i = false := by unfold Lk.hasB; rw [decide_eq_false hio]; rfl
    rw [hq]
    clear hq h hp hi hio
    go_enter Tryd.func10, Tryd.ntmps10
    go_wp2_with (at_lookup; refine wpList_lookup_imap KI rfl _ _ true rfl Tryd.mapI (zeroAsk _) rfl hids i rfl ?_; simp only [hat, Option.getD_none, Option.isSome_none, if_true])
    go_quiet (fail)
    go_wp2
    go_ret
    exact ⟨rfl, (Touch.refl _ _).drewN _⟩

theorem Row.src {w : World} {e : TypeId} {size : Nat} {a : Option Addr} {n cap : Nat} {own : List Nat} {xs : List Value} (h : Row w e size a n cap own xs) : n = 0 ∨ ∃ ad, a = some ad ∧ ∀ j u, xs[j]? = some u → w.cell? (ad.add j) = some u := by
  rcases Nat.eq_zero_or_pos n with h0 | h0
  · exact .inl h0
  · obtain ⟨b, off, _, rfl, -⟩ := h.form (by have := h.2.1; omega)
    exact .inr ⟨_, rfl, fun j u hj => by rw [Addr.add_lit]; exact h.cellSome j u hj⟩

theorem cloneU_any (w : World) (l : List Int) (a : Option Addr) (n cap : Nat) (hrow : Nums w .u64 a n cap l) (hn64 : n ≤ 1024) :
    Calls Tryd.prog 25 #[.slice a n cap] w (fun e w' => ∃ a' c' own', e = .returned (.slice a' n c') ∧ Row w' 39 1 a' n c' own' (u64s l) ∧ Touch [] w w' ∧ ∀ b ∈ own', w.heap.size ≤ b) := by
  cases a with
  | none =>
    have hn0 : n = 0 := by
      rcases Nat.eq_zero_or_pos n with h | h
      · exact h
      · obtain ⟨b, off, h1, -⟩ := hrow.at_ h
        cases h1
    subst hn0
    have hl : l = [] := List.eq_nil_of_length_eq_zero hrow.len
    subst hl
    have hs : ∀ W : World, (binOp .eql 27 (.slice none 0 cap) (.slice none 0 0)).run Tryd.prog W = .ok (.bool true) W := fun W => Lib.run_eql_slice_nil (P := Tryd.prog) W 27 39 none 0 cap 0 0 Tryd.u64sT
    go_enter Tryd.func25, Tryd.ntmps25
    go_wp2_with fail
    go_ret
    exact ⟨none, 0, [], rfl, Row.nil _ _ _ _, Touch.refl _ _, by simp⟩
  | some ad =>
    obtain ⟨i0, hi, hz0, hz1, hz2⟩ := info_parts Tryd.infoU64
    have hs := fun W => Lib.run_eql_slice_nil (P := Tryd.prog) W 27 39 (some ad) n cap 0 0 Tryd.u64sT
    have HSRC := Lib.hid (hrow.touch ((Touch.refl [] w).alloc (.cells #[] 39))).src
    have HL := Lib.hid (show (u64s l).length = n * 1 by rw [u64s, List.length_map, hrow.len, Nat.mul_one])
    have h63 : 0 + n ≤ maxLen := by unfold maxLen; omega
    have hone : ∀ u ∈ u64s l, u.oneCell' = true := by intro u hu; obtain ⟨x, -, rfl⟩ := List.mem_map.1 hu; rfl
    have HO := Lib.hid hone
    clear hone
    go_enter Tryd.func25, Tryd.ntmps25
    go_wp2_with (at_builtin; refine wpList_append_row _ rfl (.tmp 5) (.tmp 6) 27 rfl 39 i0 _ 1 8 Tryd.u64sT hi hz0 hz1 hz2 rfl (by decide) (some ⟨w.heap.size, 0, none⟩) 0 0 [] [] rfl (Row.nil _ _ _ _) _ n _ (u64s l) rfl HL.out HSRC.out HO.out h63 (by omega) ?_; intro a' cap' own' w3 hrow3 ht3 hown3 _ _)
    rw [Nat.zero_add] at hrow3
    have H3 := Lib.hid hrow3
    have T3 := Lib.hid ((Touch.refl [] w).alloc (.cells #[] 39) |>.trans' ht3)
    clear hrow3 ht3
    go_wp2_with fail
    go_ret
    refine ⟨a', cap', own', by simp, by simpa using H3.out, T3.out, fun b hb => ?_⟩
    rcases hown3 with h | h <;> (rw [h] at hb; simp at hb)
    omega

theorem cloneI_any (w : World) (l : List Int) (a : Option Addr) (n cap : Nat) (ow : List Nat) (hrow : Row w 3 1 a n cap ow (ints l)) (hn64 : n ≤ 1024) :
    Calls Tryd.prog 31 #[.slice a n cap] w (fun e w' => ∃ a' c' own', e = .returned (.slice a' n c') ∧ Row w' 3 1 a' n c' own' (ints l) ∧ Touch [] w w' ∧ ∀ b ∈ own', w.heap.size ≤ b) := by
  cases a with
  | none =>
    obtain ⟨rfl, rfl, rfl, hx⟩ := hrow.nil_of
    have hs : ∀ W : World, (binOp .eql 30 (.slice none 0 0) (.slice none 0 0)).run Tryd.prog W = .ok (.bool true) W := fun W => by kernel_rfl
    go_enter Tryd.func31, Tryd.ntmps31
    go_wp2_with fail
    go_ret
    exact ⟨none, 0, [], rfl, hrow, Touch.refl _ _, by simp⟩
  | some ad =>
    obtain ⟨i0, hi, hz0, hz1, hz2⟩ := info_parts Tryd.infoInt
    have hs := fun W => Lib.run_eql_slice_nil (P := Tryd.prog) W 30 3 (some ad) n cap 0 0 Tryd.intsT
    have HSRC := Lib.hid (hrow.alloc (.cells #[] 3)).src
    have HL := Lib.hid hrow.1
    have h63 : 0 + n ≤ maxLen := by unfold maxLen; omega
    have hone : ∀ u ∈ ints l, u.oneCell' = true := by intro u hu; obtain ⟨x, -, rfl⟩ := List.mem_map.1 hu; rfl
    have HO := Lib.hid hone
    clear hone
    go_enter Tryd.func31, Tryd.ntmps31
    go_wp2_with (at_builtin; refine wpList_append_row _ rfl (.tmp 5) (.tmp 6) 30 rfl 3 i0 _ 1 8 Tryd.intsT hi hz0 hz1 hz2 rfl (by decide) (some ⟨w.heap.size, 0, none⟩) 0 0 [] [] rfl (Row.nil _ _ _ _) _ n _ (ints l) rfl HL.out HSRC.out HO.out h63 (by omega) ?_; intro a' cap' own' w3 hrow3 ht3 hown3 _ _)
    rw [Nat.zero_add] at hrow3
    have H3 := Lib.hid hrow3
    have T3 := Lib.hid ((Touch.refl [] w).alloc (.cells #[] 3) |>.trans' ht3)
    clear hrow3 ht3
    go_wp2_with fail
    go_ret
    refine ⟨a', cap', own', by simp, by simpa using H3.out, T3.out, fun b hb => ?_⟩
    rcases hown3 with h | h <;> (rw [h] at hb; simp at hb)
    omega

/-- A list of numbers of its own that a call tells. -/
def IntsPost (w : World) (l : List Int) (e : Ending) (w' : World) : Prop :=
  ∃ a c own, e = .returned (.slice a l.length c) ∧ Row w' 3 1 a l.length c own (ints l) ∧ Touch [] w w' ∧ ∀ b ∈ own, w.heap.size ≤ b
theorem all_any (w : World) (lp : Nat) (S : Lk) (own : List Nat) (hR : LRep w lp S own) (hn : S.order.length ≤ 1024) : Calls Tryd.prog 16 #[.pointer (some ⟨lp, 0, none⟩)] w (IntsPost w S.order) := by
  obtain ⟨hi, hp, col, blk, ao, no, co, oo, bi, bh, bw, ki, kh, kw, h, rfl⟩ := hR
  have c0 := h.at_.cell 0
  simp at c0
  have hno : no = S.order.length := by have := h.order_.1; simpa [ints] using this.symm
  subst hno
  have H := Lib.hid (cloneI_any w S.order ao _ co oo h.order_ hn)
  clear h hp hi hn
  go_enter Tryd.func16, Tryd.ntmps16
  go_wp2_with fail
  refine H.out.mono ?_
  rintro e w2 ⟨a, c, o, rfl, hr, t, ho⟩
  have HR := Lib.hid hr
  clear hr
  go_wp2_with fail
  go_ret
  exact ⟨a, c, o, rfl, HR.out, t, ho⟩

def holderV (v : Option Int) : Value := match v with
  | none => .tuple #[.int .i64 0, .bool false]
  | some i => .tuple #[.int .i64 i, .bool true]
def waitsV (v : Option Int) : Value := match v with
  | none => .tuple #[.int .u64 0, .bool false]
  | some p => .tuple #[.int .u64 p, .bool true]
theorem holder_any (w : World) (lp : Nat) (S : Lk) (own : List Nat) (hR : LRep w lp S own) (p : Int) : Calls Tryd.prog 11 #[.pointer (some ⟨lp, 0, none⟩), .int .u64 p] w fun e w' => e = .returned (holderV (S.held p)) ∧ Touch [] w w' := by
  obtain ⟨hi, hp, col, blk, ao, no, co, oo, bi, bh, bw, ki, kh, kw, h, rfl⟩ := hR
  have c2 := h.at_.cell 2
  simp at c2
  have hm := h.held
  have hat := h.heldAt p
  clear h hp hi
  cases hh : S.held p with
  | none =>
    rw [hh, Option.map_none] at hat
    clear hh
    go_enter Tryd.func11, Tryd.ntmps11
    go_wp2_with (at_lookup; refine wpList_lookup_imap KU rfl _ _ true rfl Tryd.mapH (zeroInt _) rfl hm p rfl ?_; simp only [hat, Option.getD_none, Option.isSome_none, if_true])
    go_ret2
    exact ⟨rfl, Touch.refl _ _⟩
  | some i =>
    rw [hh, Option.map_some] at hat
    clear hh
    go_enter Tryd.func11, Tryd.ntmps11
    go_wp2_with (at_lookup; refine wpList_lookup_imap KU rfl _ _ true rfl Tryd.mapH (zeroInt _) rfl hm p rfl ?_; simp only [hat, Option.getD_some, Option.isSome_some, if_true])
    go_ret2
    exact ⟨rfl, Touch.refl _ _⟩

set_option maxRecDepth 100000 in
theorem waits_any (w : World) (lp : Nat) (S : Lk) (own : List Nat) (hR : LRep w lp S own) (i : Int) : Calls Tryd.prog 17 #[.pointer (some ⟨lp, 0, none⟩), .int .i64 i] w fun e w' => e = .returned (waitsV (S.waitsV i)) ∧ Touch [] w w' := by
  obtain ⟨hi, hp, col, blk, ao, no, co, oo, bi, bh, bw, ki, kh, kw, h, rfl⟩ := hR
  have c1 := h.at_.cell 1
  simp at c1
  have hids := h.ids
  have hat := h.idsAt i
  unfold Lk.waitsV
  by_cases hio : i ∈ S.order
  · rw [if_pos hio] at hat ⊢
    obtain ⟨a, n, c, o, h1, h2, h3, h4⟩ := h.obj i hio
    have d1 := h1.cell 1
    have d2 := h1.cell 2
    simp at d1 d2
    have hn : n = (S.paths i).length := by have := h2.1; simpa [u64s] using this.symm
    have hl := hi.hl i
    have hlp := hp i hio
    have hnc := h2.2.1
    cases hx : S.next i with
    | none =>
      have hh := Lk.next_none hx
      have hq2 : (((S.has i : Nat) : Int) == (n : Int)) = true := by rw [beq_iff_eq]; omega
      have hq3 : (S.has i == n) = true := by rw [beq_iff_eq]; omega
      clear hh hn h hp hi h1 h2 h3 h4 hl hlp hx hnc
      go_enter Tryd.func17, Tryd.ntmps17
      go_wp2_with (at_lookup; refine wpList_lookup_imap KI rfl _ _ true rfl Tryd.mapI (zeroAsk _) rfl hids i rfl ?_; simp only [hat, Option.getD_some, Option.isSome_some, if_true])
      go_quiet (fail)
      go_wp2
      go_ret2
      exact ⟨rfl, (Touch.refl _ _).drewN _⟩
    | some p =>
      obtain ⟨hlt, hpp⟩ := Lk.next_lt hx
      obtain ⟨k, hk⟩ : ∃ k, S.has i = k := ⟨_, rfl⟩
      rw [hk] at hlt d2
      have hq2 : (((k : Nat) : Int) == (n : Int)) = false := by rw [beq_eq_false_iff_ne]; omega
      have hq3 : (k == n) = false := by rw [beq_eq_false_iff_ne]; omega
      obtain ⟨b, off, _, rfl, -⟩ := h2.form (by omega)
      have d3 := h2.cellSome k (.int .u64 p) (by unfold u64s; rw [List.getElem?_map]; unfold Lk.next at hx; rw [hk] at hx; rw [hx]; rfl)
      have hkn : (k : Int) < (n : Int) := by omega
      clear hlt hpp hk hn h hp hi h1 h2 h3 h4 hl hlp hx
      go_enter Tryd.func17, Tryd.ntmps17
      go_wp2_with (at_lookup; refine wpList_lookup_imap KI rfl _ _ true rfl Tryd.mapI (zeroAsk _) rfl hids i rfl ?_; simp only [hat, Option.getD_some, Option.isSome_some, if_true])
      go_quiet (fail)
      go_wp2
      go_quiet (fail)
      go_wp2
      go_ret2
      exact ⟨rfl, ((Touch.refl _ _).drewN _).drewN _⟩
  · rw [if_neg hio] at hat ⊢
    clear h hp hi hio
    go_enter Tryd.func17, Tryd.ntmps17
    go_wp2_with (at_lookup; refine wpList_lookup_imap KI rfl _ _ true rfl Tryd.mapI (zeroAsk _) rfl hids i rfl ?_; simp only [hat, Option.getD_none, Option.isSome_none, if_true])
    go_quiet (fail)
    go_wp2
    go_ret2
    exact ⟨rfl, (Touch.refl _ _).drewN _⟩

def Lk.zero : Lk := ⟨[], fun _ => [], fun _ => 0, []⟩
theorem newLocks_any (w : World) : Calls Tryd.prog 7 #[] w (fun e w' => ∃ lp own, e = .returned (.pointer (some ⟨lp, 0, none⟩)) ∧ LRep w' lp Lk.zero own ∧ Touch [] w w' ∧ ∀ b ∈ own, w.heap.size ≤ b) := by
  have hmm := @run_makeMap Tryd.prog
  go_enter Tryd.func7, Tryd.ntmps7
  go_wp2
  go_ret
  have hA := At.new (((w.alloc (.map #[] 0)).alloc (.map #[] 0)).alloc (.map #[] 0)) 70 [.slice none 0 0, .map (some w.heap.size), .map (some (w.heap.size + 1)), .map (some (w.heap.size + 2))]
  have h1 := (((IMap.new w KI.f).alloc (.map #[] 0)).alloc (.map #[] 0)).alloc (.cells #[.slice none 0 0, .map (some w.heap.size), .map (some (w.heap.size + 1)), .map (some (w.heap.size + 2))] 70)
  have h2 := ((IMap.new (w.alloc (.map #[] 0)) KU.f).alloc (.map #[] 0)).alloc (.cells #[.slice none 0 0, .map (some w.heap.size), .map (some (w.heap.size + 1)), .map (some (w.heap.size + 2))] 70)
  have h3 := (IMap.new ((w.alloc (.map #[] 0)).alloc (.map #[] 0)) KU.f).alloc (.cells #[.slice none 0 0, .map (some w.heap.size), .map (some (w.heap.size + 1)), .map (some (w.heap.size + 2))] 70)
  simp only [World.size_alloc] at hA h2 h3
  have hT : Touch [] w ((((w.alloc (.map #[] 0)).alloc (.map #[] 0)).alloc (.map #[] 0)).alloc (.cells #[.slice none 0 0, .map (some w.heap.size), .map (some (w.heap.size + 1)), .map (some (w.heap.size + 2))] 70)) := ((((Touch.refl [] w).alloc _).alloc _).alloc _).alloc _
  obtain ⟨H, hH⟩ : ∃ H, w.heap.size = H := ⟨_, rfl⟩
  rw [hH] at hA h1 h2 h3 hT ⊢
  refine ⟨H + 1 + 1 + 1, _, by simp [hH], ⟨Lk.Inv.empty, by simp [Lk.zero], fun b => if b = H then some .ids else if b = H + 1 then some .held else if b = H + 2 then some .waits else if b = H + 3 then some .box else none, fun _ => 0, none, 0, 0, [], H, H + 1, H + 2, [], [], [], ⟨hA, Row.nil _ _ _ _, h1, by simp [keysOf], by simp [atKey, Lk.zero], h2, by simp [keysOf], by simp [atKey, Lk.zero, Lk.held], h3, by simp [keysOf], by simp [atKey, WaitAt, Lk.zero, Lk.waitsFor], by simp [Lk.zero], by rw [if_neg (by omega), if_neg (by omega), if_neg (by omega), if_pos (by omega)], by simp, by simp, by simp, by simp⟩, rfl⟩, hT, fun b hb => ?_⟩
  obtain ⟨-, h⟩ := mem_owned.1 hb
  repeat' (split at h)
  all_goals first | omega | exact absurd rfl h
end Go.Proofs.YtppgeljlmckimaaDoor
