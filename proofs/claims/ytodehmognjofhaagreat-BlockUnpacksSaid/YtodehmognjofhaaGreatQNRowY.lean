/-
  append to a slice whose block may bear a mark behind its cells (a text's bytes).
-/
import Derived.Test.YtodehmognjofhaaGreatQNTurn2
namespace Go.Proofs.YtodehmognjofhaaGreat
open Go.RowKit

/-- a slice's cells: xs; the block may be one that a text's bytes came to. -/
def RowY (w : World) (e : TypeId) (size : Nat) (a : Option Addr) (n cap : Nat) (own : List Nat) (xs : List Value) : Prop :=
  xs.length = n * size ∧ n ≤ cap ∧ cap ≤ maxLen ∧
  ((cap = 0 ∧ own = []) ∨ ∃ b off cur z, a = some ⟨b, off, none⟩ ∧ own = [b] ∧ w.heap[b]? = some (.cells cur e z) ∧ off + cap * size ≤ cur.size ∧ (cur.toList.drop off).take (n * size) = xs ∧ ∀ i, i < cur.size → ¬ (z.1 ≤ i ∧ i < z.2))
namespace RowY
variable {w w' : World} {e : TypeId} {size : Nat} {a : Option Addr} {n cap : Nat} {own : List Nat} {xs : List Value}
theorem lt (h : RowY w e size a n cap own xs) : ∀ b ∈ own, b < w.heap.size := by
  rcases h.2.2.2 with ⟨_, rfl⟩ | ⟨b, off, cur, z, _, rfl, hg, _⟩
  · simp
  · intro c hc; simp at hc; subst hc; exact (Array.getElem?_eq_some_iff.1 hg).1
theorem touch {l : List Nat} (h : RowY w e size a n cap own xs) (t : Touch l w w') (hn : ∀ b ∈ own, b ∉ l) : RowY w' e size a n cap own xs := by
  refine ⟨h.1, h.2.1, h.2.2.1, ?_⟩
  rcases h.2.2.2 with h' | ⟨b, off, cur, z, h1, rfl, hg, r⟩
  · exact .inl h'
  · exact .inr ⟨b, off, cur, z, h1, rfl, (t.block b (Array.getElem?_eq_some_iff.1 hg).1 (hn b (by simp))).trans hg, r⟩
theorem alloc (h : RowY w e size a n cap own xs) (o : Obj) : RowY (w.alloc o) e size a n cap own xs := h.touch ((Touch.refl [] w).alloc o) (by simp)
theorem drew (h : RowY w e size a n cap own xs) : RowY w.drew e size a n cap own xs := h
theorem form (h : RowY w e size a n cap own xs) (hn : 0 < cap) : ∃ b off cur z, a = some ⟨b, off, none⟩ ∧ own = [b] ∧ w.heap[b]? = some (.cells cur e z) ∧ off + cap * size ≤ cur.size ∧ (cur.toList.drop off).take (n * size) = xs ∧ ∀ i, i < cur.size → ¬ (z.1 ≤ i ∧ i < z.2) := by
  rcases h.2.2.2 with ⟨h0, _⟩ | h'
  · omega
  · exact h'
theorem cellSome {b off : Nat} (h : RowY w e size (some ⟨b, off, none⟩) n cap own xs) (j : Nat) (v : Value) (hv : xs[j]? = some v) : w.cell? ⟨b, off + j, none⟩ = some v := by
  have hj : j < n * size := by rw [← h.1]; exact (List.getElem?_eq_some_iff.1 hv).1
  have hc : 0 < cap := by
    rcases Nat.eq_zero_or_pos cap with h0 | h0
    · have := h.2.1; have hn0 : n = 0 := by omega
      subst hn0; simp at hj
    · exact h0
  obtain ⟨b', off', cur, z, h1, _, hg, hs, ht, _⟩ := h.form hc
  cases h1
  rw [cell_of_row w b _ cur e z hg]
  rw [← ht, List.getElem?_take, if_pos hj, List.getElem?_drop] at hv
  simpa using hv
theorem nil (w : World) (e : TypeId) (size : Nat) (a : Option Addr) : RowY w e size a 0 0 [] [] := ⟨by simp, Nat.le_refl _, by simp, .inl ⟨rfl, rfl⟩⟩
theorem bytes (W : World) (s : ByteArray) (cap : Nat) (e : TypeId) (hc : s.size ≤ cap) (hm : cap ≤ maxLen) : RowY (W.alloc (.cells (bytesRow s cap) e ((bytesRow s cap).size, (bytesRow s cap).size + 1))) e 1 (some ⟨W.heap.size, 0, none⟩) s.size cap [W.heap.size] (bcells (bsOf s)) := by
  have e1 : (bytesRow s cap).toList = bcells (bsOf s) ++ List.replicate (cap - s.size) (.int .u8 0) := by
    unfold bytesRow bcells bsOf
    simp [List.map_map]
  have e2 : (bcells (bsOf s)).length = s.size := by rw [bcells_len, bsOf_len]
  refine ⟨by rw [e2, Nat.mul_one], hc, hm, .inr ⟨_, _, _, _, rfl, rfl, heap_alloc_new W _, ?_, ?_, fun i hi => by omega⟩⟩
  · rw [← Array.length_toList, e1, List.length_append, e2, List.length_replicate]; omega
  · rw [e1, List.drop_zero, Nat.mul_one, ← e2, List.take_left]
end RowY

section
variable {P : Program} (w : World)
theorem run_append_rowY (t ty e : TypeId) (i : TypeInfo) (z : Value) (size bytes : Nat) (ht : P.underlying t = some (.slice e)) (hi : P.info? e = some i) (hz : i.zero = some z)
    (hsize : i.size = size) (hby : i.bytes = bytes) (hzs : z.cells.size = size) (hsz : 0 < size)
    (a : Option Addr) (n cap : Nat) (own : List Nat) (xs : List Value) (hR : RowY w e size a n cap own xs)
    (x : Option Addr) (m c : Nat) (news : List Value) (hl : news.length = m * size) (hx : m = 0 ∨ ∃ ad, x = some ad ∧ ∀ j u, news[j]? = some u → w.cell? (ad.add j) = some u) (h1 : ∀ u ∈ news, u.oneCell' = true)
    (h63 : n + m ≤ maxLen) (hbytes : (n + m) * bytes ≤ 140737488355328) :
    ∃ a' cap' own' w', (Builtin.append_ #[t, t] ty #[.slice a n cap, .slice x m c]).run P w = .ok (.slice a' (n + m) cap') w' ∧ RowY w' e size a' (n + m) cap' own' (xs ++ news) ∧ Touch own w w' ∧ (own' = own ∨ own' = [w.heap.size]) ∧ (0 < m → own' ≠ []) := by
  subst hsize
  subst hby
  have hlen : (xs ++ news).length = (n + m) * i.size := by rw [List.length_append, hR.1, hl, Nat.add_mul]
  rcases Nat.eq_zero_or_pos m with hm | hm
  · subst hm
    have hn : news = [] := List.eq_nil_of_length_eq_zero (by simpa using hl)
    subst hn
    refine ⟨a, cap, own, w, ?_, by simpa using hR, Touch.refl _ _, .inl rfl, by simp⟩
    have hnc : n ≤ cap := hR.2.1
    cases x <;> cases a <;> simp [Builtin.append_, run_underlying ht, sizeOf, typeInfo, hi, Builtin.lenOf, Builtin.firstCells, loadCells, loadCellsFrom, hnc, storeCells]
  obtain ⟨ad, rfl, hnews⟩ : ∃ ad, x = some ad ∧ ∀ j u, news[j]? = some u → w.cell? (ad.add j) = some u := hx.resolve_left (by omega)
  have grown : ∀ (old : Nat), old < n + m →
      RowY (w.drew.alloc (.cells (xs.toArray ++ news.toArray ++ Builtin.zeroCells z.cells (grownCap w (n + m) old e - (n + m))) e)) e i.size
        (some ⟨w.heap.size, 0, none⟩) (n + m) (grownCap w (n + m) old e) [w.heap.size] (xs ++ news) ∧
      Touch own w (w.drew.alloc (.cells (xs.toArray ++ news.toArray ++ Builtin.zeroCells z.cells (grownCap w (n + m) old e - (n + m))) e)) := by
    intro old ho
    have hge := grownCap_ge w (n + m) old e
    have hcm : grownCap w (n + m) old e ≤ maxLen := grownCap_le_maxLen w (n + m) old e h63
    refine ⟨⟨hlen, hge, hcm, .inr ⟨w.heap.size, 0, _, _, rfl, rfl, heap_alloc_new w.drew _, ?_, ?_, fun i hi => by omega⟩⟩, ((Touch.refl own w).drew).alloc _⟩
    · simp only [Array.size_append, List.size_toArray, size_zero, hzs, hR.1, hl, ← Nat.add_mul]
      rw [Nat.zero_add, Nat.add_sub_cancel' hge]
      exact Nat.le_refl _
    · simp only [Array.toList_append, List.append_assoc, List.drop_zero]
      rw [← List.append_assoc, ← hlen]
      exact List.take_left
  have h63i : ((n + m : Nat) : Int) ≤ 9223372036854775807 := by simp only [maxLen] at h63; omega
  rcases Nat.eq_zero_or_pos cap with hcap | hcap
  · subst hcap
    have hn0 : n = 0 := by have := hR.2.1; omega
    subst hn0
    have hx0 : xs = [] := List.eq_nil_of_length_eq_zero (by simpa using hR.1)
    subst hx0
    have hgr := grown 0 (by omega)
    cases a with
    | none =>
      have hr := run_append_nil (P := P) w t ty e i z ht hi hz ad m c news hl hnews hm (by simpa using h63i) (by simp only [Nat.zero_add] at hbytes; omega)
      simp only [Nat.zero_add, List.nil_append, Array.empty_append] at hgr hr ⊢
      exact ⟨_, _, _, _, hr, hgr.1, hgr.2, .inr rfl, by simp⟩
    | some b =>
      have hr := run_append_grow (P := P) w t ty e i z ht hi hz b 0 0 [] (by simp) (by simp) ad m c news hl hnews (by omega) (by simpa using h63i) (growslice_fits (by omega) hbytes)
      exact ⟨_, _, _, _, hr, hgr.1, hgr.2, .inr rfl, by simp⟩
  · obtain ⟨b, off, cur, zz, rfl, rfl, hg, hs, htk, hfr⟩ := hR.form hcap
    by_cases hroom : n + m ≤ cap
    · have hfit : off + n * i.size + news.length ≤ cur.size := by
        have : (n + m) * i.size ≤ cap * i.size := Nat.mul_le_mul_right _ hroom
        rw [Nat.add_mul] at this; omega
      have hf := run_firstCells_some (P := P) w i.size m ad m c news hl hnews
      have hst := run_storeCells_cells (P := P) b (off + n * i.size) news 0 w (fun j hj => by
          rw [cell_of_row w b _ cur e zz hg, Array.getElem?_eq_getElem (by omega)]; rfl) (fun j hj => by
          have := hfr (off + n * i.size + 0 + j) (by omega)
          unfold World.frozen?
          simp only [hg]
          simpa using this) h1
      simp only [Nat.add_zero] at hst
      obtain ⟨arr', c1, c2, c3, c4, c5, c6, c7, c8⟩ := setCells_heap b news (off + n * i.size) w cur e zz hg hfit
      refine ⟨_, _, [b], w.setCells b (off + n * i.size) news, by simp [Builtin.append_, run_underlying ht, sizeOf, typeInfo, hi, Builtin.lenOf, hroom, hf, Addr.add_lit, hst], ⟨hlen, hroom, hR.2.2.1, .inr ⟨b, off, _, _, rfl, rfl, c1, by rw [c3]; exact hs, ?_, by rw [c3]; exact hfr⟩⟩,
        ⟨c6, c7, c8, by rw [c4]; exact Nat.le_refl _, fun k _ hk => c5 k (by simpa using hk)⟩, .inl rfl, by simp⟩
      have hxl : xs.length = n * i.size := hR.1
      have e1 : cur.toList.take (off + n * i.size) = cur.toList.take off ++ xs := by rw [List.take_add, htk]
      have e2 : (cur.toList.take off).length = off := by rw [List.length_take]; simp; omega
      rw [c2, e1, List.append_assoc, List.drop_append, e2, Nat.sub_self, List.drop_of_length_le (by omega), List.nil_append, List.drop_zero, ← List.append_assoc, ← hlen]
      exact List.take_left
    · have holds : ∀ j u, xs[j]? = some u → w.cell? ((⟨b, off, none⟩ : Addr).add j) = some u := by
        intro j u hj
        rw [Addr.add_lit]
        exact hR.cellSome j u hj
      have hr := run_append_grow (P := P) w t ty e i z ht hi hz ⟨b, off, none⟩ n cap xs hR.1 holds ad m c news hl hnews (by omega) h63i (growslice_fits (by omega) hbytes)
      have hgr := grown cap (by omega)
      exact ⟨_, _, _, _, hr, hgr.1, hgr.2, .inr rfl, by simp⟩
theorem wpList_append_rowY {ops : Array Oper} {rest : List Oper} {o : Oper} {ac : Act} {Q : Exit → Act → World → Prop} (hgd : o.guard = none) (s y : Operand) (t : TypeId)
    (ho : o.op = .call { callee := .builtin .append, args := #[s, y], argTypes := #[t, t] })
    (e : TypeId) (i : TypeInfo) (z : Value) (size bytes : Nat) (ht : P.underlying t = some (.slice e)) (hi : P.info? e = some i) (hz : i.zero = some z)
    (hsize : i.size = size) (hby : i.bytes = bytes) (hzs : z.cells.size = size) (hsz : 0 < size)
    (a : Option Addr) (n cap : Nat) (own : List Nat) (xs : List Value) (hs : ac.eval s = .slice a n cap) (hR : RowY w e size a n cap own xs)
    (x : Option Addr) (m c : Nat) (news : List Value) (hy : ac.eval y = .slice x m c) (hl : news.length = m * size) (hx : m = 0 ∨ ∃ ad, x = some ad ∧ ∀ j u, news[j]? = some u → w.cell? (ad.add j) = some u) (h1 : ∀ u ∈ news, u.oneCell' = true)
    (h63 : n + m ≤ maxLen) (hbytes : (n + m) * bytes ≤ 140737488355328)
    (h : ∀ a' cap' own' w', RowY w' e size a' (n + m) cap' own' (xs ++ news) → Touch own w w' → (own' = own ∨ own' = [w.heap.size]) → (0 < m → own' ≠ []) → wpList P ops Q rest (ac.put o.dst (.slice a' (n + m) cap')) w') : wpList P ops Q (o :: rest) ac w := by
  refine wpList_plain hgd fun _ hK => ?_
  obtain ⟨a', cap', own', w', hr, h2, h3, h4, h6⟩ := run_append_rowY (P := P) w t o.type e i z size bytes ht hi hz hsize hby hzs hsz a n cap own xs hR x m c news hl hx h1 h63 hbytes
  unfold Oper.wp execOp
  simp only [ho, resolve, invoke, builtin, Sem.run_bind, Sem.run_pure, Result.andThen_ok, List.map_toArray, List.map_cons, List.map_nil, hs, hy, hr]
  exact hK _ _ (h a' cap' own' w' h2 h3 h4 h6)
end
end Go.Proofs.YtodehmognjofhaaGreat
