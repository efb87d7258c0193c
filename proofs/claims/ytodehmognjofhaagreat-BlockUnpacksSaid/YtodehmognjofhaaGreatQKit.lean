/-
  Small laws of our own over the kit, over any program: which blocks a call may have turned (Touch), a slice's cells (Row), a block that is known whole (At), and the built-in append over a Row.
-/
import Derived.WalkKit
import Derived.Handy
import Derived.Maps.Own
import Derived.Maps.OwnSet
import Derived.Maps.OwnOps
import Derived.Deep.RegionHeld3
import Derived.Deep.RegionLaw
import Derived.Deep.AppendLies
import Derived.Deep.QuietTactic
import Derived.BigQuiet
import Derived.WalkSpells
import Derived.Lib.Hide
import Derived.StillTailTactics
namespace Go.Proofs.YtodehmognjofhaaGreat
open Go.RowKit

/-- Of the blocks that were there, those of l alone may have turned; the streams are as they were. -/
structure Touch (l : List Nat) (w w' : World) : Prop where
  os : w'.os = w.os
  tape : w'.tape = w.tape
  output : w'.output = w.output
  size : w.heap.size ≤ w'.heap.size
  block : ∀ k, k < w.heap.size → k ∉ l → w'.heap[k]? = w.heap[k]?

namespace Touch
theorem refl (l : List Nat) (w : World) : Touch l w w := ⟨rfl, rfl, rfl, Nat.le_refl _, fun _ _ _ => rfl⟩
theorem trans {l l' : List Nat} {a b c : World} (h : Touch l a b) (k : Touch l' b c) (hl : ∀ x ∈ l', x ∈ l ∨ a.heap.size ≤ x) : Touch l a c :=
  ⟨k.os.trans h.os, k.tape.trans h.tape, k.output.trans h.output, Nat.le_trans h.size k.size, fun i hi hn =>
    (k.block i (Nat.lt_of_lt_of_le hi h.size) (fun hm => (hl i hm).elim hn (fun h2 => by omega))).trans (h.block i hi hn)⟩
theorem trans' {l : List Nat} {a b c : World} (h : Touch l a b) (k : Touch l b c) : Touch l a c := h.trans k fun _ hx => .inl hx
theorem mono {l l' : List Nat} {a b : World} (h : Touch l a b) (hl : ∀ x ∈ l, x ∈ l' ∨ a.heap.size ≤ x) : Touch l' a b :=
  ⟨h.os, h.tape, h.output, h.size, fun i hi hn => h.block i hi (fun hm => (hl i hm).elim hn (fun h2 => by omega))⟩
theorem drew {l : List Nat} {a b : World} (h : Touch l a b) : Touch l a b.drew := ⟨h.os, h.tape, h.output, h.size, h.block⟩
theorem drewN {l : List Nat} {a b : World} (h : Touch l a b) (n : Nat) : Touch l a (b.drewN n) := ⟨h.os, h.tape, h.output, h.size, h.block⟩
theorem alloc {l : List Nat} {a b : World} (h : Touch l a b) (o : Obj) : Touch l a (b.alloc o) :=
  h.trans (l' := []) ⟨rfl, rfl, rfl, by simp, fun k hk _ => Below.heap_alloc b o k hk⟩ (by simp)
theorem setCell {l : List Nat} {a b : World} (h : Touch l a b) (p : Addr) (hp : p.block ∈ l ∨ a.heap.size ≤ p.block) (v : Value) : Touch l a (b.setCell p v) :=
  h.trans (l' := [p.block]) ⟨rfl, rfl, rfl, by simp [World.setCell], fun k _ hn => heap_setCell_other b p k v (by simpa using hn)⟩ (by simpa using hp)
theorem below {w w' : World} (h : Below w.heap.size w w') : Touch [] w w' := ⟨h.os, h.tape, h.output, h.size, fun k hk _ => h.block k hk⟩
theorem toBelow {l : List Nat} {w w' : World} {B : Nat} (h : Touch l w w') (hB : B ≤ w.heap.size) (hl : ∀ x ∈ l, B ≤ x) : Below B w w' :=
  ⟨h.os, h.tape, h.output, h.size, fun k hk => h.block k (by omega) (fun hm => by have := hl k hm; omega)⟩
theorem grown {l : List Nat} {w w' : World} {row : Option Nat} (h : w.grownBy w' row) (hl : ∀ k, row = some k → k ∈ l) : Touch l w w' :=
  ⟨h.os, h.tape, h.output, h.size, fun k hk hn => h.block k hk (fun e => hn (hl k e.symm))⟩
theorem cell {l : List Nat} {w w' : World} (h : Touch l w w') {p : Addr} (h1 : p.block < w.heap.size) (h2 : p.block ∉ l) : w'.cell? p = w.cell? p := World.cell?_of_block (h.block _ h1 h2)
theorem frozen {l : List Nat} {w w' : World} (h : Touch l w w') {p : Addr} (h1 : p.block < w.heap.size) (h2 : p.block ∉ l) : w'.frozen? p = w.frozen? p := World.frozen?_of_block (h.block _ h1 h2)
end Touch

/-- A block of cells that is known whole. -/
def At (w : World) (b : Nat) (e : TypeId) (cs : List Value) : Prop := w.heap[b]? = some (.cells cs.toArray e (0, 0))
namespace At
variable {w w' : World} {b : Nat} {e : TypeId} {cs : List Value}
theorem lt (h : At w b e cs) : b < w.heap.size := (Array.getElem?_eq_some_iff.1 h).1
theorem cell (h : At w b e cs) (i : Nat) : w.cell? ⟨b, i, none⟩ = cs[i]? := by rw [cell_of_row w b i _ e (0, 0) h]; simp
theorem frozen (h : At w b e cs) (i : Nat) : w.frozen? ⟨b, i, none⟩ = false := frozen_of_row w b i _ e h
theorem touch {l : List Nat} (h : At w b e cs) (t : Touch l w w') (hn : b ∉ l) : At w' b e cs := (t.block b h.lt hn).trans h
theorem alloc (h : At w b e cs) (o : Obj) : At (w.alloc o) b e cs := (Below.heap_alloc w o b h.lt).trans h
theorem new (w : World) (e : TypeId) (cs : List Value) : At (w.alloc (.cells cs.toArray e)) w.heap.size e cs := heap_alloc_new w _
theorem drew (h : At w b e cs) : At w.drew b e cs := h
theorem set (h : At w b e cs) (i : Nat) (v : Value) : At (w.setCell ⟨b, i, none⟩ v) b e (cs.set i v) := by
  have := heap_setCell_same w b i cs.toArray e v h
  unfold At; rw [this]; simp
theorem other (h : At w b e cs) {p : Addr} (hp : b ≠ p.block) (v : Value) : At (w.setCell p v) b e cs := (heap_setCell_other w p b v hp).trans h
end At

/-- A slice's cells: xs; own: the block that the slice has for itself (none where it has no capacity). -/
def Row (w : World) (e : TypeId) (size : Nat) (a : Option Addr) (n cap : Nat) (own : List Nat) (xs : List Value) : Prop :=
  xs.length = n * size ∧ n ≤ cap ∧ cap ≤ maxLen ∧
  ((cap = 0 ∧ own = []) ∨ ∃ b off cur, a = some ⟨b, off, none⟩ ∧ own = [b] ∧ w.heap[b]? = some (.cells cur e (0, 0)) ∧ off + cap * size ≤ cur.size ∧ (cur.toList.drop off).take (n * size) = xs)

namespace Row
variable {w w' : World} {e : TypeId} {size : Nat} {a : Option Addr} {n cap : Nat} {own : List Nat} {xs : List Value}
theorem nil (w : World) (e : TypeId) (size : Nat) (a : Option Addr) : Row w e size a 0 0 [] [] := ⟨by simp, Nat.le_refl _, by simp, .inl ⟨rfl, rfl⟩⟩
theorem lt (h : Row w e size a n cap own xs) : ∀ b ∈ own, b < w.heap.size := by
  rcases h.2.2.2 with ⟨_, rfl⟩ | ⟨b, off, cur, _, rfl, hg, _⟩
  · simp
  · intro c hc; simp at hc; subst hc; exact (Array.getElem?_eq_some_iff.1 hg).1
theorem touch {l : List Nat} (h : Row w e size a n cap own xs) (t : Touch l w w') (hn : ∀ b ∈ own, b ∉ l) : Row w' e size a n cap own xs := by
  refine ⟨h.1, h.2.1, h.2.2.1, ?_⟩
  rcases h.2.2.2 with h' | ⟨b, off, cur, h1, rfl, hg, r⟩
  · exact .inl h'
  · exact .inr ⟨b, off, cur, h1, rfl, (t.block b (Array.getElem?_eq_some_iff.1 hg).1 (hn b (by simp))).trans hg, r⟩
theorem alloc (h : Row w e size a n cap own xs) (o : Obj) : Row (w.alloc o) e size a n cap own xs := h.touch ((Touch.refl [] w).alloc o) (by simp)
theorem drew (h : Row w e size a n cap own xs) : Row w.drew e size a n cap own xs := h
/-- Where there is an element the slice is one of a block. -/
theorem form (h : Row w e size a n cap own xs) (hn : 0 < cap) : ∃ b off cur, a = some ⟨b, off, none⟩ ∧ own = [b] ∧ w.heap[b]? = some (.cells cur e (0, 0)) ∧ off + cap * size ≤ cur.size ∧ (cur.toList.drop off).take (n * size) = xs := by
  rcases h.2.2.2 with ⟨h0, _⟩ | h'
  · omega
  · exact h'
theorem nil_of (h : Row w e size none n cap own xs) : cap = 0 ∧ n = 0 ∧ own = [] ∧ xs = [] := by
  rcases h.2.2.2 with ⟨h0, h1⟩ | ⟨b, off, cur, h', _⟩
  · have hn : n = 0 := by have := h.2.1; omega
    exact ⟨h0, hn, h1, List.eq_nil_of_length_eq_zero (by rw [h.1, hn]; simp)⟩
  · cases h'
theorem cell {b off : Nat} (h : Row w e size (some ⟨b, off, none⟩) n cap own xs) (j : Nat) (hj : j < n * size) : w.cell? ⟨b, off + j, none⟩ = xs[j]? := by
  have hc : 0 < cap := by
    rcases Nat.eq_zero_or_pos cap with h0 | h0
    · have := h.2.1; have hn0 : n = 0 := by omega
      subst hn0; simp at hj
    · exact h0
  obtain ⟨b', off', cur, h1, _, hg, hs, ht⟩ := h.form hc
  cases h1
  rw [cell_of_row w b _ cur e (0, 0) hg, ← ht, List.getElem?_take, if_pos hj, List.getElem?_drop]
  simp
theorem cellSome {b off : Nat} (h : Row w e size (some ⟨b, off, none⟩) n cap own xs) (j : Nat) (v : Value) (hj : xs[j]? = some v) : w.cell? ⟨b, off + j, none⟩ = some v := by
  rw [h.cell j (by rw [← h.1]; exact (List.getElem?_eq_some_iff.1 hj).1), hj]
theorem frozen {b off : Nat} (h : Row w e size (some ⟨b, off, none⟩) n cap own xs) (hc : 0 < cap) (j : Nat) : w.frozen? ⟨b, j, none⟩ = false := by
  obtain ⟨b', off', cur, h1, _, hg, _⟩ := h.form hc
  cases h1
  exact frozen_of_row w b j cur e hg
/-- A store into an element. -/
theorem set {b off : Nat} (h : Row w e size (some ⟨b, off, none⟩) n cap own xs) (j : Nat) (hj : j < n * size) (v : Value) : Row (w.setCell ⟨b, off + j, none⟩ v) e size (some ⟨b, off, none⟩) n cap own (xs.set j v) := by
  have hc : 0 < cap := by
    rcases Nat.eq_zero_or_pos cap with h0 | h0
    · have := h.2.1; have hn0 : n = 0 := by omega
      subst hn0; simp at hj
    · exact h0
  obtain ⟨b', off', cur, h1, h2, hg, hs, ht⟩ := h.form hc
  cases h1
  refine ⟨by rw [List.length_set]; exact h.1, h.2.1, h.2.2.1, .inr ⟨b, off, cur.setIfInBounds (off + j) v, rfl, h2, heap_setCell_same w b (off + j) cur e v hg, by simpa using hs, ?_⟩⟩
  rw [← ht, Array.toList_setIfInBounds, List.drop_set, if_neg (by omega), List.take_set, Nat.add_sub_cancel_left]
/-- The first k elements, the capacity kept. -/
theorem take (h : Row w e size a n cap own xs) (k : Nat) (hk : k ≤ n) : Row w e size a k cap own (xs.take (k * size)) := by
  have hm : k * size ≤ n * size := Nat.mul_le_mul_right _ hk
  refine ⟨by rw [List.length_take, h.1]; omega, Nat.le_trans hk h.2.1, h.2.2.1, ?_⟩
  rcases h.2.2.2 with h' | ⟨b, off, cur, h1, h2, hg, hs, ht⟩
  · exact .inl h'
  · refine .inr ⟨b, off, cur, h1, h2, hg, hs, ?_⟩
    rw [← ht, List.take_take, Nat.min_eq_left hm]
/-- A slice literal. -/
theorem lit (w : World) (e : TypeId) (size : Nat) (cs : List Value) (n : Nat) (hn : cs.length = n * size) (hm : n ≤ maxLen) : Row (w.alloc (.cells cs.toArray e)) e size (some ⟨w.heap.size, 0, none⟩) n n [w.heap.size] cs :=
  ⟨hn, Nat.le_refl _, hm, .inr ⟨w.heap.size, 0, cs.toArray, rfl, rfl, heap_alloc_new w _, by simp [hn], by rw [← hn]; simp⟩⟩
end Row

theorem size_zero (z : Array Value) (n : Nat) : (Builtin.zeroCells z n).size = n * z.size := by simp [Builtin.zeroCells]

section
variable {P : Program} (w : World)
/-- append over a Row: nothing is asked of how what is appended lies. -/
theorem run_append_row (t ty e : TypeId) (i : TypeInfo) (z : Value) (size bytes : Nat) (ht : P.underlying t = some (.slice e)) (hi : P.info? e = some i) (hz : i.zero = some z)
    (hsize : i.size = size) (hby : i.bytes = bytes) (hzs : z.cells.size = size) (hsz : 0 < size)
    (a : Option Addr) (n cap : Nat) (own : List Nat) (xs : List Value) (hR : Row w e size a n cap own xs)
    (x : Option Addr) (m c : Nat) (news : List Value) (hl : news.length = m * size) (hx : m = 0 ∨ ∃ ad, x = some ad ∧ ∀ j u, news[j]? = some u → w.cell? (ad.add j) = some u) (h1 : ∀ u ∈ news, u.oneCell' = true)
    (h63 : n + m ≤ maxLen) (hbytes : (n + m) * bytes ≤ 140737488355328) :
    ∃ a' cap' own' w', (Builtin.append_ #[t, t] ty #[.slice a n cap, .slice x m c]).run P w = .ok (.slice a' (n + m) cap') w' ∧ Row w' e size a' (n + m) cap' own' (xs ++ news) ∧ Touch own w w' ∧ (own' = own ∨ own' = [w.heap.size]) ∧ (a = none → m = 0 → a' = none) ∧ (0 < m → own' ≠ []) := by
  subst hsize
  subst hby
  have hlen : (xs ++ news).length = (n + m) * i.size := by rw [List.length_append, hR.1, hl, Nat.add_mul]
  rcases Nat.eq_zero_or_pos m with hm | hm
  · subst hm
    have hn : news = [] := List.eq_nil_of_length_eq_zero (by simpa using hl)
    subst hn
    refine ⟨a, cap, own, w, ?_, by simpa using hR, Touch.refl _ _, .inl rfl, fun h _ => h, by simp⟩
    have hnc : n ≤ cap := hR.2.1
    cases x <;> cases a <;> simp [Builtin.append_, run_underlying ht, sizeOf, typeInfo, hi, Builtin.lenOf, Builtin.firstCells, loadCells, loadCellsFrom, hnc, storeCells]
  obtain ⟨ad, rfl, hnews⟩ : ∃ ad, x = some ad ∧ ∀ j u, news[j]? = some u → w.cell? (ad.add j) = some u := hx.resolve_left (by omega)
  have grown : ∀ (old : Nat), old < n + m →
      Row (w.drew.alloc (.cells (xs.toArray ++ news.toArray ++ Builtin.zeroCells z.cells (grownCap w (n + m) old e - (n + m))) e)) e i.size
        (some ⟨w.heap.size, 0, none⟩) (n + m) (grownCap w (n + m) old e) [w.heap.size] (xs ++ news) ∧
      Touch own w (w.drew.alloc (.cells (xs.toArray ++ news.toArray ++ Builtin.zeroCells z.cells (grownCap w (n + m) old e - (n + m))) e)) := by
    intro old ho
    have hge := grownCap_ge w (n + m) old e
    have hcm : grownCap w (n + m) old e ≤ maxLen := grownCap_le_maxLen w (n + m) old e h63
    refine ⟨⟨hlen, hge, hcm, .inr ⟨w.heap.size, 0, _, rfl, rfl, heap_alloc_new w.drew _, ?_, ?_⟩⟩, ((Touch.refl own w).drew).alloc _⟩
    · simp only [Array.size_append, List.size_toArray, size_zero, hzs, hR.1, hl, ← Nat.add_mul]
      rw [Nat.zero_add, Nat.add_sub_cancel' hge]
      exact Nat.le_refl _
    · simp only [Array.toList_append, List.append_assoc, List.drop_zero]
      rw [← List.append_assoc, ← hlen]
      exact List.take_left
  have h63i : ((n + m : Nat) : Int) ≤ 9223372036854775807 := by simp only [maxLen] at h63; omega
  rcases Nat.eq_zero_or_pos cap with hcap | hcap
  · subst hcap
    have hn0 : n = 0 := by have := hR.2.1; omega
    subst hn0
    have hx0 : xs = [] := List.eq_nil_of_length_eq_zero (by simpa using hR.1)
    subst hx0
    have hgr := grown 0 (by omega)
    cases a with
    | none =>
      have hr := run_append_nil (P := P) w t ty e i z ht hi hz ad m c news hl hnews hm (by simpa using h63i) (by simp only [Nat.zero_add] at hbytes; omega)
      simp only [Nat.zero_add, List.nil_append, Array.empty_append] at hgr hr ⊢
      exact ⟨_, _, _, _, hr, hgr.1, hgr.2, .inr rfl, fun _ h => by omega, by simp⟩
    | some b =>
      have hr := run_append_grow (P := P) w t ty e i z ht hi hz b 0 0 [] (by simp) (by simp) ad m c news hl hnews (by omega) (by simpa using h63i) (growslice_fits (by omega) hbytes)
      exact ⟨_, _, _, _, hr, hgr.1, hgr.2, .inr rfl, by simp, by simp⟩
  · obtain ⟨b, off, cur, rfl, rfl, hg, hs, htk⟩ := hR.form hcap
    by_cases hroom : n + m ≤ cap
    · have hfit : off + (n * i.size + news.length) ≤ cur.size := by
        have : (n + m) * i.size ≤ cap * i.size := Nat.mul_le_mul_right _ hroom
        rw [Nat.add_mul] at this; omega
      have hf := run_firstCells_some (P := P) w i.size m ad m c news hl hnews
      have hst := run_storeCells_at P b (off + n * i.size) e news 0 cur w hg (by omega) h1
      simp only [Nat.add_zero] at hst
      refine ⟨_, _, [b], w.setRow b (cur.toList.take (off + n * i.size) ++ (news ++ cur.toList.drop (off + n * i.size + news.length))).toArray, by simp [Builtin.append_, run_underlying ht, sizeOf, typeInfo, hi, Builtin.lenOf, hroom, hf, Addr.add_lit, hst], ⟨hlen, hroom, hR.2.2.1, .inr ⟨b, off, _, rfl, rfl, setRow_heap w b cur _ e _ hg, ?_, ?_⟩⟩,
        ⟨rfl, rfl, rfl, by simp, fun k _ hk => setRow_other w b k _ (by simpa using hk)⟩, .inl rfl, by simp, by simp⟩
      · simp only [List.size_toArray, List.length_append, List.length_take, List.length_drop, Array.length_toList]
        omega
      · have hxl : xs.length = n * i.size := hR.1
        have e1 : cur.toList.take (off + n * i.size) = cur.toList.take off ++ xs := by rw [List.take_add, htk]
        have e2 : (cur.toList.take off).length = off := by rw [List.length_take]; simp; omega
        simp only [e1, List.append_assoc]
        rw [List.drop_append, e2, Nat.sub_self, List.drop_of_length_le (by omega), List.nil_append, List.drop_zero, ← List.append_assoc, ← hlen]
        exact List.take_left
    · have holds : ∀ j u, xs[j]? = some u → w.cell? ((⟨b, off, none⟩ : Addr).add j) = some u := by
        intro j u hj
        rw [Addr.add_lit]
        exact hR.cellSome j u hj
      have hr := run_append_grow (P := P) w t ty e i z ht hi hz ⟨b, off, none⟩ n cap xs hR.1 holds ad m c news hl hnews (by omega) h63i (growslice_fits (by omega) hbytes)
      have hgr := grown cap (by omega)
      exact ⟨_, _, _, _, hr, hgr.1, hgr.2, .inr rfl, by simp, by simp⟩

theorem wp_append_row {o : Oper} {ac : Act} {K : Act → World → Prop} {Q : Exit → Act → World → Prop} (s y : Operand) (t : TypeId)
    (ho : o.op = .call { callee := .builtin .append, args := #[s, y], argTypes := #[t, t] })
    (e : TypeId) (i : TypeInfo) (z : Value) (size bytes : Nat) (ht : P.underlying t = some (.slice e)) (hi : P.info? e = some i) (hz : i.zero = some z)
    (hsize : i.size = size) (hby : i.bytes = bytes) (hzs : z.cells.size = size) (hsz : 0 < size)
    (a : Option Addr) (n cap : Nat) (own : List Nat) (xs : List Value) (hs : ac.eval s = .slice a n cap) (hR : Row w e size a n cap own xs)
    (x : Option Addr) (m c : Nat) (news : List Value) (hy : ac.eval y = .slice x m c) (hl : news.length = m * size) (hx : m = 0 ∨ ∃ ad, x = some ad ∧ ∀ j u, news[j]? = some u → w.cell? (ad.add j) = some u) (h1 : ∀ u ∈ news, u.oneCell' = true)
    (h63 : n + m ≤ maxLen) (hbytes : (n + m) * bytes ≤ 140737488355328)
    (h : ∀ a' cap' own' w', Row w' e size a' (n + m) cap' own' (xs ++ news) → Touch own w w' → (own' = own ∨ own' = [w.heap.size]) → (a = none → m = 0 → a' = none) → (0 < m → own' ≠ []) → K (ac.put o.dst (.slice a' (n + m) cap')) w') : o.wp P ac w K Q := by
  obtain ⟨a', cap', own', w', hr, h2, h3, h4, h5, h6⟩ := run_append_row (P := P) w t o.type e i z size bytes ht hi hz hsize hby hzs hsz a n cap own xs hR x m c news hl hx h1 h63 hbytes
  unfold Oper.wp execOp
  simp only [ho, resolve, invoke, builtin, Sem.run_bind, Sem.run_pure, Result.andThen_ok, List.map_toArray, List.map_cons, List.map_nil, hs, hy, hr]
  exact h a' cap' own' w' h2 h3 h4 h5 h6

theorem wpList_append_row {ops : Array Oper} {rest : List Oper} {o : Oper} {ac : Act} {Q : Exit → Act → World → Prop} (hgd : o.guard = none) (s y : Operand) (t : TypeId)
    (ho : o.op = .call { callee := .builtin .append, args := #[s, y], argTypes := #[t, t] })
    (e : TypeId) (i : TypeInfo) (z : Value) (size bytes : Nat) (ht : P.underlying t = some (.slice e)) (hi : P.info? e = some i) (hz : i.zero = some z)
    (hsize : i.size = size) (hby : i.bytes = bytes) (hzs : z.cells.size = size) (hsz : 0 < size)
    (a : Option Addr) (n cap : Nat) (own : List Nat) (xs : List Value) (hs : ac.eval s = .slice a n cap) (hR : Row w e size a n cap own xs)
    (x : Option Addr) (m c : Nat) (news : List Value) (hy : ac.eval y = .slice x m c) (hl : news.length = m * size) (hx : m = 0 ∨ ∃ ad, x = some ad ∧ ∀ j u, news[j]? = some u → w.cell? (ad.add j) = some u) (h1 : ∀ u ∈ news, u.oneCell' = true)
    (h63 : n + m ≤ maxLen) (hbytes : (n + m) * bytes ≤ 140737488355328)
    (h : ∀ a' cap' own' w', Row w' e size a' (n + m) cap' own' (xs ++ news) → Touch own w w' → (own' = own ∨ own' = [w.heap.size]) → (a = none → m = 0 → a' = none) → (0 < m → own' ≠ []) → wpList P ops Q rest (ac.put o.dst (.slice a' (n + m) cap')) w') : wpList P ops Q (o :: rest) ac w :=
  wpList_plain hgd fun _ hK => wp_append_row w s y t ho e i z size bytes ht hi hz hsize hby hzs hsz a n cap own xs hs hR x m c news hy hl hx h1 h63 hbytes fun a' cap' own' w' h2 h3 h4 h5 h6 => hK _ _ (h a' cap' own' w' h2 h3 h4 h5 h6)

theorem step_append_row {ops : Array Oper} {o : Oper} {ac : Act} {K : Act → World → Prop} {Q : Exit → Act → World → Prop} {E : Prop} (hgd : o.guard = none) (s y : Operand) (t : TypeId)
    (ho : o.op = .call { callee := .builtin .append, args := #[s, y], argTypes := #[t, t] })
    (e : TypeId) (i : TypeInfo) (z : Value) (size bytes : Nat) (ht : P.underlying t = some (.slice e)) (hi : P.info? e = some i) (hz : i.zero = some z)
    (hsize : i.size = size) (hby : i.bytes = bytes) (hzs : z.cells.size = size) (hsz : 0 < size)
    (a : Option Addr) (n cap : Nat) (own : List Nat) (xs : List Value) (hs : ac.eval s = .slice a n cap) (hR : Row w e size a n cap own xs)
    (x : Option Addr) (m c : Nat) (news : List Value) (hy : ac.eval y = .slice x m c) (hl : news.length = m * size) (hx : m = 0 ∨ ∃ ad, x = some ad ∧ ∀ j u, news[j]? = some u → w.cell? (ad.add j) = some u) (h1 : ∀ u ∈ news, u.oneCell' = true)
    (h63 : n + m ≤ maxLen) (hbytes : (n + m) * bytes ≤ 140737488355328)
    (h : ∀ a' cap' own' w', Row w' e size a' (n + m) cap' own' (xs ++ news) → Touch own w w' → (own' = own ∨ own' = [w.heap.size]) → (a = none → m = 0 → a' = none) → (0 < m → own' ≠ []) → K (ac.put o.dst (.slice a' (n + m) cap')) w') : if Region.wanted o (yielded ops ac.tmps) = true then Oper.wp P o ac w K Q else E := by
  have hw : Region.wanted o (yielded ops ac.tmps) = true := by simp [Region.wanted, hgd]
  rw [if_pos hw]
  exact wp_append_row w s y t ho e i z size bytes ht hi hz hsize hby hzs hsz a n cap own xs hs hR x m c news hy hl hx h1 h63 hbytes h
end

/-- A region that draws its order, whose first n operations only read and whose rest is one forced chain: behind the draw the world is a letter. -/
theorem region_tail {P : Program} {w : World} {id : Nat} {Q : Exit → Act → World → Prop} {a : Act} {l : List Oper} (n : Nat) (hm : P.follows .mixedOrders = true) (hB : Region.lexTailB .any l.toArray n = true)
    (h : ∀ w2, Touch [] w w2 → wpStill P l.toArray w2 (fun a' => wpList P l.toArray Q (l.drop n) a' w2) (l.take n) a) : (Code.region id l.toArray true).wp P Q a w :=
  wp_region_still_tail n hm hB (h _ ((Touch.refl [] w).drew))

/-- a float is stored (the kit has this for the other kinds). -/
theorem run_store_float {P : Program} {w : World} (a : Addr) (k : FloatKind) (x : Nat) (m : Mode) : (store a (.float k x) m).run P w = stored P w a (.float k x) m := run_store P w a _ m rfl
theorem run_equalIn_nilFunc {P : Program} {t : TypeId} {ps rs : Array TypeId} {v : Bool} (hu : P.underlying t = some (.func ps rs v)) (d : Nat) (w : World) : (Op.equalIn (d + 1) t .nilFunc .nilFunc).run P w = .ok true w := by
  simp [Op.equalIn, run_underlying hu]
theorem run_equalIn_func_nil {P : Program} {t : TypeId} {ps rs : Array TypeId} {v : Bool} (hu : P.underlying t = some (.func ps rs v)) (f : Fn) (a c : Array Value) (d : Nat) (w : World) : (Op.equalIn (d + 1) t (.func f a c) .nilFunc).run P w = .ok false w := by
  simp [Op.equalIn, run_underlying hu]
/-- a function value held against nil. -/
theorem run_eql_nilFunc {P : Program} {t : TypeId} {ps rs : Array TypeId} {v : Bool} (hu : P.underlying t = some (.func ps rs v)) (w : World) : (binOp .eql t .nilFunc .nilFunc).run P w = .ok (.bool true) w := by
  simp only [binOp]
  simp [Op.equal, Op.maxDepth, run_equalIn_nilFunc hu 9999 w]
theorem run_eql_func_nil {P : Program} {t : TypeId} {ps rs : Array TypeId} {v : Bool} (hu : P.underlying t = some (.func ps rs v)) (f : Fn) (a c : Array Value) (w : World) : (binOp .eql t (.func f a c) .nilFunc).run P w = .ok (.bool false) w := by
  simp only [binOp]
  simp [Op.equal, Op.maxDepth, run_equalIn_func_nil hu f a c 9999 w]
end Go.Proofs.YtodehmognjofhaaGreat
