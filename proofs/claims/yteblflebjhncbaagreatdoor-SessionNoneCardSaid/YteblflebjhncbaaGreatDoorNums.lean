/-
  Lists of numbers, for reading: those that came in, or that a call has told.
-/
import Derived.Test.YteblflebjhncbaaGreatDoorKit
namespace Go.Proofs.YteblflebjhncbaaGreatDoor
open Go.RowKit

/-- A slice of numbers, for reading. -/
structure Nums (w : World) (k : IntKind) (a : Option Addr) (n cap : Nat) (zs : List Int) : Prop where
  len : zs.length = n
  cap_ : n ≤ cap
  max : cap ≤ 9223372036854775807
  at_ : 0 < n → ∃ b off, a = some ⟨b, off, none⟩ ∧ b < w.heap.size ∧ ∀ i, i < n → w.cell? ⟨b, off + i, none⟩ = some (.int k (zs.getD i 0))
theorem Nums.touch {w w' : World} {k : IntKind} {a : Option Addr} {n cap : Nat} {zs : List Int} (h : Nums w k a n cap zs) (t : Touch [] w w') : Nums w' k a n cap zs := by
  refine ⟨h.len, h.cap_, h.max, fun hn => ?_⟩
  obtain ⟨b, off, h1, h2, h3⟩ := h.at_ hn
  exact ⟨b, off, h1, Nat.lt_of_lt_of_le h2 t.size, fun i hi => (t.cell (p := ⟨b, off + i, none⟩) h2 (by simp)).trans (h3 i hi)⟩
theorem Nums.ofRow {w : World} {e : TypeId} {k : IntKind} {a : Option Addr} {n cap : Nat} {own : List Nat} {zs : List Int} (h : Row w e 1 a n cap own (zs.map (Value.int k))) : Nums w k a n cap zs := by
  have hl : zs.length = n := by have := h.1; simpa using this
  refine ⟨hl, h.2.1, by have := h.2.2.1; unfold maxLen at this; omega, fun hn => ?_⟩
  obtain ⟨b, off, cur, rfl, rfl, hg, -⟩ := h.form (by have := h.2.1; omega)
  refine ⟨b, off, rfl, h.lt b (by simp), fun i hi => h.cellSome i _ ?_⟩
  rw [List.getElem?_map, List.getElem?_eq_getElem (by omega)]
  simp [List.getD, List.getElem?_eq_getElem (show i < zs.length by omega)]
theorem Nums.src {w : World} {k : IntKind} {a : Option Addr} {n cap : Nat} {zs : List Int} (h : Nums w k a n cap zs) : n = 0 ∨ ∃ ad, a = some ad ∧ ∀ j u, (zs.map (Value.int k))[j]? = some u → w.cell? (ad.add j) = some u := by
  rcases Nat.eq_zero_or_pos n with h0 | h0
  · exact .inl h0
  · obtain ⟨b, off, rfl, -, hb⟩ := h.at_ h0
    refine .inr ⟨_, rfl, fun j u hj => ?_⟩
    rw [List.getElem?_map] at hj
    obtain ⟨z, hz, rfl⟩ := Option.map_eq_some_iff.1 hj
    obtain ⟨hlt, hz'⟩ := List.getElem?_eq_some_iff.1 hz
    rw [Addr.add_lit, hb j (by rw [← h.len]; exact hlt)]
    simp [List.getD, hz]
theorem Nums.some {w : World} {k : IntKind} {a : Option Addr} {n cap : Nat} {zs : List Int} (h : Nums w k a n cap zs) {i : Nat} (hi : i < n) : zs[i]? = some (zs.getD i 0) := by
  have := h.len
  simp [List.getD, List.getElem?_eq_getElem (show i < zs.length by omega)]
theorem Row.one {w : World} {e : TypeId} {k : IntKind} {b off n cap : Nat} {own : List Nat} {zs : List Int} (h : Row w e 1 (some ⟨b, off, none⟩) n cap own (zs.map (Value.int k))) (i : Nat) (hi : i < n) : w.cell? ⟨b, off + i, none⟩ = some (.int k (zs.getD i 0)) := by
  have hl : zs.length = n := by have := h.1; simpa using this
  refine h.cellSome i _ ?_
  rw [List.getElem?_map, List.getElem?_eq_getElem (by omega)]
  simp [List.getD, List.getElem?_eq_getElem (show i < zs.length by omega)]
end Go.Proofs.YteblflebjhncbaaGreatDoor
