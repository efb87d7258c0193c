/-
  What a slice of numbers that came in is, for the walks.
-/
import Derived.Test.YtaendccnjiagiaaPLaw
namespace Go.Proofs.Ytaendccnjiagiaa
open Go.ChangeShapes Go.WideShapes Go.ChangeAt Go.RowKit

/-- numbers that fit their kind. -/
structure NumsIn (w : World) (k : IntKind) (a : Option Addr) (n cap : Nat) (zs : List Int) : Prop where
  nums : Nums w k a n cap zs
  wf : ∀ z ∈ zs, (Lit.int k z).wf = true

theorem read_nums {H : Type} {enc : TypeId × Value → H} {W : World} {base : Nat} {spare : Nat → Bool} {held : Bool} {T E : TypeId} {k : IntKind} {a : Option Addr} {len cap : Nat} {d : DataW H} {ps : List MemPlace}
    (hT : Try.prog.underlying T = some (.slice E)) (hE : Try.prog.underlying E = some (.int k)) (hc : Try.prog.cellsOf E = 1) (h : DataW.Trod enc Try.prog W base spare held T (.slice a len cap) d ps) : ∃ zs, NumsIn W k a len cap zs := by
  obtain ⟨fuel, hf⟩ := h
  rcases open_ints hT hE hc hf with ⟨hcs, _⟩ | ⟨x, l, c, zs, hcs, _, hl, hm, hz, _, hcell, hwz⟩
  · simp [Value.cells] at hcs
    obtain ⟨rfl, rfl, rfl⟩ := hcs
    exact ⟨[], ⟨rfl, Nat.le_refl _, by decide, fun h => absurd h (by decide)⟩, by simp⟩
  · simp [Value.cells] at hcs
    obtain ⟨rfl, rfl, rfl⟩ := hcs
    unfold maxLen at hm
    have hzl : len ≤ zs.length := by rw [hz]; split <;> omega
    refine ⟨zs.take len, ⟨by rw [List.length_take]; omega, hl, by omega, fun hn => ?_⟩, fun z hz' => hwz z (List.mem_of_mem_take hz')⟩
    obtain ⟨b, off, spot⟩ := x
    have h0 := hcell 0 (by omega)
    have hspot : spot = none := by simpa [Addr.add] using World.cell?_spot h0
    subst hspot
    refine ⟨b, off, rfl, World.block_lt_of_cell? W _ h0, fun i hi => ?_⟩
    have := hcell i (by omega)
    rw [Addr.add_lit] at this
    rw [this]
    simp [List.getD, List.getElem?_take, hi]
theorem wf_u64 {z : Int} (h : (Lit.int .u64 z).wf = true) : 0 ≤ z ∧ z < 18446744073709551616 := by
  simp [Lit.wf, IntKind.min, IntKind.max, IntKind.signed, IntKind.bits] at h; omega
theorem wf_u8 {z : Int} (h : (Lit.int .u8 z).wf = true) : 0 ≤ z ∧ z < 256 := by
  simp [Lit.wf, IntKind.min, IntKind.max, IntKind.signed, IntKind.bits] at h; omega
theorem wf_i64 {z : Int} (h : (Lit.int .i64 z).wf = true) : -9223372036854775808 ≤ z ∧ z ≤ 9223372036854775807 := by
  simp [Lit.wf, IntKind.min, IntKind.max, IntKind.signed, IntKind.bits] at h; omega

/-- what a slice that came in is: each element's cells read as one of its type. -/
theorem read_slice {H : Type} {enc : TypeId × Value → H} {P : Program} {W : World} {base : Nat} {spare : Nat → Bool} {held : Bool} {T E : TypeId} {a : Option Addr} {len cap : Nat} {d : DataW H} {ps : List MemPlace}
    (hT : P.underlying T = some (.slice E)) (h : DataW.Trod enc P W base spare held T (.slice a len cap) d ps) :
    len ≤ cap ∧ cap ≤ maxLen ∧ (0 < len → ∃ x, a = some x ∧ ∀ i, i < len → ∃ n cs y, W.cells? base (x.add (i * P.cellsOf E)) (P.cellsOf E) = some cs ∧ DataW.trod enc P W base spare held n E cs = some y) := by
  obtain ⟨fuel, hf⟩ := h
  rcases DataW.trod_slice hT hf with ⟨hcs, _⟩ | ⟨x, l, c, elems, rest, n, _, hcs, _, hb, hl, hm, hlen, hel, _, _⟩
  · simp [Value.cells] at hcs
    obtain ⟨rfl, rfl, rfl⟩ := hcs
    exact ⟨Nat.le_refl _, by decide, fun h => absurd h (by decide)⟩
  · simp [Value.cells] at hcs
    obtain ⟨rfl, rfl, rfl⟩ := hcs
    refine ⟨hl, hm, fun _ => ⟨x, rfl, fun i hi => ?_⟩⟩
    have := hel i hi
    rw [List.getElem?_eq_getElem (by omega), Option.bind_eq_some_iff] at this
    obtain ⟨cs, h1, h2⟩ := this
    exact ⟨n, cs, _, h1, h2⟩
theorem trod_float {H : Type} {enc : TypeId × Value → H} {P : Program} {W : World} {base : Nat} {spare : Nat → Bool} {held : Bool} {t : TypeId} {k : FloatKind} {n : Nat} {cs : List Value} {y : DataW H × List MemPlace} (ht : P.underlying t = some (.float k)) (h : DataW.trod enc P W base spare held n t cs = some y) :
    ∃ b, cs = [.float k b] ∧ (Lit.float k b).wf = true := by
  cases n with
  | zero => simp [DataW.trod] at h
  | succ n =>
    unfold DataW.trod at h
    rw [ht] at h
    split at h <;> simp_all
theorem wf_f64 {z : Nat} (h : (Lit.float .f64 z).wf = true) : z < 18446744073709551616 := by
  simpa [Lit.wf] using h

/-- A slice of floats, for reading. -/
structure Floats (w : World) (a : Option Addr) (n cap : Nat) (zs : List Nat) : Prop where
  len : zs.length = n
  cap_ : n ≤ cap
  max : cap ≤ 9223372036854775807
  at_ : 0 < n → ∃ b off, a = some ⟨b, off, none⟩ ∧ b < w.heap.size ∧ ∀ i, i < n → w.cell? ⟨b, off + i, none⟩ = some (.float .f64 (zs.getD i 0))
  wf : ∀ z ∈ zs, z < 18446744073709551616
theorem Floats.touch {w w' : World} {a : Option Addr} {n cap : Nat} {zs : List Nat} (h : Floats w a n cap zs) (t : Touch [] w w') : Floats w' a n cap zs := by
  refine ⟨h.len, h.cap_, h.max, fun hn => ?_, h.wf⟩
  obtain ⟨b, off, h1, h2, h3⟩ := h.at_ hn
  exact ⟨b, off, h1, Nat.lt_of_lt_of_le h2 t.size, fun i hi => (t.cell (p := ⟨b, off + i, none⟩) h2 (by simp)).trans (h3 i hi)⟩

theorem read_floats {H : Type} {enc : TypeId × Value → H} {W : World} {base : Nat} {spare : Nat → Bool} {held : Bool} {T E : TypeId} {a : Option Addr} {len cap : Nat} {d : DataW H} {ps : List MemPlace}
    (hT : Try.prog.underlying T = some (.slice E)) (hE : Try.prog.underlying E = some (.float .f64)) (hc : Try.prog.cellsOf E = 1) (h : DataW.Trod enc Try.prog W base spare held T (.slice a len cap) d ps) : ∃ zs, Floats W a len cap zs := by
  obtain ⟨h1, h2, h3⟩ := read_slice hT h
  unfold maxLen at h2
  rcases Nat.eq_zero_or_pos len with h0 | h0
  · subst h0
    exact ⟨[], rfl, h1, by omega, fun h => absurd h (by decide), by simp⟩
  · obtain ⟨x, rfl, hx⟩ := h3 h0
    have each : ∀ i, i < len → ∃ b, W.cell? (x.add i) = some (.float .f64 b) ∧ b < 18446744073709551616 := by
      intro i hi
      obtain ⟨n, cs, y, h4, h5⟩ := hx i hi
      rw [hc, Nat.mul_one] at h4
      obtain ⟨b, rfl, hb⟩ := trod_float hE h5
      exact ⟨b, cell_of_cells?_one h4, wf_f64 hb⟩
    obtain ⟨f, hf⟩ := Classical.axiomOfChoice (fun i : Fin len => each i.1 i.2)
    obtain ⟨b, off, spot⟩ := x
    have hh0 := (hf ⟨0, h0⟩).1
    have hspot : spot = none := by simpa [Addr.add] using World.cell?_spot hh0
    subst hspot
    refine ⟨List.ofFn f, by simp, h1, by omega, fun _ => ⟨b, off, rfl, World.block_lt_of_cell? W _ hh0, fun i hi => ?_⟩, ?_⟩
    · have := (hf ⟨i, hi⟩).1
      rw [Addr.add_lit] at this
      rw [this]
      simp [List.getD, hi]
    · intro z hz
      obtain ⟨i, rfl⟩ := List.mem_ofFn.1 hz
      exact (hf i).2
end Go.Proofs.Ytaendccnjiagiaa
