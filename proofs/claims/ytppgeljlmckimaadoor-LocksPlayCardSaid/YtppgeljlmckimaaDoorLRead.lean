/-
  The scripts of those who ask, as they came in.
-/
import Derived.Test.YtppgeljlmckimaaDoorReadN
import Derived.Deep.Strs
namespace Go.Proofs.YtppgeljlmckimaaDoor
open Go.ChangeShapes Go.WideShapes Go.ChangeAt Go.RowKit

structure Asking where
  lt : Bool
  id : Int
  a : Option Addr
  n : Nat
  cap : Nat
  zs : List Int
  deriving Inhabited
structure AsksIn (w : World) (a : Option Addr) (n cap : Nat) (l : Nat → Asking) : Prop where
  cap_ : n ≤ cap
  max : cap ≤ 9223372036854775807
  at_ : 0 < n → ∃ b off, a = some ⟨b, off, none⟩ ∧ b < w.heap.size ∧ ∀ i, i < n → w.cell? ⟨b, off + i * 3, none⟩ = some (.bool (l i).lt) ∧ w.cell? ⟨b, off + i * 3 + 1, none⟩ = some (.int .i64 (l i).id) ∧ w.cell? ⟨b, off + i * 3 + 2, none⟩ = some (.slice (l i).a (l i).n (l i).cap)
  nums : ∀ i, i < n → Nums w .u64 (l i).a (l i).n (l i).cap (l i).zs
theorem AsksIn.touch {w w' : World} {a : Option Addr} {n cap : Nat} {l : Nat → Asking} (h : AsksIn w a n cap l) (t : Touch [] w w') : AsksIn w' a n cap l := by
  refine ⟨h.cap_, h.max, fun hn => ?_, fun i hi => (h.nums i hi).touch t⟩
  obtain ⟨b, off, h1, h2, h3⟩ := h.at_ hn
  refine ⟨b, off, h1, Nat.lt_of_lt_of_le h2 t.size, fun i hi => ?_⟩
  obtain ⟨k0, k1, k2⟩ := h3 i hi
  exact ⟨(t.cell (p := ⟨b, _, none⟩) h2 (by simp)).trans k0, (t.cell (p := ⟨b, _, none⟩) h2 (by simp)).trans k1, (t.cell (p := ⟨b, _, none⟩) h2 (by simp)).trans k2⟩

theorem cellsAsk : Tryd.prog.cellsOf 29 = 3 := by kernel_rfl
theorem cellsB : Tryd.prog.cellsOf 4 = 1 := by kernel_rfl
theorem cellsI : Tryd.prog.cellsOf 3 = 1 := by kernel_rfl
theorem cellsU : Tryd.prog.cellsOf 39 = 1 := by kernel_rfl
theorem cellsS : Tryd.prog.cellsOf 27 = 1 := by kernel_rfl

set_option maxRecDepth 100000 in
theorem read_asks {H : Type} {enc : TypeId × Value → H} {W : World} {base : Nat} {spare : Nat → Bool} {held : Bool} {a : Option Addr} {len cap : Nat} {d : DataW H} {ps : List MemPlace}
    (h : DataW.Trod enc Tryd.prog W base spare held 22 (.slice a len cap) d ps) : ∃ l, AsksIn W a len cap l := by
  obtain ⟨h1, h2, h3⟩ := read_slice Tryd.underlying22 h
  unfold maxLen at h2
  rcases Nat.eq_zero_or_pos len with h0 | h0
  · subst h0
    exact ⟨fun _ => default, h1, by omega, fun h => absurd h (by decide), fun i hi => absurd hi (by omega)⟩
  · obtain ⟨x, rfl, hx⟩ := h3 h0
    obtain ⟨b, off, spot⟩ := x
    have hspot : spot = none := by
      obtain ⟨n, cs, y, h4, h5⟩ := hx 0 h0
      rw [cellsAsk] at h4
      obtain ⟨-, hl, hc⟩ := World.cells?_some h4
      have h6 := hc 0 (by omega)
      match cs, hl with
      | [v0, v1, v2], _ => simpa [Addr.add] using World.cell?_spot h6
    subst hspot
    have each : ∀ i, i < len → ∃ c : Asking, W.cell? ⟨b, off + i * 3, none⟩ = some (.bool c.lt) ∧ W.cell? ⟨b, off + i * 3 + 1, none⟩ = some (.int .i64 c.id) ∧ W.cell? ⟨b, off + i * 3 + 2, none⟩ = some (.slice c.a c.n c.cap) ∧ Nums W .u64 c.a c.n c.cap c.zs := by
      intro i hi
      obtain ⟨n, cs, y, h4, h5⟩ := hx i hi
      rw [cellsAsk] at h4
      obtain ⟨-, hl, hc⟩ := World.cells?_some h4
      obtain ⟨y0, y1, y2, m, -, -, g0, g1, g2⟩ := Go.Deep.trod_struct3 Tryd.underlying29 h5
      match cs, hl with
      | [v0, v1, v2], _ =>
        simp only [cellsI, cellsB, cellsS, List.drop_zero, List.drop_succ_cons, List.take_succ_cons, List.take_zero] at g0 g1 g2
        obtain ⟨p, e0, -⟩ := DataW.trod_bool Tryd.underlying4 g0
        obtain ⟨q, e1, -, w1⟩ := DataW.trod_int Tryd.underlying3 g1
        simp only [List.cons.injEq, and_true] at e0 e1
        subst e0 e1
        have hs : ∃ a' n' c', v2 = .slice a' n' c' := by
          rcases DataW.trod_slice Tryd.underlying27 g2 with ⟨hcs, _⟩ | ⟨x, l, c, elems, rest, n, _, hcs, _⟩
          · exact ⟨_, _, _, by simpa using hcs⟩
          · exact ⟨_, _, _, by simpa using hcs⟩
        obtain ⟨a', n', c', rfl⟩ := hs
        obtain ⟨zs, hz⟩ := read_nums (a := a') (len := n') (cap := c') Tryd.underlying27 Tryd.underlying39 (by kernel_rfl) ⟨m, by simpa [Value.cells] using g2⟩
        have k0 := hc 0 (by omega)
        have k1 := hc 1 (by omega)
        have k2 := hc 2 (by omega)
        rw [Addr.add_lit, Addr.add_lit] at k0 k1 k2
        exact ⟨⟨p, q, a', n', c', zs⟩, by simpa using k0, by simpa using k1, by simpa using k2, hz.nums⟩
    obtain ⟨f, hf⟩ := Classical.axiomOfChoice (fun i : Fin len => each i.1 i.2)
    have hh0 := (hf ⟨0, h0⟩).1
    refine ⟨fun i => if h : i < len then f ⟨i, h⟩ else default, h1, by omega, fun _ => ⟨b, off, rfl, World.block_lt_of_cell? W _ hh0, fun i hi => ?_⟩, fun i hi => ?_⟩
    · obtain ⟨k0, k1, k2, -⟩ := hf ⟨i, hi⟩
      simp only [dif_pos hi]
      exact ⟨k0, k1, k2⟩
    · obtain ⟨-, -, -, k⟩ := hf ⟨i, hi⟩
      simp only [dif_pos hi]
      exact k
end Go.Proofs.YtppgeljlmckimaaDoor
