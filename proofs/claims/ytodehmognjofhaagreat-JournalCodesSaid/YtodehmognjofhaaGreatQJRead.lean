/-
  What a record that came in is.
-/
import Derived.Test.YtodehmognjofhaaGreatQJRecV
import Derived.Test.YtodehmognjofhaaGreatQReadN
import Derived.Lib.SmallJoins
import Derived.Deep.Strs
namespace Go.Proofs.YtodehmognjofhaaGreat
open Go.ChangeShapes Go.WideShapes Go.ChangeAt Go.RowKit Go.Joins

/-- a record that came in. -/
structure RecIn (w : World) (v : Value) (R : RecJ) : Prop where
  v : RecV w v R
  ep : R.ep < 18446744073709551616
theorem cellsRec : Tryz.prog.cellsOf 40 = 4 := by kernel_rfl
theorem cellsU : Tryz.prog.cellsOf 22 = 1 := by kernel_rfl
theorem cellsT : Tryz.prog.cellsOf 9 = 1 := by kernel_rfl
theorem cellsS : Tryz.prog.cellsOf 38 = 1 := by kernel_rfl
set_option maxRecDepth 100000 in
theorem read_rec {H : Type} {enc : TypeId × Value → H} {W : World} {base base2 : Nat} {spare : Nat → Bool} {held : Bool} {v : Value} {d : DataW H} {ps : List MemPlace}
    (hv : Value.okWide Tryz.prog W .any base2 40 v) (h : DataW.Trod enc Tryz.prog W base spare held 40 v d ps) : ∃ R, RecIn W v R := by
  obtain ⟨cs, rfl, hsz⟩ := okWide_struct Tryz.underlying40 hv
  rw [cellsRec] at hsz
  obtain ⟨v0, v1, v2, v3, rfl⟩ := array4 hsz
  obtain ⟨fuel, hf⟩ := h
  have hf' : DataW.trod enc Tryz.prog W base spare held fuel 40 [v0, v1, v2, v3] = some (d, ps) := hf
  obtain ⟨y0, y1, y2, y3, m, -, -, g0, g1, g2, g3⟩ := trod_struct4 Tryz.underlying40 hf'
  simp only [cellsU, cellsT, cellsS, List.drop_zero, List.drop_succ_cons, List.take_succ_cons, List.take_zero] at g0 g1 g2 g3
  obtain ⟨p, e0, -, w0⟩ := DataW.trod_int Tryz.underlying22 g0
  obtain ⟨s1, e1, -, w1⟩ := DataW.trod_string Tryz.underlying9 g1
  obtain ⟨s2, e2, -, w2⟩ := DataW.trod_string Tryz.underlying9 g2
  simp only [List.cons.injEq, and_true] at e0 e1 e2
  subst e0 e1 e2
  have hs : ∃ a' n' c', v3 = .slice a' n' c' := by
    rcases DataW.trod_slice Tryz.underlying38 g3 with ⟨hcs, _⟩ | ⟨x, l, c, elems, rest, n, _, hcs, _⟩
    · exact ⟨_, _, _, by simpa using hcs⟩
    · exact ⟨_, _, _, by simpa using hcs⟩
  obtain ⟨a', n', c', rfl⟩ := hs
  obtain ⟨zs, hz⟩ := read_nums (a := a') (len := n') (cap := c') Tryz.underlying38 Tryz.underlying3 (by kernel_rfl) ⟨m, by simpa [Value.cells] using g3⟩
  have wf := wf_u64 w0
  obtain ⟨q, rfl⟩ : ∃ q : Nat, p = (q : Int) := ⟨p.toNat, by omega⟩
  exact ⟨⟨q, s1, s2, zs⟩, ⟨a', n', c', rfl, hz.nums⟩, by simp only; omega⟩
end Go.Proofs.YtodehmognjofhaaGreat
