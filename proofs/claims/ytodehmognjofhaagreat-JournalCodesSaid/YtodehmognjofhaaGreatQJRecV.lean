/-
  A record as a value, its blocks in memory.
-/
import Derived.Test.YtodehmognjofhaaGreatQJSpec
import Derived.Test.YtodehmognjofhaaGreatQNA
namespace Go.Proofs.YtodehmognjofhaaGreat
open Go.RowKit

/-- v is the record R in w. -/
def RecV (w : World) (v : Value) (R : RecJ) : Prop := ∃ a n cap, v = .agg #[.int .u64 (R.ep : Int), .string R.root, .string R.sum, .slice a n cap] ∧ Nums w .i64 a n cap R.bl
theorem RecV.touch {w w' : World} {v : Value} {R : RecJ} (h : RecV w v R) (t : Touch [] w w') : RecV w' v R := by
  obtain ⟨a, n, cap, h1, h2⟩ := h
  exact ⟨a, n, cap, h1, h2.touch t⟩
theorem RecV.no (w : World) : RecV w (.agg #[.int .u64 0, .string ByteArray.empty, .string ByteArray.empty, .slice none 0 0]) noR :=
  ⟨none, 0, 0, rfl, ⟨rfl, Nat.le_refl _, by decide, fun h => absurd h (by decide)⟩⟩
end Go.Proofs.YtodehmognjofhaaGreat
