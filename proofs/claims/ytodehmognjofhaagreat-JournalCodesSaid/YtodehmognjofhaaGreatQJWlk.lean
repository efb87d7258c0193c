/-
  JournalCodes: the walk, for what came in.
-/
import Derived.Test.YtodehmognjofhaaGreatQJLaw
import Derived.Test.YtodehmognjofhaaGreatQJRead
namespace Go.Proofs.YtodehmognjofhaaGreat.JournalCodes
open Go.RowKit

theorem walk (v : Value) (R : RecJ) (s : ByteArray) (w : World) (h : RecIn w v R) (_ : s.size ≤ maxLen) : Calls Tryz.prog 5 #[v, .string s] w fun e w' => e = .returned (.bool true) ∧ Below w.heap.size w w' :=
  (walk0 w v R s h.v h.ep).mono fun _ _ h => ⟨h.1, h.2.toBelow (Nat.le_refl _) (by simp)⟩
end Go.Proofs.YtodehmognjofhaaGreat.JournalCodes
