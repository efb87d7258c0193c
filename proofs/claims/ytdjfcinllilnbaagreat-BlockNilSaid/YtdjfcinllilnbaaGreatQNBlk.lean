/-
  BlockNil, by the kernel: for any number and text.
-/
import Derived.Test.YtdjfcinllilnbaaGreatQED
import Derived.Test.YtdjfcinllilnbaaGreatQNRun9
namespace Go.Proofs.YtdjfcinllilnbaaGreat.BlockNil
open Go.RowKit
set_option maxRecDepth 100000

noncomputable def Ib : CalF := orI 7 yesI I0
theorem Ib_ok [Orig] : FnOk Tryz.prog Ib := orI_ok (yesI_ok alive09_any) I0_ok
theorem run_short : trueR (callE' env0 Ib 100000 3 [.sym (.int .i64) 0, .sym .str 1] .leaf 2) = true := by decide +kernel
theorem long (i : Int) (s : ByteArray) (w : World) (h : 4096 < s.size) : Calls Tryz.prog 3 #[.int .i64 i, .string s] w fun e w' => e = .returned (.bool true) ∧ Below w.heap.size w w' := by
  have hb : (4096 : Int) < (s.size : Int) := by omega
  have hb2 : ¬ (s.size : Int) ≤ 4096 := by omega
  go_enter Tryz.func3, Tryz.ntmps3
  go_wp2_with (go_at_call 7; refine (alive09_any _).mono ?_; rintro e w1 ⟨rfl, t1⟩)
  go_ret
  exact ⟨rfl, t1.toBelow (Nat.le_refl _) (by simp)⟩
theorem walk (i : Int) (s : ByteArray) (w : World) (hi : (Lit.int .i64 i).wf = true) (_ : s.size ≤ maxLen) : Calls Tryz.prog 3 #[.int .i64 i, .string s] w fun e w' => e = .returned (.bool true) ∧ Below w.heap.size w w' := by
  by_cases h : 4096 < s.size
  · exact long i s w h
  · exact two_run envOk (fun [Orig] => Ib_ok) run_short (is_i64 hi) (is_str (by omega)) w
end Go.Proofs.YtdjfcinllilnbaaGreat.BlockNil
