/-
  StoreNil, by the kernel: for any number and text.
-/
import Derived.Test.YtbeeeafjjkghgaaGreatQED
import Derived.Test.YtbeeeafjjkghgaaGreatQNStr4
namespace Go.Proofs.YtbeeeafjjkghgaaGreat.StoreNil
open Go.RowKit
set_option maxRecDepth 100000

noncomputable def Ib : CalF := orf 29 yesI In
theorem Ib_ok [Orig] : FnOk Tryz.prog Ib := orf_ok (yesI_ok alive12_any) In_ok
theorem run_short : trueR (callE' env0 Ib 100000 5 [.sym (.int .i64) 0, .sym .str 1] .leaf 2) = true := by decide +kernel
theorem long (i : Int) (s : ByteArray) (w : World) (h : 4096 < s.size) : Calls Tryz.prog 5 #[.int .i64 i, .string s] w fun e w' => e = .returned (.bool true) ∧ Below w.heap.size w w' := by
  have hb : (4096 : Int) < (s.size : Int) := by omega
  have hb2 : ¬ (s.size : Int) ≤ 4096 := by omega
  go_enter Tryz.func5, Tryz.ntmps5
  go_wp2_with (go_at_call 29; refine (alive12_any _).mono ?_; rintro e w1 ⟨rfl, t1⟩)
  go_ret
  exact ⟨rfl, t1.toBelow (Nat.le_refl _) (by simp)⟩
theorem walk (i : Int) (s : ByteArray) (w : World) (hi : (Lit.int .i64 i).wf = true) (_ : s.size ≤ maxLen) : Calls Tryz.prog 5 #[.int .i64 i, .string s] w fun e w' => e = .returned (.bool true) ∧ Below w.heap.size w w' := by
  by_cases h : 4096 < s.size
  · exact long i s w h
  · exact two_run envOk (fun [Orig] => Ib_ok) run_short (is_i64 hi) (is_str (by omega)) w
end Go.Proofs.YtbeeeafjjkghgaaGreat.StoreNil
