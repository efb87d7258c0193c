/-
  ServerNone, by the kernel: for any number, text and float.
-/
import Derived.Test.YtpbikmlfhipckaaGreatDoorQEF
import Derived.Test.YtpbikmlfhipckaaGreatDoorQNSrvW
namespace Go.Proofs.YtpbikmlfhipckaaGreatDoor.ServerNone
open Go.RowKit
set_option maxRecDepth 100000

noncomputable def Ib : CalF := orI 4 yesI I0
theorem Ib_ok [Orig] : FnOk Tryz.prog Ib := orI_ok (yesI_ok works28_any) I0_ok
theorem run_short : trueR (callE' env0 Ib 100000 3 (symL [.int .i64, .str, .any] 0) .leaf 3) = true := by decide +kernel
theorem long (i : Int) (s : ByteArray) (x : Nat) (w : World) (h : 16384 < s.size) : Calls Tryz.prog 3 #[.int .i64 i, .string s, .float .f64 x] w fun e w' => e = .returned (.bool true) ∧ Below w.heap.size w w' := by
  have hb : (16384 : Int) < (s.size : Int) := by omega
  have hb2 : ¬ (s.size : Int) ≤ 16384 := by omega
  go_enter Tryz.func3, Tryz.ntmps3
  go_wp2_with (go_at_call 4; refine (works28_any _).mono ?_; rintro e w1 ⟨rfl, t1⟩)
  go_ret
  exact ⟨rfl, t1.toBelow (Nat.le_refl _) (by simp)⟩
theorem walk (i : Int) (s : ByteArray) (x : Nat) (w : World) (hi : (Lit.int .i64 i).wf = true) (_ : s.size ≤ maxLen) (_ : (Lit.float .f64 x).wf = true) : Calls Tryz.prog 3 #[.int .i64 i, .string s, .float .f64 x] w fun e w' => e = .returned (.bool true) ∧ Below w.heap.size w w' := by
  by_cases h : 16384 < s.size
  · exact long i s x w h
  · refine (n_run envOk w (I := Ib) (fun [Orig] _ => Ib_ok) [.int .i64, .str, .any] (vs := [.int .i64 i, .string s, .float .f64 x]) run_short ⟨is_i64 hi, is_str (by omega), rfl, trivial⟩).mono ?_
    rintro e w' ⟨h1, h2⟩
    exact ⟨h1, h2.toBelow (Nat.le_refl _) (by simp)⟩
end Go.Proofs.YtpbikmlfhipckaaGreatDoor.ServerNone
