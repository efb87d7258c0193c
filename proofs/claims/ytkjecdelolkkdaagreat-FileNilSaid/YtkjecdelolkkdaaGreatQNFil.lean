/-
  FileNil, by the kernel: for any path and number.
-/
import Derived.Test.YtkjecdelolkkdaaGreatQED
import Derived.Test.YtkjecdelolkkdaaGreatQNFilE
namespace Go.Proofs.YtkjecdelolkkdaaGreat.FileNil
open Go.RowKit
set_option maxRecDepth 100000

noncomputable def Ib : CalF := orf 9 yesI Is
theorem Ib_ok [Orig] : FnOk Tryz.prog Ib := orf_ok (yesI_ok alive16_any) Is_ok
theorem run_all : trueR (callE' env0 Ib 100000 3 [.sym (.int .u64) 0, .sym (.int .i64) 1] .leaf 2) = true := by decide +kernel
theorem walk (p n : Int) (w : World) (hp : (Lit.int .u64 p).wf = true) (hn : (Lit.int .i64 n).wf = true) : Calls Tryz.prog 3 #[.int .u64 p, .int .i64 n] w fun e w' => e = .returned (.bool true) ∧ Below w.heap.size w w' :=
  two_run envOk (fun [Orig] => Ib_ok) run_all (is_u64 hp) (is_i64 hn) w
end Go.Proofs.YtkjecdelolkkdaaGreat.FileNil
