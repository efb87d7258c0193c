/-
  cofferlaw26.works, by the kernel.
-/
import Derived.Test.YteblflebjhncbaaGreatDoorE25
import Derived.Test.YteblflebjhncbaaGreatDoorLay
namespace Go.Proofs.YteblflebjhncbaaGreatDoor
open Go.RowKit
set_option maxRecDepth 1000000
theorem extra105 : Builder.Extra Tryz.prog lays105_ren where
  sizeBuilder := by kernel_rfl
  liesBuilder := by kernel_rfl
  t5 := Tryz.underlying5
  a5 := Tryz.isAgg5
  z5 := Tryz.sizeOf5
  v5 := Tryz.zeroValue5
  infoByte := by kernel_rfl
  cellsByte := by kernel_rfl
  sizeByte := by kernel_rfl
  neB5 := by decide
theorem repeat_any (s : ByteArray) (c : Nat) (w : World) (hc : c ≤ 9223372036854775807) (hl : s.size * c ≤ 140737488355328) :
    Calls Tryz.prog 82 #[.string s, .int .i64 c] w fun e w' => e = .returned (.string ⟨(Lib.repeatL s.data.toList c).toArray⟩) ∧ Below w.heap.size w w' :=
  Any.strings_Repeat lays105 extra105 s c w hc hl
noncomputable def env0 : Env := envOf Tryz.prog
theorem envOk : EnvOk Tryz.prog env0 := envOf_ok _ (by kernel_rfl) (by kernel_rfl)
noncomputable def I0 : CalF := orI 82 repI fun _ _ _ _ => none
theorem I0_ok [Orig] : FnOk Tryz.prog I0 := orI_ok (repI_ok repeat_any) (noI_ok _)
theorem run_works : trueR (callE' env0 I0 100000 8 [] .leaf 0) = true := by decide +kernel
theorem works_any (w : World) : Calls Tryz.prog 8 #[] w fun e w' => e = .returned (.bool true) ∧ Touch [] w w' := closed_true envOk (fun [Orig] => I0_ok) run_works w
end Go.Proofs.YteblflebjhncbaaGreatDoor
