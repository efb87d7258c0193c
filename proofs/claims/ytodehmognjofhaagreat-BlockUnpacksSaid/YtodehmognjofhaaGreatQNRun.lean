/-
  Runs by the kernel: the digest, the cipher, the tags and strings.Repeat are met by their contracts.
-/
import Derived.Test.YtodehmognjofhaaGreatQED
import Derived.Test.YtodehmognjofhaaGreatQNInt
import Derived.Test.YtodehmognjofhaaGreatQNLay
namespace Go.Proofs.YtodehmognjofhaaGreat
open Go.RowKit
set_option maxRecDepth 1000000
theorem extra105 : Builder.Extra Tryz.prog lays105_ren where
  sizeBuilder := by kernel_rfl
  liesBuilder := by kernel_rfl
  t5 := Tryz.underlying5
  a5 := Tryz.isAgg5
  z5 := Tryz.sizeOf5
  v5 := Tryz.zeroValue5
  infoByte := by kernel_rfl
  cellsByte := by kernel_rfl
  sizeByte := by kernel_rfl
  neB5 := by decide
theorem repeat_any (s : ByteArray) (c : Nat) (w : World) (hc : c ≤ 9223372036854775807) (hl : s.size * c ≤ 140737488355328) :
    Calls Tryz.prog 148 #[.string s, .int .i64 c] w fun e w' => e = .returned (.string ⟨(Lib.repeatL s.data.toList c).toArray⟩) ∧ Below w.heap.size w w' :=
  Any.strings_Repeat lays105 extra105 s c w hc hl
theorem extra156 : Builder.Extra Tryz.prog lays156_ren where
  sizeBuilder := by kernel_rfl
  liesBuilder := by kernel_rfl
  t5 := Tryz.underlying5
  a5 := Tryz.isAgg5
  z5 := Tryz.sizeOf5
  v5 := Tryz.zeroValue5
  infoByte := by kernel_rfl
  cellsByte := by kernel_rfl
  sizeByte := by kernel_rfl
  neB5 := by decide
theorem join_ok : JoinOk Tryz.prog 85 :=
  ⟨fun a c sep w => Any.strings_Join_none lays156 extra156 a c sep w, fun bk o c x sep w h => Any.strings_Join_one lays156 extra156 bk o c x sep w h,
    fun bk o c xs sep w h1 h2 h3 h4 h5 h6 => Any.strings_Join_many lays156 extra156 bk o c xs sep w h1 h2 h3 h4 h5 h6⟩
noncomputable def I0 : CalF := orI 148 repI (orI 85 joinI cryI)
theorem I0_ok [Orig] : FnOk Tryz.prog I0 := orI_ok (repI_ok repeat_any) (orI_ok (joinI_ok join_ok) cryI_ok)
end Go.Proofs.YtodehmognjofhaaGreat
