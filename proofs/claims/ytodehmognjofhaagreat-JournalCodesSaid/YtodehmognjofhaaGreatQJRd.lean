/-
  The program's reader of bytes.
-/
import Derived.Test.YtodehmognjofhaaGreatQJPut
namespace Go.Proofs.YtodehmognjofhaaGreat
open Go.RowKit

theorem touch_dset (w : World) (n rb o : Nat) (v : Value) : Touch [rb] w ((w.drewN n).setCell ⟨rb, o, none⟩ v) := ((Touch.refl [rb] w).drewN n).setCell ⟨rb, o, none⟩ (.inl (by simp)) v
def rdJ (s : ByteArray) (a f : Int) : List Value := [.string s, .int .i64 a, .int .i64 f, .bool true]
theorem jnew_any (w : World) (s : ByteArray) : Calls Tryz.prog 47 #[.string s] w fun e w' => ∃ rb, e = .returned (.pointer (some ⟨rb, 0, none⟩)) ∧ w.heap.size ≤ rb ∧ Touch [] w w' ∧ At w' rb 142 (rdJ s 0 0) := by
  go_enter Tryz.func47, Tryz.ntmps47
  go_wp2
  go_ret
  exact ⟨_, rfl, Nat.le_refl _, (Touch.refl [] w).alloc _, At.new' w _ (by kernel_rfl)⟩
section
variable {w : World} {rb : Nat} {s : ByteArray} {a f : Int} (hR : At w rb 142 (rdJ s a f))
include hR
theorem rdc : w.cell? ⟨rb, 0, none⟩ = some (.string s) ∧ w.cell? ⟨rb, 1, none⟩ = some (.int .i64 a) ∧ w.cell? ⟨rb, 2, none⟩ = some (.int .i64 f) ∧ w.cell? ⟨rb, 3, none⟩ = some (.bool true) := ⟨hR.cell 0, hR.cell 1, hR.cell 2, hR.cell 3⟩
end
set_option maxRecDepth 100000 in
theorem jbytes_bad (w : World) (rb : Nat) (s : ByteArray) (a f n : Int) (hf : f ≠ 0) (hR : At w rb 142 (rdJ s a f)) :
    Calls Tryz.prog 49 #[.pointer (some ⟨rb, 0, none⟩), .int .i64 n] w fun e w' => e = .returned (.string ByteArray.empty) ∧ w' = w := by
  obtain ⟨c0, c1, c2, c3⟩ := rdc hR
  have hfb : (f != 0) = true := by simpa using hf
  clear hR
  go_enter Tryz.func49, Tryz.ntmps49
  go_wp2
  go_ret
  exact ⟨rfl, rfl⟩
set_option maxRecDepth 100000 in
theorem jbytes_short (w : World) (rb : Nat) (s : ByteArray) (a : Nat) (n : Int) (hn : 0 ≤ n) (ha : a ≤ s.size) (hs : s.size < 1099511627776) (hl : (s.size : Int) - a < n) (hR : At w rb 142 (rdJ s a 0)) :
    Calls Tryz.prog 49 #[.pointer (some ⟨rb, 0, none⟩), .int .i64 n] w fun e w' => e = .returned (.string ByteArray.empty) ∧ Touch [rb] w w' ∧ At w' rb 142 (rdJ s a 50) := by
  obtain ⟨c0, c1, c2, c3⟩ := rdc hR
  have fr := fun o => hR.frozen o
  have j1 : IntKind.i64.wrap ((s.size : Int) - (a : Int)) = (s.size : Int) - (a : Int) := IntWalk.i64_in _ (by omega)
  have j2 : ¬ n < 0 := by omega
  have HR := Lib.hid hR
  clear hR
  go_enter Tryz.func49, Tryz.ntmps49
  go_wp2
  go_quiet (fail)
  go_wp2
  go_ret
  exact ⟨rfl, touch_dset w _ rb _ _, (show At (w.drewN _) _ _ _ from HR.out).set 2 (.int .i64 50)⟩
set_option maxRecDepth 100000 in
theorem jbytes_ok (w : World) (rb : Nat) (s : ByteArray) (a n : Nat) (hs : s.size < 1099511627776) (hl : a + n ≤ s.size) (hR : At w rb 142 (rdJ s a 0)) :
    Calls Tryz.prog 49 #[.pointer (some ⟨rb, 0, none⟩), .int .i64 (n : Int)] w fun e w' => e = .returned (.string (s.extract a (a + n))) ∧ Touch [rb] w w' ∧ At w' rb 142 (rdJ s ((a + n : Nat) : Int) 0) := by
  obtain ⟨c0, c1, c2, c3⟩ := rdc hR
  have fr := fun o => hR.frozen o
  have j1 : IntKind.i64.wrap ((s.size : Int) - (a : Int)) = (s.size : Int) - (a : Int) := IntWalk.i64_in _ (by omega)
  have j2 : ¬ (n : Int) < 0 := by omega
  have j3 : ¬ (s.size : Int) - (a : Int) < (n : Int) := by omega
  have j4 : IntKind.i64.wrap ((a : Int) + (n : Int)) = ((a + n : Nat) : Int) := by rw [IntWalk.i64_in _ (by omega)]; omega
  have j5 : IntKind.i64.wrap (((a + n : Nat) : Int) - (n : Int)) = (a : Int) := by rw [IntWalk.i64_in _ (by omega)]; omega
  have j6 : (a : Int) ≤ ((a + n : Nat) : Int) := by omega
  have j7 : ((a + n : Nat) : Int) ≤ (s.size : Int) := by omega
  have j8 : (0 : Int) ≤ (a : Int) := by omega
  have HR := Lib.hid hR
  clear hR
  go_enter Tryz.func49, Tryz.ntmps49
  go_wp2
  go_quiet (fail)
  go_wp2
  go_quiet (fail)
  go_wp2
  go_ret
  exact ⟨rfl, (touch_dset w _ rb _ _).drewN _, (show At (w.drewN _) _ _ _ from HR.out).set 1 (.int .i64 ((a + n : Nat) : Int))⟩
end Go.Proofs.YtodehmognjofhaaGreat
