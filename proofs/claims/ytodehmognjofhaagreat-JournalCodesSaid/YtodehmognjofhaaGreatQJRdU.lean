/-
  The program's reader: numbers, what is left, its fault.
-/
import Derived.Test.YtodehmognjofhaaGreatQJGet
namespace Go.Proofs.YtodehmognjofhaaGreat
open Go.RowKit

theorem jU64_of {R : World → Prop} (hst : ∀ w w', R w → Touch [] w w' → R w') (w : World) (rb : Nat) (y : ByteArray) (hy : y.size ≤ 8)
    (C : Calls Tryz.prog 49 #[.pointer (some ⟨rb, 0, none⟩), .int .i64 8] w fun e w' => e = .returned (.string y) ∧ R w') :
    Calls Tryz.prog 48 #[.pointer (some ⟨rb, 0, none⟩)] w fun e w' => e = .returned (.int .u64 (leV (bsOf y) : Nat)) ∧ R w' := by
  have D := get64_of hst w rb 8 y hy C
  clear C
  go_enter Tryz.func48, Tryz.ntmps48
  go_wp2_with (go_at_call 86; refine D.mono ?_; clear D; rintro e w2 ⟨rfl, hR⟩)
  go_ret
  exact ⟨rfl, hR⟩
theorem jU32_of {R : World → Prop} (hst : ∀ w w', R w → Touch [] w w' → R w') (w : World) (rb : Nat) (y : ByteArray) (hy : y.size ≤ 4)
    (C : Calls Tryz.prog 49 #[.pointer (some ⟨rb, 0, none⟩), .int .i64 4] w fun e w' => e = .returned (.string y) ∧ R w') :
    Calls Tryz.prog 53 #[.pointer (some ⟨rb, 0, none⟩)] w fun e w' => e = .returned (.int .u32 (leV (bsOf y) : Nat)) ∧ R w' := by
  have D := get32_of hst w rb 4 y hy C
  clear C
  go_enter Tryz.func53, Tryz.ntmps53
  go_wp2_with (go_at_call 88; refine D.mono ?_; clear D; rintro e w2 ⟨rfl, hR⟩)
  go_ret
  exact ⟨rfl, hR⟩
theorem jU16_of {R : World → Prop} (hst : ∀ w w', R w → Touch [] w w' → R w') (w : World) (rb : Nat) (y : ByteArray) (hy : y.size ≤ 2)
    (C : Calls Tryz.prog 49 #[.pointer (some ⟨rb, 0, none⟩), .int .i64 2] w fun e w' => e = .returned (.string y) ∧ R w') :
    Calls Tryz.prog 50 #[.pointer (some ⟨rb, 0, none⟩)] w fun e w' => e = .returned (.int .u16 (leV (bsOf y) : Nat)) ∧ R w' := by
  have D := get16_of hst w rb 2 y hy C
  clear C
  go_enter Tryz.func50, Tryz.ntmps50
  go_wp2_with (go_at_call 87; refine D.mono ?_; clear D; rintro e w2 ⟨rfl, hR⟩)
  go_ret
  exact ⟨rfl, hR⟩
theorem jrest_any (w : World) (rb : Nat) (s : ByteArray) (a : Nat) (f : Int) (ha : a ≤ s.size) (hR : At w rb 142 (rdJ s a f)) :
    Calls Tryz.prog 51 #[.pointer (some ⟨rb, 0, none⟩)] w fun e w' => e = .returned (.string (s.extract a s.size)) ∧ Touch [] w w' := by
  obtain ⟨c0, c1, c2, c3⟩ := rdc hR
  have j1 : (a : Int) ≤ (s.size : Int) := by omega
  have j2 : (0 : Int) ≤ (a : Int) := by omega
  clear hR
  go_enter Tryz.func51, Tryz.ntmps51
  go_wp2
  go_quiet (fail)
  go_wp2
  go_ret
  exact ⟨rfl, (Touch.refl _ w).drewN _⟩
theorem jfault_any (w : World) (rb : Nat) (s : ByteArray) (a f : Int) (hR : At w rb 142 (rdJ s a f)) :
    Calls Tryz.prog 52 #[.pointer (some ⟨rb, 0, none⟩)] w fun e w' => e = .returned (.int .i64 f) ∧ Touch [] w w' := by
  obtain ⟨c0, c1, c2, c3⟩ := rdc hR
  clear hR
  go_enter Tryz.func52, Tryz.ntmps52
  go_wp2
  go_ret
  exact ⟨rfl, Touch.refl _ w⟩
end Go.Proofs.YtodehmognjofhaaGreat
