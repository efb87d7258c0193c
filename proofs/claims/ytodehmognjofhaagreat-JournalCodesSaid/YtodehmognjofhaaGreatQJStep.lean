/-
  The program's reader, step by step, whatever is left.
-/
import Derived.Test.YtodehmognjofhaaGreatQJRdU
namespace Go.Proofs.YtodehmognjofhaaGreat
open Go.RowKit

def stA (s : ByteArray) (a : Nat) (f : Int) (n : Nat) : Nat := if f = 0 ∧ a + n ≤ s.size then a + n else a
def stF (s : ByteArray) (a : Nat) (f : Int) (n : Nat) : Int := if f = 0 then (if a + n ≤ s.size then 0 else 50) else f
def stY (s : ByteArray) (a : Nat) (f : Int) (n : Nat) : ByteArray := if f = 0 ∧ a + n ≤ s.size then s.extract a (a + n) else ByteArray.empty
theorem stA_le {s : ByteArray} {a : Nat} (f : Int) (n : Nat) (h : a ≤ s.size) : stA s a f n ≤ s.size := by unfold stA; split <;> omega
theorem stY_size (s : ByteArray) (a : Nat) (f : Int) (n : Nat) : (stY s a f n).size ≤ n := by
  unfold stY
  split
  · rw [ByteArray.size_extract]; omega
  · exact Nat.zero_le _
/-- the reader as it stands behind a call. -/
def RdAt (w : World) (rb : Nat) (s : ByteArray) (a : Nat) (f : Int) (w' : World) : Prop := Touch [rb] w w' ∧ At w' rb 142 (rdJ s a f)
theorem RdAt.stable {w : World} {rb : Nat} {s : ByteArray} {a : Nat} {f : Int} : ∀ x y, RdAt w rb s a f x → Touch [] x y → RdAt w rb s a f y :=
  fun _ _ h t => ⟨h.1.trans t (by simp), h.2.touch t (by simp)⟩
theorem jbytes_any (w : World) (rb : Nat) (s : ByteArray) (a : Nat) (f : Int) (n : Nat) (ha : a ≤ s.size) (hs : s.size < 1099511627776) (hR : At w rb 142 (rdJ s a f)) :
    Calls Tryz.prog 49 #[.pointer (some ⟨rb, 0, none⟩), .int .i64 (n : Int)] w fun e w' => e = .returned (.string (stY s a f n)) ∧ RdAt w rb s (stA s a f n) (stF s a f n) w' := by
  by_cases hf : f = 0
  · subst hf
    by_cases hl : a + n ≤ s.size
    · refine (jbytes_ok w rb s a n hs hl hR).mono ?_
      rintro e w' ⟨rfl, t, h⟩
      unfold stY stA stF
      rw [if_pos ⟨rfl, hl⟩, if_pos ⟨rfl, hl⟩, if_pos rfl, if_pos hl]
      exact ⟨rfl, t, h⟩
    · refine (jbytes_short w rb s a n (by omega) ha hs (by omega) hR).mono ?_
      rintro e w' ⟨rfl, t, h⟩
      unfold stY stA stF
      rw [if_neg (fun h => hl h.2), if_neg (fun h => hl h.2), if_pos rfl, if_neg hl]
      exact ⟨rfl, t, h⟩
  · refine (jbytes_bad w rb s a f n hf hR).mono ?_
    rintro e w' ⟨rfl, rfl⟩
    unfold stY stA stF
    rw [if_neg (fun h => hf h.1), if_neg (fun h => hf h.1), if_neg hf]
    exact ⟨rfl, Touch.refl _ _, hR⟩
theorem jU64_any (w : World) (rb : Nat) (s : ByteArray) (a : Nat) (f : Int) (ha : a ≤ s.size) (hs : s.size < 1099511627776) (hR : At w rb 142 (rdJ s a f)) :
    Calls Tryz.prog 48 #[.pointer (some ⟨rb, 0, none⟩)] w fun e w' => e = .returned (.int .u64 (leV (bsOf (stY s a f 8)) : Nat)) ∧ RdAt w rb s (stA s a f 8) (stF s a f 8) w' :=
  jU64_of RdAt.stable w rb _ (stY_size _ _ _ _) (jbytes_any w rb s a f 8 ha hs hR)
theorem jU32_any (w : World) (rb : Nat) (s : ByteArray) (a : Nat) (f : Int) (ha : a ≤ s.size) (hs : s.size < 1099511627776) (hR : At w rb 142 (rdJ s a f)) :
    Calls Tryz.prog 53 #[.pointer (some ⟨rb, 0, none⟩)] w fun e w' => e = .returned (.int .u32 (leV (bsOf (stY s a f 4)) : Nat)) ∧ RdAt w rb s (stA s a f 4) (stF s a f 4) w' :=
  jU32_of RdAt.stable w rb _ (stY_size _ _ _ _) (jbytes_any w rb s a f 4 ha hs hR)
theorem jU16_any (w : World) (rb : Nat) (s : ByteArray) (a : Nat) (f : Int) (ha : a ≤ s.size) (hs : s.size < 1099511627776) (hR : At w rb 142 (rdJ s a f)) :
    Calls Tryz.prog 50 #[.pointer (some ⟨rb, 0, none⟩)] w fun e w' => e = .returned (.int .u16 (leV (bsOf (stY s a f 2)) : Nat)) ∧ RdAt w rb s (stA s a f 2) (stF s a f 2) w' :=
  jU16_of RdAt.stable w rb _ (stY_size _ _ _ _) (jbytes_any w rb s a f 2 ha hs hR)
end Go.Proofs.YtodehmognjofhaaGreat
