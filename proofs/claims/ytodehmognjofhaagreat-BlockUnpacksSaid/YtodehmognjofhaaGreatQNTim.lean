/-
  The program's cipher: bytes multiplied.
-/
import Derived.Test.YtodehmognjofhaaGreatQNSum
namespace Go.Proofs.YtodehmognjofhaaGreat
open Go.RowKit

/-- twice a byte. -/
def xt (a : Nat) : Nat := (a * 2 % 256) ^^^ (a / 128 * 27 % 256)
theorem xt_lt (a : Nat) : xt a < 256 := Nat.xor_lt_two_pow (n := 8) (Nat.mod_lt _ (by decide)) (Nat.mod_lt _ (by decide))
def gm : Nat → Nat → Nat → Nat → Nat
  | 0, _, _, p => p
  | n + 1, a, b, p => gm n (xt a) (b / 2) (if b % 2 = 1 then p ^^^ a else p)
def gmul (a b : Nat) : Nat := gm 8 a b 0
theorem u8_xor_nat (a b : Nat) (ha : a < 256) (hb : b < 256) : bits .xor .u8 (a : Int) (b : Int) = ((a ^^^ b : Nat) : Int) := by
  show IntKind.u8.wrap (((BitVec.ofInt 8 (a : Int)) ^^^ (BitVec.ofInt 8 (b : Int))).toNat : Int) = _
  rw [BitVec.toNat_xor, bv8, bv8, Nat.mod_eq_of_lt ha, Nat.mod_eq_of_lt hb, wrapU8, Nat.mod_eq_of_lt (Nat.xor_lt_two_pow (n := 8) ha hb)]
theorem u8_and1_nat (a : Nat) (ha : a < 256) : bits .and .u8 (a : Int) 1 = ((a % 2 : Nat) : Int) := by
  show IntKind.u8.wrap (((BitVec.ofInt 8 (a : Int)) &&& (BitVec.ofInt 8 (1 : Int))).toNat : Int) = _
  have e : (BitVec.ofInt 8 (1 : Int)).toNat = 1 := by decide
  rw [BitVec.toNat_and, bv8, e, Nat.mod_eq_of_lt ha, wrapU8, Nat.and_one_is_mod]
  congr 1
  omega
theorem twice_any (w : World) (a : Nat) (ha : a < 256) : Calls Tryz.prog 133 #[.int .u8 a] w fun e w' => e = .returned (.int .u8 (xt a)) ∧ w' = w := by
  have hx : bits .xor .u8 ((a : Int) * 2 % 256) ((a : Int) / 128 * 27) = (xt a : Int) := by
    have e1 : ((a : Int) * 2 % 256) = ((a * 2 % 256 : Nat) : Int) := by simp
    have e2 : ((a : Int) / 128 * 27) = ((a / 128 * 27 % 256 : Nat) : Int) := by omega
    rw [e1, e2, u8_xor_nat _ _ (Nat.mod_lt _ (by decide)) (Nat.mod_lt _ (by decide))]
    rfl
  go_enter Tryz.func133, Tryz.ntmps133
  go_wp2
  go_ret
  refine ⟨?_, rfl⟩
  rfl
set_option maxHeartbeats 1600000 in
theorem times_any (w : World) (a b : Nat) (ha : a < 256) (hb : b < 256) : Calls Tryz.prog 132 #[.int .u8 a, .int .u8 b] w fun e w' => e = .returned (.int .u8 (gmul a b)) ∧ w' = w := by
  go_enter Tryz.func132, Tryz.ntmps132
  go_wp2
  go_loopw [0, 1, 5] (fun x y z wr => ∃ a' b' p' k : Nat, x = .int .u8 a' ∧ y = .int .u8 b' ∧ z = .int .u8 p' ∧ a' < 256 ∧ b' < 2 ^ k ∧ k ≤ 8 ∧ p' < 256 ∧ wr = w ∧ Hid (gm k a' b' p' = gmul a b)) (fun _ y _ _ => (intOf y).toNat)
  case atStart => exact ⟨a, b, 0, 8, rfl, rfl, rfl, ha, hb, Nat.le_refl _, by decide, rfl, rfl⟩
  case round =>
    obtain ⟨a', b', p', k, rfl, rfl, rfl, ha', hb', hk, hp', rfl, hg⟩ := hrel
    by_cases h0 : b' = 0
    · subst h0
      have hz : ∀ n x p, gm n x 0 p = p := by
        intro n
        induction n with
        | zero => intro x p; rfl
        | succ n ih => intro x p; show gm n (xt x) (0 / 2) _ = p; rw [ih]; rfl
      go_wp2
      go_ret
      refine ⟨?_, rfl⟩
      rw [← hg.out, hz]
      rfl
    · have h0i : (b' : Int) ≠ 0 := by omega
      have hb8 : b' < 256 := Nat.lt_of_lt_of_le hb' (Nat.pow_le_pow_right (n := 2) (by decide) hk)
      cases k with
      | zero => simp at hb'; omega
      | succ k =>
      have hg2 : gm k (xt a') (b' / 2) (if b' % 2 = 1 then p' ^^^ a' else p') = gmul a b := hg.out
      have hb2 : b' / 2 < 2 ^ k := by rw [Nat.pow_succ] at hb'; omega
      have C := twice_any wr a' ha'
      have e1 := u8_and1_nat b' hb8
      obtain ⟨q, hq⟩ : ∃ q, q = b' / 2 := ⟨_, rfl⟩
      obtain ⟨r, hr⟩ : ∃ r, r = b' % 2 := ⟨_, rfl⟩
      have e2 : (b' : Int) / 2 = (q : Int) := by omega
      have e3 := u8_xor_nat p' a' hp' ha'
      have e4 : p' ^^^ a' < 256 := Nat.xor_lt_two_pow (n := 8) hp' ha'
      rw [← hq] at hb2 hg2
      rw [← hr] at hg2 e1
      have hql : (q : Int).toNat < (b' : Int).toNat := by omega
      have HB := Lib.hid hb2
      have HQL := Lib.hid hql
      clear hg hq hb2 hb' hql
      have hxl := xt_lt a'
      generalize xt a' = x2 at C hg2 hxl
      generalize p' ^^^ a' = p2 at e3 e4 hg2
      by_cases h1 : r = 1
      · rw [if_pos h1] at hg2
        have h1i : ((r : Int) == 1) = true := by rw [h1]; rfl
        have HG := Lib.hid hg2
        clear hg2 h1 hr
        go_wp2_with (go_at_call 133; refine C.mono ?_; clear C; rintro e w3 ⟨rfl, rfl⟩)
        exact ⟨⟨_, _, _, k, rfl, rfl, rfl, hxl, HB.out, by omega, e4, trivial, HG⟩, HQL.out⟩
      · rw [if_neg h1] at hg2
        have h1i : ((r : Int) == 1) = false := by rw [beq_eq_false_iff_ne]; omega
        have HG := Lib.hid hg2
        clear hg2 h1 hr
        go_wp2_with (go_at_call 133; refine C.mono ?_; clear C; rintro e w3 ⟨rfl, rfl⟩)
        exact ⟨⟨_, _, _, k, rfl, rfl, rfl, hxl, HB.out, by omega, hp', trivial, HG⟩, HQL.out⟩
end Go.Proofs.YtodehmognjofhaaGreat
