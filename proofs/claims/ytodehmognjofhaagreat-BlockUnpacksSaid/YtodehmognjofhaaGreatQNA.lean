/-
  Lists of numbers, for reading: those that came in, or that a call has told.
-/
import Derived.Test.YtodehmognjofhaaGreatQKit
import Derived.StillTactics
import Derived.Test.YtodehmognjofhaaGreatProg
import Derived.WalkLawsBesides
import Derived.Laws.BitsAllLaws
import Derived.Shelf.Bits.Mul64
import Derived.Deep.DeepCutAuto
import Derived.Deep.OwnRows
import Derived.Laws.OwnMore
namespace Go.Proofs.YtodehmognjofhaaGreat
open Go.RowKit

/-- A slice of numbers, for reading. -/
structure Nums (w : World) (k : IntKind) (a : Option Addr) (n cap : Nat) (zs : List Int) : Prop where
  len : zs.length = n
  cap_ : n ≤ cap
  max : cap ≤ 9223372036854775807
  at_ : 0 < n → ∃ b off, a = some ⟨b, off, none⟩ ∧ b < w.heap.size ∧ ∀ i, i < n → w.cell? ⟨b, off + i, none⟩ = some (.int k (zs.getD i 0))
theorem Nums.touch {w w' : World} {k : IntKind} {a : Option Addr} {n cap : Nat} {zs : List Int} (h : Nums w k a n cap zs) (t : Touch [] w w') : Nums w' k a n cap zs := by
  refine ⟨h.len, h.cap_, h.max, fun hn => ?_⟩
  obtain ⟨b, off, h1, h2, h3⟩ := h.at_ hn
  exact ⟨b, off, h1, Nat.lt_of_lt_of_le h2 t.size, fun i hi => (t.cell (p := ⟨b, off + i, none⟩) h2 (by simp)).trans (h3 i hi)⟩
theorem Nums.ofRow {w : World} {e : TypeId} {k : IntKind} {a : Option Addr} {n cap : Nat} {own : List Nat} {zs : List Int} (h : Row w e 1 a n cap own (zs.map (Value.int k))) : Nums w k a n cap zs := by
  have hl : zs.length = n := by have := h.1; simpa using this
  refine ⟨hl, h.2.1, by have := h.2.2.1; unfold maxLen at this; omega, fun hn => ?_⟩
  obtain ⟨b, off, cur, rfl, rfl, hg, -⟩ := h.form (by have := h.2.1; omega)
  refine ⟨b, off, rfl, h.lt b (by simp), fun i hi => h.cellSome i _ ?_⟩
  rw [List.getElem?_map, List.getElem?_eq_getElem (by omega)]
  simp [List.getD, List.getElem?_eq_getElem (show i < zs.length by omega)]
theorem Nums.src {w : World} {k : IntKind} {a : Option Addr} {n cap : Nat} {zs : List Int} (h : Nums w k a n cap zs) : n = 0 ∨ ∃ ad, a = some ad ∧ ∀ j u, (zs.map (Value.int k))[j]? = some u → w.cell? (ad.add j) = some u := by
  rcases Nat.eq_zero_or_pos n with h0 | h0
  · exact .inl h0
  · obtain ⟨b, off, rfl, -, hb⟩ := h.at_ h0
    refine .inr ⟨_, rfl, fun j u hj => ?_⟩
    rw [List.getElem?_map] at hj
    obtain ⟨z, hz, rfl⟩ := Option.map_eq_some_iff.1 hj
    obtain ⟨hlt, hz'⟩ := List.getElem?_eq_some_iff.1 hz
    rw [Addr.add_lit, hb j (by rw [← h.len]; exact hlt)]
    simp [List.getD, hz]
theorem Nums.some {w : World} {k : IntKind} {a : Option Addr} {n cap : Nat} {zs : List Int} (h : Nums w k a n cap zs) {i : Nat} (hi : i < n) : zs[i]? = some (zs.getD i 0) := by
  have := h.len
  simp [List.getD, List.getElem?_eq_getElem (show i < zs.length by omega)]
theorem Row.one {w : World} {e : TypeId} {k : IntKind} {b off n cap : Nat} {own : List Nat} {zs : List Int} (h : Row w e 1 (some ⟨b, off, none⟩) n cap own (zs.map (Value.int k))) (i : Nat) (hi : i < n) : w.cell? ⟨b, off + i, none⟩ = some (.int k (zs.getD i 0)) := by
  have hl : zs.length = n := by have := h.1; simpa using this
  refine h.cellSome i _ ?_
  rw [List.getElem?_map, List.getElem?_eq_getElem (by omega)]
  simp [List.getD, List.getElem?_eq_getElem (show i < zs.length by omega)]
end Go.Proofs.YtodehmognjofhaaGreat

namespace Go.Proofs.YtodehmognjofhaaGreat
theorem region_still {P : Program} {w : World} {id : Nat} {Q : Exit → Act → World → Prop} {a : Act} {l : List Oper} (hm : P.follows .mixedOrders = true) (hB : Region.lexB .any l.toArray = true)
    (h : ∀ w2, Touch [] w w2 → wpStill P l.toArray w2 (fun a' => Q .normal a' w2) l a) : (Code.region id l.toArray true).wp P Q a w :=
  wp_region_still_lit hm hB (h _ ((Touch.refl [] w).drew))
end Go.Proofs.YtodehmognjofhaaGreat

namespace Go.Proofs.YtodehmognjofhaaGreat
open Go.RowKit

set_option maxHeartbeats 1000000 in
theorem mul64_any (x y : Nat) (hx : x < 18446744073709551616) (hy : y < 18446744073709551616) (w : World) : Calls Tryz.prog 198 #[.int .u64 x, .int .u64 y] w fun e w' => e = .returned (.tuple #[.int .u64 ((x * y / 18446744073709551616 : Nat) : Int), .int .u64 ((x * y % 18446744073709551616 : Nat) : Int)]) ∧ w' = w := by
  obtain ⟨bd, bt, bw, hhi⟩ := Lib.mul64_hi x y hx hy
  have ba := Lib.half_mul_le (a := x / 4294967296) (b := y / 4294967296) (by omega) (by omega)
  have bb := Lib.half_mul_le (a := x / 4294967296) (b := y % 4294967296) (by omega) (by omega)
  have bc := Lib.half_mul_le (a := x % 4294967296) (b := y / 4294967296) (by omega) (by omega)
  have ba' : x / 4294967296 * (y / 4294967296) < 18446744073709551616 := by omega
  have bb' : x / 4294967296 * (y % 4294967296) < 18446744073709551616 := by omega
  have bc' : x % 4294967296 * (y / 4294967296) < 18446744073709551616 := by omega
  have bh1 : x / 4294967296 * (y / 4294967296) + (x / 4294967296 * (y % 4294967296) + x % 4294967296 * (y % 4294967296) / 4294967296) / 4294967296 < 18446744073709551616 := by omega
  have bh : x / 4294967296 * (y / 4294967296) + (x / 4294967296 * (y % 4294967296) + x % 4294967296 * (y % 4294967296) / 4294967296) / 4294967296 + ((x / 4294967296 * (y % 4294967296) + x % 4294967296 * (y % 4294967296) / 4294967296) % 4294967296 + x % 4294967296 * (y / 4294967296)) / 4294967296 < 18446744073709551616 := by omega
  go_enter Tryz.func198, Tryz.ntmps198
  go_wp2
  simp only [Mul64.maskN x hx, Mul64.maskN y hy, Mul64.divN, Mul64.mulN, Mul64.addN, Mul64.wrapN _ bd, Mul64.wrapN _ bb', Mul64.wrapN _ bt, Mul64.maskN _ bt, Mul64.wrapN _ bc', Mul64.wrapN _ bw, Mul64.wrapN _ ba', Mul64.wrapN _ bh1, Mul64.wrapN _ bh, Mul64.wrapM (x * y)]
  rw [hhi]
  go_ret2
  exact ⟨rfl, rfl⟩

def sqP (x p : Nat) : Bool := decide (x * x / 18446744073709551616 < p) || (decide (x * x / 18446744073709551616 = p) && decide (x * x % 18446744073709551616 = 0))
theorem square_any (x p : Nat) (hx : x < 18446744073709551616) (w : World) : Calls Tryz.prog 182 #[.int .u64 x, .int .u64 p] w fun e w' => e = .returned (.bool (sqP x p)) ∧ w' = w := by
  have C := mul64_any x x hx hx w
  unfold sqP
  generalize x * x / 18446744073709551616 = hi at C ⊢
  generalize x * x % 18446744073709551616 = lo at C ⊢
  by_cases h1 : hi < p
  · have g1 : (hi : Int) < (p : Int) := by omega
    go_enter Tryz.func182, Tryz.ntmps182
    go_wp2_with (go_at_call 198; refine C.mono ?_; rintro e w1 ⟨rfl, rfl⟩)
    go_ret
    simp [h1]
  · have g1 : ¬ (hi : Int) < (p : Int) := by omega
    by_cases h2 : hi = p
    · subst h2
      by_cases h3 : lo = 0
      · subst h3
        go_enter Tryz.func182, Tryz.ntmps182
        go_wp2_with (go_at_call 198; refine C.mono ?_; rintro e w1 ⟨rfl, rfl⟩)
        go_ret
        simp
      · have g3 : ¬ (lo : Int) = 0 := by omega
        go_enter Tryz.func182, Tryz.ntmps182
        go_wp2_with (go_at_call 198; refine C.mono ?_; rintro e w1 ⟨rfl, rfl⟩)
        go_ret
        simp [h3]
    · have g2 : ¬ (hi : Int) = (p : Int) := by omega
      go_enter Tryz.func182, Tryz.ntmps182
      go_wp2_with (go_at_call 198; refine C.mono ?_; rintro e w1 ⟨rfl, rfl⟩)
      go_ret
      simp [h1, h2]

def cuP3 (x p hi h2 l2 : Nat) : Bool := decide ((hi * x % 18446744073709551616 + h2) % 18446744073709551616 < p * 4294967296 % 18446744073709551616) || (decide ((hi * x % 18446744073709551616 + h2) % 18446744073709551616 = p * 4294967296 % 18446744073709551616) && decide (l2 = 0))
def cuP (x p : Nat) : Bool := cuP3 x p (x * x / 18446744073709551616) (x * x % 18446744073709551616 * x / 18446744073709551616) (x * x % 18446744073709551616 * x % 18446744073709551616)
theorem wrap_cube (hi x h2 : Nat) : IntKind.u64.wrap (IntKind.u64.wrap ((hi : Int) * (x : Int)) + (h2 : Int)) = (((hi * x % 18446744073709551616 + h2) % 18446744073709551616 : Nat) : Int) := by
  rw [Mul64.mulN, Mul64.wrapM, Mul64.addN, Mul64.wrapM]
theorem wrap_shift (p : Nat) : IntKind.u64.wrap ((p : Int) * 4294967296) = ((p * 4294967296 % 18446744073709551616 : Nat) : Int) := by
  rw [IntKind.wrap_u64]
  omega
theorem cube_at (x p hi lo h2 l2 a b : Nat) (w : World) (e1 : IntKind.u64.wrap (IntKind.u64.wrap ((hi : Int) * (x : Int)) + (h2 : Int)) = (a : Int)) (e2 : IntKind.u64.wrap ((p : Int) * 4294967296) = (b : Int)) (C : Calls Tryz.prog 198 #[.int .u64 x, .int .u64 x] w fun e w' => e = .returned (.tuple #[.int .u64 (hi : Int), .int .u64 (lo : Int)]) ∧ w' = w) (D : Calls Tryz.prog 198 #[.int .u64 lo, .int .u64 x] w fun e w' => e = .returned (.tuple #[.int .u64 (h2 : Int), .int .u64 (l2 : Int)]) ∧ w' = w) : Calls Tryz.prog 183 #[.int .u64 x, .int .u64 p] w fun e w' => e = .returned (.bool (decide (a < b) || (decide (a = b) && decide (l2 = 0)))) ∧ w' = w := by
  generalize hpb : (decide (a < b) || (decide (a = b) && decide (l2 = 0))) = r
  have HR := Lib.hid hpb
  clear hpb
  go_enter Tryz.func183, Tryz.ntmps183
  go_wp2_with (fail)
  go_at_call 198
  refine C.mono ?_
  rintro e w1 ⟨rfl, rfl⟩
  go_wp2_with (fail)
  go_at_call 198
  refine D.mono ?_
  rintro e w1 ⟨rfl, rfl⟩
  clear C D
  go_wp2
  all_goals
    go_ret
    refine ⟨?_, rfl⟩
    rw [← HR.out]
    by_cases h0 : l2 = 0
    · subst h0
      simp [*]
      try omega
    · have h1 : ¬ (l2 : Int) = 0 := by omega
      simp [*]
      try omega
theorem cube_any (x p : Nat) (hx : x < 18446744073709551616) (w : World) : Calls Tryz.prog 183 #[.int .u64 x, .int .u64 p] w fun e w' => e = .returned (.bool (cuP x p)) ∧ w' = w :=
  cube_at x p _ _ _ _ _ _ w (wrap_cube _ x _) (wrap_shift p) (mul64_any x x hx hx w) (mul64_any (x * x % 18446744073709551616) x (Nat.mod_lt _ (by decide)) hx w)

/-- bit by bit, the highest first. -/
def fracGo (f : Nat → Bool) : Nat → Nat → Nat
  | 0, x => x
  | b + 1, x => fracGo f b (if f (x ||| 2 ^ b) then x ||| 2 ^ b else x)
theorem wrap_bit (b : Nat) (hb : b < 37) : IntKind.u64.wrap ((2 : Int) ^ b) = ((2 ^ b : Nat) : Int) ∧ (2 : Nat) ^ b < 137438953472 := by
  have h2 : (2 : Nat) ^ b < 137438953472 := Nat.lt_of_lt_of_eq (Nat.pow_lt_pow_right (by decide) hb) (by decide)
  have e : ((2 : Int) ^ b) = ((2 ^ b : Nat) : Int) := by simp
  rw [e]
  generalize (2 : Nat) ^ b = q at h2 ⊢
  exact ⟨Mul64.wrapN q (by omega), h2⟩
theorem or_bit (X b : Nat) (hX : X < 137438953472) (hb : b < 37) : bits .or .u64 (X : Int) (IntKind.u64.wrap (2 ^ b)) = ((X ||| 2 ^ b : Nat) : Int) ∧ X ||| 2 ^ b < 137438953472 := by
  obtain ⟨e, h2⟩ := wrap_bit b hb
  rw [e]
  generalize (2 : Nat) ^ b = q at h2 ⊢
  rw [bits_or_u64_nat _ _ (by omega) (by omega)]
  exact ⟨rfl, Nat.or_lt_two_pow (n := 37) hX h2⟩
theorem fracGo_succ (f : Nat → Bool) (b X : Nat) : fracGo f (b + 1) X = fracGo f b (if f (X ||| 2 ^ b) then X ||| 2 ^ b else X) := rfl

set_option maxHeartbeats 1000000 in
theorem fracg_sq (f : Nat → Bool) (p : Nat) (HF : ∀ x : Nat, x < 18446744073709551616 → ∀ W : World, Calls Tryz.prog 182 #[.int .u64 x, .int .u64 p] W fun e w' => e = .returned (.bool (f x)) ∧ w' = W) (w : World) : Calls Tryz.prog 181 #[.int .u64 p, .func (.func 182) #[] #[]] w fun e w' => e = .returned (.int .u32 ((fracGo f 37 0 % 4294967296 : Nat) : Int)) ∧ w' = w := by
  generalize hR : fracGo f 37 0 = R
  have HR := Lib.hid hR
  clear hR
  go_enter Tryz.func181, Tryz.ntmps181
  go_wp2
  go_loopw [5, 6] (fun x i wr => wr = w ∧ ∃ m X : Nat, ∃ z : Int, m ≤ 37 ∧ X < 137438953472 ∧ z = (m : Int) - 1 ∧ x = .int .u64 X ∧ i = .int .i64 z ∧ fracGo f m X = R) (fun _ i _ => (intOf i + 1).toNat)
  case atStart => exact ⟨rfl, 37, 0, 36, by omega, by omega, by omega, rfl, rfl, HR.out⟩
  case round =>
    obtain ⟨rfl, m, X, z, hm, hX, hz, rfl, rfl, hf⟩ := hrel
    cases m with
    | zero =>
      have hz0 : ¬ (0 : Int) ≤ z := by omega
      have hf' : X = R := hf
      subst hf'
      clear hf hz hm HR
      go_wp2
      go_ret
      exact ⟨rfl, rfl⟩
    | succ b =>
      obtain rfl : z = (b : Int) := by omega
      have hz0 : (0 : Int) ≤ (b : Int) := by omega
      have b1 : IntKind.u64.wrap (b : Int) = (b : Int) := by rw [IntKind.wrap_u64]; omega
      obtain ⟨hb, hY⟩ := or_bit X b hX (by omega)
      have hmn : min b 64 = b := by omega
      rw [fracGo_succ] at hf
      generalize X ||| 2 ^ b = Y at hb hY hf
      have HS := HF Y (by omega)
      clear hz HF
      have HB := Lib.hid hm
      clear hm
      by_cases hg : f Y = true
      · rw [hg] at HS
        rw [if_pos hg] at hf
        have HF := Lib.hid (And.intro hf (And.intro hX hY))
        clear hf hg hX hY
        go_wp2_with (fail)
        go_at_call 182
        refine (HS _).mono ?_
        rintro e w1 ⟨rfl, rfl⟩
        clear hb
        go_wp2
        go_roundw
        case rel => exact ⟨trivial, b, Y, _, Nat.le_of_succ_le HB.out, HF.out.2.2, rfl, rfl, by go_num, HF.out.1⟩
        case measure => simp [intOf]
      · rw [Bool.not_eq_true] at hg
        rw [hg] at HS
        rw [if_neg (by rw [hg]; decide)] at hf
        have HF := Lib.hid (And.intro hf (And.intro hX hY))
        clear hf hg hX hY
        go_wp2_with (fail)
        go_at_call 182
        refine (HS _).mono ?_
        rintro e w1 ⟨rfl, rfl⟩
        clear hb
        go_wp2
        go_roundw
        case rel => exact ⟨trivial, b, X, _, Nat.le_of_succ_le HB.out, HF.out.2.1, rfl, rfl, by go_num, HF.out.1⟩
        case measure => simp [intOf]
theorem frac_sq (p : Nat) (w : World) : Calls Tryz.prog 181 #[.int .u64 p, .func (.func 182) #[] #[]] w fun e w' => e = .returned (.int .u32 ((fracGo (fun x => sqP x p) 37 0 % 4294967296 : Nat) : Int)) ∧ w' = w :=
  fracg_sq (fun x => sqP x p) p (fun x hx W => square_any x p hx W) w

set_option maxHeartbeats 1000000 in
theorem fracg_cu (f : Nat → Bool) (p : Nat) (HF : ∀ x : Nat, x < 18446744073709551616 → ∀ W : World, Calls Tryz.prog 183 #[.int .u64 x, .int .u64 p] W fun e w' => e = .returned (.bool (f x)) ∧ w' = W) (w : World) : Calls Tryz.prog 181 #[.int .u64 p, .func (.func 183) #[] #[]] w fun e w' => e = .returned (.int .u32 ((fracGo f 37 0 % 4294967296 : Nat) : Int)) ∧ w' = w := by
  generalize hR : fracGo f 37 0 = R
  have HR := Lib.hid hR
  clear hR
  go_enter Tryz.func181, Tryz.ntmps181
  go_wp2
  go_loopw [5, 6] (fun x i wr => wr = w ∧ ∃ m X : Nat, ∃ z : Int, m ≤ 37 ∧ X < 137438953472 ∧ z = (m : Int) - 1 ∧ x = .int .u64 X ∧ i = .int .i64 z ∧ fracGo f m X = R) (fun _ i _ => (intOf i + 1).toNat)
  case atStart => exact ⟨rfl, 37, 0, 36, by omega, by omega, by omega, rfl, rfl, HR.out⟩
  case round =>
    obtain ⟨rfl, m, X, z, hm, hX, hz, rfl, rfl, hf⟩ := hrel
    cases m with
    | zero =>
      have hz0 : ¬ (0 : Int) ≤ z := by omega
      have hf' : X = R := hf
      subst hf'
      clear hf hz hm HR
      go_wp2
      go_ret
      exact ⟨rfl, rfl⟩
    | succ b =>
      obtain rfl : z = (b : Int) := by omega
      have hz0 : (0 : Int) ≤ (b : Int) := by omega
      have b1 : IntKind.u64.wrap (b : Int) = (b : Int) := by rw [IntKind.wrap_u64]; omega
      obtain ⟨hb, hY⟩ := or_bit X b hX (by omega)
      have hmn : min b 64 = b := by omega
      rw [fracGo_succ] at hf
      generalize X ||| 2 ^ b = Y at hb hY hf
      have HS := HF Y (by omega)
      clear hz HF
      have HB := Lib.hid hm
      clear hm
      by_cases hg : f Y = true
      · rw [hg] at HS
        rw [if_pos hg] at hf
        have HF := Lib.hid (And.intro hf (And.intro hX hY))
        clear hf hg hX hY
        go_wp2_with (fail)
        go_at_call 183
        refine (HS _).mono ?_
        rintro e w1 ⟨rfl, rfl⟩
        clear hb
        go_wp2
        go_roundw
        case rel => exact ⟨trivial, b, Y, _, Nat.le_of_succ_le HB.out, HF.out.2.2, rfl, rfl, by go_num, HF.out.1⟩
        case measure => simp [intOf]
      · rw [Bool.not_eq_true] at hg
        rw [hg] at HS
        rw [if_neg (by rw [hg]; decide)] at hf
        have HF := Lib.hid (And.intro hf (And.intro hX hY))
        clear hf hg hX hY
        go_wp2_with (fail)
        go_at_call 183
        refine (HS _).mono ?_
        rintro e w1 ⟨rfl, rfl⟩
        clear hb
        go_wp2
        go_roundw
        case rel => exact ⟨trivial, b, X, _, Nat.le_of_succ_le HB.out, HF.out.2.1, rfl, rfl, by go_num, HF.out.1⟩
        case measure => simp [intOf]
theorem frac_cu (p : Nat) (w : World) : Calls Tryz.prog 181 #[.int .u64 p, .func (.func 183) #[] #[]] w fun e w' => e = .returned (.int .u32 ((fracGo (fun x => cuP x p) 37 0 % 4294967296 : Nat) : Int)) ∧ w' = w :=
  fracg_cu (fun x => cuP x p) p (fun x hx W => cube_any x p hx W) w
end Go.Proofs.YtodehmognjofhaaGreat

namespace Go.Proofs.YtodehmognjofhaaGreat
open Go.RowKit

/-- A word turned to the right. -/
def rot (x n : Nat) : Nat := (x / 2 ^ n) ||| (x * 2 ^ (32 - n) % 4294967296)
theorem rot_lt (x n : Nat) (hx : x < 4294967296) : rot x n < 4294967296 := by
  unfold rot
  exact Nat.or_lt_two_pow (n := 32) (Nat.lt_of_le_of_lt (Nat.div_le_self _ _) hx) (Nat.mod_lt _ (by decide))
theorem turn_any (w : World) (x n : Nat) (hx : x < 4294967296) (hn : n ≤ 32) : Calls Tryz.prog 195 #[.int .u32 x, .int .u64 n] w fun e w' => e = .returned (.int .u32 (rot x n)) ∧ w' = w := by
  have h1 : (0 : Int) ≤ (n : Int) := by omega
  have h2 : (n : Int) ≤ 32 := by omega
  have h3 : (0 : Int) ≤ 32 - (n : Int) := by omega
  have h4 : 32 - (n : Int) ≤ 32 := by omega
  go_enter Tryz.func195, Tryz.ntmps195
  go_wp2
  go_ret
  refine ⟨?_, rfl⟩
  have e1 : ((x : Int) / 2 ^ n) = ((x / 2 ^ n : Nat) : Int) := by simp
  have e2 : ((x : Int) * 2 ^ (32 - n) % 4294967296) = ((x * 2 ^ (32 - n) % 4294967296 : Nat) : Int) := by simp
  show Ending.returned (.int .u32 (bits .or .u32 ((x : Int) / 2 ^ n) ((x : Int) * 2 ^ (32 - n) % 4294967296))) = _
  rw [e1, e2, u32_or_nat _ _ (Nat.lt_of_le_of_lt (Nat.div_le_self _ _) hx) (Nat.mod_lt _ (by decide))]
  rfl
end Go.Proofs.YtodehmognjofhaaGreat

namespace Go.Proofs.YtodehmognjofhaaGreat
open Go.RowKit
theorem Tryz.u32sT : Tryz.prog.underlying 261 = some (.slice 92) := by kernel_rfl
theorem Tryz.infoU32 : (Tryz.prog.info? 92).map (fun i => (i.zero, i.size, i.bytes)) = some (some (.int .u32 0), 1, 4) := by kernel_rfl

def byteAt (s : ByteArray) (i : Nat) : Nat := (s.data.getD i 0).toNat
theorem byteAt_lt (s : ByteArray) (i : Nat) : byteAt s i < 256 := UInt8.toNat_lt _
theorem index_at (s : ByteArray) (W : World) (i : Nat) (hi : i < s.size) : (Instr.index 9 (.string s) (.int .i64 i)).run Tryz.prog W = .ok (.int .u8 (byteAt s i)) W := by
  have h := run_index_string (P := Tryz.prog) W 9 s .i64 (i : Int) Tryz.underlying9
  rw [dif_pos (by omega)] at h
  rw [h]
  have hi' : i < s.data.size := hi
  have e : byteAt s i = (s[((i : Nat) : Int).toNat]'(by omega)).toNat := by
    unfold byteAt
    rw [Array.getD_eq_getD_getElem?, Array.getElem?_eq_getElem hi']
    rfl
  rw [e]

/-- Words as cells. -/
def wcells (l : List Nat) : List Value := l.map fun (x : Nat) => Value.int .u32 x
theorem wcells_get {l : List Nat} {k x : Nat} (h : l[k]? = some x) : (wcells l)[k]? = some (.int .u32 x) := by unfold wcells; rw [List.getElem?_map, h]; rfl
/-- so far; zeros behind. -/
def padw (l : List Nat) : List Nat := l ++ List.replicate (64 - l.length) 0
theorem padw_set (l : List Nat) (x : Nat) (h : l.length < 64) : (wcells (padw l)).set l.length (.int .u32 x) = wcells (padw (l ++ [x])) := by
  unfold wcells padw
  rw [← List.map_set, List.set_append_right _ _ (Nat.le_refl _), Nat.sub_self]
  obtain ⟨m, hm⟩ : ∃ m, 64 - l.length = m + 1 := ⟨64 - l.length - 1, by omega⟩
  rw [hm, List.replicate_succ, List.set_cons_zero, List.length_append, List.length_singleton, show 64 - (l.length + 1) = m by omega]
  simp
theorem padw_get {l : List Nat} {k x : Nat} (h : l[k]? = some x) : (padw l)[k]? = some x := by
  unfold padw
  rw [List.getElem?_append_left (List.getElem?_eq_some_iff.1 h).1]
  exact h
theorem padw_some (l : List Nat) (k : Nat) (h : k < 64) : ∃ x, (padw l)[k]? = some x := ⟨_, List.getElem?_eq_getElem (by unfold padw; simp; omega)⟩
def word4 (s : ByteArray) (k : Nat) : Nat := ((byteAt s (4 * k) * 16777216 ||| byteAt s (4 * k + 1) * 65536) ||| byteAt s (4 * k + 2) * 256) ||| byteAt s (4 * k + 3)
theorem word4_lt (s : ByteArray) (k : Nat) : word4 s k < 4294967296 := by
  have h1 := byteAt_lt s (4 * k)
  have h2 := byteAt_lt s (4 * k + 1)
  have h3 := byteAt_lt s (4 * k + 2)
  have h4 := byteAt_lt s (4 * k + 3)
  exact Nat.or_lt_two_pow (n := 32) (Nat.or_lt_two_pow (Nat.or_lt_two_pow (by omega) (by omega)) (by omega)) (by omega)
theorem word4_bits (s : ByteArray) (k : Nat) : bits .or .u32 (bits .or .u32 (bits .or .u32 ((byteAt s (4 * k) : Int) * 16777216) ((byteAt s (4 * k + 1) : Int) * 65536)) ((byteAt s (4 * k + 2) : Int) * 256)) (byteAt s (4 * k + 3) : Int) = (word4 s k : Int) := by
  have h1 := byteAt_lt s (4 * k)
  have h2 := byteAt_lt s (4 * k + 1)
  have h3 := byteAt_lt s (4 * k + 2)
  have h4 := byteAt_lt s (4 * k + 3)
  have e1 : ((byteAt s (4 * k) : Int) * 16777216) = ((byteAt s (4 * k) * 16777216 : Nat) : Int) := by simp
  have e2 : ((byteAt s (4 * k + 1) : Int) * 65536) = ((byteAt s (4 * k + 1) * 65536 : Nat) : Int) := by simp
  have e3 : ((byteAt s (4 * k + 2) : Int) * 256) = ((byteAt s (4 * k + 2) * 256 : Nat) : Int) := by simp
  have o1 : byteAt s (4 * k) * 16777216 ||| byteAt s (4 * k + 1) * 65536 < 4294967296 := Nat.or_lt_two_pow (n := 32) (by omega) (by omega)
  rw [e1, e2, e3, u32_or_nat _ _ (by omega) (by omega), u32_or_nat _ _ o1 (by omega), u32_or_nat _ _ (Nat.or_lt_two_pow (n := 32) o1 (by omega)) (by omega)]
  rfl
/-- the first sixteen words of a block. -/
def first16 (s : ByteArray) (k : Nat) : List Nat := (List.range k).map (word4 s)
theorem first16_len (s : ByteArray) (k : Nat) : (first16 s k).length = k := by simp [first16]
theorem first16_succ (s : ByteArray) (k : Nat) : first16 s (k + 1) = first16 s k ++ [word4 s k] := by unfold first16; rw [List.range_succ, List.map_append]; rfl

def sig0 (x : Nat) : Nat := (rot x 7 ^^^ rot x 18) ^^^ (x / 8)
def sig1 (y : Nat) : Nat := (rot y 17 ^^^ rot y 19) ^^^ (y / 1024)
theorem sig0_lt (x : Nat) (hx : x < 4294967296) : sig0 x < 4294967296 := Nat.xor_lt_two_pow (n := 32) (Nat.xor_lt_two_pow (rot_lt x 7 hx) (rot_lt x 18 hx)) (Nat.lt_of_le_of_lt (Nat.div_le_self _ _) hx)
theorem sig1_lt (x : Nat) (hx : x < 4294967296) : sig1 x < 4294967296 := Nat.xor_lt_two_pow (n := 32) (Nat.xor_lt_two_pow (rot_lt x 17 hx) (rot_lt x 19 hx)) (Nat.lt_of_le_of_lt (Nat.div_le_self _ _) hx)
theorem sig0_bits (x : Nat) (hx : x < 4294967296) : bits .xor .u32 (bits .xor .u32 (rot x 7 : Int) (rot x 18 : Int)) ((x : Int) / 8) = (sig0 x : Int) := by
  have e : ((x : Int) / 8) = ((x / 8 : Nat) : Int) := by simp
  rw [e, u32_xor_nat _ _ (rot_lt x 7 hx) (rot_lt x 18 hx), u32_xor_nat _ _ (Nat.xor_lt_two_pow (n := 32) (rot_lt x 7 hx) (rot_lt x 18 hx)) (Nat.lt_of_le_of_lt (Nat.div_le_self _ _) hx)]
  rfl
theorem sig1_bits (x : Nat) (hx : x < 4294967296) : bits .xor .u32 (bits .xor .u32 (rot x 17 : Int) (rot x 19 : Int)) ((x : Int) / 1024) = (sig1 x : Int) := by
  have e : ((x : Int) / 1024) = ((x / 1024 : Nat) : Int) := by simp
  rw [e, u32_xor_nat _ _ (rot_lt x 17 hx) (rot_lt x 19 hx), u32_xor_nat _ _ (Nat.xor_lt_two_pow (n := 32) (rot_lt x 17 hx) (rot_lt x 19 hx)) (Nat.lt_of_le_of_lt (Nat.div_le_self _ _) hx)]
  rfl
def nextW (l : List Nat) : Nat := (l.getD (l.length - 16) 0 + sig0 (l.getD (l.length - 15) 0) + l.getD (l.length - 7) 0 + sig1 (l.getD (l.length - 2) 0)) % 4294967296
def sched (s : ByteArray) : Nat → List Nat
  | 0 => first16 s 16
  | n + 1 => sched s n ++ [nextW (sched s n)]
theorem sched_len (s : ByteArray) : ∀ n, (sched s n).length = 16 + n
  | 0 => first16_len s 16
  | n + 1 => by simp [sched, sched_len s n]; omega
theorem sched_lt (s : ByteArray) : ∀ n, ∀ x ∈ sched s n, x < 4294967296
  | 0, x, hx => by
    unfold sched first16 at hx
    obtain ⟨k, -, rfl⟩ := List.mem_map.1 hx
    exact word4_lt s k
  | n + 1, x, hx => by
    unfold sched at hx
    rcases List.mem_append.1 hx with h | h
    · exact sched_lt s n x h
    · simp at h
      subst h
      exact Nat.mod_lt _ (by decide)
theorem getD_some {l : List Nat} {k : Nat} (h : k < l.length) : l[k]? = some (l.getD k 0) := by rw [List.getD_eq_getElem?_getD, List.getElem?_eq_getElem h]; rfl
theorem getD_mem {l : List Nat} {k : Nat} (h : k < l.length) : l.getD k 0 ∈ l := List.mem_of_getElem? (getD_some h)

end Go.Proofs.YtodehmognjofhaaGreat

namespace Go.Proofs.YtodehmognjofhaaGreat
open Go.RowKit

/-- no divisor up to its root. -/
def isP (p : Nat) : Bool := (List.range 18).all fun d => decide (d < 2) || decide (p < d * d) || decide (p % d ≠ 0)
def ps (p : Nat) : List Nat := (List.range p).filter fun x => decide (2 ≤ x) && isP x
theorem ps_succ (p : Nat) (h : 2 ≤ p) : ps (p + 1) = if isP p then ps p ++ [p] else ps p := by
  unfold ps
  rw [List.range_succ, List.filter_append]
  by_cases hp : isP p = true
  · simp [hp, h]
  · simp [hp]
theorem ps_312 : (ps 312).length = 64 := by decide +kernel
theorem ps_311 : (ps 311).length = 63 := by decide +kernel
theorem isP_no {p q : Nat} (hp : p < 312) (h1 : 2 ≤ q) (h2 : q * q ≤ p) (h3 : p % q = 0) : isP p = false := by
  have hq : q < 18 := by
    rcases Nat.lt_or_ge q 18 with h | h
    · exact h
    · have := Nat.mul_le_mul h h
      omega
  unfold isP
  rw [List.all_eq_false]
  exact ⟨q, List.mem_range.2 hq, by simp [h3]; omega⟩
theorem isP_yes {p q : Nat} (h1 : ∀ d, 2 ≤ d → d < q → p % d ≠ 0) (h2 : p < q * q) : isP p = true := by
  unfold isP
  rw [List.all_eq_true]
  intro d _
  by_cases a : d < 2
  · simp [a]
  · by_cases b : p < d * d
    · simp [b]
    · have : d < q := by
        rcases Nat.lt_or_ge d q with h | h
        · exact h
        · have := Nat.mul_le_mul h h
          omega
      have := h1 d (by omega) this
      simp [this]
def cuR (p : Nat) : Nat := fracGo (fun x => cuP x p) 37 0 % 4294967296
def sqR (p : Nat) : Nat := fracGo (fun x => sqP x p) 37 0 % 4294967296
/-- words, so many cells. -/
def padn (m : Nat) (l : List Nat) : List Nat := l ++ List.replicate (m - l.length) 0
theorem padn_len (m : Nat) (l : List Nat) (h : l.length ≤ m) : (padn m l).length = m := by unfold padn; simp; omega
theorem padn_set (m : Nat) (l : List Nat) (x : Nat) (h : l.length < m) : (padn m l).set l.length x = padn m (l ++ [x]) := by
  unfold padn
  rw [List.set_append_right _ _ (Nat.le_refl _), Nat.sub_self]
  obtain ⟨k, hk⟩ : ∃ k, m - l.length = k + 1 := ⟨m - l.length - 1, by omega⟩
  rw [hk, List.replicate_succ, List.set_cons_zero, List.length_append, List.length_singleton, show m - (l.length + 1) = k by omega]
  simp
theorem wcells_set (l : List Nat) (k x : Nat) : (wcells l).set k (.int .u32 x) = wcells (l.set k x) := by
  unfold wcells
  rw [← List.map_set]
theorem wcells_append (l m : List Nat) : wcells (l ++ m) = wcells l ++ wcells m := List.map_append
theorem wcells_len (l : List Nat) : (wcells l).length = l.length := List.length_map _

/-- the table, so far. -/
def tabW (l : List Nat) : List Nat := padn 8 ((l.take 8).map sqR) ++ padn 64 (l.map cuR)
theorem tabW_set1 (l : List Nat) (p : Nat) (h : l.length < 8) : (tabW l).set l.length (sqR p) = padn 8 (((l ++ [p]).take 8).map sqR) ++ padn 64 (l.map cuR) := by
  unfold tabW
  rw [List.take_of_length_le (show l.length ≤ 8 by omega), List.take_of_length_le (show (l ++ [p]).length ≤ 8 by simp; omega), List.set_append_left _ _ (by rw [padn_len _ _ (by simp; omega)]; exact h)]
  have := padn_set 8 (l.map sqR) (sqR p) (by simpa using h)
  rw [List.length_map] at this
  rw [this, List.map_append]
  rfl
theorem tabW_set2 (b l : List Nat) (p : Nat) (hb : b.length = 8) (h : l.length < 64) : (b ++ padn 64 (l.map cuR)).set (8 + l.length) (cuR p) = b ++ padn 64 ((l ++ [p]).map cuR) := by
  rw [List.set_append_right _ _ (by omega), hb, Nat.add_sub_cancel_left]
  have := padn_set 64 (l.map cuR) (cuR p) (by simpa using h)
  rw [List.length_map] at this
  rw [this, List.map_append]
  rfl
theorem ps_end {k : Nat} (hk : k ≤ 312) (h : ¬ (ps k).length < 64) : k = 312 := by
  rcases Nat.lt_or_ge k 312 with g | g
  · exfalso
    have : (ps k).length ≤ (ps 311).length := ((List.range_sublist.2 (show k ≤ 311 by omega)).filter _).length_le
    rw [ps_311] at this
    omega
  · omega
theorem tabW_len (l : List Nat) (h : l.length ≤ 64) : (tabW l).length = 72 := by
  unfold tabW
  rw [List.length_append, padn_len 8 _ (by rw [List.length_map, List.length_take]; omega), padn_len 64 _ (by rw [List.length_map]; exact h)]
theorem tabW_step2 (l : List Nat) (p : Nat) (h8 : 8 ≤ l.length) (h : l.length < 64) : (tabW l).set (8 + l.length) (cuR p) = tabW (l ++ [p]) := by
  unfold tabW
  rw [tabW_set2 _ l p (padn_len 8 _ (by rw [List.length_map, List.length_take]; omega)) h, List.take_append_of_le_length h8]
theorem tabW_step1 (l : List Nat) (p : Nat) (h8 : l.length < 8) : ((tabW l).set l.length (sqR p)).set (8 + l.length) (cuR p) = tabW (l ++ [p]) := by
  rw [tabW_set1 l p h8, tabW_set2 _ l p (padn_len 8 _ (by rw [List.length_map, List.length_take]; omega)) (by omega)]
  rfl
theorem at_some {w : World} {b : Nat} {t : TypeId} {cs : List Value} (h : At w b t cs) (i : Nat) (hi : i < cs.length) : ∃ v, w.cell? ⟨b, i, none⟩ = some v := ⟨_, (h.cell i).trans (List.getElem?_eq_getElem hi)⟩
end Go.Proofs.YtodehmognjofhaaGreat
