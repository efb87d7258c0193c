/-
  Floats that are not below nought: their bits compare as numbers; sums stay so; what is not a number is above nothing.
-/
import Derived.Laws.FloatArith
namespace Go.Proofs.Ytaendccnjiagiaa.Fl

abbrev inf : Nat := 9218868437227405312
abbrev M : Nat := 4503599627370496

/-- a number from +0 on, or +infinity. -/
def Pos (a : Nat) : Prop := a ≤ inf

def val (a : Nat) : Nat := if a < M then a else (M + a % M) * 2 ^ (a / M - 1)

theorem val_lt {a b : Nat} (h : a < b) : val a < val b := by
  unfold val
  have hM : 0 < M := by decide
  have ha := Nat.div_add_mod a M
  have hb := Nat.div_add_mod b M
  have ham := Nat.mod_lt a hM
  have hbm := Nat.mod_lt b hM
  by_cases h1 : a < M
  · rw [if_pos h1]
    by_cases h2 : b < M
    · rw [if_pos h2]; exact h
    · rw [if_neg h2]
      have : 0 < 2 ^ (b / M - 1) := Nat.pow_pos (by decide)
      calc a < M := h1
        _ ≤ M + b % M := Nat.le_add_right _ _
        _ = (M + b % M) * 1 := by rw [Nat.mul_one]
        _ ≤ _ := Nat.mul_le_mul_left _ this
  · have h2 : ¬ b < M := by omega
    rw [if_neg h1, if_neg h2]
    have hle : a / M ≤ b / M := Nat.div_le_div_right (by omega)
    have ea : 1 ≤ a / M := by rw [Nat.le_div_iff_mul_le hM]; omega
    rcases Nat.eq_or_lt_of_le hle with he | hlt
    · rw [he] at ha ⊢
      have : a % M < b % M := by omega
      exact Nat.mul_lt_mul_of_pos_right (by omega) (Nat.pow_pos (by decide))
    · have e1 : (M + a % M) * 2 ^ (a / M - 1) < (M + M) * 2 ^ (a / M - 1) := Nat.mul_lt_mul_of_pos_right (by omega) (Nat.pow_pos (by decide))
      have e2 : (M + M) * 2 ^ (a / M - 1) = M * 2 ^ (a / M) := by
        have : a / M = (a / M - 1) + 1 := by omega
        rw [this, Nat.pow_succ, Nat.add_sub_cancel]
        rw [← Nat.two_mul, Nat.mul_comm 2 M, Nat.mul_assoc, Nat.mul_comm 2]
      have e3 : M * 2 ^ (a / M) ≤ M * 2 ^ (b / M - 1) := Nat.mul_le_mul_left _ (Nat.pow_le_pow_right (by decide) (by omega))
      have e4 : M * 2 ^ (b / M - 1) ≤ (M + b % M) * 2 ^ (b / M - 1) := Nat.mul_le_mul_right _ (by omega)
      omega

theorem compare_val (a b : Nat) : compare (val a) (val b) = compare a b := by
  rcases Nat.lt_trichotomy a b with h | rfl | h
  · rw [Nat.compare_eq_lt.2 h, Nat.compare_eq_lt.2 (val_lt h)]
  · simp
  · rw [Nat.compare_eq_gt.2 h, Nat.compare_eq_gt.2 (val_lt h)]

theorem read_inf : Ieee.double.read inf = .infinity false := by decide +kernel

theorem read_fin {a : Nat} (h : a < inf) : ∃ (m : Nat) (u : Nat), Ieee.double.read a = .number false m (Ieee.double.leastPlace + u) ∧ val a = m * 2 ^ u := by
  have hs : Ieee.double.signWeight = 9223372036854775808 := by decide
  have hb : Ieee.double.binade = M := by decide
  have hi : Ieee.double.infRung = inf := by decide
  have h' : a < 9218868437227405312 := h
  have h1 : a / Ieee.double.signWeight = 0 := by rw [hs]; clear hs hb hi; omega
  have h2 : a % Ieee.double.signWeight = a := by rw [hs]; clear hs hb hi; omega
  unfold Ieee.Format.read
  simp only [h1, h2, hb, hi]
  by_cases hM : a < M
  · refine ⟨a, 0, ?_, ?_⟩
    · simp [hM]
    · simp [val, hM]
  · refine ⟨M + a % M, a / M - 1, ?_, ?_⟩
    · rw [if_neg hM, if_pos h]; rfl
    · simp [val, hM]

theorem compare_mul (a b k : Nat) (hk : 0 < k) : compare ((a * k : Nat) : Int) ((b * k : Nat) : Int) = compare a b := by
  have h1 : compare ((a * k : Nat) : Int) ((b * k : Nat) : Int) = compare (a * k) (b * k) := by
    simp only [compare, compareOfLessAndEq, Int.ofNat_lt, Int.natCast_inj]
  rw [h1]
  rcases Nat.lt_trichotomy a b with h | rfl | h
  · rw [Nat.compare_eq_lt.2 h, Nat.compare_eq_lt.2 (Nat.mul_lt_mul_of_pos_right h hk)]
  · simp
  · rw [Nat.compare_eq_gt.2 h, Nat.compare_eq_gt.2 (Nat.mul_lt_mul_of_pos_right h hk)]

theorem compare_nat (a b : Nat) : compare (a : Int) (b : Int) = compare a b := by
  have := compare_mul a b 1 (by decide)
  simpa using this

theorem order_fin {a b : Nat} (ha : a < inf) (hb : b < inf) : Ieee.double.order a b = some (compare a b) := by
  obtain ⟨m, u, hr, hv⟩ := read_fin ha
  obtain ⟨n, v, hr', hv'⟩ := read_fin hb
  unfold Ieee.Format.order
  rw [hr, hr']
  simp only [Ieee.Datum.order, Ieee.signed]
  rw [← compare_val a b, hv, hv']
  congr 1
  rcases Nat.le_total u v with h | h
  · have e1 : min (Ieee.double.leastPlace + (u : Int)) (Ieee.double.leastPlace + (v : Int)) = Ieee.double.leastPlace + (u : Int) := by omega
    rw [e1]
    have e2 : (Ieee.double.leastPlace + (u : Int) - (Ieee.double.leastPlace + (u : Int))).toNat = 0 := by omega
    have e3 : (Ieee.double.leastPlace + (v : Int) - (Ieee.double.leastPlace + (u : Int))).toNat = v - u := by omega
    rw [e2, e3]
    simp only [Nat.shiftLeft_eq, Nat.pow_zero, Nat.mul_one, if_neg (show ¬ (false = true) by decide)]
    have e4 : n * 2 ^ v = n * 2 ^ (v - u) * 2 ^ u := by rw [Nat.mul_assoc, ← Nat.pow_add, Nat.sub_add_cancel h]
    rw [e4, compare_nat, ← compare_nat (m * 2 ^ u), compare_mul _ _ _ (Nat.pow_pos (by decide))]
  · have e1 : min (Ieee.double.leastPlace + (u : Int)) (Ieee.double.leastPlace + (v : Int)) = Ieee.double.leastPlace + (v : Int) := by omega
    rw [e1]
    have e2 : (Ieee.double.leastPlace + (v : Int) - (Ieee.double.leastPlace + (v : Int))).toNat = 0 := by omega
    have e3 : (Ieee.double.leastPlace + (u : Int) - (Ieee.double.leastPlace + (v : Int))).toNat = u - v := by omega
    rw [e2, e3]
    simp only [Nat.shiftLeft_eq, Nat.pow_zero, Nat.mul_one, if_neg (show ¬ (false = true) by decide)]
    have e4 : m * 2 ^ u = m * 2 ^ (u - v) * 2 ^ v := by rw [Nat.mul_assoc, ← Nat.pow_add, Nat.sub_add_cancel h]
    rw [e4, compare_nat, ← compare_nat (m * 2 ^ (u - v) * 2 ^ v), compare_mul _ _ _ (Nat.pow_pos (by decide))]

/-- the bits of two numbers that are not below nought compare as the numbers. -/
theorem order_pos {a b : Nat} (ha : Pos a) (hb : Pos b) : Ieee.double.order a b = some (compare a b) := by
  unfold Pos at ha hb
  rcases Nat.lt_or_ge a inf with h1 | h1
  · rcases Nat.lt_or_ge b inf with h2 | h2
    · exact order_fin h1 h2
    · have : b = inf := by omega
      subst this
      obtain ⟨m, u, hr, _⟩ := read_fin h1
      unfold Ieee.Format.order
      rw [hr, read_inf, Nat.compare_eq_lt.2 h1]
      rfl
  · have : a = inf := by omega
    subst this
    rcases Nat.lt_or_ge b inf with h2 | h2
    · obtain ⟨m, u, hr, _⟩ := read_fin h2
      unfold Ieee.Format.order
      rw [hr, read_inf, Nat.compare_eq_gt.2 h2]
      rfl
    · have : b = inf := by omega
      subst this
      decide +kernel

def gt (a b : Nat) : Bool := Ieee.double.order a b == some .gt

theorem gt_pos {a b : Nat} (ha : Pos a) (hb : Pos b) : gt a b = decide (b < a) := by
  unfold gt
  rw [order_pos ha hb]
  rcases Nat.lt_trichotomy a b with h | rfl | h
  · rw [Nat.compare_eq_lt.2 h, decide_eq_false (by omega)]; rfl
  · simp
  · rw [Nat.compare_eq_gt.2 h, decide_eq_true h]; rfl

theorem nearest_pos (m : Nat) (p : Int) : Pos (Ieee.double.nearest false m p) := by
  unfold Ieee.Format.nearest
  split
  · simp [Ieee.Format.word, Pos]
  · simp only [Ieee.Format.word, if_neg (show ¬ (false = true) by decide)]
    have hi : Ieee.double.infRung = inf := by decide
    rw [hi]
    exact Nat.min_le_right _ _

theorem signed_pos (m u : Nat) : Ieee.signed false m u = ((m <<< u : Nat) : Int) := by simp [Ieee.signed]

/-- a sum of two such is one. -/
theorem add_pos {a b : Nat} (ha : Pos a) (hb : Pos b) : ∃ c, Ieee.double.add a b = some c ∧ Pos c := by
  unfold Pos at ha hb
  have hinf : Pos (Ieee.double.write (.infinity false)) := by unfold Pos; decide +kernel
  unfold Ieee.Format.add
  rcases Nat.lt_or_ge a inf with h1 | h1
  · obtain ⟨m, u, hr, _⟩ := read_fin h1
    rcases Nat.lt_or_ge b inf with h2 | h2
    · obtain ⟨n, v, hr', _⟩ := read_fin h2
      rw [hr, hr']
      simp only [Ieee.Datum.sum, signed_pos, Option.map_some]
      refine ⟨_, rfl, ?_⟩
      rw [← Int.natCast_add]
      have hneg : ∀ k : Nat, (if (k : Int) = 0 then (false && false) else decide ((k : Int) < 0)) = false := by
        intro k
        split
        · rfl
        · exact decide_eq_false (by omega)
      rw [hneg]
      exact nearest_pos _ _
    · have : b = inf := by omega
      subst this
      rw [hr, read_inf]
      exact ⟨_, rfl, hinf⟩
  · have : a = inf := by omega
    subst this
    rw [read_inf]
    rcases Nat.lt_or_ge b inf with h2 | h2
    · obtain ⟨n, v, hr', _⟩ := read_fin h2
      rw [hr']
      exact ⟨_, rfl, hinf⟩
    · have : b = inf := by omega
      subst this
      rw [read_inf]
      exact ⟨_, rfl, hinf⟩

/-- a product of two such is one, or no number. -/
theorem mul_pos {a b c : Nat} (ha : Pos a) (hb : Pos b) (h : Ieee.double.mul a b = some c) : Pos c := by
  unfold Pos at ha hb
  have hinf : Pos (Ieee.double.write (.infinity false)) := by unfold Pos; decide +kernel
  unfold Ieee.Format.mul at h
  rcases Nat.lt_or_ge a inf with h1 | h1
  · obtain ⟨m, u, hr, _⟩ := read_fin h1
    rcases Nat.lt_or_ge b inf with h2 | h2
    · obtain ⟨n, v, hr', _⟩ := read_fin h2
      rw [hr, hr'] at h
      simp only [Ieee.Datum.product, Option.map_some, Option.some.injEq] at h
      rw [← h]
      exact nearest_pos _ _
    · have : b = inf := by omega
      subst this
      rw [hr, read_inf] at h
      simp only [Ieee.Datum.product] at h
      split at h
      · cases h
      · simp only [Option.map_some, Option.some.injEq] at h
        rw [← h]; exact hinf
  · have : a = inf := by omega
    subst this
    rw [read_inf] at h
    rcases Nat.lt_or_ge b inf with h2 | h2
    · obtain ⟨n, v, hr', _⟩ := read_fin h2
      rw [hr'] at h
      simp only [Ieee.Datum.product] at h
      split at h
      · cases h
      · simp only [Option.map_some, Option.some.injEq] at h
        rw [← h]; exact hinf
    · have : b = inf := by omega
      subst this
      rw [read_inf] at h
      simp only [Ieee.Datum.product, Option.map_some, Option.some.injEq] at h
      rw [← h]; exact hinf

/-- what the tape gives for no number. -/
theorem order_nan (a x y t : Nat) : Ieee.double.order a ((Question.nanBits .f64 x y).cut t) = none := by
  have hs : Ieee.double.signWeight = 9223372036854775808 := by decide
  have hb : Ieee.double.binade = M := by decide
  have hi : Ieee.double.infRung = inf := by decide
  unfold Ieee.Format.order
  have hr : ∃ n f, Ieee.double.read ((Question.nanBits .f64 x y).cut t) = .nan n f := by
    simp only [Question.cut]
    generalize hq : t / 2 % (2 ^ 52 - 1) = q
    have hq' : q < 4503599627370495 := by rw [← hq]; exact Nat.mod_lt _ (by decide)
    have hp : t % 2 < 2 := Nat.mod_lt _ (by decide)
    generalize t % 2 = p at hp ⊢
    unfold Ieee.Format.read
    rw [hs, hb, hi]
    simp only [show (2 : Nat) ^ 63 = 9223372036854775808 from rfl]
    have e : (p * 9223372036854775808 + 9218868437227405312 + 1 + q) % 9223372036854775808 = 9218868437227405312 + 1 + q := by omega
    rw [e]
    rw [if_neg (by show ¬ _ < 4503599627370496; omega), if_neg (by show ¬ _ < 9218868437227405312; omega), if_neg (by show ¬ _ = 9218868437227405312; omega)]
    exact ⟨_, _, rfl⟩
  obtain ⟨n, f, hr⟩ := hr
  rw [hr]
  cases Ieee.double.read a <;> rfl

/-- x - x is nought, or no number. -/
theorem sub_self {a : Nat} (ha : Pos a) : Ieee.double.sub a a = if a < inf then some 0 else none := by
  unfold Pos at ha
  unfold Ieee.Format.sub
  rcases Nat.lt_or_ge a inf with h1 | h1
  · obtain ⟨m, u, hr, _⟩ := read_fin h1
    rw [hr, if_pos h1]
    have e : Ieee.signed false m 0 + Ieee.signed (!false) m 0 = 0 := by simp [Ieee.signed]; omega
    simp only [Ieee.Datum.opposite, Ieee.Datum.sum, Option.map_some, Option.some.injEq, Int.min_self, Int.sub_self, Int.toNat_zero, e]
    rfl
  · have : a = inf := by omega
    subst this
    decide +kernel

/-- what is no number above nought is not above nought. -/
theorem gt_zero {x : Nat} (hx : x < 18446744073709551616) (h : ¬ (0 < x ∧ x ≤ 9218868437227405312)) : gt x 0 = false := by
  have hs : Ieee.double.signWeight = 9223372036854775808 := by decide
  have hb : Ieee.double.binade = 4503599627370496 := by decide
  have hi : Ieee.double.infRung = 9218868437227405312 := by decide
  have h0 : Ieee.double.read 0 = .number false 0 Ieee.double.leastPlace := by decide +kernel
  unfold gt Ieee.Format.order
  rw [h0]
  by_cases hx0 : x = 0
  · subst hx0; rw [h0]; decide +kernel
  have hneg : ∀ m p, (Ieee.Datum.order (.number true m p) (.number false 0 Ieee.double.leastPlace) == some .gt) = false := by
    intro m p
    simp only [Ieee.Datum.order, Ieee.signed, if_pos, Nat.zero_shiftLeft]
    generalize m <<< (p - min p Ieee.double.leastPlace).toNat = q
    have : compare (-(q : Int)) (if (false : Bool) = true then -((0 : Nat) : Int) else ((0 : Nat) : Int)) ≠ .gt := by
      simp only [if_neg (show ¬ (false = true) by decide)]
      intro hc
      have := Int.compare_eq_gt.1 hc
      omega
    rw [beq_eq_false_iff_ne]
    intro hc
    exact this (Option.some.inj hc)
  unfold Ieee.Format.read
  simp only [hs, hb, hi]
  by_cases h63 : x < 9223372036854775808
  · have e1 : x / 9223372036854775808 % 2 = 0 := by omega
    have e2 : x % 9223372036854775808 = x := by omega
    rw [e1, e2, if_neg (by omega), if_neg (by omega), if_neg (by omega)]
    rfl
  · have e1 : x / 9223372036854775808 % 2 = 1 := by omega
    rw [e1]
    split
    · exact hneg _ _
    · split
      · exact hneg _ _
      · split
        · rfl
        · rfl
end Go.Proofs.Ytaendccnjiagiaa.Fl
