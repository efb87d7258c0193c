/-
  Floats under a power of two: sums and products go with it, as long as they are normal.
-/
import Derived.Test.YtaendccnjiagiaaFloat
namespace Go.Proofs.Ytaendccnjiagiaa.Fl

/-- the bits of a normal number: its exponent's field is e (from 1 on). -/
def Norm (a e : Nat) : Prop := a / M = e ∧ 1 ≤ e
theorem read_norm {a e : Nat} (h : Norm a e) (he : e ≤ 2046) : Ieee.double.read a = .number false (M + a % M) (Ieee.double.leastPlace + ((e - 1 : Nat) : Int)) := by
  have hs : Ieee.double.signWeight = 9223372036854775808 := by decide
  have hb : Ieee.double.binade = 4503599627370496 := by decide
  have hi : Ieee.double.infRung = 9218868437227405312 := by decide
  obtain ⟨h1, h2⟩ := h
  have h1' : a / 4503599627370496 = e := h1
  have h3 : a / Ieee.double.signWeight = 0 := by rw [hs]; clear hs hb hi; omega
  have h4 : a % Ieee.double.signWeight = a := by rw [hs]; clear hs hb hi; omega
  unfold Ieee.Format.read
  simp only [h3, h4, hb, hi]
  rw [if_neg (by omega), if_pos (by omega), h1']
  rfl
theorem log2_norm {m k : Nat} (h1 : 2 ^ k ≤ m) (h2 : m < 2 ^ (k + 1)) : m.log2 = k := by
  have h0 : m ≠ 0 := by have : 0 < 2 ^ k := Nat.pow_pos (by decide); omega
  rw [Nat.log2_eq_iff h0]
  exact ⟨h1, h2⟩

/-- a normal result: the place of the last digit that is kept is not the least one. -/
theorem nearest_norm {m : Nat} {p : Int} (hm : m ≠ 0) (hn : Ieee.double.leastPlace ≤ p + m.log2 - 52) :
    Ieee.double.nearest false m p = min ((p + m.log2 - 52 - Ieee.double.leastPlace).toNat * M + Ieee.Toward.even.cut false (m <<< (52 - m.log2 : Int).toNat) (m.log2 - 52 : Int).toNat) inf := by
  unfold Ieee.Format.nearest
  have hf : (Ieee.double.fractionBits : Int) = 52 := by decide
  have hb : Ieee.double.binade = M := by decide
  have hi : Ieee.double.infRung = inf := by decide
  rw [if_neg hm]
  simp only [Ieee.Format.word, if_neg (show ¬ (false = true) by decide), hf, hb, hi]
  have e : max (p + (m.log2 : Int) - 52) Ieee.double.leastPlace = p + (m.log2 : Int) - 52 := by omega
  rw [e]
  have e1 : (p - (p + (m.log2 : Int) - 52)).toNat = (52 - (m.log2 : Int)).toNat := by omega
  have e2 : (p + (m.log2 : Int) - 52 - p).toNat = ((m.log2 : Int) - 52).toNat := by omega
  rw [e1, e2]

/-- what is kept has 53 digits, or is the next power. -/
theorem cut_bounds (n d : Nat) (h1 : 2 ^ (52 + d) ≤ n) (h2 : n < 2 ^ (53 + d)) : M ≤ Ieee.Toward.even.cut false n d ∧ Ieee.Toward.even.cut false n d ≤ 2 * M := by
  have hl : n.log2 = 52 + d := log2_norm h1 (by rw [show 52 + d + 1 = 53 + d by omega]; exact h2)
  unfold Ieee.Toward.cut
  have hmin : min d (n.log2 + 2) = d := by omega
  simp only [hmin, Nat.one_shiftLeft]
  have hpos : 0 < 2 ^ d := Nat.pow_pos (by decide)
  have hlo : M ≤ n / 2 ^ d := by
    rw [Nat.le_div_iff_mul_le hpos]
    show 2 ^ 52 * 2 ^ d ≤ n
    rw [← Nat.pow_add]; exact h1
  have hhi : n / 2 ^ d < 2 * M := by
    rw [Nat.div_lt_iff_lt_mul hpos]
    show n < 2 ^ 53 * 2 ^ d
    rw [← Nat.pow_add]; exact h2
  have hb : ∀ b : Bool, b.toNat ≤ 1 := by intro b; cases b <;> decide
  refine ⟨Nat.le_trans hlo (Nat.le_add_right _ _), ?_⟩
  have := hb (2 ^ d < 2 * (n % 2 ^ d) || (2 ^ d == 2 * (n % 2 ^ d) && n / 2 ^ d % 2 == 1))
  omega
theorem kept_bounds {m : Nat} (hm : m ≠ 0) : M ≤ Ieee.Toward.even.cut false (m <<< (52 - m.log2 : Int).toNat) (m.log2 - 52 : Int).toNat ∧ Ieee.Toward.even.cut false (m <<< (52 - m.log2 : Int).toNat) (m.log2 - 52 : Int).toNat ≤ 2 * M := by
  obtain ⟨h1, h2⟩ := (Nat.log2_eq_iff hm).1 (rfl : m.log2 = m.log2)
  rcases Nat.lt_or_ge m.log2 52 with h | h
  · have e1 : (52 - (m.log2 : Int)).toNat = 52 - m.log2 := by omega
    have e2 : ((m.log2 : Int) - 52).toNat = 0 := by omega
    rw [e1, e2]
    apply cut_bounds
    · rw [Nat.shiftLeft_eq]
      calc 2 ^ (52 + 0) = 2 ^ m.log2 * 2 ^ (52 - m.log2) := by rw [← Nat.pow_add]; congr 1; omega
        _ ≤ _ := Nat.mul_le_mul_right _ h1
    · rw [Nat.shiftLeft_eq]
      calc m * 2 ^ (52 - m.log2) < 2 ^ (m.log2 + 1) * 2 ^ (52 - m.log2) := Nat.mul_lt_mul_of_pos_right h2 (Nat.pow_pos (by decide))
        _ = 2 ^ (53 + 0) := by rw [← Nat.pow_add]; congr 1; omega
  · have e1 : (52 - (m.log2 : Int)).toNat = 0 := by omega
    have e2 : ((m.log2 : Int) - 52).toNat = m.log2 - 52 := by omega
    rw [e1, e2, Nat.shiftLeft_zero]
    apply cut_bounds
    · rw [show 52 + (m.log2 - 52) = m.log2 by omega]; exact h1
    · rw [show 53 + (m.log2 - 52) = m.log2 + 1 by omega]; exact h2

/-- of a normal result: it goes with the place, as long as it stays normal and finite. -/
theorem nearest_shift {m : Nat} {p k : Int} (hm : m ≠ 0) (h1 : Ieee.double.leastPlace ≤ p + m.log2 - 52) (h2 : Ieee.double.leastPlace ≤ p + k + m.log2 - 52)
    (h3 : p + m.log2 - 52 - Ieee.double.leastPlace ≤ 2043) (h4 : p + k + m.log2 - 52 - Ieee.double.leastPlace ≤ 2043) :
    (Ieee.double.nearest false m (p + k) : Int) = (Ieee.double.nearest false m p : Int) + k * M ∧
    ((p + m.log2 - 52 - Ieee.double.leastPlace).toNat + 1) * M ≤ Ieee.double.nearest false m p ∧ Ieee.double.nearest false m p ≤ ((p + m.log2 - 52 - Ieee.double.leastPlace).toNat + 2) * M := by
  obtain ⟨k1, k2⟩ := kept_bounds hm
  rw [nearest_norm hm h1, nearest_norm hm h2]
  generalize Ieee.Toward.even.cut false (m <<< (52 - m.log2 : Int).toNat) (m.log2 - 52 : Int).toNat = c at k1 k2
  generalize hu : p + (m.log2 : Int) - 52 - Ieee.double.leastPlace = u at *
  have hv : p + k + (m.log2 : Int) - 52 - Ieee.double.leastPlace = u + k := by omega
  rw [hv] at h4 ⊢
  have hu0 : 0 ≤ u := by omega
  have huk : 0 ≤ u + k := by omega
  obtain ⟨a, rfl⟩ := Int.eq_ofNat_of_zero_le hu0
  obtain ⟨b, hb⟩ := Int.eq_ofNat_of_zero_le huk
  rw [hb]
  simp only [Int.toNat_natCast]
  have ha' : a ≤ 2043 := by omega
  have hb' : b ≤ 2043 := by omega
  have hinf : inf = 2047 * M := by decide
  have hk : k = (b : Int) - (a : Int) := by omega
  have le (x : Nat) (hx : x ≤ 2043) : x * M + c ≤ inf := by
    rw [hinf]
    calc x * M + c ≤ 2043 * M + 2 * M := Nat.add_le_add (Nat.mul_le_mul_right _ hx) k2
      _ = 2045 * M := (Nat.add_mul _ _ _).symm
      _ ≤ 2047 * M := Nat.mul_le_mul_right _ (by decide)
  rw [Nat.min_eq_left (le a ha'), Nat.min_eq_left (le b hb'), hk]
  generalize M = X at *
  refine ⟨?_, ?_, ?_⟩
  · rw [Int.sub_mul, Int.natCast_add, Int.natCast_add, Int.natCast_mul, Int.natCast_mul]
    omega
  · rw [Nat.add_mul, Nat.one_mul]; omega
  · rw [Nat.add_mul]; omega

theorem Norm.shift {a e a' : Nat} {k : Int} (h : Norm a e) (ha : (a' : Int) = (a : Int) + k * M) (hk : 1 ≤ (e : Int) + k) : ∃ e' : Nat, (e' : Int) = (e : Int) + k ∧ Norm a' e' ∧ a' % M = a % M := by
  obtain ⟨h1, h2⟩ := h
  obtain ⟨e', he'⟩ := Int.eq_ofNat_of_zero_le (show 0 ≤ (e : Int) + k by omega)
  have hd := Nat.div_add_mod a M
  have hM : 0 < M := by decide
  have hm := Nat.mod_lt a hM
  have hk' : k = (e' : Int) - (e : Int) := by omega
  have hx : a' = M * e' + a % M := by
    rw [h1] at hd
    generalize a % M = r at *
    rw [hk', Int.sub_mul] at ha
    generalize M = X at *
    have e1 : ((X * e' : Nat) : Int) = (e' : Int) * X := by rw [Int.natCast_mul, Int.mul_comm]
    have e2 : ((X * e : Nat) : Int) = (e : Int) * X := by rw [Int.natCast_mul, Int.mul_comm]
    have : (a' : Int) = ((X * e' + r : Nat) : Int) := by rw [Int.natCast_add, e1, ha, ← hd, Int.natCast_add, e2]; omega
    exact Int.natCast_inj.1 this
  refine ⟨e', he'.symm, ⟨?_, by omega⟩, ?_⟩
  · rw [hx, Nat.mul_comm, Nat.add_comm, Nat.add_mul_div_right _ _ hM, Nat.div_eq_of_lt hm, Nat.zero_add]
  · rw [hx, Nat.mul_add_mod, Nat.mod_eq_of_lt hm]

theorem mag_bounds (a : Nat) : 2 ^ 52 ≤ M + a % M ∧ M + a % M < 2 ^ 53 := by
  have := Nat.mod_lt a (show 0 < M by decide)
  have h1 : (2 : Nat) ^ 52 = M := by decide
  have h2 : (2 : Nat) ^ 53 = M + M := by decide
  rw [h1, h2]; omega

theorem sum_read {m n : Nat} {i j : Int} : Ieee.Datum.sum (.number false m i) (.number false n j) = some (.number false (m <<< (i - min i j).toNat + n <<< (j - min i j).toNat) (min i j)) := by
  simp only [Ieee.Datum.sum, signed_pos]
  rw [← Int.natCast_add]
  generalize m <<< (i - min i j).toNat + n <<< (j - min i j).toNat = t
  congr 2
  split
  · rfl
  · exact decide_eq_false (by omega)

/-- the sum of two normal numbers. -/
theorem add_norm {a b ea eb : Nat} (ha : Norm a ea) (hb : Norm b eb) (h1 : ea ≤ 2000) (h2 : eb ≤ 2000) : ∃ (t : Nat) (p : Int), t ≠ 0 ∧
    (∀ (k : Int) (a' b' : Nat), (a' : Int) = (a : Int) + k * M → (b' : Int) = (b : Int) + k * M → 1 ≤ (ea : Int) + k → 1 ≤ (eb : Int) + k → (ea : Int) + k ≤ 2000 → (eb : Int) + k ≤ 2000 → Ieee.double.add a' b' = some (Ieee.double.nearest false t (p + k))) ∧
    ((max ea eb : Nat) : Int) - 1 ≤ p + t.log2 - 52 - Ieee.double.leastPlace ∧ p + t.log2 - 52 - Ieee.double.leastPlace ≤ ((max ea eb : Nat) : Int) := by
  obtain ⟨ma1, ma2⟩ := mag_bounds a
  obtain ⟨mb1, mb2⟩ := mag_bounds b
  obtain ⟨-, ha0⟩ := id ha
  obtain ⟨-, hb0⟩ := id hb
  refine ⟨(M + a % M) <<< (ea - min ea eb) + (M + b % M) <<< (eb - min ea eb), Ieee.double.leastPlace + ((min ea eb - 1 : Nat) : Int), ?_, ?_, ?_⟩
  · rw [Nat.shiftLeft_eq]
    have : 0 < (M + a % M) * 2 ^ (ea - min ea eb) := Nat.mul_pos (by omega) (Nat.pow_pos (by decide))
    exact Nat.ne_of_gt (Nat.lt_of_lt_of_le this (Nat.le_add_right _ _))
  · intro k a' b' e1 e2 l1 l2 u1 u2
    obtain ⟨ea', f1, f2, f3⟩ := ha.shift e1 l1
    obtain ⟨eb', g1, g2, g3⟩ := hb.shift e2 l2
    unfold Ieee.Format.add
    rw [read_norm f2 (by omega), read_norm g2 (by omega), sum_read, f3, g3]
    simp only [Option.map_some, Ieee.Format.write]
    have c1 : (Ieee.double.leastPlace + ((ea' - 1 : Nat) : Int) - min (Ieee.double.leastPlace + ((ea' - 1 : Nat) : Int)) (Ieee.double.leastPlace + ((eb' - 1 : Nat) : Int))).toNat = ea - min ea eb := by omega
    have c2 : (Ieee.double.leastPlace + ((eb' - 1 : Nat) : Int) - min (Ieee.double.leastPlace + ((ea' - 1 : Nat) : Int)) (Ieee.double.leastPlace + ((eb' - 1 : Nat) : Int))).toNat = eb - min ea eb := by omega
    have c3 : min (Ieee.double.leastPlace + ((ea' - 1 : Nat) : Int)) (Ieee.double.leastPlace + ((eb' - 1 : Nat) : Int)) = Ieee.double.leastPlace + ((min ea eb - 1 : Nat) : Int) + k := by omega
    rw [c1, c2, c3]
  · rw [Nat.shiftLeft_eq, Nat.shiftLeft_eq]
    have hlog : ∀ (x y d : Nat), 2 ^ 52 ≤ x → x < 2 ^ 53 → y < 2 ^ 53 * 2 ^ d → 52 + d ≤ (x * 2 ^ d + y).log2 ∧ (x * 2 ^ d + y).log2 ≤ 53 + d := by
      intro x y d x1 x2 y2
      have p0 : 0 < 2 ^ d := Nat.pow_pos (by decide)
      have lo : 2 ^ (52 + d) ≤ x * 2 ^ d + y := by rw [Nat.pow_add]; exact Nat.le_trans (Nat.mul_le_mul_right _ x1) (Nat.le_add_right _ _)
      have hi : x * 2 ^ d + y < 2 ^ (54 + d) := by
        have h3 : x * 2 ^ d < 2 ^ 53 * 2 ^ d := Nat.mul_lt_mul_of_pos_right x2 p0
        rw [show 54 + d = (53 + d) + 1 by omega, Nat.pow_succ, Nat.pow_add]
        omega
      have hne : x * 2 ^ d + y ≠ 0 := by have : 0 < 2 ^ (52 + d) := Nat.pow_pos (by decide); omega
      exact ⟨(Nat.le_log2 hne).2 lo, by have := (Nat.log2_lt hne).2 hi; omega⟩
    rcases Nat.le_total ea eb with h | h
    · have d1 : ea - min ea eb = 0 := by omega
      have d2 : eb - min ea eb = eb - ea := by omega
      rw [d1, d2, Nat.pow_zero, Nat.mul_one, Nat.add_comm (M + a % M)]
      have p0 : 0 < 2 ^ (eb - ea) := Nat.pow_pos (by decide)
      obtain ⟨q1, q2⟩ := hlog _ (M + a % M) (eb - ea) mb1 mb2 (Nat.lt_of_lt_of_le ma2 (Nat.le_mul_of_pos_right _ p0))
      omega
    · have d1 : eb - min ea eb = 0 := by omega
      have d2 : ea - min ea eb = ea - eb := by omega
      rw [d1, d2, Nat.pow_zero, Nat.mul_one]
      have p0 : 0 < 2 ^ (ea - eb) := Nat.pow_pos (by decide)
      obtain ⟨q1, q2⟩ := hlog _ (M + b % M) (ea - eb) ma1 ma2 (Nat.lt_of_lt_of_le mb2 (Nat.le_mul_of_pos_right _ p0))
      omega

theorem norm_of {c u : Nat} (h1 : (u + 1) * M ≤ c) (h2 : c ≤ (u + 2) * M) : ∃ e, Norm c e ∧ u + 1 ≤ e ∧ e ≤ u + 2 := by
  have hM : 0 < M := by decide
  refine ⟨c / M, ⟨rfl, ?_⟩, ?_, ?_⟩
  · have := (Nat.le_div_iff_mul_le hM).2 h1; omega
  · exact (Nat.le_div_iff_mul_le hM).2 h1
  · rw [Nat.div_le_iff_le_mul hM]; omega

/-- sums go with a power of two. -/
theorem add_scale {a b ea eb a' b' : Nat} {k : Int} (ha : Norm a ea) (hb : Norm b eb) (h1 : ea ≤ 2000) (h2 : eb ≤ 2000) (ha' : (a' : Int) = (a : Int) + k * M) (hb' : (b' : Int) = (b : Int) + k * M)
    (l1 : 1 ≤ (ea : Int) + k) (l2 : 1 ≤ (eb : Int) + k) (u1 : (ea : Int) + k ≤ 2000) (u2 : (eb : Int) + k ≤ 2000) :
    ∃ c c' e, Ieee.double.add a b = some c ∧ Ieee.double.add a' b' = some c' ∧ (c' : Int) = (c : Int) + k * M ∧ Norm c e ∧ max ea eb ≤ e ∧ e ≤ max ea eb + 2 := by
  obtain ⟨t, p, ht, hadd, q1, q2⟩ := add_norm ha hb h1 h2
  have e1 := hadd 0 a b (by simp) (by simp) (by have := ha.2; omega) (by have := hb.2; omega) (by omega) (by omega)
  have e2 := hadd k a' b' ha' hb' l1 l2 u1 u2
  rw [Int.add_zero] at e1
  have h0 := ha.2
  have h0' := hb.2
  obtain ⟨n1, n2, n3⟩ := nearest_shift (k := k) ht (p := p) (by omega) (by omega) (by omega) (by omega)
  obtain ⟨e, f1, f2, f3⟩ := norm_of n2 n3
  exact ⟨_, _, e, e1, e2, n1, f1, by omega, by omega⟩

theorem cut_exact (n d : Nat) (hn : n ≠ 0) : Ieee.Toward.even.cut false (n * 2 ^ d) d = n := by
  have hp : 0 < 2 ^ d := Nat.pow_pos (by decide)
  have hmin : min d ((n * 2 ^ d).log2 + 2) = d := by
    have hne : n * 2 ^ d ≠ 0 := Nat.mul_ne_zero hn (by omega)
    have : d ≤ (n * 2 ^ d).log2 := (Nat.le_log2 hne).2 (Nat.le_mul_of_pos_left _ (by omega))
    omega
  unfold Ieee.Toward.cut
  simp only [hmin, Nat.one_shiftLeft, Nat.mul_div_cancel _ hp, Nat.mul_mod_left]
  have : (decide (2 ^ d < 2 * 0) || (2 ^ d == 2 * 0 && n % 2 == 1)) = false := by
    simp only [Nat.mul_zero, Nat.not_lt_zero, decide_false, Bool.false_or, Bool.and_eq_false_iff, beq_eq_false_iff_ne]
    left; omega
  simp only [this]; rfl

/-- a number that is there is written as itself: m digits, d noughts behind. -/
theorem nearest_exact {a e d : Nat} {p : Int} (h : Norm a e) (he : e ≤ 2046) (hp : p + d = Ieee.double.leastPlace + ((e - 1 : Nat) : Int)) : Ieee.double.nearest false ((M + a % M) * 2 ^ d) p = a := by
  obtain ⟨m1, m2⟩ := mag_bounds a
  have hne : M + a % M ≠ 0 := by have : 0 < 2 ^ 52 := by decide
                                 omega
  have hne2 : (M + a % M) * 2 ^ d ≠ 0 := Nat.mul_ne_zero hne (by have : 0 < 2 ^ d := Nat.pow_pos (by decide)
                                                                 omega)
  have hl : ((M + a % M) * 2 ^ d).log2 = 52 + d := by
    apply log2_norm
    · rw [Nat.pow_add]; exact Nat.mul_le_mul_right _ m1
    · rw [show 52 + d + 1 = 53 + d by omega, Nat.pow_add]; exact Nat.mul_lt_mul_of_pos_right m2 (Nat.pow_pos (by decide))
  have h0 := h.2
  rw [nearest_norm hne2 (by rw [hl]; omega), hl]
  have c1 : (52 - ((52 + d : Nat) : Int)).toNat = 0 := by omega
  have c2 : (((52 + d : Nat) : Int) - 52).toNat = d := by omega
  have c3 : (p + ((52 + d : Nat) : Int) - 52 - Ieee.double.leastPlace).toNat = e - 1 := by omega
  rw [c1, c2, c3, Nat.shiftLeft_zero, cut_exact _ _ hne]
  have hd := Nat.div_add_mod a M
  rw [h.1] at hd
  have hinf : inf = 2047 * M := by decide
  have hml := Nat.mod_lt a (show 0 < M by decide)
  have e1 : (e - 1) * M + (M + a % M) = a := by
    have : (e - 1) * M + M = e * M := by rw [← Nat.succ_mul]; congr 1; omega
    rw [← Nat.add_assoc, this, Nat.mul_comm]; exact hd
  rw [e1, Nat.min_eq_left]
  rw [hinf, ← hd]
  generalize a % M = r at *
  generalize hX : M = X at *
  have : X * e ≤ X * 2046 := Nat.mul_le_mul_left _ he
  omega

theorem read_zero : Ieee.double.read 0 = .number false 0 Ieee.double.leastPlace := by decide +kernel
/-- nought and a normal number. -/
theorem zero_add {a e : Nat} (h : Norm a e) (he : e ≤ 2046) : Ieee.double.add 0 a = some a := by
  unfold Ieee.Format.add
  rw [read_zero, read_norm h he, sum_read]
  simp only [Option.map_some, Ieee.Format.write]
  have c3 : min Ieee.double.leastPlace (Ieee.double.leastPlace + ((e - 1 : Nat) : Int)) = Ieee.double.leastPlace := by omega
  have c2 : (Ieee.double.leastPlace + ((e - 1 : Nat) : Int) - Ieee.double.leastPlace).toNat = e - 1 := by omega
  rw [c3, c2, Nat.zero_shiftLeft, Nat.zero_add, Nat.shiftLeft_eq, nearest_exact h he rfl]

/-- times a power of two. -/
theorem mul_pow {a e b : Nat} {k : Int} (h : Norm a e) (he : e ≤ 2000) (hb : (b : Int) = (1023 + k) * M) (l1 : 1 ≤ (e : Int) + k) (l2 : (e : Int) + k ≤ 2000) (l3 : 1 ≤ 1023 + k) (l4 : 1023 + k ≤ 2046) :
    ∃ a', Ieee.double.mul a b = some a' ∧ (a' : Int) = (a : Int) + k * M := by
  obtain ⟨kb, hkb⟩ := Int.eq_ofNat_of_zero_le (show 0 ≤ 1023 + k by omega)
  have hbn : b = kb * M := by rw [hkb, ← Int.natCast_mul] at hb; exact Int.natCast_inj.1 hb
  have hM : 0 < M := by decide
  have nb : Norm b kb := ⟨by rw [hbn, Nat.mul_div_cancel _ hM], by omega⟩
  have bm : b % M = 0 := by rw [hbn]; exact Nat.mul_mod_left _ _
  have hd := Nat.div_add_mod a M
  have hml := Nat.mod_lt a hM
  have hex : ∃ a' : Nat, (a' : Int) = (a : Int) + k * M := by
    refine ⟨((a : Int) + k * M).toNat, ?_⟩
    rw [Int.toNat_of_nonneg]
    obtain ⟨h1, h2⟩ := h
    rw [h1] at hd
    have hk : -((e : Int) - 1) ≤ k := by omega
    have h3 : -((e : Int) - 1) * (M : Int) ≤ k * M := Int.mul_le_mul_of_nonneg_right hk (Int.natCast_nonneg _)
    have h4 : ((M * e : Nat) : Int) = (e : Int) * M := by rw [Int.natCast_mul, Int.mul_comm]
    have h5 : -((e : Int) - 1) * (M : Int) = -((e : Int) * M) + M := by rw [Int.neg_mul, Int.sub_mul]; omega
    have h6 : (a : Int) = ((M * e + a % M : Nat) : Int) := by rw [hd]
    rw [Int.natCast_add, h4] at h6
    omega
  obtain ⟨a', ha'⟩ := hex
  obtain ⟨e', f1, f2, f3⟩ := h.shift ha' l1
  refine ⟨a', ?_, ha'⟩
  unfold Ieee.Format.mul
  have hle : (Ieee.double.leastPlace : Int) = -1074 := by decide
  rw [read_norm h (by omega), read_norm nb (by omega), bm, Nat.add_zero]
  simp only [Ieee.Datum.product, Option.map_some, Ieee.Format.write, Bool.xor_false]
  have h0 := h.2
  have e52 : M = 2 ^ 52 := by decide
  have := nearest_exact (d := 52) (p := Ieee.double.leastPlace + ((e - 1 : Nat) : Int) + (Ieee.double.leastPlace + ((kb - 1 : Nat) : Int))) f2 (by omega) (by rw [hle]; omega)
  rw [f3] at this
  rw [← this]

/-- whatever a result is: it is not far above its first digit's place. -/
theorem nearest_le {m : Nat} {p : Int} (hm : m ≠ 0) (u : Nat) (hu : p + m.log2 - 52 - Ieee.double.leastPlace ≤ u) : Ieee.double.nearest false m p ≤ (u + 2) * M := by
  rcases Int.lt_or_le (p + m.log2 - 52) Ieee.double.leastPlace with h | h
  · unfold Ieee.Format.nearest
    have hf : (Ieee.double.fractionBits : Int) = 52 := by decide
    have hb : Ieee.double.binade = M := by decide
    rw [if_neg hm]
    simp only [Ieee.Format.word, if_neg (show ¬ (false = true) by decide), hf, hb]
    have e : max (p + (m.log2 : Int) - 52) Ieee.double.leastPlace = Ieee.double.leastPlace := by omega
    rw [e, Int.sub_self, Int.toNat_zero, Nat.zero_mul, Nat.zero_add]
    refine Nat.le_trans (Nat.min_le_left _ _) ?_
    have hml : m < 2 ^ (m.log2 + 1) := (Nat.log2_lt hm).1 (Nat.lt_succ_self _)
    have hcut : ∀ n d : Nat, Ieee.Toward.even.cut false n d ≤ n / 2 ^ (min d (n.log2 + 2)) + 1 := by
      intro n d
      unfold Ieee.Toward.cut
      simp only [Nat.one_shiftLeft]
      have hb : ∀ b : Bool, b.toNat ≤ 1 := by intro b; cases b <;> decide
      exact Nat.add_le_add_left (hb _) _
    have hM2 : M + 1 ≤ (u + 2) * M := by
      have : 2 * M ≤ (u + 2) * M := Nat.mul_le_mul_right _ (by omega)
      have : 1 ≤ M := by decide
      omega
    refine Nat.le_trans (hcut _ _) (Nat.le_trans (Nat.add_le_add_right ?_ 1) hM2)
    rcases Int.lt_or_le p Ieee.double.leastPlace with h2 | h2
    · have c1 : (p - Ieee.double.leastPlace).toNat = 0 := by omega
      rw [c1, Nat.shiftLeft_zero]
      rcases Nat.lt_or_ge (m.log2 + 2) (Ieee.double.leastPlace - p).toNat with h3 | h3
      · rw [Nat.min_eq_right (by omega)]
        rw [Nat.div_eq_of_lt]
        · exact Nat.zero_le _
        · exact Nat.lt_of_lt_of_le hml (Nat.pow_le_pow_right (by decide) (by omega))
      · rw [Nat.min_eq_left h3]
        rw [Nat.div_le_iff_le_mul (Nat.pow_pos (by decide))]
        have h4 : m < M * 2 ^ (Ieee.double.leastPlace - p).toNat := by
          refine Nat.lt_of_lt_of_le hml ?_
          rw [show M = 2 ^ 52 from by decide, ← Nat.pow_add]
          exact Nat.pow_le_pow_right (by decide) (by omega)
        have : 0 < 2 ^ (Ieee.double.leastPlace - p).toNat := Nat.pow_pos (by decide)
        omega
    · have c2 : (Ieee.double.leastPlace - p).toNat = 0 := by omega
      rw [c2, Nat.zero_min, Nat.pow_zero, Nat.div_one, Nat.shiftLeft_eq]
      have h4 : m * 2 ^ (p - Ieee.double.leastPlace).toNat < 2 ^ (m.log2 + 1) * 2 ^ (p - Ieee.double.leastPlace).toNat := Nat.mul_lt_mul_of_pos_right hml (Nat.pow_pos (by decide))
      rw [← Nat.pow_add] at h4
      have h5 : 2 ^ (m.log2 + 1 + (p - Ieee.double.leastPlace).toNat) ≤ 2 ^ 52 := Nat.pow_le_pow_right (by decide) (by omega)
      have h6 : (2 : Nat) ^ 52 = M := by decide
      omega
  · rw [nearest_norm hm h]
    refine Nat.le_trans (Nat.min_le_left _ _) ?_
    have h2 := (kept_bounds hm).2
    have h3 : (p + (m.log2 : Int) - 52 - Ieee.double.leastPlace).toNat * M ≤ u * M := Nat.mul_le_mul_right _ (by omega)
    rw [Nat.add_mul]
    exact Nat.add_le_add h3 h2

/-- a number above nought and below 1: its first digit's place is below nought. -/
theorem read_below {x : Nat} (h0 : 0 < x) (h1 : x < 4607182418800017408) : ∃ (m : Nat) (p : Int), Ieee.double.read x = .number false m p ∧ m ≠ 0 ∧ p + m.log2 ≤ -1 := by
  have hle : (Ieee.double.leastPlace : Int) = -1074 := by decide
  rcases Nat.lt_or_ge x M with h | h
  · have hs : Ieee.double.signWeight = 9223372036854775808 := by decide
    have hb : Ieee.double.binade = M := by decide
    have e1 : x / 9223372036854775808 = 0 := by omega
    have e2 : x % 9223372036854775808 = x := by omega
    refine ⟨x, Ieee.double.leastPlace, ?_, by omega, ?_⟩
    · unfold Ieee.Format.read
      simp only [hs, hb, e1, e2]
      rw [if_pos h]; rfl
    · have : x.log2 < 52 := (Nat.log2_lt (by omega)).2 (by rw [show (2 : Nat) ^ 52 = M by decide]; exact h)
      omega
  · have hn : Norm x (x / M) := ⟨rfl, (Nat.le_div_iff_mul_le (by decide)).2 (by omega)⟩
    have hlt : x / M < 1023 := by
      rw [Nat.div_lt_iff_lt_mul (by decide)]
      have : 1023 * M = 4607182418800017408 := by decide
      omega
    have h2 := hn.2
    obtain ⟨m1, m2⟩ := mag_bounds x
    have hl : (M + x % M).log2 = 52 := log2_norm m1 m2
    refine ⟨_, _, read_norm hn (by omega), by have : 0 < 2 ^ 52 := by decide
                                              omega, ?_⟩
    rw [hl]
    omega

/-- x times a total, where x is above nought and below 1: it goes with a power of two, or is far below what is normal. -/
theorem aim_scale {x t e t' : Nat} {k : Int} (h0 : 0 < x) (h1 : x < 4607182418800017408) (ht : Norm t e) (he : e ≤ 1400) (ht' : (t' : Int) = (t : Int) + k * M) (l1 : 1 ≤ (e : Int) + k) (l2 : (e : Int) + k ≤ 1400) (hk1 : -200 ≤ k) (hk2 : k ≤ 200) :
    ∃ a a', Ieee.double.mul x t = some a ∧ Ieee.double.mul x t' = some a' ∧ Pos a ∧ Pos a' ∧ ((a' : Int) = (a : Int) + k * M ∨ a ≤ 402 * M ∧ a' ≤ 402 * M) := by
  obtain ⟨mx, px, hrx, hmx, hpx⟩ := read_below h0 h1
  obtain ⟨e', f1, f2, f3⟩ := ht.shift ht' l1
  have he0 := ht.2
  have he0' := f2.2
  obtain ⟨m1, m2⟩ := mag_bounds t
  have hmt : M + t % M ≠ 0 := by have : 0 < 2 ^ 52 := by decide
                                 omega
  have hne : mx * (M + t % M) ≠ 0 := Nat.mul_ne_zero hmx hmt
  have ha : Ieee.double.mul x t = some (Ieee.double.nearest false (mx * (M + t % M)) (px + (Ieee.double.leastPlace + ((e - 1 : Nat) : Int)))) := by
    unfold Ieee.Format.mul
    rw [hrx, read_norm ht (by omega)]
    rfl
  have ha' : Ieee.double.mul x t' = some (Ieee.double.nearest false (mx * (M + t % M)) (px + (Ieee.double.leastPlace + ((e - 1 : Nat) : Int)) + k)) := by
    unfold Ieee.Format.mul
    rw [hrx, read_norm f2 (by omega), f3]
    simp only [Ieee.Datum.product, Option.map_some, Ieee.Format.write, Bool.xor_false]
    congr 2
    omega
  have hlog : (mx * (M + t % M)).log2 ≤ mx.log2 + 53 := by
    have h3 : mx < 2 ^ (mx.log2 + 1) := (Nat.log2_lt hmx).1 (Nat.lt_succ_self _)
    have h4 : mx * (M + t % M) < 2 ^ (mx.log2 + 1) * 2 ^ 53 := Nat.mul_lt_mul'' h3 m2
    rw [← Nat.pow_add] at h4
    have := (Nat.log2_lt hne).2 h4
    omega
  generalize hP : px + (Ieee.double.leastPlace + ((e - 1 : Nat) : Int)) = P at ha ha'
  generalize mx * (M + t % M) = T at *
  refine ⟨_, _, ha, ha', nearest_pos _ _, nearest_pos _ _, ?_⟩
  by_cases hu : Ieee.double.leastPlace ≤ P + T.log2 - 52 ∧ Ieee.double.leastPlace ≤ P + k + T.log2 - 52
  · left
    exact (nearest_shift hne hu.1 hu.2 (by omega) (by omega)).1
  · right
    exact ⟨nearest_le hne 400 (by omega), nearest_le hne 400 (by omega)⟩
end Go.Proofs.Ytaendccnjiagiaa.Fl
