/-
  Weights that are multiplied by a power of two are picked alike: in plain words, over the plain pool.
-/
import Derived.Test.YtaendccnjiagiaaPScale
import Derived.Test.YtaendccnjiagiaaPPick
namespace Go.Proofs.Ytaendccnjiagiaa.PoolScales
open Go.RowKit

/-- a weight's bits, k places on. -/
def up (k : Int) (a : Nat) : Nat := ((a : Int) + k * Fl.M).toNat
def sc (k : Int) (t : Task) : Task := { t with wt := up k t.wt }
/-- a weight from 2^-100 to 2^100. -/
def Mid (a : Nat) : Prop := ∃ e, Fl.Norm a e ∧ 923 ≤ e ∧ e ≤ 1123
theorem up_eq {k : Int} {a e : Nat} (h : Fl.Norm a e) (hk : 1 ≤ (e : Int) + k) : ((up k a : Nat) : Int) = (a : Int) + k * Fl.M := by
  unfold up
  rw [Int.toNat_of_nonneg]
  have hd := Nat.div_add_mod a Fl.M
  rw [h.1] at hd
  have h3 : -((e : Int) - 1) * (Fl.M : Int) ≤ k * Fl.M := Int.mul_le_mul_of_nonneg_right (by omega) (Int.natCast_nonneg _)
  have h4 : ((Fl.M * e : Nat) : Int) = (e : Int) * Fl.M := by rw [Int.natCast_mul, Int.mul_comm]
  have h5 : -((e : Int) - 1) * (Fl.M : Int) = -((e : Int) * Fl.M) + Fl.M := by rw [Int.neg_mul, Int.sub_mul]; omega
  have h6 : (a : Int) = ((Fl.M * e + a % Fl.M : Nat) : Int) := by rw [hd]
  rw [Int.natCast_add, h4] at h6
  omega

theorem tk_sc {l : List Task} {k : Int} {i : Nat} (h : i < l.length) : tk (l.map (sc k)) i = sc k (tk l i) := by
  unfold tk; simp [List.getD, h]
theorem tk_mem {l : List Task} {i : Nat} (h : i < l.length) : tk l i ∈ l := List.mem_iff_getElem?.2 ⟨i, tk_some h⟩

theorem sums {l : List Task} {k : Int} (hl : ∀ t ∈ l, Mid t.wt) (hk1 : -200 ≤ k) (hk2 : k ≤ 200) : ∀ j, j + 1 ≤ l.length → j ≤ 8 → ∃ e, Fl.Norm (sumTo l (j + 1)) e ∧ 923 ≤ e ∧ e ≤ 1123 + 2 * j ∧ ((sumTo (l.map (sc k)) (j + 1) : Nat) : Int) = (sumTo l (j + 1) : Int) + k * Fl.M
  | 0, hj, _ => by
    obtain ⟨e, h1, h2, h3⟩ := hl _ (tk_mem (l := l) (i := 0) (by omega))
    have hu := up_eq (k := k) h1 (by omega)
    obtain ⟨e', f1, f2, f3⟩ := h1.shift hu (by omega)
    have s1 : sumTo l (0 + 1) = (tk l 0).wt := by
      rw [sumTo, sumTo, Fl.zero_add h1 (by omega)]; rfl
    have s2 : sumTo (l.map (sc k)) (0 + 1) = up k (tk l 0).wt := by
      rw [sumTo, sumTo, tk_sc (by omega)]
      show (Ieee.double.add 0 (up k (tk l 0).wt)).getD 0 = _
      rw [Fl.zero_add f2 (by omega)]; rfl
    rw [s1, s2]
    exact ⟨e, h1, h2, by omega, hu⟩
  | j + 1, hj, h8 => by
    obtain ⟨e, h1, h2, h3, h4⟩ := sums hl hk1 hk2 j (by omega) (by omega)
    obtain ⟨ew, w1, w2, w3⟩ := hl _ (tk_mem (l := l) (i := j + 1) (by omega))
    obtain ⟨c, c', ec, a1, a2, a3, a4, a5, a6⟩ := Fl.add_scale h1 w1 (by omega) (by omega) h4 (up_eq (k := k) w1 (by omega)) (by omega) (by omega) (by omega) (by omega)
    have s1 : sumTo l (j + 1 + 1) = c := by rw [sumTo, a1]; rfl
    have s2 : sumTo (l.map (sc k)) (j + 1 + 1) = c' := by
      rw [sumTo, tk_sc (by omega)]
      show (Ieee.double.add _ (up k (tk l (j + 1)).wt)).getD 0 = _
      rw [a2]; rfl
    rw [s1, s2]
    exact ⟨ec, a4, by omega, by omega, a3⟩

theorem old_sc {l : List Task} {k : Int} : ∀ j, j ≤ l.length → oldTo (l.map (sc k)) j = oldTo l j
  | 0, _ => rfl
  | j + 1, hj => by
    have ih := old_sc (l := l) (k := k) j (by omega)
    rw [oldTo, oldTo, ih, tk_sc (oldTo_le l j l.length (by omega) (by omega)), tk_sc (by omega)]
    rfl

theorem okX_cases {x : Nat} (hx : x < 18446744073709551616) (h : okX x = true) : x = 0 ∨ x = 9223372036854775808 ∨ (0 < x ∧ x < 4607182418800017408) := by
  unfold okX fromZero belowOne at h
  rw [Bool.and_eq_true, Bool.or_eq_true] at h
  obtain ⟨h1, h2⟩ := h
  by_cases h0 : x = 0
  · exact .inl h0
  by_cases hz : x = 9223372036854775808
  · exact .inr (.inl hz)
  refine .inr (.inr ⟨by omega, ?_⟩)
  by_cases hp : x ≤ 9218868437227405312
  · have := Fl.order_pos (a := x) (b := 4607182418800017408) hp (by unfold Fl.Pos; exact (by decide : 4607182418800017408 ≤ Fl.inf))
    rw [this] at h2
    have h3 : compare x 4607182418800017408 = .lt := by simpa using h2
    exact Nat.compare_eq_lt.1 h3
  · exfalso
    have hg := Fl.gt_zero hx (by omega)
    unfold Fl.gt at hg
    rw [hg] at h1
    simp only [Bool.false_eq_true, false_or] at h1
    have hs : Ieee.double.signWeight = 9223372036854775808 := by decide
    have hb : Ieee.double.binade = 4503599627370496 := by decide
    have hi : Ieee.double.infRung = 9218868437227405312 := by decide
    unfold Ieee.Format.order at h1
    rw [Fl.read_zero] at h1
    unfold Ieee.Format.read at h1
    simp only [hs, hb, hi] at h1
    by_cases h63 : x < 9223372036854775808
    · have e1 : x / 9223372036854775808 % 2 = 0 := by omega
      have e2 : x % 9223372036854775808 = x := by omega
      rw [e1, e2, if_neg (by omega), if_neg (by omega), if_neg (by omega)] at h1
      simp [Ieee.Datum.order] at h1
    · have e1 : x / 9223372036854775808 % 2 = 1 := by omega
      have e2 : x % 9223372036854775808 = x - 9223372036854775808 := by omega
      rw [e1, e2] at h1
      have hne : ∀ (m : Nat) (p : Int), m ≠ 0 → ¬ (Ieee.Datum.order (.number true m p) (.number false 0 Ieee.double.leastPlace) == some .eq) = true := by
        intro m p hm
        simp only [Ieee.Datum.order, Ieee.signed, if_pos, Nat.zero_shiftLeft]
        have hpos : 0 < m <<< (p - min p Ieee.double.leastPlace).toNat := by rw [Nat.shiftLeft_eq]; exact Nat.mul_pos (by omega) (Nat.pow_pos (by decide))
        generalize m <<< (p - min p Ieee.double.leastPlace).toNat = q at hpos
        intro hc
        simp only [if_neg (show ¬ (false = true) by decide)] at hc
        have h9 : compare (-(q : Int)) ((0 : Nat) : Int) = .eq := by simpa using hc
        have := Int.compare_eq_eq.1 h9
        omega
      split at h1
      · exact hne _ _ (by omega) h1
      · split at h1
        · exact hne _ _ (by omega) h1
        · split at h1
          · simp [Ieee.Datum.order] at h1
          · simp [Ieee.Datum.order] at h1

theorem gt_negzero {s e : Nat} (h : Fl.Norm s e) (he : e ≤ 2046) : Fl.gt s 9223372036854775808 = true := by
  have hz : Ieee.double.read 9223372036854775808 = .number true 0 Ieee.double.leastPlace := by decide +kernel
  unfold Fl.gt Ieee.Format.order
  rw [Fl.read_norm h he, hz]
  obtain ⟨m1, _⟩ := Fl.mag_bounds s
  simp only [Ieee.Datum.order, Ieee.signed, if_pos, Nat.zero_shiftLeft]
  have hpos : 0 < (Fl.M + s % Fl.M) <<< (Ieee.double.leastPlace + ((e - 1 : Nat) : Int) - min (Ieee.double.leastPlace + ((e - 1 : Nat) : Int)) Ieee.double.leastPlace).toNat := by
    rw [Nat.shiftLeft_eq]; exact Nat.mul_pos (by omega) (Nat.pow_pos (by decide))
  generalize (Fl.M + s % Fl.M) <<< (Ieee.double.leastPlace + ((e - 1 : Nat) : Int) - min (Ieee.double.leastPlace + ((e - 1 : Nat) : Int)) Ieee.double.leastPlace).toNat = q at hpos
  have : compare (q : Int) (-((0 : Nat) : Int)) = .gt := Int.compare_eq_gt.2 (by omega)
  simp only [if_neg (show ¬ (false = true) by decide), this]
  rfl

theorem norm_pos {s e : Nat} (h : Fl.Norm s e) (he : e ≤ 2046) : Fl.Pos s ∧ e * Fl.M ≤ s := by
  have hd := Nat.div_add_mod s Fl.M
  have hm := Nat.mod_lt s (show 0 < Fl.M by decide)
  rw [h.1] at hd
  have hinf : Fl.inf = 2047 * Fl.M := by decide
  unfold Fl.Pos
  rw [hinf]
  generalize s % Fl.M = r at *
  generalize Fl.M = X at *
  have h1 : X * e ≤ X * 2046 := Nat.mul_le_mul_left _ he
  rw [Nat.mul_comm e X]
  omega

theorem mul_zero {t e : Nat} (h : Fl.Norm t e) (he : e ≤ 2046) : Ieee.double.mul 0 t = some 0 ∧ Ieee.double.mul 9223372036854775808 t = some 9223372036854775808 := by
  have hz : Ieee.double.read 9223372036854775808 = .number true 0 Ieee.double.leastPlace := by decide +kernel
  have hs : Ieee.double.signWeight = 9223372036854775808 := by decide
  unfold Ieee.Format.mul
  rw [Fl.read_zero, hz, Fl.read_norm h he]
  simp [Ieee.Datum.product, Ieee.Format.write, Ieee.Format.nearest, Ieee.Format.word, hs]

theorem above_sc {l : List Task} {k : Int} {x : Nat} (hx : x < 18446744073709551616) (hok : okX x = true) (hl : ∀ t ∈ l, Mid t.wt) (hk1 : -200 ≤ k) (hk2 : k ≤ 200) (h8 : l.length ≤ 8) (i : Nat) (hi : i < l.length) :
    above (sumTo (l.map (sc k)) (i + 1)) (Ieee.double.mul x (sumTo (l.map (sc k)) l.length)) = above (sumTo l (i + 1)) (Ieee.double.mul x (sumTo l l.length)) := by
  obtain ⟨n, hn⟩ : ∃ n, l.length = n + 1 := ⟨l.length - 1, by omega⟩
  obtain ⟨et, t1, t2, t3, t4⟩ := sums (k := k) hl hk1 hk2 n (by omega) (by omega)
  obtain ⟨es, s1, s2, s3, s4⟩ := sums (k := k) hl hk1 hk2 i (by omega) (by omega)
  rw [hn]
  obtain ⟨et', f1, f2, -⟩ := t1.shift t4 (by omega)
  obtain ⟨es', g1, g2, -⟩ := s1.shift s4 (by omega)
  obtain ⟨p1, p2⟩ := norm_pos s1 (by omega)
  obtain ⟨p3, p4⟩ := norm_pos g2 (by omega)
  rcases okX_cases hx hok with rfl | rfl | ⟨h0, h1⟩
  · rw [(mul_zero t1 (by omega)).1, (mul_zero f2 (by omega)).1]
    show Fl.gt _ 0 = Fl.gt _ 0
    have hM : 1 ≤ Fl.M := by decide
    have q1 : 1 * Fl.M ≤ es * Fl.M := Nat.mul_le_mul_right _ (by omega)
    have q2 : 1 * Fl.M ≤ es' * Fl.M := Nat.mul_le_mul_right _ (by omega)
    rw [Fl.gt_pos p1 (by unfold Fl.Pos; omega), Fl.gt_pos p3 (by unfold Fl.Pos; omega), decide_eq_true (by omega), decide_eq_true (by omega)]
  · rw [(mul_zero t1 (by omega)).2, (mul_zero f2 (by omega)).2]
    show Fl.gt _ _ = Fl.gt _ _
    rw [gt_negzero s1 (by omega), gt_negzero g2 (by omega)]
  · obtain ⟨a, a', m1, m2, m3, m4, m5⟩ := Fl.aim_scale h0 h1 t1 (by omega) t4 (by omega) (by omega) hk1 hk2
    rw [m1, m2]
    show Fl.gt _ _ = Fl.gt _ _
    rw [Fl.gt_pos p1 m3, Fl.gt_pos p3 m4, decide_eq_decide]
    rcases m5 with h | ⟨h5, h6⟩
    · omega
    · have q1 : 403 * Fl.M ≤ es * Fl.M := Nat.mul_le_mul_right _ (by omega)
      have q2 : 403 * Fl.M ≤ es' * Fl.M := Nat.mul_le_mul_right _ (by omega)
      have q3 : 402 * Fl.M < 403 * Fl.M := by decide
      exact ⟨fun _ => by omega, fun _ => by omega⟩

theorem which_sc {l : List Task} {k pat : Int} {x : Nat} (hx : x < 18446744073709551616) (hok : okX x = true) (hl : ∀ t ∈ l, Mid t.wt) (hk1 : -200 ≤ k) (hk2 : k ≤ 200) (h8 : l.length ≤ 8) (h0 : 0 < l.length) :
    whichOf pat x (l.map (sc k)) = whichOf pat x l := by
  unfold whichOf
  rw [List.length_map, old_sc _ (Nat.le_refl _), tk_sc (oldTo_le l l.length l.length (Nat.le_refl _) h0)]
  have e : firstAbove (l.map (sc k)) (Ieee.double.mul x (sumTo (l.map (sc k)) l.length)) = firstAbove l (Ieee.double.mul x (sumTo l l.length)) := by
    unfold firstAbove
    rw [List.length_map]
    congr 1
    have hcongr : ∀ (is : List Nat) (p q : Nat → Bool), (∀ i ∈ is, p i = q i) → is.find? p = is.find? q := by
      intro is p q h
      induction is with
      | nil => rfl
      | cons i is ih =>
        rw [List.find?_cons, List.find?_cons, h i (by simp), ih (fun j hj => h j (by simp [hj]))]
    exact hcongr _ _ _ (fun i hi => above_sc hx hok hl hk1 hk2 h8 i (List.mem_range.1 hi))
  rw [e]
  rfl

theorem aged_sc (k : Int) (is : List Nat) : ∀ l : List Task, (∀ i ∈ is, i < l.length) → agedTo (l.map (sc k)) is = (agedTo l is).map (sc k) := by
  induction is with
  | nil => intro l _; rfl
  | cons i is ih =>
    intro l h
    have e : agedAt (l.map (sc k)) i = (agedAt l i).map (sc k) := by
      unfold agedAt
      rw [tk_sc (h i (by simp)), List.map_set]
      rfl
    show agedTo (agedAt (l.map (sc k)) i) is = _
    rw [e, ih (agedAt l i) (fun j hj => by unfold agedAt; rw [List.length_set]; exact h j (by simp [hj]))]
    rfl

def scP (k : Int) (S : Pool) : Pool := { S with work := S.work.map (sc k) }
theorem run_sc (k : Int) (l : List Task) : runIdx (l.map (sc k)) = runIdx l := by
  unfold runIdx runTo
  rw [List.length_map]
  refine List.filter_congr fun i hi => ?_
  have hi' := List.mem_range.1 hi
  have := tk_sc (k := k) hi'
  unfold tk at this
  rw [this]; rfl

theorem pick_sc {S : Pool} {k : Int} {x : Nat} (hx : x < 18446744073709551616) (hl : ∀ t ∈ S.work, Mid t.wt) (hk1 : -200 ≤ k) (hk2 : k ≤ 200) (h8 : S.work.length ≤ 8) (hrun : ∀ t ∈ S.work, t.blk = false) :
    (scP k S).pick x = ((S.pick x).1, (S.pick x).2.1, scP k (S.pick x).2.2) := by
  unfold Pool.pick
  by_cases hok : okX x = true
  case neg =>
    have hp : okX x = false := by simpa using hok
    simp only [if_pos hp]
  have hn : ¬ okX x = false := by rw [hok]; decide
  simp only [if_neg hn]
  have hr : runIdx (scP k S).work = runIdx S.work := run_sc k S.work
  rw [hr]
  by_cases h0 : runIdx S.work = []
  · simp only [if_pos h0]
  simp only [if_neg h0]
  have hne : 0 < S.work.length := by
    rcases Nat.eq_zero_or_pos S.work.length with h | h
    · exfalso; apply h0; unfold runIdx; rw [h]; rfl
    · exact h
  have hall : runIdx S.work = List.range S.work.length := by
    unfold runIdx runTo
    rw [List.filter_eq_self]
    intro i hi
    have := hrun _ (tk_mem (List.mem_range.1 hi))
    unfold tk at this
    rw [this]; rfl
  rw [hall]
  have e1 : (List.range S.work.length).map (tk S.work) = S.work := by
    apply List.ext_getElem?
    intro i
    rw [List.getElem?_map]
    rcases Nat.lt_or_ge i S.work.length with h | h
    · rw [List.getElem?_range h, tk_some h]; rfl
    · rw [List.getElem?_eq_none (by simpa using h), List.getElem?_eq_none h]; rfl
  have e2 : (List.range S.work.length).map (tk (scP k S).work) = S.work.map (sc k) := by
    have : (List.range S.work.length).map (tk (scP k S).work) = ((List.range S.work.length).map (tk S.work)).map (sc k) := by
      rw [List.map_map]
      exact List.map_congr_left fun i hi => tk_sc (List.mem_range.1 hi)
    rw [this, e1]
  simp only [e1, e2]
  have hw : whichOf (scP k S).patience x (S.work.map (sc k)) = whichOf S.patience x S.work := which_sc hx hok hl hk1 hk2 h8 hne
  rw [hw]
  have hwl := whichOf_lt S.patience x S.work hne
  obtain ⟨j, hj⟩ : ∃ j, whichOf S.patience x S.work = j := ⟨_, rfl⟩
  rw [hj] at hwl ⊢
  have hg : (List.range S.work.length).getD j 0 = j := by simp [List.getD, hwl]
  rw [hg]
  have ha : agedTo (scP k S).work (List.range S.work.length) = (agedTo S.work (List.range S.work.length)).map (sc k) := aged_sc k _ _ (fun i hi => List.mem_range.1 hi)
  have hal : j < (agedTo S.work (List.range S.work.length)).length := by rw [(aged_to S.work _).len]; exact hwl
  rw [ha, tk_sc hal]
  have ht : (tk (scP k S).work j).id = (tk S.work j).id := by
    show (tk (S.work.map (sc k)) j).id = _
    rw [tk_sc hwl]; rfl
  rw [ht]
  simp only [scP, List.map_set]
  rfl
end Go.Proofs.Ytaendccnjiagiaa.PoolScales
