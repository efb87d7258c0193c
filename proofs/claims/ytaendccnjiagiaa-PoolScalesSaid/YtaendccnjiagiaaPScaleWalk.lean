/-
  PoolScales: the walk.
-/
import Derived.Test.YtaendccnjiagiaaPLive
import Derived.Test.YtaendccnjiagiaaPScaleLaw
import Derived.Test.YtaendccnjiagiaaPRead
import Derived.Deep.DeepCutAuto
namespace Go.Proofs.Ytaendccnjiagiaa.PoolScales
open Go.RowKit

/-- the bits of two to the i. -/
def pw (i : Int) : Nat := ((1023 + i) * Fl.M).toNat
theorem pw_eq {i : Int} (h : -1023 ≤ i) : ((pw i : Nat) : Int) = (1023 + i) * Fl.M := by
  unfold pw; rw [Int.toNat_of_nonneg (Int.mul_nonneg (by omega) (Int.natCast_nonneg _))]
theorem pw_up (k : Nat) (h : k < 200) : Ieee.double.mul (pw k) 4611686018427387904 = some (pw ((k : Int) + 1)) := by
  have : ∀ k : Fin 200, Ieee.double.mul (pw ((k.1 : Nat) : Int)) 4611686018427387904 = some (pw (((k.1 : Nat) : Int) + 1)) := by decide +kernel
  exact this ⟨k, h⟩
theorem pw_dn (k : Nat) (h : k < 200) : Ieee.double.div (pw (-(k : Int))) 4611686018427387904 = some (pw (-((k : Int) + 1))) := by
  have : ∀ k : Fin 200, Ieee.double.div (pw (-((k.1 : Nat) : Int))) 4611686018427387904 = some (pw (-(((k.1 : Nat) : Int) + 1))) := by decide +kernel
  exact this ⟨k, h⟩

/-- the law's test of a weight. -/
theorem mid_of {x : Nat} (hx : x < 18446744073709551616) (h1 : (Ieee.double.order x 4156822456062967808 == some .gt || Ieee.double.order x 4156822456062967808 == some .eq) = true) (h2 : (Ieee.double.order x 5057542381537067008 == some .lt || Ieee.double.order x 5057542381537067008 == some .eq) = true) : Mid x := by
  have hinf : Fl.inf = 9218868437227405312 := by decide
  have hM : Fl.M = 4503599627370496 := by decide
  by_cases hp : x ≤ 9218868437227405312
  · rw [Fl.order_pos (by unfold Fl.Pos; omega) (by unfold Fl.Pos; omega)] at h1 h2
    have g1 : 4156822456062967808 ≤ x := by
      rcases Bool.or_eq_true_iff.1 h1 with h | h
      · exact Nat.le_of_lt (Nat.compare_eq_gt.1 (by simpa using h))
      · exact Nat.le_of_eq (Nat.compare_eq_eq.1 (by simpa using h)).symm
    have g2 : x ≤ 5057542381537067008 := by
      rcases Bool.or_eq_true_iff.1 h2 with h | h
      · exact Nat.le_of_lt (Nat.compare_eq_lt.1 (by simpa using h))
      · exact Nat.le_of_eq (Nat.compare_eq_eq.1 (by simpa using h))
    refine ⟨x / Fl.M, ⟨rfl, ?_⟩, ?_, ?_⟩ <;> rw [hM] <;> omega
  · exfalso
    have hs : Ieee.double.signWeight = 9223372036854775808 := by decide
    have hb : Ieee.double.binade = 4503599627370496 := by decide
    have hi : Ieee.double.infRung = 9218868437227405312 := by decide
    have hr : Ieee.double.read 4156822456062967808 = .number false (Fl.M + 4156822456062967808 % Fl.M) (Ieee.double.leastPlace + ((923 - 1 : Nat) : Int)) := Fl.read_norm ⟨by decide, by decide⟩ (by decide)
    unfold Ieee.Format.order at h1
    rw [hr] at h1
    unfold Ieee.Format.read at h1
    simp only [hs, hb, hi] at h1
    by_cases h63 : x < 9223372036854775808
    · have e1 : x / 9223372036854775808 % 2 = 0 := by omega
      have e2 : x % 9223372036854775808 = x := by omega
      rw [e1, e2, if_neg (by omega), if_neg (by omega), if_neg (by omega)] at h1
      simp [Ieee.Datum.order] at h1
    · have e1 : x / 9223372036854775808 % 2 = 1 := by omega
      have e2 : x % 9223372036854775808 = x - 9223372036854775808 := by omega
      rw [e1, e2] at h1
      generalize hm : Fl.M + 4156822456062967808 % Fl.M = mm at h1
      have hmm : 0 < mm := by rw [← hm, hM]; omega
      have hne : ∀ (m : Nat) (p q : Int), (Ieee.Datum.order (.number true m p) (.number false mm q) == some .gt || Ieee.Datum.order (.number true m p) (.number false mm q) == some .eq) = true → False := by
        intro m p q
        simp only [Ieee.Datum.order, Ieee.signed, if_pos]
        have hpos : 0 < mm <<< (q - min p q).toNat := by rw [Nat.shiftLeft_eq]; exact Nat.mul_pos hmm (Nat.pow_pos (by decide))
        generalize mm <<< (q - min p q).toNat = u at hpos
        generalize m <<< (p - min p q).toNat = v
        intro hc
        simp only [if_neg (show ¬ (false = true) by decide)] at hc
        have h9 : compare (-(v : Int)) ((u : Nat) : Int) = .lt := Int.compare_eq_lt.2 (by omega)
        rw [h9] at hc
        exact absurd hc (by decide)
      split at h1
      · exact hne _ _ _ h1
      · split at h1
        · exact hne _ _ _ h1
        · split at h1
          · simp [Ieee.Datum.order] at h1
          · simp [Ieee.Datum.order] at h1

theorem Mid.ok {x : Nat} (h : Mid x) : okW x = true ∧ x < 9218868437227405312 := by
  obtain ⟨e, h1, h2, h3⟩ := h
  obtain ⟨p1, p2⟩ := norm_pos h1 (by omega)
  have hd := Nat.div_add_mod x Fl.M
  have hm := Nat.mod_lt x (show 0 < Fl.M by decide)
  rw [h1.1] at hd
  have hM : Fl.M = 4503599627370496 := by decide
  have hinf : Fl.inf = 9218868437227405312 := by decide
  rw [hM] at hd hm p2
  have hx : x < 9218868437227405312 := by omega
  refine ⟨?_, hx⟩
  unfold okW
  rw [hinf, decide_eq_true hx, decide_eq_true (by omega)]
  rfl
theorem Mid.up_ok {x : Nat} {k : Int} (h : Mid x) (hk1 : -200 ≤ k) (hk2 : k ≤ 200) : okW (up k x) = true ∧ up k x < 9218868437227405312 := by
  obtain ⟨e, h1, h2, h3⟩ := h
  obtain ⟨e', f1, f2, -⟩ := h1.shift (up_eq (k := k) h1 (by omega)) (by omega)
  obtain ⟨p1, p2⟩ := norm_pos f2 (by omega)
  have hd := Nat.div_add_mod (up k x) Fl.M
  have hm := Nat.mod_lt (up k x) (show 0 < Fl.M by decide)
  rw [f2.1] at hd
  have hM : Fl.M = 4503599627370496 := by decide
  have hinf : Fl.inf = 9218868437227405312 := by decide
  rw [hM] at hd hm p2
  have hx : up k x < 9218868437227405312 := by omega
  refine ⟨?_, hx⟩
  unfold okW
  rw [hinf, decide_eq_true hx, decide_eq_true (by omega)]
  rfl
theorem Mid.mul {x : Nat} {k : Int} (h : Mid x) (hk1 : -200 ≤ k) (hk2 : k ≤ 200) : Ieee.double.mul x (pw k) = some (up k x) := by
  obtain ⟨e, h1, h2, h3⟩ := h
  obtain ⟨a', m1, m2⟩ := Fl.mul_pow (k := k) h1 (by omega) (pw_eq (by omega)) (by omega) (by omega) (by omega) (by omega)
  rw [m1]
  congr 1
  have := up_eq (k := k) h1 (by omega)
  omega

/-- while the weights are given. -/
structure Fill (S : Pool) (n : Nat) : Prop where
  wk : S.workers = 8
  pt : S.patience = 1000
  rm : S.room = 0
  q : S.queue = []
  run : ∀ t ∈ S.work, t.blk = false ∧ Mid t.wt ∧ t.id ≤ n
  len : S.work.length = n
theorem Fill.add {S : Pool} {n : Nat} (h : Fill S n) (hn : n < 8) {x : Nat} (hx : Mid x) (k : Int) (hk1 : -200 ≤ k) (hk2 : k ≤ 200) :
    (S.add ((n : Int) + 1) x).1 = 0 ∧ Fill (S.add ((n : Int) + 1) x).2 (n + 1) ∧ ((scP k S).add ((n : Int) + 1) (up k x)) = (0, scP k (S.add ((n : Int) + 1) x).2) := by
  have hni : ((n : Int) + 1) ∉ S.ids := by
    unfold Pool.ids
    rw [h.q]
    intro hc
    simp only [idsOf, List.map_nil, List.append_nil, List.mem_map] at hc
    obtain ⟨t, ht, he⟩ := hc
    have := (h.run t ht).2.2
    omega
  have hids : (scP k S).ids = S.ids := by
    unfold Pool.ids idsOf scP
    rw [List.map_map]; rfl
  have hlt : (S.work.length : Int) < S.workers := by rw [h.len, h.wk]; omega
  have hlt' : ((scP k S).work.length : Int) < (scP k S).workers := by unfold scP; simpa using hlt
  have e1 : S.add ((n : Int) + 1) x = (0, { S with work := S.work ++ [⟨(n : Int) + 1, x, 0, false⟩] }) := by
    unfold Pool.add
    rw [if_neg (by rw [hx.ok.1]; decide), if_neg hni, if_pos hlt]
  have e2 : (scP k S).add ((n : Int) + 1) (up k x) = (0, { (scP k S) with work := (scP k S).work ++ [⟨(n : Int) + 1, up k x, 0, false⟩] }) := by
    unfold Pool.add
    rw [if_neg (by rw [(hx.up_ok hk1 hk2).1]; decide), if_neg (by rw [hids]; exact hni), if_pos hlt']
  rw [e1, e2]
  refine ⟨rfl, ⟨h.wk, h.pt, h.rm, h.q, fun t ht => ?_, by simp [h.len]⟩, ?_⟩
  · simp only [List.mem_append, List.mem_singleton] at ht
    rcases ht with ht | rfl
    · obtain ⟨h1, h2, h3⟩ := h.run t ht
      exact ⟨h1, h2, by omega⟩
    · exact ⟨rfl, hx, by simp⟩
  · simp [scP, sc]

/-- what picks keep. -/
structure Keep (S : Pool) : Prop where
  run : ∀ t ∈ S.work, t.blk = false ∧ Mid t.wt
  len : S.work.length ≤ 8
theorem Fill.keep {S : Pool} {n : Nat} (h : Fill S n) (hn : n ≤ 8) : Keep S := ⟨fun t ht => ⟨(h.run t ht).1, (h.run t ht).2.1⟩, by rw [h.len]; exact hn⟩
theorem Keep.pick {S : Pool} (h : Keep S) (x : Nat) : Keep (S.pick x).2.2 := by
  have hset : ∀ (l : List Task) (i : Nat) (g : Int), (∀ t ∈ l, t.blk = false ∧ Mid t.wt) → i < l.length → ∀ t ∈ l.set i { tk l i with age := g }, t.blk = false ∧ Mid t.wt := by
    intro l i g hl hi t ht
    rcases List.mem_or_eq_of_mem_set ht with h | h
    · exact hl t h
    · subst h
      exact hl (tk l i) (tk_mem hi)
  have hset' : ∀ (l : List Task) (i : Nat), (∀ t ∈ l, t.blk = false ∧ Mid t.wt) → ∀ g, ∀ t ∈ l.set i { tk l i with age := g }, t.blk = false ∧ Mid t.wt := by
    intro l i hl g
    rcases Nat.lt_or_ge i l.length with hi | hi
    · exact hset l i g hl hi
    · rw [List.set_eq_of_length_le hi]; exact hl
  have haged : ∀ (is : List Nat) (l : List Task), (∀ t ∈ l, t.blk = false ∧ Mid t.wt) → ∀ t ∈ agedTo l is, t.blk = false ∧ Mid t.wt := by
    intro is
    induction is with
    | nil => intro l hl; exact hl
    | cons i is ih => intro l hl; exact ih _ (hset' l i hl _)
  unfold Pool.pick
  split
  · exact h
  · split
    · exact h
    · refine ⟨?_, ?_⟩
      · exact hset' _ _ (haged _ _ h.run) _
      · simp only [List.length_set]
        rw [(aged_to S.work _).len]
        exact h.len

/-- two pools side by side. -/
structure Two (w0 w : World) (bp : Nat) (S : Pool) (o1 : List Nat) (bq : Nat) (T : Pool) (o2 : List Nat) : Prop where
  p : Live w0 w bp S o1
  q : Live w0 w bq T o2
  dis : ∀ b ∈ o1, b ∉ o2
theorem Two.swap {w0 w : World} {bp bq : Nat} {S T : Pool} {o1 o2 : List Nat} (h : Two w0 w bp S o1 bq T o2) : Two w0 w bq T o2 bp S o1 := ⟨h.q, h.p, fun b hb hb' => h.dis b hb' hb⟩
def TwoPost (w0 : World) (v : Value) (bp : Nat) (S : Pool) (bq : Nat) (T : Pool) (e : Ending) (w' : World) : Prop := ∃ o1 o2, e = .returned v ∧ Two w0 w' bp S o1 bq T o2
theorem Two.after {w0 w : World} {bp bq : Nat} {S S' T : Pool} {o1 o2 : List Nat} {v : Value} (h : Two w0 w bp S o1 bq T o2) {e : Ending} {w' : World} (ha : After o1 w v (fun w' o => Rep w' bp S' o) e w') : TwoPost w0 v bp S' bq T e w' := by
  obtain ⟨own', he, hr, ht, ho⟩ := ha
  have tt := h.p.touch.trans ht (fun b hb => .inr (h.p.fresh b hb))
  refine ⟨own', o2, he, ⟨hr, tt, fun b hb => ?_⟩, ⟨h.q.rep.touch ht (fun b hb hb' => h.dis b hb' hb), tt, h.q.fresh⟩, fun b hb hb' => ?_⟩
  · rcases ho b hb with h' | h'
    · exact h.p.fresh b h'
    · exact Nat.le_trans h.p.touch.size h'
  · rcases ho b hb with h' | h'
    · exact h.dis b h' hb'
    · have := h.q.rep.lt b hb'; omega
theorem Two.after' {w0 w : World} {bp bq : Nat} {S T T' : Pool} {o1 o2 : List Nat} {v : Value} (h : Two w0 w bp S o1 bq T o2) {e : Ending} {w' : World} (ha : After o2 w v (fun w' o => Rep w' bq T' o) e w') : TwoPost w0 v bp S bq T' e w' := by
  obtain ⟨a, b, he, h2⟩ := h.swap.after ha
  exact ⟨b, a, he, h2.swap⟩
theorem two_new {w0 w1 : World} {bp : Nat} {S : Pool} {o1 : List Nat} (h : Live w0 w1 bp S o1) {v : Value} {bq : Nat} {T : Pool} {e : Ending} {w' : World} (ha : After [] w1 v (fun w' o => Rep w' bq T o) e w') : TwoPost w0 v bp S bq T e w' := by
  obtain ⟨own', he, hr, ht, ho⟩ := ha
  have tt := h.touch.trans' ht
  have hn : ∀ b ∈ own', w1.heap.size ≤ b := fun b hb => by
    rcases ho b hb with h' | h'
    · simp at h'
    · exact h'
  refine ⟨o1, own', he, ⟨h.rep.touch ht (by simp), tt, h.fresh⟩, ⟨hr, tt, fun b hb => Nat.le_trans h.touch.size (hn b hb)⟩, fun b hb hb' => ?_⟩
  have h1 := h.rep.lt b hb
  have h2 := hn b hb'
  omega
theorem Two.step {w0 w w' : World} {bp bq : Nat} {S T : Pool} {o1 o2 : List Nat} (h : Two w0 w bp S o1 bq T o2) (t : Touch [] w w') : Two w0 w' bp S o1 bq T o2 := ⟨h.p.ids t, h.q.ids t, h.dis⟩

set_option maxRecDepth 100000 in
set_option maxHeartbeats 3200000 in
theorem walk0 (w : World) (aW : Option Addr) (nW cW : Nat) (zW : List Nat) (aP : Option Addr) (nP cP : Nat) (zP : List Nat) (pw0 : Int) (hW : Floats w aW nW cW zW) (hP2 : Floats w aP nP cP zP) :
    Calls Try.prog 3 #[.slice aW nW cW, .slice aP nP cP, .int .i64 pw0] w fun e w' => e = .returned (.bool true) ∧ Touch [] w w' := by
  by_cases hb : 8 < nW ∨ 100 < nP ∨ pw0 < -200 ∨ 200 < pw0
  · go_enter Try.func3, Try.ntmps3
    go_wp2_with (go_at_call 8; refine (alive_any _).mono ?_; rintro e w2 ⟨rfl, t2⟩)
    all_goals (go_ret; exact ⟨rfl, t2⟩)
  · have h1 : nW ≤ 8 := by omega
    have h2 : nP ≤ 100 := by omega
    have h3 : -200 ≤ pw0 := by omega
    have h4 : pw0 ≤ 200 := by omega
    clear hb
    go_enter Try.func3, Try.ntmps3
    go_wp2_with fail
    obtain ⟨m, hm⟩ : ∃ m : Nat, (m : Int) = max pw0 0 := ⟨(max pw0 0).toNat, by omega⟩
    go_loop [7, 8] (fun v i => ∃ k : Nat, k ≤ m ∧ i = .int .i64 k ∧ v = .float .f64 (pw k)) (fun _ i => m - (intOf i).toNat)
    case atStart => exact ⟨0, by omega, rfl, rfl⟩
    case round =>
      obtain ⟨k, hk, rfl, rfl⟩ := hrel
      by_cases hlt : (k : Int) < pw0
      · have hmul := fun W => run_float_arith (P := Try.prog) W .mul 24 .f64 _ _ _ (pw_up k (by omega))
        go_wp2
        go_round
        case rel => exact ⟨k + 1, by omega, by go_num, by go_num⟩
        case measure => simp [intOf]; omega
      · obtain rfl : k = m := by omega
        have HM := Lib.hid hm
        clear hm
        go_wp2_with fail
        go_loop [7, 9] (fun v i => ∃ j : Nat, (j = 0 ∨ (j : Int) ≤ - pw0) ∧ i = .int .i64 (-(j : Int)) ∧ v = .float .f64 (pw ((k : Int) - j))) (fun _ i => 300 - (-(intOf i)).toNat)
        case atStart => exact ⟨0, .inl rfl, rfl, by simp⟩
        case round =>
          obtain ⟨j, hj, rfl, rfl⟩ := hrel
          by_cases hlt2 : pw0 < -(j : Int)
          · obtain rfl : k = 0 := by have := HM.out; omega
            have hdiv := fun W => run_float_arith (P := Try.prog) W .quo 24 .f64 _ _ _ (pw_dn j (by omega))
            rw [show ((0 : Nat) : Int) - (j : Int) = -(j : Int) by omega]
            go_wp2
            go_round
            case rel => exact ⟨j + 1, .inr (by omega), by go_num, by go_num⟩
            case measure => simp [intOf]; omega
          · obtain hkj : (k : Int) - (j : Int) = pw0 := by have := HM.out; omega
            rw [hkj]
            go_wp2_with fail
            clear hlt hlt2 hkj hj HM
            refine (new_live w w (Touch.refl _ _) 8 0 1000 (by decide) (by decide) (by decide) (by decide) (by decide) (by decide)).mono ?_
            rintro e w1 ⟨bp, o1, rfl, L1⟩
            go_wp2_with fail
            refine (new_ok w1 8 0 1000 (by decide) (by decide) (by decide) (by decide) (by decide) (by decide)).mono fun e w' ha => ?_
            have H2 := two_new L1 ha
            clear ha L1
            obtain ⟨bq, hbq⟩ : ∃ bq, w1.heap.size + 1 = bq := ⟨_, rfl⟩
            rw [hbq] at H2
            clear hbq
            revert H2
            rintro ⟨o1, o2, rfl, L2⟩
            go_wp2_with fail
            clear hk
            go_loopw [14] (fun i wr => ∃ n : Nat, n ≤ nW ∧ i = .int .i64 n ∧ Touch [] w wr ∧ Hid (∃ S o1 o2, Two w wr bp S o1 bq (scP pw0 S) o2 ∧ Fill S n)) (fun i _ => nW - (intOf i).toNat)
            case atStart => exact ⟨0, by omega, rfl, L2.p.touch, _, _, _, L2, ⟨rfl, rfl, rfl, rfl, by simp, rfl⟩⟩
            case round =>
              clear L2
              obtain ⟨n, hn, rfl, t, S, o1, o2, hT, hS⟩ := hrel
              by_cases hlt : n < nW
              · obtain ⟨b, off, rfl, -, hb⟩ := (hW.touch t).at_ (by omega)
                have q1 := hb n hlt
                have hni : (n : Int) < (nW : Int) := by omega
                obtain ⟨x, hx⟩ : ∃ x, zW.getD n 0 = x := ⟨_, rfl⟩
                have hx64 : x < 18446744073709551616 := hW.wf x (by rw [← hx]; have := hW.len; simp [List.getD, show n < zW.length by omega])
                rw [hx] at q1
                have HT := Lib.hid hT
                have HS := Lib.hid hS
                have HX := Lib.hid hx64
                have T := Lib.hid t
                clear hb hx hx64 hT hS t
                cases g1 : (FloatKind.f64.format.order x 4156822456062967808 == some .gt || FloatKind.f64.format.order x 4156822456062967808 == some .eq)
                · go_wp2_with (go_at_call 8; refine (alive_any _).mono ?_; rintro e w2 ⟨rfl, t2⟩)
                  go_ret
                  exact ⟨rfl, T.out.trans' t2⟩
                cases g2 : (FloatKind.f64.format.order x 5057542381537067008 == some .lt || FloatKind.f64.format.order x 5057542381537067008 == some .eq)
                · go_wp2_with (go_at_call 8; refine (alive_any _).mono ?_; rintro e w2 ⟨rfl, t2⟩)
                  go_ret
                  exact ⟨rfl, T.out.trans' t2⟩
                have hm := mid_of HX.out g1 g2
                have hmul := fun W => run_float_arith (P := Try.prog) W .mul 24 .f64 _ _ _ (hm.mul h3 h4)
                obtain ⟨f1, f2, f3⟩ := HS.out.add (by omega) hm pw0 h3 h4
                have C1 := add_any wr bp S o1 HT.out.p.rep ((n : Int) + 1) x (by omega) (by omega) HX.out
                rw [f1] at C1
                have CC := Lib.hid C1
                have F2 := Lib.hid f2
                have F3 := Lib.hid f3
                have HU := Lib.hid (hm.up_ok h3 h4)
                clear f1 f2 f3 C1 hm
                go_wp2_with fail
                refine CC.out.mono ?_
                intro e w2 ha
                have H2 := HT.out.after ha
                clear ha
                revert H2
                rintro ⟨o1', o2', rfl, H2⟩
                have C2 := add_any w2 bq (scP pw0 S) o2' H2.q.rep ((n : Int) + 1) (up pw0 x) (by omega) (by omega) (by have := HU.out.2; omega)
                rw [F3.out] at C2
                have CC2 := Lib.hid C2
                have H2' := Lib.hid H2
                clear C2 H2
                go_wp2_with fail
                refine CC2.out.mono ?_
                intro e w3 ha
                have H3 := H2'.out.after' ha
                clear ha
                revert H3
                rintro ⟨o1'', o2'', rfl, H3⟩
                have H3' := Lib.hid H3
                clear H3
                go_wp2_with fail
                go_roundw
                case rel => exact ⟨n + 1, by omega, by go_num, H3'.out.p.touch, _, _, _, H3'.out, F2.out⟩
                case measure => simp [intOf]; omega
              · obtain rfl : n = nW := by omega
                have HT := Lib.hid hT
                have HS := Lib.hid hS.keep
                have T := Lib.hid t
                clear hT hS t
                go_wp2_with fail
                go_loopw [16] (fun i wr => ∃ q : Nat, q ≤ nP ∧ i = .int .i64 q ∧ Touch [] w wr ∧ Hid (∃ S o1 o2, Two w wr bp S o1 bq (scP pw0 S) o2 ∧ Keep S)) (fun i _ => nP - (intOf i).toNat)
                case atStart => exact ⟨0, by omega, rfl, T.out, S, o1, o2, HT.out, HS.out h1⟩
                case round =>
                  clear HT HS T
                  obtain ⟨q, hq, rfl, t, S, o1, o2, hT, hS⟩ := hrel
                  by_cases hlt : q < nP
                  · obtain ⟨b, off, rfl, -, hb⟩ := (hP2.touch t).at_ (by omega)
                    have q1 := hb q hlt
                    have hni : (q : Int) < (nP : Int) := by omega
                    obtain ⟨x, hx⟩ : ∃ x, zP.getD q 0 = x := ⟨_, rfl⟩
                    have hx64 : x < 18446744073709551616 := hP2.wf x (by rw [← hx]; have := hP2.len; simp [List.getD, show q < zP.length by omega])
                    rw [hx] at q1
                    have hpk := pick_sc (k := pw0) hx64 (fun t ht => (hS.run t ht).2) h3 h4 hS.len (fun t ht => (hS.run t ht).1)
                    have hk' := Lib.hid (hS.pick x)
                    have C1 := pick_any wr bp S o1 hT.p.rep x
                    obtain ⟨a, S', hpa⟩ : ∃ a S', S.pick x = (a, S') := ⟨_, _, rfl⟩
                    obtain ⟨e, S', rfl⟩ : ∃ e S'', S' = (e, S'') := ⟨_, _, rfl⟩
                    rw [hpa] at hpk hk' C1
                    have HT := Lib.hid hT
                    have HK := Lib.hid hpk
                    have CC := Lib.hid C1
                    have HZ := Lib.hid hx
                    clear hb hx hx64 hT hS t hpk hpa C1
                    go_wp2_with fail
                    refine CC.out.mono ?_
                    intro e w2 ha
                    have H2 := HT.out.after ha
                    clear ha
                    revert H2
                    rintro ⟨o1', o2', rfl, H2⟩
                    obtain ⟨b', off', he', -, hb'⟩ := (hP2.touch H2.p.touch).at_ (by omega)
                    cases he'
                    have q2 := hb' q hlt
                    rw [HZ.out] at q2
                    have C2 := pick_any w2 bq (scP pw0 S) o2' H2.q.rep x
                    rw [HK.out] at C2
                    have CC2 := Lib.hid C2
                    have H2' := Lib.hid H2
                    clear C2 H2 hb'
                    go_wp2_with fail
                    refine CC2.out.mono ?_
                    intro e w3 ha
                    have H3 := H2'.out.after' ha
                    clear ha
                    revert H3
                    rintro ⟨o1'', o2'', rfl, H3⟩
                    have H3' := Lib.hid H3
                    clear H3
                    go_wp2_with fail
                    go_roundw
                    case rel => exact ⟨q + 1, by omega, by go_num, H3'.out.p.touch, _, _, _, H3'.out, hk'.out⟩
                    case measure => simp [intOf]; omega
                  · have T := Lib.hid t
                    clear hT hS t
                    go_wp2_with (go_at_call 8; refine (alive_any _).mono ?_; rintro e w2 ⟨rfl, t2⟩)
                    go_ret
                    exact ⟨rfl, T.out.trans' t2⟩

theorem walk (aW : Option Addr) (nW cW : Nat) (zW : List Nat) (aP : Option Addr) (nP cP : Nat) (zP : List Nat) (pw0 : Int) (w : World) (hW : Floats w aW nW cW zW) (hP : Floats w aP nP cP zP) (_ : (Lit.int .i64 pw0).wf = true) :
    Calls Try.prog 3 #[.slice aW nW cW, .slice aP nP cP, .int .i64 pw0] w fun e w' => e = .returned (.bool true) ∧ Below w.heap.size w w' :=
  (walk0 w aW nW cW zW aP nP cP zP pw0 hW hP).mono fun _ _ ⟨he, ht⟩ => ⟨he, ht.toBelow (Nat.le_refl _) (by simp)⟩
end Go.Proofs.Ytaendccnjiagiaa.PoolScales
