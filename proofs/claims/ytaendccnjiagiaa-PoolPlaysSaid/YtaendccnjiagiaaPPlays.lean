/-
  PoolPlays: the walk, and how its steps are read.
-/
import Derived.Test.YtaendccnjiagiaaPPlaysDo
import Derived.Test.YtaendccnjiagiaaPCopy
import Derived.Deep.Strs
namespace Go.Proofs.Ytaendccnjiagiaa.PoolPlays
open Go.ChangeShapes Go.WideShapes Go.ChangeAt Go.RowKit

structure Call where
  d : Int
  id : Int
  x : Nat
  deriving Inhabited
/-- A slice of steps that came in. -/
structure StepsIn (w : World) (a : Option Addr) (n cap : Nat) (l : Nat → Call) : Prop where
  cap_ : n ≤ cap
  max : cap ≤ 9223372036854775807
  at_ : 0 < n → ∃ b off, a = some ⟨b, off, none⟩ ∧ b < w.heap.size ∧ ∀ i, i < n → w.cell? ⟨b, off + i * 3, none⟩ = some (.int .i64 (l i).d) ∧ w.cell? ⟨b, off + i * 3 + 1, none⟩ = some (.int .u64 (l i).id) ∧ w.cell? ⟨b, off + i * 3 + 2, none⟩ = some (.float .f64 (l i).x)
  wf : ∀ i, i < n → 0 ≤ (l i).id ∧ (l i).id < 18446744073709551616 ∧ (l i).x < 18446744073709551616
theorem StepsIn.touch {w w' : World} {a : Option Addr} {n cap : Nat} {l : Nat → Call} (h : StepsIn w a n cap l) (t : Touch [] w w') : StepsIn w' a n cap l := by
  refine ⟨h.cap_, h.max, fun hn => ?_, h.wf⟩
  obtain ⟨b, off, h1, h2, h3⟩ := h.at_ hn
  refine ⟨b, off, h1, Nat.lt_of_lt_of_le h2 t.size, fun i hi => ?_⟩
  obtain ⟨k0, k1, k2⟩ := h3 i hi
  exact ⟨(t.cell (p := ⟨b, _, none⟩) h2 (by simp)).trans k0, (t.cell (p := ⟨b, _, none⟩) h2 (by simp)).trans k1, (t.cell (p := ⟨b, _, none⟩) h2 (by simp)).trans k2⟩

theorem cellsStep : Try.prog.cellsOf 49 = 3 := by kernel_rfl
theorem cellsInt : Try.prog.cellsOf 3 = 1 := by kernel_rfl
theorem cellsU64 : Try.prog.cellsOf 30 = 1 := by kernel_rfl
theorem cellsF64 : Try.prog.cellsOf 24 = 1 := by kernel_rfl

theorem read_steps {H : Type} {enc : TypeId × Value → H} {W : World} {base : Nat} {spare : Nat → Bool} {held : Bool} {a : Option Addr} {len cap : Nat} {d : DataW H} {ps : List MemPlace}
    (h : DataW.Trod enc Try.prog W base spare held 42 (.slice a len cap) d ps) : ∃ l, StepsIn W a len cap l := by
  obtain ⟨h1, h2, h3⟩ := read_slice Try.underlying42 h
  unfold maxLen at h2
  rcases Nat.eq_zero_or_pos len with h0 | h0
  · subst h0
    exact ⟨fun _ => default, h1, by omega, fun h => absurd h (by decide), fun i hi => absurd hi (by omega)⟩
  · obtain ⟨x, rfl, hx⟩ := h3 h0
    obtain ⟨b, off, spot⟩ := x
    have hspot : spot = none := by
      obtain ⟨n, cs, y, h4, h5⟩ := hx 0 h0
      rw [cellsStep] at h4
      obtain ⟨-, hl, hc⟩ := World.cells?_some h4
      have h6 := hc 0 (by omega)
      match cs, hl with
      | [v0, v1, v2], _ => simpa [Addr.add] using World.cell?_spot h6
    subst hspot
    have each : ∀ i, i < len → ∃ c : Call, W.cell? ⟨b, off + i * 3, none⟩ = some (.int .i64 c.d) ∧ W.cell? ⟨b, off + i * 3 + 1, none⟩ = some (.int .u64 c.id) ∧ W.cell? ⟨b, off + i * 3 + 2, none⟩ = some (.float .f64 c.x) ∧ 0 ≤ c.id ∧ c.id < 18446744073709551616 ∧ c.x < 18446744073709551616 := by
      intro i hi
      obtain ⟨n, cs, y, h4, h5⟩ := hx i hi
      rw [cellsStep] at h4
      obtain ⟨-, hl, hc⟩ := World.cells?_some h4
      obtain ⟨y0, y1, y2, m, -, -, g0, g1, g2⟩ := Go.Deep.trod_struct3 Try.underlying49 h5
      match cs, hl with
      | [v0, v1, v2], _ =>
        simp only [cellsInt, cellsU64, cellsF64, List.drop_zero, List.drop_succ_cons, List.take_succ_cons, List.take_zero] at g0 g1 g2
        obtain ⟨p, e0, -, w0⟩ := DataW.trod_int Try.underlying3 g0
        obtain ⟨q, e1, -, w1⟩ := DataW.trod_int Try.underlying30 g1
        obtain ⟨r, e2, w2⟩ := trod_float Try.underlying24 g2
        simp only [List.cons.injEq, and_true] at e0 e1 e2
        subst e0 e1 e2
        have k0 := hc 0 (by omega)
        have k1 := hc 1 (by omega)
        have k2 := hc 2 (by omega)
        rw [Addr.add_lit, Addr.add_lit] at k0 k1 k2
        exact ⟨⟨p, q, r⟩, by simpa using k0, by simpa using k1, by simpa using k2, (wf_u64 w1).1, (wf_u64 w1).2, wf_f64 w2⟩
    obtain ⟨f, hf⟩ := Classical.axiomOfChoice (fun i : Fin len => each i.1 i.2)
    have hh0 := (hf ⟨0, h0⟩).1
    refine ⟨fun i => if h : i < len then f ⟨i, h⟩ else default, h1, by omega, fun _ => ⟨b, off, rfl, World.block_lt_of_cell? W _ hh0, fun i hi => ?_⟩, fun i hi => ?_⟩
    · obtain ⟨k0, k1, k2, -⟩ := hf ⟨i, hi⟩
      simp only [dif_pos hi]
      exact ⟨k0, k1, k2⟩
    · obtain ⟨-, -, -, k⟩ := hf ⟨i, hi⟩
      simp only [dif_pos hi]
      exact k

theorem may_any (w : World) (a b c : Int) : Calls Try.prog 17 #[.int .i64 a, .int .i64 b, .int .i64 c] w fun e w' => e = .returned (.bool (decide (1 ≤ a) && decide (a ≤ 64) && decide (0 ≤ b) && decide (b ≤ 1024) && decide (1 ≤ c))) ∧ w = w' := by
  by_cases h1 : 1 ≤ a <;> by_cases h2 : a ≤ 64 <;> by_cases h3 : 0 ≤ b <;> by_cases h4 : b ≤ 1024 <;> by_cases h5 : 1 ≤ c
  all_goals
    go_enter Try.func17, Try.ntmps17
    go_wp2
    go_ret
    exact ⟨by simp [*], rfl⟩

/-- Both are copied; what befalls the elder ones is of no account. -/
theorem Two.copied {w0 w w1 w2 w3 w4 : World} {bp rp c c2 : Nat} {S : Pool} {o r o1 r2 o3 : List Nat} (h : Two w0 w bp rp S o r) (hc : Rep w1 c S o1) (t1 : Touch [] w w1) (f1 : ∀ b ∈ o1, w.heap.size ≤ b)
    (hr : RRep w2 c2 S r2) (t2 : Touch [] w1 w2) (f2 : ∀ b ∈ r2, w1.heap.size ≤ b) (t3 : Touch o w2 w3) (f3 : ∀ b ∈ o3, b ∈ o ∨ w2.heap.size ≤ b) (t4 : Touch o3 w3 w4) : Two w0 w4 c c2 S o1 r2 := by
  have l0 := h.p.lt
  have l1 := hc.lt
  have l2 := hr.lt
  have s0 := h.touch.size
  have s1 := t1.size
  have s2 := t2.size
  have n1 : ∀ b ∈ o1, b ∉ o := fun b hb hb' => by have := l0 b hb'; have := f1 b hb; omega
  have n2 : ∀ b ∈ r2, b ∉ o := fun b hb hb' => by have := l0 b hb'; have := f2 b hb; omega
  have n3 : ∀ b ∈ o1, b ∉ o3 := fun b hb hb' => by
    rcases f3 b hb' with h' | h'
    · exact n1 b hb h'
    · have := l1 b hb; omega
  have n4 : ∀ b ∈ r2, b ∉ o3 := fun b hb hb' => by
    rcases f3 b hb' with h' | h'
    · exact n2 b hb h'
    · have := l2 b hb; omega
  refine ⟨((hc.touch t2 (by simp)).touch t3 n1).touch t4 n3, (hr.touch t3 n2).touch t4 n4, ?_, fun b hb => by have := f1 b hb; omega, fun b hb => by have := f2 b hb; omega, fun b hb hb' => by have := l1 b hb; have := f2 b hb'; omega⟩
  refine ((((h.touch.trans' t1).trans' t2).trans t3 (fun b hb => .inr (h.po b hb))).trans t4 (fun b hb => ?_))
  rcases f3 b hb with h' | h'
  · exact .inr (h.po b h')
  · exact .inr (by omega)

set_option maxRecDepth 100000 in
set_option maxHeartbeats 3200000 in
theorem walk0 (w : World) (a b c : Int) (hc : c ≤ 9223372036854775807) (aS : Option Addr) (n cap : Nat) (l : Nat → Call) (hS : StepsIn w aS n cap l) :
    Calls Try.prog 6 #[.int .i64 a, .int .i64 b, .int .i64 c, .slice aS n cap] w fun e w' => e = .returned (.bool true) ∧ Touch [] w w' := by
  have hm := hS.max
  have hcap := hS.cap_
  by_cases hbig : 120 < n
  · go_enter Try.func6, Try.ntmps6
    go_wp2_with (go_at_call 8; refine (alive_any _).mono ?_; rintro e w2 ⟨rfl, t2⟩)
    go_ret
    exact ⟨rfl, t2⟩
  · have hn : n ≤ 120 := by omega
    clear hbig
    cases hmay : (decide (1 ≤ a) && decide (a ≤ 64) && decide (0 ≤ b) && decide (b ≤ 1024) && decide (1 ≤ c))
    · have hbad : a < 1 ∨ 64 < a ∨ b < 0 ∨ 1024 < b ∨ c < 1 := by
        simp only [Bool.and_eq_false_iff, decide_eq_false_iff_not] at hmay
        omega
      have HM := Lib.hid hmay
      have HB := Lib.hid hbad
      clear hmay hbad
      go_enter Try.func6, Try.ntmps6
      go_wp2_with fail
      refine (new_bad w a b c HB.out).mono ?_
      rintro e w' ⟨rfl, rfl⟩
      go_wp2_with fail
      refine (may_any w a b c).mono ?_
      rw [HM.out]
      rintro e w' ⟨rfl, rfl⟩
      go_wp2_with (go_at_call 8; refine (alive_any _).mono ?_; rintro e w2 ⟨rfl, t2⟩)
      go_ret
      exact ⟨rfl, t2⟩
    · have hok : 1 ≤ a ∧ a ≤ 64 ∧ 0 ≤ b ∧ b ≤ 1024 ∧ 1 ≤ c := by
        simp only [Bool.and_eq_true, decide_eq_true_iff] at hmay
        omega
      have HM := Lib.hid hmay
      have HB := Lib.hid hok
      have HS := Lib.hid hS
      clear hmay hok hS
      go_enter Try.func6, Try.ntmps6
      go_wp2_with fail
      refine (new_live w w (Touch.refl _ _) a b c HB.out.1 HB.out.2.1 HB.out.2.2.1 HB.out.2.2.2.1 HB.out.2.2.2.2 hc).mono ?_
      rintro e w1 ⟨bp, o1, rfl, L1⟩
      go_wp2_with fail
      refine (may_any w1 a b c).mono ?_
      rw [HM.out]
      rintro e w' ⟨rfl, rfl⟩
      go_wp2_with fail
      have hA := At.new w1 47 [.int .i64 a, .int .i64 b, .int .i64 c, .slice none 0 0, .slice none 0 0]
      have tA := (Touch.refl [] w1).alloc (.cells #[.int .i64 a, .int .i64 b, .int .i64 c, .slice none 0 0, .slice none 0 0] 47)
      have hlp := L1.rep.lt
      have s1 := L1.touch.size
      have hR : RRep (w1.alloc (.cells #[.int .i64 a, .int .i64 b, .int .i64 c, .slice none 0 0, .slice none 0 0] 47)) w1.heap.size ⟨a, b, c, [], []⟩ [w1.heap.size] :=
        ⟨none, 0, 0, [], none, 0, 0, [], ⟨hA, by simpa [cellsOf] using Row.nil _ _ _ _, by simpa [cellsOf] using Row.nil _ _ _ _, by simp, by simp, by simp⟩, by simp⟩
      have hT : Two w (w1.alloc (.cells #[.int .i64 a, .int .i64 b, .int .i64 c, .slice none 0 0, .slice none 0 0] 47)) bp w1.heap.size ⟨a, b, c, [], []⟩ o1 [w1.heap.size] :=
        ⟨L1.rep.touch tA (by simp), hR, L1.touch.trans' tA, L1.fresh, by simpa using s1, fun x hx hx' => by simp at hx'; have := hlp x hx; omega⟩
      have HT := Lib.hid hT
      clear hA tA hlp s1 hR hT L1
      go_loopw [12, 9, 11] (fun i p q wr => ∃ k bp rp, k ≤ n ∧ i = .int .i64 (k : Nat) ∧ p = .pointer (some ⟨bp, 0, none⟩) ∧ q = .pointer (some ⟨rp, 0, none⟩) ∧ Hid (∃ S o r, Two w wr bp rp S o r)) (fun i _ _ _ => n - (intOf i).toNat)
      case atStart => exact ⟨0, bp, _, by omega, rfl, rfl, rfl, _, _, _, HT.out⟩
      case round =>
        clear HT
        obtain ⟨k, bp, rp, hk, rfl, rfl, rfl, S, o, r, hT⟩ := hrel
        by_cases hlt : k < n
        · obtain ⟨bs, off, rfl, -, hb⟩ := (HS.out.touch hT.touch).at_ (by omega)
          obtain ⟨q0, q1, q2⟩ := hb k hlt
          have hki : (k : Int) < (n : Int) := by omega
          obtain ⟨s, hs⟩ : ∃ s, l k = s := ⟨_, rfl⟩
          have hw := HS.out.wf k hlt
          rw [hs] at q0 q1 q2 hw
          obtain ⟨d, id, x⟩ := s
          simp only at q0 q1 q2 hw
          have HW := Lib.hid hw
          have H := Lib.hid hT
          clear hb hs hw hT
          by_cases h5 : d = 5
          · subst h5
            go_wp2_with fail
            refine (pcopy_any wr bp S o H.out.p).mono ?_
            rintro e w1 ⟨c1, o1, rfl, r1, t1, f1⟩
            have R1 := Lib.hid r1
            have T1 := Lib.hid t1
            have F1 := Lib.hid f1
            clear r1 t1 f1
            go_wp2_with fail
            refine (rcopy_any w1 rp S r H.out.ok (H.out.q.touch T1.out (by simp))).mono ?_
            rintro e w2 ⟨c2, r2, rfl, r2', t2, f2⟩
            have R2 := Lib.hid r2'
            have T2 := Lib.hid t2
            have F2 := Lib.hid f2
            clear r2' t2 f2
            go_wp2_with fail
            refine (pick_any w2 bp S o (H.out.p.touch (T1.out.trans' T2.out) (by simp)) 0).mono ?_
            rintro e w3 ⟨o3, rfl, r3, t3, f3⟩
            have R3 := Lib.hid r3
            have T3 := Lib.hid t3
            have F3 := Lib.hid f3
            clear r3 t3 f3
            go_wp2_with fail
            refine (add_any w3 bp _ o3 R3.out 9223372036854775808 4607182418800017408 (by decide) (by decide) (by decide)).mono ?_
            rintro e w4 ⟨o4, rfl, r4, t4, f4⟩
            have H4 := Lib.hid (H.out.copied R1.out T1.out F1.out R2.out T2.out F2.out T3.out F3.out t4)
            clear r4 t4 f4
            go_wp2_with fail
            refine (stands_any w w4 c1 c2 S o1 r2 H4.out).mono ?_
            rintro e w5 ⟨rfl, t5⟩
            have H5 := Lib.hid (H4.out.step t5)
            clear t5
            go_wp2_with fail
            go_roundw
            case rel => exact ⟨k + 1, c1, c2, by omega, by go_num, rfl, rfl, S, o1, r2, H5.out⟩
            case measure => simp [intOf]; omega
          · have h5' : (d == 5) = false := beq_eq_false_iff_ne.2 h5
            clear h5
            go_wp2_with fail
            refine (does_any w wr bp rp S o r H.out d id x HW.out.1 HW.out.2.1 HW.out.2.2).mono ?_
            rintro e w4 ⟨rfl, S', o', r', h4⟩
            have H4 := Lib.hid h4
            clear h4
            go_wp2_with fail
            refine (stands_any w w4 bp rp S' o' r' H4.out).mono ?_
            rintro e w5 ⟨rfl, t5⟩
            have H5 := Lib.hid (H4.out.step t5)
            clear t5
            go_wp2_with fail
            go_roundw
            case rel => exact ⟨k + 1, bp, rp, by omega, by go_num, rfl, rfl, S', o', r', H5.out⟩
            case measure => simp [intOf]; omega
        · obtain rfl : k = n := by omega
          have T := Lib.hid hT.touch
          clear hT
          go_wp2_with (go_at_call 8; refine (alive_any _).mono ?_; rintro e w4 ⟨rfl, t4⟩)
          go_ret
          exact ⟨rfl, T.out.trans' t4⟩

theorem walk (a b c : Int) (aS : Option Addr) (n cap : Nat) (l : Nat → Call) (w : World) (_ : (Lit.int .i64 a).wf = true) (_ : (Lit.int .i64 b).wf = true) (hc : (Lit.int .i64 c).wf = true) (hS : StepsIn w aS n cap l) :
    Calls Try.prog 6 #[.int .i64 a, .int .i64 b, .int .i64 c, .slice aS n cap] w fun e w' => e = .returned (.bool true) ∧ Below w.heap.size w w' :=
  (walk0 w a b c (wf_i64 hc).2 aS n cap l hS).mono fun _ _ ⟨he, ht⟩ => ⟨he, ht.toBelow (Nat.le_refl _) (by simp)⟩
end Go.Proofs.Ytaendccnjiagiaa.PoolPlays
