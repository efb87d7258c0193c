/-
  PoolTurns: the walk.
-/
import Derived.Test.YtaendccnjiagiaaPLaw
import Derived.Test.YtaendccnjiagiaaPTurnsLaw
import Derived.Test.YtaendccnjiagiaaPRead
import Derived.Deep.DeepCutAuto
namespace Go.Proofs.Ytaendccnjiagiaa.PoolTurns
open Go.RowKit

/-- the list of those that were added, beside a pool. -/
structure Beside (w0 w : World) (bp : Nat) (S : Pool) (own : List Nat) (aa : Option Addr) (na ca : Nat) (oa : List Nat) (all : List Int) : Prop where
  live : Live w0 w bp S own
  row : Row w 30 1 aa na ca oa (u64s all)
  new : ∀ b ∈ oa, w0.heap.size ≤ b
  apart : ∀ b ∈ oa, b ∉ own
theorem Beside.step {w0 w w' : World} {bp : Nat} {S : Pool} {own : List Nat} {aa : Option Addr} {na ca : Nat} {oa : List Nat} {all : List Int} (h : Beside w0 w bp S own aa na ca oa all) (t : Touch [] w w') : Beside w0 w' bp S own aa na ca oa all :=
  ⟨h.live.ids t, h.row.touch t (by simp), h.new, h.apart⟩
theorem Beside.after {w0 w w' : World} {bp : Nat} {S S' : Pool} {own own' : List Nat} {aa : Option Addr} {na ca : Nat} {oa : List Nat} {all : List Int} (h : Beside w0 w bp S own aa na ca oa all) (hr : Rep w' bp S' own') (t : Touch own w w') (ho : ∀ b ∈ own', b ∈ own ∨ w.heap.size ≤ b) : Beside w0 w' bp S' own' aa na ca oa all := by
  obtain ⟨o, -, h1⟩ := h.live.after (v := .nilIface) ⟨own', rfl, hr, t, ho⟩
  refine ⟨⟨hr, h1.touch, fun b hb => ?_⟩, h.row.touch t h.apart, h.new, fun b hb hb' => ?_⟩
  · rcases ho b hb with h' | h'
    · exact h.live.fresh b h'
    · exact Nat.le_trans h.live.touch.size h'
  · rcases ho b hb' with h' | h'
    · exact h.apart b hb h'
    · have := h.row.lt b hb; omega

set_option maxRecDepth 100000 in
set_option maxHeartbeats 3200000 in
theorem walk0 (w : World) (a0 : Int) (aA : Option Addr) (nA cA : Nat) (zA : List Int) (aD : Option Addr) (nD cD : Nat) (zD : List Int) (hA : Nums w .u64 aA nA cA zA) (hD : Nums w .u8 aD nD cD zD)
    (rA : ∀ z ∈ zA, 0 ≤ z ∧ z < 18446744073709551616) (rD : ∀ z ∈ zD, 0 ≤ z ∧ z < 256) :
    Calls Try.prog 5 #[.int .i64 a0, .slice aA nA cA, .slice aD nD cD] w fun e w' => e = .returned (.bool true) ∧ Touch [] w w' := by
  obtain ⟨m0, m1⟩ := and_mask a0
  by_cases hb : 60 < nA ∨ 100 < nD
  · go_enter Try.func5, Try.ntmps5
    go_wp2_with (go_at_call 8; refine (alive_any _).mono ?_; rintro e w2 ⟨rfl, t2⟩)
    all_goals (go_ret; exact ⟨rfl, t2⟩)
  · have h1 : nA ≤ 60 := by omega
    have h2 : nD ≤ 100 := by omega
    clear hb
    go_enter Try.func5, Try.ntmps5
    go_wp2_with fail
    generalize hK : 1 + bits BinOp.and IntKind.i64 a0 65535 % 8 = K
    have k1 : 1 ≤ K := by omega
    have k2 : K ≤ 8 := by omega
    clear hK m0 m1
    refine (new_live w w (Touch.refl _ _) K 100 5 k1 (by omega) (by decide) (by decide) (by decide) (by decide)).mono ?_
    rintro e w1 ⟨bp, o1, rfl, L1⟩
    go_wp2_with fail
    go_loopw [10, 9] (fun i s wr => ∃ k na ca aa, k ≤ nA ∧ i = .int .i64 (k : Nat) ∧ s = .slice aa na ca ∧ Touch [] w wr ∧ na ≤ k ∧ Hid (∃ S own oa all, Beside w wr bp S own aa na ca oa all ∧ Adding S K all)) (fun i _ _ => nA - (intOf i).toNat)
    case atStart => exact ⟨0, 0, 0, none, by omega, rfl, rfl, L1.touch, by omega, _, _, [], [], ⟨L1, Row.nil _ _ _ _, by simp, by simp⟩, ⟨rfl, rfl, rfl, by simp; omega, by simp, by simp⟩⟩
    case round =>
      obtain ⟨k, na, ca, aa, hk, rfl, rfl, t, hna, S, own, oa, all, hB, hS⟩ := hrel
      have hl : all.length = na := by have := hB.row.1; simpa [u64s] using this
      by_cases hlt : k < nA
      · obtain ⟨b, off, rfl, -, hb⟩ := (hA.touch t).at_ (by omega)
        have q1 := hb k hlt
        have hki : (k : Int) < (nA : Int) := by omega
        obtain ⟨id, hid⟩ : ∃ id, zA.getD k 0 = id := ⟨_, rfl⟩
        have hmem : id ∈ zA := by rw [← hid]; have := hA.len; simp [List.getD, show k < zA.length by omega]
        obtain ⟨r0, r1⟩ := rA id hmem
        rw [hid] at q1
        have hadd := hS.add (by omega) id 4607182418800017408 (by decide)
        have C := add_any wr bp S own hB.live.rep id 4607182418800017408 r0 r1 (by decide)
        obtain ⟨S', hS'⟩ : ∃ S', (S.add id 4607182418800017408).2 = S' := ⟨_, rfl⟩
        rw [hS'] at C hadd
        obtain ⟨i0, hi, hz0, hz1, hz2⟩ := info_parts Try.infoU64
        have T := Lib.hid t
        have HB := Lib.hid hB
        have HID := Lib.hid hid
        clear hb hid hmem hS' t hB
        rcases hadd with ⟨e0, hA'⟩ | ⟨e0, hA'⟩
        · rw [e0] at C
          have CC := Lib.hid C
          have HA := Lib.hid hA'
          clear C hA' e0
          go_wp2_with fail
          refine CC.out.mono ?_
          rintro e w2 ⟨own', rfl, hr, ht, ho⟩
          have hB2 := HB.out.after hr ht ho
          have T2 := Lib.hid hB2.live.touch
          have q2 := ((hA.touch T2.out).at_ (by omega))
          obtain ⟨b', off', e1, -, hb'⟩ := q2
          cases e1
          have q3 := hb' k hlt
          rw [HID.out] at q3
          clear hb' hB2
          have hB2 := HB.out.after hr ht ho
          go_wp2_with (at_builtin; refine wpList_append_row _ rfl (.tmp 49) (.tmp 54) 34 rfl 30 i0 _ 1 8 Try.u64sT hi hz0 hz1 hz2 rfl (by decide) aa na ca oa _ rfl (hB2.row.alloc _) (some ⟨w2.heap.size, 0, none⟩) 1 1 [.int .u64 id] rfl rfl (.inr ⟨_, rfl, World.news_of_block (cs := #[.int .u64 id]) (t := 30) (fr := (0, 0)) (heap_alloc_new w2 _)⟩) (by simp [Value.oneCell']) (by unfold maxLen; omega) (by omega) ?_; intro a' cap' oa' w3 hrow3 ht3 hoa _ _)
          go_roundw
          case rel =>
            have hl2 := hB2.live.rep.lt
            have t3 := ((Touch.refl [] w2).alloc (.cells #[.int .u64 id] 30)).mono (l' := oa) (by simp) |>.trans ht3 (fun b hb => .inl hb)
            refine ⟨k + 1, na + 1, cap', a', by omega, by go_num, rfl, hB2.live.touch.trans t3 (fun b hb => .inr (hB2.new b hb)), by omega, S', own', oa', all ++ [id], ⟨⟨hB2.live.rep.touch t3 (fun b hb hb' => hB2.apart b hb' hb), hB2.live.touch.trans t3 (fun b hb => .inr (hB2.new b hb)), hB2.live.fresh⟩, by simpa [u64s] using hrow3, ?_, ?_⟩, HA.out⟩
            · intro c hc
              rcases hoa with rfl | rfl
              · exact hB2.new c hc
              · simp at hc; subst hc; exact Nat.le_trans hB2.live.touch.size (by simp)
            · intro c hc
              rcases hoa with rfl | rfl
              · exact hB2.apart c hc
              · simp at hc; subst hc; intro hm; have := hl2 _ hm; omega
          case measure => simp [intOf]; omega
        · rw [e0] at C
          have CC := Lib.hid C
          have HA := Lib.hid hA'
          clear C hA' e0
          go_wp2_with fail
          refine CC.out.mono ?_
          rintro e w2 ⟨own', rfl, hr, ht, ho⟩
          have hB2 := HB.out.after hr ht ho
          go_wp2_with fail
          go_roundw
          case rel => exact ⟨k + 1, na, ca, aa, by omega, by go_num, rfl, hB2.live.touch, by omega, S', own', oa, all, hB2, HA.out⟩
          case measure => simp [intOf]; omega
      · obtain rfl : k = nA := by omega
        obtain ⟨hT, hmin⟩ := hS.turns (by obtain ⟨h, -⟩ := hB.live.rep; exact h)
        have hS2 := hS
        generalize hnx : S.work.length = nx at hT hmin
        have hmin' : (nx : Int) = min K (na : Int) := by rw [← hl]; exact hmin
        have hlen := ids_len S
        go_upto_region 13 with (fail)
        go_cut [11] (fun s wx => s = .int .i64 (nx : Nat) ∧ wx = wr)
        case first =>
          have HM := Lib.hid hmin'
          clear hmin hmin'
          go_wp2_with fail
          all_goals
            go_meet
            have hm := HM.out
            refine ⟨?_, rfl⟩
            congr 1
            omega
        case rest =>
          obtain ⟨rfl, rfl⟩ := hcut
          clear hmin hmin'
          go_wp2_with fail
          go_loopw [12, 11] (fun i s wq => ∃ j nx, j ≤ nD ∧ i = .int .i64 (j : Nat) ∧ s = .int .i64 (nx : Nat) ∧ nx ≤ na ∧ Touch [] w wq ∧ Hid (∃ S own, Beside w wq bp S own aa na ca oa all ∧ Turns S K all nx ∧ (S.work.length : Int) ≤ K)) (fun i _ _ => nD - (intOf i).toNat)
          case atStart => exact ⟨0, nx, by omega, rfl, rfl, by have := hT.nx; omega, t, S, own, hB, hT, hS.lw⟩
          case round =>
            clear hS hS2 hB hT hnx hlen t
            obtain ⟨j, nx, hj, rfl, rfl, hnx, t, S, own, hB, hT, hlw⟩ := hrel
            by_cases hlt : j < nD
            · have HL := Lib.hid hl
              have hji : (j : Int) < (nD : Int) := by omega
              have W := working_any wr bp S own hB.live.rep
              have hq := hT.q
              by_cases hw0 : S.work.length = 0
              · have hwn : S.work = [] := List.eq_nil_of_length_eq_zero hw0
                have hnn : nx = na := by
                  have := hT.full
                  rw [hw0] at this
                  have := hT.nx
                  omega
                have WH := Lib.hid W
                have V := Lib.hid (fun w2 (t2 : Touch [] wr w2) => waiting_any w2 bp S own (hB.live.rep.touch t2 (by simp)))
                have hqn : S.queue.length = 0 := by
                  have := congrArg List.length hq
                  rw [List.length_drop, hl, hnn] at this
                  simpa [idsOf] using this
                have T := Lib.hid t
                clear hT hB hq hlw W hl t hwn
                subst hnn
                go_wp2_with fail
                refine WH.out.mono ?_
                rintro e w2 ⟨a2, n2, o2, rfl, hr2, t2, ho2⟩
                have hn2 : n2 = 0 := by have := hr2.1; simp [u64s, idsOf] at this; omega
                subst hn2
                have T2 := Lib.hid (T.out.trans' t2)
                have V2 := Lib.hid (V.out w2 t2)
                clear t2 hr2
                go_wp2_with fail
                refine V2.out.mono ?_
                rintro e w3 ⟨a3, n3, o3, rfl, hr3, t3, ho3⟩
                have hn3 : n3 = 0 := by have := hr3.1; simp [u64s, idsOf] at this; omega
                subst hn3
                have T3 := Lib.hid (T2.out.trans' t3)
                clear t3 hr3
                go_wp2_with (go_at_call 8; refine (alive_any _).mono ?_; rintro e w4 ⟨rfl, t4⟩)
                go_ret
                exact ⟨rfl, T3.out.trans' t4⟩
              · obtain ⟨m, hm⟩ : ∃ m, S.work.length = m := ⟨_, rfl⟩
                have hm0 : 0 < m := by omega
                have hm8 : m ≤ 8 := by omega
                have hmK : (m : Int) ≤ K := by omega
                obtain ⟨bD, oD, rfl, -, hdc⟩ := (hD.touch t).at_ (by omega)
                have q1 := hdc j hlt
                obtain ⟨d, hd⟩ : ∃ d, zD.getD j 0 = d := ⟨_, rfl⟩
                have hdm : d ∈ zD := by rw [← hd]; have := hD.len; simp [List.getD, show j < zD.length by omega]
                obtain ⟨d0, d1⟩ := rD d hdm
                rw [hd] at q1
                have e0 : (0 : Int) ≤ d % (m : Int) := Int.emod_nonneg _ (by omega)
                have e1 : d % (m : Int) < (m : Int) := Int.emod_lt_of_pos _ (by omega)
                obtain ⟨kk, hkk⟩ : ∃ kk, (d % (m : Int)).toNat = kk := ⟨_, rfl⟩
                have hkm : kk < m := by omega
                have hTd := hT.done kk (by omega)
                have hnx1 : 1 ≤ nx := by have := hT.wl; omega
                obtain ⟨id, hid⟩ : ∃ id, (idsOf S.work).getD kk 0 = id := ⟨_, rfl⟩
                rw [hid] at hTd
                obtain ⟨S', hS'⟩ : ∃ S', (S.done id).2 = S' := ⟨_, rfl⟩
                rw [hS'] at hTd
                obtain ⟨hd0, hd5, hnext⟩ := hTd
                have WH := Lib.hid W
                have T := Lib.hid t
                have HB := Lib.hid hB
                have HNX := Lib.hid hnext

                have HID := Lib.hid hid
                have HM := Lib.hid hm
                have HD5 := Lib.hid hd5
                have HD0 := Lib.hid (show S.done id = (0, S') from Prod.ext hd0 hS')
                clear hT hB hq hlw W hl t hw0 hdc hd hdm hd0 hd5 hnext hS' hid hm
                go_wp2_with fail
                refine WH.out.mono ?_
                rintro e w2 ⟨a2, n2, o2, rfl, hr2, t2, ho2⟩
                have hn2 : n2 = m := by have := hr2.1; simp [u64s, idsOf] at this; have := HM.out; omega
                subst hn2
                obtain ⟨b2, off2, _, rfl, rfl, -⟩ := hr2.form (by omega)
                have q3 := hr2.one kk hkm
                rw [HID.out] at q3
                have q1' := (t2.cell (p := ⟨bD, oD + j, none⟩) (World.block_lt_of_cell? _ _ q1) (by simp)).trans q1
                have hlo := HB.out.live.rep.lt
                have hB2 := HB.out.step t2
                have hap : b2 ∉ own := fun h => by have := hlo _ h; have := ho2 b2 (by simp); omega
                have l2 : b2 < w2.heap.size := hr2.lt b2 (by simp)
                have C3 := done_any w2 bp S own hB2.live.rep id
                rw [HD0.out] at C3
                have CC3 := Lib.hid C3
                have HB2 := Lib.hid hB2
                have HLO := Lib.hid hlo
                have HO2 := Lib.hid ho2
                clear t2 q1 hlo hB2 C3 ho2
                go_wp2_with fail
                refine CC3.out.mono ?_
                rintro e w3 ⟨own3, rfl, hr3, t3, ho3⟩
                have hB3 := HB2.out.after hr3 t3 ho3
                have hrw3 := hr2.touch t3 (by simpa using hap)
                have hap3 : b2 ∉ own3 := fun h => by
                  rcases ho3 b2 h with h' | h'
                  · exact hap h'
                  · omega
                have q3 := hrw3.one kk hkm
                rw [HID.out] at q3
                have C4 := done_any w3 bp S' own3 hB3.live.rep id
                rw [HD5.out] at C4
                have CC4 := Lib.hid C4
                have HB3 := Lib.hid hB3
                clear hB3 hr3 t3 ho3 C4 q1'
                go_wp2_with fail
                refine CC4.out.mono ?_
                rintro e w4 ⟨own4, rfl, hr4, t4, ho4⟩
                have hB4 := HB3.out.after hr4 t4 ho4
                have C5 := Lib.hid (working_any w4 bp S' own4 hB4.live.rep)
                have HB4 := Lib.hid hB4
                clear hB4 hr4 t4 ho4 q3
                go_wp2_with fail
                refine C5.out.mono ?_
                rintro e w5 ⟨a5, n5, o5, rfl, hr5, t5, ho5⟩
                have hB5 := HB4.out.step t5
                have hn5 : n5 = (idsOf S'.work).length := by have := hr5.1; simp [u64s] at this; exact this.symm
                have hlall : all.length = na := by have := hB5.row.1; simpa [u64s] using this
                have HNX2 := HNX.out
                rw [hlall] at HNX2
                by_cases hnl : nx < na
                · rw [if_pos hnl] at HNX2
                  obtain ⟨f1, f2, f3⟩ := HNX2
                  rw [HM.out] at f1 f2
                  rw [f1] at hn5
                  subst hn5
                  obtain ⟨b5, off5, _, rfl, rfl, -⟩ := hr5.form (by omega)
                  have p1 := hr5.one (n5 - 1) (by omega)
                  rw [f2] at p1
                  have hca := hB5.row.2.1
                  have hcm := hB5.row.2.2.1
                  obtain ⟨ba, offa, _, rfl, rfl, -⟩ := hB5.row.form (by omega)
                  have p2 := hB5.row.one nx hnl
                  obtain ⟨y, hy⟩ : ∃ y, all.getD nx 0 = y := ⟨_, rfl⟩
                  rw [hy] at p1 p2
                  have s1 : IntKind.i64.wrap ((n5 : Int) - 1) = (n5 : Int) - 1 := IntWalk.i64_in _ (by omega)
                  have s2 : ((n5 : Int) - 1).toNat = n5 - 1 := by omega
                  have s3 : (0 : Int) ≤ (n5 : Int) - 1 := by omega
                  have s4 : (n5 : Int) - 1 < (n5 : Int) := by omega
                  have s5 : (nx : Int) < (na : Int) := by omega
                  have HB5 := Lib.hid hB5
                  have HA := Lib.hid hlall
                  have HF3 := Lib.hid f3
                  unfold maxLen at hcm
                  have HF1 := Lib.hid f1
                  clear hy f1 f2 f3 hB5 hlall hr5 hr2 hrw3 t5 ho5
                  go_wp2_with fail
                  go_quiet (fail)
                  clear p1 p2 s1 s2 s3 s4
                  go_upto_region 30 with fail
                  generalize hw6 : w5.drewN _ = w6
                  have t6 : Touch [] w5 w6 := by subst hw6; exact (Touch.refl _ _).drewN _
                  have hB6 := HB5.out.step t6
                  have V := Lib.hid (fun w' (t' : Touch [] w6 w') => waiting_any w' bp S' own4 ((hB6.live.rep).touch t' (by simp)))
                  have N := Lib.hid (fun w' (t' : Touch [] w6 w') => Nums.drop (Nums.ofRow (hB6.row.touch t' (by simp))) (nx + 1) (by omega))
                  have HQ := Lib.hid (HF3.out.q)
                  have HB6 := Lib.hid hB6
                  have s6 : (0 : Int) ≤ (nx : Int) + 1 := by omega
                  have s7 : (nx : Int) + 1 ≤ (na : Int) := by omega
                  have s8 : ((nx : Int) + 1).toNat = nx + 1 := by omega
                  clear hw6 t6 hB6
                  go_cut [11, 146] (fun s c wx => s = .int .i64 ((nx + 1 : Nat) : Int) ∧ c = .bool false ∧ Touch [] w6 wx)
                  case first =>
                    by_cases hce : ca = nx + 1
                    · have hq0 : idsOf S'.queue = [] := by rw [HQ.out]; exact List.drop_eq_nil_of_le (by rw [HA.out]; omega)
                      have HQ0 := Lib.hid hq0
                      have hna1 : na = nx + 1 := by omega
                      clear hq0
                      clear N
                      have N0 := Lib.hid (fun w' : World => (⟨rfl, Nat.le_refl _, by decide, fun h => absurd h (by decide)⟩ : Nums w' .u64 (some ⟨ba, offa, none⟩) 0 0 []))
                      subst hce
                      subst hna1
                      go_region_held3 (fun _ => True) (trivial) ((first | (go_at_call 15; refine (V.out _ (by exact (Touch.refl _ _).drew)).mono ?_; rintro e w7 ⟨a7, n7, o7, rfl, hr7, t7, ho7⟩) | (go_at_call 13; refine (idsEq_any _ _ _ _ _ _ _ (idsOf S'.queue) [] (Nums.ofRow hr7) (N0.out _)).mono ?_; rw [show decide (idsOf S'.queue = []) = true from decide_eq_true HQ0.out]; rintro e w8 ⟨rfl, t8⟩)))
                      all_goals go_wp2_with fail
                      all_goals (go_meet; exact ⟨rfl, rfl, ((Touch.refl _ _).drew.trans' t7).trans' t8⟩)
                    · have n1 := N.out
                      rw [if_neg hce] at n1
                      have N1 := Lib.hid n1
                      clear n1 N
                      go_region_held3 (fun _ => True) (trivial) ((first | (go_at_call 15; refine (V.out _ (by exact (Touch.refl _ _).drew)).mono ?_; rintro e w7 ⟨a7, n7, o7, rfl, hr7, t7, ho7⟩) | (go_at_call 13; refine (idsEq_any _ _ _ _ _ _ _ (idsOf S'.queue) (all.drop (nx + 1)) (Nums.ofRow hr7) (N1.out _ (by exact ((Touch.refl _ _).drew).trans' t7))).mono ?_; rw [show decide (idsOf S'.queue = (all.drop (nx + 1))) = true from decide_eq_true HQ.out]; rintro e w8 ⟨rfl, t8⟩)))
                      all_goals go_wp2_with fail
                      all_goals (go_meet; exact ⟨rfl, rfl, ((Touch.refl _ _).drew.trans' t7).trans' t8⟩)
                  case rest =>
                    obtain ⟨rfl, rfl, t9⟩ := hcut
                    have T9 := Lib.hid t9
                    clear t9
                    go_wp2_with fail
                    go_roundw
                    case rel => exact ⟨j + 1, nx + 1, by omega, by go_num, rfl, by omega, (HB6.out.step T9.out).live.touch, S', own4, HB6.out.step T9.out, HF3.out, by have := HF1.out; simp only [idsOf, List.length_map] at this; omega⟩
                    case measure => simp [intOf]; omega
                · rw [if_neg hnl] at HNX2
                  obtain ⟨f1, f3⟩ := HNX2
                  rw [HM.out] at f1
                  rw [f1] at hn5
                  have hnn : nx = na := by omega
                  have hca := hB5.row.2.1
                  have hcm := hB5.row.2.2.1
                  have hsub : IntKind.i64.wrap ((n2 : Int) - 1) = (n2 : Int) - 1 := IntWalk.i64_in _ (by omega)
                  obtain ⟨ba, offa, _, rfl, rfl, -⟩ := hB5.row.form (by omega)
                  have hn5i : (n5 : Int) = (n2 : Int) - 1 := by omega
                  have HN5 := Lib.hid hn5i
                  have HB5 := Lib.hid hB5
                  have HA := Lib.hid hlall
                  have HF3 := Lib.hid f3
                  have HF1 := Lib.hid f1
                  unfold maxLen at hcm
                  clear f1 f3 hB5 hlall hr5 hr2 hrw3 t5 ho5 hn5
                  subst hnn
                  go_upto_region 30 with fail
                  have hB5 := HB5.out
                  have V := Lib.hid (fun w' (t' : Touch [] w5 w') => waiting_any w' bp S' own4 ((hB5.live.rep).touch t' (by simp)))
                  have hq0 : idsOf S'.queue = [] := by rw [HF3.out.q]; exact List.drop_eq_nil_of_le (by rw [HA.out]; omega)
                  have HQ0 := Lib.hid hq0
                  have s7 : (nx : Int) ≤ (nx : Int) := by omega
                  clear hB5 hq0
                  go_cut [11, 146] (fun s c wx => s = .int .i64 ((nx : Nat) : Int) ∧ c = .bool false ∧ Touch [] w5 wx)
                  case first =>
                    by_cases hce : ca = nx
                    · have N0 := Lib.hid (fun w' : World => (⟨rfl, Nat.le_refl _, by decide, fun h => absurd h (by decide)⟩ : Nums w' .u64 (some ⟨ba, offa, none⟩) 0 0 []))
                      subst hce
                      go_region_held3 (fun _ => True) (trivial) ((first | (go_at_call 15; refine (V.out _ (by exact (Touch.refl _ _).drew)).mono ?_; rintro e w7 ⟨a7, n7, o7, rfl, hr7, t7, ho7⟩) | (go_at_call 13; refine (idsEq_any _ _ _ _ _ _ _ (idsOf S'.queue) [] (Nums.ofRow hr7) (N0.out _)).mono ?_; rw [show decide (idsOf S'.queue = []) = true from decide_eq_true HQ0.out]; rintro e w8 ⟨rfl, t8⟩)))
                      all_goals go_wp2_with fail
                      all_goals (go_meet; exact ⟨rfl, rfl, ((Touch.refl _ _).drew.trans' t7).trans' t8⟩)
                    · have N0 := Lib.hid (fun w' : World => (⟨rfl, Nat.zero_le _, by omega, fun h => absurd h (by decide)⟩ : Nums w' .u64 (some ⟨ba, offa + nx, none⟩) 0 (ca - nx) []))
                      go_region_held3 (fun _ => True) (trivial) ((first | (go_at_call 15; refine (V.out _ (by exact (Touch.refl _ _).drew)).mono ?_; rintro e w7 ⟨a7, n7, o7, rfl, hr7, t7, ho7⟩) | (go_at_call 13; refine (idsEq_any _ _ _ _ _ _ _ (idsOf S'.queue) [] (Nums.ofRow hr7) (N0.out _)).mono ?_; rw [show decide (idsOf S'.queue = []) = true from decide_eq_true HQ0.out]; rintro e w8 ⟨rfl, t8⟩)))
                      all_goals go_wp2_with fail
                      all_goals (go_meet; exact ⟨rfl, rfl, ((Touch.refl _ _).drew.trans' t7).trans' t8⟩)
                  case rest =>
                    obtain ⟨rfl, rfl, t9⟩ := hcut
                    have T9 := Lib.hid t9
                    clear t9
                    go_wp2_with fail
                    go_roundw
                    case rel => exact ⟨j + 1, nx, by omega, by go_num, rfl, by omega, (HB5.out.step T9.out).live.touch, S', own4, HB5.out.step T9.out, HF3.out, by have := HF1.out; simp only [idsOf, List.length_map] at this; omega⟩
                    case measure => simp [intOf]; omega
            · have T := Lib.hid t
              clear hT hB hl t hlw
              go_wp2_with (go_at_call 8; refine (alive_any _).mono ?_; rintro e w4 ⟨rfl, t4⟩)
              go_ret
              exact ⟨rfl, T.out.trans' t4⟩

theorem walk (a0 : Int) (aA : Option Addr) (nA cA : Nat) (zA : List Int) (aD : Option Addr) (nD cD : Nat) (zD : List Int) (w : World) (_ : (Lit.int .i64 a0).wf = true) (hA : NumsIn w .u64 aA nA cA zA) (hD : NumsIn w .u8 aD nD cD zD) :
    Calls Try.prog 5 #[.int .i64 a0, .slice aA nA cA, .slice aD nD cD] w fun e w' => e = .returned (.bool true) ∧ Below w.heap.size w w' :=
  (walk0 w a0 aA nA cA zA aD nD cD zD hA.nums hD.nums (fun z hz => wf_u64 (hA.wf z hz)) (fun z hz => wf_u8 (hD.wf z hz))).mono fun _ _ ⟨he, ht⟩ => ⟨he, ht.toBelow (Nat.le_refl _) (by simp)⟩
end Go.Proofs.Ytaendccnjiagiaa.PoolTurns
