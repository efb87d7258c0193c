/-
  What bytes say: the document's answer.
-/
import Derived.Test.YtodehmognjofhaaGreatQJDecL
import Derived.Test.YtodehmognjofhaaGreatQJDoc
namespace Go.Proofs.YtodehmognjofhaaGreat
open Go.RowKit

theorem nJ_two (s : ByteArray) (h74 : 74 ≤ s.size) : nJ (bsOf s) = (s[72]'(by omega)).toNat + 256 * (s[73]'(by omega)).toNat := by
  have hl := bsOf_len s
  have e1 : (bsOf s).drop 72 = (bsOf s).getD 72 0 :: (bsOf s).getD 73 0 :: (bsOf s).drop 74 := by
    rw [List.drop_eq_getElem_cons (by omega), List.drop_eq_getElem_cons (by omega), List.getD_eq_getElem?_getD, List.getElem?_eq_getElem (by omega), List.getD_eq_getElem?_getD, List.getElem?_eq_getElem (by omega)]; rfl
  unfold nJ
  rw [e1, bsJ_at s (k := 72) (by omega), bsJ_at s (k := 73) (by omega)]
  rfl
set_option maxRecDepth 100000 in
theorem rdec_short (w : World) (s : ByteArray) (h74 : s.size < 74) : Calls Tryz.prog 16 #[.string s] w fun e w' => ∃ u, e = .returned (.tuple #[u, .int .i64 50]) ∧ RecV w' u noR ∧ Touch [] w w' := by
  have ki : (s.size : Int) < 74 := by omega
  have HZ := Lib.hid (At.new w 40 [.int .u64 0, .string ByteArray.empty, .string ByteArray.empty, .slice none 0 0])
  have d0 := HZ.out.cell 0
  have d1 := HZ.out.cell 1
  have d2 := HZ.out.cell 2
  have d3 := HZ.out.cell 3
  have fz := fun o => HZ.out.frozen o
  go_enter Tryz.func16, Tryz.ntmps16
  go_wp2_with fail
  refine bodyPost_ret (v := .tuple #[.agg #[.int .u64 0, .string ⟨#[]⟩, .string ⟨#[]⟩, .slice none 0 0], .int .i64 50]) ?_ rfl ⟨_, rfl, RecV.no _, (Touch.refl [] w).alloc _⟩
  exact results_row_tmp (p := 2) (u := 3) (ty := 40) rfl _ _ w.heap.size _ _ rfl HZ.out Tryz.underlying40 rfl (by kernel_rfl)
set_option maxRecDepth 100000 in
set_option maxHeartbeats 6400000 in
theorem rdec_long (w : World) (s : ByteArray) (hs : s.size < 1099511627776) (h74 : 74 ≤ s.size) : Calls Tryz.prog 16 #[.string s] w fun e w' => ∃ u, e = .returned (.tuple #[u, .int .i64 (codeD s)]) ∧ RecV w' u (decD s) ∧ Touch [] w w' := by
  have hx4 : nJ (bsOf s) < 65536 := by
    have h := leV_lt (((bsOf s).drop 72).take 2) fun x hx => bsOf_bytes s x (List.mem_of_mem_drop (List.mem_of_mem_take hx))
    rw [List.length_take, List.length_drop, bsOf_len, Nat.min_eq_left (by omega)] at h
    exact h
  have hn2 := nJ_two s h74
  have l72 : (72 : Nat) < s.size := by omega
  have l73 : (73 : Nat) < s.size := by omega
  have i72 : (72 : Int) < (s.size : Int) := by omega
  have i73 : (73 : Int) < (s.size : Int) := by omega
  have i72' : (72 : Int) ≤ (s.size : Int) := by omega
  have i40' : (40 : Int) ≤ (s.size : Int) := by omega
  obtain ⟨b0, c0⟩ : ∃ b0, (s[72]'l72).toNat = b0 := ⟨_, rfl⟩
  obtain ⟨b1, c1⟩ : ∃ b1, (s[73]'l73).toNat = b1 := ⟨_, rfl⟩
  have hb0 : b0 < 256 := by rw [← c0]; exact UInt8.toNat_lt _
  have hb1 : b1 < 256 := by rw [← c1]; exact UInt8.toNat_lt _
  rw [c0, c1] at hn2
  have C1 := Lib.hid fun (W : World) (rb : Nat) (h : At W rb 103 (rdR s (0 : Nat) 0)) => rrnum_any W rb s 0 8 hs (by omega) (by omega) h
  rw [List.drop_zero] at C1
  have HR0 : Hid (recD s = ⟨leV ((bsOf s).take 8), s.extract 8 40, s.extract 40 72, blD (bsOf s) (nJ (bsOf s))⟩) := Lib.hid rfl
  have HC : Hid (codeD s = if s.size < 74 ∨ s.size < 74 + 4 * nJ (bsOf s) then 50 else if s.size = 74 + 4 * nJ (bsOf s) ∧ mayR (recD s) then 0 else 51) := Lib.hid rfl
  generalize nJ (bsOf s) = x4 at hx4 hn2 HR0 HC
  generalize leV ((bsOf s).take 8) = x1 at C1 HR0
  obtain ⟨L, hL⟩ : ∃ L, L = blD (bsOf s) x4 := ⟨_, rfl⟩
  have HLl : Hid (L.length = x4) := Lib.hid (by rw [hL]; simp [blD])
  have HLg : Hid (∀ k, k < x4 → L.take (k + 1) = L.take k ++ [((leV (((bsOf s).drop (74 + 4 * k)).take 4) : Nat) : Int)]) := Lib.hid (by
    intro k hk
    rw [hL]
    unfold blD
    rw [List.take_succ_eq_append_getElem (by simpa using hk)]
    simp)
  rw [← hL] at HR0
  clear hL
  have jb0 : IntKind.i64.wrap (b0 : Int) = (b0 : Int) := IntWalk.i64_in _ (by omega)
  have jb1 : IntKind.i64.wrap (b1 : Int) = (b1 : Int) := IntWalk.i64_in _ (by omega)
  have jb2 : IntKind.i64.wrap (256 * (b1 : Int)) = 256 * (b1 : Int) := IntWalk.i64_in _ (by omega)
  have jb3 : IntKind.i64.wrap ((b0 : Int) + 256 * (b1 : Int)) = (x4 : Int) := by rw [IntWalk.i64_in _ (by omega)]; omega
  obtain ⟨m4, hm4⟩ : ∃ m4, m4 = 4 * x4 := ⟨_, rfl⟩
  obtain ⟨M, hM⟩ : ∃ M, M = 74 + 4 * x4 := ⟨_, rfl⟩
  have jm : IntKind.i64.wrap (4 * (x4 : Int)) = (m4 : Int) := by rw [IntWalk.i64_in _ (by omega)]; omega
  have jm2 : IntKind.i64.wrap (74 + (m4 : Int)) = (M : Int) := by rw [IntWalk.i64_in _ (by omega)]; omega
  have HM := Lib.hid hM
  rw [← hM] at HC
  clear hM hm4
  have k74 : ¬ (s.size : Int) < 74 := by omega
  have HX4 := Lib.hid hx4
  clear hn2 hx4
  go_enter Tryz.func16, Tryz.ntmps16
  go_upto_region 4 with (fail)
  have HZ0 := Lib.hid ((At.new w 40 [.int .u64 0, .string ByteArray.empty, .string ByteArray.empty, .slice none 0 0]).alloc (.cells (rdR s 0 0).toArray 103))
  have HR0' := Lib.hid (At.new (w.alloc (.cells #[.int .u64 0, .string ByteArray.empty, .string ByteArray.empty, .slice none 0 0] 40)) 103 (rdR s 0 0))
  have T0 := Lib.hid (((Touch.refl [] w).alloc (.cells #[.int .u64 0, .string ByteArray.empty, .string ByteArray.empty, .slice none 0 0] 40)).alloc (.cells (rdR s 0 0).toArray 103))
  obtain ⟨W3, hW3⟩ : ∃ W3, W3 = (w.alloc (.cells #[.int .u64 0, .string ⟨#[]⟩, .string ⟨#[]⟩, .slice none 0 0] 40)).alloc (.cells #[.string s, .int .i64 0, .int .i64 0] 103) := ⟨_, rfl⟩
  rw [← hW3]
  have HZ3 : Hid (At W3 w.heap.size 40 [.int .u64 0, .string ByteArray.empty, .string ByteArray.empty, .slice none 0 0]) := by rw [hW3]; exact HZ0
  have HR3 : Hid (At W3 (w.heap.size + 1) 103 (rdR s (0 : Nat) 0)) := by rw [hW3]; have := HR0'; rw [World.size_alloc] at this; exact this
  have T3 : Hid (Touch [] w W3) := by rw [hW3]; exact T0
  have HS3 : Hid (W3.heap.size = w.heap.size + 2) := Lib.hid (by rw [hW3]; simp only [World.size_alloc])
  clear hW3 T0 HR0' HZ0
  generalize hy1 : s.extract 8 40 = y1 at HR0
  generalize hy2 : s.extract 40 72 = y2 at HR0
  obtain ⟨rb, hrb⟩ : ∃ rb, rb = w.heap.size + 1 := ⟨_, rfl⟩
  rw [← hrb] at HR3 ⊢
  have HRB := Lib.hid hrb
  clear hrb
  obtain ⟨zb, hzb⟩ : ∃ zb, zb = w.heap.size := ⟨_, rfl⟩
  have HZB := Lib.hid hzb
  rw [← hzb] at HZ3 ⊢
  clear hzb
  go_cut [5] (fun x wx => ∃ ab, x = .pointer (some ⟨ab, 0, none⟩) ∧ rb < ab ∧ Touch [] w wx ∧ Hid (At wx ab 40 [.int .u64 (x1 : Int), .string y1, .string y2, .slice none 0 0]) ∧ Hid (At wx zb 40 [.int .u64 0, .string ByteArray.empty, .string ByteArray.empty, .slice none 0 0]))
  case first =>
    clear jb0 jb1 jb2 jb3 jm jm2 c0 c1 HC HLl HLg HM
    go_region_law (first | (refine step_call_fn (by rfl) 54 #[.pointer (some ⟨rb, 0, none⟩), .int .i64 8] (by kernel_rfl) (fun v w' => v = .int .u64 (x1 : Int) ∧ Touch [rb] W3.drew w') ((C1.out _ _ HR3.out.drew).mono fun e w' h => ⟨_, h.1, rfl, h.2.1⟩) ?_; rintro v w5 ⟨rfl, t5⟩) | (refine step_call_fn (by rfl) 54 #[.pointer (some ⟨rb, 0, none⟩), .int .i64 8] (by kernel_rfl) (fun v w' => v = .int .u64 (x1 : Int) ∧ Touch [rb] (W3.drew.alloc (.cells #[.int .u64 0, .string ⟨#[]⟩, .string ⟨#[]⟩, .slice none 0 0] 40)) w') ((C1.out _ _ (HR3.out.drew.alloc _)).mono fun e w' h => ⟨_, h.1, rfl, h.2.1⟩) ?_; rintro v w5 ⟨rfl, t5⟩; have hn5 := (At.new W3.drew 40 [.int .u64 0, .string ⟨#[]⟩, .string ⟨#[]⟩, .slice none 0 0]).touch t5 (by have := HS3.out; have := HRB.out; simp; omega); have d0 : w5.cell? ⟨W3.heap.size, 0, none⟩ = some (.int .u64 0) := hn5.cell 0; have d1 : w5.cell? ⟨W3.heap.size, 1, none⟩ = some (.string ⟨#[]⟩) := hn5.cell 1; have d2 : w5.cell? ⟨W3.heap.size, 2, none⟩ = some (.string ⟨#[]⟩) := hn5.cell 2; have d3 : w5.cell? ⟨W3.heap.size, 3, none⟩ = some (.slice none 0 0) := hn5.cell 3; have fz : ∀ o, w5.frozen? ⟨W3.heap.size, o, none⟩ = false := fun o => hn5.frozen o; have HN5 := Lib.hid hn5; clear hn5))
    all_goals go_wp2_with fail
    · have s5 := t5.size
      have h3 := HS3.out
      have h4 := HRB.out
      have h5 := HZB.out
      simp only [World.size_drew] at s5
      go_meet
      exact ⟨_, rfl, by omega, (T3.out.drew.trans t5 (fun x hx => .inr (by rw [List.mem_singleton.1 hx]; omega))).alloc _, Lib.hid (At.new w5 _ _), Lib.hid ((HZ3.out.drew.touch t5 (by simp; omega)).alloc _)⟩
    · have s5 := t5.size
      have h3 := HS3.out
      have h4 := HRB.out
      have h5 := HZB.out
      simp only [World.size_drew, World.size_alloc] at s5
      go_meet
      have tt := (T3.out.drew.alloc (.cells #[.int .u64 0, .string ⟨#[]⟩, .string ⟨#[]⟩, .slice none 0 0] 40)).trans t5 (fun x hx => .inr (by rw [List.mem_singleton.1 hx]; omega))
      have hz := (HZ3.out.drew.alloc (.cells #[.int .u64 0, .string ⟨#[]⟩, .string ⟨#[]⟩, .slice none 0 0] 40)).touch t5 (by simp; omega)
      have hq : w.heap.size ≤ W3.heap.size := by omega
      have hzn : zb ≠ W3.heap.size := by omega
      exact ⟨_, rfl, by omega, (((tt.setCell ⟨W3.heap.size, 0, none⟩ (.inr hq) _).setCell ⟨W3.heap.size, 1, none⟩ (.inr hq) _).setCell ⟨W3.heap.size, 2, none⟩ (.inr hq) _).setCell ⟨W3.heap.size, 3, none⟩ (.inr hq) _, Lib.hid ((((HN5.out.set 0 (.int .u64 (x1 : Int))).set 1 (.string y1)).set 2 (.string y2)).set 3 (.slice none 0 0)), Lib.hid ((((hz.other (p := ⟨W3.heap.size, 0, none⟩) hzn _).other (p := ⟨W3.heap.size, 1, none⟩) hzn _).other (p := ⟨W3.heap.size, 2, none⟩) hzn _).other (p := ⟨W3.heap.size, 3, none⟩) hzn _)⟩
  case rest =>
    obtain ⟨ab, rfl, hab, t7, hA7, hZ7⟩ := hcut
    have T7 := Lib.hid t7
    have HAB := Lib.hid hab
    clear t7 hab C1 HR3 HZ3 T3 HS3 hy1 hy2
    go_upto_region 5 with (fail)
    go_cut [6] (fun x wx => x = .int .i64 (x4 : Int) ∧ Hid (Touch [] w wx) ∧ Hid (At wx ab 40 [.int .u64 (x1 : Int), .string y1, .string y2, .slice none 0 0]) ∧ Hid (At wx zb 40 [.int .u64 0, .string ByteArray.empty, .string ByteArray.empty, .slice none 0 0]))
    case first =>
      clear jm jm2 HC HLl HLg HM
      go_quiet (fail)
      go_wp2_with fail
      go_meet
      exact ⟨rfl, Lib.hid (T7.out.drewN _), hA7, hZ7⟩
    case rest =>
      obtain ⟨rfl, T8, HX8, HZ8⟩ := hcut
      clear jb0 jb1 jb2 jb3 T7 hA7 hZ7 c0 c1 l72 l73 i72 i73 i72' i40' hb0 hb1
      have d0 : wc.cell? ⟨zb, 0, none⟩ = some (.int .u64 0) := HZ8.out.cell 0
      have d1 : wc.cell? ⟨zb, 1, none⟩ = some (.string ByteArray.empty) := HZ8.out.cell 1
      have d2 : wc.cell? ⟨zb, 2, none⟩ = some (.string ByteArray.empty) := HZ8.out.cell 2
      have d3 : wc.cell? ⟨zb, 3, none⟩ = some (.slice none 0 0) := HZ8.out.cell 3
      have fz := fun o => HZ8.out.frozen o
      have hzw : w.heap.size ≤ zb := by have := HZB.out; omega
      by_cases k1 : s.size < M
      · have hc : codeD s = 50 := by rw [HC.out, if_pos (.inr k1)]
        have hd : decD s = noR := by unfold decD; rw [hc]; rfl
        have ki : (s.size : Int) < (M : Int) := by omega
        go_wp2_with fail
        have hz := (((HZ8.out.set 0 (.int .u64 0)).set 1 (.string ⟨#[]⟩)).set 2 (.string ⟨#[]⟩)).set 3 (.slice none 0 0)
        have TT := (((T8.out.setCell ⟨zb, 0, none⟩ (.inr hzw) (.int .u64 0)).setCell ⟨zb, 1, none⟩ (.inr hzw) (.string ⟨#[]⟩)).setCell ⟨zb, 2, none⟩ (.inr hzw) (.string ⟨#[]⟩)).setCell ⟨zb, 3, none⟩ (.inr hzw) (.slice none 0 0)
        refine bodyPost_ret (v := .tuple #[.agg #[.int .u64 0, .string ⟨#[]⟩, .string ⟨#[]⟩, .slice none 0 0], .int .i64 50]) ?_ rfl ⟨_, by first | rfl | (rw [hc]; rfl), by first | exact RecV.no _ | (rw [hd]; exact RecV.no _), TT⟩
        exact results_row_tmp (p := 2) (u := 3) (ty := 40) rfl _ _ zb _ _ rfl hz Tryz.underlying40 rfl (by kernel_rfl)
      · have ki : ¬ (s.size : Int) < (M : Int) := by omega
        obtain ⟨i0, hii, hz0, hz1, hz2⟩ := info_parts Tryz.infoI
        clear d0 d1 d2 d3 fz
        have RR := Lib.hid HX8.out.lt
        have RZ := Lib.hid HZ8.out.lt
        have HAZ : Hid (zb < ab) := Lib.hid (by have := HAB.out; have := HZB.out; have := HRB.out; omega)
        have HZW := Lib.hid hzw
        clear hzw
        go_wp2_with fail
        go_loopw [7] (fun i wr => ∃ (k : Nat) (a' : Option Addr) (cp : Nat) (own : List Nat), k ≤ x4 ∧ i = .int .i64 (k : Int) ∧ Touch [] w wr ∧ Hid (wc.heap.size ≤ wr.heap.size) ∧ Hid (At wr ab 40 [.int .u64 (x1 : Int), .string y1, .string y2, .slice a' k cp]) ∧ Hid (At wr zb 40 [.int .u64 0, .string ByteArray.empty, .string ByteArray.empty, .slice none 0 0]) ∧ Hid (Row wr 3 1 a' k cp own ((L.take k).map (Value.int .i64))) ∧ Hid (∀ x ∈ own, wc.heap.size ≤ x)) (fun i _ => x4 - (intOf i).toNat)
        case atStart => exact ⟨0, none, 0, [], Nat.zero_le _, rfl, T8.out, Lib.hid (Nat.le_refl _), HX8, HZ8, Lib.hid (by rw [List.take_zero]; exact Row.nil _ _ _ _), Lib.hid (by simp)⟩
        case round =>
          obtain ⟨k, a', cp, own, hk, rfl, tr, HS, HXk, HZk, HRow, HO⟩ := hrel
          by_cases hkn : k < x4
          · have hki : (k : Int) < (x4 : Int) := by omega
            have hM := HM.out
            have hx4 := HX4.out
            obtain ⟨p4, hp4⟩ : ∃ p4, p4 = 4 * k := ⟨_, rfl⟩
            obtain ⟨p, hp⟩ : ∃ p, p = 74 + 4 * k := ⟨_, rfl⟩
            have jp4 : IntKind.i64.wrap (4 * (k : Int)) = (p4 : Int) := by rw [IntWalk.i64_in _ (by omega)]; omega
            have jp : IntKind.i64.wrap (74 + (p4 : Int)) = (p : Int) := by rw [IntWalk.i64_in _ (by omega)]; omega
            have q0 : (0 : Int) ≤ (p : Int) := by omega
            have q1 : (p : Int) ≤ (s.size : Int) := by omega
            have q2 : p ≤ s.size := by omega
            have q3 : p + 4 ≤ s.size := by omega
            have hts : (s.extract p s.size).size = s.size - p := by rw [ByteArray.size_extract]; omega
            have C := Lib.hid fun (W : World) (b : Nat) (h : At W b 103 (rdR (s.extract p s.size) (0 : Nat) 0)) => rrnum_any W b (s.extract p s.size) 0 4 (by omega) (by omega) (by omega) h
            rw [List.drop_zero, bsOf_extract, List.take_take, Nat.min_eq_left (by omega)] at C
            have HG := Lib.hid (HLg.out k hkn)
            rw [← hp] at HG
            have hq : leV (((bsOf s).drop p).take 4) < 4294967296 := by
              have h := leV_lt (((bsOf s).drop p).take 4) fun x hx => bsOf_bytes s x (List.mem_of_mem_drop (List.mem_of_mem_take hx))
              exact Nat.lt_of_lt_of_le h (Nat.le_trans (Nat.pow_le_pow_right (by decide) (show _ ≤ 4 by rw [List.length_take]; omega)) (by decide))
            generalize leV (((bsOf s).drop p).take 4) = q at C hq HG
            have jq : IntKind.i64.wrap (q : Int) = (q : Int) := IntWalk.i64_in _ (by omega)
            have HP : Hid (∀ (W : World) (b : Nat), W.cell? ⟨b, 0, none⟩ = some (.int .i64 (q : Int)) → ∀ j u, [Value.int .i64 (q : Int)][j]? = some u → W.cell? ((⟨b, 0, none⟩ : Addr).add j) = some u) := Lib.hid (by
              intro W b y j u hj
              cases j with
              | zero => simp at hj; subst hj; rw [Addr.add_lit]; exact y
              | succ j => simp at hj)
            have HK4 := Lib.hid hkn
            clear hts hp hp4 q3 hM hq
            go_upto_region 12 with (fail)
            generalize s.extract p s.size = ts at C ⊢
            have HQ0 := Lib.hid (At.new wr 103 (rdR ts (0 : Nat) 0))
            obtain ⟨Wq, hWq⟩ : ∃ Wq, Wq = wr.alloc (.cells #[.string ts, .int .i64 0, .int .i64 0] 103) := ⟨_, rfl⟩
            rw [← hWq]
            have tq : Touch [] wr Wq := by rw [hWq]; exact (Touch.refl _ _).alloc _
            have TQ := Lib.hid tq
            have HQ : Hid (At Wq wr.heap.size 103 (rdR ts (0 : Nat) 0)) := by rw [hWq]; exact HQ0
            have HXq := Lib.hid (HXk.out.touch tq (by simp))
            have HZq := Lib.hid (HZk.out.touch tq (by simp))
            have HRq := Lib.hid (HRow.out.touch tq (by simp))
            have HSq : Hid (Wq.heap.size = wr.heap.size + 1) := Lib.hid (by rw [hWq]; simp only [World.size_alloc])
            have HOL := Lib.hid HRow.out.lt
            have HXL := Lib.hid HXk.out.lt
            have HZL := Lib.hid HZk.out.lt
            clear hWq HQ0 tq
            obtain ⟨qb, hqb⟩ : ∃ qb, qb = wr.heap.size := ⟨_, rfl⟩
            have HQB := Lib.hid hqb
            rw [← hqb] at HQ ⊢
            clear hqb
            have c3 : Wq.cell? ⟨ab, 3, none⟩ = some (.slice a' k cp) := HXq.out.cell 3
            have N1 : ∀ x ∈ own, x ≠ qb := fun x hx => by have := HOL.out x hx; have := HQB.out; omega
            have N2 : ∀ x ∈ own, x ≠ ab := fun x hx => by have := HO.out x hx; have := RR.out; omega
            have N3 : ∀ x ∈ own, x ≠ zb := fun x hx => by have := HO.out x hx; have := RZ.out; omega
            have HN2 := Lib.hid (show ab ∉ own from fun h => N2 _ h rfl)
            have HN3 := Lib.hid (show zb ∉ own from fun h => N3 _ h rfl)
            have HN4 : Hid (∀ b ∈ own, b ∉ [qb]) := Lib.hid (fun b hb hb' => N1 b hb (List.mem_singleton.1 hb'))
            have HN5 : Hid (ab ∉ [qb] ∧ zb ∉ [qb] ∧ zb ≠ ab) := Lib.hid (by have := HQB.out; have := HXL.out; have := HZL.out; have := HAZ.out; simp; omega)
            clear N1 N2 N3 jp4 jp q0 q1 q2 jm jm2 k1 ki k74 h74
            go_region_law ((first | (refine step_append_row _ (by rfl) _ _ _ (by rfl) 3 i0 _ 1 8 Tryz.intsJ hii hz0 hz1 hz2 rfl (by decide) a' k cp own ((L.take k).map (Value.int .i64)) (by rfl) (HRow6.out.alloc _) (some ⟨w6.heap.size, 0, none⟩) 1 1 [.int .i64 (q : Int)] (by rfl) rfl (.inr ⟨_, rfl, HP.out _ _ ((At.new w6 3 [.int .i64 (q : Int)]).cell 0)⟩) (by simp [Value.oneCell']) (by have := HX4.out; have := HK4.out; simp only [maxLen]; omega) (by have := HX4.out; have := HK4.out; omega) ?_; intro a2 cp2 own2 w7 hR7 t7 ho7 hz7 hn7; have HX7 := Lib.hid ((HX6.out.alloc (.cells #[.int .i64 (q : Int)] 3)).touch t7 HN2.out); have e7 : w7.cell? ⟨ab, 3, none⟩ = some (.slice a' k cp) := HX7.out.cell 3; have f7 := HX7.out.frozen 3; have l7 := HX7.out.lt) | (refine step_call_fn (by rfl) 54 #[.pointer (some ⟨qb, 0, none⟩), .int .i64 4] (by kernel_rfl) (fun v w' => v = .int .u64 (q : Int) ∧ Touch [qb] Wq.drew w') ((C.out _ _ HQ.out.drew).mono fun e w' h => ⟨_, h.1, rfl, h.2.1⟩) ?_; rintro v w6 ⟨rfl, t6⟩; have HX6 := Lib.hid (HXq.out.drew.touch t6 HN5.out.1); have HZ6 := Lib.hid (HZq.out.drew.touch t6 HN5.out.2.1); have HRow6 := Lib.hid (HRq.out.drew.touch t6 HN4.out); have l6 := HX6.out.lt; have e6 : w6.cell? ⟨ab, 3, none⟩ = some (.slice a' k cp) := HX6.out.cell 3)))
            all_goals go_wp2_with fail
            all_goals
                have s6 := t6.size
                have s7 := t7.size
                simp only [World.size_alloc, World.size_drew] at s6 s7
                have hsq := HSq.out
                have hqb := HQB.out
                have ts := tr.size
                refine ⟨⟨k + 1, a2, cp2, own2, by omega, rfl, ?_, Lib.hid ?_, Lib.hid ?_, Lib.hid ?_, Lib.hid ?_, Lib.hid ?_⟩, by simp [intOf]; omega⟩
                · exact ((((tr.trans' TQ.out).drew.trans t6 (fun x hx => .inr (by rw [List.mem_singleton.1 hx]; omega))).alloc _).trans t7 (fun x hx => .inr (by have := HO.out x hx; have := RZ.out; have := HZW.out; omega))).setCell ⟨ab, 3, none⟩ (.inr (by have := HZW.out; have := HAZ.out; show w.heap.size ≤ ab; omega)) _
                · have := HS.out; simp only [World.size_setCell]; omega
                · exact HX7.out.set 3 (.slice a2 (k + 1) cp2)
                · exact (((HZ6.out.alloc _).touch t7 HN3.out).other (by exact HN5.out.2.2) _)
                · rw [HG.out, List.map_append]
                  refine hR7.touch ((Touch.refl [ab] w7).setCell ⟨ab, 3, none⟩ (.inl (by simp)) _) ?_
                  intro b hb hb'
                  rcases ho7 with rfl | rfl
                  · rw [List.mem_singleton.1 hb'] at hb; exact HN2.out hb
                  · rw [List.mem_singleton] at hb hb'
                    simp only [World.size_alloc] at hb
                    have := HXL.out
                    omega
                · intro x hx
                  rcases ho7 with rfl | rfl
                  · exact HO.out x hx
                  · rw [List.mem_singleton] at hx
                    simp only [World.size_alloc] at hx
                    have := HS.out
                    omega
          · have hki : ¬ (k : Int) < (x4 : Int) := by omega
            obtain rfl : k = x4 := by omega
            have hLt : L.take k = L := List.take_of_length_le (by have := HLl.out; omega)
            rw [hLt] at HRow
            have e0 : wr.cell? ⟨ab, 0, none⟩ = some (.int .u64 (x1 : Int)) := HXk.out.cell 0
            have e1 : wr.cell? ⟨ab, 1, none⟩ = some (.string y1) := HXk.out.cell 1
            have e2 : wr.cell? ⟨ab, 2, none⟩ = some (.string y2) := HXk.out.cell 2
            have e3 : wr.cell? ⟨ab, 3, none⟩ = some (.slice a' k cp) := HXk.out.cell 3
            have hzw := HZW.out
            by_cases hse : s.size = M
            · have CM := Lib.hid (rmay_any wr (.agg #[.int .u64 (x1 : Int), .string y1, .string y2, .slice a' k cp]) (recD s) ⟨a', k, cp, by rw [HR0.out], by rw [HR0.out]; exact Nums.ofRow HRow.out⟩)
              have hne : ¬ (s.size : Int) ≠ (M : Int) := by omega
              have hnb : ((s.size : Int) != (M : Int)) = false := by rw [hse]; simp
              have hnd : decide ((s.size : Int) = (M : Int)) = true := by rw [hse]; simp
              have hne2 : (s.size : Int) = (M : Int) := by omega
              go_wp2_with fail
              refine CM.out.mono ?_
              rintro e w9 ⟨rfl, t9⟩
              have HZ9 := Lib.hid (HZk.out.touch t9 (by simp))
              have HX9 := Lib.hid (HXk.out.touch t9 (by simp))
              have HW9 := Lib.hid (HRow.out.touch t9 (by simp))
              have T9 := Lib.hid (tr.trans' t9)
              have L9 := Lib.hid (Nat.le_trans HS.out t9.size)
              clear t9 e0 e1 e2 e3 CM
              have d0 : w9.cell? ⟨zb, 0, none⟩ = some (.int .u64 0) := HZ9.out.cell 0
              have d1 : w9.cell? ⟨zb, 1, none⟩ = some (.string ByteArray.empty) := HZ9.out.cell 1
              have d2 : w9.cell? ⟨zb, 2, none⟩ = some (.string ByteArray.empty) := HZ9.out.cell 2
              have d3 : w9.cell? ⟨zb, 3, none⟩ = some (.slice none 0 0) := HZ9.out.cell 3
              have fz := fun o => HZ9.out.frozen o
              have e0 : w9.cell? ⟨ab, 0, none⟩ = some (.int .u64 (x1 : Int)) := HX9.out.cell 0
              have e1 : w9.cell? ⟨ab, 1, none⟩ = some (.string y1) := HX9.out.cell 1
              have e2 : w9.cell? ⟨ab, 2, none⟩ = some (.string y2) := HX9.out.cell 2
              have e3 : w9.cell? ⟨ab, 3, none⟩ = some (.slice a' k cp) := HX9.out.cell 3
              by_cases hm : mayR (recD s)
              · have HCc : Hid (codeD s = 0) := Lib.hid (by rw [HC.out, if_neg (by omega), if_pos ⟨hse, hm⟩])
                have HD : Hid (decD s = recD s) := Lib.hid (if_pos HCc.out)
                rw [decide_eq_true hm]
                go_wp2_with fail
                have hz := (((HZ9.out.set 0 (.int .u64 (x1 : Int))).set 1 (.string y1)).set 2 (.string y2)).set 3 (.slice a' k cp)
                have T4 : Touch [zb] w9 ((((w9.setCell ⟨zb, 0, none⟩ (.int .u64 (x1 : Int))).setCell ⟨zb, 1, none⟩ (.string y1)).setCell ⟨zb, 2, none⟩ (.string y2)).setCell ⟨zb, 3, none⟩ (.slice a' k cp)) := ((((Touch.refl [zb] w9).setCell ⟨zb, 0, none⟩ (.inl (by simp)) _).setCell ⟨zb, 1, none⟩ (.inl (by simp)) _).setCell ⟨zb, 2, none⟩ (.inl (by simp)) _).setCell ⟨zb, 3, none⟩ (.inl (by simp)) _
                have TT := T9.out.trans T4 (fun x hx => .inr (by rw [List.mem_singleton.1 hx]; exact hzw))
                have hw := HW9.out.touch T4 (fun b hb hb' => by rw [List.mem_singleton] at hb'; have := HO.out b hb; have := RZ.out; omega)
                refine bodyPost_ret (v := .tuple #[.agg #[.int .u64 (x1 : Int), .string y1, .string y2, .slice a' k cp], .int .i64 0]) ?_ rfl ⟨_, by rw [HCc.out]; rfl, by rw [HD.out]; exact ⟨a', k, cp, by rw [HR0.out], by rw [HR0.out]; exact Nums.ofRow hw⟩, TT⟩
                exact results_row_tmp (p := 2) (u := 3) (ty := 40) rfl _ _ zb _ _ rfl hz Tryz.underlying40 rfl (by kernel_rfl)
              · have hc : codeD s = 51 := by rw [HC.out, if_neg (by omega), if_neg (fun h => hm h.2)]
                have hd : decD s = noR := by unfold decD; rw [hc]; rfl
                rw [decide_eq_false hm]
                go_wp2_with fail
                have hz := (((HZ9.out.set 0 (.int .u64 0)).set 1 (.string ⟨#[]⟩)).set 2 (.string ⟨#[]⟩)).set 3 (.slice none 0 0)
                have TT := (((T9.out.setCell ⟨zb, 0, none⟩ (.inr hzw) (.int .u64 0)).setCell ⟨zb, 1, none⟩ (.inr hzw) (.string ⟨#[]⟩)).setCell ⟨zb, 2, none⟩ (.inr hzw) (.string ⟨#[]⟩)).setCell ⟨zb, 3, none⟩ (.inr hzw) (.slice none 0 0)
                refine bodyPost_ret (v := .tuple #[.agg #[.int .u64 0, .string ⟨#[]⟩, .string ⟨#[]⟩, .slice none 0 0], .int .i64 51]) ?_ rfl ⟨_, by first | rfl | (rw [hc]; rfl), by first | exact RecV.no _ | (rw [hd]; exact RecV.no _), TT⟩
                exact results_row_tmp (p := 2) (u := 3) (ty := 40) rfl _ _ zb _ _ rfl hz Tryz.underlying40 rfl (by kernel_rfl)
            · have hc : codeD s = 51 := by rw [HC.out, if_neg (by omega), if_neg (fun h => hse h.1)]
              have hd : decD s = noR := by unfold decD; rw [hc]; rfl
              have hne : (s.size : Int) ≠ (M : Int) := by omega
              have hnb : ((s.size : Int) != (M : Int)) = true := by simp; omega
              have hnd : decide ((s.size : Int) = (M : Int)) = false := decide_eq_false hne
              have HZ9 := HZk
              have T9 := Lib.hid tr
              clear e0 e1 e2 e3
              have d0 : wr.cell? ⟨zb, 0, none⟩ = some (.int .u64 0) := HZ9.out.cell 0
              have d1 : wr.cell? ⟨zb, 1, none⟩ = some (.string ByteArray.empty) := HZ9.out.cell 1
              have d2 : wr.cell? ⟨zb, 2, none⟩ = some (.string ByteArray.empty) := HZ9.out.cell 2
              have d3 : wr.cell? ⟨zb, 3, none⟩ = some (.slice none 0 0) := HZ9.out.cell 3
              have fz := fun o => HZ9.out.frozen o
              go_wp2_with fail
              have hz := (((HZ9.out.set 0 (.int .u64 0)).set 1 (.string ⟨#[]⟩)).set 2 (.string ⟨#[]⟩)).set 3 (.slice none 0 0)
              have TT := (((T9.out.setCell ⟨zb, 0, none⟩ (.inr hzw) (.int .u64 0)).setCell ⟨zb, 1, none⟩ (.inr hzw) (.string ⟨#[]⟩)).setCell ⟨zb, 2, none⟩ (.inr hzw) (.string ⟨#[]⟩)).setCell ⟨zb, 3, none⟩ (.inr hzw) (.slice none 0 0)
              refine bodyPost_ret (v := .tuple #[.agg #[.int .u64 0, .string ⟨#[]⟩, .string ⟨#[]⟩, .slice none 0 0], .int .i64 51]) ?_ rfl ⟨_, by first | rfl | (rw [hc]; rfl), by first | exact RecV.no _ | (rw [hd]; exact RecV.no _), TT⟩
              exact results_row_tmp (p := 2) (u := 3) (ty := 40) rfl _ _ zb _ _ rfl hz Tryz.underlying40 rfl (by kernel_rfl)
theorem rdec_any (w : World) (s : ByteArray) (hs : s.size < 1099511627776) : Calls Tryz.prog 16 #[.string s] w fun e w' => ∃ u, e = .returned (.tuple #[u, .int .i64 (codeD s)]) ∧ RecV w' u (decD s) ∧ Touch [] w w' := by
  by_cases h : s.size < 74
  · have hc : codeD s = 50 := if_pos (.inl h)
    have hd : decD s = noR := by unfold decD; rw [hc]; rfl
    rw [hc, hd]
    exact rdec_short w s h
  · exact rdec_long w s hs (by omega)
end Go.Proofs.YtodehmognjofhaaGreat
