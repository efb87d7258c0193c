/-
  What bytes say: the program's answer, where there are enough for a head.
-/
import Derived.Test.YtodehmognjofhaaGreatQJDecP
namespace Go.Proofs.YtodehmognjofhaaGreat
open Go.RowKit

theorem ex_take (s : ByteArray) : leV (bsOf (s.extract 0 8)) = leV ((bsOf s).take 8) := by rw [bsOf_extract, List.drop_zero]
theorem ex_n (s : ByteArray) : leV (bsOf (s.extract 72 74)) = nJ (bsOf s) := by rw [bsOf_extract]; rfl
theorem step_call_fn {P : Program} {w : World} {ops : Array Oper} {o : Oper} {ac : Act} {K : Act → World → Prop} {Q : Exit → Act → World → Prop} {E : Prop} (hgd : o.guard = none) (f : FuncId) (args : Array Value) (hrun : (execOp ac.eval o).run P w = .ok (.enter f args) w)
    (R : Value → World → Prop) (hc : Calls P f args w fun e w' => ∃ v, e = .returned v ∧ R v w') (h : ∀ v w', R v w' → K (ac.put o.dst v) w') : if Region.wanted o (yielded ops ac.tmps) = true then Oper.wp P o ac w K Q else E := by
  have hw : Region.wanted o (yielded ops ac.tmps) = true := by simp [Region.wanted, hgd]
  rw [if_pos hw]
  unfold Oper.wp
  rw [hrun, Oper.upon_enter]
  refine hc.mono fun e w' hv => ?_
  obtain ⟨v, rfl, hR⟩ := hv
  exact h v w' hR
set_option maxRecDepth 100000 in
set_option maxHeartbeats 6400000 in
theorem jdec_long (w : World) (s : ByteArray) (hs : s.size < 1099511627776) (h74 : 74 ≤ s.size) : Calls Tryz.prog 15 #[.string s] w fun e w' => ∃ u, e = .returned (.tuple #[u, .int .i64 (codeD s)]) ∧ RecV w' u (decD s) ∧ Touch [] w w' := by
  have g1 : stA s 0 0 8 = 8 ∧ stF s 0 0 8 = 0 ∧ stY s 0 0 8 = s.extract 0 8 := by unfold stA stF stY; rw [if_pos ⟨rfl, by omega⟩, if_pos rfl, if_pos (by omega), if_pos ⟨rfl, by omega⟩]; exact ⟨rfl, rfl, rfl⟩
  have g2 : stA s 8 0 32 = 40 ∧ stF s 8 0 32 = 0 ∧ stY s 8 0 32 = s.extract 8 40 := by unfold stA stF stY; rw [if_pos ⟨rfl, by omega⟩, if_pos rfl, if_pos (by omega), if_pos ⟨rfl, by omega⟩]; exact ⟨rfl, rfl, rfl⟩
  have g3 : stA s 40 0 32 = 72 ∧ stF s 40 0 32 = 0 ∧ stY s 40 0 32 = s.extract 40 72 := by unfold stA stF stY; rw [if_pos ⟨rfl, by omega⟩, if_pos rfl, if_pos (by omega), if_pos ⟨rfl, by omega⟩]; exact ⟨rfl, rfl, rfl⟩
  have g4 : stA s 72 0 2 = 74 ∧ stF s 72 0 2 = 0 ∧ stY s 72 0 2 = s.extract 72 74 := by unfold stA stF stY; rw [if_pos ⟨rfl, by omega⟩, if_pos rfl, if_pos (by omega), if_pos ⟨rfl, by omega⟩]; exact ⟨rfl, rfl, rfl⟩
  have hx4 : nJ (bsOf s) < 65536 := by
    have h := leV_lt (((bsOf s).drop 72).take 2) fun x hx => bsOf_bytes s x (List.mem_of_mem_drop (List.mem_of_mem_take hx))
    rw [List.length_take, List.length_drop, bsOf_len, Nat.min_eq_left (by omega)] at h
    exact h
  have C1 := Lib.hid fun (W : World) (rb : Nat) (h : At W rb 142 (rdJ s (0 : Nat) 0)) => jU64_any W rb s 0 0 (Nat.zero_le _) hs h
  have C2 := Lib.hid fun (W : World) (rb : Nat) (h : At W rb 142 (rdJ s (8 : Nat) 0)) => jbytes_any W rb s 8 0 32 (by omega) hs h
  have C3 := Lib.hid fun (W : World) (rb : Nat) (h : At W rb 142 (rdJ s (40 : Nat) 0)) => jbytes_any W rb s 40 0 32 (by omega) hs h
  have C4 := Lib.hid fun (W : World) (rb : Nat) (h : At W rb 142 (rdJ s (72 : Nat) 0)) => jU16_any W rb s 72 0 (by omega) hs h
  rw [g1.1, g1.2.1, g1.2.2, ex_take] at C1
  rw [g2.1, g2.2.1, g2.2.2] at C2
  rw [g3.1, g3.2.1, g3.2.2] at C3
  rw [g4.1, g4.2.1, g4.2.2, ex_n] at C4
  have CR := Lib.hid fun (W : World) (rb : Nat) (h : At W rb 142 (rdJ s (74 : Nat) 0)) => jrest_any W rb s 74 0 h74 h
  have hrs : (s.extract 74 s.size).size = s.size - 74 := by rw [ByteArray.size_extract]; omega
  have HR0 : Hid (recD s = ⟨leV ((bsOf s).take 8), s.extract 8 40, s.extract 40 72, blD (bsOf s) (nJ (bsOf s))⟩) := Lib.hid rfl
  have HC : Hid (codeD s = if s.size < 74 ∨ s.size < 74 + 4 * nJ (bsOf s) then 50 else if s.size = 74 + 4 * nJ (bsOf s) ∧ mayR (recD s) then 0 else 51) := Lib.hid rfl
  have HBL : Hid (∀ i, i < nJ (bsOf s) → leV (bsOf (stY s (74 + 4 * i) 0 4)) = leV (((bsOf s).drop (74 + 4 * i)).take 4) ∨ s.size < 74 + 4 * i + 4) := Lib.hid (by
    intro i _
    by_cases h : 74 + 4 * i + 4 ≤ s.size
    · left
      unfold stY
      rw [if_pos ⟨rfl, h⟩, bsOf_extract, Nat.add_sub_cancel_left]
    · right; omega)
  generalize nJ (bsOf s) = x4 at hx4 C4 HR0 HC HBL
  generalize hx1 : leV ((bsOf s).take 8) = x1 at C1 HR0
  generalize s.extract 8 40 = y1 at C2 HR0
  generalize s.extract 40 72 = y2 at C3 HR0
  generalize s.extract 74 s.size = yr at CR hrs
  clear g1 g2 g3 g4 hx1
  have HZ := Lib.hid (At.new w 40 [.int .u64 0, .string ByteArray.empty, .string ByteArray.empty, .slice none 0 0])
  go_enter Tryz.func15, Tryz.ntmps15
  go_wp2_with (go_at_call 47; refine (jnew_any _ s).mono ?_; rintro e w2 ⟨rb, rfl, hge, t2, hR2⟩; have HR2 := Lib.hid hR2; have HZ2 := Lib.hid (HZ.out.touch t2 (by simp)); have hne : w.heap.size ≠ rb := (by simp only [World.size_alloc] at hge; omega))
  have T2 := Lib.hid (((Touch.refl [] w).alloc (.cells #[.int .u64 0, .string ByteArray.empty, .string ByteArray.empty, .slice none 0 0] 40)).trans' t2)
  have HGE : Hid (w.heap.size < rb) := Lib.hid (by simp only [World.size_alloc] at hge; omega)
  have HRB2 := Lib.hid hR2.lt
  clear t2 hR2 HZ hge
  refine (C1.out w2 rb HR2.out).mono ?_
  rintro e w3 ⟨rfl, t3, hR3⟩
  have HR3 := Lib.hid hR3
  have HZ3 := Lib.hid (HZ2.out.touch t3 (by simpa using hne))
  have T3 := Lib.hid (T2.out.trans t3 (fun x hx => .inr (by rw [List.mem_singleton.1 hx]; exact Nat.le_of_lt HGE.out)))
  clear t3 hR3
  go_wp2_with fail
  refine (C2.out w3 rb HR3.out).mono ?_
  rintro e w4 ⟨rfl, t4, hR4⟩
  have HR4 := Lib.hid hR4
  have HZ4 := Lib.hid (HZ3.out.touch t4 (by simpa using hne))
  have T4 := Lib.hid (T3.out.trans t4 (fun x hx => .inr (by rw [List.mem_singleton.1 hx]; exact Nat.le_of_lt HGE.out)))
  clear t4 hR4
  go_wp2_with fail
  refine (C3.out w4 rb HR4.out).mono ?_
  rintro e w5 ⟨rfl, t5, hR5⟩
  have HR5 := Lib.hid hR5
  have HZ5 := Lib.hid (HZ4.out.touch t5 (by simpa using hne))
  have T5 := Lib.hid (T4.out.trans t5 (fun x hx => .inr (by rw [List.mem_singleton.1 hx]; exact Nat.le_of_lt HGE.out)))
  have LRB := Lib.hid hR5.lt
  clear t5 hR5
  go_wp2_with fail
  refine (C4.out _ rb (HR5.out.alloc _)).mono ?_
  rintro e w6 ⟨rfl, t6, hR6⟩
  have HR6 := Lib.hid hR6
  have HZ6 := Lib.hid ((HZ5.out.alloc (.cells #[.int .u64 (x1 : Int), .string y1, .string y2, .slice none 0 0] 40)).touch t6 (by simpa using hne))
  have HX6 := Lib.hid ((At.new w5 40 [.int .u64 (x1 : Int), .string y1, .string y2, .slice none 0 0]).touch t6 (by have := LRB.out; simp; omega))
  have T6 := Lib.hid ((T5.out.alloc (.cells #[.int .u64 (x1 : Int), .string y1, .string y2, .slice none 0 0] 40)).trans t6 (fun x hx => .inr (by rw [List.mem_singleton.1 hx]; exact Nat.le_of_lt HGE.out)))
  clear t6 hR6
  have jx : IntKind.i64.wrap (x4 : Int) = (x4 : Int) := IntWalk.i64_in _ (by omega)
  have jm : IntKind.i64.wrap (4 * (x4 : Int)) = ((4 * x4 : Nat) : Int) := by rw [IntWalk.i64_in _ (by omega)]; omega
  go_wp2_with fail
  refine (CR.out w6 rb HR6.out).mono ?_
  rintro e w7 ⟨rfl, t7⟩
  have HR7 := Lib.hid (HR6.out.touch t7 (by simp))
  have HZ7 := Lib.hid (HZ6.out.touch t7 (by simp))
  have HX7 := Lib.hid (HX6.out.touch t7 (by simp))
  have T7 := Lib.hid (T6.out.trans' t7)
  clear t7
  go_wp2_with fail
  refine (jfault_any w7 rb s 74 0 HR7.out).mono ?_
  rintro e w8 ⟨rfl, t8⟩
  have HR8 := Lib.hid (HR7.out.touch t8 (by simp))
  have HZ8 := Lib.hid (HZ7.out.touch t8 (by simp))
  have HX8 := Lib.hid (HX7.out.touch t8 (by simp))
  have T8 := Lib.hid (T7.out.trans' t8)
  clear t8 C1 C2 C3 C4 CR HR2 HR3 HR4 HR5 HR6 HR7 HZ2 HZ3 HZ4 HZ5 HZ6 HZ7 HX6 HX7 T2 T3 T4 T5 T6 T7
  have d0 : w8.cell? ⟨w.heap.size, 0, none⟩ = some (.int .u64 0) := HZ8.out.cell 0
  have d1 : w8.cell? ⟨w.heap.size, 1, none⟩ = some (.string ByteArray.empty) := HZ8.out.cell 1
  have d2 : w8.cell? ⟨w.heap.size, 2, none⟩ = some (.string ByteArray.empty) := HZ8.out.cell 2
  have d3 : w8.cell? ⟨w.heap.size, 3, none⟩ = some (.slice none 0 0) := HZ8.out.cell 3
  have fz := fun o => HZ8.out.frozen o
  by_cases k1 : s.size < 74 + 4 * x4
  · have hc : codeD s = 50 := by rw [HC.out, if_pos (.inr k1)]
    have hd : decD s = noR := by unfold decD; rw [hc]; rfl
    have ki : (yr.size : Int) < ((4 * x4 : Nat) : Int) := by omega
    go_wp2_with fail
    have hz := (((HZ8.out.set 0 (.int .u64 0)).set 1 (.string ⟨#[]⟩)).set 2 (.string ⟨#[]⟩)).set 3 (.slice none 0 0)
    have TT := (((T8.out.setCell ⟨w.heap.size, 0, none⟩ (.inr (Nat.le_refl _)) (.int .u64 0)).setCell ⟨w.heap.size, 1, none⟩ (.inr (Nat.le_refl _)) (.string ⟨#[]⟩)).setCell ⟨w.heap.size, 2, none⟩ (.inr (Nat.le_refl _)) (.string ⟨#[]⟩)).setCell ⟨w.heap.size, 3, none⟩ (.inr (Nat.le_refl _)) (.slice none 0 0)
    refine bodyPost_ret (v := .tuple #[.agg #[.int .u64 0, .string ⟨#[]⟩, .string ⟨#[]⟩, .slice none 0 0], .int .i64 50]) ?_ rfl ⟨_, by rw [hc]; rfl, by rw [hd]; exact RecV.no _, TT⟩
    exact results_row_tmp (p := 2) (u := 3) (ty := 40) rfl _ _ w.heap.size _ _ rfl hz Tryz.underlying40 rfl (by kernel_rfl)
  · have ki : ¬ (yr.size : Int) < ((4 * x4 : Nat) : Int) := by omega
    by_cases k2 : 74 + 4 * x4 < s.size
    · have hc : codeD s = 51 := by rw [HC.out, if_neg (by omega), if_neg (by omega)]
      have hd : decD s = noR := by unfold decD; rw [hc]; rfl
      have kj : ((4 * x4 : Nat) : Int) < (yr.size : Int) := by omega
      go_wp2_with fail
      have hz := (((HZ8.out.set 0 (.int .u64 0)).set 1 (.string ⟨#[]⟩)).set 2 (.string ⟨#[]⟩)).set 3 (.slice none 0 0)
      have TT := (((T8.out.setCell ⟨w.heap.size, 0, none⟩ (.inr (Nat.le_refl _)) (.int .u64 0)).setCell ⟨w.heap.size, 1, none⟩ (.inr (Nat.le_refl _)) (.string ⟨#[]⟩)).setCell ⟨w.heap.size, 2, none⟩ (.inr (Nat.le_refl _)) (.string ⟨#[]⟩)).setCell ⟨w.heap.size, 3, none⟩ (.inr (Nat.le_refl _)) (.slice none 0 0)
      refine bodyPost_ret (v := .tuple #[.agg #[.int .u64 0, .string ⟨#[]⟩, .string ⟨#[]⟩, .slice none 0 0], .int .i64 51]) ?_ rfl ⟨_, by rw [hc]; rfl, by rw [hd]; exact RecV.no _, TT⟩
      exact results_row_tmp (p := 2) (u := 3) (ty := 40) rfl _ _ w.heap.size _ _ rfl hz Tryz.underlying40 rfl (by kernel_rfl)
    · have hse : s.size = 74 + 4 * x4 := by omega
      have kj : ¬ ((4 * x4 : Nat) : Int) < (yr.size : Int) := by omega
      obtain ⟨i0, hii, hz0, hz1, hz2⟩ := info_parts Tryz.infoI
      obtain ⟨L, hL⟩ : ∃ L, L = blD (bsOf s) x4 := ⟨_, rfl⟩
      have HLl : Hid (L.length = x4) := Lib.hid (by rw [hL]; simp [blD])
      have HLg : Hid (∀ k, k < x4 → L.take (k + 1) = L.take k ++ [((leV (((bsOf s).drop (74 + 4 * k)).take 4) : Nat) : Int)]) := Lib.hid (by
        intro k hk
        rw [hL]
        unfold blD
        rw [List.take_succ_eq_append_getElem (by simpa using hk)]
        simp)
      rw [← hL] at HR0
      clear d0 d1 d2 d3 fz hrs HBL
      have RR := Lib.hid HX8.out.lt
      have RB := Lib.hid HR8.out.lt
      have RZ := Lib.hid HZ8.out.lt
      have LRZ : Hid (w.heap.size < w5.heap.size) := Lib.hid (by have := LRB.out; have := HGE.out; omega)
      go_wp2_with fail
      go_loopw [42] (fun i wr => ∃ (k : Nat) (a' : Option Addr) (cp : Nat) (own : List Nat), k ≤ x4 ∧ i = .int .i64 (k : Int) ∧ Touch [] w wr ∧ Hid (w8.heap.size ≤ wr.heap.size) ∧ Hid (At wr rb 142 (rdJ s ((74 + 4 * k : Nat) : Int) 0)) ∧ Hid (At wr w5.heap.size 40 [.int .u64 (x1 : Int), .string y1, .string y2, .slice a' k cp]) ∧ Hid (At wr w.heap.size 40 [.int .u64 0, .string ByteArray.empty, .string ByteArray.empty, .slice none 0 0]) ∧ Hid (Row wr 3 1 a' k cp own ((L.take k).map (Value.int .i64))) ∧ Hid (∀ x ∈ own, w8.heap.size ≤ x)) (fun i _ => x4 - (intOf i).toNat)
      case atStart => exact ⟨0, none, 0, [], Nat.zero_le _, rfl, T8.out, Lib.hid (Nat.le_refl _), HR8, HX8, HZ8, Lib.hid (by rw [List.take_zero]; exact Row.nil _ _ _ _), Lib.hid (by simp)⟩
      case round =>
        obtain ⟨k, a', cp, own, hk, rfl, tr, HS, HRk, HXk, HZk, HRow, HO⟩ := hrel
        by_cases hkn : k < x4
        · have hki : (k : Int) < (x4 : Int) := by omega
          have hst : stA s (74 + 4 * k) 0 4 = 74 + 4 * (k + 1) ∧ stF s (74 + 4 * k) 0 4 = 0 ∧ leV (bsOf (stY s (74 + 4 * k) 0 4)) = leV (((bsOf s).drop (74 + 4 * k)).take 4) := by
            unfold stA stF stY
            rw [if_pos ⟨rfl, by omega⟩, if_pos rfl, if_pos (by omega), if_pos ⟨rfl, by omega⟩, bsOf_extract, Nat.add_sub_cancel_left]
            exact ⟨by omega, rfl, rfl⟩
          have C := Lib.hid fun (W : World) (h : At W rb 142 (rdJ s ((74 + 4 * k : Nat) : Int) 0)) => jU32_any W rb s (74 + 4 * k) 0 (by omega) hs h
          rw [hst.1, hst.2.1, hst.2.2] at C
          have hq : leV (((bsOf s).drop (74 + 4 * k)).take 4) < 4294967296 := by
            have h := leV_lt (((bsOf s).drop (74 + 4 * k)).take 4) fun x hx => bsOf_bytes s x (List.mem_of_mem_drop (List.mem_of_mem_take hx))
            exact Nat.lt_of_lt_of_le h (Nat.le_trans (Nat.pow_le_pow_right (by decide) (show _ ≤ 4 by rw [List.length_take]; omega)) (by decide))
          have HG := Lib.hid (HLg.out k hkn)
          generalize leV (((bsOf s).drop (74 + 4 * k)).take 4) = q at C hq HG
          clear hst
          have jq : IntKind.i64.wrap (q : Int) = (q : Int) := IntWalk.i64_in _ (by omega)
          have c3 : wr.cell? ⟨w5.heap.size, 3, none⟩ = some (.slice a' k cp) := HXk.out.cell 3
          have HP : Hid (∀ (W : World) (b : Nat), W.cell? ⟨b, 0, none⟩ = some (.int .i64 (q : Int)) → ∀ j u, [Value.int .i64 (q : Int)][j]? = some u → W.cell? ((⟨b, 0, none⟩ : Addr).add j) = some u) := Lib.hid (by
            intro W b y j u hj
            cases j with
            | zero => simp at hj; subst hj; rw [Addr.add_lit]; exact y
            | succ j => simp at hj)
          have N1 : ∀ x ∈ own, x ≠ rb := fun x hx => by have := HO.out x hx; have := RB.out; omega
          have N2 : ∀ x ∈ own, x ≠ w5.heap.size := fun x hx => by have := HO.out x hx; have := RR.out; omega
          have N3 : ∀ x ∈ own, x ≠ w.heap.size := fun x hx => by have := HO.out x hx; have := RZ.out; omega
          have HN1 := Lib.hid (show rb ∉ own from fun h => N1 _ h rfl)
          have HN2 := Lib.hid (show w5.heap.size ∉ own from fun h => N2 _ h rfl)
          have HN3 := Lib.hid (show w.heap.size ∉ own from fun h => N3 _ h rfl)
          have HN4 : Hid (∀ b ∈ own, b ∉ [rb]) := Lib.hid (fun b hb hb' => N1 b hb (List.mem_singleton.1 hb'))
          have HN5 : Hid (w5.heap.size ∉ [rb] ∧ w.heap.size ∉ [rb] ∧ rb ≠ w5.heap.size ∧ w.heap.size ≠ w5.heap.size) := Lib.hid (by have := LRB.out; have := LRZ.out; simp; omega)
          clear N1 N2 N3
          go_upto_region 11 with (fail)
          go_region_law ((first | (refine step_append_row _ (by rfl) _ _ _ (by rfl) 3 i0 _ 1 8 Tryz.intsJ hii hz0 hz1 hz2 rfl (by decide) a' k cp own ((L.take k).map (Value.int .i64)) (by rfl) (HRow6.out.alloc _) (some ⟨w6.heap.size, 0, none⟩) 1 1 [.int .i64 (q : Int)] (by rfl) rfl (.inr ⟨_, rfl, HP.out _ _ ((At.new w6 3 [.int .i64 (q : Int)]).cell 0)⟩) (by simp [Value.oneCell']) (by simp only [maxLen]; omega) (by omega) ?_; intro a2 cp2 own2 w7 hR7 t7 ho7 hz7 hn7; have HX7 := Lib.hid ((HX6.out.alloc (.cells #[.int .i64 (q : Int)] 3)).touch t7 HN2.out); have e7 : w7.cell? ⟨w5.heap.size, 3, none⟩ = some (.slice a' k cp) := HX7.out.cell 3; have f7 := HX7.out.frozen 3; have l7 := HX7.out.lt) | (refine step_call_fn (by rfl) 53 #[.pointer (some ⟨rb, 0, none⟩)] (by kernel_rfl) (fun v w' => v = .int .u32 (q : Int) ∧ RdAt wr.drew rb s (74 + 4 * (k + 1)) 0 w') ((C.out _ HRk.out.drew).mono fun e w' h => ⟨_, h.1, rfl, h.2⟩) ?_; rintro v w6 ⟨rfl, t6, hR6⟩; have HR6 := Lib.hid hR6; have HX6 := Lib.hid (HXk.out.drew.touch t6 HN5.out.1); have HZ6 := Lib.hid (HZk.out.drew.touch t6 HN5.out.2.1); have HRow6 := Lib.hid (HRow.out.drew.touch t6 HN4.out); have l6 := HX6.out.lt; have e6 : w6.cell? ⟨w5.heap.size, 3, none⟩ = some (.slice a' k cp) := HX6.out.cell 3)))
          all_goals go_wp2_with fail
          all_goals
              have s6 := t6.size
              have s7 := t7.size
              simp only [World.size_alloc, World.size_drew] at s6 s7
              refine ⟨⟨k + 1, a2, cp2, own2, by omega, rfl, ?_, Lib.hid ?_, Lib.hid ?_, Lib.hid ?_, Lib.hid ?_, Lib.hid ?_, Lib.hid ?_⟩, by simp [intOf]; omega⟩
              · exact ((((tr.drew).trans t6 (fun x hx => .inr (by rw [List.mem_singleton.1 hx]; exact Nat.le_of_lt HGE.out))).alloc _).trans t7 (fun x hx => .inr (by have := HO.out x hx; have := RZ.out; omega))).setCell _ (.inr (Nat.le_of_lt LRZ.out)) _
              · have := HS.out; simp only [World.size_setCell]; omega
              · exact (((HR6.out.alloc _).touch t7 HN1.out).other (by exact HN5.out.2.2.1) _)
              · exact HX7.out.set 3 (.slice a2 (k + 1) cp2)
              · exact (((HZ6.out.alloc _).touch t7 HN3.out).other (by exact HN5.out.2.2.2) _)
              · rw [HG.out, List.map_append]
                refine hR7.touch ((Touch.refl [w5.heap.size] w7).setCell ⟨w5.heap.size, 3, none⟩ (.inl (by simp)) _) ?_
                intro b hb hb'
                rcases ho7 with rfl | rfl
                · rw [List.mem_singleton.1 hb'] at hb; exact HN2.out hb
                · rw [List.mem_singleton] at hb hb'
                  simp only [World.size_alloc] at hb
                  omega
              · intro x hx
                rcases ho7 with rfl | rfl
                · exact HO.out x hx
                · rw [List.mem_singleton] at hx
                  simp only [World.size_alloc] at hx
                  have := HS.out
                  omega
        · have hki : ¬ (k : Int) < (x4 : Int) := by omega
          obtain rfl : k = x4 := by omega
          have hLt : L.take k = L := List.take_of_length_le (by have := HLl.out; omega)
          rw [hLt] at HRow
          have CM := Lib.hid fun (W : World) (t : Touch [] wr W) => jmay_any W (.agg #[.int .u64 (x1 : Int), .string y1, .string y2, .slice a' k cp]) (recD s) ⟨a', k, cp, by rw [HR0.out], by rw [HR0.out]; exact Nums.ofRow (HRow.out.touch t (by simp))⟩
          have e0 : wr.cell? ⟨w5.heap.size, 0, none⟩ = some (.int .u64 (x1 : Int)) := HXk.out.cell 0
          have e1 : wr.cell? ⟨w5.heap.size, 1, none⟩ = some (.string y1) := HXk.out.cell 1
          have e2 : wr.cell? ⟨w5.heap.size, 2, none⟩ = some (.string y2) := HXk.out.cell 2
          have e3 : wr.cell? ⟨w5.heap.size, 3, none⟩ = some (.slice a' k cp) := HXk.out.cell 3
          go_wp2_with fail
          refine (CM.out wr (Touch.refl _ _)).mono ?_
          rintro e w9 ⟨rfl, t9⟩
          have HZ9 := Lib.hid (HZk.out.touch t9 (by simp))
          have HX9 := Lib.hid (HXk.out.touch t9 (by simp))
          have HW9 := Lib.hid (HRow.out.touch t9 (by simp))
          have T9 := Lib.hid (tr.trans' t9)
          have L9 := Lib.hid (Nat.le_trans HS.out t9.size)
          clear t9 e0 e1 e2 e3 CM
          have d0 : w9.cell? ⟨w.heap.size, 0, none⟩ = some (.int .u64 0) := HZ9.out.cell 0
          have d1 : w9.cell? ⟨w.heap.size, 1, none⟩ = some (.string ByteArray.empty) := HZ9.out.cell 1
          have d2 : w9.cell? ⟨w.heap.size, 2, none⟩ = some (.string ByteArray.empty) := HZ9.out.cell 2
          have d3 : w9.cell? ⟨w.heap.size, 3, none⟩ = some (.slice none 0 0) := HZ9.out.cell 3
          have fz := fun o => HZ9.out.frozen o
          have e0 : w9.cell? ⟨w5.heap.size, 0, none⟩ = some (.int .u64 (x1 : Int)) := HX9.out.cell 0
          have e1 : w9.cell? ⟨w5.heap.size, 1, none⟩ = some (.string y1) := HX9.out.cell 1
          have e2 : w9.cell? ⟨w5.heap.size, 2, none⟩ = some (.string y2) := HX9.out.cell 2
          have e3 : w9.cell? ⟨w5.heap.size, 3, none⟩ = some (.slice a' k cp) := HX9.out.cell 3
          by_cases hm : mayR (recD s)
          · have hc : codeD s = 0 := by rw [HC.out, if_neg (by omega), if_pos ⟨hse, hm⟩]
            have hd : decD s = recD s := if_pos hc
            rw [decide_eq_true hm]
            go_wp2_with fail
            have hz := (((HZ9.out.set 0 (.int .u64 (x1 : Int))).set 1 (.string y1)).set 2 (.string y2)).set 3 (.slice a' k cp)
            have T4 : Touch [w.heap.size] w9 ((((w9.setCell ⟨w.heap.size, 0, none⟩ (.int .u64 (x1 : Int))).setCell ⟨w.heap.size, 1, none⟩ (.string y1)).setCell ⟨w.heap.size, 2, none⟩ (.string y2)).setCell ⟨w.heap.size, 3, none⟩ (.slice a' k cp)) := ((((Touch.refl [w.heap.size] w9).setCell ⟨w.heap.size, 0, none⟩ (.inl (by simp)) _).setCell ⟨w.heap.size, 1, none⟩ (.inl (by simp)) _).setCell ⟨w.heap.size, 2, none⟩ (.inl (by simp)) _).setCell ⟨w.heap.size, 3, none⟩ (.inl (by simp)) _
            have TT := T9.out.trans T4 (fun x hx => .inr (by rw [List.mem_singleton.1 hx]; exact Nat.le_refl _))
            have hw := HW9.out.touch T4 (fun b hb hb' => by rw [List.mem_singleton] at hb'; have := HO.out b hb; have := RZ.out; omega)
            refine bodyPost_ret (v := .tuple #[.agg #[.int .u64 (x1 : Int), .string y1, .string y2, .slice a' k cp], .int .i64 0]) ?_ rfl ⟨_, by rw [hc]; rfl, by rw [hd]; exact ⟨a', k, cp, by rw [HR0.out], by rw [HR0.out]; exact Nums.ofRow hw⟩, TT⟩
            exact results_row_tmp (p := 2) (u := 3) (ty := 40) rfl _ _ w.heap.size _ _ rfl hz Tryz.underlying40 rfl (by kernel_rfl)
          · have hc : codeD s = 51 := by rw [HC.out, if_neg (by omega), if_neg (fun h => hm h.2)]
            have hd : decD s = noR := by unfold decD; rw [hc]; rfl
            rw [decide_eq_false hm]
            go_wp2_with fail
            have hz := (((HZ9.out.set 0 (.int .u64 0)).set 1 (.string ⟨#[]⟩)).set 2 (.string ⟨#[]⟩)).set 3 (.slice none 0 0)
            have TT := (((T9.out.setCell ⟨w.heap.size, 0, none⟩ (.inr (Nat.le_refl _)) (.int .u64 0)).setCell ⟨w.heap.size, 1, none⟩ (.inr (Nat.le_refl _)) (.string ⟨#[]⟩)).setCell ⟨w.heap.size, 2, none⟩ (.inr (Nat.le_refl _)) (.string ⟨#[]⟩)).setCell ⟨w.heap.size, 3, none⟩ (.inr (Nat.le_refl _)) (.slice none 0 0)
            refine bodyPost_ret (v := .tuple #[.agg #[.int .u64 0, .string ⟨#[]⟩, .string ⟨#[]⟩, .slice none 0 0], .int .i64 51]) ?_ rfl ⟨_, by rw [hc]; rfl, by rw [hd]; exact RecV.no _, TT⟩
            exact results_row_tmp (p := 2) (u := 3) (ty := 40) rfl _ _ w.heap.size _ _ rfl hz Tryz.underlying40 rfl (by kernel_rfl)
theorem jdec_any (w : World) (s : ByteArray) (hs : s.size < 1099511627776) : Calls Tryz.prog 15 #[.string s] w fun e w' => ∃ u, e = .returned (.tuple #[u, .int .i64 (codeD s)]) ∧ RecV w' u (decD s) ∧ Touch [] w w' := by
  by_cases h : s.size < 74
  · have hc : codeD s = 50 := if_pos (.inl h)
    have hd : decD s = noR := by unfold decD; rw [hc]; rfl
    rw [hc, hd]
    exact jdec_short w s hs h
  · exact jdec_long w s hs (by omega)
end Go.Proofs.YtodehmognjofhaaGreat
