/-
  (*Locks).Let: the walk to its loop.
-/
import Derived.Test.YtppgeljlmckimaaDoorLLet3
import Derived.Deep.DeepCutAuto
namespace Go.Proofs.YtppgeljlmckimaaDoor
open Go.RowKit

def LetMid (w : World) (lp : Nat) (col : Nat → Option LTag) (S : Lk) (id : Int) (blk : Int → Nat) (bi bh bw : Nat) (wx : World) : Prop := ∃ col', Mid w lp col S id blk bi bh bw (S.leave id) wx col'
theorem Mid.step {w wr w2 : World} {lp : Nat} {col colr : Nat → Option LTag} {S S' : Lk} {id : Int} {blk : Int → Nat} {bi bh bw : Nat} (h : Mid w lp col S id blk bi bh bw S' wr colr) (t : Touch [] wr w2) : Mid w lp col S id blk bi bh bw S' w2 colr := by
  obtain ⟨⟨_, _, _, _, _, _, _, hp⟩, hl⟩ := h
  exact ⟨⟨_, _, _, _, _, _, _, hp.step t⟩, hl.step t⟩

def LetPost (own : List Nat) (w : World) (lp : Nat) (r : List Int × Int × Lk) (e : Ending) (w' : World) : Prop :=
  ∃ a n c o, After own w (.tuple #[.slice a n c, .int .i64 r.2.1]) (fun w' o' => LRep w' lp r.2.2 o' ∧ (∀ b ∈ o, b ∉ o')) e w' ∧ Row w' 3 1 a n c o (ints r.1) ∧ ∀ b ∈ o, w.heap.size ≤ b

/-- the first of those that wait for the path has been taken out of their list. -/
def LetD (w : World) (lp : Nat) (col : Nat → Option LTag) (S : Lk) (id : Int) (blk : Int → Nat) (bi bh bw : Nat) (D : Lk) (w3 : World) (col3 : Nat → Option LTag) (wx : World) : Prop := ∃ colx, Mid w lp col S id blk bi bh bw D wx colx ∧ Later isRow w3 col3 wx colx

set_option maxRecDepth 100000 in
set_option maxHeartbeats 12800000 in
theorem let_some (w : World) (lp : Nat) (S : Lk) (own : List Nat) (hR : LRep w lp S own) (id : Int) (hid : id ∈ S.order) (hlen : S.order.length ≤ 800) :
    Calls Tryd.prog 8 #[.pointer (some ⟨lp, 0, none⟩), .int .i64 id] w (LetPost own w lp ((Lk.letTo id (S.has id) (S.leave id, [])).2, 0, (Lk.letTo id (S.has id) (S.leave id, [])).1.quit id)) := by
  obtain ⟨hi, hp, col0, blk, ao, no, co, oo, bi, bh, bw, ki, kh, kw, h, rfl⟩ := hR
  have h := h.still (Touch.refl [] w) (by simp) (fun b hb => below_lt col0 hb)
  rw [← owned_below col0 w]
  have hcn : ∀ b, w.heap.size ≤ b → below col0 w.heap.size b = none := fun b hb => if_neg (by omega)
  generalize below col0 w.heap.size = col at h hcn ⊢
  have h1 := h.step ((Touch.refl [] w).alloc (.cells #[.int .i64 id] 3))
  have hc1 := At.new w 3 [.int .i64 id]
  have hat := h.idsAt id
  rw [if_pos hid] at hat
  have hno : no = S.order.length := by have := h.order_.1; simpa [ints] using this.symm
  have hno1 : no ≤ 1024 := by omega
  have hloo := h.order_.lt
  have hne : lp ≠ bi := fun e => by have := h.c_lp; rw [e, h.c_bi] at this; cases this
  have hbo : bi ∉ oo := fun hm => by have := h.c_oo _ hm; rw [h.c_bi] at this; cases this
  have hlo : lp ∉ oo := fun hm => by have := h.c_oo _ hm; rw [h.c_lp] at this; cases this
  have lbi := h.ids.lt
  have llp := h.at_.lt
  have T1 := Lib.hid ((Touch.refl [] w).alloc (.cells #[.int .i64 id] 3))
  have HH := Lib.hid h
  have HI := Lib.hid hi
  have HP := Lib.hid hp
  have HID := Lib.hid hid
  clear h hp hi hid hno
  go_enter Tryd.func8, Tryd.ntmps8
  go_wp2
  obtain ⟨c, hc⟩ : ∃ c, w.heap.size = c := ⟨_, rfl⟩
  rw [hc] at hc1 ⊢
  have HC := Lib.hid hc
  have hcoo : c ∉ oo := fun hm => by have := hloo _ hm; omega
  have hcbi : c ≠ bi := by omega
  have hclp : lp ≠ c := by omega
  refine region_still (by kernel_rfl) (by kernel_rfl) (fun w2 t2 => ?_)
  have h2 := h1.step t2
  have hc2 := hc1.touch t2 (by simp)
  have c1 := h2.at_.cell 1
  have k0 := hc2.cell 0
  simp at c1 k0
  have hrun : (Instr.lookup 66 (.map (some bi)) (.int .i64 id) true).run Tryd.prog w2 = .ok (.tuple #[.pointer (some ⟨blk id, 0, none⟩), .bool true]) w2 := by
    have := run_lookup_imap KI w2 Tryd.mapI (zeroAsk w2) h2.ids id true
    rw [hat] at this
    exact this
  have T2 := Lib.hid (T1.out.trans' t2)
  have HC2 := Lib.hid hc2
  have H2 := Lib.hid h2
  clear t2 h1 h2 hc1 hc2 hc
  repeat still_step
  refine wpStill_nil ?_
  clear hrun
  go_wp2
  refine region_tail 5 (by kernel_rfl) (by kernel_rfl) (fun w3 t3 => ?_)
  have h3 := H2.out.step t3
  have hc3 := HC2.out.touch t3 (by simp)
  have c1 := h3.at_.cell 1
  have k0 := hc3.cell 0
  simp at c1 k0
  have hm3 := h3.ids
  have T3 := Lib.hid (T2.out.trans' t3)
  have H3 := Lib.hid h3
  have HC3 := Lib.hid hc3
  clear t3 h3 hc3
  simp only [List.take_succ_cons, List.take_zero, List.drop_succ_cons, List.drop_zero]
  repeat still_step
  refine wpStill_nil ?_
  go_wp2_with (at_delete; refine wpList_delete_imap KI rfl _ _ rfl Tryd.mapI rfl hm3 id rfl ?_; intro w4 hm4 t4; have hA4 := H3.out.at_.touch t4 (by simpa using hne); have c0 := hA4.cell 0; simp at c0; have hr4 := H3.out.order_.touch t4 (fun b hb => by simp; rintro rfl; exact hbo hb); have hc4 := HC3.out.touch t4 (by simpa using hcbi); have k0 := hc4.cell 0; simp at k0)
  refine (delete_any w4 S.order id ao no co oo c hr4 hno1 k0 hcoo).mono ?_
  rintro e w5 ⟨rfl, hr5, t5⟩
  obtain ⟨col5, hM, hcol5⟩ := mid_of HH.out T3.out hm4 t4 hr5 t5
  have hcc : col5 c = none := by rw [hcol5 c HC3.out.lt]; exact hcn c (by have := HC.out; omega)
  have hA5 := hA4.touch t5 hlo
  have c0 := hA5.cell 0
  have f0 := hA5.frozen 0
  have hc5 := (hc4.touch t5 hcoo).other (p := ⟨lp, 0, none⟩) (by exact fun e => hclp e.symm) (.slice ao (S.order.filter fun x => decide (x ≠ id)).length co)
  generalize (S.order.filter fun x => decide (x ≠ id)).length = nl at hM c0 hc5 ⊢
  simp at c0
  have HM := Lib.hid hM
  have HC5 := Lib.hid hc5
  clear hM hA4 hA5 hr4 hr5 hc4 hc5 hm4 t4 t5 c1 k0 hm3
  go_wp2
  generalize hw6 : World.setCell _ _ _ = w6 at HM HC5 ⊢
  clear hw6 c0 f0
  obtain ⟨⟨ao6, no6, co6, oo6, ki6, kh6, kw6, hp6⟩, hl6⟩ := HM.out
  have hob := hp6.obj id HID.out
  rw [Lk.up_same] at hob
  obtain ⟨pa, pn, pc, po, g1, g2, g3, g4⟩ := hob
  have d1 := g1.cell 1
  have d2 := g1.cell 2
  simp at d1 d2
  have hpn : pn = (S.paths id).length := by have := g2.1; simpa [u64s] using this.symm
  have hpn128 : pn ≤ 128 := by rw [hpn]; exact HP.out id HID.out
  have hhl := HI.out.hl id
  obtain ⟨hh, hhe⟩ : ∃ hh, S.has id = hh := ⟨_, rfl⟩
  rw [hhe] at d2 hhl
  have HG1 := Lib.hid g1
  have HG2 := Lib.hid g2
  have HG3 := Lib.hid g3
  have HP6 := Lib.hid hp6
  have HL6 := Lib.hid hl6
  have HPN := Lib.hid hpn
  have HHE := Lib.hid hhe
  have hhp : hh ≤ pn := by omega
  clear g1 g2 g3 g4 hp6 hl6 hpn hhe hhl
  refine region_still (by kernel_rfl) (by kernel_rfl) (fun w7 t7 => ?_)
  have d1 := (HG1.out.touch t7 (by simp)).cell 1
  have d2 := (HG1.out.touch t7 (by simp)).cell 2
  rw [HHE.out] at d2
  simp at d1 d2
  have T7 := Lib.hid t7
  clear t7
  repeat still_step
  refine wpStill_nil ?_
  go_upto_if 50 with (fail)
  go_cut [] (fun wx => LetMid w lp col S id blk bi bh bw wx)
  case first =>
    cases hx : S.next id with
    | none =>
      have hge := Lk.next_none hx
      rw [HHE.out, ← HPN.out] at hge
      have hd : decide ((hh : Int) < (pn : Int)) = false := decide_eq_false (by omega)
      have hd2 : decide (hh < pn) = false := decide_eq_false (by omega)
      have HX := Lib.hid hx
      clear hx
      go_wp2
      go_meet
      exact ⟨_, ⟨_, _, _, _, _, _, _, (HP6.out.step T7.out).congr (fun _ => rfl) (fun p => by rw [Lk.waits_leave_none HX.out]) (fun _ _ => ⟨rfl, rfl⟩)⟩, HL6.out.step T7.out⟩
    | some p =>
      have hlt := (Lk.next_lt hx).1
      rw [HHE.out, ← HPN.out] at hlt
      have hd : decide ((hh : Int) < (pn : Int)) = true := decide_eq_true (by omega)
      have hd2 : decide (hh < pn) = true := decide_eq_true (by omega)
      have HX := Lib.hid hx
      clear hx
      have hcp := HG2.out.2.1
      obtain ⟨pb, poff, -, rfl, -⟩ := HG2.out.form (by omega)
      go_wp2
      refine region_still (by kernel_rfl) (by kernel_rfl) (fun w8 t8 => ?_)
      have tt8 := T7.out.trans' t8
      have d1 := (HG1.out.touch tt8 (by simp)).cell 1
      have d2 := (HG1.out.touch tt8 (by simp)).cell 2
      have d3 := (HG2.out.touch tt8 (by simp)).cellSome hh (.int .u64 p) (by unfold u64s; rw [List.getElem?_map]; have := HX.out; unfold Lk.next at this; rw [HHE.out] at this; rw [this]; rfl)
      rw [HHE.out] at d2
      simp at d1 d2
      have hkn : (hh : Int) < (pn : Int) := by omega
      have T8 := Lib.hid tt8
      clear t8 tt8
      repeat still_step
      refine wpStill_nil ?_
      clear d1 d2 d3
      go_wp2
      have hP8 := (HP6.out.step T8.out).step (Touch.refl [] w8).drew
      obtain ⟨wa, wn, wk, wo, hV, hrow, hco⟩ := (hP8.waitsAt p).get
      have c3 := hP8.at_.cell 3
      simp at c3
      have hrun1 : (Instr.lookup 68 (.map (some bw)) (.int .u64 p) false).run Tryd.prog w8.drew = .ok (.slice wa wn wk) w8.drew := by
        have := run_lookup_imap KU w8.drew Tryd.mapW (zeroInts w8.drew) hP8.waits p false
        rw [hV] at this
        exact this
      have hcwo : c ∉ wo := fun hm => by have := hco _ hm; rw [hcc] at this; cases this
      have hwn : wn ≤ 1024 := by
        have h1 : wn = (S.waitsFor p).length := by have := hrow.1; simpa [ints] using this.symm
        have h2 := waits_len (S := S) p
        have h3 := List.Nodup.length_le_of_subset HI.out.qn (fun i hi => (HI.out.qo i hi).1)
        omega
      have k0 := (HC5.out.touch (T8.out.trans' (Touch.refl [] w8).drew) (by simp)).cell 0
      simp at k0
      have hdel := delete_any w8.drew (S.waitsFor p) id wa wn wk wo c hrow hwn k0 hcwo
      have hlw : lp ∉ wo := fun hm => by have := hco lp hm; rw [hP8.c_lp] at this; cases this
      have hbw : bw ∉ wo := fun hm => by have := hco bw hm; rw [hP8.c_bw] at this; cases this
      have hlb : lp ≠ bw := fun e => by have := hP8.c_lp; rw [e, hP8.c_bw] at this; cases this
      have llp8 := hP8.at_.lt
      have hmw := hP8.waits
      have HD := Lib.hid hdel
      have HP8 := Lib.hid hP8
      have HCO := Lib.hid hco
      have hS : ∀ W, Touch (bw :: wo) w8.drew W → W.cell? ⟨lp, 3, none⟩ = some (.map (some bw)) := fun W t =>
        (t.cell (p := ⟨lp, 3, none⟩) llp8 (by simp [hlb, hlw])).trans (by simpa using HP8.out.at_.cell 3)
      have HS := Lib.hid hS
      clear hP8 hV hco hdel k0 hS
      go_region_held3 (fun W => W.cell? ⟨lp, 3, none⟩ = some (.map (some bw))) (first | assumption | go_keep) ((go_at_call 23; refine HD.out.mono ?_; rintro e w9 ⟨rfl, hr9, t9⟩; generalize ((S.waitsFor p).filter fun x => decide (x ≠ id)).length = dl at hr9 ⊢; have hm9 := hmw.touch t9 hbw; have hS9 := HS.out w9 (t9.mono (fun x hx => .inl (by simp [hx]))); obtain ⟨w10, hupd, hm10, t10⟩ := update_run hm9 p (.slice wa dl wk); have hS10 := HS.out w10 ((t9.mono (l' := bw :: wo) (fun x hx => .inl (by simp [hx]))).trans t10 (fun x hx => .inl (by simp at hx; simp [hx])))))
      go_wp2_with fail
      go_meet
      have hfin := HP8.out.setWait (xs := (S.waitsFor p).filter fun x => decide (x ≠ id)) t9 (fun x hx _ => HCO.out x hx) hr9 (fun b hb => .inl hb) HCO.out hm10 t10
      rw [← Lk.waits_leave_next HX.out] at hfin
      refine ⟨_, ⟨_, _, _, _, _, _, _, hfin⟩, (HL6.out.step (T8.out.trans' (Touch.refl [] w8).drew)).trans (Later.of ((t9.mono (l' := bw :: wo) (fun x hx => .inl (by simp [hx]))).trans' (t10.mono (by simp))) (fun x hx _ => ?_) (fun b hb => paint_old _ _ _ hb))⟩
      rcases List.mem_cons.1 hx with rfl | hx
      · exact ⟨_, HP8.out.c_bw, by simp [isRow]⟩
      · exact ⟨_, HCO.out x hx, by simp [isRow]⟩
  case rest =>
    obtain ⟨colz, hMz⟩ := hcut
    obtain ⟨⟨aoz, noz, coz, ooz, kiz, khz, kwz, hpz⟩, hlz⟩ := (fun h => h : Mid w lp col S id blk bi bh bw (S.leave id) wc colz → Mid w lp col S id blk bi bh bw (S.leave id) wc colz) hMz
    have hob := hpz.obj id HID.out
    rw [Lk.up_same, HHE.out] at hob
    obtain ⟨qa, qn, qc, qo, q1, q2, q3, q4⟩ := hob
    have hqn : qn = (S.paths id).length := by have := q2.1; simpa [u64s] using this.symm
    have hqc := q2.2.1
    have hqm := q2.2.2.1
    unfold maxLen at hqm
    have hhl : S.has id ≤ (S.paths id).length := HI.out.hl id
    have hhq : hh ≤ qn := by rw [hqn, ← HHE.out]; exact hhl
    have hhc : hh ≤ qc := by omega
    have hhc' : (hh : Int) ≤ (qc : Int) := by omega
    have hh0 : (0 : Int) ≤ (hh : Int) := by omega
    have hqn128 : qn ≤ 128 := by rw [hqn, ← HPN.out]; exact hpn128
    have HQ1 := Lib.hid q1
    have HHL := Lib.hid hhl
    have HQN := Lib.hid hqn
    have HPR := Lib.hid (PathRow.mk (wr := wc) (colr := colz) (id := id) q2 q4)
    have HMZ := Lib.hid hMz
    clear hpz hlz q1 q2 q3 q4 hMz hqn hhl
    clear d1 d2 HM HC5 HC3 H3 H2 HC2 T1 T2 T3 HP6 HL6 HG1 HG2 HG3 T7 hcc hcoo hcbi hclp hhp
    clear hat hno1 hloo hne hbo hlo lbi llp hcn hcol5
    go_wp2
    refine region_still (by kernel_rfl) (by kernel_rfl) (fun wz tz => ?_)
    have d1 := (HQ1.out.touch tz (by simp)).cell 1
    have d2 := (HQ1.out.touch tz (by simp)).cell 2
    simp at d1 d2
    have R0 := Lib.hid (LetRel.mk (HMZ.out.step tz) (Lk.Sem.start HI.out id) (Ready.mk (w := w) (Row.nil wz 3 1 none) (by simp)) (PathRow.later HPR.out (Later.of tz (by simp) (fun _ _ => rfl))))
    clear tz
    repeat still_step
    refine wpStill_nil ?_
    clear d1 d2
    go_wp2
    go_loopw [84, 4] (fun i s wr => ∃ t rn rc ra, t ≤ hh ∧ i = .int .i64 (t : Nat) ∧ s = .slice ra rn rc ∧ rn ≤ t ∧ Hid (∃ S' ready ro colr, LetRel w lp col S id blk bi bh bw qa qn qc qo t S' ready ra rn rc ro wr colr)) (fun i _ _ => hh - (intOf i).toNat)
    case atStart => exact ⟨0, 0, 0, none, by omega, rfl, rfl, by omega, _, _, _, _, R0.out⟩
    case round =>
      clear R0
      obtain ⟨t, rn, rc, ra, ht, rfl, rfl, hrn, S', ready, ro, colr, hR⟩ := hrel
      by_cases hlt : t < hh
      · obtain ⟨⟨aor, nor, cor, oor, kir, khr, kwr, hpr⟩, hlr⟩ := hR.mid
        obtain ⟨b, off, -, rfl, -⟩ := hR.pr.row.form (by omega)
        obtain ⟨p, hpp⟩ : ∃ p, (S.paths id).getD t 0 = p := ⟨_, rfl⟩
        have d := Row.one (k := .u64) hR.pr.row t (by omega)
        rw [hpp] at d
        have hth : (t : Int) < (hh : Int) := by omega
        have c2 := hpr.at_.cell 2
        simp at c2
        have llp := hpr.at_.lt
        have hmh := hpr.held
        have hRQ := Lib.hid (show t ≤ 128 by omega)
        have HRel := Lib.hid hR
        have HPr := Lib.hid hpr
        have HPP := Lib.hid hpp
        clear hpr hlr hpp hR
        cases hw : (S'.cut id).waitsFor p with
        | nil =>
          have HW := Lib.hid hw
          clear hw
          go_wp2_with (first | (at_delete; refine wpList_delete_imap KU rfl _ _ rfl Tryd.mapH rfl hmh p rfl ?_; intro w3 hm3 t3; obtain ⟨hp3, hl3⟩ := HRel.out.cut HHL.out (by rw [HHE.out]; exact hlt) HID.out HPr.out (by rw [HPP.out]; exact hm3) t3; obtain ⟨wa, wn, wk, wo, hV, hrow3, hco3⟩ := (hp3.waitsAt p).get; have c3 := hp3.at_.cell 3; simp at c3; have hmw3 := hp3.waits; have hwn : wn = ((S'.cut id).waitsFor p).length := by { have := hrow3.1; simpa [ints] using this.symm }; rw [HW.out] at hwn; simp at hwn; have hz : ((wn : Int) == 0) = true := by { rw [beq_iff_eq]; omega }) | (at_lookup; refine wpList_lookup_imap KU rfl _ _ false rfl Tryd.mapW (zeroInts _) rfl hmw3 p rfl ?_; simp only [hV, if_neg (show ¬ (false = true) by decide)]))
          have hs := HRel.out.sem.nil HHL.out (by rw [HHE.out]; exact hlt) (by rw [HPP.out]; exact HW.out)
          have HNew := Lib.hid (LetRel.mk (HRel.out.mid.on hp3 hl3) hs (HRel.out.rdy.later hl3) (HRel.out.pr.later hl3))
          clear hp3 hl3 hm3 t3 hrow3 hco3 hV c3 hmw3 hs
          go_wp2
          go_roundw
          case rel => exact ⟨t + 1, rn, rc, ra, by omega, by go_num, rfl, by omega, _, _, _, _, HNew.out⟩
          case measure => simp [intOf]; omega
        | cons j l =>
          have HW := Lib.hid hw
          clear hw
          go_wp2_with (first | (at_delete; refine wpList_delete_imap KU rfl _ _ rfl Tryd.mapH rfl hmh p rfl ?_; intro w3 hm3 t3; obtain ⟨hp3, hl3⟩ := HRel.out.cut HHL.out (by rw [HHE.out]; exact hlt) HID.out HPr.out (by rw [HPP.out]; exact hm3) t3; obtain ⟨wa, wn, wk, wo, hV, hrow3, hco3⟩ := (hp3.waitsAt p).get; have c3 := hp3.at_.cell 3; simp at c3; have hmw3 := hp3.waits; have hwn : wn = ((S'.cut id).waitsFor p).length := by { have := hrow3.1; simpa [ints] using this.symm }; rw [HW.out] at hwn; simp at hwn; have hz : ((wn : Int) == 0) = false := by { rw [beq_eq_false_iff_ne]; omega }) | (at_lookup; refine wpList_lookup_imap KU rfl _ _ false rfl Tryd.mapW (zeroInts _) rfl hmw3 p rfl ?_; simp only [hV, if_neg (show ¬ (false = true) by decide)]))
          obtain ⟨hjo, hjid, hinvD, hgD, hsem⟩ := HRel.out.sem.cons HHL.out (by rw [HHE.out]; exact hlt) (by rw [HPP.out]; exact HW.out)
          obtain ⟨wb, woff, -, rfl, rfl, -⟩ := hrow3.form (by have := hrow3.2.1; omega)
          have hjm : j ∈ S.order.filter (fun x => decide (x ≠ id)) := List.mem_filter.2 ⟨hjo, by simpa using hjid⟩
          have hwn1 : 1 ≤ wn := by omega
          have hwnc : wn ≤ wk := hrow3.2.1
          have hwcm : wk ≤ maxLen := hrow3.2.2.1
          unfold maxLen at hwcm
          have hM3 := HRel.out.mid.on hp3 hl3
          have HM3 := Lib.hid hM3
          have HP3 := Lib.hid hp3
          have HL3 := Lib.hid hl3
          have HROW := Lib.hid hrow3
          have HCO := Lib.hid hco3
          have HV := Lib.hid hV
          have HInv := Lib.hid hinvD
          have HGone := Lib.hid hgD
          have HSem := Lib.hid hsem
          have HJM := Lib.hid hjm
          have HJO := Lib.hid hjo
          have HJID := Lib.hid hjid
          clear hM3 hp3 hl3 hrow3 hco3 hV hinvD hgD hsem hjm hjo hjid hm3 t3 hmw3 c3 c2 hmh d hwn
          go_wp2
          refine region_still (by kernel_rfl) (by kernel_rfl) (fun w4 t4 => ?_)
          have hp4 := HP3.out.step t4
          have c1 := hp4.at_.cell 1
          have c3 := hp4.at_.cell 3
          have e0 := Row.one (k := .i64) (zs := (S'.cut id).waitsFor p) (HROW.out.touch t4 (by simp)) 0 (by omega)
          rw [HW.out] at e0
          simp at c1 c3 e0
          have hrunW : (Instr.lookup 68 (.map (some bw)) (.int .u64 p) false).run Tryd.prog w4 = .ok (.slice (some ⟨wb, woff, none⟩) wn wk) w4 := by
            have := run_lookup_imap KU w4 Tryd.mapW (zeroInts w4) hp4.waits p false
            rw [HV.out] at this
            exact this
          have hrunI : (Instr.lookup 66 (.map (some bi)) (.int .i64 j) false).run Tryd.prog w4 = .ok (.pointer (some ⟨blk j, 0, none⟩)) w4 := by
            have := run_lookup_imap KI w4 Tryd.mapI (zeroAsk w4) hp4.ids j false
            rw [hp4.idsAt, if_pos HJM.out] at this
            exact this
          have T4 := Lib.hid t4
          clear t4 hp4
          have hwn0 : 0 < wn := by omega
          repeat still_step
          refine wpStill_nil ?_
          clear c1 c3 e0 hrunW hrunI
          go_upto_region 18 with (fail)
          go_cut [] (fun wx => LetD w lp col S id blk bi bh bw ((S'.cut id).leave j) w3 colr wx)
          case first =>
            refine region_tail 12 (by kernel_rfl) (by kernel_rfl) (fun w5 t5 => ?_)
            have hp5 := HP3.out.step (T4.out.trans' t5)
            have c3 := hp5.at_.cell 3
            simp at c3
            have hrunW : (Instr.lookup 68 (.map (some bw)) (.int .u64 p) false).run Tryd.prog w5 = .ok (.slice (some ⟨wb, woff, none⟩) wn wk) w5 := by
              have := run_lookup_imap KU w5 Tryd.mapW (zeroInts w5) hp5.waits p false
              rw [HV.out] at this
              exact this
            have hrow5 := (HROW.out.touch (T4.out.trans' t5) (by simp)).tail (by omega)
            obtain ⟨sa, hsa⟩ : ∃ sa, (if wk = 1 then some (⟨wb, woff, none⟩ : Addr) else some ⟨wb, woff + 1, none⟩) = sa := ⟨_, rfl⟩
            rw [hsa, show (ints ((S'.cut id).waitsFor p)).drop 1 = ints l by rw [HW.out]; rfl] at hrow5
            obtain ⟨w6, hupd, hm6, t6⟩ := update_run hp5.waits p (.slice sa (wn - 1) (wk - 1))
            have j1 : 1 ≤ wk := by omega
            have j2 : (1 : Int) ≤ (wn : Int) := by omega
            have j3 : (1 : Int) ≤ (wk : Int) := by omega
            have j4 : (0 : Int) ≤ 1 := by omega
            have HP5 := Lib.hid hp5
            have T5 := Lib.hid (T4.out.trans' t5)
            have HR5 := Lib.hid hrow5
            have HM6 := Lib.hid hm6
            have T6 := Lib.hid t6
            clear hp5 t5 hrow5 hm6 t6
            have fin : LetD w lp col S id blk bi bh bw ((S'.cut id).leave j) w3 colr w6 := by
              have hfin := HP5.out.setWait (o := [wb]) (Touch.refl [] w5) (by simp) HR5.out (fun b hb => by
                split at hb
                · simp at hb
                · exact .inl hb) HCO.out HM6.out T6.out
              have hW2 : ((S'.cut id).leave j).waitsFor = Lk.up (S'.cut id).waitsFor p l := by
                funext q
                rw [Lk.waits_leave_head (ex := [id]) (HRel.out.sem.inv.cut (HRel.out.sem.path HHL.out (by rw [HHE.out]; exact hlt)) (by rw [HRel.out.sem.hid, HHE.out]; omega)) HW.out q]
                rfl
              have hfin2 := hfin.congr (H' := ((S'.cut id).leave j).held) (W' := ((S'.cut id).leave j).waitsFor) (P' := S.paths) (N' := Lk.up ((S'.cut id).leave j).has id (S.has id)) (fun _ => rfl) (fun q => by rw [hW2]) (fun _ _ => ⟨rfl, rfl⟩)
              have hlx : Later isRow w3 colr w6 (paint colr w5.heap.size (.wait p)) := (((Later.refl w3 colr).step T5.out)).trans (Later.of T6.out (fun x hx _ => by simp at hx; subst hx; exact ⟨_, HP5.out.c_bw, by simp [isRow]⟩) (fun b hb => paint_old _ _ _ hb))
              exact ⟨_, HM3.out.on hfin2 hlx, hlx⟩
            have FIN := Lib.hid fin
            clear fin
            by_cases hc1 : wk = 1
            · rw [if_pos hc1] at hsa
              subst hsa
              subst hc1
              rw [Nat.sub_self, show wn - 1 = 0 by omega] at hupd
              simp only [List.take_succ_cons, List.take_zero, List.drop_succ_cons, List.drop_zero]
              repeat still_step
              refine wpStill_nil ?_
              go_wp2
              go_meet
              exact FIN.out
            · rw [if_neg hc1] at hsa
              subst hsa
              simp only [List.take_succ_cons, List.take_zero, List.drop_succ_cons, List.drop_zero]
              repeat still_step
              refine wpStill_nil ?_
              go_wp2
              go_meet
              exact FIN.out
          case rest =>
            obtain ⟨colx, hMx, hLx⟩ := hcut
            obtain ⟨⟨aox, nox, cox, oox, kix, khx, kwx, hpx⟩, hlx⟩ := (fun h => h : Mid w lp col S id blk bi bh bw ((S'.cut id).leave j) wc colx → Mid w lp col S id blk bi bh bw ((S'.cut id).leave j) wc colx) hMx
            have hgo := goes_any _ lp colx _ _ _ _ _ j [id] blk aox nox cox oox bi bh bw kix khx kwx ((S'.cut id).leave j) hpx (by rw [show ((S'.cut id).leave j).paths j = S'.paths j from Lk.up_other _ _ HJID.out, HRel.out.sem.oth j HJID.out]) (Lk.up_other _ _ HJID.out) HJO.out (by rw [show ((S'.cut id).leave j).order = S'.order from rfl, HRel.out.sem.order]; exact HJO.out) HInv.out (by
              rw [show ((S'.cut id).leave j).paths j = S'.paths j from Lk.up_other _ _ HJID.out, HRel.out.sem.oth j HJID.out]
              exact HP.out j HJO.out) (by
              have h1 : ((S'.cut id).leave j).queue.length ≤ S'.queue.length := List.length_filter_le _ _
              have h2 := HRel.out.sem.qlen
              have h3 := List.Nodup.length_le_of_subset HI.out.qn (fun i hi => (HI.out.qo i hi).1)
              have h4 := hRQ.out
              omega)
            have HG := Lib.hid hgo
            have HMx := Lib.hid hMx
            have HLx := Lib.hid hLx
            clear hgo hMx hLx hpx hlx
            go_wp2_with fail
            refine HG.out.mono ?_
            rintro e w7 ⟨rfl, col7, kh7, kw7, hp7, hl7⟩
            have hN : ∀ i, (Lk.up (Lk.up ((S'.cut id).leave j).has id (S.has id)) j ((((S'.cut id).leave j).goesAll j).1.has j)) i = (Lk.up (((S'.cut id).leave j).goesAll j).1.has id (S.has id)) i := fun i => by
              by_cases e : i = id
              · subst e; rw [Lk.up_other _ _ (Ne.symm HJID.out), Lk.up_same, Lk.up_same]
              · rw [Lk.up_other _ _ e]
                by_cases e2 : i = j
                · subst e2; rw [Lk.up_same]
                · rw [Lk.up_other _ _ e2, Lk.up_other _ _ e]; exact (HGone.out.has i e2).symm
            have hp8 := hp7.congr (fun _ => rfl) (fun _ => rfl) (fun i _ => ⟨rfl, (hN i).symm⟩)
            have hl8 := (HL3.out.trans HLx.out).trans hl7
            have HM8 := Lib.hid (HMx.out.on hp8 hl7)
            have HL8 := Lib.hid hl8
            have hob := hp8.obj j HJO.out
            obtain ⟨a8, n8, c8, o8, g8, -, -, -⟩ := hob
            have e8 := g8.cell 0
            simp at e8
            have HP8 := Lib.hid hp8
            clear hp7 hl7 hN hp8 hl8 g8
            have HS2 := Lib.hid HSem.out
            cases hb : (((S'.cut id).leave j).goesAll j).2 with
            | false =>
              have HB := Lib.hid hb
              clear hb
              go_wp2_with fail
              go_roundw
              case rel =>
                have hs := HS2.out
                rw [HB.out] at hs
                exact ⟨t + 1, rn, rc, ra, by omega, by go_num, rfl, by omega, _, _, _, _, ⟨HM8.out, hs, HRel.out.rdy.later HL8.out, HRel.out.pr.later HL8.out⟩⟩
              case measure => simp [intOf]; omega
            | true =>
              have HB := Lib.hid hb
              clear hb
              obtain ⟨i0, hii, hz0, hz1, hz2⟩ := info_parts Tryd.infoInt
              have hrd := HRel.out.rdy.later HL8.out
              have hrdr := hrd.row
              have HRD := Lib.hid hrd
              clear hrd
              go_wp2_with (at_builtin; refine wpList_append_row _ rfl (.tmp 129) (.tmp 134) 30 rfl 3 i0 _ 1 8 Tryd.intsT hii hz0 hz1 hz2 rfl (by decide) ra rn rc ro _ rfl (hrdr.alloc _) (some ⟨w7.heap.size, 0, none⟩) 1 1 [.int .i64 j] rfl rfl (.inr ⟨_, rfl, World.news_of_block (cs := #[.int .i64 j]) (t := 3) (fr := (0, 0)) (heap_alloc_new w7 _)⟩) (by simp [Value.oneCell']) (by unfold maxLen; omega) (by omega) ?_; intro a9 cap9 own9 w9 hrow9 ht9 hown9 _ _)
              go_roundw
              case rel =>
                have hs := HS2.out
                rw [HB.out] at hs
                have tt : Touch ro w7 w9 := ((Touch.refl [] w7).alloc (.cells #[.int .i64 j] 3)).mono (l' := ro) (by simp) |>.trans ht9 (fun b hb => .inl hb)
                have hbl : ∀ b, b < w7.heap.size → below col7 w7.heap.size b = col7 b := fun b hb => below_lt col7 hb
                have hlr := HRD.out.row.lt
                have hcn : ∀ x ∈ ro, x < w7.heap.size → col7 x = none := fun x hx _ => (HRD.out.fr x hx).2
                have hp9 := HP8.out.still tt hcn hbl
                have hw7 : w.heap.size ≤ w7.heap.size := HM8.out.later.touch.size
                have hlz : Later isRow w col w9 (below col7 w7.heap.size) := HM8.out.later.loose tt (fun x hx => (HRD.out.fr x hx).1) hcn hbl
                have hprr := (HRel.out.pr.later HL8.out)
                refine ⟨t + 1, rn + 1, cap9, a9, by omega, by go_num, rfl, by omega, _, ready ++ [j], own9, below col7 w7.heap.size, ⟨⟨⟨_, _, _, _, _, _, _, hp9⟩, hlz⟩, hs, ⟨by simpa [ints] using hrow9, fun b hb => ?_⟩, ⟨hprr.row.touch tt (fun b hb hm => ?_), fun b hb => ?_⟩⟩⟩
                · rcases hown9 with h | h
                  · rw [h] at hb; exact ⟨(HRD.out.fr b hb).1, by rw [hbl b (hlr b hb)]; exact (HRD.out.fr b hb).2⟩
                  · rw [h] at hb; simp at hb; subst hb
                    exact ⟨by omega, if_neg (by omega)⟩
                · have h1 := hprr.co b hb
                  rw [(HRD.out.fr b hm).2] at h1; cases h1
                · rw [hbl b (hprr.row.lt b hb)]; exact hprr.co b hb
              case measure => simp [intOf]; omega
      · obtain rfl : t = hh := by omega
        have hsem := hR.sem
        have hx0 := HHE.out
        have hall := hsem.all
        rw [hx0, Nat.sub_self] at hall
        have E := Lib.hid (show (S', ready) = Lk.letTo id t (S.leave id, []) from hall)
        have h0 : S'.has id = 0 := by rw [hsem.hid, hx0, Nat.sub_self]
        have hinv := hsem.inv.quit h0
        obtain ⟨⟨aor, nor, cor, oor, kir, khr, kwr, hpr⟩, hlr⟩ := hR.mid
        have hq : (S'.quit id).order = S.order.filter (fun x => decide (x ≠ id)) := by unfold Lk.quit; simp only; rw [hsem.order]
        have hne : ∀ j, j ∈ S.order.filter (fun x => decide (x ≠ id)) → j ≠ id := fun j hj => by simpa using (List.mem_filter.1 hj).2
        have hpq : LParts wr lp colr (S'.quit id).order (S'.quit id).order (S'.quit id).order (S'.quit id).held (S'.quit id).waitsFor (S'.quit id).paths (S'.quit id).has blk aor nor cor oor bi bh bw kir khr kwr := by
          rw [hq]
          refine ⟨hpr.at_, hpr.order_, hpr.ids, hpr.idsn, hpr.idsAt, hpr.held, hpr.heldn, fun p => by rw [Lk.held_quit h0]; exact hpr.heldAt p, hpr.waits, hpr.waitsn, hpr.waitsAt, fun j hj => ?_, hpr.c_lp, hpr.c_oo, hpr.c_bi, hpr.c_bh, hpr.c_bw⟩
          have hj' := hpr.obj j (List.mem_filter.1 hj).1
          rw [Lk.up_other _ _ (hne j hj)] at hj'
          rw [show (S'.quit id).paths j = S'.paths j from rfl, hsem.oth j (hne j hj)]
          exact hj'
        have hlen128 : ∀ i ∈ (S'.quit id).order, ((S'.quit id).paths i).length ≤ 128 := fun i hi => by
          rw [hq] at hi
          rw [show (S'.quit id).paths i = S'.paths i from rfl, hsem.oth i (hne i hi)]
          exact HP.out i (List.mem_filter.1 hi).1
        have HPQ := Lib.hid hpq
        have HINV := Lib.hid hinv
        have HLR := Lib.hid hlr
        have HRDY := Lib.hid hR.rdy
        have H128 := Lib.hid hlen128
        clear hsem hall hinv hpr hlr hq hne hpq hlen128 hR h0 hx0
        go_wp2_with fail
        go_ret2
        rw [HHE.out, ← E.out]
        exact ⟨ra, rn, rc, ro, ⟨_, rfl, ⟨⟨HINV.out, H128.out, colr, blk, aor, nor, cor, oor, bi, bh, bw, kir, khr, kwr, HPQ.out, rfl⟩, fun b hb hm => (mem_owned.1 hm).2 (HRDY.out.fr b hb).2⟩, HLR.out.touch, HLR.out.owned_of⟩, HRDY.out.row, fun b hb => (HRDY.out.fr b hb).1⟩
end Go.Proofs.YtppgeljlmckimaaDoor
