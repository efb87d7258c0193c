/-
  The document's locks: Let: the walk.
-/
import Derived.Test.YtppgeljlmckimaaDoorQLet
namespace Go.Proofs.YtppgeljlmckimaaDoor
open Go.RowKit

/-- behind the cut: a's paths are the rest. -/
def QCutAt (wr : World) (b1 : Nat) (id : Int) (b off n c hh : Nat) (wx : World) : Prop :=
  At wx b1 82 [.int .i64 id, .slice (if c = 1 then some ⟨b, off, none⟩ else some ⟨b, off + 1, none⟩) (n - 1) (c - 1), .int .i64 (hh : Nat)] ∧ Touch [b1] wr wx

theorem Tryd.ptrQ : Tryd.prog.underlying 78 = some (.pointer 82) := by kernel_rfl
theorem Tryd.infoQ : ∃ j, Tryd.prog.info? 82 = some j ∧ j.size ≠ 0 := by
  have h : (Tryd.prog.info? 82).map (fun j => j.size != 0) = some true := by kernel_rfl
  cases hj : Tryd.prog.info? 82 with
  | none => rw [hj] at h; simp at h
  | some j => rw [hj] at h; exact ⟨j, rfl, by simpa using h⟩
theorem filter_at {α : Type} {f : α → Bool} {x : α} : ∀ {l : List α} {k : Nat}, (∀ y ∈ l.take k, f y = false) → l[k]? = some x → f x = true → ∃ r, l.filter f = x :: r
  | [], k, _, h, _ => by simp at h
  | a :: l, 0, _, h, hf => by simp at h; subst h; exact ⟨_, List.filter_cons_of_pos hf⟩
  | a :: l, k + 1, h0, h, hf => by
    rw [List.filter_cons_of_neg (by rw [h0 a (by simp)]; simp)]
    exact filter_at (fun y hy => h0 y (by rw [List.take_succ_cons]; exact List.mem_cons_of_mem _ hy)) (by simpa using h) hf
theorem QAt.hasCell {w : World} {rp : Nat} {col : Nat → Option QTag} {S : Lk} {blk : Int → Nat} (h : QAt w rp col S blk) {id : Int} (hid : id ∈ S.order) : Go.Proofs.YtppgeljlmckimaaDoor.hasCell w (blk id) = S.has id := by
  obtain ⟨la, ln, lc, lo, qa, qn, qc, qo, h⟩ := h
  obtain ⟨a, n, c, o, hob⟩ := h.obj id hid
  have d2 := hob.at_.cell 2
  simp at d2
  unfold Go.Proofs.YtppgeljlmckimaaDoor.hasCell
  rw [d2]
  simp

set_option maxRecDepth 100000 in
set_option maxHeartbeats 6400000 in
theorem qlet_some (w : World) (rp : Nat) (S : Lk) (own : List Nat) (hR : QRep w rp S own) (hinv : Lk.Inv [] S) (hpl : ∀ i ∈ S.order, (S.paths i).length ≤ 128) (id : Int) (hid : id ∈ S.order) (hlen : S.order.length ≤ 800) (hql : S.queue.length ≤ 800) :
    Calls Tryd.prog 12 #[.pointer (some ⟨rp, 0, none⟩), .int .i64 id] w (QLetPost own w rp ((Lk.letTo id (S.has id) (S.leave id, [])).2, 0, (Lk.letTo id (S.has id) (S.leave id, [])).1.quit id)) := by
  obtain ⟨col0, blk, hQ0, rfl⟩ := hR
  have hQ := hQ0.below
  rw [← owned_below col0 w]
  have hcn : ∀ b, w.heap.size ≤ b → below col0 w.heap.size b = none := fun b hb => if_neg (by omega)
  generalize below col0 w.heap.size = col at hQ hcn ⊢
  clear hQ0
  have CF := qfind_any w rp col S blk hQ id
  rw [findV, if_pos hid] at CF
  obtain ⟨la, ln, lc, lo, qa, qn, qc, qo, h⟩ := hQ
  have c1 := h.at_.cell 1
  simp at c1
  have lrp := h.at_.lt
  have CO := qout_any w S.queue id qa qn qc qo h.queue (by omega)
  have HH := Lib.hid h
  have HI := Lib.hid hinv
  have HPL := Lib.hid hpl
  have HID := Lib.hid hid
  have HCN := Lib.hid hcn
  have HQL := Lib.hid hql
  have HCF := Lib.hid CF
  have HCO := Lib.hid CO
  clear h hinv hpl hid hcn hql CF CO
  go_enter Tryd.func12, Tryd.ntmps12
  go_wp2_with fail
  refine HCF.out.mono ?_
  rintro e w1 ⟨rfl, rfl⟩
  go_wp2_with fail
  refine HCO.out.mono ?_
  rintro e w1 ⟨a1, n1, k1, o1, rfl, hr1, t1, ho1⟩
  have hat1 := HH.out.at_.touch t1 (by simp)
  have c1 := hat1.cell 1
  simp at c1
  have f1 := hat1.frozen 1
  have l1 := hat1.lt
  have hfin := HH.out.setQueue (q' := (S.leave id).queue) (t1.mono (l' := qo) (by simp)) hr1 (fun b hb => .inr (ho1 b hb))
  have hlat : Later noTag w col (w1.setCell ⟨rp, 1, none⟩ (.slice a1 n1 k1)) (paint col w.heap.size .queue) := Later.of (l := [rp]) ((t1.mono (by simp)).setCell ⟨rp, 1, none⟩ (by simp) _) (fun x hx _ => by simp at hx; subst hx; exact ⟨_, HH.out.c_rp, fun h => h⟩) (fun b hb => paint_old _ _ _ hb)
  have hrel0 : QLetRel w rp col S blk id 0 (S.leave id) [] none 0 0 [] (below (paint col w.heap.size .queue) (w1.setCell ⟨rp, 1, none⟩ (.slice a1 n1 k1)).heap.size) (w1.setCell ⟨rp, 1, none⟩ (.slice a1 n1 k1)) :=
    ⟨(hfin.qat : QAt _ rp _ (S.leave id) blk).below, hlat.below, Lk.Sem.start HI.out id, Row.nil _ _ _ _, by simp, by simp, fun b hb => if_neg (by omega)⟩
  have HREL0 := Lib.hid hrel0
  clear hfin hlat hr1 t1 ho1 hat1 hrel0
  go_wp2_with fail
  go_loopw [7] (fun s wr => ∃ t S' ready ra rn rc ro colr, s = .slice ra rn rc ∧ QLetRel w rp col S blk id t S' ready ra rn rc ro colr wr) (fun _ wr => hasCell wr (blk id))
  case atStart => exact ⟨0, _, [], none, 0, 0, [], _, rfl, HREL0.out⟩
  case round =>
    clear HREL0 c1 f1 l1 HCO HCF
    obtain ⟨t, S', ready, ra, rn, rc, ro, colr, rfl, hR⟩ := hrel
    obtain ⟨la2, ln2, lc2, lo2, qa2, qn2, qc2, qo2, hq⟩ := hR.q
    have hido : id ∈ S'.order := by rw [hR.sem.order]; exact HID.out
    obtain ⟨pa, pn, pc, po, hob⟩ := hq.obj id hido
    have d0 := hob.at_.cell 0
    have d1 := hob.at_.cell 1
    have d2 := hob.at_.cell 2
    simp at d0 d1 d2
    have hcell : hasCell wr (blk id) = S'.has id := by unfold hasCell; rw [d2]; simp
    have HC := Lib.hid hcell
    have hpn : pn = (S'.paths id).length := by have := hob.row.1; simpa [u64s] using this.symm
    have hhid := hR.sem.hid
    have hl := HI.out.hl id
    have hpid := HPL.out id HID.out
    have hrn : rn = ready.length := by have := hR.row.1; simpa [ints] using this.symm
    have hrl := hR.sem.rlen
    have HR := Lib.hid hR
    have HQ := Lib.hid hq
    clear hcell hR hq
    cases hh : S'.has id with
    | zero =>
      rw [hh] at d2
      have c0 := HQ.out.at_.cell 0
      simp at c0
      have hfin : Lk.letTo id (S.has id) (S.leave id, []) = (S', ready) := by
        have e1 := HR.out.sem.all
        rw [show S.has id - t = 0 by omega] at e1
        exact e1.symm
      have HFIN := Lib.hid hfin
      have HLN := Lib.hid HQ.out.lnEq
      have hlen2 : ln2 ≤ 800 := by rw [HQ.out.lnEq, HR.out.sem.order]; exact hlen
      have hle2 := HQ.out.row.2.1
      have hlm2 := HQ.out.row.2.2.1
      unfold maxLen at hlm2
      have HOB := Lib.hid hob
      have lrp2 := HQ.out.at_.lt
      clear hfin hob d0 d1 hpn hhid hl hpid hrn hrl
      obtain ⟨j, hji, hjs⟩ := Tryd.infoQ
      obtain ⟨i1, hii, hz0, hz1, hz2⟩ := info_parts Tryd.infoAskP
      go_wp2_with fail
      go_loopw [12, 11] (fun v s wx => ∃ (k : Nat) (a : Option Addr) (n c : Nat), k ≤ ln2 ∧ v = .int .i64 k ∧ s = .slice a n c ∧ n ≤ k ∧ Touch [] wr wx ∧ Hid (∃ o, Row wx 78 1 a n c o (ptrs blk ((S'.order.take k).filter fun x => decide (x ≠ id))) ∧ ∀ b ∈ o, wr.heap.size ≤ b)) (fun v _ _ => ln2 - (intOf v).toNat)
      case atStart => exact ⟨0, none, 0, 0, by omega, rfl, rfl, by omega, Touch.refl _ _, [], Row.nil _ _ _ _, by simp⟩
      case round =>
        obtain ⟨k, sa, sn, sc, hk, rfl, rfl, hnk, tz, so, hsr, hso⟩ := hrel
        have hqz := HQ.out.step tz
        have c0 := hqz.at_.cell 0
        simp at c0
        by_cases hlt : k < ln2
        · have hki : (k : Int) < (ln2 : Int) := by omega
          obtain ⟨x, hx⟩ : ∃ x, S'.order[k]? = some x := ⟨_, List.getElem?_eq_getElem (by rw [← HLN.out]; exact hlt)⟩
          have hxo := List.mem_of_getElem? hx
          obtain ⟨lb, loff, _, rfl, -⟩ := hqz.row.form (by omega)
          have cx := hqz.ptr hx
          obtain ⟨xa, xn, xc, xo, hxob⟩ := hqz.obj x hxo
          have htk : S'.order.take (k + 1) = S'.order.take k ++ [x] := by rw [List.take_add_one, hx]; rfl
          have HTK := Lib.hid htk
          have HTZ := Lib.hid tz
          have HSR := Lib.hid hsr
          have HSO := Lib.hid hso
          have HXOB := Lib.hid hxob
          have hida := HOB.out.at_.touch tz (by simp)
          have HIDA := Lib.hid hida
          clear hx hxo htk tz hsr hso hxob hqz hida
          by_cases e : x = id
          · have hne := Lib.run_neq_ptr_same wr (P := Tryd.prog) (tp := 78) ⟨blk id, 0, none⟩ Tryd.ptrQ hji
            rw [e] at cx
            have HE := Lib.hid e
            clear e
            go_wp2_with fail
            go_roundw
            case rel =>
              refine ⟨k + 1, sa, sn, sc, by omega, by go_num, rfl, by omega, HTZ.out, so, ?_, HSO.out⟩
              rw [HTK.out, List.filter_append, List.filter_cons_of_neg (by simp [HE.out])]
              simpa using HSR.out
            case measure => simp [intOf]; omega
          · have hbb : blk x ≠ blk id := fun h => by { have := HXOB.out.cb; rw [h, HOB.out.cb] at this; cases this; exact e rfl }
            have hne := run_neq_ptr_other (P := Tryd.prog) (w := wr) (tp := 78) (a := ⟨blk x, 0, none⟩) (b := ⟨blk id, 0, none⟩) Tryd.ptrQ hji hjs (by simp [hbb]) HXOB.out.at_ HIDA.out
            have HE := Lib.hid e
            clear e
            go_wp2_with (at_builtin; refine wpList_append_row _ rfl (.tmp 123) (.tmp 131) 42 rfl 78 i1 _ 1 8 Tryd.askP hii hz0 hz1 hz2 rfl (by decide) sa sn sc so _ rfl (HSR.out.alloc _) (some ⟨wr.heap.size, 0, none⟩) 1 1 [.pointer (some ⟨blk x, 0, none⟩)] rfl rfl (.inr ⟨_, rfl, World.news_of_block (cs := #[.pointer (some ⟨blk x, 0, none⟩)]) (t := 78) (fr := (0, 0)) (heap_alloc_new wr _)⟩) (by simp [Value.oneCell']) (by unfold maxLen; omega) (by omega) ?_; intro a9 cap9 own9 w9 hrow9 ht9 hown9 _ _)
            go_roundw
            case rel =>
              have hnew : ∀ b ∈ own9, _ ≤ b := fun b hb => by
                rcases hown9 with h | h
                · rw [h] at hb; exact HSO.out b hb
                · rw [h] at hb; simp at hb; subst hb; have := HTZ.out.size; omega
              refine ⟨k + 1, a9, sn + 1, cap9, by omega, by go_num, rfl, by omega, (HTZ.out.alloc _).trans ht9 (fun b hb => .inr (HSO.out b hb)), own9, ?_, hnew⟩
              rw [HTK.out, List.filter_append, List.filter_cons_of_pos (by simpa using HE.out)]
              simpa [ptrs] using hrow9
            case measure => simp [intOf]; omega
        · have hki : ¬ (k : Int) < (ln2 : Int) := by omega
          rw [List.take_of_length_le (by rw [← HLN.out]; omega)] at hsr
          have hlo2 := hqz.at_.lt
          have f0 := hqz.at_.frozen 0
          have HTZ := Lib.hid tz
          have HSR := Lib.hid hsr
          have HSO := Lib.hid hso
          clear tz hsr hso hqz
          go_wp2_with fail
          go_ret2
          rw [HFIN.out]
          have h7 := HQ.out.setRow (S' := S'.quit id) (ord' := S'.order.filter fun x => decide (x ≠ id)) (blk' := blk) (HTZ.out.mono (l' := lo2) (by simp)) HSR.out (fun b hb => .inr (HSO.out b hb)) rfl rfl (fun i hi => HQ.out.obj i (List.mem_filter.1 hi).1)
          have hl7 := HR.out.later.trans (Later.of (l := [rp]) (col1 := paint colr _ .row) ((HTZ.out.mono (by simp)).setCell ⟨rp, 0, none⟩ (by simp) (.slice sa sn sc)) (fun y hy _ => by simp at hy; subst hy; exact ⟨_, HQ.out.c_rp, fun h => h⟩) (fun b hb => paint_old _ _ _ hb))
          have hrpr : rp ∉ ro := fun hm => by { have := HR.out.rcol _ hm; rw [HQ.out.c_rp] at this; cases this }
          refine ⟨ra, rn, rc, ro, ⟨_, rfl, ⟨⟨_, blk, h7.qat, rfl⟩, fun b hb hm => ?_⟩, hl7.touch, hl7.owned_of⟩, (HR.out.row.touch HTZ.out (by simp)).touch ((Touch.refl [rp] wr).setCell ⟨rp, 0, none⟩ (by simp) _) (fun b hb => by simp; rintro rfl; exact hrpr hb), HR.out.rnew⟩
          have h1 := (mem_owned.1 hm).2
          rw [paint_old _ _ _ (HR.out.row.lt b hb)] at h1
          exact h1 (HR.out.rcol b hb)
    | succ h1 =>
      rw [hh] at d2 hob
      have ht : t < S.has id := by omega
      have hpath := HR.out.sem.path hl ht
      have hpn0 : 0 < pn := by rw [hpn, hpath]; simp
      have hpn1 : (0 : Int) < (pn : Int) := by omega
      have hpc := hob.row.2.1
      have hpm := hob.row.2.2.1
      unfold maxLen at hpm
      obtain ⟨b, off, -, rfl, -⟩ := hob.row.form (by omega)
      obtain ⟨p, hp⟩ : ∃ p, (S.paths id).getD t 0 = p := ⟨_, rfl⟩
      rw [hp] at hpath
      have dp := hob.row.cellSome 0 (.int .u64 p) (by rw [hpath]; rfl)
      rw [Nat.add_zero] at dp
      have d2' : wr.cell? ⟨blk id, 2, none⟩ = some (.int .i64 ((h1 : Int) + 1)) := by simpa using d2
      have hb1 : (h1 : Int) + 1 ≤ 9223372036854775807 := by omega
      have hb2 : (0 : Int) < (h1 : Int) + 1 := by omega
      have j1 : 1 ≤ pc := by omega
      have j2 : (1 : Int) ≤ (pn : Int) := by omega
      have j3 : (1 : Int) ≤ (pc : Int) := by omega
      have j4 : (0 : Int) ≤ 1 := by omega
      have f1 := hob.at_.frozen 1
      have lb := hob.at_.lt
      have HOB := Lib.hid hob
      have HPATH := Lib.hid hpath
      have HHH := Lib.hid hh
      have HP := Lib.hid hp
      have HHID := Lib.hid hhid
      have HPN := Lib.hid hpn
      have HT := Lib.hid ht
      have HRN := Lib.hid hrn
      have hrn1 : rn ≤ 500 := by omega
      clear hob hpath hh hp hhid hpn ht d2 hrn
      go_upto_region 8 with (fail)
      go_cut [] (fun wx => QCutAt wr (blk id) id b off pn pc (h1 + 1) wx)
      case first =>
        by_cases hc1 : pc = 1
        · go_wp2_with fail
          go_meet
          refine ⟨?_, (Touch.refl _ _).setCell ⟨blk id, 1, none⟩ (by simp) _⟩
          rw [if_pos hc1, hc1]
          simpa using HOB.out.at_.set 1 (.slice (some ⟨b, off, none⟩) (pn - 1) 0)
        · go_wp2_with fail
          go_meet
          refine ⟨?_, (Touch.refl _ _).setCell ⟨blk id, 1, none⟩ (by simp) _⟩
          rw [if_neg hc1]
          simpa using HOB.out.at_.set 1 (.slice (some ⟨b, off + 1, none⟩) (pn - 1) (pc - 1))
      case rest =>
        obtain ⟨hA, tc⟩ := hcut
        have d2 : wc.cell? ⟨blk id, 2, none⟩ = some (.int .i64 ((h1 : Int) + 1)) := by simpa using hA.cell 2
        have f2 := hA.frozen 2
        have lb2 := hA.lt
        have HA := Lib.hid hA
        have HTC := Lib.hid tc
        clear hA tc d0 d1 d2' dp f1
        go_wp2_with fail
        have hA2 : At (wc.setCell ⟨blk id, 2, none⟩ (.int .i64 h1)) (blk id) 82 [.int .i64 id, .slice (if pc = 1 then some ⟨b, off, none⟩ else some ⟨b, off + 1, none⟩) (pn - 1) (pc - 1), .int .i64 (h1 : Nat)] := by
          simpa using HA.out.set 2 (.int .i64 h1)
        have t2 : Touch [blk id] wr (wc.setCell ⟨blk id, 2, none⟩ (.int .i64 h1)) := HTC.out.setCell ⟨blk id, 2, none⟩ (by simp) _
        have hq2 := qcut HQ.out (h1 := h1) (by have := HOB.out; rw [← HHH.out] at this; exact this) HHH.out hpn0 t2 hA2
        have hl2 : Later noTag wr colr (wc.setCell ⟨blk id, 2, none⟩ (.int .i64 h1)) colr := Later.of t2 (fun x hx _ => by simp at hx; subst hx; exact ⟨_, HOB.out.cb, fun h => h⟩) (fun _ _ => rfl)
        obtain ⟨wd, hwd⟩ : ∃ wd, wc.setCell ⟨blk id, 2, none⟩ (.int .i64 h1) = wd := ⟨_, rfl⟩
        rw [hwd] at hA2 t2 hq2 hl2 ⊢
        have h0 : 0 < S'.has id := by rw [HHH.out]; omega
        have hcinv := HR.out.sem.inv.cut HPATH.out h0
        have c1 := hq2.at_.cell 1
        simp at c1
        have hqn2 := hq2.qnEq
        have hqm := hq2.queue.2.2.1
        have hqle := hq2.queue.2.1
        unfold maxLen at hqm
        have hq1000 : (S'.cut id).queue.length ≤ 1000 := by
          have e1 := HR.out.sem.qlen
          have e2 := HQL.out
          have e3 := HT.out
          show S'.queue.length ≤ 1000
          omega
        have HWD := Lib.hid hwd
        have HQ2 := Lib.hid hq2
        have HL2 := Lib.hid hl2
        have HQN := Lib.hid hqn2
        have HCI := Lib.hid hcinv
        have HQK := Lib.hid hq1000
        have lrp2 := hq2.at_.lt
        clear hwd hq2 hl2 hqn2 hcinv hq1000 hA2 t2 h0 HTC HA d2 f2 lb2 lb
        go_loopw [9, 7] (fun v s wx => ∃ k : Nat, k ≤ qn2 ∧ v = .int .i64 k ∧ s = .slice ra rn rc ∧ Touch [] wd wx ∧ Hid (∀ x ∈ (S'.cut id).queue.take k, (S'.cut id).next x ≠ some p)) (fun v _ _ => qn2 - (intOf v).toNat)
        case atStart => exact ⟨0, by omega, rfl, rfl, Touch.refl _ _, fun x hx => by simp at hx⟩
        case round =>
          obtain ⟨k, hk, rfl, rfl, tz, hno⟩ := hrel
          have hqz := HQ2.out.step tz
          have c1 := hqz.at_.cell 1
          simp at c1
          by_cases hlt : k < qn2
          · have hki : (k : Int) < (qn2 : Int) := by omega
            obtain ⟨x, hx⟩ : ∃ x, (S'.cut id).queue[k]? = some x := ⟨_, List.getElem?_eq_getElem (by rw [← HQN.out]; exact hlt)⟩
            have hxq := List.mem_of_getElem? hx
            obtain ⟨hxo, hxn⟩ := HCI.out.qo x hxq
            obtain ⟨q, hxq2⟩ : ∃ q, (S'.cut id).next x = some q := by
              cases hn : (S'.cut id).next x with
              | none => exact absurd hn hxn
              | some q => exact ⟨q, rfl⟩
            obtain ⟨qb, qoff, _, rfl, -⟩ := hqz.queue.form (by omega)
            have cx := hqz.queue.cellSome k (.int .i64 x) (by rw [ints, List.getElem?_map, hx]; rfl)
            obtain ⟨xa, xn, xc, xo, hxob⟩ := hqz.obj x hxo
            obtain ⟨xh, hxh⟩ : ∃ xh, (S'.cut id).has x = xh := ⟨_, rfl⟩
            rw [hxh] at hxob
            have g1 := hxob.at_.cell 1
            have g2 := hxob.at_.cell 2
            simp at g1 g2
            have hxl := (Lk.next_lt hxq2).1
            rw [hxh] at hxl
            have hxn' : xn = ((S'.cut id).paths x).length := by have := hxob.row.1; simpa [u64s] using this.symm
            have hxlt : (xh : Int) < (xn : Int) := by omega
            have hxc := hxob.row.2.1
            have hxm := hxob.row.2.2.1
            unfold maxLen at hxm
            obtain ⟨xb, xoff, _, rfl, -⟩ := hxob.row.form (by omega)
            have g3 := hxob.row.cellSome xh (.int .u64 q) (by unfold u64s; rw [List.getElem?_map]; unfold Lk.next at hxq2; rw [hxh] at hxq2; rw [hxq2]; rfl)
            have CF2 := qfind_any wr rp colr (S'.cut id) blk hqz.qat x
            rw [findV, if_pos hxo] at CF2
            have HX := Lib.hid hx
            have HXO := Lib.hid hxo
            have HXQ := Lib.hid hxq2
            have HTZ := Lib.hid tz
            have HNO := Lib.hid hno
            have HCF2 := Lib.hid CF2
            have HQZ := Lib.hid hqz
            have HXOB := Lib.hid hxob
            clear hx hxq hxo hxn hxq2 tz hno CF2 hqz hxh hxl hxn' hxob
            by_cases e : q = p
            · rw [e] at g3
              have hxqp : (S'.cut id).next x = some p := by rw [HXQ.out, e]
              have hpp : (p == p) = true := by simp
              obtain ⟨l2, hw⟩ : ∃ l2, (S'.cut id).waitsFor p = x :: l2 := by
                unfold Lk.waitsFor
                exact filter_at (fun y hy => by simpa using HNO.out y hy) HX.out (by simpa using hxqp)
              obtain ⟨hxS, hxid, hInv2, hGone, hSem2⟩ := HR.out.sem.cons hl HT.out (by rw [HP.out]; exact hw)
              have HXS := Lib.hid hxS
              have HXID := Lib.hid hxid
              have HINV2 := Lib.hid hInv2
              have HSEM2 := Lib.hid hSem2
              clear e hxqp hw hxS hxid hInv2 hGone hSem2
              go_wp2_with fail
              refine HCF2.out.mono ?_
              rintro e w5 ⟨rfl, rfl⟩
              go_wp2_with fail
              go_quiet (fail)
              generalize hw6 : World.drewN _ _ = w6
              have t6 : Touch [] wr w6 := by subst hw6; exact (Touch.refl _ _).drewN _
              have hq6 := HQZ.out.step t6
              have HQ6 := Lib.hid hq6
              have HT6 := Lib.hid (HTZ.out.trans' t6)
              clear hw6 t6 hq6 c1 cx g1 g2 g3 hpp
              go_upto_region 15 with (fail)
              go_cut [] (fun wx => ∃ colx, QAt wx rp colx ((S'.cut id).leave x) blk ∧ Later noTag wd colr wx colx)
              case first =>
                have hq7 := HQ6.out.step (Touch.refl [] w6).drew
                have c1 := HQ6.out.at_.cell 1
                simp at c1
                obtain ⟨ya, yn, yc, yo, hyob⟩ := HQ6.out.obj x HXO.out
                have y0 := hyob.at_.cell 0
                simp at y0
                have HCO2 := Lib.hid (qout_any w6.drew (S'.cut id).queue x _ _ _ _ hq7.queue HQK.out)
                have HQ7 := Lib.hid hq7
                have lrp6 := HQ6.out.at_.lt
                have lbx := hyob.at_.lt
                have HYA := Lib.hid hyob.at_
                have hxrp : blk x ≠ rp := fun e => by { have := hyob.cb; rw [e, HQ6.out.c_rp] at this; cases this }
                clear hq7 hyob
                go_region_with ((go_at_call 27; refine HCO2.out.mono ?_; rintro e w8 ⟨a8, n8, k8, o8, rfl, hr8, t8, ho8⟩; have hat8 := HQ7.out.at_.touch t8 (by simp); have c8 := hat8.cell 1; have f8 := hat8.frozen 1; have l8 := hat8.lt; simp at c8))
                all_goals go_wp2_with fail
                all_goals
                  go_meet
                  have hfin := HQ7.out.setQueue (q' := ((S'.cut id).leave x).queue) (t8.mono (l' := qo2) (by simp)) hr8 (fun b hb => .inr (ho8 b hb))
                  refine ⟨_, (hfin.qat : QAt _ rp _ ((S'.cut id).leave x) blk), ((Later.refl wd colr).step (HT6.out.drew)).trans (Later.of (l := [rp]) ((t8.mono (by simp)).setCell ⟨rp, 1, none⟩ (by simp) _) (fun y hy _ => ?_) (fun b hb => paint_old _ _ _ hb))⟩
                  simp at hy
                  subst hy
                  exact ⟨_, HQ7.out.c_rp, fun h => h⟩
              case rest =>
                obtain ⟨colx, hQx, hlx⟩ := hcut
                have hpx : ((S'.cut id).leave x).paths x = S.paths x := by
                  rw [show ((S'.cut id).leave x).paths x = S'.paths x from Lk.up_other _ _ HXID.out, HR.out.sem.oth x HXID.out]
                have CG := qgoes_any wc rp colx ((S'.cut id).leave x) blk hQx x [id] HXO.out HINV2.out (by rw [hpx]; exact HPL.out x HXS.out) (Nat.le_trans (List.length_filter_le _ _) HQK.out)
                have HCG := Lib.hid CG
                have HLX := Lib.hid hlx
                clear CG hQx hlx hpx
                go_wp2_with fail
                refine HCG.out.mono ?_
                rintro e w9 ⟨rfl, col9, hQ9, hl9⟩
                have HL9 := Lib.hid ((HL2.out.trans HLX.out).trans hl9)
                have HS9 := Lib.hid HSEM2.out
                have hmes : hasCell w9 (blk id) = h1 := by
                  rw [hQ9.hasCell (id := id) (by rw [HSEM2.out.order]; exact HID.out), HSEM2.out.hid]
                  have e1 := HHID.out
                  rw [HHH.out] at e1
                  omega
                have HM := Lib.hid hmes
                clear hl9 hmes
                cases hb : (((S'.cut id).leave x).goesAll x).2 with
                | false =>
                  have HB := Lib.hid hb
                  have HQ9 := Lib.hid hQ9
                  clear hb hQ9
                  go_wp2_with fail
                  go_roundw
                  case rel =>
                    have hs := HS9.out
                    rw [HB.out] at hs
                    exact ⟨t + 1, _, ready, ra, rn, rc, ro, _, rfl, HR.out.next HQ9.out HL9.out hs⟩
                  case measure => rw [HM.out, HC.out, HHH.out]; omega
                | true =>
                  have HB := Lib.hid hb
                  obtain ⟨la9, ln9, lc9, lo9, qa9, qn9, qc9, qo9, hq9⟩ := (fun h => h : QAt w9 rp col9 _ blk → QAt w9 rp col9 _ blk) hQ9
                  obtain ⟨za, zn, zc, zo, hzob⟩ := hq9.obj x (by rw [HSEM2.out.order]; exact HXS.out)
                  have z0 := hzob.at_.cell 0
                  simp at z0
                  have hrow9 := HR.out.row.touch HL9.out.touch (fun b hb hm => (mem_owned.1 hm).2 (HR.out.rcol b hb))
                  have lz := hzob.at_.lt
                  have HQ9 := Lib.hid hQ9
                  obtain ⟨i0, hii, hz0, hz1, hz2⟩ := info_parts Tryd.infoInt
                  clear hb hQ9 hq9 hzob
                  go_wp2_with (at_builtin; refine wpList_append_row _ rfl (.tmp 98) (.tmp 103) 30 rfl 3 i0 _ 1 8 Tryd.intsT hii hz0 hz1 hz2 rfl (by decide) ra rn rc ro _ rfl (hrow9.alloc _) (some ⟨w9.heap.size, 0, none⟩) 1 1 [.int .i64 x] rfl rfl (.inr ⟨_, rfl, World.news_of_block (cs := #[.int .i64 x]) (t := 3) (fr := (0, 0)) (heap_alloc_new w9 _)⟩) (by simp [Value.oneCell']) (by unfold maxLen; omega) (by omega) ?_; intro aE capE ownE wE hrowE htE hownE _ _)
                  have hs := HS9.out
                  rw [HB.out] at hs
                  have hhE := HR.out.more HQ9.out HL9.out hs (by simpa [ints] using hrowE) (((Touch.refl [] w9).alloc _).mono (l' := ro) (by simp) |>.trans htE (fun b hb => .inl hb)) (fun b hb => by
                    rcases hownE with h | h
                    · rw [h] at hb; exact .inl hb
                    · rw [h] at hb; simp at hb; subst hb; exact .inr (by simp))
                  have HE := Lib.hid hhE
                  clear hs hhE
                  go_roundw
                  case rel => exact ⟨t + 1, _, ready ++ [x], aE, rn + 1, capE, ownE, _, rfl, HE.out⟩
                  case measure =>
                    rw [HE.out.q.hasCell (id := id) (by rw [HSEM2.out.order]; exact HID.out), HSEM2.out.hid, HC.out, HHH.out]
                    have e1 := HHID.out
                    rw [HHH.out] at e1
                    omega
            · have hne : (q == p) = false := by rw [beq_eq_false_iff_ne]; exact e
              have HE := Lib.hid e
              clear e
              go_wp2_with fail
              refine HCF2.out.mono ?_
              rintro e w5 ⟨rfl, rfl⟩
              go_wp2_with fail
              go_quiet (fail)
              go_wp2_with fail
              go_roundw
              case rel =>
                refine ⟨k + 1, by omega, by go_num, rfl, HTZ.out.drewN _, ?_⟩
                intro y hy
                rw [List.take_add_one, HX.out] at hy
                rcases List.mem_append.1 hy with hy | hy
                · exact HNO.out y hy
                · simp at hy
                  subst hy
                  rw [HXQ.out]
                  intro hc
                  exact HE.out (Option.some.inj hc)
              case measure => simp [intOf]; omega
          · have hki : ¬ (k : Int) < (qn2 : Int) := by omega
            have hw : (S'.cut id).waitsFor p = [] := by
              rw [List.take_of_length_le (by rw [← HQN.out]; omega)] at hno
              unfold Lk.waitsFor
              rw [List.filter_eq_nil_iff]
              intro y hy
              simpa using hno y hy
            have HW := Lib.hid hw
            have HTZ := Lib.hid tz
            have HQZ := Lib.hid hqz
            clear hw tz hqz hno
            go_wp2_with fail
            go_roundw
            case rel =>
              refine ⟨t + 1, _, ready, ra, rn, rc, ro, _, rfl, HR.out.next HQZ.out.qat (HL2.out.step HTZ.out) (HR.out.sem.nil hl HT.out (by rw [HP.out]; exact HW.out))⟩
            case measure =>
              have := HQZ.out.qat.hasCell (id := id) hido
              rw [this, HC.out, HHH.out, show (S'.cut id).has id = S'.has id - 1 from Lk.up_same _ _ _, HHH.out]
              omega
theorem qlet_none (w : World) (rp : Nat) (S : Lk) (own : List Nat) (hR : QRep w rp S own) (id : Int) (hid : id ∉ S.order) :
    Calls Tryd.prog 12 #[.pointer (some ⟨rp, 0, none⟩), .int .i64 id] w fun e w' => e = .returned (.tuple #[.slice none 0 0, .int .i64 5]) ∧ Touch [] w w' := by
  obtain ⟨col, blk, hQ, rfl⟩ := hR
  have CF := qfind_any w rp col S blk hQ id
  rw [findV, if_neg hid] at CF
  have HCF := Lib.hid CF
  clear CF hQ hid
  go_enter Tryd.func12, Tryd.ntmps12
  go_wp2_with fail
  refine HCF.out.mono ?_
  rintro e w1 ⟨rfl, rfl⟩
  go_wp2_with fail
  go_ret2
  exact ⟨rfl, Touch.refl _ _⟩
end Go.Proofs.YtppgeljlmckimaaDoor
