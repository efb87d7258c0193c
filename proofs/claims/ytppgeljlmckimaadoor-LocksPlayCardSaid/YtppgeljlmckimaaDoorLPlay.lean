/-
  LocksPlay: the walk.
-/
import Derived.Test.YtppgeljlmckimaaDoorLPlay1
namespace Go.Proofs.YtppgeljlmckimaaDoor.LocksPlay
open Go.RowKit

/-- the program's locks have had their call; the document's have it yet to come. -/
structure LHalf (w0 w : World) (lp rp : Nat) (S S1 : Lk) (o r : List Nat) : Prop where
  p : LRep w lp S1 o
  q : QRep w rp S r
  touch : Touch [] w0 w
  po : ∀ b ∈ o, w0.heap.size ≤ b
  qo : ∀ b ∈ r, w0.heap.size ≤ b
  apart : ∀ b ∈ o, b ∉ r
theorem LTwo.half {w0 w w' : World} {lp rp : Nat} {S S1 : Lk} {o o' r : List Nat} (h : LTwo w0 w lp rp S o r) (hr : LRep w' lp S1 o') (t : Touch o w w') (ho : ∀ b ∈ o', b ∈ o ∨ w.heap.size ≤ b) : LHalf w0 w' lp rp S S1 o' r := by
  have hlt := h.q.lt
  refine ⟨hr, h.q.touch t (fun b hb hb' => h.apart b hb' hb), h.touch.trans t (fun b hb => .inr (h.po b hb)), fun b hb => ?_, h.qo, fun b hb hb' => ?_⟩
  · rcases ho b hb with h' | h'
    · exact h.po b h'
    · exact Nat.le_trans h.touch.size h'
  · rcases ho b hb with h' | h'
    · exact h.apart b h' hb'
    · have := hlt b hb'; omega
theorem LHalf.step {w0 w w' : World} {lp rp : Nat} {S S1 : Lk} {o r : List Nat} (h : LHalf w0 w lp rp S S1 o r) (t : Touch [] w w') : LHalf w0 w' lp rp S S1 o r :=
  ⟨h.p.touch t (by simp), h.q.touch t (by simp), h.touch.trans' t, h.po, h.qo, h.apart⟩
theorem LHalf.two {w0 w w' : World} {lp rp : Nat} {S S1 : Lk} {o r r' : List Nat} (h : LHalf w0 w lp rp S S1 o r) (hr : QRep w' rp S1 r') (t : Touch r w w') (ho : ∀ b ∈ r', b ∈ r ∨ w.heap.size ≤ b) : LTwo w0 w' lp rp S1 o r' := by
  have hlt := h.p.lt
  refine ⟨h.p.touch t (fun b hb hb' => h.apart b hb hb'), hr, h.touch.trans t (fun b hb => .inr (h.qo b hb)), h.po, fun b hb => ?_, fun b hb hb' => ?_⟩
  · rcases ho b hb with h' | h'
    · exact h.qo b h'
    · exact Nat.le_trans h.touch.size h'
  · rcases ho b hb' with h' | h'
    · exact h.apart b hb h'
    · have := hlt b hb; omega
theorem ask_len (S : Lk) (id : Int) (zs : List Int) : (S.ask id zs).2.2.order.length ≤ S.order.length + 1 := by
  unfold Lk.ask
  split
  · simp
  · split
    · simp
    · have hg := (Lk.goesAll_gone (S.join id zs) id (by simp [Lk.join, Lk.up_same])).order
      show ((S.join id zs).goesAll id).1.order.length ≤ _
      rw [hg]
      simp [Lk.join]
theorem queue_len {S : Lk} (h : Lk.Inv [] S) : S.queue.length ≤ S.order.length := List.Nodup.length_le_of_subset h.qn (fun i hi => (h.qo i hi).1)
theorem LRep.short {w : World} {lp : Nat} {S : Lk} {own : List Nat} (h : LRep w lp S own) : ∀ i ∈ S.order, (S.paths i).length ≤ 128 := h.2.1

theorem step_call_fn {P : Program} {w : World} {ops : Array Oper} {o : Oper} {ac : Act} {K : Act → World → Prop} {Q : Exit → Act → World → Prop} {E : Prop} (hgd : o.guard = none) (f : FuncId) (args : Array Value) (hrun : (execOp ac.eval o).run P w = .ok (.enter f args) w)
    (R : Value → World → Prop) (hc : Calls P f args w fun e w' => ∃ v, e = .returned v ∧ R v w') (h : ∀ v w', R v w' → K (ac.put o.dst v) w') : if Region.wanted o (yielded ops ac.tmps) = true then Oper.wp P o ac w K Q else E := by
  have hw : Region.wanted o (yielded ops ac.tmps) = true := by simp [Region.wanted, hgd]
  rw [if_pos hw]
  unfold Oper.wp
  rw [hrun, Oper.upon_enter]
  refine hc.mono fun e w' hv => ?_
  obtain ⟨v, rfl, hR⟩ := hv
  exact h v w' hR
def AskR (w : World) (lp : Nat) (o : List Nat) (r : Bool × Int × Lk) (v : Value) (w' : World) : Prop :=
  v = .tuple #[.bool r.1, .int .i64 r.2.1] ∧ ∃ o2, LRep w' lp r.2.2 o2 ∧ Touch o w w' ∧ ∀ b ∈ o2, b ∈ o ∨ w.heap.size ≤ b
theorem ask_r {w : World} {lp : Nat} {o : List Nat} {r : Bool × Int × Lk} {f : FuncId} {args : Array Value} (h : Calls Tryd.prog f args w (AskPost o w lp r)) : Calls Tryd.prog f args w fun e w' => ∃ v, e = .returned v ∧ AskR w lp o r v w' :=
  h.mono fun e w' ⟨o2, he, hL, ht, ho⟩ => ⟨_, he, rfl, o2, hL, ht, ho⟩
/-- What stands behind a step: the locks, of one state; the step's own box. -/
def Stands (w : World) (lp rp sb : Nat) (i : Nat) (lt : Bool) (sid : Int) (sa : Option Addr) (sn sc : Nat) (wx : World) : Prop :=
  ∃ S o r, LTwo w wx lp rp S o r ∧ S.order.length ≤ i ∧ At wx sb 29 [.bool lt, .int .i64 sid, .slice sa sn sc]

set_option maxRecDepth 100000 in
set_option maxHeartbeats 6400000 in
theorem walkN (a : Option Addr) (n cap : Nat) (l : Nat → Asking) (w : World) (A : AsksIn w a n cap l) : Calls Tryd.prog 4 #[.slice a n cap] w fun e w' => e = .returned (.bool true) ∧ Touch [] w w' := by
  have hcap := A.cap_
  have hmax := A.max
  by_cases hbig : 150 < n
  · have hbi : (150 : Int) < (n : Int) := by omega
    clear A
    go_enter Tryd.func4, Tryd.ntmps4
    go_wp2_with (go_at_call 6; refine (works_any _).mono ?_; rintro e w1 ⟨rfl, t1⟩)
    go_ret
    exact ⟨rfl, t1⟩
  · have hbi : ¬ (150 : Int) < (n : Int) := by omega
    go_enter Tryd.func4, Tryd.ntmps4
    go_wp2_with (go_at_call 7; refine (newLocks_any _).mono ?_; rintro e w1 ⟨lp, own, rfl, L1, t1, ho⟩)
    obtain ⟨r0, hQ0, hr0⟩ : ∃ r0, QRep (w1.alloc (.cells #[.slice none 0 0, .slice none 0 0] 44)) w1.heap.size Lk.zero r0 ∧ ∀ b ∈ r0, b = w1.heap.size := by
      refine ⟨_, ⟨fun b => if b = w1.heap.size then some .box else none, fun _ => 0, ⟨none, 0, 0, [], none, 0, 0, [], ⟨At.new w1 _ _, Row.nil _ _ _ _, Row.nil _ _ _ _, by simp [Lk.zero], by simp, by simp, by simp⟩⟩, rfl⟩, fun b hb => ?_⟩
      obtain ⟨-, h⟩ := mem_owned.1 hb
      by_cases e : b = w1.heap.size
      · exact e
      · simp [e] at h
    have hst : LTwo w (w1.alloc (.cells #[.slice none 0 0, .slice none 0 0] 44)) lp w1.heap.size Lk.zero own r0 :=
      ⟨L1.touch ((Touch.refl [] w1).alloc _) (by simp), hQ0, t1.alloc _, ho, fun b hb => by have := hr0 b hb; have := t1.size; omega, fun b hb hb' => by have := hr0 b hb'; have := L1.lt b hb; omega⟩
    clear hQ0 L1 t1 ho hr0
    go_loopw [5] (fun i wr => ∃ k : Nat, k ≤ n ∧ i = .int .i64 k ∧ Hid (∃ S o r, LTwo w wr lp w1.heap.size S o r ∧ S.order.length ≤ k)) (fun i _ => n - (intOf i).toNat)
    case atStart => exact ⟨0, by omega, rfl, _, _, _, hst, by simp [Lk.zero]⟩
    case round =>
      clear hst
      obtain ⟨i, hi, rfl, S, o, r, hS, hSl⟩ := hrel
      by_cases hlt : i < n
      · obtain ⟨b, off, rfl, -, hq⟩ := (A.touch hS.touch).at_ (by omega)
        obtain ⟨q0, q1, q2⟩ := hq i hlt
        have hNs := A.nums i hlt
        have hlti : (i : Int) < (n : Int) := by omega
        obtain ⟨lt, hlt1⟩ : ∃ x, (l i).lt = x := ⟨_, rfl⟩
        obtain ⟨sid, hid1⟩ : ∃ x, (l i).id = x := ⟨_, rfl⟩
        obtain ⟨sa, hsa1⟩ : ∃ x, (l i).a = x := ⟨_, rfl⟩
        obtain ⟨sn, hsn1⟩ : ∃ x, (l i).n = x := ⟨_, rfl⟩
        obtain ⟨sc, hsc1⟩ : ∃ x, (l i).cap = x := ⟨_, rfl⟩
        obtain ⟨zs, hzs1⟩ : ∃ x, (l i).zs = x := ⟨_, rfl⟩
        rw [hlt1] at q0
        rw [hid1] at q1
        rw [hsa1, hsn1, hsc1] at q2 hNs
        rw [hzs1] at hNs
        have hncap := hNs.cap_
        have hnmax := hNs.max
        have HS := Lib.hid hS
        have HN := Lib.hid hNs
        have HA := Lib.hid A
        clear hq hlt1 hid1 hsa1 hsn1 hsc1 hzs1 hS hNs A
        by_cases hlong : 200 < sn
        · have hlo : (200 : Int) < (sn : Int) := by omega
          go_wp2_with (go_at_call 6; refine (works_any _).mono ?_; rintro e w2 ⟨rfl, t2⟩)
          go_ret
          exact ⟨rfl, (HS.out.touch.alloc _).trans' t2⟩
        · have hlo : ¬ (200 : Int) < (sn : Int) := by omega
          have hbx := At.new wr 29 [.bool lt, .int .i64 sid, .slice sa sn sc]
          have k0 := hbx.cell 0
          have k1 := hbx.cell 1
          have k2 := hbx.cell 2
          have HBX := Lib.hid hbx
          have HH := Lib.hid (HS.out.step ((Touch.refl [] wr).alloc (.cells #[.bool lt, .int .i64 sid, .slice sa sn sc] 29)))
          simp only [List.getElem?_cons_zero, List.getElem?_cons_succ] at k0 k1 k2
          clear hbx
          go_upto_if 40 with (fail)
          go_cut [7, 8, 9, 10, 11, 12, 13, 14] (fun _ _ _ _ _ _ _ _ wx => Stands w lp w1.heap.size wr.heap.size (i + 1) lt sid sa sn sc wx)
          case first =>
            have hsbo : wr.heap.size ∉ o := fun hb => by have := HS.out.p.lt _ hb; omega
            have hsbr : wr.heap.size ∉ r := fun hb => by have := HS.out.q.lt _ hb; omega
            have hrlt := HS.out.q.lt
            have HRL := Lib.hid hrlt
            have hinv := HS.out.p.inv
            have hql := queue_len hinv
            have HINV := Lib.hid hinv
            have HQL := Lib.hid hql
            clear hrlt hinv hql
            cases lt with
            | true =>
              by_cases hid : sid ∈ S.order
              · have CL := let_some _ lp S o HH.out.p sid hid (by omega)
                obtain ⟨hlo1, hlo2⟩ := Lk.letEnd_spec HINV.out sid
                have hS1len : (S.letEnd sid).order.length ≤ i + 1 := by rw [hlo1]; exact Nat.le_trans (List.length_filter_le _ _) (by omega)
                have HLEN := Lib.hid hS1len
                have HID := Lib.hid hid
                have HCL := Lib.hid CL
                clear CL hid hlo1 hlo2 hS1len
                go_wp2_with fail
                refine HCL.out.mono ?_
                rintro e w2 ⟨a2, n2, c2, oa, ⟨o2, rfl, ⟨La, hdis⟩, ta, hoa⟩, hrow, hoo⟩
                have hh := LTwo.half HH.out La ta hoa
                have hb2 := HBX.out.touch ta hsbo
                have k1 := hb2.cell 1
                simp at k1
                have lb2 := hb2.lt
                have CQ := qlet_some w2 w1.heap.size S r hh.q HINV.out (LRep.short HS.out.p) sid HID.out (by omega) (by have := HQL.out; omega)
                have HHH := Lib.hid hh
                have HB2 := Lib.hid hb2
                have HROW := Lib.hid hrow
                have HOO := Lib.hid hoo
                have HCQ := Lib.hid CQ
                clear La hdis ta hoa hrow hoo hh hb2 CQ k0 k2
                go_wp2_with fail
                refine HCQ.out.mono ?_
                rintro e w3 ⟨a3, n3, c3, ob, ⟨r3, rfl, ⟨Qb, hdis3⟩, tb, hrb⟩, hrow3, hoo3⟩
                have hT := LHalf.two HHH.out Qb tb hrb
                have hb3 := HB2.out.touch tb hsbr
                have hrow2 := HROW.out.touch tb (fun b hb hb' => by have h1 := HOO.out b hb; have h2 := HRL.out b hb'; simp at h1; omega)
                have CI := idsEq_any w3 a2 a3 n2 c2 n3 c3 _ _ (Nums.ofRow hrow2) (Nums.ofRow hrow3)
                rw [decide_eq_true rfl] at CI
                have HCI := Lib.hid CI
                have HT3 := Lib.hid hT
                have HB3 := Lib.hid hb3
                clear Qb hdis3 tb hrb hrow3 hoo3 hT hb3 hrow2 CI k1 lb2
                go_wp2_with fail
                refine HCI.out.mono ?_
                rintro e w4 ⟨rfl, t4⟩
                go_wp2_with fail
                go_meet
                exact ⟨S.letEnd sid, o2, r3, HT3.out.step t4, HLEN.out, HB3.out.touch t4 (by simp)⟩
              · have CL := let_none _ lp S o HH.out.p sid hid
                have HID := Lib.hid hid
                have HCL := Lib.hid CL
                clear CL hid
                go_wp2_with fail
                refine HCL.out.mono ?_
                rintro e w2 ⟨rfl, ta⟩
                have hh := HH.out.step ta
                have hb2 := HBX.out.touch ta (by simp)
                have k1 := hb2.cell 1
                simp at k1
                have lb2 := hb2.lt
                have CQ := qlet_none w2 w1.heap.size S r hh.q sid HID.out
                have HHH := Lib.hid hh
                have HB2 := Lib.hid hb2
                have HCQ := Lib.hid CQ
                clear ta hh hb2 CQ k0 k2
                go_wp2_with fail
                refine HCQ.out.mono ?_
                rintro e w3 ⟨rfl, tb⟩
                have CI := idsEq_any w3 none none 0 0 0 0 [] [] (Nums.ofRow (Row.nil w3 3 1 none)) (Nums.ofRow (Row.nil w3 3 1 none))
                rw [decide_eq_true rfl] at CI
                have HCI := Lib.hid CI
                have HT3 := Lib.hid (HHH.out.step tb)
                have HB3 := Lib.hid (HB2.out.touch tb (by simp))
                clear tb CI k1 lb2
                go_wp2_with fail
                refine HCI.out.mono ?_
                rintro e w4 ⟨rfl, t4⟩
                go_wp2_with fail
                go_meet
                exact ⟨S, o, r, HT3.out.step t4, by omega, HB3.out.touch t4 (by simp)⟩
            | false =>
              go_upto_region 18 with (fail)
              go_cut [11, 12] (fun v11 v12 wx => v11 = .bool (S.ask sid zs).1 ∧ v12 = .int .i64 (S.ask sid zs).2.1 ∧ Hid (∃ o2, LHalf w wx lp w1.heap.size S (S.ask sid zs).2.2 o2 r ∧ At wx wr.heap.size 29 [.bool false, .int .i64 sid, .slice sa sn sc]))
              case first =>
                obtain ⟨i0, hii, hz0, hz1, hz2⟩ := info_parts Tryd.infoU64
                generalize hwv : wr.alloc (.cells #[.bool false, .int .i64 sid, .slice sa sn sc] 29) = wv at HH HBX k0 k1 k2 ⊢
                have N1 := HN.out.touch HH.out.touch
                have HSRC := Lib.hid (N1.touch ((Touch.refl [] wv).drew)).src
                have HL := Lib.hid (show (u64s zs).length = sn * 1 by rw [u64s, List.length_map, N1.len, Nat.mul_one])
                have h63 : 0 + sn ≤ maxLen := by unfold maxLen; omega
                have HO := Lib.hid (show ∀ u ∈ u64s zs, u.oneCell' = true by intro u hu; obtain ⟨x, -, rfl⟩ := List.mem_map.1 hu; rfl)
                have HHD := Lib.hid (HH.out.step ((Touch.refl [] wv).drew))
                have HBD := Lib.hid (HBX.out.touch ((Touch.refl [] wv).drew) (by simp))
                have lbv := HBX.out.lt
                clear N1 hwv
                go_region_law ((first | (refine step_append_row _ (by rfl) _ _ _ (by rfl) 39 i0 _ 1 8 Tryd.u64sT hii hz0 hz1 hz2 rfl (by decide) none 0 0 [] [] (by rfl) (Row.nil _ _ _ _) sa sn sc (u64s zs) (by rfl) HL.out HSRC.out HO.out h63 (by omega) ?_; intro a' cap' own2 w3 hrow3 ht3 hown3 _ _; have hb3 := HBD.out.touch ht3 (by simp); have k13 := hb3.cell 1; have l3 := hb3.lt; simp at k13; rw [Nat.zero_add] at hrow3) | (refine step_call_fn (by rfl) 9 #[.pointer (some ⟨lp, 0, none⟩), .int .i64 sid, .slice a' sn cap'] (by kernel_rfl) (AskR w3 lp o (S.ask sid zs)) (ask_r (ask_any w3 lp S o (HHD.out.step ht3).p sid a' sn cap' zs (Nums.ofRow hrow3) (by omega))) ?_; rintro v w4 ⟨rfl, o2, La, ta, hoa⟩)))
                all_goals go_wp2_with fail
                all_goals
                  go_meet
                  exact ⟨rfl, rfl, o2, LTwo.half (HHD.out.step ht3) La ta hoa, hb3.touch ta hsbo⟩
              case rest =>
                obtain ⟨rfl, rfl, o2, hh, hb2⟩ := hcut
                have k1 := hb2.cell 1
                have k2 := hb2.cell 2
                simp at k1 k2
                have lb2 := hb2.lt
                have CQ := qask_any wc w1.heap.size S r hh.q HINV.out sid sa sn sc zs (HN.out.touch hh.touch) (by omega) (by have := HQL.out; omega)
                have HHH := Lib.hid hh
                have HB2 := Lib.hid hb2
                have HCQ := Lib.hid CQ
                clear hh hb2 CQ k0
                go_wp2_with fail
                refine HCQ.out.mono ?_
                rintro e w3 ⟨r3, rfl, Qb, tb, hrb⟩
                have HT3 := Lib.hid (LHalf.two HHH.out Qb tb hrb)
                have HB3 := Lib.hid (HB2.out.touch tb hsbr)
                have hal := ask_len S sid zs
                obtain ⟨bb, hbb⟩ : ∃ bb, (S.ask sid zs).1 = bb := ⟨_, rfl⟩
                obtain ⟨ee, hee⟩ : ∃ ee, (S.ask sid zs).2.1 = ee := ⟨_, rfl⟩
                rw [hbb, hee]
                clear Qb tb hrb k1 k2 lb2 hbb hee
                cases bb <;>
                · go_wp2_with fail
                  go_meet
                  exact ⟨(S.ask sid zs).2.2, o2, r3, HT3.out, by omega, HB3.out⟩
          case rest =>
            obtain ⟨S2, o2, r2, hT2, hl2, hA2⟩ := hcut
            have CA := alike_any w wc lp w1.heap.size S2 o2 r2 hT2 (by omega) lt sid sa sn sc zs (HN.out.touch hT2.touch)
            have j0 := hA2.cell 0
            have j1 := hA2.cell 1
            have j2 := hA2.cell 2
            simp at j0 j1 j2
            have HCA := Lib.hid CA
            have HT2 := Lib.hid hT2
            clear CA hT2 hA2 k0 k1 k2
            go_wp2_with fail
            refine HCA.out.mono ?_
            rintro e w5 ⟨rfl, t5⟩
            go_wp2_with fail
            go_roundw
            case rel => exact ⟨i + 1, by omega, by go_num, S2, o2, r2, HT2.out.step t5, hl2⟩
            case measure => simp [intOf]; omega
      · have hlti : ¬ (i : Int) < (n : Int) := by omega
        have HS := Lib.hid hS
        clear hS A
        go_wp2_with (go_at_call 6; refine (works_any _).mono ?_; rintro e w2 ⟨rfl, t2⟩)
        go_ret
        exact ⟨rfl, HS.out.touch.trans' t2⟩
theorem walk (a : Option Addr) (n cap : Nat) (l : Nat → Asking) (w : World) (A : AsksIn w a n cap l) : Calls Tryd.prog 4 #[.slice a n cap] w fun e w' => e = .returned (.bool true) ∧ Below w.heap.size w w' :=
  (walkN a n cap l w A).mono fun e w' ⟨he, t⟩ => ⟨he, t.toBelow (Nat.le_refl _) (by simp)⟩
end Go.Proofs.YtppgeljlmckimaaDoor.LocksPlay
