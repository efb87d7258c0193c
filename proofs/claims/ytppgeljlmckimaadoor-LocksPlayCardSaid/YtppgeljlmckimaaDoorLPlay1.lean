/-
  LocksPlay: ids, alike.
-/
import Derived.Test.YtppgeljlmckimaaDoorQLet2
import Derived.Test.YtppgeljlmckimaaDoorLRead
import Derived.Test.YtppgeljlmckimaaDoorLFreeLaw
import Derived.Deep.DeepCutAuto
namespace Go.Proofs.YtppgeljlmckimaaDoor
open Go.RowKit

theorem ids_eq_iff {l l' : List Int} (h : l.length = l'.length) : l = l' ↔ ∀ i, i < l.length → l.getD i 0 = l'.getD i 0 := by
  constructor
  · rintro rfl; simp
  · intro hi
    apply List.ext_getElem h
    intro i h1 h2
    have := hi i h1
    simpa [List.getD, h1, h2] using this


set_option maxRecDepth 100000 in
set_option maxHeartbeats 800000 in
theorem idsEq_any (w : World) (a a' : Option Addr) (n c n' c' : Nat) (l l' : List Int) (h : Nums w .i64 a n c l) (h' : Nums w .i64 a' n' c' l') :
    Calls Tryd.prog 13 #[.slice a n c, .slice a' n' c'] w fun e w' => e = .returned (.bool (decide (l = l'))) ∧ Touch [] w w' := by
  have hn := h.len
  have hn' := h'.len
  have hm := h.max
  have hc := h.cap_
  have hc' := h'.cap_
  have hm' := h'.max
  by_cases hnn : n = n'
  · subst hnn
    have HL := Lib.hid hn
    have HL' := Lib.hid hn'
    clear hn hn'
    go_enter Tryd.func13, Tryd.ntmps13
    go_wp2
    go_loopw [5] (fun i wr => ∃ k : Nat, k ≤ n ∧ i = .int .i64 k ∧ Touch [] w wr ∧ Hid (∀ j, j < k → l.getD j 0 = l'.getD j 0)) (fun i _ => n - (intOf i).toNat)
    case atStart => exact ⟨0, by omega, rfl, Touch.refl _ _, fun j hj => by omega⟩
    case round =>
      obtain ⟨k, hk, rfl, t, HB⟩ := hrel
      by_cases hlt : k < n
      · obtain ⟨b, off, rfl, -, hb⟩ := (h.touch t).at_ (by omega)
        obtain ⟨b', off', rfl, -, hb'⟩ := (h'.touch t).at_ (by omega)
        have q1 := hb k hlt
        have q2 := hb' k hlt
        have hki : (k : Int) < (n : Int) := by omega
        obtain ⟨x, hx⟩ : ∃ x, l.getD k 0 = x := ⟨_, rfl⟩
        obtain ⟨y, hy⟩ : ∃ y, l'.getD k 0 = y := ⟨_, rfl⟩
        rw [hx] at q1
        rw [hy] at q2
        have HX := Lib.hid hx
        have HY := Lib.hid hy
        have T := Lib.hid t
        clear hb hb' t hx hy
        cases he : x == y
        · have hne : (x != y) = true := by simp [bne, he]
          have hd : Hid (decide (l = l') = false) := by
            show decide (l = l') = false
            rw [decide_eq_false_iff_not]
            rintro rfl
            have := HX.out.symm.trans HY.out
            rw [this] at he
            simp at he
          go_wp2
          go_quiet (fail)
          go_wp2
          go_ret
          exact ⟨by rw [hd.out]; rfl, T.out.drewN _⟩
        · have hne : (x != y) = false := by simp [bne, he]
          have HE := Lib.hid he
          go_wp2
          go_quiet (fail)
          go_wp2
          go_roundw
          case rel =>
            refine ⟨k + 1, by omega, by go_num, T.out.drewN _, fun j hj => ?_⟩
            by_cases e : j = k
            · subst e; rw [HX.out, HY.out]; simpa using HE.out
            · exact HB j (by omega)
          case measure => simp [intOf]; omega
      · obtain rfl : k = n := by omega
        have hd : Hid (decide (l = l') = true) := by
          show decide (l = l') = true
          rw [decide_eq_true_iff]
          exact (ids_eq_iff (by rw [HL.out, HL'.out])).2 (fun i hi => HB i (by rw [← HL.out]; exact hi))
        go_wp2
        go_ret
        exact ⟨by rw [hd.out]; rfl, t⟩
  · have hne : ((n : Int) == (n' : Int)) = false := beq_eq_false_iff_ne.2 (by omega)
    have hd : Hid (decide (l = l') = false) := by
      show decide (l = l') = false
      rw [decide_eq_false_iff_not]; rintro rfl; omega
    clear hnn hn hn'
    go_enter Tryd.func13, Tryd.ntmps13
    go_wp2
    go_ret
    exact ⟨by rw [hd.out]; rfl, Touch.refl _ _⟩

/-- both, of one state. -/
structure LTwo (w0 w : World) (lp rp : Nat) (S : Lk) (o r : List Nat) : Prop where
  p : LRep w lp S o
  q : QRep w rp S r
  touch : Touch [] w0 w
  po : ∀ b ∈ o, w0.heap.size ≤ b
  qo : ∀ b ∈ r, w0.heap.size ≤ b
  apart : ∀ b ∈ o, b ∉ r
theorem LTwo.step {w0 w w' : World} {lp rp : Nat} {S : Lk} {o r : List Nat} (h : LTwo w0 w lp rp S o r) (t : Touch [] w w') : LTwo w0 w' lp rp S o r :=
  ⟨h.p.touch t (by simp), h.q.touch t (by simp), h.touch.trans' t, h.po, h.qo, h.apart⟩
theorem qholderR {w : World} {rp : Nat} {S : Lk} {own : List Nat} (hQ : QRep w rp S own) (hl : ∀ i, S.has i ≤ (S.paths i).length) (p : Int) :
    Calls Tryd.prog 30 #[.pointer (some ⟨rp, 0, none⟩), .int .u64 p] w fun e w' => e = .returned (holderV (S.held p)) ∧ w = w' := by
  obtain ⟨col, blk, h, -⟩ := hQ
  exact qholder_any w rp col S blk h hl p
theorem qwaitsR {w : World} {rp : Nat} {S : Lk} {own : List Nat} (hQ : QRep w rp S own) (hl : ∀ i, S.has i ≤ (S.paths i).length) (i : Int) :
    Calls Tryd.prog 29 #[.pointer (some ⟨rp, 0, none⟩), .int .i64 i] w fun e w' => e = .returned (waitsV (S.waitsV i)) ∧ Touch [] w w' := by
  obtain ⟨col, blk, h, -⟩ := hQ
  exact qwaits_any w rp col S blk h hl i
/-- what is seen of those that ask. -/
structure Seen (w : World) (rp : Nat) (S : Lk) (blk : Int → Nat) (la : Option Addr) (ln lc : Nat) : Prop where
  c0 : w.cell? ⟨rp, 0, none⟩ = some (.slice la ln lc)
  len : ln = S.order.length
  lc_ : ln ≤ lc
  max : lc ≤ maxLen
  at_ : 0 < ln → ∃ b off, la = some ⟨b, off, none⟩ ∧ ∀ k x, S.order[k]? = some x → w.cell? ⟨b, off + k, none⟩ = some (.pointer (some ⟨blk x, 0, none⟩))
  id : ∀ x ∈ S.order, w.cell? ⟨blk x, 0, none⟩ = some (.int .i64 x)
theorem QRep.seen {w : World} {rp : Nat} {S : Lk} {own : List Nat} (hQ : QRep w rp S own) : ∃ blk la ln lc, Seen w rp S blk la ln lc := by
  obtain ⟨col, blk, ⟨la, ln, lc, lo, qa, qn, qc, qo, h⟩, -⟩ := hQ
  have c0 := h.at_.cell 0
  simp at c0
  refine ⟨blk, la, ln, lc, c0, h.lnEq, h.row.2.1, h.row.2.2.1, fun hn => ?_, fun x hx => ?_⟩
  · obtain ⟨b, off, _, rfl, -⟩ := h.row.form (by have := h.row.2.1; omega)
    exact ⟨b, off, rfl, fun k x hx => h.ptr hx⟩
  · obtain ⟨a', n', c', o', hob⟩ := h.obj x hx
    have d0 := hob.at_.cell 0
    simpa using d0
theorem Seen.touch {w w' : World} {rp : Nat} {S : Lk} {blk : Int → Nat} {la : Option Addr} {ln lc : Nat} (h : Seen w rp S blk la ln lc) (t : Touch [] w w') : Seen w' rp S blk la ln lc := by
  have keep : ∀ (B O : Nat) (v : Value), w.cell? ⟨B, O, none⟩ = some v → w'.cell? ⟨B, O, none⟩ = some v := fun B O v hc => (t.cell (p := ⟨B, O, none⟩) (World.block_lt_of_cell? _ _ hc) (by simp)).trans hc
  refine ⟨keep _ _ _ h.c0, h.len, h.lc_, h.max, fun hn => ?_, fun x hx => keep _ _ _ (h.id x hx)⟩
  obtain ⟨b, off, h1, h2⟩ := h.at_ hn
  exact ⟨b, off, h1, fun k x hx => keep _ _ _ (h2 k x hx)⟩

set_option maxRecDepth 100000 in
set_option maxHeartbeats 3200000 in
theorem alike_any (w0 w : World) (lp rp : Nat) (S : Lk) (o r : List Nat) (h : LTwo w0 w lp rp S o r) (hlen : S.order.length ≤ 800) (lt : Bool) (id : Int) (a : Option Addr) (n cap : Nat) (zs : List Int) (N : Nums w .u64 a n cap zs) :
    Calls Tryd.prog 15 #[.pointer (some ⟨lp, 0, none⟩), .pointer (some ⟨rp, 0, none⟩), .agg #[.bool lt, .int .i64 id, .slice a n cap]] w fun e w' => e = .returned (.bool true) ∧ Touch [] w w' := by
  obtain ⟨blk, la, ln, lc, hs⟩ := h.q.seen
  have hln := hs.len
  have hln8 : ln ≤ 800 := by omega
  have hlc := hs.lc_
  have hlm := hs.max
  unfold maxLen at hlm
  have hcap := N.cap_
  have hmax := N.max
  have HL := Lib.hid hln
  have HS := Lib.hid hs
  have HT := Lib.hid h
  have HN := Lib.hid N
  have HI := Lib.hid h.p.inv
  have t0 := (Touch.refl [] w).alloc (.cells #[.bool lt, .int .i64 id, .slice a n cap] 29)
  have hbx := At.new w 29 [.bool lt, .int .i64 id, .slice a n cap]
  obtain ⟨i0, hii, hz0, hz1, hz2⟩ := info_parts Tryd.infoInt
  have HT0 := Lib.hid t0
  have HBX := Lib.hid hbx
  clear hln hs h N t0 hbx
  go_enter Tryd.func15, Tryd.ntmps15
  go_wp2_with fail
  obtain ⟨w1, hw1⟩ : ∃ w1, w.alloc (.cells #[.bool lt, .int .i64 id, .slice a n cap] 29) = w1 := ⟨_, rfl⟩
  obtain ⟨bx, hb⟩ : ∃ bx, w.heap.size = bx := ⟨_, rfl⟩
  have HT1 : Hid (Touch [] w w1) := by have := HT0.out; rw [hw1] at this; exact this
  have HB1 : Hid (At w1 bx 29 [.bool lt, .int .i64 id, .slice a n cap]) := by have := HBX.out; rw [← hw1, ← hb]; exact this
  rw [hw1, hb]
  clear HT0 HBX hw1 hb
  go_loopw [8, 7] (fun i s wx => ∃ (k : Nat) (sa : Option Addr) (sn sc : Nat), k ≤ ln ∧ i = .int .i64 k ∧ s = .slice sa sn sc ∧ sn ≤ k ∧ Touch [] w1 wx ∧ Hid (∃ so, Row wx 3 1 sa sn sc so (ints (S.order.take k)) ∧ ∀ b ∈ so, w1.heap.size ≤ b)) (fun i _ _ => ln - (intOf i).toNat)
  case atStart => exact ⟨0, none, 0, 0, by omega, rfl, rfl, by omega, Touch.refl _ _, [], Row.nil _ _ _ _, by simp⟩
  case round =>
    obtain ⟨k, sa, sn, sc, hk, rfl, rfl, hsk, tz, so, hsr, hso⟩ := hrel
    have hs1 := HS.out.touch HT1.out
    have c0 := (hs1.touch tz).c0
    by_cases hlt : k < ln
    · have hki : (k : Int) < (ln : Int) := by omega
      obtain ⟨x, hx⟩ : ∃ x, S.order[k]? = some x := ⟨_, List.getElem?_eq_getElem (by rw [← HL.out]; exact hlt)⟩
      have hxo := List.mem_of_getElem? hx
      obtain ⟨b, off, rfl, hptr⟩ := hs1.at_ (by omega)
      have hc1 := And.intro hs1.c0 (And.intro (hptr k x hx) (hs1.id x hxo))
      obtain ⟨e1, e2⟩ := Lk.waits_has HI.out hxo
      have htk : S.order.take (k + 1) = S.order.take k ++ [x] := by rw [List.take_add_one, hx]; rfl
      have HTK := Lib.hid htk
      have HTZ := Lib.hid tz
      have HSR := Lib.hid hsr
      have HSO := Lib.hid hso
      have CW := fun (W : World) (t : Touch [] w1 W) => waits_any W lp S o (HT.out.step (HT1.out.trans' t)).p x
      have CQ := fun (W : World) (t : Touch [] w1 W) => qwaitsR (HT.out.step (HT1.out.trans' t)).q HI.out.hl x
      have CB := fun (W : World) (t : Touch [] w1 W) => has_any W lp S o (HT.out.step (HT1.out.trans' t)).p x
      simp only [e1] at CW CQ
      simp only [e2] at CB
      have HCW := Lib.hid CW
      have HCQ := Lib.hid CQ
      have HCB := Lib.hid CB
      have keepc : ∀ (W W' : World), Touch [] W W' → (W.cell? ⟨rp, 0, none⟩ = some (.slice (some ⟨b, off, none⟩) ln lc) ∧ W.cell? ⟨b, off + k, none⟩ = some (.pointer (some ⟨blk x, 0, none⟩)) ∧ W.cell? ⟨blk x, 0, none⟩ = some (.int .i64 x)) → (W'.cell? ⟨rp, 0, none⟩ = some (.slice (some ⟨b, off, none⟩) ln lc) ∧ W'.cell? ⟨b, off + k, none⟩ = some (.pointer (some ⟨blk x, 0, none⟩)) ∧ W'.cell? ⟨blk x, 0, none⟩ = some (.int .i64 x)) := fun W W' t ⟨x1, x2, x3⟩ =>
        ⟨(t.cell (p := ⟨rp, 0, none⟩) (World.block_lt_of_cell? _ _ x1) (by simp)).trans x1, (t.cell (p := ⟨b, off + k, none⟩) (World.block_lt_of_cell? _ _ x2) (by simp)).trans x2, (t.cell (p := ⟨blk x, 0, none⟩) (World.block_lt_of_cell? _ _ x3) (by simp)).trans x3⟩
      obtain ⟨c0, cx, d0⟩ := keepc w1 wr tz hc1
      have HK := Lib.hid keepc
      have HC1 := Lib.hid hc1
      clear htk tz hsr hso CW CQ CB e1 e2 hx hxo hptr hs1 keepc hc1
      go_wp2_with (at_builtin; refine wpList_append_row _ rfl (.tmp 27) (.tmp 38) 30 rfl 3 i0 _ 1 8 Tryd.intsT hii hz0 hz1 hz2 rfl (by decide) sa sn sc so _ rfl (HSR.out.alloc _) (some ⟨wr.heap.size, 0, none⟩) 1 1 [.int .i64 x] rfl rfl (.inr ⟨_, rfl, World.news_of_block (cs := #[.int .i64 x]) (t := 3) (fr := (0, 0)) (heap_alloc_new wr _)⟩) (by simp [Value.oneCell']) (by unfold maxLen; omega) (by omega) ?_; intro a9 cap9 own9 w9 hrow9 ht9 hown9 _ _; have t9 : Touch [] w1 w9 := (HTZ.out.alloc _).trans ht9 (fun b hb => .inr (HSO.out b hb)); obtain ⟨c0, cx, d0⟩ := HK.out w1 w9 t9 HC1.out)
      refine (HCW.out w9 t9).mono ?_
      rintro e w10 ⟨rfl, t10⟩
      have T10 := t9.trans' t10
      clear c0 cx d0
      obtain ⟨c0, cx, d0⟩ := HK.out w1 w10 T10 HC1.out
      have hro9 : ∀ b ∈ own9, w1.heap.size ≤ b := fun b hb => by
        rcases hown9 with h | h
        · rw [h] at hb; exact HSO.out b hb
        · rw [h] at hb; simp at hb; subst hb; have := HTZ.out.size; omega
      have HR9 := Lib.hid hrow9
      have HO9 := Lib.hid hro9
      have HT10 := Lib.hid T10
      have HT9 := Lib.hid t10
      clear t9 t10 T10 hrow9 ht9 hown9 hro9
      cases hnx : S.next x with
      | none =>
        have hq := HCQ.out
        have hcb := HCB.out
        simp only [hnx] at hq
        simp only [hnx, Option.isNone_none] at hcb
        unfold waitsV at hq ⊢
        have HQQ := Lib.hid hq
        have HBB := Lib.hid hcb
        clear hq hcb hnx
        go_wp2_with fail
        refine (HQQ.out w10 HT10.out).mono ?_
        rintro e w11 ⟨rfl, t11⟩
        have HT11 := Lib.hid (HT10.out.trans' t11)
        have HU11 := Lib.hid (HT9.out.trans' t11)
        clear t11 c0 cx d0
        obtain ⟨c0, cx, d0⟩ := HK.out w1 w11 HT11.out HC1.out
        go_wp2_with fail
        refine (HBB.out w11 HT11.out).mono ?_
        rintro e w12 ⟨rfl, t12⟩
        have HT12 := Lib.hid (HT11.out.trans' t12)
        have HU12 := Lib.hid (HU11.out.trans' t12)
        clear t12 c0 cx d0
        go_wp2_with fail
        go_roundw
        case rel =>
          refine ⟨k + 1, a9, sn + 1, cap9, by omega, by go_num, rfl, by omega, HT12.out, own9, ?_, HO9.out⟩
          rw [HTK.out]
          have := HR9.out.touch HU12.out (by simp)
          simpa [ints] using this
        case measure => simp [intOf]; omega
      | some p =>
        have hq := HCQ.out
        have hcb := HCB.out
        simp only [hnx] at hq
        simp only [hnx, Option.isNone_some] at hcb
        unfold waitsV at hq ⊢
        have HQQ := Lib.hid hq
        have HBB := Lib.hid hcb
        clear hq hcb hnx
        go_wp2_with fail
        refine (HQQ.out w10 HT10.out).mono ?_
        rintro e w11 ⟨rfl, t11⟩
        have HT11 := Lib.hid (HT10.out.trans' t11)
        have HU11 := Lib.hid (HT9.out.trans' t11)
        clear t11 c0 cx d0
        obtain ⟨c0, cx, d0⟩ := HK.out w1 w11 HT11.out HC1.out
        go_wp2_with fail
        refine (HBB.out w11 HT11.out).mono ?_
        rintro e w12 ⟨rfl, t12⟩
        have HT12 := Lib.hid (HT11.out.trans' t12)
        have HU12 := Lib.hid (HU11.out.trans' t12)
        clear t12 c0 cx d0
        go_wp2_with fail
        go_roundw
        case rel =>
          refine ⟨k + 1, a9, sn + 1, cap9, by omega, by go_num, rfl, by omega, HT12.out, own9, ?_, HO9.out⟩
          rw [HTK.out]
          have := HR9.out.touch HU12.out (by simp)
          simpa [ints] using this
        case measure => simp [intOf]; omega
    · have hki : ¬ (k : Int) < (ln : Int) := by omega
      rw [List.take_of_length_le (by rw [← HL.out]; omega)] at hsr
      have hsn : sn = S.order.length := by have := hsr.1; simpa [ints] using this.symm
      have hbz := HB1.out.touch tz (by simp)
      have b2 := hbz.cell 2
      simp at b2
      have HTZ := Lib.hid tz
      have HSR := Lib.hid hsr
      have HSO := Lib.hid hso
      have HBZ := Lib.hid hbz
      have HSN := Lib.hid hsn
      have lbz := hbz.lt
      clear tz hsr hso hs1 hbz hsn
      go_wp2_with fail
      go_loopw [13] (fun i wx => ∃ m : Nat, m ≤ n ∧ i = .int .i64 m ∧ Touch [] wr wx) (fun i _ => n - (intOf i).toNat)
      case atStart => exact ⟨0, by omega, rfl, Touch.refl _ _⟩
      case round =>
        obtain ⟨m, hm, rfl, tm⟩ := hrel
        have b2 := (HBZ.out.touch tm (by simp)).cell 2
        simp at b2
        have lbm := (HBZ.out.touch tm (by simp)).lt
        by_cases hlt2 : m < n
        · have hmi : (m : Int) < (n : Int) := by omega
          have T1m := HTZ.out.trans' tm
          obtain ⟨pb, po, rfl, -, hpc⟩ := (HN.out.touch (HT1.out.trans' T1m)).at_ (by omega)
          have pc := hpc m hlt2
          obtain ⟨p, hpp⟩ : ∃ p, zs.getD m 0 = p := ⟨_, rfl⟩
          rw [hpp] at pc
          have CO := holder_any wr lp S o (HT.out.step (HT1.out.trans' T1m)).p p
          have CQ := fun (W : World) (t : Touch [] wr W) => qholderR (HT.out.step ((HT1.out.trans' T1m).trans' t)).q HI.out.hl p
          have HCO := Lib.hid CO
          have HCQ := Lib.hid CQ
          have HTM := Lib.hid tm
          have HB2 := Lib.hid b2
          have HPC := Lib.hid pc
          clear CO CQ tm hpc T1m hpp
          go_wp2_with fail
          refine HCO.out.mono ?_
          rintro e w20 ⟨rfl, t20⟩
          have b20 := (t20.cell (p := ⟨bx, 2, none⟩) (World.block_lt_of_cell? _ _ HB2.out) (by simp)).trans HB2.out
          have p20 := (t20.cell (p := ⟨pb, po + m, none⟩) (World.block_lt_of_cell? _ _ HPC.out) (by simp)).trans HPC.out
          have lb20 := World.block_lt_of_cell? _ _ b20
          have HT20 := Lib.hid t20
          clear t20 b2 pc
          cases hhd : S.held p with
          | none =>
            have hq := HCQ.out
            simp only [hhd] at hq
            unfold holderV at hq ⊢
            have HQQ := Lib.hid hq
            clear hq hhd
            go_wp2_with fail
            refine (HQQ.out w20 HT20.out).mono ?_
            rintro e w21 ⟨rfl, rfl⟩
            clear b20 p20
            go_wp2_with fail
            go_roundw
            case rel => exact ⟨m + 1, by omega, by go_num, HTM.out.trans' HT20.out⟩
            case measure => simp [intOf]; omega
          | some y =>
            have hq := HCQ.out
            simp only [hhd] at hq
            unfold holderV at hq ⊢
            have HQQ := Lib.hid hq
            clear hq hhd
            go_wp2_with fail
            refine (HQQ.out w20 HT20.out).mono ?_
            rintro e w21 ⟨rfl, rfl⟩
            clear b20 p20
            go_wp2_with fail
            go_roundw
            case rel => exact ⟨m + 1, by omega, by go_num, HTM.out.trans' HT20.out⟩
            case measure => simp [intOf]; omega
        · have hmi : ¬ (m : Int) < (n : Int) := by omega
          have T1m := HTZ.out.trans' tm
          have CA := all_any wr lp S o (HT.out.step (HT1.out.trans' T1m)).p (by omega)
          have HCA := Lib.hid CA
          have HTM := Lib.hid tm
          have HT1M := Lib.hid T1m
          clear CA tm T1m
          go_wp2_with fail
          refine HCA.out.mono ?_
          rintro e w30 ⟨a3, c3, o3, rfl, hr3, t3, ho3⟩
          have hn3 := Nums.ofRow hr3
          have hn4 := (Nums.ofRow HSR.out).touch (HTM.out.trans' t3)
          have CI := idsEq_any w30 a3 sa S.order.length c3 sn sc S.order S.order hn3 hn4
          rw [decide_eq_true rfl] at CI
          have HCI := Lib.hid CI
          have HT3 := Lib.hid ((HT1.out.trans' HT1M.out).trans' t3)
          clear hr3 ho3 hn3 hn4 CI t3 b2
          go_wp2_with fail
          refine HCI.out.mono ?_
          rintro e w31 ⟨rfl, t31⟩
          go_wp2_with fail
          go_ret
          exact ⟨rfl, HT3.out.trans' t31⟩
end Go.Proofs.YtppgeljlmckimaaDoor
