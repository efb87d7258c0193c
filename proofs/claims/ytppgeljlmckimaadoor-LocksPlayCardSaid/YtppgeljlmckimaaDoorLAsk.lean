/-
  (*Locks).Ask.
-/
import Derived.Test.YtppgeljlmckimaaDoorLGoes
namespace Go.Proofs.YtppgeljlmckimaaDoor
open Go.RowKit

theorem adj_pairwise : ∀ {l : List Int}, (∀ j, j + 1 < l.length → l.getD j 0 < l.getD (j + 1) 0) → l.Pairwise (· < ·)
  | [], _ => List.Pairwise.nil
  | [x], _ => by simp
  | x :: y :: l, h => by
    have ih := adj_pairwise (l := y :: l) (fun j hj => by have := h (j + 1) (by simp at hj ⊢; omega); simpa using this)
    have h0 : x < y := by have := h 0 (by simp); simpa using this
    rw [List.pairwise_cons]
    refine ⟨fun z hz => ?_, ih⟩
    rcases List.mem_cons.1 hz with rfl | hz'
    · exact h0
    · have := (List.pairwise_cons.1 ih).1 z hz'
      omega
theorem pairwise_adj {l : List Int} (h : l.Pairwise (· < ·)) {j : Nat} (hj : j + 1 < l.length) : l.getD j 0 < l.getD (j + 1) 0 := by
  have := List.pairwise_iff_getElem.1 h j (j + 1) (by omega) hj (by omega)
  simpa [List.getD, List.getElem?_eq_getElem hj, List.getElem?_eq_getElem (show j < l.length by omega)] using this

def AskPost (own : List Nat) (w : World) (lp : Nat) (r : Bool × Int × Lk) (e : Ending) (w' : World) : Prop :=
  After own w (.tuple #[.bool r.1, .int .i64 r.2.1]) (fun w' o => LRep w' lp r.2.2 o) e w'

/-- What stands ahead of the last call: one more asks. -/
structure Joined (w : World) (lp : Nat) (col : Nat → Option LTag) (S : Lk) (w6 : World) (col6 : Nat → Option LTag) (blk : Int → Nat) (bi bh bw : Nat) : Prop where
  p : ∃ ao no co oo ki kh kw, LParts w6 lp col6 S.order S.order S.order S.held S.waitsFor S.paths S.has blk ao no co oo bi bh bw ki kh kw
  later : Later isRow w col w6 col6

section
variable {w wr w2 w4 w5 : World} {lp : Nat} {col : Nat → Option LTag} {S : Lk} {blk : Int → Nat} {ao : Option Addr} {no co : Nat} {oo : List Nat} {bi bh bw : Nat} {ki kh kw : List (Int × Value)}
/-- The steps of joining, in memory: the paths are copied, the one that asks is made, and laid into the map, and its number behind the others. -/
theorem joined_of (hinv : Lk.Inv [] S) (h : LParts w lp col S.order S.order S.order S.held S.waitsFor S.paths S.has blk ao no co oo bi bh bw ki kh kw) (tr : Touch [] w wr) {id : Int} (hid : id ∉ S.order) {ps : List Int} {a : Option Addr} {n c : Nat} {o : List Nat}
    (hr2 : Row w2 39 1 a n c o (u64s ps)) (t2 : Touch [] wr w2) (ho2 : ∀ b ∈ o, wr.heap.size ≤ b)
    (hm4 : IMap w4 KI.f bi (putKey ki id (.pointer (some ⟨w2.heap.size, 0, none⟩)))) (t4 : Touch [bi] (w2.alloc (.cells #[.int .i64 id, .slice a n c, .int .i64 0] 75)) w4)
    {a' : Option Addr} {n' c' : Nat} {o' : List Nat} (t5 : Touch oo w4 w5) (hr5 : Row w5 3 1 a' n' c' o' (ints (S.order ++ [id]))) (ho5 : ∀ b ∈ o', b ∈ oo ∨ w4.heap.size ≤ b) :
    ∃ col6, Joined w lp col (S.join id ps) (w5.setCell ⟨lp, 0, none⟩ (.slice a' n' c')) col6 (Lk.up blk id w2.heap.size) bi bh bw := by
  have hr := h.step tr
  obtain ⟨nb, hnb⟩ : ∃ nb, w2.heap.size = nb := ⟨_, rfl⟩
  rw [hnb] at hm4 ⊢
  have s2 := t2.size
  have hat := At.new w2 75 [.int .i64 id, .slice a n c, .int .i64 0]
  have hr3 := hr2.alloc (.cells #[.int .i64 id, .slice a n c, .int .i64 0] 75)
  have t3 : Touch [] wr (w2.alloc (.cells #[.int .i64 id, .slice a n c, .int .i64 0] 75)) := t2.alloc _
  rw [hnb] at hat
  generalize hw3 : w2.alloc (.cells #[.int .i64 id, .slice a n c, .int .i64 0] 75) = w3 at t3 t4 hr3
  have hat : At w3 nb 75 [.int .i64 id, .slice a n c, .int .i64 0] := by rw [← hw3]; exact hat
  clear hw3
  obtain ⟨col3, hcol3⟩ : ∃ col3 : Nat → Option LTag, col3 = fun b => if b < wr.heap.size then col b else if b = nb then some (.ask id) else some (.row id) := ⟨_, rfl⟩
  have hk3 : ∀ b, b < wr.heap.size → col3 b = col b := fun b hb => by rw [hcol3]; exact if_pos hb
  have h3 := hr.still t3 (by simp) hk3
  have l2 := hr2.lt
  have hob : Obj w3 col3 nb id ps 0 := by
    refine ⟨a, n, c, o, hat, hr3, ?_, fun x hx => ?_⟩
    · rw [hcol3]; show (if nb < wr.heap.size then col nb else if nb = nb then some (LTag.ask id) else some (LTag.row id)) = _; rw [if_neg (by omega), if_pos rfl]
    · have := l2 x hx
      have := ho2 x hx
      rw [hcol3]; simp only; rw [if_neg (by omega), if_neg (by omega)]
  have hne : ∀ i ∈ S.order, i ≠ id := fun i hi e => hid (e ▸ hi)
  have h3' := h3.congr (H' := (S.join id ps).held) (W' := (S.join id ps).waitsFor) (P' := (S.join id ps).paths) (N' := (S.join id ps).has) (Lk.held_join hid ps) (Lk.waits_join hinv hid ps) (fun i hi => ⟨Lk.up_other _ _ (hne i hi), Lk.up_other _ _ (hne i hi)⟩)
  have h4 := h3'.setIds (order' := (S.join id ps).order) (objs' := (S.join id ps).order) (blk' := Lk.up blk id nb) hm4 t4 (nodup_put h.idsn _ _) (fun i => by
    rw [atKey_put h.idsn, h.idsAt]
    by_cases e : i = id
    · subst e; simp [Lk.join, Lk.up_same]
    · simp [Lk.join, e, Lk.up_other]) (fun i hi => by
    rcases List.mem_append.1 hi with h' | h'
    · rw [Lk.up_other _ _ (hne i h')]; exact h3'.obj i h'
    · simp at h'; subst h'
      rw [Lk.up_same, show (S.join i ps).paths i = ps from Lk.up_same _ _ _, show (S.join i ps).has i = 0 from Lk.up_same _ _ _]
      exact hob)
  have h5 := h4.setOrder (ol' := (S.join id ps).order) t5 hr5 ho5
  refine ⟨_, ⟨⟨_, _, _, _, _, _, _, h5⟩, ?_⟩⟩
  refine (((Later.refl w col).step tr).trans (Later.of t3 (by simp) hk3)).trans ((Later.of (col1 := col3) t4 (fun x hx _ => ?_) (fun _ _ => rfl)).trans (Later.of (t5.mono (l' := lp :: oo) (fun x hx => .inl (by simp [hx])) |>.setCell _ (by simp) _) (fun x hx _ => ?_) (fun b hb => paint_old _ _ _ hb)))
  · simp at hx; subst hx; exact ⟨_, h3.c_bi, by simp [isRow]⟩
  · rcases List.mem_cons.1 hx with rfl | hx
    · exact ⟨_, h4.c_lp, by simp [isRow]⟩
    · exact ⟨_, h4.c_oo x hx, by simp [isRow]⟩
end

theorem LRep.after {w w' : World} {lp : Nat} {col col' : Nat → Option LTag} {S : Lk} {blk : Int → Nat} {ao : Option Addr} {no co : Nat} {oo : List Nat} {bi bh bw : Nat} {ki kh kw : List (Int × Value)} (hi : Lk.Inv [] S) (hp : ∀ i ∈ S.order, (S.paths i).length ≤ 128)
    (h : LParts w' lp col' S.order S.order S.order S.held S.waitsFor S.paths S.has blk ao no co oo bi bh bw ki kh kw) (hl : Later isRow w col w' col') {v : Value} : After (owned col w) w v (fun w' o => LRep w' lp S o) (.returned v) w' :=
  ⟨_, rfl, ⟨hi, hp, col', blk, ao, no, co, oo, bi, bh, bw, ki, kh, kw, h, rfl⟩, hl.touch, hl.owned_of⟩

set_option maxRecDepth 100000 in
set_option maxHeartbeats 1600000 in
theorem ask_there (w : World) (lp : Nat) (S : Lk) (own : List Nat) (hR : LRep w lp S own) (id : Int) (a : Option Addr) (n cap : Nat) (hid : id ∈ S.order) :
    Calls Tryd.prog 9 #[.pointer (some ⟨lp, 0, none⟩), .int .i64 id, .slice a n cap] w fun e w' => e = .returned (.tuple #[.bool false, .int .i64 184]) ∧ w = w' := by
  obtain ⟨hi, hp, col, blk, ao, no, co, oo, bi, bh, bw, ki, kh, kw, h, rfl⟩ := hR
  have c1 := h.at_.cell 1
  simp at c1
  have hids := h.ids
  have hat := h.idsAt id
  rw [if_pos hid] at hat
  clear h hp hi hid
  go_enter Tryd.func9, Tryd.ntmps9
  go_wp2_with (at_lookup; refine wpList_lookup_imap KI rfl _ _ true rfl Tryd.mapI (zeroAsk _) rfl hids id rfl ?_; simp only [hat, Option.getD_some, Option.isSome_some, if_true])
  go_ret2
  exact ⟨rfl, rfl⟩
theorem ask_long (w : World) (lp : Nat) (S : Lk) (own : List Nat) (hR : LRep w lp S own) (id : Int) (a : Option Addr) (n cap : Nat) (hid : id ∉ S.order) (hn : 128 < n) :
    Calls Tryd.prog 9 #[.pointer (some ⟨lp, 0, none⟩), .int .i64 id, .slice a n cap] w fun e w' => e = .returned (.tuple #[.bool false, .int .i64 2]) ∧ w = w' := by
  obtain ⟨hi, hp, col, blk, ao, no, co, oo, bi, bh, bw, ki, kh, kw, h, rfl⟩ := hR
  have c1 := h.at_.cell 1
  simp at c1
  have hids := h.ids
  have hat := h.idsAt id
  rw [if_neg hid] at hat
  clear h hp hi hid
  go_enter Tryd.func9, Tryd.ntmps9
  go_wp2_with (at_lookup; refine wpList_lookup_imap KI rfl _ _ true rfl Tryd.mapI (zeroAsk _) rfl hids id rfl ?_; simp only [hat, Option.getD_none, Option.isSome_none, if_true])
  go_ret2
  exact ⟨rfl, rfl⟩

set_option maxRecDepth 100000 in
set_option maxHeartbeats 3200000 in
theorem ask_any (w : World) (lp : Nat) (S : Lk) (own : List Nat) (hR : LRep w lp S own) (id : Int) (a : Option Addr) (n cap : Nat) (zs : List Int) (hN : Nums w .u64 a n cap zs) (hlen : S.order.length ≤ 1000) :
    Calls Tryd.prog 9 #[.pointer (some ⟨lp, 0, none⟩), .int .i64 id, .slice a n cap] w (AskPost own w lp (S.ask id zs)) := by
  have same : ∀ (b : Bool) (r : Int) e w', e = Ending.returned (.tuple #[.bool b, .int .i64 r]) ∧ Touch [] w w' → AskPost own w lp (b, r, S) e w' := fun b r e w' ⟨he, ht⟩ => ⟨own, he, hR.touch ht (by simp), ht.mono (by simp), fun b hb => .inl hb⟩
  unfold Lk.ask
  by_cases hid : id ∈ S.order
  · rw [if_pos hid]
    exact (ask_there w lp S own hR id a n cap hid).mono fun e w' ⟨he, hw⟩ => same _ _ e w' ⟨he, hw ▸ Touch.refl _ _⟩
  rw [if_neg hid]
  have hzl := hN.len
  by_cases hn : 128 < n
  · rw [if_pos (.inl (by omega))]
    exact (ask_long w lp S own hR id a n cap hid hn).mono fun e w' ⟨he, hw⟩ => same _ _ e w' ⟨he, hw ▸ Touch.refl _ _⟩
  obtain ⟨r, hr⟩ : ∃ r, (if 128 < zs.length ∨ Lk.sorted zs = false then (false, (2 : Int), S) else (((S.join id zs).goesAll id).2, 0, ((S.join id zs).goesAll id).1)) = r := ⟨_, rfl⟩
  rw [hr]
  have HR := Lib.hid hr
  obtain ⟨hi, hp, col, blk, ao, no, co, oo, bi, bh, bw, ki, kh, kw, h, hown⟩ := (fun h => h : LRep w lp S own → LRep w lp S own) hR
  have c1 := h.at_.cell 1
  simp at c1
  have hids := h.ids
  have hat := h.idsAt id
  rw [if_neg hid] at hat
  have hcap := hN.cap_
  have hmax := hN.max
  have hn' : n ≤ 128 := by omega
  have HN := Lib.hid hN
  have HL := Lib.hid hzl
  have HID := Lib.hid hid
  have HI := Lib.hid hi
  have HP := Lib.hid hp
  have HH := Lib.hid h
  have HO := Lib.hid hown
  have HS := Lib.hid same
  clear hid hi hp h hown hR hN hzl hr hn same
  go_enter Tryd.func9, Tryd.ntmps9
  go_wp2_with (at_lookup; refine wpList_lookup_imap KI rfl _ _ true rfl Tryd.mapI (zeroAsk _) rfl hids id rfl ?_; simp only [hat, Option.getD_none, Option.isSome_none, if_true])
  clear hat hids c1
  go_loopw [29] (fun i wr => ∃ k : Nat, k ≤ n ∧ i = .int .i64 k ∧ Touch [] w wr ∧ Hid (∀ j, j + 1 < k → zs.getD j 0 < zs.getD (j + 1) 0)) (fun i _ => n - (intOf i).toNat)
  case atStart => exact ⟨0, by omega, rfl, Touch.refl _ _, fun j hj => by omega⟩
  case round =>
    obtain ⟨k, hk, rfl, t, HB⟩ := hrel
    by_cases hlt : k < n
    · have hki : (k : Int) < (n : Int) := by omega
      have T := Lib.hid t
      rcases Nat.eq_zero_or_pos k with h0 | h0
      · subst h0
        clear t
        go_wp2
        go_quiet (fail)
        go_wp2
        go_roundw
        case rel => exact ⟨1, by omega, by go_num, T.out.drewN _, fun j hj => by omega⟩
        case measure => simp [intOf]; omega
      · obtain ⟨b, off, rfl, -, hb⟩ := (HN.out.touch t).at_ (by omega)
        have q1 := hb (k - 1) (by omega)
        have q2 := hb k hlt
        obtain ⟨x, hx⟩ : ∃ x, zs.getD (k - 1) 0 = x := ⟨_, rfl⟩
        obtain ⟨y, hy⟩ : ∃ y, zs.getD k 0 = y := ⟨_, rfl⟩
        rw [hx] at q1
        rw [hy] at q2
        have hk0 : (0 : Int) < (k : Int) := by omega
        have hg : decide ((0 : Int) < (k : Int)) = true := decide_eq_true hk0
        have hsub : IntKind.i64.wrap ((k : Int) - 1) = (k : Int) - 1 := IntWalk.i64_in _ (by omega)
        have hsub2 : ((k : Int) - 1).toNat = k - 1 := by omega
        have hsub3 : (0 : Int) ≤ (k : Int) - 1 := by omega
        have hsub4 : (k : Int) - 1 < (n : Int) := by omega
        have HX := Lib.hid hx
        have HY := Lib.hid hy
        clear hb hx hy t
        by_cases hxy : x < y
        · have hc : decide (y ≤ x) = false := decide_eq_false (by omega)
          go_wp2
          go_quiet (fail)
          go_wp2
          go_roundw
          case rel =>
            refine ⟨k + 1, by omega, by go_num, T.out.drewN _, fun j hj => ?_⟩
            by_cases e : j + 1 = k
            · rw [show j = k - 1 by omega, show k - 1 + 1 = k by omega, HX.out, HY.out]; exact hxy
            · exact HB j (by omega)
          case measure => simp [intOf]; omega
        · have hc : decide (y ≤ x) = true := decide_eq_true (by omega)
          have hns : Hid (Lk.sorted zs = false) := by
            show Lk.sorted zs = false
            unfold Lk.sorted
            rw [decide_eq_false_iff_not]
            intro hp
            have := pairwise_adj hp (j := k - 1) (by rw [HL.out]; omega)
            rw [show k - 1 + 1 = k by omega, HX.out, HY.out] at this
            exact hxy this
          go_wp2
          go_quiet (fail)
          go_wp2
          go_ret2
          rw [← HR.out, if_pos (.inr hns.out)]
          exact HS.out _ _ _ _ ⟨rfl, T.out.drewN _⟩
    · obtain rfl : k = n := by omega
      have hs : Lk.sorted zs = true := by
        unfold Lk.sorted
        rw [decide_eq_true_iff]
        exact adj_pairwise (fun j hj => HB j (by rw [← HL.out]; exact hj))
      have e : r = (((S.join id zs).goesAll id).2, 0, ((S.join id zs).goesAll id).1) := by
        rw [← HR.out, if_neg (by rw [HL.out, hs]; simp; omega)]
      have E := Lib.hid e
      have HSS := Lib.hid hs
      have T := Lib.hid t
      clear hlt hk hs e t
      go_wp2_with fail
      refine (cloneU_any wr zs a k cap (HN.out.touch T.out) (by omega)).mono ?_
      rintro e w2 ⟨a', c', o', rfl, hr2, t2, ho2⟩
      have hP2 := HH.out.step (T.out.trans' t2)
      have c1 := hP2.at_.cell 1
      simp at c1
      have llp := hP2.at_.lt
      have hids := hP2.ids
      have hno : no = S.order.length := by have := hP2.order_.1; simpa [ints] using this.symm
      have hno1 : no ≤ 1000 := by omega
      have hne : lp ≠ bi := fun e => by have := hP2.c_lp; rw [e, hP2.c_bi] at this; cases this
      have hbo : bi ∉ oo := fun hm => by have := hP2.c_oo _ hm; rw [hP2.c_bi] at this; cases this
      have hlo : lp ∉ oo := fun hm => by have := hP2.c_oo _ hm; rw [hP2.c_lp] at this; cases this
      have HP2 := Lib.hid hP2
      have HR2 := Lib.hid hr2
      have T2 := Lib.hid t2
      have HO2 := Lib.hid ho2
      obtain ⟨i0, hii, hz0, hz1, hz2⟩ := info_parts Tryd.infoInt
      clear hP2 hr2 t2 ho2 hno
      go_wp2_with (first | (at_mapUpdate; refine wpList_update_imap KI rfl _ _ _ rfl Tryd.mapI rfl (hids.alloc _) id rfl _ rfl ?_; intro w4 hm4 t4; have hA4 := (HP2.out.at_.alloc (.cells #[.int .i64 id, .slice a' k c', .int .i64 0] 75)).touch t4 (by simpa using hne); have c0 := hA4.cell 0; simp at c0; have ll4 := hA4.lt; have hrow4 := (HP2.out.order_.alloc (.cells #[.int .i64 id, .slice a' k c', .int .i64 0] 75)).touch t4 (fun b hb => by simp; rintro rfl; exact hbo hb)) | (at_builtin; refine wpList_append_row _ rfl (.tmp 62) (.tmp 64) 30 rfl 3 i0 _ 1 8 Tryd.intsT hii hz0 hz1 hz2 rfl (by decide) ao no co oo _ rfl (hrow4.alloc _) (some ⟨w4.heap.size, 0, none⟩) 1 1 [.int .i64 id] rfl rfl (.inr ⟨_, rfl, World.news_of_block (cs := #[.int .i64 id]) (t := 3) (fr := (0, 0)) (heap_alloc_new w4 _)⟩) (by simp [Value.oneCell']) (by unfold maxLen; omega) (by omega) ?_; intro a5 cap5 own5 w5 hrow5 ht5 hown5 _ _; have hA5 := (hA4.alloc (.cells #[.int .i64 id] 3)).touch ht5 hlo; have c0 := hA5.cell 0; have f0 := hA5.frozen 0; simp at c0))
      obtain ⟨col6, ⟨ao6, no6, co6, oo6, ki6, kh6, kw6, hp6⟩, hl6⟩ := joined_of HI.out HH.out T.out HID.out HR2.out T2.out HO2.out hm4 t4 (((Touch.refl [] w4).alloc (.cells #[.int .i64 id] 3)).mono (l' := oo) (by simp) |>.trans ht5 (fun b hb => .inl hb)) (by simpa [ints] using hrow5) (fun b hb => by
        rcases hown5 with h | h
        · rw [h] at hb; exact .inl hb
        · rw [h] at hb; simp at hb; subst hb; exact .inr (by omega))
      have hinv := HI.out.join HID.out HSS.out
      have hmem : id ∈ (S.join id zs).order := by simp [Lk.join]
      have hpl : ((S.join id zs).paths id).length ≤ 128 := by rw [show (S.join id zs).paths id = zs from Lk.up_same _ _ _, HL.out]; exact hn'
      have hql : (S.join id zs).queue.length ≤ 1024 := by
        have h1 : S.queue.length ≤ S.order.length := by
          have : S.queue.Subset S.order := fun i hi => (HI.out.qo i hi).1
          exact List.Nodup.length_le_of_subset HI.out.qn this
        have : (S.join id zs).queue = S.queue := rfl
        rw [this]; omega
      have hgo := goes_any _ lp col6 _ _ _ _ _ id [] (Lk.up blk id w2.heap.size) ao6 no6 co6 oo6 bi bh bw ki6 kh6 kw6 (S.join id zs) hp6 rfl rfl hmem hmem hinv hpl hql
      rw [show Lk.up blk id w2.heap.size id = w2.heap.size from Lk.up_same _ _ _] at hgo
      have HG := Lib.hid hgo
      have HL6 := Lib.hid hl6
      have HINV := Lib.hid hinv
      clear hids c1 hA4 hA5 c0 f0 hrow4 hrow5 hm4 t4 ht5 hp6 hl6 hgo hinv hmem hpl hql
      go_wp2_with fail
      refine HG.out.mono ?_
      rintro e w7 ⟨rfl, col7, kh7, kw7, hp7, hl7⟩
      have HP7 := Lib.hid hp7
      have HL7 := Lib.hid hl7
      clear hp7 hl7
      go_wp2_with fail
      go_ret2
      rw [E.out, HO.out]
      have hg := Lk.goesAll_gone (S.join id zs) id (HINV.out.hl id)
      have hq := Lk.goesAll_inv (ex := []) (by simp) HINV.out (by simp [Lk.join])
      have hp7 := HP7.out.congr (H' := ((S.join id zs).goesAll id).1.held) (W' := ((S.join id zs).goesAll id).1.waitsFor) (P' := ((S.join id zs).goesAll id).1.paths) (N' := ((S.join id zs).goesAll id).1.has) (fun _ => rfl) (fun _ => rfl) (fun j _ => ⟨by rw [hg.paths], by
        by_cases e : j = id
        · subst e; rw [Lk.up_same]
        · rw [Lk.up_other _ _ e]; exact hg.has j e⟩)
      rw [← hg.order] at hp7
      refine LRep.after hq (fun i hi => ?_) hp7 (HL6.out.trans HL7.out)
      rw [hg.order] at hi
      rw [hg.paths]
      by_cases e : i = id
      · subst e; rw [show (S.join i zs).paths i = zs from Lk.up_same _ _ _, HL.out]; exact hn'
      · rw [show (S.join id zs).paths i = S.paths i from Lk.up_other _ _ e]
        refine HP.out i ?_
        rcases List.mem_append.1 hi with h' | h'
        · exact h'
        · simp at h'; exact absurd h' e
end Go.Proofs.YtppgeljlmckimaaDoor
