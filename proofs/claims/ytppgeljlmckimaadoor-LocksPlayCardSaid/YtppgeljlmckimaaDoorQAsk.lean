/-
  The document's locks: Ask.
-/
import Derived.Test.YtppgeljlmckimaaDoorQGoes
import Derived.Test.YtppgeljlmckimaaDoorLAsk
namespace Go.Proofs.YtppgeljlmckimaaDoor
open Go.RowKit

def QAskPost (own : List Nat) (w : World) (rp : Nat) (r : Bool × Int × Lk) (e : Ending) (w' : World) : Prop :=
  After own w (.tuple #[.bool r.1, .int .i64 r.2.1]) (fun w' o => QRep w' rp r.2.2 o) e w'
theorem QRep.after {w w' : World} {rp : Nat} {col col' : Nat → Option QTag} {S : Lk} {blk : Int → Nat} (h : QAt w' rp col' S blk) (hl : Later noTag w col w' col') {v : Value} : After (owned col w) w v (fun w' o => QRep w' rp S o) (.returned v) w' :=
  ⟨_, rfl, ⟨col', blk, h, rfl⟩, hl.touch, hl.owned_of⟩
theorem Tryd.askP : Tryd.prog.underlying 42 = some (.slice 78) := by kernel_rfl
theorem Tryd.infoAskP : (Tryd.prog.info? 78).map (fun i => (i.zero, i.size, i.bytes)) = some (some (.pointer none), 1, 8) := by kernel_rfl

/-- What stands ahead of the last call: one more asks. -/
theorem qjoined {w4 w6 : World} {rp : Nat} {col : Nat → Option QTag} {S : Lk} {blk : Int → Nat} {la : Option Addr} {ln lc : Nat} {lo : List Nat} {qa : Option Addr} {qn qc : Nat} {qo : List Nat} (wr : World) (h : QParts wr rp col S blk la ln lc lo qa qn qc qo) (id : Int) (hid : id ∉ S.order) (zs : List Int)
    (t4 : Touch [] wr w4) {a' : Option Addr} {n c' : Nat} {o' : List Nat} (hA : At w4 wr.heap.size 82 [.int .i64 id, .slice a' n c', .int .i64 0]) (hR : Row w4 39 1 a' n c' o' (u64s zs)) (ho' : ∀ b ∈ o', wr.heap.size < b)
    {a6 : Option Addr} {n6 c6 : Nat} {o6 : List Nat} (t6 : Touch lo w4 w6) (hr6 : Row w6 78 1 a6 n6 c6 o6 (ptrs blk S.order ++ [.pointer (some ⟨wr.heap.size, 0, none⟩)])) (ho6 : ∀ b ∈ o6, b ∈ lo ∨ w4.heap.size ≤ b) :
    ∃ col', QAt (w6.setCell ⟨rp, 0, none⟩ (.slice a6 n6 c6)) rp col' (S.join id zs) (Lk.up blk id wr.heap.size) ∧ Later noTag wr col (w6.setCell ⟨rp, 0, none⟩ (.slice a6 n6 c6)) col' := by
  obtain ⟨col3, hcol3⟩ : ∃ col3 : Nat → Option QTag, col3 = fun b => if b < wr.heap.size then col b else if b = wr.heap.size then some (.ask id) else some (.path id) := ⟨_, rfl⟩
  have hk3 : ∀ b, b < wr.heap.size → col3 b = col b := fun b hb => by rw [hcol3]; exact if_pos hb
  have h4 := h.still t4 (col' := col3) (by simp) hk3
  have hob : QObj w4 col3 wr.heap.size id zs 0 := ⟨a', n, c', o', hA, hR, by rw [hcol3]; simp, fun b hb => by
    have := ho' b hb
    rw [hcol3]
    simp only
    rw [if_neg (by omega), if_neg (by omega)]⟩
  have hne : ∀ i ∈ S.order, i ≠ id := fun i hi e => hid (e ▸ hi)
  have h7 := h4.setRow (S' := S.join id zs) (ord' := S.order ++ [id]) (blk' := Lk.up blk id wr.heap.size) t6 (by
    have e : ptrs (Lk.up blk id wr.heap.size) (S.order ++ [id]) = ptrs blk S.order ++ [.pointer (some ⟨wr.heap.size, 0, none⟩)] := by
      unfold ptrs
      rw [List.map_append, List.map_cons, List.map_nil, Lk.up_same]
      congr 1
      exact List.map_congr_left fun i hi => by rw [Lk.up_other _ _ (hne i hi)]
    rw [e]
    exact hr6) ho6 rfl rfl (fun i hi => by
    rcases List.mem_append.1 hi with h' | h'
    · rw [Lk.up_other _ _ (hne i h'), show (S.join id zs).paths i = S.paths i from Lk.up_other _ _ (hne i h'), show (S.join id zs).has i = S.has i from Lk.up_other _ _ (hne i h')]
      exact h4.obj i h'
    · simp at h'
      subst h'
      rw [Lk.up_same, show (S.join i zs).paths i = zs from Lk.up_same _ _ _, show (S.join i zs).has i = 0 from Lk.up_same _ _ _]
      exact hob)
  refine ⟨_, h7.qat, (Later.of t4 (by simp) hk3).trans (Later.of ((t6.mono (l' := rp :: lo) (fun x hx => .inl (by simp [hx]))).setCell ⟨rp, 0, none⟩ (by simp) _) (fun x hx _ => ?_) (fun b hb => paint_old _ _ _ hb))⟩
  rcases List.mem_cons.1 hx with rfl | hx
  · exact ⟨_, h4.c_rp, fun h => h⟩
  · exact ⟨_, h4.c_lo x hx, fun h => h⟩

set_option maxRecDepth 100000 in
set_option maxHeartbeats 3200000 in
theorem qask_any (w : World) (rp : Nat) (S : Lk) (own : List Nat) (hR : QRep w rp S own) (hinv : Lk.Inv [] S) (id : Int) (a : Option Addr) (n cap : Nat) (zs : List Int) (hN : Nums w .u64 a n cap zs) (hlen : S.order.length ≤ 800) (hql : S.queue.length ≤ 900) :
    Calls Tryd.prog 14 #[.pointer (some ⟨rp, 0, none⟩), .int .i64 id, .slice a n cap] w (QAskPost own w rp (S.ask id zs)) := by
  have same : ∀ (b : Bool) (r : Int) e w', e = Ending.returned (.tuple #[.bool b, .int .i64 r]) ∧ Touch [] w w' → QAskPost own w rp (b, r, S) e w' := fun b r e w' ⟨he, ht⟩ => ⟨own, he, hR.touch ht (by simp), ht.mono (by simp), fun b hb => .inl hb⟩
  have hzl := hN.len
  have hcap := hN.cap_
  have hmax := hN.max
  obtain ⟨col, blk, hQ, rfl⟩ := (fun h => h : QRep w rp S own → QRep w rp S own) hR
  have CF := qfind_any w rp col S blk hQ id
  unfold Lk.ask
  by_cases hid : id ∈ S.order
  · rw [if_pos hid]
    rw [findV, if_pos hid] at CF
    have HCF := Lib.hid CF
    have HS := Lib.hid same
    clear CF same hQ hR hinv hid hN
    go_enter Tryd.func14, Tryd.ntmps14
    go_wp2_with fail
    refine HCF.out.mono ?_
    rintro e w1 ⟨rfl, rfl⟩
    go_wp2_with fail
    go_ret2
    exact HS.out _ _ _ _ ⟨rfl, Touch.refl _ _⟩
  rw [if_neg hid]
  rw [findV, if_neg hid] at CF
  by_cases hn : 128 < n
  · rw [if_pos (.inl (by omega))]
    have hni : (128 : Int) < (n : Int) := by omega
    have HCF := Lib.hid CF
    have HS := Lib.hid same
    clear CF same hQ hR hinv hid hN
    go_enter Tryd.func14, Tryd.ntmps14
    go_wp2_with fail
    refine HCF.out.mono ?_
    rintro e w1 ⟨rfl, rfl⟩
    go_wp2_with fail
    go_ret2
    exact HS.out _ _ _ _ ⟨rfl, Touch.refl _ _⟩
  have hni : ¬ (128 : Int) < (n : Int) := by omega
  obtain ⟨r, hr⟩ : ∃ r, (if 128 < zs.length ∨ Lk.sorted zs = false then (false, (2 : Int), S) else (((S.join id zs).goesAll id).2, 0, ((S.join id zs).goesAll id).1)) = r := ⟨_, rfl⟩
  rw [hr]
  have HR := Lib.hid hr
  obtain ⟨la, ln, lc, lo, qa, qn, qc, qo, h⟩ := hQ
  have hn' : n ≤ 128 := by omega
  have HN := Lib.hid hN
  have HL := Lib.hid hzl
  have HID := Lib.hid hid
  have HI := Lib.hid hinv
  have HH := Lib.hid h
  have HS := Lib.hid same
  have HCF := Lib.hid CF
  have HLE := Lib.hid hlen
  have HQL := Lib.hid hql
  clear hid hinv h hR hN hzl hr hn same CF hlen hql
  go_enter Tryd.func14, Tryd.ntmps14
  go_wp2_with fail
  refine HCF.out.mono ?_
  rintro e w1 ⟨rfl, rfl⟩
  go_wp2_with fail
  go_loopw [8] (fun i wr => ∃ k : Nat, 1 ≤ k ∧ k ≤ n + 1 ∧ (1 < k → k ≤ n) ∧ i = .int .i64 k ∧ Touch [] w wr ∧ Hid (∀ j, j + 1 < k → zs.getD j 0 < zs.getD (j + 1) 0)) (fun i _ => n + 1 - (intOf i).toNat)
  case atStart => exact ⟨1, by omega, by omega, by omega, rfl, Touch.refl _ _, fun j hj => by omega⟩
  case round =>
    obtain ⟨k, h0, hk, hk2, rfl, t, HB⟩ := hrel
    by_cases hlt : k < n
    · have hki : (k : Int) < (n : Int) := by omega
      have T := Lib.hid t
      obtain ⟨b, off, rfl, -, hb⟩ := (HN.out.touch t).at_ (by omega)
      have q1 := hb (k - 1) (by omega)
      have q2 := hb k hlt
      obtain ⟨x, hx⟩ : ∃ x, zs.getD (k - 1) 0 = x := ⟨_, rfl⟩
      obtain ⟨y, hy⟩ : ∃ y, zs.getD k 0 = y := ⟨_, rfl⟩
      rw [hx] at q1
      rw [hy] at q2
      have hk0 : (0 : Int) < (k : Int) := by omega
      have hsub : IntKind.i64.wrap ((k : Int) - 1) = (k : Int) - 1 := IntWalk.i64_in _ (by omega)
      have hsub2 : ((k : Int) - 1).toNat = k - 1 := by omega
      have hsub3 : (0 : Int) ≤ (k : Int) - 1 := by omega
      have hsub4 : (k : Int) - 1 < (n : Int) := by omega
      have HX := Lib.hid hx
      have HY := Lib.hid hy
      clear hb hx hy t
      by_cases hxy : x < y
      · have hc : decide (y ≤ x) = false := decide_eq_false (by omega)
        go_wp2
        go_quiet (fail)
        go_wp2
        go_roundw
        case rel =>
          refine ⟨k + 1, by omega, by omega, by omega, by go_num, T.out.drewN _, fun j hj => ?_⟩
          by_cases e : j + 1 = k
          · rw [show j = k - 1 by omega, show k - 1 + 1 = k by omega, HX.out, HY.out]; exact hxy
          · exact HB j (by omega)
        case measure => simp [intOf]; omega
      · have hc : decide (y ≤ x) = true := decide_eq_true (by omega)
        have hns : Hid (Lk.sorted zs = false) := by
          show Lk.sorted zs = false
          unfold Lk.sorted
          rw [decide_eq_false_iff_not]
          intro hp
          have := pairwise_adj hp (j := k - 1) (by rw [HL.out]; omega)
          rw [show k - 1 + 1 = k by omega, HX.out, HY.out] at this
          exact hxy this
        go_wp2
        go_quiet (fail)
        go_wp2
        go_ret2
        rw [← HR.out, if_pos (.inr hns.out)]
        exact HS.out _ _ _ _ ⟨rfl, T.out.drewN _⟩
    · have hki : ¬ (k : Int) < (n : Int) := by omega
      have hs : Lk.sorted zs = true := by
        unfold Lk.sorted
        rw [decide_eq_true_iff]
        exact adj_pairwise (fun j hj => HB j (by rw [HL.out] at hj; omega))
      have e : r = (((S.join id zs).goesAll id).2, 0, ((S.join id zs).goesAll id).1) := by
        rw [← HR.out, if_neg (by rw [HL.out, hs]; simp; omega)]
      have E := Lib.hid e
      have HSS := Lib.hid hs
      have T := Lib.hid t
      have hPr := HH.out.step t
      have c0 := hPr.at_.cell 0
      simp at c0
      have lrp := hPr.at_.lt
      have frp := fun o => hPr.at_.frozen o
      have hln := hPr.lnEq
      have hle := HLE.out
      have hln1 : ln ≤ 1000 := by omega
      have HP := Lib.hid hPr
      have N1 := HN.out.touch (t.alloc (.cells #[.int .i64 id, .slice none 0 0, .int .i64 0] 82))
      have HSRC := Lib.hid N1.src
      have HLL := Lib.hid (show (u64s zs).length = n * 1 by rw [u64s, List.length_map, HL.out, Nat.mul_one])
      have h63 : 0 + n ≤ maxLen := by unfold maxLen; omega
      have HO := Lib.hid (show ∀ u ∈ u64s zs, u.oneCell' = true by intro u hu; obtain ⟨x, -, rfl⟩ := List.mem_map.1 hu; rfl)
      obtain ⟨i0, hii, hz0, hz1, hz2⟩ := info_parts Tryd.infoU64
      have hA1 := At.new wr 82 [.int .i64 id, .slice none 0 0, .int .i64 0]
      have HA1 := Lib.hid hA1
      obtain ⟨i1, hji, hy0, hy1, hy2⟩ := info_parts Tryd.infoAskP
      have hrr := hPr.row
      have hrn : wr.heap.size ∉ lo := fun hm => by have := hPr.row.lt _ hm; omega
      have hrp : rp ∉ lo := hPr.row_ne.1
      clear hs e t hPr hln hle N1 hA1
      go_wp2_with (first | (at_builtin; refine wpList_append_row _ rfl (.tmp 40) (.tmp 41) 27 rfl 39 i0 _ 1 8 Tryd.u64sT hii hz0 hz1 hz2 rfl (by decide) none 0 0 [] [] rfl (Row.nil _ _ _ _) a n cap (u64s zs) rfl HLL.out HSRC.out HO.out h63 (by omega) ?_; intro a' cap' own2 w3 hrow3 ht3 hown3 _ _; rw [Nat.zero_add] at hrow3 ⊢; have hA3 := HA1.out.touch ht3 (by simp); have d1 := hA3.cell 1; have f1 := fun o => hA3.frozen o; have l1 := hA3.lt; simp at d1; have tw3 : Touch [] wr w3 := ((Touch.refl [] wr).alloc _).trans' ht3; have hP3 := HP.out.at_.touch tw3 (by simp); have e0 := hP3.cell 0; simp at e0; have e1 := hP3.frozen 0; have e2 := hP3.lt; have hrow4 := (hrr.touch tw3 (by simp)).touch ((Touch.refl [wr.heap.size] w3).setCell ⟨wr.heap.size, 1, none⟩ (by simp) (.slice a' n cap')) (fun x hx => by simp; rintro rfl; exact hrn hx); have hnew : ((w3.setCell ⟨wr.heap.size, 1, none⟩ (.slice a' n cap')).alloc (.cells #[.pointer (some ⟨wr.heap.size, 0, none⟩)] 78)).heap[w3.heap.size]? = some (.cells #[.pointer (some ⟨wr.heap.size, 0, none⟩)] 78 (0, 0)) := (by have := heap_alloc_new (w3.setCell ⟨wr.heap.size, 1, none⟩ (.slice a' n cap')) (.cells #[.pointer (some ⟨wr.heap.size, 0, none⟩)] 78); simpa only [World.size_setCell] using this)) | (at_builtin; refine wpList_append_row _ rfl (.tmp 49) (.tmp 51) 42 rfl 78 i1 _ 1 8 Tryd.askP hji hy0 hy1 hy2 rfl (by decide) la ln lc lo _ rfl (hrow4.alloc _) (some ⟨w3.heap.size, 0, none⟩) 1 1 [.pointer (some ⟨wr.heap.size, 0, none⟩)] rfl rfl (.inr ⟨_, rfl, World.news_of_block hnew⟩) (by simp [Value.oneCell']) (by unfold maxLen; omega) (by omega) ?_; intro a6 cap6 own6 w6 hrow6 ht6 hown6 _ _; have hP6 := ((hP3.touch ((Touch.refl [wr.heap.size] w3).setCell ⟨wr.heap.size, 1, none⟩ (by simp) (.slice a' n cap')) (by simp; omega)).alloc _).touch ht6 hrp; have g0 := hP6.cell 0; have g1 := hP6.frozen 0; have g2 := hP6.lt; simp at g0))
      have t4 : Touch [] wr (w3.setCell ⟨wr.heap.size, 1, none⟩ (.slice a' n cap')) := tw3.setCell ⟨wr.heap.size, 1, none⟩ (by simp) _
      have ho2 : ∀ b ∈ own2, wr.heap.size < b := fun b hb => by
        rcases hown3 with h | h
        · rw [h] at hb; simp at hb
        · rw [h] at hb; simp at hb; omega
      have hA4 : At (w3.setCell ⟨wr.heap.size, 1, none⟩ (.slice a' n cap')) wr.heap.size 82 [.int .i64 id, .slice a' n cap', .int .i64 0] := by
        have := hA3.set 1 (.slice a' n cap')
        simpa using this
      have hR4 := hrow3.touch ((Touch.refl [wr.heap.size] w3).setCell ⟨wr.heap.size, 1, none⟩ (by simp) (.slice a' n cap')) (fun x hx => by simp; have := ho2 x hx; omega)
      obtain ⟨col7, hQ7, hl7⟩ := qjoined wr HP.out id HID.out zs t4 hA4 (by simpa using hR4) ho2 (((Touch.refl [] (w3.setCell ⟨wr.heap.size, 1, none⟩ (.slice a' n cap'))).alloc _).mono (l' := lo) (by simp) |>.trans ht6 (fun b hb => .inl hb)) hrow6 (fun b hb => by
        rcases hown6 with h | h
        · rw [h] at hb; exact .inl hb
        · rw [h] at hb; simp at hb; subst hb; exact .inr (by simp))
      have hinv := HI.out.join HID.out HSS.out
      have CG := qgoes_any _ rp col7 (S.join id zs) (Lk.up blk id wr.heap.size) hQ7 id [] (by simp [Lk.join]) hinv (by rw [show (S.join id zs).paths id = zs from Lk.up_same _ _ _, HL.out]; exact hn') (by have := HQL.out; show S.queue.length ≤ 1000; omega)
      rw [Lk.up_same] at CG
      have HLT := Lib.hid (((Later.refl w col).step T.out).trans hl7)
      refine CG.mono ?_
      rintro e w8 ⟨rfl, col8, hQ8, hl8⟩
      have H8 := Lib.hid hQ8
      have HL8 := Lib.hid hl8
      clear CG hl7 hQ7 hQ8 hl8 hnew hrow4 hrow6 ht6 hown6 hrow3 ht3 hown3 hA3 hA4 hR4 hP3 hP6
      go_wp2_with fail
      go_ret2
      rw [E.out]
      exact QRep.after H8.out (HLT.out.trans HL8.out)
end Go.Proofs.YtppgeljlmckimaaDoor
