/-
  The program's Copy.
-/
import Derived.Test.YtaendccnjiagiaaRCopy
import Derived.Test.YtaendccnjiagiaaRange
import Derived.Deep.RegionHeld3
namespace Go.Proofs.Ytaendccnjiagiaa
open Go.RowKit
attribute [local go_sem] run_store_float

/-- A list of tasks of its own that a call tells (the program's). -/
def ClonePost (w : World) (l : List Task) (e : Ending) (w' : World) : Prop :=
  ∃ a c own, e = .returned (.slice a l.length c) ∧ Row w' 62 4 a l.length c own (cellsOf l) ∧ Touch [] w w' ∧ ∀ b ∈ own, w.heap.size ≤ b

set_option maxRecDepth 100000 in
theorem clone_any (w : World) (l : List Task) (a : Option Addr) (n cap : Nat) (ow : List Nat) (hrow : Row w 62 4 a n cap ow (cellsOf l)) (hn : n = l.length) (hn64 : n ≤ 1024) :
    Calls Try.prog 31 #[.slice a n cap] w (ClonePost w l) := by
  subst hn
  cases a with
  | none =>
    obtain ⟨rfl, h0, rfl, hx⟩ := hrow.nil_of
    have hl : l = [] := List.eq_nil_of_length_eq_zero h0
    subst hl
    have hs : ∀ W : World, (binOp .eql 57 (.slice none 0 0) (.slice none 0 0)).run Try.prog W = .ok (.bool true) W := fun W => by kernel_rfl
    go_enter Try.func31, Try.ntmps31
    go_wp2_with fail
    go_ret
    exact ⟨none, 0, [], rfl, by simpa [cellsOf] using Row.nil _ _ _ _, Touch.refl _ _, by simp⟩
  | some ad =>
    obtain ⟨i0, hi, hz0, hz1, hz2⟩ := info_parts Try.infoTask
    have hs := fun W => Lib.run_eql_slice_nil (P := Try.prog) W 57 62 (some ad) l.length cap 0 0 Try.tasksT
    go_enter Try.func31, Try.ntmps31
    have hsrc := (hrow.alloc (.cells #[] 62)).src
    have HSRC := Lib.hid hsrc
    have HL := Lib.hid hrow.1
    have h63 : 0 + l.length ≤ maxLen := by unfold maxLen; omega
    clear hsrc
    go_wp2_with (at_builtin; refine wpList_append_row _ rfl (.tmp 5) (.tmp 6) 57 rfl 62 i0 _ 4 32 Try.tasksT hi hz0 hz1 hz2 rfl (by decide) (some ⟨w.heap.size, 0, none⟩) 0 0 [] [] rfl (Row.nil _ _ _ _) _ l.length _ (cellsOf l) rfl HL.out HSRC.out (cellsOf_one _) h63 (by omega) ?_; intro a' cap' own' w3 hrow3 ht3 hown3 _ _)
    rw [Nat.zero_add] at hrow3
    have H3 := Lib.hid hrow3
    have T3 := Lib.hid ((Touch.refl [] w).alloc (.cells #[] 62) |>.trans' ht3)
    clear hrow3 ht3
    go_wp2_with fail
    go_ret
    refine ⟨a', cap', own', by simp, by simpa using H3.out, T3.out, fun b hb => ?_⟩
    rcases hown3 with h | h <;> (rw [h] at hb; simp at hb)
    omega

/-- The copy: its parts are new since w. -/
def PCopyPost (w : World) (S : Pool) (e : Ending) (w' : World) : Prop :=
  ∃ c own, e = .returned (.pointer (some ⟨c, 0, none⟩)) ∧ Rep w' c S own ∧ Touch [] w w' ∧ ∀ b ∈ own, w.heap.size ≤ b
/-- The copy ahead of the loop over the ids: its parts are new since w. -/
def PCopyMid (w : World) (cp : Nat) (S : Pool) (wx : World) : Prop :=
  ∃ a1 n1 c1 o1 a2 n2 c2 o2 bm, Mem wx wx (cp :: bm :: (o1 ++ o2)) cp S.workers S.room S.patience a1 n1 c1 o1 S.work a2 n2 c2 o2 S.queue bm [] ∧ Touch [] w wx ∧ ∀ b ∈ cp :: bm :: (o1 ++ o2), w.heap.size ≤ b
/-- A cell in a block that has not turned. -/
theorem keep_cell {l : List Nat} {W W' : World} {b o : Nat} {v : Value} (t : Touch l W W') (h : W.cell? ⟨b, o, none⟩ = some v) (hb : b ∉ l) : W'.cell? ⟨b, o, none⟩ = some v := (t.cell (p := ⟨b, o, none⟩) (World.block_lt_of_cell? W _ h) hb).trans h
theorem pcopy_close {w W1 wE : World} {cp bn n1 k1 n2 k2 : Nat} {S : Pool} {a1 a2 : Option Addr} {o1 o2 : List Nat} (tA : Touch [] w W1) (hcp : w.heap.size ≤ cp) (lcp : cp < W1.heap.size)
    (hat : At wE cp 59 [.int .i64 S.workers, .int .i64 S.room, .int .i64 S.patience, .slice a1 n1 k1, .slice a2 n2 k2, .map (some bn)]) (tE : Touch [cp] W1 wE)
    (hr1 : Row wE 62 4 a1 n1 k1 o1 (cellsOf S.work)) (hr2 : Row wE 62 4 a2 n2 k2 o2 (cellsOf S.queue)) (hm : IMap wE KU.f bn [])
    (h1 : ∀ b ∈ o1, W1.heap.size ≤ b) (h2 : ∀ b ∈ o2, W1.heap.size ≤ b) (h3 : W1.heap.size ≤ bn) (h4 : ∀ b ∈ o1, b ∉ o2) (h5 : bn ∉ o1) (h6 : bn ∉ o2) : PCopyMid w cp S wE := by
  have c1 : cp ∉ o1 := fun h => by have := h1 _ h; omega
  have c2 : cp ∉ o2 := fun h => by have := h2 _ h; omega
  have c3 : cp ≠ bn := by omega
  have tsz := tA.size
  refine ⟨a1, n1, k1, o1, a2, n2, k2, o2, bn, ⟨hat, hr1, hr2, hm, Touch.refl _ _, by simp, by simp, fun b hb => .inl (by simp [hb]), fun b hb => .inl (by simp [hb]), c3.symm, c1, h5, c2, h6, h4⟩, tA.trans tE (by simpa using hcp), fun b hb => ?_⟩
  simp only [List.mem_cons, List.mem_append] at hb
  rcases hb with rfl | rfl | hb | hb
  · exact hcp
  · omega
  · have := h1 b hb; omega
  · have := h2 b hb; omega
/-- The three stores that end the copy's making: the map has been made before (3) or behind them (4). -/
theorem pcopy_stores {w W1 wF : World} {cp bn n1 k1 n2 k2 : Nat} {S : Pool} {a1 a2 : Option Addr} {o1 o2 : List Nat} {v3 v4 v5 : Value} (tA : Touch [] w W1) (hcp : w.heap.size ≤ cp)
    (hC : At W1 cp 59 [.int .i64 S.workers, .int .i64 S.room, .int .i64 S.patience, v3, v4, v5]) (tF : Touch [] W1 wF)
    (hr1 : Row wF 62 4 a1 n1 k1 o1 (cellsOf S.work)) (hr2 : Row wF 62 4 a2 n2 k2 o2 (cellsOf S.queue)) (hm : IMap wF KU.f bn [])
    (h1 : ∀ b ∈ o1, W1.heap.size ≤ b) (h2 : ∀ b ∈ o2, W1.heap.size ≤ b) (h3 : W1.heap.size ≤ bn) (h4 : ∀ b ∈ o1, b ∉ o2) (h5 : bn ∉ o1) (h6 : bn ∉ o2) :
    PCopyMid w cp S (((wF.setCell ⟨cp, 3, none⟩ (.slice a1 n1 k1)).setCell ⟨cp, 4, none⟩ (.slice a2 n2 k2)).setCell ⟨cp, 5, none⟩ (.map (some bn))) := by
  have lcp := hC.lt
  have c1 : cp ∉ o1 := fun h => by have := h1 _ h; omega
  have c2 : cp ∉ o2 := fun h => by have := h2 _ h; omega
  have c3 : cp ≠ bn := by omega
  have ts : Touch [cp] wF (((wF.setCell ⟨cp, 3, none⟩ (.slice a1 n1 k1)).setCell ⟨cp, 4, none⟩ (.slice a2 n2 k2)).setCell ⟨cp, 5, none⟩ (.map (some bn))) := ((((Touch.refl _ _).setCell _ (by simp) _).setCell _ (by simp) _).setCell _ (by simp) _)
  have hat := (((hC.touch tF (by simp)).set 3 (.slice a1 n1 k1)).set 4 (.slice a2 n2 k2)).set 5 (.map (some bn))
  exact pcopy_close tA hcp lcp (by simpa using hat) ((tF.mono (by simp)).trans' ts) (hr1.touch ts (fun b hb => by simp; rintro rfl; exact c1 hb)) (hr2.touch ts (fun b hb => by simp; rintro rfl; exact c2 hb)) (hm.touch ts (by simpa using c3.symm)) h1 h2 h3 h4 h5 h6
theorem pcopy_stores4 {w W1 wF : World} {cp n1 k1 n2 k2 : Nat} {S : Pool} {a1 a2 : Option Addr} {o1 o2 : List Nat} {v3 v4 v5 : Value} (tA : Touch [] w W1) (hcp : w.heap.size ≤ cp)
    (hC : At W1 cp 59 [.int .i64 S.workers, .int .i64 S.room, .int .i64 S.patience, v3, v4, v5]) (tF : Touch [] W1 wF)
    (hr1 : Row wF 62 4 a1 n1 k1 o1 (cellsOf S.work)) (hr2 : Row wF 62 4 a2 n2 k2 o2 (cellsOf S.queue))
    (h1 : ∀ b ∈ o1, W1.heap.size ≤ b) (h2 : ∀ b ∈ o2, W1.heap.size ≤ b) (h4 : ∀ b ∈ o1, b ∉ o2) :
    PCopyMid w cp S ((((wF.setCell ⟨cp, 3, none⟩ (.slice a1 n1 k1)).setCell ⟨cp, 4, none⟩ (.slice a2 n2 k2)).setCell ⟨cp, 5, none⟩ (.map (some wF.heap.size))).alloc (.map #[] 0)) := by
  have lcp := hC.lt
  have l1 := hr1.lt
  have l2 := hr2.lt
  have c1 : cp ∉ o1 := fun h => by have := h1 _ h; omega
  have c2 : cp ∉ o2 := fun h => by have := h2 _ h; omega
  have ts : Touch [cp] wF (((wF.setCell ⟨cp, 3, none⟩ (.slice a1 n1 k1)).setCell ⟨cp, 4, none⟩ (.slice a2 n2 k2)).setCell ⟨cp, 5, none⟩ (.map (some wF.heap.size))) := ((((Touch.refl _ _).setCell _ (by simp) _).setCell _ (by simp) _).setCell _ (by simp) _)
  have hat := ((((hC.touch tF (by simp)).set 3 (.slice a1 n1 k1)).set 4 (.slice a2 n2 k2)).set 5 (.map (some wF.heap.size))).alloc (.map #[] 0)
  exact pcopy_close tA hcp lcp (by simpa using hat) (((tF.mono (by simp)).trans' ts).alloc _) ((hr1.touch ts (fun b hb => by simp; rintro rfl; exact c1 hb)).alloc _) ((hr2.touch ts (fun b hb => by simp; rintro rfl; exact c2 hb)).alloc _) (by simpa using IMap.new (((wF.setCell ⟨cp, 3, none⟩ (.slice a1 n1 k1)).setCell ⟨cp, 4, none⟩ (.slice a2 n2 k2)).setCell ⟨cp, 5, none⟩ (.map (some wF.heap.size))) KU.f) h1 h2 tF.size h4 (fun h => by have := l1 _ h; omega) (fun h => by have := l2 _ h; omega)

/-- Clone, in any world behind. -/
def Clones (w : World) (a : Option Addr) (n cap : Nat) (l : List Task) : Prop := ∀ w1, Touch [] w w1 → Calls Try.prog 31 #[.slice a n cap] w1 (ClonePost w1 l)
theorem clones_any {w : World} {l : List Task} {a : Option Addr} {n cap : Nat} {ow : List Nat} (hrow : Row w 62 4 a n cap ow (cellsOf l)) (hn : n = l.length) (hn64 : n ≤ 1024) : Clones w a n cap l :=
  fun _ t => clone_any _ l a n cap ow (hrow.touch t (by simp)) hn hn64

theorem Mem.other {w0 w w' : World} {l0 : List Nat} {bp : Nat} {x0 x1 x2 : Int} {aw : Option Addr} {nw cw : Nat} {ow : List Nat} {lw : List Task} {aq : Option Addr} {nq cq : Nat} {oq : List Nat} {lq : List Task} {bm : Nat} {kv : List (Int × Value)} {r : Nat}
    (h : Mem w0 w l0 bp x0 x1 x2 aw nw cw ow lw aq nq cq oq lq bm kv) (t : Touch [r] w w') (h0 : w0.heap.size ≤ r) (h1 : r ≠ bp) (h2 : r ∉ ow) (h3 : r ∉ oq) (h4 : r ≠ bm) : Mem w0 w' l0 bp x0 x1 x2 aw nw cw ow lw aq nq cq oq lq bm kv :=
  ⟨h.at_.touch t (by simpa using h1.symm), h.work.touch t (fun b hb => by simp; rintro rfl; exact h2 hb), h.queue.touch t (fun b hb => by simp; rintro rfl; exact h3 hb), h.map.touch t (by simpa using h4.symm), h.touch.trans t (by simpa using Or.inr h0), h.bp_l, h.bm_l, h.ow_l, h.oq_l, h.bm_bp, h.ow_bp, h.ow_bm, h.oq_bp, h.oq_bm, h.ow_oq⟩

/-- The loop over the ids: those that are done are in the copy's map, the others are to come. -/
def PCopyLoop (w wx : World) (cp : Nat) (S : Pool) (a1 : Option Addr) (n1 c1 : Nat) (o1 : List Nat) (a2 : Option Addr) (n2 c2 : Nat) (o2 : List Nat) (bm bm2 r : Nat) (kv done left : List (Int × Value)) (wr : World) : Prop :=
  IRange wr KU.f bm r kv left ∧ Mem wx wr (cp :: bm2 :: (o1 ++ o2)) cp S.workers S.room S.patience a1 n1 c1 o1 S.work a2 n2 c2 o2 S.queue bm2 done ∧ (done ++ left).Perm kv ∧ Touch [] w wr

set_option maxRecDepth 100000 in
set_option maxHeartbeats 6400000 in
theorem pcopy_any (w : World) (bp : Nat) (S : Pool) (own : List Nat) (hR : Rep w bp S own) :
    Calls Try.prog 18 #[.pointer (some ⟨bp, 0, none⟩)] w (PCopyPost w S) := by
  obtain ⟨hok, aw, nw, cw, ow, aq, nq, cq, oq, bm, kv, hp, rfl⟩ := hR
  obtain ⟨hnw, hnq⟩ := hp.nw
  have hlw := hok.lw
  have hlq := hok.lq
  have hw2 := hok.w2
  have hr2 := hok.r2
  have hw1 := hok.w1
  have hn : nw ≤ 1024 := by omega
  have hm : nq ≤ 1024 := by omega
  have c0 := hp.at_.cell 0
  have c1 := hp.at_.cell 1
  have c2 := hp.at_.cell 2
  have c3 := hp.at_.cell 3
  have c4 := hp.at_.cell 4
  have c5 := hp.at_.cell 5
  simp at c0 c1 c2 c3 c4 c5
  have HP := Lib.hid hp
  have HOK := Lib.hid hok
  have HNW := Lib.hid hnw
  have HNQ := Lib.hid hnq
  have hmm := @run_makeMap Try.prog
  clear hnw hnq hlq hr2 hp hlw hw2 hok
  go_enter Try.func18, Try.ntmps18
  go_wp2_with (go_at_call 24; refine (none_no _ _ _ hw1 c0).mono ?_; rintro e w' ⟨rfl, rfl⟩)
  have hC := At.new w 59 [.int .i64 S.workers, .int .i64 S.room, .int .i64 S.patience, .slice aw nw cw, .slice aq nq cq, .map (some bm)]
  have tA := (Touch.refl [] w).alloc (.cells #[.int .i64 S.workers, .int .i64 S.room, .int .i64 S.patience, .slice aw nw cw, .slice aq nq cq, .map (some bm)] 59)
  generalize hW1 : w.alloc _ = W1 at hC tA ⊢
  generalize hcp : w.heap.size = cp at hC ⊢
  have hcpl : w.heap.size ≤ cp := by omega
  clear hW1 hcp
  have hB : ∀ W, Touch [] W1 W → W.cell? ⟨bp, 3, none⟩ = some (.slice aw nw cw) ∧ W.cell? ⟨bp, 4, none⟩ = some (.slice aq nq cq) ∧ W.cell? ⟨cp, 3, none⟩ = some (.slice aw nw cw) ∧ W.cell? ⟨cp, 4, none⟩ = some (.slice aq nq cq) ∧ W.cell? ⟨cp, 5, none⟩ = some (.map (some bm)) ∧ W.frozen? ⟨cp, 3, none⟩ = false ∧ W.frozen? ⟨cp, 4, none⟩ = false ∧ W.frozen? ⟨cp, 5, none⟩ = false := by
    intro W t
    have h1 := (HP.out.at_.touch tA (by simp)).touch t (by simp)
    have h2 := hC.touch t (by simp)
    exact ⟨by simpa using h1.cell 3, by simpa using h1.cell 4, by simpa using h2.cell 3, by simpa using h2.cell 4, by simpa using h2.cell 5, h2.frozen 3, h2.frozen 4, h2.frozen 5⟩
  obtain ⟨c3, c4, d3, d4, d5, f3, f4, f5⟩ := hB W1 (Touch.refl _ _)
  have HB := Lib.hid hB
  have HC := Lib.hid hC
  have TA := Lib.hid tA
  have HW := Lib.hid (clones_any (HP.out.work.touch tA (by simp)) HNW.out hn)
  have HQ := Lib.hid (clones_any (HP.out.queue.touch tA (by simp)) HNQ.out hm)
  have lcp := hC.lt
  have lbp := (HP.out.at_.touch tA (by simp)).lt
  have hne : bp ≠ cp := by have := HP.out.at_.lt; omega
  have tok1 : True := trivial
  clear hB hC tA c0 c1 c2 c5
  go_upto_region 4 with (fail)
  go_cut [] (fun wx => PCopyMid w cp S wx)
  case first =>
    go_region_held3 (fun W => W.cell? ⟨bp, 3, none⟩ = some (.slice aw nw cw) ∧ W.cell? ⟨bp, 4, none⟩ = some (.slice aq nq cq)) (first | assumption | (exact ⟨keep_cell (l := [cp]) (by repeat' (first | exact Touch.refl _ _ | refine Touch.alloc ?_ _ | refine Touch.drew ?_ | refine Touch.setCell ?_ _ (by simp) _)) c3 (by simpa using hne), keep_cell (l := [cp]) (by repeat' (first | exact Touch.refl _ _ | refine Touch.alloc ?_ _ | refine Touch.drew ?_ | refine Touch.setCell ?_ _ (by simp) _)) c4 (by simpa using hne)⟩) | go_keep) (first | (go_at_call 31; have _t := tok1; refine (HW.out _ (by repeat' (first | exact Touch.refl _ _ | assumption | refine Touch.alloc ?_ _ | refine Touch.drew ?_))).mono ?_; rintro e w5 ⟨a1, k1, o1, rfl, hr1, t5, ho1⟩; have T_w5 : Touch [] W1 w5 := Touch.trans' (by repeat' (first | exact Touch.refl _ _ | assumption | refine Touch.alloc ?_ _ | refine Touch.drew ?_)) t5; clear tok1; have lc5 := Nat.lt_of_lt_of_le lcp T_w5.size; have lb5 := Nat.lt_of_lt_of_le lbp T_w5.size; have B := HB.out w5 T_w5; obtain ⟨c3, c4, d3, d4, d5, f3, f4, f5⟩ := B; have hS := And.intro c3 c4; have tok2 : True := trivial) | (go_at_call 31; have _t := tok2; refine (HQ.out _ (by repeat' (first | exact Touch.refl _ _ | assumption | refine Touch.alloc ?_ _ | refine Touch.drew ?_))).mono ?_; rintro e w6 ⟨a2, k2, o2, rfl, hr2, t6, ho2⟩; have T_w6 : Touch [] W1 w6 := Touch.trans' (by repeat' (first | exact Touch.refl _ _ | assumption | refine Touch.alloc ?_ _ | refine Touch.drew ?_)) t6; clear tok2; have lc6 := Nat.lt_of_lt_of_le lcp T_w6.size; have lb6 := Nat.lt_of_lt_of_le lbp T_w6.size; have B := HB.out w6 T_w6; obtain ⟨c3, c4, d3, d4, d5, f3, f4, f5⟩ := B; have hS := And.intro c3 c4))
    all_goals go_wp2_with fail
    all_goals
      go_meet
      have s5 := t5.size
      have s15 := T_w5.size
      have s16 := T_w6.size
      try simp only [World.size_alloc, World.size_drew] at s5 s15 s16
      have l1 := hr1.lt
      have l2 := hr2.lt
      have g1 : ∀ b ∈ o1, W1.heap.size ≤ b := fun b hb => by have := ho1 b hb; (try simp at this); omega
      have g2 : ∀ b ∈ o2, W1.heap.size ≤ b := fun b hb => by have := ho2 b hb; (try simp at this); omega
      have g4 : ∀ b ∈ o1, b ∉ o2 := fun b hb hb' => by have := l1 b hb; have := ho2 b hb'; (try simp at this); omega
      first
      | (have q : Touch [] (W1.drew.alloc (.map #[] 0)) w5 := by first | (with_reducible assumption) | (have q' : Touch [] (W1.alloc (.map #[] 0)).drew w5 := by { with_reducible assumption }; exact q')
         exact pcopy_stores TA.out hcpl HC.out T_w6 (hr1.touch t6 (by simp)) hr2 (((IMap.new W1.drew _).touch q (by simp)).touch t6 (by simp)) g1 g2 (Nat.le_refl _) g4 (fun hb => by have := ho1 _ hb; (try simp at this); omega) (fun hb => by have := ho2 _ hb; (try simp at this); omega))
      | (have q : Touch [] (w5.alloc (.map #[] 0)) w6 := by with_reducible assumption
         exact pcopy_stores TA.out hcpl HC.out T_w6 ((hr1.alloc _).touch q (by simp)) hr2 ((IMap.new w5 _).touch q (by simp)) g1 g2 s15 g4 (fun hb => by have := l1 _ hb; omega) (fun hb => by have := ho2 _ hb; (try simp at this); omega))
      | exact pcopy_stores4 TA.out hcpl HC.out T_w6 (hr1.touch t6 (by simp)) hr2 g1 g2 g4
  case rest =>
    obtain ⟨a1, n1, k1, o1, a2, n2, k2, o2, bm2, hM, tX, hfr⟩ := hcut
    clear c3 c4 d3 d4 d5 f3 f4 f5 tok1 HB HC HW HQ TA lcp lbp hmm hcpl hne
    have hp5 := HP.out.at_.touch tX (by simp)
    have c5 := hp5.cell 5
    simp at c5
    have hmap := HP.out.map.touch tX (by simp)
    have hbw := HP.out.map.lt
    have HK := Lib.hid HP.out.keys
    have hndk : (kv.map (·.1)).Nodup := HK.out.perm.nodup_iff.2 HOK.out.nd
    have HND := Lib.hid hndk
    have hbm2 := hfr bm2 (by simp)
    have hcp2 := hfr cp (by simp)
    have hml := hM.map.lt
    have hcl := hM.at_.lt
    have ho1l := Lib.hid hM.work.lt
    have ho2l := Lib.hid hM.queue.lt
    have HFR := Lib.hid hfr
    have HM := Lib.hid hM
    have TX := Lib.hid tX
    clear hp5 hndk hM tX hfr
    go_wp2_with (at_range; refine wpList_range_imap rfl _ _ _ _ rfl Try.mapT rfl hmap ?_; intro w0 hrg0 t0 s0)
    go_frame
    generalize hr : wc.heap.size = r at hrg0 s0 ⊢
    have hrx := Lib.hid hr
    have hcpr : cp < r := by omega
    have hbmr : bm2 < r := by omega
    have hbwr : bm < cp := by omega
    have R0 : PCopyLoop w wc cp S a1 n1 k1 o1 a2 n2 k2 o2 bm bm2 r kv [] kv w0 := ⟨hrg0, HM.out.step t0, by simp, TX.out.trans' t0⟩
    clear t0 hrg0 s0 hr hmap c5
    go_loopw [] (fun wr => ∃ done left, PCopyLoop w wc cp S a1 n1 k1 o1 a2 n2 k2 o2 bm bm2 r kv done left wr) (fun wr => wr.rangeLeft bm r)
    case atStart => exact ⟨_, _, R0⟩
    case round =>
      obtain ⟨done, left, hrg, hM, hperm, tW⟩ := hrel
      have HP1 := Lib.hid hperm
      have TW := Lib.hid tW
      have HRG := Lib.hid hrg
      have HM1 := Lib.hid hM
      have hr1 : r ∉ o1 := fun h => by have := ho1l.out _ h; have := hrx.out; omega
      have hr2 : r ∉ o2 := fun h => by have := ho2l.out _ h; have := hrx.out; omega
      clear hperm tW hrg hM
      go_wp2_with (first | (at_next; refine wpList_next_irange rfl _ rfl rfl HRG.out ?_ ?_) | fail)
      · intro hl
        subst hl
        go_wp2_with fail
        go_ret
        have hk : Keys done S.ids := by
          have hp := HP1.out
          rw [List.append_nil] at hp
          exact ⟨fun q hq => HK.out.val q (hp.subset hq), (hp.map _).trans HK.out.perm⟩
        obtain ⟨own', q1, q2, q3⟩ := Mem.rep HM1.out hk HOK.out
        refine ⟨cp, own', rfl, q1, TW.out, fun b hb => ?_⟩
        rcases q3 b hb with h | h
        · exact HFR.out b h
        · have := TX.out.size; omega
      · intro j x v w1 hj hpk hsub hrg1 t1 s1 hen
        have hM2 := HM1.out.other t1 (by have := hrx.out; omega) (by omega) hr1 hr2 (by omega)
        have c5 := hM2.at_.cell 5
        simp at c5
        have HM2 := Lib.hid hM2
        have HRG1 := Lib.hid hrg1
        have HJ := Lib.hid hj
        have HPK := Lib.hid hpk
        have HSUB := Lib.hid hsub
        have T1 := Lib.hid t1
        clear hM2 hrg1 hj hpk hsub t1 s1
        go_wp2_with (at_mapUpdate; refine wpList_update_imap KU rfl _ _ _ rfl Try.mapT rfl HM2.out.map x rfl _ rfl ?_; intro w4 hm4 t4)
        have hnew : ∀ q ∈ done, q.1 ≠ x := by
          intro q hq e
          have h1 : (done ++ left).map (·.1) |>.Nodup := (HP1.out.map _).nodup_iff.2 HND.out
          rw [List.map_append, List.nodup_append] at h1
          exact h1.2.2 q.1 (List.mem_map.2 ⟨q, hq, rfl⟩) x (List.mem_map.2 ⟨(x, v), List.mem_iff_getElem?.2 ⟨j, HJ.out⟩, rfl⟩) e
        rw [putKey_new hnew] at hm4
        have hv : v = .bool true := HK.out.val _ HPK.out
        have hrb2 : r ≠ bm2 := by omega
        have hbb : bm ≠ bm2 := by omega
        have hM4 := Lib.hid (HM2.out.del hm4 t4)
        have hR4 := Lib.hid (HRG1.out.touch t4 (by simpa using hbb) (by simpa using hrb2))
        have hT4 := Lib.hid (((TW.out.trans T1.out (by simp; have := hrx.out; have := TX.out.size; omega)).trans t4 (by simpa using hbm2)))
        clear hm4 t4 hnew hv
        simp only [Act.put]
        go_roundw
        case rel =>
          refine ⟨done ++ [(x, .bool true)], left.eraseIdx j, hR4.out, hM4.out, ?_, hT4.out⟩
          have e := (erase_perm left j _ HJ.out)
          rw [show v = .bool true from HK.out.val _ HPK.out] at e
          rw [List.append_assoc, List.singleton_append]
          exact (e.symm.append_left done).trans HP1.out
        case measure =>
          rw [hR4.out.left_len, HRG.out.left_len, List.length_eraseIdx, if_pos (List.getElem?_eq_some_iff.1 HJ.out).1]
          have := (List.getElem?_eq_some_iff.1 HJ.out).1
          omega
end Go.Proofs.Ytaendccnjiagiaa
