/-
  (*Locks).goes: one takes what nobody has.
-/
import Derived.Test.YtppgeljlmckimaaDoorLLook
import Derived.Test.YtppgeljlmckimaaDoorMapStep
import Derived.Deep.RegionHeldLaw
import Derived.Deep.DeepCutAuto
namespace Go.Proofs.YtppgeljlmckimaaDoor
open Go.RowKit

namespace Lk
theorem goesAll_none {S : Lk} {i : Int} (hn : S.next i = none) : S.goesAll i = (S, true) := by
  unfold goesAll
  cases h : (S.paths i).length - S.has i with
  | zero => rfl
  | succ n => unfold goes; rw [hn]
theorem goesAll_wait {S : Lk} {i p j : Int} (hn : S.next i = some p) (hh : S.held p = some j) : S.goesAll i = ({ S with queue := S.queue ++ [i] }, false) := by
  unfold goesAll
  have := (next_lt hn).1
  cases h : (S.paths i).length - S.has i with
  | zero => omega
  | succ n => unfold goes; rw [hn]; simp [hh]
theorem goesAll_take {S : Lk} {i p : Int} (hn : S.next i = some p) (hh : S.held p = none) : S.goesAll i = (S.setHas i (S.has i + 1)).goesAll i := by
  unfold goesAll
  have := (next_lt hn).1
  rw [show (S.setHas i (S.has i + 1)).has i = S.has i + 1 from up_same _ _ _, show (S.setHas i (S.has i + 1)).paths i = S.paths i from rfl]
  obtain ⟨n, h⟩ : ∃ n, (S.paths i).length - S.has i = n + 1 := ⟨(S.paths i).length - S.has i - 1, by omega⟩
  rw [h, show (S.paths i).length - (S.has i + 1) = n by omega]
  conv => lhs; unfold goes
  rw [hn]
  simp [hh]
theorem waits_wait {S : Lk} {i p : Int} (hn : S.next i = some p) : ({ S with queue := S.queue ++ [i] } : Lk).waitsFor = up S.waitsFor p (S.waitsFor p ++ [i]) := by
  funext q
  unfold waitsFor next
  simp only [List.filter_append]
  have hn' : (S.paths i)[S.has i]? = some p := hn
  by_cases e : q = p
  · subst e
    rw [up_same]
    simp [List.filter_cons, hn']
  · rw [up_other _ _ e]
    have : ¬ p = q := fun h => e h.symm
    simp [List.filter_cons, hn', this]
end Lk

/-- what the look-up of those that wait gives. -/
theorem WaitAt.get {w : World} {col : Nat → Option LTag} {p : Int} {v : Option Value} {l : List Int} (h : WaitAt w col p v l) : ∃ a n c o, v.getD (.slice none 0 0) = .slice a n c ∧ Row w 3 1 a n c o (ints l) ∧ ∀ b ∈ o, col b = some (.wait p) := by
  cases v with
  | none =>
    have : l = [] := h
    subst this
    exact ⟨none, 0, 0, [], rfl, Row.nil _ _ _ _, by simp⟩
  | some v =>
    obtain ⟨a, n, c, o, rfl, h2, h3⟩ := h
    exact ⟨a, n, c, o, rfl, h2, h3⟩
theorem waits_len {S : Lk} (p : Int) : (S.waitsFor p).length ≤ S.queue.length := List.length_filter_le _ _

/-- how many paths the cell says that one has. -/
def hasCell (w : World) (b : Nat) : Nat := match w.cell? ⟨b, 2, none⟩ with
  | some (.int _ z) => z.toNat
  | _ => 0

structure GoesRel (w : World) (lp : Nat) (col : Nat → Option LTag) (ol order objs : List Int) (P : Int → List Int) (N : Int → Nat) (i : Int) (ex : List Int) (blk : Int → Nat) (ao : Option Addr) (no co : Nat) (oo : List Nat) (bi bh bw : Nat) (ki kw : List (Int × Value)) (S0 S : Lk) (kh : List (Int × Value)) (wr : World) : Prop where
  p : LParts wr lp col ol order objs S.held S.waitsFor P (Lk.up N i (S.has i)) blk ao no co oo bi bh bw ki kh kw
  inv : Lk.Inv (i :: ex) S
  all : S.goesAll i = S0.goesAll i
  paths : S.paths = S0.paths
  order : S.order = S0.order
  queue : S.queue = S0.queue
  later : Later isRow w col wr col

def GoesPost (w : World) (lp : Nat) (col : Nat → Option LTag) (ol order objs : List Int) (P : Int → List Int) (N : Int → Nat) (i : Int) (blk : Int → Nat) (ao : Option Addr) (no co : Nat) (oo : List Nat) (bi bh bw : Nat) (ki : List (Int × Value)) (r : Lk × Bool) (e : Ending) (w' : World) : Prop :=
  e = .returned (.bool r.2) ∧ ∃ col' kh kw, LParts w' lp col' ol order objs r.1.held r.1.waitsFor P (Lk.up N i (r.1.has i)) blk ao no co oo bi bh bw ki kh kw ∧ Later isRow w col w' col'

theorem update_run {w : World} {b : Nat} {kv : List (Int × Value)} (h : IMap w KU.f b kv) (p : Int) (v : Value) :
    ∃ w', (Instr.mapUpdate 68 (.map (some b)) (.int .u64 p) v).run Tryd.prog w = .ok () w' ∧ IMap w' KU.f b (putKey kv p v) ∧ Touch [b] w w' := run_update_imap KU w Tryd.mapW h p v
def GoesWait (w : World) (lp : Nat) (col : Nat → Option LTag) (ol order objs : List Int) (P : Int → List Int) (N : Int → Nat) (i : Int) (blk : Int → Nat) (ao : Option Addr) (no co : Nat) (oo : List Nat) (bi bh bw : Nat) (ki : List (Int × Value)) (S : Lk) (w' : World) : Prop :=
  ∃ col' kh kw, LParts w' lp col' ol order objs S.held S.waitsFor P (Lk.up N i (S.has i)) blk ao no co oo bi bh bw ki kh kw ∧ Later isRow w col w' col'

set_option maxRecDepth 100000 in
set_option maxHeartbeats 3200000 in
theorem goes_any (w : World) (lp : Nat) (col : Nat → Option LTag) (ol order objs : List Int) (P : Int → List Int) (N : Int → Nat) (i : Int) (ex : List Int) (blk : Int → Nat) (ao : Option Addr) (no co : Nat) (oo : List Nat) (bi bh bw : Nat) (ki kh kw : List (Int × Value)) (S : Lk)
    (h : LParts w lp col ol order objs S.held S.waitsFor P N blk ao no co oo bi bh bw ki kh kw) (hPi : P i = S.paths i) (hNi : N i = S.has i) (hi : i ∈ objs) (hio : i ∈ S.order) (hinv : Lk.Inv (i :: ex) S) (hp : (S.paths i).length ≤ 128) (hq : S.queue.length ≤ 1024) :
    Calls Tryd.prog 24 #[.pointer (some ⟨lp, 0, none⟩), .pointer (some ⟨blk i, 0, none⟩)] w (GoesPost w lp col ol order objs P N i blk ao no co oo bi bh bw ki (S.goesAll i)) := by
  have h' := h.congr (H' := S.held) (W' := S.waitsFor) (P' := P) (N' := Lk.up N i (S.has i)) (fun _ => rfl) (fun _ => rfl) (fun j _ => ⟨rfl, by
    by_cases e : j = i
    · subst e; rw [Lk.up_same]; exact hNi.symm
    · exact Lk.up_other _ _ e⟩)
  have R0 := Lib.hid (GoesRel.mk (ex := ex) h' hinv rfl rfl rfl rfl (Later.refl w col))
  have HPI := Lib.hid hPi
  clear h h' hinv hPi hNi
  go_enter Tryd.func24, Tryd.ntmps24
  go_wp2
  go_loopw [] (fun wr => ∃ S' kh', GoesRel w lp col ol order objs P N i ex blk ao no co oo bi bh bw ki kw S S' kh' wr) (fun wr => 128 - hasCell wr (blk i))
  case atStart => exact ⟨S, kh, R0.out⟩
  case round =>
    obtain ⟨S', kh', hR⟩ := hrel
    have hob := hR.p.obj i hi
    rw [Lk.up_same, HPI.out, ← hR.paths] at hob
    obtain ⟨a, n, c, o, h1, h2, h3, h4⟩ := (fun h => h : Obj wr col (blk i) i (S'.paths i) (S'.has i) → Obj wr col (blk i) i (S'.paths i) (S'.has i)) hob
    have d1 := h1.cell 1
    have d2 := h1.cell 2
    simp at d1 d2
    have hn : n = (S'.paths i).length := by have := h2.1; simpa [u64s] using this.symm
    have hn128 : n ≤ 128 := by rw [hn, hR.paths]; exact hp
    have hcell : hasCell wr (blk i) = S'.has i := by unfold hasCell; rw [d2]; simp
    have HC := Lib.hid hcell
    have hl := hR.inv.hl i
    have HR := Lib.hid hR
    clear R0 hob hcell
    cases hx : S'.next i with
    | none =>
      have hh := Lk.next_none hx
      have e := Lk.goesAll_none hx
      have E := Lib.hid (hR.all.symm.trans e)
      have hge : ¬ (S'.has i < n) := by omega
      have hge' : ¬ (((S'.has i : Nat) : Int) < (n : Int)) := by omega
      have hd : decide (S'.has i < n) = false := decide_eq_false hge
      clear e hx hh hl h1 h2 h3 h4 hR
      go_wp2
      go_quiet (fail)
      go_wp2
      go_ret
      rw [E.out]
      exact ⟨rfl, col, kh', kw, HR.out.p.step ((Touch.refl _ _).drewN _), HR.out.later.step ((Touch.refl _ _).drewN _)⟩
    | some p =>
      obtain ⟨hlt, -⟩ := Lk.next_lt hx
      obtain ⟨k, hk⟩ : ∃ k, S'.has i = k := ⟨_, rfl⟩
      have d3 := h2.form (by have := h2.2.1; omega)
      obtain ⟨b, off, -, rfl, -⟩ := d3
      have d4 := h2.cellSome k (.int .u64 p) (by unfold u64s; rw [List.getElem?_map]; unfold Lk.next at hx; rw [hk] at hx; rw [hx]; rfl)
      rw [hk] at d2 hlt
      have hkn : (k : Int) < (n : Int) := by omega
      have hnc := h2.2.1
      have HX := Lib.hid hx
      have HK := Lib.hid hk
      have HN := Lib.hid hn
      clear hx hk hn hl h1 h2 h3 h4 hR hlt
      go_wp2
      go_quiet (fail)
      generalize hw1 : World.drewN _ _ = w1
      have t1 : Touch [] wr w1 := by subst hw1; exact (Touch.refl _ _).drewN _
      have keep : ∀ (B O : Nat) (v : Value), wr.cell? ⟨B, O, none⟩ = some v → w1.cell? ⟨B, O, none⟩ = some v := fun B O v hc => (t1.cell (p := ⟨B, O, none⟩) (World.block_lt_of_cell? _ _ hc) (by simp)).trans hc
      have d1 := keep _ _ _ d1
      have d2 := keep _ _ _ d2
      have d4 := keep _ _ _ d4
      have T1 := Lib.hid t1
      clear hw1 keep t1
      go_wp2
      go_quiet (fail)
      generalize hw2 : World.drewN _ _ = w2
      have t2 : Touch [] w1 w2 := by subst hw2; exact (Touch.refl _ _).drewN _
      have T2 := Lib.hid (T1.out.trans' t2)
      clear hw2 t2 d1 d2 d4
      have hP2 := HR.out.p.step T2.out
      have c2 := hP2.at_.cell 2
      simp at c2
      have hmh := hP2.held
      have hat := hP2.heldAt p
      have HP2 := Lib.hid hP2
      clear hP2
      cases hh : S'.held p with
      | some j =>
        rw [hh, Option.map_some] at hat
        have HH := Lib.hid hh
        clear hh
        go_wp2_with (at_lookup; refine wpList_lookup_imap KU rfl _ _ true rfl Tryd.mapH (zeroInt _) rfl hmh p rfl ?_; simp only [hat, Option.getD_some, Option.isSome_some, if_true])
        clear hat hmh c2
        go_upto_region 6 with (fail)
        go_cut [] (fun wx => GoesWait w lp col ol order objs P N i blk ao no co oo bi bh bw ki (S.goesAll i).1 wx)
        case first =>
          have hP3 := HP2.out.step (Touch.refl [] w2).drew
          obtain ⟨wa, wn, wc, wo, hV, hrow, hco⟩ := (hP3.waitsAt p).get
          have hob := hP3.obj i hi
          rw [Lk.up_same, HPI.out, ← HR.out.paths] at hob
          obtain ⟨a3, n3, c3', o3, g1, -, g3, -⟩ := hob
          have d0 := g1.cell 0
          have c3 := hP3.at_.cell 3
          simp at d0 c3
          have hV2 : ∀ W : World, Touch [] w2.drew W → (Instr.lookup 68 (.map (some bw)) (.int .u64 p) false).run Tryd.prog W = .ok (.slice wa wn wc) W := by
            intro W t
            have := run_lookup_imap KU W Tryd.mapW (zeroInts W) (hP3.step t).waits p false
            rw [hV] at this
            exact this
          have hrun1 := hV2 w2.drew (Touch.refl _ _)
          have hrun2 := hV2 (w2.alloc (.cells #[.int .i64 i] 3)).drew ((Touch.refl [] w2.drew).alloc (.cells #[.int .i64 i] 3))
          have hwn : wn = (S'.waitsFor p).length := by have := hrow.1; simpa [ints] using this.symm
          have hwl : wn ≤ 1024 := by have := waits_len (S := S') p; rw [HR.out.queue] at this; omega
          have hbw : bw ∉ wo := fun hm => by have := hco bw hm; rw [hP3.c_bw] at this; cases this
          have hlp : lp ∉ wo := fun hm => by have := hco lp hm; rw [hP3.c_lp] at this; cases this
          have hbi : blk i ∉ wo := fun hm => by have := hco _ hm; rw [g3] at this; cases this
          have lbw := hP3.waits.lt
          have lbi := g1.lt
          have llp := hP3.at_.lt
          have hmw := hP3.waits
          have hne1 : lp ≠ bw := fun e => by have := hP3.c_lp; rw [e, hP3.c_bw] at this; cases this
          have hne2 : blk i ≠ bw := fun e => by rw [e, hP3.c_bw] at g3; cases g3
          have hS : ∀ W, Touch (bw :: wo) w2.drew W → W.cell? ⟨lp, 3, none⟩ = some (.map (some bw)) ∧ W.cell? ⟨blk i, 0, none⟩ = some (.int .i64 i) := fun W t => by
            refine ⟨(t.cell (p := ⟨lp, 3, none⟩) llp (by simp [hne1, hlp])).trans ?_, (t.cell (p := ⟨blk i, 0, none⟩) lbi (by simp [hne2, hbi])).trans ?_⟩
            · simpa using hP3.at_.cell 3
            · simpa using g1.cell 0
          have HS := Lib.hid hS
          clear hS
          have HP3 := Lib.hid hP3
          have T3 := Lib.hid (T2.out.trans' (Touch.refl [] w2).drew)
          have HCO := Lib.hid hco
          have HWN := Lib.hid hwn
          have HG1 := Lib.hid g1
          clear hP3 g1 hV hV2 hco hwn g3
          obtain ⟨i0, hii, hz0, hz1, hz2⟩ := info_parts Tryd.infoInt
          go_region_held_law (fun W => W.cell? ⟨lp, 3, none⟩ = some (.map (some bw)) ∧ W.cell? ⟨blk i, 0, none⟩ = some (.int .i64 i)) (first | assumption | go_keep) ((refine step_append_row _ (by rfl) _ _ _ (by rfl) 3 i0 _ 1 8 Tryd.intsT hii hz0 hz1 hz2 rfl (by decide) wa wn wc wo _ (by rfl) (hrow.alloc _) (some ⟨w2.heap.size, 0, none⟩) 1 1 [.int .i64 i] (by rfl) (by rfl) (.inr ⟨_, rfl, World.news_of_block (cs := #[.int .i64 i]) (t := 3) (fr := (0, 0)) (heap_alloc_new w2.drew _)⟩) (by simp [Value.oneCell']) (by unfold maxLen; omega) (by omega) ?_; intro a' cap' own' w5 hrow5 ht5 hown5 _ _; have hmw5 := (hmw.alloc (.cells #[.int .i64 i] 3)).touch ht5 hbw; have hS5 := HS.out w5 (((Touch.refl [] w2.drew).alloc (.cells #[.int .i64 i] 3)).mono (l' := bw :: wo) (by simp) |>.trans ht5 (fun b hb => .inl (by simp [hb]))); obtain ⟨w6, hupd, hm6, t6⟩ := update_run hmw5 p (.slice a' (wn + 1) cap'); have hS6 := HS.out w6 ((((Touch.refl [] w2.drew).alloc (.cells #[.int .i64 i] 3)).mono (l' := bw :: wo) (by simp) |>.trans ht5 (fun b hb => .inl (by simp [hb]))).trans t6 (fun b hb => .inl (by simp at hb; simp [hb])))))
          all_goals go_wp2_with fail
          all_goals
            go_meet
            have e := Lk.goesAll_wait HX.out HH.out
            rw [← HR.out.all, e]
            have tt := ((Touch.refl [] w2.drew).alloc (.cells #[.int .i64 i] 3)).mono (l' := wo) (by simp) |>.trans ht5 (fun b hb => .inl hb)
            have hfin := HP3.out.setWait (xs := S'.waitsFor p ++ [i]) tt (fun x hx _ => HCO.out x hx) (by simpa [ints] using hrow5) (fun b hb => by
              rcases hown5 with h | h
              · rw [h] at hb; exact .inl hb
              · rw [h] at hb; simp at hb; subst hb; exact .inr (by simp)) HCO.out hm6 t6
            rw [← Lk.waits_wait HX.out] at hfin
            refine ⟨_, _, _, hfin, (HR.out.later.step T3.out).trans (Later.of ((tt.mono (l' := bw :: wo) (fun x hx => .inl (by simp [hx]))).trans' (t6.mono (by simp))) (fun x hx _ => ?_) (fun b hb => paint_old _ _ _ hb))⟩
            rcases List.mem_cons.1 hx with rfl | hx
            · exact ⟨_, HP3.out.c_bw, by simp [isRow]⟩
            · exact ⟨_, HCO.out x hx, by simp [isRow]⟩
        case rest =>
          have e := Lk.goesAll_wait HX.out HH.out
          have e2 : (S.goesAll i).2 = false := by rw [← HR.out.all, e]
          have E2 := Lib.hid e2
          obtain ⟨col', kh', kw', hfin, hlat⟩ := hcut
          have HF := Lib.hid hfin
          have HL := Lib.hid hlat
          clear e e2 hfin hlat
          go_wp2_with fail
          go_ret
          exact ⟨by rw [E2.out]; rfl, col', kh', kw', HF.out, HL.out⟩
      | none =>
        rw [hh, Option.map_none] at hat
        have HH := Lib.hid hh
        clear hh
        go_wp2_with (at_lookup; refine wpList_lookup_imap KU rfl _ _ true rfl Tryd.mapH (zeroInt _) rfl hmh p rfl ?_; simp only [hat, Option.getD_none, Option.isSome_none, if_true])
        clear hat hmh c2
        refine region_tail 9 (by kernel_rfl) (by kernel_rfl) (fun w3 t3 => ?_)
        have hP3 := HP2.out.step t3
        have hob := hP3.obj i hi
        rw [Lk.up_same, HPI.out, ← HR.out.paths] at hob
        obtain ⟨a3, n3, c3', o3, g1, g2, g3, g4⟩ := hob
        have d0 := g1.cell 0
        have c2 := hP3.at_.cell 2
        simp at d0 c2
        obtain ⟨w4, hupd, hm4, t4⟩ := run_update_imap KU w3 Tryd.mapH hP3.held p (.int .i64 i)
        have hupd : (Instr.mapUpdate 67 (.map (some bh)) (.int .u64 p) (.int .i64 i)).run Tryd.prog w3 = .ok () w4 := hupd
        have hne : blk i ≠ bh := fun e => by rw [e, hP3.c_bh] at g3; cases g3
        have hno : blk i ∉ o3 := fun hm => by have := g4 _ hm; rw [g3] at this; cases this
        have hP4 := hP3.putHeld hm4 t4
        have hA4 := g1.touch t4 (by simpa using hne)
        have hR4 := g2.touch t4 (fun b hb => by simp; rintro rfl; have := g4 _ hb; rw [hP3.c_bh] at this; cases this)
        have d2 := hA4.cell 2
        have f2 := hA4.frozen 2
        simp at d2
        rw [HK.out] at d2
        have lbh := hP3.held.lt
        have lbi := g1.lt
        have HP4 := Lib.hid hP4
        have T4 := Lib.hid t4
        have T3 := Lib.hid (T2.out.trans' t3)
        have HA4 := Lib.hid hA4
        have HR4 := Lib.hid hR4
        have C1 := Lib.hid hP3.c_bh
        have C2 := Lib.hid g3
        have C3 := Lib.hid g4
        clear t3 t4 hP3 hP4 hA4 hR4 hm4 g1 g2 g3 g4
        simp only [List.take_succ_cons, List.take_zero, List.drop_succ_cons, List.drop_zero]
        repeat still_step
        refine wpStill_nil ?_
        have hA5 : At (w4.setCell ⟨blk i, 2, none⟩ (.int .i64 ((k : Int) + 1))) (blk i) 75 [.int .i64 i, .slice a3 n3 c3', .int .i64 ((k + 1 : Nat) : Int)] := by
          have := HA4.out.set 2 (.int .i64 ((k : Int) + 1))
          simpa using this
        have HA5 := Lib.hid hA5
        clear hA5
        go_wp2
        go_roundw
        case rel =>
          have hio' : i ∈ S'.order := by rw [HR.out.order]; exact hio
          have e := Lk.goesAll_take HX.out HH.out
          have hO : Obj (w4.setCell ⟨blk i, 2, none⟩ (.int .i64 ((k : Int) + 1))) col (blk i) i (S'.paths i) (k + 1) :=
            ⟨a3, n3, c3', o3, HA5.out, HR4.out.touch ((Touch.refl [blk i] _).setCell _ (by simp) _) (fun b hb => by simp; rintro rfl; exact hno hb), C2.out, C3.out⟩
          rw [← HR.out.paths] at HPI
          have hfin := HP4.out.setObj (i := i) (n := k + 1) (by rw [HPI.out]; exact hO) ((Touch.refl [blk i] _).setCell _ (by simp) _) C2.out
          have eH : (fun q => if q = p then some i else S'.held q) = (S'.setHas i (k + 1)).held := by
            funext q
            have := Lk.held_take HR.out.inv hio' (by simp) HX.out HH.out q
            rw [HK.out] at this
            exact this.symm
          have eW : S'.waitsFor = (S'.setHas i (k + 1)).waitsFor := by
            funext q
            exact (Lk.waits_take HR.out.inv (by simp) _ q).symm
          rw [eH, eW, Lk.up_up] at hfin
          have hinv := HR.out.inv.take hio' (by simp) HX.out HH.out
          rw [HK.out] at hinv e
          refine ⟨S'.setHas i (k + 1), _, by rw [show (S'.setHas i (k + 1)).has i = k + 1 from Lk.up_same _ _ _]; exact hfin, hinv, e.symm.trans HR.out.all, HR.out.paths, HR.out.order, HR.out.queue, (HR.out.later.step T3.out).trans (Later.of (T4.out.mono (l' := [bh, blk i]) (by simp) |>.setCell _ (by simp) _) (fun x hx _ => ?_) (fun _ _ => rfl))⟩
          simp at hx
          rcases hx with rfl | rfl
          · exact ⟨_, C1.out, by simp [isRow]⟩
          · exact ⟨_, C2.out, by simp [isRow]⟩
        case measure =>
          have h5 := HA5.out.cell 2
          simp at h5
          have e5 : hasCell (w4.setCell ⟨blk i, 2, none⟩ (.int .i64 ((k : Int) + 1))) (blk i) = k + 1 := by unfold hasCell; rw [h5]; simp
          rw [e5, HC.out, HK.out]
          omega
end Go.Proofs.YtppgeljlmckimaaDoor
