/-
  LocksFree: the walk.
-/
import Derived.Test.YtppgeljlmckimaaDoorLFreeLaw
import Derived.Deep.DeepCutAuto
namespace Go.Proofs.YtppgeljlmckimaaDoor.LocksFree
open Go.RowKit

/-- What stands at the head of each step: m of the first i ask. -/
structure Stands (w wx : World) (lp : Nat) (S : Lk) (own : List Nat) (i m : Nat) : Prop where
  rep : LRep wx lp S own
  plain : Lk.Free S i m
  touch : Touch [] w wx
  new : ∀ b ∈ own, w.heap.size ≤ b
theorem Stands.step {w wx wy : World} {lp : Nat} {S : Lk} {own : List Nat} {i m : Nat} (h : Stands w wx lp S own i m) (t : Touch [] wx wy) : Stands w wy lp S own i m :=
  ⟨h.rep.touch t (by simp), h.plain, h.touch.trans' t, h.new⟩
theorem Stands.inv {w wx : World} {lp : Nat} {S : Lk} {own : List Nat} {i m : Nat} (h : Stands w wx lp S own i m) : Lk.Inv [] S := h.rep.inv
def AfterAsk (w : World) (lp i m : Nat) (e : Ending) (w' : World) : Prop :=
  ∃ b r S' own', e = .returned (.tuple #[.bool b, .int .i64 r]) ∧ ((r = 0 ∧ Stands w w' lp S' own' (i + 1) (m + 1)) ∨ (r = 2 ∧ Stands w w' lp S' own' (i + 1) m))
theorem ask_stands {w wx : World} {lp : Nat} {S : Lk} {own : List Nat} {i m : Nat} (h : Stands w wx lp S own i m) (hm : m ≤ 100) (a : Option Addr) (k cap : Nat) (zs : List Int) (N : Nums wx .u64 a k cap zs) :
    Calls Tryd.prog 9 #[.pointer (some ⟨lp, 0, none⟩), .int .i64 i, .slice a k cap] wx (AfterAsk w lp i m) := by
  have hl := h.plain.len
  refine (ask_any wx lp S own h.rep i a k cap _ N (by omega)).mono ?_
  rintro e w' ⟨oa, rfl, La, ta, hoa⟩
  have hn : ∀ b ∈ oa, w.heap.size ≤ b := fun b hb => by
    rcases hoa b hb with hb | hb
    · exact h.new b hb
    · exact Nat.le_trans h.touch.size hb
  have t : Touch [] w w' := h.touch.trans ta (fun x hx => .inr (h.new x hx))
  refine ⟨_, _, (S.ask i zs).2.2, oa, rfl, ?_⟩
  rcases h.plain.ask h.inv zs with ⟨h1, h2⟩ | ⟨h1, h2⟩
  · exact .inl ⟨h1, La, h2, t, hn⟩
  · exact .inr ⟨h1, La, h2, t, hn⟩
def AfterLet (w : World) (lp i m : Nat) (e : Ending) (w' : World) : Prop :=
  ∃ v S' own', e = .returned (.tuple #[v, .int .i64 0]) ∧ Stands w w' lp S' own' i (m - 1)
theorem let_stands {w wx : World} {lp : Nat} {S : Lk} {own : List Nat} {i m : Nat} (h : Stands w wx lp S own i m) (hm : m ≤ 100) {x : Int} (hx : x ∈ S.order) :
    Calls Tryd.prog 8 #[.pointer (some ⟨lp, 0, none⟩), .int .i64 x] wx (AfterLet w lp i m) := by
  have hl := h.plain.len
  refine (let_some wx lp S own h.rep x hx (by omega)).mono ?_
  rintro e w' ⟨a, k, c, o, ⟨oa, rfl, ⟨La, hdis⟩, ta, hoa⟩, hrow, hoo⟩
  refine ⟨_, _, oa, rfl, La, h.plain.let_ h.inv hx, h.touch.trans ta (fun x hx => .inr (h.new x hx)), fun b hb => ?_⟩
  rcases hoa b hb with hb | hb
  · exact h.new b hb
  · exact Nat.le_trans h.touch.size hb

/-- the first of the first j that has all; hh: how many have. -/
def Found (S : Lk) (j hh : Nat) (f : Value) : Prop := (f = .int .i64 (-1) ∧ hh = 0 ∧ ∀ x ∈ S.order.take j, S.next x ≠ none) ∨ (∃ x ∈ S.order, f = .int .i64 x ∧ S.next x = none ∧ 0 < hh)
theorem Found.waits {S : Lk} {j hh : Nat} {f : Value} (h : Found S j hh f) {x : Int} (hx : S.order[j]? = some x) (hn : S.next x ≠ none) : Found S (j + 1) hh f := by
  rcases h with ⟨h1, h2, h3⟩ | h
  · refine .inl ⟨h1, h2, fun y hy => ?_⟩
    rw [List.take_add_one, hx] at hy
    rcases List.mem_append.1 hy with hy | hy
    · exact h3 y hy
    · simp at hy; subst hy; exact hn
  · exact .inr h

set_option maxRecDepth 100000 in
set_option maxHeartbeats 3200000 in
theorem walkN (a : Option Addr) (n cap : Nat) (l : Nat → Asking) (w : World) (A : AsksIn w a n cap l) : Calls Tryd.prog 5 #[.slice a n cap] w fun e w' => e = .returned (.bool true) ∧ Touch [] w w' := by
  have hcap := A.cap_
  have hmax := A.max
  by_cases hbig : 60 < n
  · have hbi : (60 : Int) < (n : Int) := by omega
    clear A
    go_enter Tryd.func5, Tryd.ntmps5
    go_wp2_with (go_at_call 6; refine (works_any _).mono ?_; rintro e w1 ⟨rfl, t1⟩)
    go_ret
    exact ⟨rfl, t1⟩
  · have hbi : ¬ (60 : Int) < (n : Int) := by omega
    go_enter Tryd.func5, Tryd.ntmps5
    go_wp2_with (go_at_call 7; refine (newLocks_any _).mono ?_; rintro e w1 ⟨lp, own, rfl, L1, t1, ho⟩)
    have hst : Stands w w1 lp Lk.zero own 0 0 := ⟨L1, Lk.Free.start, t1, ho⟩
    clear L1 t1 ho
    go_loopw [5, 4] (fun i c wr => ∃ k m : Nat, k ≤ n ∧ m ≤ k ∧ i = .int .i64 k ∧ c = .int .i64 m ∧ Hid (∃ S own, Stands w wr lp S own k m)) (fun i _ _ => n - (intOf i).toNat)
    case atStart => exact ⟨0, 0, by omega, by omega, rfl, rfl, _, _, hst⟩
    case round =>
      clear hst
      obtain ⟨i, m, hi, hmi, rfl, rfl, S, own, hS⟩ := hrel
      by_cases hlt : i < n
      · obtain ⟨b, off, rfl, -, hq⟩ := (A.touch hS.touch).at_ (by omega)
        obtain ⟨q0, q1, q2⟩ := hq i hlt
        have hNs := (A.nums i hlt).touch hS.touch
        have hlti : (i : Int) < (n : Int) := by omega
        obtain ⟨sa, hsa1⟩ : ∃ x, (l i).a = x := ⟨_, rfl⟩
        obtain ⟨sn, hsn1⟩ : ∃ x, (l i).n = x := ⟨_, rfl⟩
        obtain ⟨sc, hsc1⟩ : ∃ x, (l i).cap = x := ⟨_, rfl⟩
        rw [hsa1, hsn1, hsc1] at q2 hNs
        have hncap := hNs.cap_
        have hnmax := hNs.max
        have HS := Lib.hid hS
        have HA := Lib.hid A
        clear hq hsa1 hsn1 hsc1 hS A q0 q1
        by_cases hlong : 200 < sn
        · have hlo : (200 : Int) < (sn : Int) := by omega
          clear hNs
          go_wp2_with (go_at_call 6; refine (works_any _).mono ?_; rintro e w2 ⟨rfl, t2⟩)
          go_ret
          exact ⟨rfl, HS.out.touch.trans' t2⟩
        · have hlo : ¬ (200 : Int) < (sn : Int) := by omega
          obtain ⟨i0, hii, hz0, hz1, hz2⟩ := info_parts Tryd.infoU64
          have HSRC := Lib.hid hNs.src
          have HL := Lib.hid (show (u64s (l i).zs).length = sn * 1 by rw [u64s, List.length_map, hNs.len, Nat.mul_one])
          have h63 : 0 + sn ≤ maxLen := by unfold maxLen; omega
          have HO := Lib.hid (show ∀ u ∈ u64s (l i).zs, u.oneCell' = true by intro u hu; obtain ⟨x, -, rfl⟩ := List.mem_map.1 hu; rfl)
          clear hNs
          go_wp2_with (at_builtin; refine wpList_append_row _ rfl (.const (.slice none 0 0)) (.tmp 45) 27 rfl 39 i0 _ 1 8 Tryd.u64sT hii hz0 hz1 hz2 rfl (by decide) none 0 0 [] [] rfl (Row.nil _ _ _ _) sa sn sc (u64s (l i).zs) rfl HL.out HSRC.out HO.out h63 (by omega) ?_; intro a' cap' own2 w3 hrow3 ht3 hown3 _ _)
          have CL := ask_stands (HS.out.step ht3) (by omega) a' (0 + sn) cap' _ (Nums.ofRow hrow3)
          rw [Nat.zero_add] at CL
          refine CL.mono ?_
          rintro e w4 ⟨bb, r, S', own', rfl, hP⟩
          clear CL hrow3 ht3 hown3 HSRC HL HO hii hz0 hz1 hz2 q2 h63
          rcases hP with ⟨rfl, P⟩ | ⟨rfl, P⟩
          · have HP := Lib.hid P
            clear P
            go_wp2_with fail
            go_roundw
            case rel => exact ⟨i + 1, m + 1, by omega, by omega, by go_num, by go_num, S', own', HP.out⟩
            case measure => simp [intOf]; omega
          · have HP := Lib.hid P
            clear P
            go_wp2_with fail
            go_roundw
            case rel => exact ⟨i + 1, m, by omega, by omega, by go_num, rfl, S', own', HP.out⟩
            case measure => simp [intOf]; omega
      · have hlti : ¬ (i : Int) < (n : Int) := by omega
        have HS := Lib.hid hS
        clear hS A
        go_wp2_with fail
        go_loopw [8] (fun v wr => ∃ k : Nat, k ≤ m ∧ v = .int .i64 k ∧ Hid (∃ S own, Stands w wr lp S own i (m - k))) (fun v _ => m - (intOf v).toNat)
        case atStart => exact ⟨0, by omega, rfl, S, own, HS.out⟩
        case round =>
          clear HS
          obtain ⟨k, hk, rfl, S2, own2, hS⟩ := hrel
          have hlen := hS.plain.len
          by_cases hkm : k < m
          · have hkmi : (k : Int) < (m : Int) := by omega
            have CA := all_any wr lp S2 own2 hS.rep (by omega)
            obtain ⟨q, hq⟩ : ∃ q, S2.order.length = q := ⟨_, rfl⟩
            have hq0 : 0 < q := by omega
            have hq100 : q ≤ 100 := by omega
            have hqe : (q : Int) = (m : Int) - (k : Int) := by omega
            have HQE := Lib.hid hqe
            have HQ := Lib.hid hq
            have HS2 := Lib.hid hS
            have HCA := Lib.hid CA
            clear hS hlen hq CA hqe
            go_wp2_with fail
            refine HCA.out.mono ?_
            rintro e w2 ⟨a2, c2, o2, rfl, hrow, t2, ho2⟩
            rw [HQ.out] at hrow
            rw [HQ.out]
            have hqc := hrow.2.1
            have hqm := hrow.2.2.1
            unfold maxLen at hqm
            obtain ⟨rb, roff, _, rfl, -⟩ := hrow.form (by omega)
            have HROW := Lib.hid hrow
            have HT2 := Lib.hid t2
            clear hrow t2 ho2
            have HNE := Lib.hid (show S2.order ≠ [] by intro h; have := HQ.out; rw [h] at this; simp at this; omega)
            go_wp2_with fail
            go_loopw [12, 10, 11] (fun v f h wz => ∃ j hh : Nat, j ≤ q ∧ v = .int .i64 j ∧ hh ≤ j ∧ h = .int .i64 hh ∧ Touch [] w2 wz ∧ Hid (Found S2 j hh f)) (fun v _ _ _ => q - (intOf v).toNat)
            case atStart => exact ⟨0, 0, by omega, rfl, Nat.le_refl _, rfl, Touch.refl _ _, .inl ⟨rfl, rfl, by simp⟩⟩
            case round =>
              obtain ⟨j, hh, hj, rfl, hhj, rfl, tz, hF⟩ := hrel
              by_cases hjq : j < q
              · have hjqi : (j : Int) < (q : Int) := by omega
                obtain ⟨x, hxo⟩ : ∃ x, S2.order[j]? = some x := ⟨_, List.getElem?_eq_getElem (by rw [HQ.out]; exact hjq)⟩
                have hxm : x ∈ S2.order := List.mem_of_getElem? hxo
                have cx := (HROW.out.touch tz (by simp)).cellSome j (.int .i64 x) (by rw [ints, List.getElem?_map, hxo]; rfl)
                obtain ⟨e1, e2⟩ := Lk.waits_has HS2.out.inv hxm
                have CW := waits_any wr lp S2 own2 (HS2.out.rep.touch (HT2.out.trans' tz) (by simp)) x
                have CB := fun (w3 : World) (t3 : Touch [] wr w3) => has_any w3 lp S2 own2 (HS2.out.rep.touch ((HT2.out.trans' tz).trans' t3) (by simp)) x
                rw [e1] at CW
                simp only [e2] at CB
                have HTZ := Lib.hid tz
                have HCX := Lib.hid cx
                clear e1 e2 tz
                cases hn : S2.next x with
                | some p =>
                  rw [hn] at CW
                  simp only [hn, Option.isNone_some] at CB
                  have HF := Lib.hid hF
                  have HCW := Lib.hid CW
                  have HCB := Lib.hid CB
                  have HN := Lib.hid hn
                  have HXO := Lib.hid hxo
                  clear hF CW CB hn hxm hxo
                  go_wp2_with fail
                  refine HCW.out.mono ?_
                  rintro e w3 ⟨rfl, t3⟩
                  have cx3 := (t3.cell (p := ⟨rb, roff + j, none⟩) (World.block_lt_of_cell? wr _ HCX.out) (by simp)).trans HCX.out
                  have HT3 := Lib.hid t3
                  clear t3 cx
                  unfold waitsV
                  go_wp2_with fail
                  refine (HCB.out w3 HT3.out).mono ?_
                  rintro e w4 ⟨rfl, t4⟩
                  have HT4 := Lib.hid ((HTZ.out.trans' HT3.out).trans' t4)
                  clear t4 cx3
                  go_wp2_with fail
                  go_roundw
                  case rel => exact ⟨j + 1, hh, by omega, by go_num, by omega, rfl, HT4.out, HF.out.waits HXO.out (by rw [HN.out]; simp)⟩
                  case measure => simp [intOf]; omega
                | none =>
                  rw [hn] at CW
                  simp only [hn, Option.isNone_none] at CB
                  have hhi : (hh : Int) ≤ 100 := by omega
                  have HCW := Lib.hid CW
                  have HCB := Lib.hid CB
                  have HN := Lib.hid hn
                  have HXM := Lib.hid hxm
                  clear CW CB hn hxm hxo
                  rcases hF with ⟨rfl, rfl, -⟩ | ⟨y, hy, rfl, hyn, hpos⟩
                  · go_wp2_with fail
                    refine HCW.out.mono ?_
                    rintro e w3 ⟨rfl, t3⟩
                    have cx3 := (t3.cell (p := ⟨rb, roff + j, none⟩) (World.block_lt_of_cell? wr _ HCX.out) (by simp)).trans HCX.out
                    have HT3 := Lib.hid t3
                    clear t3 cx
                    unfold waitsV
                    go_wp2_with fail
                    refine (HCB.out w3 HT3.out).mono ?_
                    rintro e w4 ⟨rfl, t4⟩
                    have cx4 := (t4.cell (p := ⟨rb, roff + j, none⟩) (World.block_lt_of_cell? w3 _ cx3) (by simp)).trans cx3
                    have HT4 := Lib.hid ((HTZ.out.trans' HT3.out).trans' t4)
                    clear t4 cx3
                    go_wp2_with fail
                    go_roundw
                    case rel => exact ⟨j + 1, 1, by omega, by go_num, by omega, by go_num, HT4.out, .inr ⟨x, HXM.out, rfl, HN.out, by omega⟩⟩
                    case measure => simp [intOf]; omega
                  · have hy0 : ¬ y < 0 := by have := HS2.out.plain.lt y hy; omega
                    have HY := Lib.hid (And.intro hy hyn)
                    clear hy hyn
                    go_wp2_with fail
                    refine HCW.out.mono ?_
                    rintro e w3 ⟨rfl, t3⟩
                    have cx3 := (t3.cell (p := ⟨rb, roff + j, none⟩) (World.block_lt_of_cell? wr _ HCX.out) (by simp)).trans HCX.out
                    have HT3 := Lib.hid t3
                    clear t3 cx
                    unfold waitsV
                    go_wp2_with fail
                    refine (HCB.out w3 HT3.out).mono ?_
                    rintro e w4 ⟨rfl, t4⟩
                    have HT4 := Lib.hid ((HTZ.out.trans' HT3.out).trans' t4)
                    clear t4 cx3
                    go_wp2_with fail
                    go_roundw
                    case rel => exact ⟨j + 1, hh + 1, by omega, by go_num, by omega, by go_num, HT4.out, .inr ⟨y, HY.out.1, rfl, HY.out.2, by omega⟩⟩
                    case measure => simp [intOf]; omega
              · have hjqi : ¬ (j : Int) < (q : Int) := by omega
                rcases hF with ⟨-, -, hall⟩ | ⟨y, hy, rfl, hyn, hpos⟩
                · exfalso
                  obtain ⟨x, hx, hxn⟩ := HS2.out.plain.one HS2.out.inv HNE.out
                  rw [List.take_of_length_le (by rw [HQ.out]; omega)] at hall
                  exact hall x hx hxn
                · have hy0 : ¬ y < 0 := by have := HS2.out.plain.lt y hy; omega
                  have hne : ((q : Int) == (m : Int) - (k : Int)) = true := by rw [beq_iff_eq]; exact HQE.out
                  have hh0 : ((hh : Int) == 0) = false := by rw [beq_eq_false_iff_ne]; omega
                  have CL := let_stands (HS2.out.step (HT2.out.trans' tz)) (by omega) hy
                  have HCL := Lib.hid CL
                  clear CL hy hyn tz
                  go_wp2_with fail
                  refine HCL.out.mono ?_
                  rintro e w5 ⟨v5, S5, own5, rfl, P5⟩
                  have HP5 := Lib.hid P5
                  clear P5 hne
                  go_wp2_with fail
                  go_roundw
                  case rel => exact ⟨k + 1, by omega, by go_num, S5, own5, by have := HP5.out; rwa [show m - k - 1 = m - (k + 1) by omega] at this⟩
                  case measure => simp [intOf]; omega
          · have hkmi : ¬ (k : Int) < (m : Int) := by omega
            have hl0 : S2.order.length = 0 := by omega
            have CA := all_any wr lp S2 own2 hS.rep (by omega)
            have HS2 := Lib.hid hS
            have HCA := Lib.hid CA
            have HL0 := Lib.hid hl0
            clear hS hlen hl0 CA
            go_wp2_with fail
            refine HCA.out.mono ?_
            rintro e w2 ⟨a2, c2, o2, rfl, hrow, t2, ho2⟩
            have HT2 := Lib.hid (HS2.out.touch.trans' t2)
            rw [HL0.out]
            clear hrow t2 ho2 HCA HS2
            go_wp2_with (go_at_call 6; refine (works_any _).mono ?_; rintro e w5 ⟨rfl, t5⟩)
            go_ret
            exact ⟨rfl, HT2.out.trans' t5⟩
theorem walk (a : Option Addr) (n cap : Nat) (l : Nat → Asking) (w : World) (A : AsksIn w a n cap l) : Calls Tryd.prog 5 #[.slice a n cap] w fun e w' => e = .returned (.bool true) ∧ Below w.heap.size w w' :=
  (walkN a n cap l w A).mono fun e w' ⟨he, t⟩ => ⟨he, t.toBelow (Nat.le_refl _) (by simp)⟩
end Go.Proofs.YtppgeljlmckimaaDoor.LocksFree
