/-
  LocksAlone: the walk.
-/
import Derived.Test.YtppgeljlmckimaaDoorLAloneLaw
import Derived.Deep.OwnRows
import Derived.Laws.OwnMore
import Derived.Deep.DeepCutAuto
namespace Go.Proofs.YtppgeljlmckimaaDoor.LocksAlone
open Go.RowKit

/-- What stands at the head of each step. -/
structure Stands (w wx : World) (lp ab n : Nat) (l : Nat → Asking) (S : Lk) (own : List Nat) (ga : Nat → Bool) (i : Nat) : Prop where
  rep : LRep wx lp S own
  plain : Lk.Alone S ga l i
  cells : At wx ab 27 (askCells l ga n)
  touch : Touch [] w wx
  new : ∀ b ∈ own, w.heap.size ≤ b
  abn : w.heap.size ≤ ab
  abo : ab ∉ own
theorem Stands.step {w wx wy : World} {lp ab n : Nat} {l : Nat → Asking} {S : Lk} {own : List Nat} {ga : Nat → Bool} {i : Nat} (h : Stands w wx lp ab n l S own ga i) (t : Touch [] wx wy) : Stands w wy lp ab n l S own ga i :=
  ⟨h.rep.touch t (by simp), h.plain, h.cells.touch t (by simp), h.touch.trans' t, h.new, h.abn, h.abo⟩
theorem Stands.inv {w wx : World} {lp ab n : Nat} {l : Nat → Asking} {S : Lk} {own : List Nat} {ga : Nat → Bool} {i : Nat} (h : Stands w wx lp ab n l S own ga i) : Lk.Inv [] S := h.rep.inv

theorem Tryd.infoU64s : (Tryd.prog.info? 27).map (fun i => (i.zero, i.size, i.bytes)) = some (some (.slice none 0 0), 1, 24) := by kernel_rfl
theorem Tryd.ssT : Tryd.prog.underlying 26 = some (.slice 27) := by kernel_rfl

/-- one lets go: what stands behind the call. -/
def AfterLet (w wx : World) (lp ab n : Nat) (l : Nat → Asking) (own : List Nat) (ga : Nat → Bool) (i m : Nat) (e : Ending) (w' : World) : Prop :=
  ∃ v1 v2 S' own', e = .returned (.tuple #[v1, v2]) ∧ LRep w' lp S' own' ∧ Lk.Alone S' (Lk.setB ga m false) l (i + 1) ∧ (∀ b ∈ own', w.heap.size ≤ b) ∧ ab ∉ own' ∧ Touch own wx w' ∧ At w' ab 27 (askCells l ga n)
theorem let_stands {w wx : World} {lp ab n : Nat} {l : Nat → Asking} {S : Lk} {own : List Nat} {ga : Nat → Bool} {i : Nat} (h : Stands w wx lp ab n l S own ga i) (hi : i ≤ 100) (m : Nat) :
    Calls Tryd.prog 8 #[.pointer (some ⟨lp, 0, none⟩), .int .i64 m] wx (AfterLet w wx lp ab n l own ga i m) := by
  have hl := h.plain.len
  have hab := h.cells.lt
  by_cases hm : (m : Int) ∈ S.order
  · refine (let_some wx lp S own h.rep m hm (by omega)).mono ?_
    rintro e w' ⟨a, k, c, o, ⟨oa, rfl, ⟨La, hdis⟩, ta, hoa⟩, hrow, hoo⟩
    refine ⟨_, _, _, oa, rfl, La, h.plain.let_ h.inv m, fun b hb => ?_, fun hb => ?_, ta, h.cells.touch ta h.abo⟩
    · rcases hoa b hb with hb | hb
      · exact h.new b hb
      · exact Nat.le_trans h.touch.size hb
    · rcases hoa _ hb with hb | hb
      · exact h.abo hb
      · omega
  · refine (let_none wx lp S own h.rep m hm).mono ?_
    rintro e w' ⟨rfl, t⟩
    exact ⟨_, _, S, own, rfl, h.rep.touch t (by simp), h.plain.step m, h.new, h.abo, t.mono (by simp), h.cells.touch t (by simp)⟩
/-- one asks: what stands behind the call. -/
def AfterAsk (w wx : World) (lp ab n : Nat) (l : Nat → Asking) (own : List Nat) (ga : Nat → Bool) (i : Nat) (e : Ending) (w' : World) : Prop :=
  ∃ b r S' own', e = .returned (.tuple #[.bool b, .int .i64 r]) ∧ LRep w' lp S' own' ∧ ((r = 0 ∧ Lk.Alone S' (Lk.setB ga i true) l (i + 1)) ∨ (r = 2 ∧ Lk.Alone S' ga l (i + 1))) ∧ (∀ b ∈ own', w.heap.size ≤ b) ∧ ab ∉ own' ∧ Touch own wx w' ∧ At w' ab 27 (askCells l ga n)
theorem ask_stands {w wx : World} {lp ab n : Nat} {l : Nat → Asking} {S : Lk} {own : List Nat} {ga : Nat → Bool} {i : Nat} (h : Stands w wx lp ab n l S own ga i) (hi : i ≤ 100) (a : Option Addr) (k cap : Nat) (N : Nums wx .u64 a k cap (l i).zs) :
    Calls Tryd.prog 9 #[.pointer (some ⟨lp, 0, none⟩), .int .i64 i, .slice a k cap] wx (AfterAsk w wx lp ab n l own ga i) := by
  have hl := h.plain.len
  have hab := h.cells.lt
  refine (ask_any wx lp S own h.rep i a k cap _ N (by omega)).mono ?_
  rintro e w' ⟨oa, rfl, La, ta, hoa⟩
  refine ⟨_, _, _, oa, rfl, La, h.plain.ask, fun b hb => ?_, fun hb => ?_, ta, h.cells.touch ta h.abo⟩
  · rcases hoa b hb with hb | hb
    · exact h.new b hb
    · exact Nat.le_trans h.touch.size hb
  · rcases hoa _ hb with hb | hb
    · exact h.abo hb
    · omega

set_option maxRecDepth 100000 in
set_option maxHeartbeats 3200000 in
theorem walkN (a : Option Addr) (n cap : Nat) (l : Nat → Asking) (w : World) (A : AsksIn w a n cap l) : Calls Tryd.prog 3 #[.slice a n cap] w fun e w' => e = .returned (.bool true) ∧ Touch [] w w' := by
  have hcap := A.cap_
  have hmax := A.max
  by_cases hbig : 100 < n
  · have hbi : (100 : Int) < (n : Int) := by omega
    clear A
    go_enter Tryd.func3, Tryd.ntmps3
    go_wp2_with (go_at_call 6; refine (works_any _).mono ?_; rintro e w1 ⟨rfl, t1⟩)
    go_ret
    exact ⟨rfl, t1⟩
  · have hbi : ¬ (100 : Int) < (n : Int) := by omega
    have hmk := fun W : World => run_make_row' 26 27 (.slice none 0 0) 24 Tryd.ssT Tryd.infoU64s rfl .i64 .i64 n (by omega) (by omega) W
    go_enter Tryd.func3, Tryd.ntmps3
    go_wp2_with (go_at_call 7; refine (newLocks_any _).mono ?_; rintro e w1 ⟨lp, own, rfl, L1, t1, ho⟩)
    have hc1 : At (w1.alloc (.cells (madeCells #[.slice none 0 0] n) 27)) w1.heap.size 27 (askCells l (fun _ => false) n) := by
      have e : madeCells #[.slice none 0 0] n = (askCells l (fun _ => false) n).toArray := by rw [askCells_none, ← toList_madeCells_one]
      rw [e]
      exact At.new w1 27 _
    have hst : Stands w (w1.alloc (.cells (madeCells #[.slice none 0 0] n) 27)) lp w1.heap.size n l Lk.zero own (fun _ => false) 0 :=
      ⟨L1.touch ((Touch.refl [] w1).alloc _) (by simp), Lk.Alone.start l, hc1, t1.alloc _, ho, t1.size, fun hm => by have := L1.lt _ hm; omega⟩
    clear hmk hc1 L1 t1 ho
    go_loopw [5] (fun i wr => ∃ k : Nat, k ≤ n ∧ i = .int .i64 k ∧ Hid (∃ S own ga, Stands w wr lp w1.heap.size n l S own ga k)) (fun i _ => n - (intOf i).toNat)
    case atStart => exact ⟨0, by omega, rfl, _, _, _, hst⟩
    case round =>
      clear hst
      obtain ⟨i, hi, rfl, S, own, ga, hS⟩ := hrel
      by_cases hlt : i < n
      · obtain ⟨b, off, rfl, -, hq⟩ := (A.touch hS.touch).at_ (by omega)
        obtain ⟨q0, q1, q2⟩ := hq i hlt
        have hNs := (A.nums i hlt).touch hS.touch
        have hlti : (i : Int) < (n : Int) := by omega
        obtain ⟨lt, hlt1⟩ : ∃ x, (l i).lt = x := ⟨_, rfl⟩
        obtain ⟨sid, hid1⟩ : ∃ x, (l i).id = x := ⟨_, rfl⟩
        obtain ⟨sa, hsa1⟩ : ∃ x, (l i).a = x := ⟨_, rfl⟩
        obtain ⟨sn, hsn1⟩ : ∃ x, (l i).n = x := ⟨_, rfl⟩
        obtain ⟨sc, hsc1⟩ : ∃ x, (l i).cap = x := ⟨_, rfl⟩
        rw [hlt1] at q0
        rw [hid1] at q1
        rw [hsa1, hsn1, hsc1] at q2 hNs
        have hncap := hNs.cap_
        have hnmax := hNs.max
        have HC := Lib.hid (And.intro hsa1 (And.intro hsn1 hsc1))
        have HS := Lib.hid hS
        have HN := Lib.hid hNs
        have HA := Lib.hid A
        clear hq hlt1 hid1 hsa1 hsn1 hsc1 hS hNs A
        by_cases hlong : 200 < sn
        · have hlo : (200 : Int) < (sn : Int) := by omega
          go_wp2_with (go_at_call 6; refine (works_any _).mono ?_; rintro e w2 ⟨rfl, t2⟩)
          go_ret
          exact ⟨rfl, (HS.out.touch.alloc _).trans' t2⟩
        · have hlo : ¬ (200 : Int) < (sn : Int) := by omega
          go_upto_region 13 with (fail)
          go_cut [50] (fun bv wx => bv = .bool (decide (lt = true ∧ 0 ≤ sid ∧ sid < (i : Int))) ∧ Hid (At wx wr.heap.size 29 [.bool lt, .int .i64 sid, .slice sa sn sc] ∧ Touch [] wr wx))
          case first =>
            have fin : Hid (At (wr.alloc (.cells #[.bool lt, .int .i64 sid, .slice sa sn sc] 29)) wr.heap.size 29 [.bool lt, .int .i64 sid, .slice sa sn sc] ∧ Touch [] wr (wr.alloc (.cells #[.bool lt, .int .i64 sid, .slice sa sn sc] 29))) :=
              Lib.hid ⟨At.new wr _ _, (Touch.refl [] wr).alloc _⟩
            cases lt with
            | false =>
              go_wp2_with fail
              go_meet
              exact ⟨by simp, fin⟩
            | true =>
              by_cases h0 : 0 ≤ sid
              · by_cases h1 : sid < (i : Int)
                · go_wp2_with fail
                  go_meet
                  exact ⟨by simp [h0, h1], fin⟩
                · go_wp2_with fail
                  go_meet
                  exact ⟨by simp; omega, fin⟩
              · go_wp2_with fail
                go_meet
                exact ⟨by simp; omega, fin⟩
          case rest =>
            obtain ⟨rfl, hcx, hct⟩ := hcut
            clear q0 q1 q2
            have d1 := hcx.cell 1
            have d2 := hcx.cell 2
            simp at d1 d2
            have S1 := HS.out.step hct
            by_cases hdo : lt = true ∧ 0 ≤ sid ∧ sid < (i : Int)
            · rw [decide_eq_true hdo]
              obtain ⟨-, h0, h1⟩ := hdo
              obtain ⟨m, rfl⟩ : ∃ m : Nat, sid = m := ⟨sid.toNat, by omega⟩
              have hmn : (m : Int) < (n : Int) := by omega
              have hm0 : (0 : Int) ≤ (m : Int) := by omega
              have CL := let_stands S1 (by omega) m
              have hab := S1.abn
              have HCX := Lib.hid hcx
              have HCT := Lib.hid hct
              have HS1 := Lib.hid S1
              clear hcx hct S1 h0 h1
              go_wp2_with fail
              refine CL.mono ?_
              rintro e w2 ⟨v1, v2, S', own', rfl, La, Pa, hn, ho, ta, ca⟩
              clear d1 d2 CL
              have hsb : wr.heap.size ∉ own := fun hb => by have := HS.out.rep.lt _ hb; omega
              have d1 := (HCX.out.touch ta hsb).cell 1
              simp at d1
              have ca1 := ca.cell m
              rw [askCells_get l ga n m (by omega)] at ca1
              have ca2 := fun o => ca.frozen o
              have cal := ca.lt
              have HL := Lib.hid La
              have HP := Lib.hid Pa
              have HT := Lib.hid (HS1.out.touch.trans ta (fun x hx => .inr (HS1.out.new x hx)))
              have HCA := Lib.hid ca
              have HN' := Lib.hid (And.intro hn ho)
              clear La Pa ta ca hn ho hsb
              go_wp2_with fail
              go_roundw
              case rel =>
                have h1 := HCA.out.set m (askCell l false m)
                rw [askCells_set] at h1
                exact ⟨i + 1, by omega, by go_num, S', own', _, ⟨HL.out.touch ((Touch.refl [w1.heap.size] w2).setCell _ (by simp) _) (by have := HN'.out.2; simp; intro b hb hbe; exact this (hbe ▸ hb)), HP.out, h1, (HT.out.trans ((Touch.refl [w1.heap.size] w2).setCell _ (by simp) _) (by simpa using hab)), HN'.out.1, hab, HN'.out.2⟩⟩
              case measure => simp [intOf]; omega
            · rw [decide_eq_false hdo]
              clear hdo
              obtain ⟨i0, hii, hz0, hz1, hz2⟩ := info_parts Tryd.infoU64
              have N1 := HN.out.touch hct
              have HSRC := Lib.hid N1.src
              have HL := Lib.hid (show (u64s (l i).zs).length = sn * 1 by rw [u64s, List.length_map, N1.len, Nat.mul_one])
              have h63 : 0 + sn ≤ maxLen := by unfold maxLen; omega
              have HO := Lib.hid (show ∀ u ∈ u64s (l i).zs, u.oneCell' = true by intro u hu; obtain ⟨x, -, rfl⟩ := List.mem_map.1 hu; rfl)
              have HCX := Lib.hid hcx
              have HS1 := Lib.hid S1
              have hin : (i : Int) < (n : Int) := hlti
              have hi0 : (0 : Int) ≤ (i : Int) := by omega
              have hwc : wr.heap.size + 1 ≤ wc.heap.size := by have := hcx.lt; omega
              clear N1 hcx hct S1
              go_wp2_with (at_builtin; refine wpList_append_row _ rfl (.const (.slice none 0 0)) (.tmp 63) 27 rfl 39 i0 _ 1 8 Tryd.u64sT hii hz0 hz1 hz2 rfl (by decide) none 0 0 [] [] rfl (Row.nil _ _ _ _) sa sn sc (u64s (l i).zs) rfl HL.out HSRC.out HO.out h63 (by omega) ?_; intro a' cap' own2 w3 hrow3 ht3 hown3 _ _)
              have CL := ask_stands (HS1.out.step ht3) (by omega) a' (0 + sn) cap' (Nums.ofRow hrow3)
              rw [Nat.zero_add] at CL
              refine CL.mono ?_
              rintro e w4 ⟨bb, r, S', own', rfl, La, Pa, hn, ho, ta, ca⟩
              have hsb : wr.heap.size ∉ own := fun hb => by have := HS.out.rep.lt _ hb; omega
              have hfix : ∀ b ∈ own', b ≠ w1.heap.size := fun b hb e => ho (e ▸ hb)
              have hab := HS1.out.abn
              have T4 := Lib.hid ((HS1.out.touch.trans' ht3).trans ta (fun x hx => .inr (HS1.out.new x hx)))
              have HX4 := Lib.hid ((HCX.out.touch ht3 (by simp)).touch ta hsb)
              have HLa := Lib.hid La
              have HPa := Lib.hid Pa
              have HCA := Lib.hid ca
              have HNO := Lib.hid (And.intro hn ho)
              clear La Pa ta ca hn ho CL hrow3 ht3 hown3 HSRC HL HO d1 d2 hii hz0 hz1 hz2 hsb
              go_upto_if 69 with (fail)
              go_cut [] (fun wx => Hid (∃ S own ga, Stands w wx lp w1.heap.size n l S own ga (i + 1)))
              case first =>
                have d2 := HX4.out.cell 2
                simp at d2
                rcases HPa.out with ⟨rfl, P⟩ | ⟨rfl, P⟩
                · have ca1 := HCA.out.cell i
                  rw [askCells_get l ga n i (by omega)] at ca1
                  have ca2 := fun o => HCA.out.frozen o
                  have cal := HCA.out.lt
                  have HP := Lib.hid P
                  clear P
                  go_wp2_with fail
                  go_meet
                  have h1 := HCA.out.set i (askCell l true i)
                  rw [askCells_set] at h1
                  obtain ⟨e1, e2, e3⟩ := HC.out
                  have e4 : askCell l true i = .slice sa sn sc := by unfold askCell; rw [if_pos rfl, e1, e2, e3]
                  rw [e4] at h1
                  exact ⟨S', own', _, ⟨HLa.out.touch ((Touch.refl [w1.heap.size] w4).setCell ⟨w1.heap.size, i, none⟩ (by simp) (.slice sa sn sc)) (by simpa using hfix), HP.out, h1, T4.out.trans ((Touch.refl [w1.heap.size] w4).setCell ⟨w1.heap.size, i, none⟩ (by simp) (.slice sa sn sc)) (by simpa using hab), HNO.out.1, hab, HNO.out.2⟩⟩
                · have HP := Lib.hid P
                  clear P d2
                  go_wp2_with fail
                  go_meet
                  exact ⟨S', own', ga, ⟨HLa.out, HP.out, HCA.out, T4.out, HNO.out.1, hab, HNO.out.2⟩⟩
              case rest =>
                obtain ⟨S', own', ga', hS'⟩ := hcut
                clear HNO HCA HPa HLa HX4 T4 hfix hab HS1 h63 HCX hi0 hwc i0
                have HS2 := Lib.hid hS'
                clear hS'
                go_wp2_with fail
                go_loopw [9] (fun v wq => ∃ k : Nat, k ≤ i + 1 ∧ v = .int .i64 k ∧ Touch [] wc wq) (fun v _ => i + 1 - (intOf v).toNat)
                case atStart => exact ⟨0, by omega, rfl, Touch.refl _ _⟩
                case round =>
                  obtain ⟨k, hk, rfl, tq⟩ := hrel
                  by_cases hki : (k : Int) ≤ (i : Int)
                  · have HTQ := Lib.hid tq
                    clear tq
                    go_wp2_with fail
                    go_loopw [10] (fun v wz => ∃ m : Nat, v = .int .i64 m ∧ Touch [] wc wz) (fun v _ => (l k).n - (intOf v).toNat)
                    case atStart => exact ⟨0, rfl, HTQ.out⟩
                    case round =>
                      clear HTQ
                      obtain ⟨m, rfl, tz⟩ := hrel
                      have hkn : (k : Int) < (n : Int) := by omega
                      have hk0 : (0 : Int) ≤ (k : Int) := by omega
                      have ce := (HS2.out.cells.touch tz (by simp)).cell k
                      rw [askCells_get l ga' n k (by omega)] at ce
                      unfold askCell at ce
                      by_cases hgk : ga' k = true
                      · rw [if_pos hgk] at ce
                        have hNk := (HA.out.nums k (by omega)).touch (HS2.out.touch.trans' tz)
                        obtain ⟨ka, hka⟩ : ∃ x, (l k).a = x := ⟨_, rfl⟩
                        obtain ⟨kn, hkn2⟩ : ∃ x, (l k).n = x := ⟨_, rfl⟩
                        obtain ⟨kc, hkc⟩ : ∃ x, (l k).cap = x := ⟨_, rfl⟩
                        rw [hka, hkn2, hkc] at ce hNk
                        have kcap := hNk.cap_
                        have kmax := hNk.max
                        by_cases hmn : (m : Int) < (kn : Int)
                        · have CH := has_any wr lp S' own' (HS2.out.rep.touch tz (by simp)) k
                          cases hb : S'.hasB k with
                          | true =>
                            rw [hb] at CH
                            obtain ⟨pb, po, rfl, -, hpc⟩ := hNk.at_ (by omega)
                            have pc := hpc m (by omega)
                            have hp : (l k).zs.getD m 0 ∈ (l k).zs := by have := hNk.len; simp [List.getD, show m < (l k).zs.length by omega]
                            have hh := HS2.out.plain.check HS2.out.inv hgk hb hp
                            obtain ⟨p, hpp⟩ : ∃ p, (l k).zs.getD m 0 = p := ⟨_, rfl⟩
                            rw [hpp] at pc hh
                            have hm0 : (0 : Int) ≤ (m : Int) := by omega
                            have CO := fun (w2 : World) (t2 : Touch [] wc w2) => holder_any w2 lp S' own' (HS2.out.rep.touch t2 (by simp)) p
                            rw [hh] at CO
                            have HCO := Lib.hid CO
                            have HCE := Lib.hid ce
                            have HPC := Lib.hid pc
                            have HCH := Lib.hid CH
                            have HTZ := Lib.hid tz
                            have HKK := Lib.hid hkn2
                            clear CO pc CH tz hpc hNk hp hh hpp hgk hb hka hkc hkn2
                            go_wp2_with fail
                            refine HCH.out.mono ?_
                            rintro e wh ⟨rfl, th⟩
                            have tzh := HTZ.out.trans' th
                            have ce2 := (th.cell (p := ⟨w1.heap.size, k, none⟩) (World.block_lt_of_cell? wr _ HCE.out) (by simp)).trans HCE.out
                            have pc2 := (th.cell (p := ⟨pb, po + m, none⟩) (World.block_lt_of_cell? wr _ HPC.out) (by simp)).trans HPC.out
                            have HTH := Lib.hid tzh
                            clear th tzh ce
                            go_wp2_with fail
                            refine (HCO.out wh HTH.out).mono ?_
                            rintro e wj ⟨rfl, tj⟩
                            have HTJ := Lib.hid (HTH.out.trans' tj)
                            clear tj ce2 pc2
                            unfold holderV
                            go_wp2_with fail
                            go_roundw
                            case rel => exact ⟨m + 1, by go_num, HTJ.out⟩
                            case measure => have := HKK.out; simp [intOf]; omega
                          | false =>
                            rw [hb] at CH
                            have HCH := Lib.hid CH
                            have HTZ := Lib.hid tz
                            clear CH tz hNk hgk hb hka hkc hkn2
                            go_wp2_with fail
                            refine HCH.out.mono ?_
                            rintro e wh ⟨rfl, th⟩
                            have HTH := Lib.hid (HTZ.out.trans' th)
                            clear th ce
                            go_wp2_with fail
                            go_roundw
                            case rel => exact ⟨k + 1, by omega, by go_num, HTH.out⟩
                            case measure => simp [intOf]; omega
                        · have HTZ := Lib.hid tz
                          clear tz hNk hgk hka hkc hkn2
                          go_wp2_with fail
                          go_roundw
                          case rel => exact ⟨k + 1, by omega, by go_num, HTZ.out⟩
                          case measure => simp [intOf]; omega
                      · rw [if_neg hgk] at ce
                        have hm0 : ¬ (m : Int) < 0 := by omega
                        have HTZ := Lib.hid tz
                        clear tz hgk
                        go_wp2_with fail
                        go_roundw
                        case rel => exact ⟨k + 1, by omega, by go_num, HTZ.out⟩
                        case measure => simp [intOf]; omega
                  · have HTQ := Lib.hid tq
                    clear tq
                    go_wp2_with fail
                    go_roundw
                    case rel => exact ⟨i + 1, by omega, by go_num, S', own', ga', HS2.out.step HTQ.out⟩
                    case measure => simp [intOf]; omega
      · have hlti : ¬ (i : Int) < (n : Int) := by omega
        have HS := Lib.hid hS
        clear hS A
        go_wp2_with (go_at_call 6; refine (works_any _).mono ?_; rintro e w2 ⟨rfl, t2⟩)
        go_ret
        exact ⟨rfl, HS.out.touch.trans' t2⟩
theorem walk (a : Option Addr) (n cap : Nat) (l : Nat → Asking) (w : World) (A : AsksIn w a n cap l) : Calls Tryd.prog 3 #[.slice a n cap] w fun e w' => e = .returned (.bool true) ∧ Below w.heap.size w w' :=
  (walkN a n cap l w A).mono fun e w' ⟨he, t⟩ => ⟨he, t.toBelow (Nat.le_refl _) (by simp)⟩
end Go.Proofs.YtppgeljlmckimaaDoor.LocksAlone
