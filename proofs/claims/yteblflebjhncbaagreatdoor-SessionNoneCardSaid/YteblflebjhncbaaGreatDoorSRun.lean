/-
  SessionNone, by the kernel: the argument's cells are not known.
-/
import Derived.Test.YteblflebjhncbaaGreatDoorE26
import Derived.Test.YteblflebjhncbaaGreatDoorRun
import Derived.Test.YteblflebjhncbaaGreatDoorSCopied
namespace Go.Proofs.YteblflebjhncbaaGreatDoor.SessionNone
open Go.RowKit

noncomputable def ssyms : List SV := [.sym (.int .u8) 0, .sym (.int .u16) 1, .sym .any 2, .sym .any 3, .sym .any 4, .sym .any 5, .sym .any 6, .sym .any 7, .sym .any 8, .sym .any 9, .sym .any 10, .sym .any 11, .sym .any 12, .sym .any 13, .sym .any 14, .sym .any 15, .sym .any 16, .sym .any 17, .sym .any 18, .sym .any 19, .sym .any 20, .sym .any 21, .sym .any 22, .sym .any 23, .sym .any 24, .sym .any 25, .sym .any 26, .sym .any 27, .sym .any 28, .sym .any 29, .sym .any 30, .sym .any 31, .sym .any 32, .sym .any 33, .sym .any 34, .sym .any 35, .sym .any 36, .sym .any 37]
noncomputable def heavyI (args : List SV) (m : T SObj) (nx : Nat) : Option Res := match args with
  | [.slc b o n c] => ob (m.get b) fun ob' => match ob' with
    | .cells cs e false => oi (and (Nat.beq e 50) (and (svEqL cs ssyms) (and (Nat.beq o 0) (and (Nat.beq n 1) (Nat.beq c 1))))) (some (.sym .bool nx, m, Nat.succ nx))
    | _ => none
  | _ => none
noncomputable def copiedI (args : List SV) (m : T SObj) (nx : Nat) : Option Res := match args with
  | [.agg l] => oi (svEqL l (tk 36 ssyms)) (some (.agg (lset (.sym .any (Nat.succ nx)) 16 (lset (.sym .any nx) 12 (tk 36 ssyms))), m, Nat.succ (Nat.succ nx)))
  | _ => none
theorem sym_mk {ρ : Pl} {k : SK} {i : Nat} {v : Value} (h : ρ.val i = some v) (hk : k.is v = true) : den ρ (.sym k i) = some v := by
  unfold den
  rw [h, symD_mk hk]
theorem den_ssyms {ρ : Pl} {x : StepV} (h : ∀ i v, x.cells[i]? = some v → ρ.val i = some v) (h1 : IntKind.u8.wrap x.ty = x.ty) (h2 : IntKind.u16.wrap x.tag = x.tag) : denL ρ ssyms = some x.cells := by
  unfold ssyms StepV.cells
  refine denL_cons.2 ⟨_, _, sym_mk (h 0 _ rfl) (by simp [SK.is, h1]), ?_, rfl⟩
  refine denL_cons.2 ⟨_, _, sym_mk (h 1 _ rfl) (by simp [SK.is, h2]), ?_, rfl⟩
  refine denL_cons.2 ⟨_, _, sym_mk (h 2 _ rfl) rfl, ?_, rfl⟩
  refine denL_cons.2 ⟨_, _, sym_mk (h 3 _ rfl) rfl, ?_, rfl⟩
  refine denL_cons.2 ⟨_, _, sym_mk (h 4 _ rfl) rfl, ?_, rfl⟩
  refine denL_cons.2 ⟨_, _, sym_mk (h 5 _ rfl) rfl, ?_, rfl⟩
  refine denL_cons.2 ⟨_, _, sym_mk (h 6 _ rfl) rfl, ?_, rfl⟩
  refine denL_cons.2 ⟨_, _, sym_mk (h 7 _ rfl) rfl, ?_, rfl⟩
  refine denL_cons.2 ⟨_, _, sym_mk (h 8 _ rfl) rfl, ?_, rfl⟩
  refine denL_cons.2 ⟨_, _, sym_mk (h 9 _ rfl) rfl, ?_, rfl⟩
  refine denL_cons.2 ⟨_, _, sym_mk (h 10 _ rfl) rfl, ?_, rfl⟩
  refine denL_cons.2 ⟨_, _, sym_mk (h 11 _ rfl) rfl, ?_, rfl⟩
  refine denL_cons.2 ⟨_, _, sym_mk (h 12 _ rfl) rfl, ?_, rfl⟩
  refine denL_cons.2 ⟨_, _, sym_mk (h 13 _ rfl) rfl, ?_, rfl⟩
  refine denL_cons.2 ⟨_, _, sym_mk (h 14 _ rfl) rfl, ?_, rfl⟩
  refine denL_cons.2 ⟨_, _, sym_mk (h 15 _ rfl) rfl, ?_, rfl⟩
  refine denL_cons.2 ⟨_, _, sym_mk (h 16 _ rfl) rfl, ?_, rfl⟩
  refine denL_cons.2 ⟨_, _, sym_mk (h 17 _ rfl) rfl, ?_, rfl⟩
  refine denL_cons.2 ⟨_, _, sym_mk (h 18 _ rfl) rfl, ?_, rfl⟩
  refine denL_cons.2 ⟨_, _, sym_mk (h 19 _ rfl) rfl, ?_, rfl⟩
  refine denL_cons.2 ⟨_, _, sym_mk (h 20 _ rfl) rfl, ?_, rfl⟩
  refine denL_cons.2 ⟨_, _, sym_mk (h 21 _ rfl) rfl, ?_, rfl⟩
  refine denL_cons.2 ⟨_, _, sym_mk (h 22 _ rfl) rfl, ?_, rfl⟩
  refine denL_cons.2 ⟨_, _, sym_mk (h 23 _ rfl) rfl, ?_, rfl⟩
  refine denL_cons.2 ⟨_, _, sym_mk (h 24 _ rfl) rfl, ?_, rfl⟩
  refine denL_cons.2 ⟨_, _, sym_mk (h 25 _ rfl) rfl, ?_, rfl⟩
  refine denL_cons.2 ⟨_, _, sym_mk (h 26 _ rfl) rfl, ?_, rfl⟩
  refine denL_cons.2 ⟨_, _, sym_mk (h 27 _ rfl) rfl, ?_, rfl⟩
  refine denL_cons.2 ⟨_, _, sym_mk (h 28 _ rfl) rfl, ?_, rfl⟩
  refine denL_cons.2 ⟨_, _, sym_mk (h 29 _ rfl) rfl, ?_, rfl⟩
  refine denL_cons.2 ⟨_, _, sym_mk (h 30 _ rfl) rfl, ?_, rfl⟩
  refine denL_cons.2 ⟨_, _, sym_mk (h 31 _ rfl) rfl, ?_, rfl⟩
  refine denL_cons.2 ⟨_, _, sym_mk (h 32 _ rfl) rfl, ?_, rfl⟩
  refine denL_cons.2 ⟨_, _, sym_mk (h 33 _ rfl) rfl, ?_, rfl⟩
  refine denL_cons.2 ⟨_, _, sym_mk (h 34 _ rfl) rfl, ?_, rfl⟩
  refine denL_cons.2 ⟨_, _, sym_mk (h 35 _ rfl) rfl, ?_, rfl⟩
  refine denL_cons.2 ⟨_, _, sym_mk (h 36 _ rfl) rfl, ?_, rfl⟩
  refine denL_cons.2 ⟨_, _, sym_mk (h 37 _ rfl) rfl, ?_, rfl⟩
  exact denL_nil ρ
theorem stepIn_of {x : StepV} {w w' : World} (h : StepIn w x) (t : ∀ k, k < w.heap.size → w'.heap[k]? = w.heap[k]?) : StepIn w' x :=
  h.touch fun k hk => ⟨by
    have := t k hk
    rw [Array.getElem?_eq_getElem hk] at this
    exact (Array.getElem?_eq_some_iff.1 this).1, t k hk⟩
variable [Orig]
theorem heavyI_ok (x : StepV) (hx : StepIn Orig.W x) (hV : ∀ i, Orig.V i = x.cells[i]?) :
    ∀ args m nx r, heavyI args m nx = some r → ∀ (ρ : Pl) (us : List Value) (w0 : Base) (w : World), denL ρ args = some us → Emb Tryz.prog ρ m nx w0 w →
    Calls Tryz.prog 7 us.toArray w fun e w' => ∃ ρ' u, e = .returned u ∧ Le ρ ρ' ∧ den ρ' r.1 = some u ∧ Emb Tryz.prog ρ' r.2.1 r.2.2 w0 w' := by
  intro args m nx r e ρ us w0 w hd hm
  unfold heavyI at e
  split at e
  case h_2 => cases e
  rename_i b o n c
  obtain ⟨ob', h1, h2⟩ := ob_eq.1 e
  split at h2
  case h_2 => cases h2
  rename_i cs e'
  obtain ⟨h3, h4⟩ := oi_eq.1 h2
  cases h4
  simp only [Bool.and_eq_true, nbeq_iff] at h3
  obtain ⟨rfl, h5, rfl, rfl, rfl⟩ := h3
  obtain rfl := svEqL_ok h5
  obtain ⟨u1, us1, d1, d2, rfl⟩ := denL_cons.1 hd
  rw [denL_nil] at d2
  cases d2
  obtain ⟨y, hy, rfl⟩ := den_slc d1
  obtain ⟨y', ob1, g1, -, g3, g4⟩ := hm.obj b _ h1
  rw [hy] at g1
  cases g1
  cases ob1 <;> try exact g4.elim
  rename_i arr t z
  obtain ⟨rfl, ⟨us', k1, k2⟩, -, -⟩ := g4
  have k3 : denL ρ ssyms = some x.cells := den_ssyms (fun i v hi => hm.x.vals i v (by rw [hV]; exact hi)) hx.wt hx.wg
  rw [k3] at k1
  cases k1
  have k4 : arr = x.cells.toArray := by
    have : arr.toList = x.cells := k2
    rw [← this]
  subst k4
  refine (heavy_one w y.1 z x g3 (stepIn_of hx fun k hk => hm.orig hk)).mono ?_
  rintro e w' ⟨rr, rfl, T⟩
  obtain ⟨q1, q2⟩ := (hm.below (T.toBelow (Nat.le_refl _) (by simp))).vset (.bool rr)
  exact ⟨_, _, rfl, q2, sym_mk (vset_same _ _ _) rfl, q1⟩
theorem copiedI_ok (x : StepV) (hx : StepIn Orig.W x) (hV : ∀ i, Orig.V i = x.cells[i]?) :
    ∀ args m nx r, copiedI args m nx = some r → ∀ (ρ : Pl) (us : List Value) (w0 : Base) (w : World), denL ρ args = some us → Emb Tryz.prog ρ m nx w0 w →
    Calls Tryz.prog 16 us.toArray w fun e w' => ∃ ρ' u, e = .returned u ∧ Le ρ ρ' ∧ den ρ' r.1 = some u ∧ Emb Tryz.prog ρ' r.2.1 r.2.2 w0 w' := by
  intro args m nx r e ρ us w0 w hd hm
  unfold copiedI at e
  split at e
  case h_2 => cases e
  rename_i l
  obtain ⟨h3, h4⟩ := oi_eq.1 e
  cases h4
  obtain rfl := svEqL_ok h3
  obtain ⟨u1, us1, d1, d2, rfl⟩ := denL_cons.1 hd
  rw [denL_nil] at d2
  cases d2
  obtain ⟨us', k1, k2, rfl⟩ := den_agg d1
  have k3 : denL ρ ssyms = some x.cells := den_ssyms (fun i v hi => hm.x.vals i v (by rw [hV]; exact hi)) hx.wt hx.wg
  rw [tk_ok] at k1 k2 ⊢
  have k4 := denL_take 36 k3
  rw [k4] at k1
  cases k1
  have k5 : x.cells.take 36 = x.mcells := rfl
  rw [k5] at k4
  have hcall := copied_one w x (stepIn_of hx fun k hk => hm.orig hk)
  rw [← k5] at hcall
  refine hcall.mono ?_
  rintro e w' ⟨a1, c1, a2, c2, rfl, T⟩
  obtain ⟨q1, q2⟩ := (hm.below (T.toBelow (Nat.le_refl _) (by simp))).vset (.slice a1 x.namesn c1)
  obtain ⟨q3, q4⟩ := q1.vset (.slice a2 x.qidsn c2)
  have e1 : den ((ρ.vset nx (.slice a1 x.namesn c1)).vset (nx + 1) (.slice a2 x.qidsn c2)) (.sym .any nx) = some (.slice a1 x.namesn c1) := sym_mk (q4.val _ _ (vset_same _ _ _)) rfl
  have e2 : den ((ρ.vset nx (.slice a1 x.namesn c1)).vset (nx + 1) (.slice a2 x.qidsn c2)) (.sym .any (nx + 1)) = some (.slice a2 x.qidsn c2) := sym_mk (vset_same _ _ _) rfl
  refine ⟨_, _, rfl, q2.trans q4, ?_, q3⟩
  show den _ (.agg (lset _ 16 (lset _ 12 (ssyms.take 36)))) = _
  rw [lset_ok, lset_ok]
  exact den_agg_mk (denL_set 16 (denL_set 12 (denL_mono (q2.trans q4) _ k4) e1) e2) (by unfold ssyms; rfl)
noncomputable def I1 : CalF := orI 7 heavyI (orI 16 copiedI (orI 8 yesI I0))
theorem I1_ok (x : StepV) (hx : StepIn Orig.W x) (hV : ∀ i, Orig.V i = x.cells[i]?) : FnOk Tryz.prog I1 := orI_ok (heavyI_ok x hx hV) (orI_ok (copiedI_ok x hx hV) (orI_ok (yesI_ok works_any) I0_ok))
end Go.Proofs.YteblflebjhncbaaGreatDoor.SessionNone
