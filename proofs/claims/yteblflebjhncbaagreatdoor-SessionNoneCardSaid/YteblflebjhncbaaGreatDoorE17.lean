/-
  A run by the kernel: append and copy (2).
-/
import Derived.Test.YteblflebjhncbaaGreatDoorE16
namespace Go.Proofs.YteblflebjhncbaaGreatDoor
open Go.RowKit

variable [Orig]
theorem Emb.congr {P : Program} {ρ : Pl} {m m' : T SObj} {nx : Nat} {w0 : Base} {w : World} (h : Emb P ρ m nx w0 w) (e : ∀ c, m'.get c = m.get c) : Emb P ρ m' nx w0 w :=
  ⟨h.touch, fun b o hb => h.obj b o (by rw [← e]; exact hb), fun b b' x x' hb hb' => h.inj b b' x x' (by rw [← e]; exact hb) (by rw [← e]; exact hb'), fun b hb => ⟨(h.fresh b hb).1, by rw [e]; exact (h.fresh b hb).2⟩, h.old, h.hole, h.x⟩
omit [Orig] in
theorem cellsE_of {m : T SObj} {b : Nat} {cs : List SV} {e : TypeId} {o : Bool} (h : m.get b = some (.cells cs e o)) : cellsE m b = some cs := by unfold cellsE; rw [h]; rfl
theorem apE_ok {P : Program} {E : Env} (hE : EnvOk P E) {ρ : Pl} {m : T SObj} {nx : Nat} {w0 : Base} {w : World} (h : Emb P ρ m nx w0 w) {ts : Array TypeId} {ty : TypeId} {s x : SV} {us ux : Value} {r : SV × T SObj × Nat} (g : apE E m nx ts.toList s x = some r) (hs : den ρ s = some us) (hx : den ρ x = some ux) :
    ∃ ρ' u w', Le ρ ρ' ∧ (Builtin.append_ ts ty #[us, ux]).run P w = .ok u w' ∧ den ρ' r.1 = some u ∧ Emb P ρ' r.2.1 r.2.2 w0 w' := by
  unfold apE at g
  split at g
  case h_2 => cases g
  rename_i t t2 hts
  obtain rfl : ts = #[t, t2] := by rw [← Array.toArray_toList (xs := ts), hts]
  obtain ⟨d, g1, g2⟩ := ob_eq.1 g
  obtain ⟨d2, g3, g4⟩ := ob_eq.1 g2
  split at g4
  case h_2 => cases g4
  rename_i e
  obtain ⟨g5, g6⟩ := oi_eq.1 g4
  obtain ⟨i, g7, g8⟩ := ob_eq.1 g6
  obtain ⟨n, g9, g10⟩ := ob_eq.1 g8
  have ht := und_ok hE g1
  have h2 := und_ok hE g3
  have hni : ∀ k, d2 ≠ .int k := fun k hk => by subst hk; cases g5
  have hi := hE.ty _ _ g7
  have hcell : P.cellsOf e = i.size := by simp [Program.cellsOf, hi]
  have hlen := lenS_ok (P := P) g9 hx w
  obtain ⟨news, g11, g12⟩ := ob_eq.1 g10
  obtain ⟨ns, n1, n2, n3, n4⟩ := srcE_ok h g11 hx
  obtain ⟨ns', n1', -, n3', -⟩ := srcE_ok h.drew g11 hx
  rw [n1] at n1'
  cases n1'
  have hnl : news.length = n * i.size := by rw [← denL_len n1]; exact n4
  -- where it grows
  have grow : ∀ (base : Option Addr) (l c : Nat) (olds : List SV) (os : List Value) (m2 : T SObj), us = .slice base l c → c < l + n → denL ρ olds = some os → olds.all SV.one = true → os.length = l * i.size → (Builtin.firstCells i.size l us).run P w.drew = .ok os.toArray w.drew →
      Emb P ρ m2 nx w0 w → apG E m2 nx e i (l + n) (app olds news) = some r → ∃ ρ' u w', Le ρ ρ' ∧ (Builtin.append_ #[t, t2] ty #[us, ux]).run P w = .ok u w' ∧ den ρ' r.1 = some u ∧ Emb P ρ' r.2.1 r.2.2 w0 w' := by
    intro base l c olds os m2 hus hc ho ho1 hol hof hm2 hg
    subst hus
    have hd : denL ρ (app olds news) = some (os ++ ns) := by rw [app_ok]; exact denL_append ho n1
    obtain ⟨f1, f2, z, f3, -, -, -, f7⟩ := apG_ok hE hm2 g7 hg hd (by rw [app_ok, List.all_append, ho1, n2]; rfl) (by rw [List.length_append, hol, n4, Nat.add_mul])
    obtain ⟨ρ', k1, k2, k3⟩ := f7 (grownCap w (l + n) c e) (grownCap_ge w (l + n) c e)
    refine ⟨ρ', _, _, k1, ?_, k2, k3⟩
    have hrun := app_grow (ty := ty) ht h2 hni hi f3 hlen hof n3' hc f1 f2
    simp only [List.append_toArray] at hrun ⊢
    exact hrun
  split at g12
  · rw [den_nslc] at hs
    cases hs
    by_cases hn : n = 0
    · subst hn
      rw [nbeq_iff.2 rfl] at g12
      cases g12
      refine ⟨ρ, _, w, Le.refl ρ, app_room (ty := ty) ht h2 hni hi hlen n3 (by omega), ?_, h⟩
      exact den_nslc ρ
    · rw [nbeq hn] at g12
      have g13 : apG E m nx e i n news = some r := g12
      exact grow none 0 0 [] [] m rfl (by omega) (denL_nil ρ) rfl (by simp) rfl h (by rw [app_ok, List.nil_append, Nat.zero_add]; exact g13)
  · rename_i b o l c
    obtain ⟨y, a1, rfl⟩ := den_slc hs
    by_cases hc : l + n ≤ c
    · rw [nble_iff.2 (show Nat.add l n ≤ c from hc)] at g12
      have g13 : (ob (m.get b) fun y => match y with
        | .cells cs e' opn => oi (Nat.ble (Nat.add (Nat.add o (Nat.mul l i.size)) (len news)) (len cs)) (some (SV.slc b o (Nat.add l n) c, m.put (some (.cells (lay (Nat.add o (Nat.mul l i.size)) news cs) e' opn)) b, nx))
        | _ => none) = some r := g12
      obtain ⟨ob', g14, g15⟩ := ob_eq.1 g13
      split at g15
      · rename_i cs e' opn
        obtain ⟨g16, g17⟩ := oi_eq.1 g15
        cases g17
        rw [nble_iff, len_ok, len_ok] at g16
        obtain ⟨w', k1, k2⟩ := h.write g14 a1 n1 n2 (o := o + l * i.size) g16
        refine ⟨ρ, _, w', Le.refl ρ, ?_, den_slc_mk a1 _ _ _, k2⟩
        rw [app_room (ty := ty) ht h2 hni hi hlen n3 hc]
        simp only [Addr.add_lit, k1, Result.andThen_ok]
        rfl
      · cases g15
    · have hb : Nat.ble (Nat.add l n) c = false := by
        cases hq : Nat.ble (Nat.add l n) c with
        | false => rfl
        | true => exact absurd (nble_iff.1 hq) hc
      rw [hb] at g12
      have g13 : (ob (srcE m i.size l (.slc b o l c)) fun olds => apG E m nx e i (Nat.add l n) (app olds news)) = some r := g12
      obtain ⟨olds, g14, g15⟩ := ob_eq.1 g13
      obtain ⟨os, o1, o2, o3, o4⟩ := srcE_ok h.drew g14 hs
      exact grow _ l c olds os m rfl (by omega) o1 o2 o4 o3 h g15
  · rename_i b o l k
    obtain ⟨y, a1, a2, rfl⟩ := den_slu hs
    by_cases hn : n = 0
    · subst hn
      rw [nbeq_iff.2 rfl] at g12
      cases g12
      have : ns = [] := List.eq_nil_of_length_eq_zero (by simpa using n4)
      subst this
      refine ⟨ρ, _, w, Le.refl ρ, ?_, hs, h⟩
      rw [app_room (ty := ty) ht h2 hni hi hlen n3 (by omega)]
      rfl
    · rw [nbeq hn] at g12
      have g13 : (oi (Nat.beq o 0) (oi (Nat.beq k 0) (ob (m.get b) fun y => match y with
        | .cells cs e' opn => oi opn (oi (Nat.beq e' e) (oi (Nat.beq (len cs) (Nat.mul l i.size)) (apG E (m.put none b) nx e i (Nat.add l n) (app cs news))))
        | _ => none))) = some r := g12
      obtain ⟨g14, g15⟩ := oi_eq.1 g13
      obtain ⟨g16, g17⟩ := oi_eq.1 g15
      obtain ⟨ob', g18, g19⟩ := ob_eq.1 g17
      obtain rfl := nbeq_iff.1 g14
      obtain rfl := nbeq_iff.1 g16
      split at g19
      · rename_i cs e' opn
        obtain ⟨g20, g21⟩ := oi_eq.1 g19
        obtain ⟨g22, g23⟩ := oi_eq.1 g21
        obtain ⟨g24, g25⟩ := oi_eq.1 g23
        subst g20
        obtain rfl := nbeq_iff.1 g22
        rw [nbeq_iff, len_ok] at g24
        have g24' : cs.length = l * i.size := g24
        obtain ⟨x', us0, b1, b2, b3, b4, -⟩ := h.cells (cellsE_of g18)
        rw [a1] at b1
        cases b1
        by_cases hc : l + n ≤ y.2 - 0
        · obtain ⟨f1, f2, z, f3, f4, f5, f6, -⟩ := apG_ok hE (h.erase b) g7 g25 (us := us0 ++ ns) (by rw [app_ok]; exact denL_append b2 n1) (by rw [app_ok, List.all_append, b3, n2]; rfl) (by rw [List.length_append, denL_len b2, g24', n4]; exact (Nat.add_mul _ _ _).symm)
          have hroom : cs.length + news.length ≤ y.2 * P.cellsOf e' := by
            rw [g24', hnl, hcell, ← Nat.add_mul]
            exact Nat.mul_le_mul_right _ (by omega)
          obtain ⟨w', k1, k2⟩ := h.extend g18 a1 n1 n2 hroom
          obtain ⟨k3, k4⟩ := k2.rename (T.get_put_same _ _ _) a1
          refine ⟨_, .slice (some ⟨y.1, 0, none⟩) (l + n) (y.2 - 0), w', k4, ?_, ?_, ?_⟩
          · rw [app_room (ty := ty) ht h2 hni hi hlen n3 hc]
            simp only [Addr.add_lit, Nat.zero_add]
            rw [← g24', k1]
            rfl
          · rw [f4]; exact den_slu_mk (pset_same _ _ _) (by show l + n + 0 ≤ y.2; omega) 0
          · rw [f5, f6]
            refine k3.congr fun c => ?_
            simp only [T.get_put]
            split
            · rfl
            · split
              · rfl
              · rfl
        · have hof : (Builtin.firstCells i.size l (.slice (some ⟨y.1, 0, none⟩) l (y.2 - 0))).run P w.drew = .ok us0.toArray w.drew := by
            obtain ⟨us1, c1, c2, c3, -⟩ := h.drew.seg (cellsE_of g18) a1 (o := 0) (n := l * i.size) (by omega)
            rw [b2] at c1
            cases c1
            show (loadCells _ (l * i.size)).run P w.drew = _
            rw [c2]
            have : (us0.drop 0).take (l * i.size) = us0 := by rw [List.drop_zero, List.take_of_length_le (by rw [denL_len b2, g24']; exact Nat.le_refl _)]
            rw [this]
          exact grow _ l (y.2 - 0) cs us0 (m.put none b) rfl (by omega) b2 b3 (by rw [denL_len b2, g24']) hof (h.erase b) g25
      · cases g19
  · cases g12
/-- copy. -/
noncomputable def cpE (E : Env) (m : T SObj) (t : TypeId) (d x : SV) : Option (SV × T SObj) := ob (und E t) fun dd => match dd with
  | .slice e => ob (szE E e) fun s => ob (lenS x) fun n => match d with
    | .nslc => ob (srcE m s 0 x) fun _ => some (.int .i64 (.ofNat 0), m)
    | .slc b o l _ => ob (srcE m s (Nat.min n l) x) fun cs => ob (m.get b) fun y => match y with
      | .cells cs0 e' opn => oi (Nat.ble (Nat.add o (len cs)) (len cs0)) (some (.int .i64 (.ofNat (Nat.min n l)), m.put (some (.cells (lay o cs cs0) e' opn)) b))
      | _ => none
    | .slu b o l _ => ob (srcE m s (Nat.min n l) x) fun cs => ob (m.get b) fun y => match y with
      | .cells cs0 e' opn => oi (Nat.ble (Nat.add o (len cs)) (len cs0)) (some (.int .i64 (.ofNat (Nat.min n l)), m.put (some (.cells (lay o cs cs0) e' opn)) b))
      | _ => none
    | _ => none
  | _ => none
theorem cpE_ok {P : Program} {E : Env} (hE : EnvOk P E) {ρ : Pl} {m : T SObj} {nx : Nat} {w0 : Base} {w : World} (h : Emb P ρ m nx w0 w) {ts : Array TypeId} {ty t : TypeId} (hts : ts[0]? = some t) {d x : SV} {ud ux : Value} {r : SV × T SObj} (g : cpE E m t d x = some r) (hd : den ρ d = some ud) (hx : den ρ x = some ux) :
    ∃ u w', (Builtin.copy_ ts ty #[ud, ux]).run P w = .ok u w' ∧ den ρ r.1 = some u ∧ Emb P ρ r.2 nx w0 w' := by
  obtain ⟨dd, g1, g2⟩ := ob_eq.1 g
  split at g2
  case h_2 => cases g2
  rename_i e
  obtain ⟨s, g3, g4⟩ := ob_eq.1 g2
  obtain ⟨n, g5, g6⟩ := ob_eq.1 g4
  have ht := und_ok hE g1
  have hlen := lenS_ok (P := P) g5 hx w
  have wr : ∀ {b o l c : Nat} {x' : Nat × Nat}, ρ b = some x' → ud = .slice (some ⟨x'.1, o, none⟩) l c → (ob (srcE m s (Nat.min n l) x) fun cs => ob (m.get b) fun y => match y with
      | .cells cs0 e' opn => oi (Nat.ble (Nat.add o (len cs)) (len cs0)) (some (SV.int .i64 (.ofNat (Nat.min n l)), m.put (some (.cells (lay o cs cs0) e' opn)) b))
      | _ => none) = some r → ∃ u w', (Builtin.copy_ ts ty #[ud, ux]).run P w = .ok u w' ∧ den ρ r.1 = some u ∧ Emb P ρ r.2 nx w0 w' := by
    intro b o l c x' hb hud hg
    obtain ⟨cs, k1, k2⟩ := ob_eq.1 hg
    obtain ⟨y, k3, k4⟩ := ob_eq.1 k2
    split at k4
    · rename_i cs0 e' opn
      obtain ⟨k5, k6⟩ := oi_eq.1 k4
      cases k6
      rw [nble_iff, len_ok, len_ok] at k5
      obtain ⟨ns, n1, n2, n3, n4⟩ := srcE_ok h k1 hx
      obtain ⟨w', f1, f2⟩ := h.write k3 hb n1 n2 k5
      refine ⟨_, w', ?_, den_int _ _ _, f2⟩
      subst hud
      unfold Builtin.copy_
      simp only [hts, Array.getElem?_eq_getElem, List.size_toArray, List.length_cons, List.length_nil, List.getElem_toArray, List.getElem_cons_zero, List.getElem_cons_succ, Nat.reduceAdd, Nat.reduceLT, Nat.zero_lt_succ, Nat.lt_add_one]
      simp only [Sem.run_bind, run_underlying ht w, Result.andThen_ok, hlen, (szE_ok hE g3 w).1, n3, f1, Sem.run_pure]
      rfl
    · cases k4
  split at g6
  · rw [den_nslc] at hd
    cases hd
    obtain ⟨cs, k1, k2⟩ := ob_eq.1 g6
    cases k2
    obtain ⟨ns, n1, n2, n3, n4⟩ := srcE_ok h k1 hx
    refine ⟨_, w, ?_, den_int _ _ _, h⟩
    unfold Builtin.copy_
    simp only [hts, Array.getElem?_eq_getElem, List.size_toArray, List.length_cons, List.length_nil, List.getElem_toArray, List.getElem_cons_zero, List.getElem_cons_succ, Nat.reduceAdd, Nat.reduceLT, Nat.zero_lt_succ, Nat.lt_add_one]
    have hm : Nat.min n 0 = 0 := Nat.min_zero n
    simp only [Sem.run_bind, run_underlying ht w, Result.andThen_ok, hlen, (szE_ok hE g3 w).1, hm, n3, Sem.run_pure]
    rfl
  · obtain ⟨y, a1, rfl⟩ := den_slc hd
    exact wr a1 rfl g6
  · obtain ⟨y, a1, a2, rfl⟩ := den_slu hd
    exact wr a1 rfl g6
  · cases g6
end Go.Proofs.YteblflebjhncbaaGreatDoor
