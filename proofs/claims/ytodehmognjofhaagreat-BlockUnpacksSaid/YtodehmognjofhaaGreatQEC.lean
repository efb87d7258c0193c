/-
  A run by the kernel: append and copy (2).
-/
import Derived.Test.YtodehmognjofhaaGreatQEB
import Derived.Laws.RangeString
import Derived.Laws.Externs
import Derived.MapKept
import Derived.RangeFuncLeaves
import Derived.TacticsIn
import Derived.Scope
import Derived.OrdersIn
namespace Go.Proofs.YtodehmognjofhaaGreat
open Go.RowKit

variable [Orig]
theorem Emb.congr {P : Program} {ρ : Pl} {m m' : T SObj} {nx : Nat} {w0 : Base} {w : World} (h : Emb P ρ m nx w0 w) (e : ∀ c, m'.get c = m.get c) : Emb P ρ m' nx w0 w :=
  ⟨h.touch, fun b o hb => h.obj b o (by rw [← e]; exact hb), fun b b' x x' hb hb' => h.inj b b' x x' (by rw [← e]; exact hb) (by rw [← e]; exact hb'), fun b hb => ⟨(h.fresh b hb).1, by rw [e]; exact (h.fresh b hb).2⟩, h.old, h.hole, h.x⟩
omit [Orig] in
theorem cellsE_of {m : T SObj} {b : Nat} {cs : List SV} {e : TypeId} {o : Bool} (h : m.get b = some (.cells cs e o)) : cellsE m b = some cs := by unfold cellsE; rw [h]; rfl
theorem apE0_ok {P : Program} {E : Env} (hE : EnvOk P E) {ρ : Pl} {m : T SObj} {nx : Nat} {w0 : Base} {w : World} (h : Emb P ρ m nx w0 w) {ts : Array TypeId} {ty : TypeId} {s x : SV} {us ux : Value} {r : SV × T SObj × Nat} (g : apE0 E m nx ts.toList s x = some r) (hs : den ρ s = some us) (hx : den ρ x = some ux) :
    ∃ ρ' u w', Le ρ ρ' ∧ (Builtin.append_ ts ty #[us, ux]).run P w = .ok u w' ∧ den ρ' r.1 = some u ∧ Emb P ρ' r.2.1 r.2.2 w0 w' := by
  unfold apE0 at g
  split at g
  case h_2 => cases g
  rename_i t t2 hts
  obtain rfl : ts = #[t, t2] := by rw [← Array.toArray_toList (xs := ts), hts]
  obtain ⟨d, g1, g2⟩ := ob_eq.1 g
  obtain ⟨d2, g3, g4⟩ := ob_eq.1 g2
  split at g4
  case h_2 => cases g4
  rename_i e
  obtain ⟨g5, g6⟩ := oi_eq.1 g4
  obtain ⟨i, g7, g8⟩ := ob_eq.1 g6
  obtain ⟨n, g9, g10⟩ := ob_eq.1 g8
  have ht := und_ok hE g1
  have h2 := und_ok hE g3
  have hni : ∀ k, d2 ≠ .int k := fun k hk => by subst hk; cases g5
  have hi := hE.ty _ _ g7
  have hcell : P.cellsOf e = i.size := by simp [Program.cellsOf, hi]
  have hlen := lenS_ok (P := P) g9 hx w
  obtain ⟨news, g11, g12⟩ := ob_eq.1 g10
  obtain ⟨ns, n1, n2, n3, n4⟩ := srcE_ok h g11 hx
  obtain ⟨ns', n1', -, n3', -⟩ := srcE_ok h.drew g11 hx
  rw [n1] at n1'
  cases n1'
  have hnl : lenC news = n * i.size := by rw [← denC_len n1]; exact n4
  -- where it grows
  have grow : ∀ (base : Option Addr) (l c : Nat) (olds : List SV) (os : List Value) (m2 : T SObj), us = .slice base l c → c < l + n → denC ρ olds = some os → olds.all SV.onc = true → os.length = l * i.size → (Builtin.firstCells i.size l us).run P w.drew = .ok os.toArray w.drew →
      Emb P ρ m2 nx w0 w → apG E m2 nx e i (l + n) (app olds news) = some r → ∃ ρ' u w', Le ρ ρ' ∧ (Builtin.append_ #[t, t2] ty #[us, ux]).run P w = .ok u w' ∧ den ρ' r.1 = some u ∧ Emb P ρ' r.2.1 r.2.2 w0 w' := by
    intro base l c olds os m2 hus hc ho ho1 hol hof hm2 hg
    subst hus
    have hd : denC ρ (app olds news) = some (os ++ ns) := by rw [app_ok]; exact denC_append ho n1
    obtain ⟨f1, f2, z, f3, -, -, -, f7⟩ := apG_ok hE hm2 g7 hg hd (by rw [app_ok, List.all_append, ho1, n2]; rfl) (by rw [List.length_append, hol, n4, Nat.add_mul])
    obtain ⟨ρ', k1, k2, k3⟩ := f7 (grownCap w (l + n) c e) (grownCap_ge w (l + n) c e)
    refine ⟨ρ', _, _, k1, ?_, k2, k3⟩
    have hrun := app_grow (ty := ty) ht h2 hni hi f3 hlen hof n3' hc f1 f2
    simp only [List.append_toArray] at hrun ⊢
    exact hrun
  split at g12
  · rw [den_nslc] at hs
    cases hs
    by_cases hn : n = 0
    · subst hn
      rw [nbeq_iff.2 rfl] at g12
      cases g12
      refine ⟨ρ, _, w, Le.refl ρ, app_room (ty := ty) ht h2 hni hi hlen n3 (by omega), ?_, h⟩
      exact den_nslc ρ
    · rw [nbeq hn] at g12
      have g13 : apG E m nx e i n news = some r := g12
      exact grow none 0 0 [] [] m rfl (by omega) (denC_nil ρ) rfl (by simp) rfl h (by rw [app_ok, List.nil_append, Nat.zero_add]; exact g13)
  · rename_i b o l c
    obtain ⟨y, a1, rfl⟩ := den_slc hs
    by_cases hc : l + n ≤ c
    · rw [nble_iff.2 (show Nat.add l n ≤ c from hc)] at g12
      have g13 : (ob (m.get b) fun y => match y with
        | .cells cs e' opn => oi (Nat.ble (Nat.add (Nat.add o (Nat.mul l i.size)) (lenC news)) (lenC cs)) (some (SV.slc b o (Nat.add l n) c, m.put (some (.cells (lay (Nat.add o (Nat.mul l i.size)) news cs) e' opn)) b, nx))
        | _ => none) = some r := g12
      obtain ⟨ob', g14, g15⟩ := ob_eq.1 g13
      split at g15
      · rename_i cs e' opn
        obtain ⟨g16, g17⟩ := oi_eq.1 g15
        cases g17
        rw [nble_iff] at g16
        obtain ⟨w', k1, k2⟩ := h.write g14 a1 n1 n2 (o := o + l * i.size) g16
        refine ⟨ρ, _, w', Le.refl ρ, ?_, den_slc_mk a1 _ _ _, k2⟩
        rw [app_room (ty := ty) ht h2 hni hi hlen n3 hc]
        simp only [Addr.add_lit, k1, Result.andThen_ok]
        rfl
      · cases g15
    · have hb : Nat.ble (Nat.add l n) c = false := by
        cases hq : Nat.ble (Nat.add l n) c with
        | false => rfl
        | true => exact absurd (nble_iff.1 hq) hc
      rw [hb] at g12
      have g13 : (ob (srcE m i.size l (.slc b o l c)) fun olds => apG E m nx e i (Nat.add l n) (app olds news)) = some r := g12
      obtain ⟨olds, g14, g15⟩ := ob_eq.1 g13
      obtain ⟨os, o1, o2, o3, o4⟩ := srcE_ok h.drew g14 hs
      exact grow _ l c olds os m rfl (by omega) o1 o2 o4 o3 h g15
  · rename_i b o l k
    obtain ⟨y, a1, a2, rfl⟩ := den_slu hs
    by_cases hn : n = 0
    · subst hn
      rw [nbeq_iff.2 rfl] at g12
      cases g12
      have : ns = [] := List.eq_nil_of_length_eq_zero (by simpa using n4)
      subst this
      refine ⟨ρ, _, w, Le.refl ρ, ?_, hs, h⟩
      rw [app_room (ty := ty) ht h2 hni hi hlen n3 (by omega)]
      rfl
    · rw [nbeq hn] at g12
      have g13 : (oi (Nat.beq o 0) (oi (Nat.beq k 0) (ob (m.get b) fun y => match y with
        | .cells cs e' opn => oi opn (oi (Nat.beq e' e) (oi (Nat.beq (lenC cs) (Nat.mul l i.size)) (apG E (m.put none b) nx e i (Nat.add l n) (app cs news))))
        | _ => none))) = some r := g12
      obtain ⟨g14, g15⟩ := oi_eq.1 g13
      obtain ⟨g16, g17⟩ := oi_eq.1 g15
      obtain ⟨ob', g18, g19⟩ := ob_eq.1 g17
      obtain rfl := nbeq_iff.1 g14
      obtain rfl := nbeq_iff.1 g16
      split at g19
      · rename_i cs e' opn
        obtain ⟨g20, g21⟩ := oi_eq.1 g19
        obtain ⟨g22, g23⟩ := oi_eq.1 g21
        obtain ⟨g24, g25⟩ := oi_eq.1 g23
        subst g20
        obtain rfl := nbeq_iff.1 g22
        rw [nbeq_iff] at g24
        have g24' : lenC cs = l * i.size := g24
        obtain ⟨x', us0, b1, b2, b3, b4, -⟩ := h.cells (cellsE_of g18)
        rw [a1] at b1
        cases b1
        by_cases hc : l + n ≤ y.2 - 0
        · obtain ⟨f1, f2, z, f3, f4, f5, f6, -⟩ := apG_ok hE (h.erase b) g7 g25 (us := us0 ++ ns) (by rw [app_ok]; exact denC_append b2 n1) (by rw [app_ok, List.all_append, b3, n2]; rfl) (by rw [List.length_append, denC_len b2, g24', n4]; exact (Nat.add_mul _ _ _).symm)
          have hroom : lenC cs + lenC news ≤ y.2 * P.cellsOf e' := by
            rw [g24', hnl, hcell, ← Nat.add_mul]
            exact Nat.mul_le_mul_right _ (by omega)
          obtain ⟨w', k1, k2⟩ := h.extend g18 a1 n1 n2 hroom
          obtain ⟨k3, k4⟩ := k2.rename (T.get_put_same _ _ _) a1
          refine ⟨_, .slice (some ⟨y.1, 0, none⟩) (l + n) (y.2 - 0), w', k4, ?_, ?_, ?_⟩
          · rw [app_room (ty := ty) ht h2 hni hi hlen n3 hc]
            simp only [Addr.add_lit, Nat.zero_add]
            rw [← g24', k1]
            rfl
          · rw [f4]; exact den_slu_mk (pset_same _ _ _) (by show l + n + 0 ≤ y.2; omega) 0
          · rw [f5, f6]
            refine k3.congr fun c => ?_
            simp only [T.get_put]
            split
            · rfl
            · split
              · rfl
              · rfl
        · have hof : (Builtin.firstCells i.size l (.slice (some ⟨y.1, 0, none⟩) l (y.2 - 0))).run P w.drew = .ok us0.toArray w.drew := by
            obtain ⟨us1, c1, c2, c3, -⟩ := h.drew.seg (cellsE_of g18) a1 (o := 0) (n := l * i.size) (by omega)
            rw [b2] at c1
            cases c1
            show (loadCells _ (l * i.size)).run P w.drew = _
            rw [c2]
            have : (us0.drop 0).take (l * i.size) = us0 := by rw [List.drop_zero, List.take_of_length_le (by rw [denC_len b2, g24']; exact Nat.le_refl _)]
            rw [this]
          exact grow _ l (y.2 - 0) cs us0 (m.put none b) rfl (by omega) b2 b3 (by rw [denC_len b2, g24']) hof (h.erase b) g25
      · cases g19
  · cases g12
noncomputable def zrL (n : Nat) : List Nat := Nat.rec (motive := fun _ => List Nat) [] (fun _ ih => 0 :: ih) n
omit [Orig] in
theorem zrL_eq : ∀ n, zrL n = List.replicate n 0
  | 0 => rfl
  | n + 1 => by show 0 :: zrL n = _; rw [zrL_eq n]; rfl
omit [Orig] in
theorem zrL_bytes (n : Nat) : bytesOf (zrL n) = zrs n := by rw [zrL_eq]; unfold bytesOf zrs; rw [List.map_replicate]; rfl
/-- a slice's length. -/
noncomputable def slN (v : SV) : Option Nat := match v with
  | .slc _ _ n _ => some n
  | .slu _ _ n _ => some n
  | .nslc => some 0
  | _ => none
omit [Orig] in
theorem slN_ok {ρ : Pl} {v : SV} {n : Nat} {u : Value} (h : slN v = some n) (hv : den ρ v = some u) : ∃ base c, u = .slice base n c := by
  unfold slN at h
  split at h <;> cases h
  · obtain ⟨x, -, rfl⟩ := den_slc hv; exact ⟨_, _, rfl⟩
  · obtain ⟨x, -, -, rfl⟩ := den_slu hv; exact ⟨_, _, rfl⟩
  · rw [den_nslc] at hv; cases hv; exact ⟨_, _, rfl⟩
noncomputable def isZ8 (v : SV) : Bool := match v with
  | .int .u8 (.ofNat n) => Nat.beq n 0
  | _ => false
/-- append; of so many zeros, too. -/
noncomputable def apE (E : Env) (m : T SObj) (nx : Nat) (ts : List TypeId) (s x : SV) : Option (SV × T SObj × Nat) := match x with
  | .int .i64 (.ofNat n) => match ts with
    | [t, t2] => ob (und E t) fun d => ob (und E t2) fun d2 => match d with
      | .slice e => oi (match d2 with | .int _ => true | _ => false) (ob (E.ty.get e) fun i => ob (zrE E e) fun z => oi (isZ8 z) (oi (Nat.beq i.size 1) (oi (Nat.beq i.bytes 1) (ob (slN s) fun l => oi (Nat.ble (Nat.add l n) 1048576) (ob (und E 9) fun d3 => oi (match d3 with | .string => true | _ => false) (apE0 E m nx [t, 9] s (.str (zrL n))))))))
      | _ => none
    | _ => none
  | _ => apE0 E m nx ts s x
theorem apE_ok {P : Program} {E : Env} (hE : EnvOk P E) {ρ : Pl} {m : T SObj} {nx : Nat} {w0 : Base} {w : World} (h : Emb P ρ m nx w0 w) {ts : Array TypeId} {ty : TypeId} {s x : SV} {us ux : Value} {r : SV × T SObj × Nat} (g : apE E m nx ts.toList s x = some r) (hs : den ρ s = some us) (hx : den ρ x = some ux) :
    ∃ ρ' u w', Le ρ ρ' ∧ (Builtin.append_ ts ty #[us, ux]).run P w = .ok u w' ∧ den ρ' r.1 = some u ∧ Emb P ρ' r.2.1 r.2.2 w0 w' := by
  unfold apE at g
  split at g
  case h_2 => exact apE0_ok hE h g hs hx
  rename_i n
  split at g
  case h_2 => cases g
  rename_i t t2 hts
  obtain rfl : ts = #[t, t2] := by rw [← Array.toArray_toList (xs := ts), hts]
  obtain ⟨d, g1, g⟩ := ob_eq.1 g
  obtain ⟨d2, g2, g⟩ := ob_eq.1 g
  split at g
  case h_2 => cases g
  rename_i e
  obtain ⟨g3, g⟩ := oi_eq.1 g
  obtain ⟨i, g4, g⟩ := ob_eq.1 g
  obtain ⟨z, g5, g⟩ := ob_eq.1 g
  obtain ⟨g6, g⟩ := oi_eq.1 g
  obtain ⟨g7, g⟩ := oi_eq.1 g
  obtain ⟨g8, g⟩ := oi_eq.1 g
  obtain ⟨l, g9, g⟩ := ob_eq.1 g
  obtain ⟨g10, g⟩ := oi_eq.1 g
  obtain ⟨d3, g11, g⟩ := ob_eq.1 g
  obtain ⟨g12, gg⟩ := oi_eq.1 g
  have hd2 : ∃ k, d2 = .int k := by cases d2 <;> first | exact ⟨_, rfl⟩ | cases g3
  obtain ⟨k, rfl⟩ := hd2
  have hd3 : d3 = .string := by cases d3 <;> first | rfl | cases g12
  subst hd3
  have hz : z = .int .u8 0 := by
    unfold isZ8 at g6
    split at g6
    · rename_i j
      obtain rfl := nbeq_iff.1 g6
      rfl
    · cases g6
  subst hz
  rw [nbeq_iff] at g7 g8
  rw [nble_iff] at g10
  have hi := hE.ty _ _ g4
  obtain ⟨zu, -, a2, i', a3, a4⟩ := zrE_ok hE g5 ρ w
  rw [hi] at a3
  cases a3
  rw [den_int] at a2
  cases a2
  obtain ⟨base, c, rfl⟩ := slN_ok g9 hs
  rw [den_int] at hx
  cases hx
  have hstr : den ρ (.str (zrL n)) = some (.string (zrs n)) := by
    rw [← zrL_bytes, den_str_mk ρ (fun x hx => by rw [zrL_eq] at hx; rw [List.eq_of_mem_replicate hx]; decide)]
  obtain ⟨ρ', u, w', b1, b2, b3, b4⟩ := apE0_ok (ts := #[t, 9]) (ty := ty) hE h gg hs hstr
  exact ⟨ρ', u, w', b1, (app_zero (und_ok hE g1) (und_ok hE g2) (und_ok hE g11) hi g7 g8 a4 g10).trans b2, b3, b4⟩
/-- copy. -/
noncomputable def cpE (E : Env) (m : T SObj) (t : TypeId) (d x : SV) : Option (SV × T SObj) := ob (und E t) fun dd => match dd with
  | .slice e => ob (szE E e) fun s => ob (lenS x) fun n => match d with
    | .nslc => ob (srcE m s 0 x) fun _ => some (.int .i64 (.ofNat 0), m)
    | .slc b o l _ => ob (srcE m s (Nat.min n l) x) fun cs => ob (m.get b) fun y => match y with
      | .cells cs0 e' opn => oi (Nat.ble (Nat.add o (lenC cs)) (lenC cs0)) (some (.int .i64 (.ofNat (Nat.min n l)), m.put (some (.cells (lay o cs cs0) e' opn)) b))
      | _ => none
    | .slu b o l _ => ob (srcE m s (Nat.min n l) x) fun cs => ob (m.get b) fun y => match y with
      | .cells cs0 e' opn => oi (Nat.ble (Nat.add o (lenC cs)) (lenC cs0)) (some (.int .i64 (.ofNat (Nat.min n l)), m.put (some (.cells (lay o cs cs0) e' opn)) b))
      | _ => none
    | _ => none
  | _ => none
theorem cpE_ok {P : Program} {E : Env} (hE : EnvOk P E) {ρ : Pl} {m : T SObj} {nx : Nat} {w0 : Base} {w : World} (h : Emb P ρ m nx w0 w) {ts : Array TypeId} {ty t : TypeId} (hts : ts[0]? = some t) {d x : SV} {ud ux : Value} {r : SV × T SObj} (g : cpE E m t d x = some r) (hd : den ρ d = some ud) (hx : den ρ x = some ux) :
    ∃ u w', (Builtin.copy_ ts ty #[ud, ux]).run P w = .ok u w' ∧ den ρ r.1 = some u ∧ Emb P ρ r.2 nx w0 w' := by
  obtain ⟨dd, g1, g2⟩ := ob_eq.1 g
  split at g2
  case h_2 => cases g2
  rename_i e
  obtain ⟨s, g3, g4⟩ := ob_eq.1 g2
  obtain ⟨n, g5, g6⟩ := ob_eq.1 g4
  have ht := und_ok hE g1
  have hlen := lenS_ok (P := P) g5 hx w
  have wr : ∀ {b o l c : Nat} {x' : Nat × Nat}, ρ b = some x' → ud = .slice (some ⟨x'.1, o, none⟩) l c → (ob (srcE m s (Nat.min n l) x) fun cs => ob (m.get b) fun y => match y with
      | .cells cs0 e' opn => oi (Nat.ble (Nat.add o (lenC cs)) (lenC cs0)) (some (SV.int .i64 (.ofNat (Nat.min n l)), m.put (some (.cells (lay o cs cs0) e' opn)) b))
      | _ => none) = some r → ∃ u w', (Builtin.copy_ ts ty #[ud, ux]).run P w = .ok u w' ∧ den ρ r.1 = some u ∧ Emb P ρ r.2 nx w0 w' := by
    intro b o l c x' hb hud hg
    obtain ⟨cs, k1, k2⟩ := ob_eq.1 hg
    obtain ⟨y, k3, k4⟩ := ob_eq.1 k2
    split at k4
    · rename_i cs0 e' opn
      obtain ⟨k5, k6⟩ := oi_eq.1 k4
      cases k6
      rw [nble_iff] at k5
      obtain ⟨ns, n1, n2, n3, n4⟩ := srcE_ok h k1 hx
      obtain ⟨w', f1, f2⟩ := h.write k3 hb n1 n2 k5
      refine ⟨_, w', ?_, den_int _ _ _, f2⟩
      subst hud
      unfold Builtin.copy_
      simp only [hts, Array.getElem?_eq_getElem, List.size_toArray, List.length_cons, List.length_nil, List.getElem_toArray, List.getElem_cons_zero, List.getElem_cons_succ, Nat.reduceAdd, Nat.zero_lt_succ, Nat.lt_add_one]
      simp only [Sem.run_bind, run_underlying ht w, Result.andThen_ok, hlen, (szE_ok hE g3 w).1, n3, f1, Sem.run_pure]
      rfl
    · cases k4
  split at g6
  · rw [den_nslc] at hd
    cases hd
    obtain ⟨cs, k1, k2⟩ := ob_eq.1 g6
    cases k2
    obtain ⟨ns, n1, n2, n3, n4⟩ := srcE_ok h k1 hx
    refine ⟨_, w, ?_, den_int _ _ _, h⟩
    unfold Builtin.copy_
    simp only [hts, Array.getElem?_eq_getElem, List.size_toArray, List.length_cons, List.length_nil, List.getElem_toArray, List.getElem_cons_zero, List.getElem_cons_succ, Nat.reduceAdd, Nat.zero_lt_succ, Nat.lt_add_one]
    have hm : Nat.min n 0 = 0 := Nat.min_zero n
    simp only [Sem.run_bind, run_underlying ht w, Result.andThen_ok, hlen, (szE_ok hE g3 w).1, hm, n3, Sem.run_pure]
    rfl
  · obtain ⟨y, a1, rfl⟩ := den_slc hd
    exact wr a1 rfl g6
  · obtain ⟨y, a1, a2, rfl⟩ := den_slu hd
    exact wr a1 rfl g6
  · cases g6
end Go.Proofs.YtodehmognjofhaaGreat

namespace Go.Proofs.YtodehmognjofhaaGreat
open Go.RowKit

noncomputable def rgE (E : Env) (m : T SObj) (nx : Nat) (t : TypeId) (v : SV) : Option (SV × T SObj × Nat) := ob (und E t) fun d => match d, v with
  | .string, .str l => some (.ptr nx 0, m.put (some (.siter l 0)) nx, Nat.succ nx)
  | _, _ => none
variable [Orig]
theorem rgE_ok {P : Program} {E : Env} (hE : EnvOk P E) {ρ : Pl} {m : T SObj} {nx : Nat} {w0 : Base} {w : World} (h : Emb P ρ m nx w0 w) {t : TypeId} {v : SV} {u0 : Value} {r : SV × T SObj × Nat} (e : rgE E m nx t v = some r) (hv : den ρ v = some u0) :
    ∃ ρ' u w', Le ρ ρ' ∧ (Instr.range t u0).run P w = .ok u w' ∧ den ρ' r.1 = some u ∧ Emb P ρ' r.2.1 r.2.2 w0 w' := by
  obtain ⟨d, h1, h2⟩ := ob_eq.1 e
  split at h2
  · cases h2
    obtain ⟨rfl, hl⟩ := den_str hv
    obtain ⟨g1, g2⟩ := h.new 0 (o := .siter _ 0) (ob := .stringIter (bytesOf _) 0) ⟨rfl, rfl, hl⟩
    exact ⟨_, _, _, g2, run_range_string w t _ (und_ok hE h1), den_ptr_mk (pset_same _ _ _) 0, g1⟩
  · cases h2
noncomputable def nxE (m : T SObj) (v : SV) (isS : Bool) : Option (SV × T SObj) := match v with
  | .ptr b o => oi (Nat.beq o 0) (oi isS (ob (m.get b) fun x => match x with
    | .siter s pos => Bool.rec (motive := fun _ => Option (SV × T SObj)) (some (.tup [.bool false], m)) (ob (nth pos s) fun c => oi (Nat.blt c 128) (some (.tup [.bool true, .int .i64 (.ofNat pos), .int .i32 (.ofNat c)], m.put (some (.siter s (Nat.succ pos))) b))) (Nat.blt pos (len s))
    | _ => none))
  | _ => none
theorem Emb.setObj {P : Program} {ρ : Pl} {m : T SObj} {nx : Nat} {w0 : Base} {w : World} (h : Emb P ρ m nx w0 w) {r : Nat} {o o' : SObj} (hr : m.get r = some o) {x : Nat × Nat} (hx : ρ r = some x) {ob0 ob' : Obj} (hw : w.heap[x.1]? = some ob0) (hn : ∀ c e z, ob0 ≠ .cells c e z) (hd : ObjRel P ρ x o' ob') :
    ∃ w', (setObj x.1 ob').run P w = .ok () w' ∧ Emb P ρ (m.put (some o') r) nx w0 w' := by
  refine ⟨{ w with heap := w.heap.setIfInBounds x.1 ob' }, ?_, ?_⟩
  · cases ob0 <;> first | exact absurd rfl (hn _ _ _) | simp [Go.setObj, Sem.run, hw]
  · have hlt : x.1 < w.heap.size := (Array.getElem?_eq_some_iff.1 hw).1
    exact h.upd (o' := o') (ob' := ob') hr hx rfl rfl rfl (by simp) (by simp [hlt]) (fun k hk => by simp [Array.getElem?_setIfInBounds_ne (Ne.symm hk)]) hd
theorem nxE_ok {P : Program} {ρ : Pl} {m : T SObj} {nx : Nat} {w0 : Base} {w : World} (h : Emb P ρ m nx w0 w) {v : SV} {isS : Bool} {ty : TypeId} {u0 : Value} {r : SV × T SObj} (e : nxE m v isS = some r) (hv : den ρ v = some u0) :
    ∃ u w', (Instr.next u0 isS ty).run P w = .ok u w' ∧ den ρ r.1 = some u ∧ Emb P ρ r.2 nx w0 w' := by
  unfold nxE at e
  split at e
  case h_2 => cases e
  rename_i b o
  obtain ⟨h1, h2⟩ := oi_eq.1 e
  obtain ⟨h3, h4⟩ := oi_eq.1 h2
  obtain ⟨x, h5, h6⟩ := ob_eq.1 h4
  obtain rfl := nbeq_iff.1 h1
  subst h3
  obtain ⟨y, g1, rfl⟩ := den_ptr hv
  split at h6
  case h_2 => cases h6
  rename_i s pos
  obtain ⟨y', ob', a1, -, a3, a4⟩ := h.obj b _ h5
  rw [g1] at a1
  cases a1
  cases ob' <;> try exact a4.elim
  rename_i s' pos'
  obtain ⟨rfl, rfl, hl⟩ := a4
  have hget : (getObj y.1).run P w = .ok (.stringIter (bytesOf s) pos') w := by simp [getObj, Sem.run, a3]
  by_cases hp : pos' < s.length
  · have hb : Nat.blt pos' (len s) = true := by rw [len_ok]; exact Nat.ble_eq_true_of_le hp
    rw [hb] at h6
    have h6' : (ob (nth pos' s) fun c => oi (Nat.blt c 128) (some (SV.tup [.bool true, .int .i64 (.ofNat pos'), .int .i32 (.ofNat c)], m.put (some (.siter s (Nat.succ pos'))) b))) = some r := h6
    obtain ⟨c, h7, h8⟩ := ob_eq.1 h6'
    obtain ⟨h9, h10⟩ := oi_eq.1 h8
    cases h10
    rw [nth_ok] at h7
    have hc := blt_true h9
    have hps : pos' < (bytesOf s).size := by rw [bytesOf_size]; exact hp
    have hbyte : ((bytesOf s)[pos']'hps).toNat = c := by
      obtain ⟨b', k1, k2⟩ := bytesOf_get h7 (hl c (List.mem_of_getElem? h7))
      rw [ByteArray.getElem?_lt' _ _ hps] at k1
      cases k1
      exact k2
    have hdec : Utf8.decode (bytesOf s) pos' = (c, 1) := by rw [decode_ascii _ _ hps (by omega), hbyte]
    obtain ⟨w', f1, f2⟩ := h.setObj h5 g1 a3 (fun _ _ _ hh => by cases hh) (o' := .siter s (Nat.succ pos')) (ob' := .stringIter (bytesOf s) (pos' + 1)) ⟨rfl, rfl, hl⟩
    refine ⟨_, w', ?_, den_tup_mk (us := [.bool true, .int .i64 pos', .int .i32 c]) (denL_cons.2 ⟨_, _, den_bool _ _, denL_cons.2 ⟨_, _, den_int _ _ _, denL_cons.2 ⟨_, _, den_int _ _ _, denL_nil ρ, rfl⟩, rfl⟩, rfl⟩), f2⟩
    simp only [Instr.next, Sem.run_bind, hget, Result.andThen_ok]
    rw [if_pos hps]
    simp only [hdec, Sem.run_bind, f1, Result.andThen_ok, Sem.run_pure]
    rfl
  · have hb : Nat.blt pos' (len s) = false := by
      rw [len_ok]
      cases hq : Nat.blt pos' s.length with
      | false => rfl
      | true => exact absurd (blt_true hq) hp
    rw [hb] at h6
    cases h6
    have hps : ¬ pos' < (bytesOf s).size := by rw [bytesOf_size]; exact hp
    refine ⟨_, w, ?_, den_tup_mk (us := [.bool false]) (denL_cons.2 ⟨_, _, den_bool _ _, denL_nil ρ, rfl⟩), h⟩
    simp only [Instr.next, Sem.run_bind, hget, Result.andThen_ok]
    rw [if_neg hps]
    rfl

/-- an entry to be written; what it has, and its stamp. -/
noncomputable def entE (m : T SObj) (x z : SV) (clock : Nat) (es : List SE) : Option ((SV × Nat) × List SE × Nat) := List.rec (motive := fun _ => Option ((SV × Nat) × List SE × Nat)) (some ((z, clock), [⟨x, z, clock⟩], Nat.succ clock)) (fun e es' ih => ob (keyEq m x e.key) fun b => Bool.rec (motive := fun _ => Option ((SV × Nat) × List SE × Nat)) (ob ih fun r => some (r.1, e :: r.2.1, r.2.2)) (some ((e.val, e.born), ⟨x, e.val, e.born⟩ :: es', clock)) b) es
omit [Orig] in
theorem entE_ok {P : Program} {E : Env} (hE : EnvOk P E) {ρ : Pl} {m : T SObj} {w : World} (hm : Held ρ m w) {k : TypeId} {x z : SV} {clock : Nat} {u uz : Value} {d : TypeDesc} (hk : und E k = some d) (ht : keyTy E d x = true) (hx : den ρ x = some u) (hz : den ρ z = some uz) : ∀ {es : List SE} {ms : List MapEntry} {r : (SV × Nat) × List SE × Nat} (i : Nat), entE m x z clock es = some r → denE ρ es ms →
    (Fnd P w k d u ms i none ∧ r.1 = (z, clock) ∧ denE ρ r.2.1 (ms ++ [⟨u, uz, clock⟩]) ∧ r.2.2 = clock + 1) ∨ ∃ j y, ms[j]? = some y ∧ Fnd P w k d u ms i (some (i + j, y.val)) ∧ Instr.sameBits 10000 y.key u = true ∧ den ρ r.1.1 = some y.val ∧ r.1.2 = y.born ∧ denE ρ r.2.1 (ms.modify j fun e => { e with key := u }) ∧ r.2.2 = clock
  | [], [], r, i, h, hd => by cases h; exact .inl ⟨Fnd.nil .., rfl, ⟨hx, hz, rfl, trivial⟩, rfl⟩
  | e :: es, y :: ms, r, i, h, ⟨d1, d2, d3, d4⟩ => by
    have h' : (ob (keyEq m x e.key) fun b => Bool.rec (motive := fun _ => Option ((SV × Nat) × List SE × Nat)) (ob (entE m x z clock es) fun r => some (r.1, e :: r.2.1, r.2.2)) (some ((e.val, e.born), ⟨x, e.val, e.born⟩ :: es, clock)) b) = some r := h
    obtain ⟨b, h1, h2⟩ := ob_eq.1 h'
    have hs := keyEq_ok hE hm hk h1 ht hx d1
    cases b with
    | true =>
      cases h2
      exact .inr ⟨0, y, rfl, Fnd.here hs ms i, keyEq_bits h1 hx d1 9999, d2, d3, ⟨hx, d2, d3, d4⟩, rfl⟩
    | false =>
      have h2' : (ob (entE m x z clock es) fun r => some (r.1, e :: r.2.1, r.2.2)) = some r := h2
      obtain ⟨r', h3, h4⟩ := ob_eq.1 h2'
      cases h4
      rcases entE_ok hE hm hk ht hx hz (i + 1) h3 d4 with ⟨g1, g2, g3, g4⟩ | ⟨j, y', g1, g2, g3, g4, g5, g6, g7⟩
      · exact .inl ⟨Fnd.later hs g1, g2, ⟨d1, d2, d3, g3⟩, g4⟩
      · exact .inr ⟨j + 1, y', g1, by rw [show i + (j + 1) = i + 1 + j by omega]; exact Fnd.later hs g2, g3, g4, g5, by rw [List.modify_succ_cons]; exact ⟨d1, d2, d3, g6⟩, g7⟩
noncomputable def meE (E : Env) (m : T SObj) (t : TypeId) (a x : SV) : Option (SV × T SObj) := ob (und E t) fun d => match d with
  | .map k el => match a with
    | .map r => ob (m.get r) fun o => match o with
      | .map es clock => ob (und E k) fun dk => oi (keyTy E dk x) (ob (zrE E el) fun z => ob (entE m x z clock es) fun q => some (.tup [q.1.1, .int .i64 (.ofNat q.1.2)], m.put (some (.map q.2.1 q.2.2)) r))
      | _ => none
    | _ => none
  | _ => none
theorem meE_ok {P : Program} {E : Env} (hE : EnvOk P E) {ρ : Pl} {m : T SObj} {nx : Nat} {w0 : Base} {w : World} (h : Emb P ρ m nx w0 w) {t : TypeId} {a x : SV} {ua ux : Value} {r : SV × T SObj} (e : meE E m t a x = some r) (ha : den ρ a = some ua) (hx : den ρ x = some ux) :
    ∃ u w', (Instr.mapEntry t ua ux).run P w = .ok u w' ∧ den ρ r.1 = some u ∧ Emb P ρ r.2 nx w0 w' := by
  obtain ⟨d, h1, h2⟩ := ob_eq.1 e
  have hu := und_ok hE h1
  split at h2
  case h_2 => cases h2
  rename_i k el
  split at h2
  case h_2 => cases h2
  rename_i r'
  obtain ⟨o, h3, h4⟩ := ob_eq.1 h2
  split at h4
  case h_2 => cases h4
  rename_i es clock
  obtain ⟨dk, h5, h6⟩ := ob_eq.1 h4
  obtain ⟨h7, h8⟩ := oi_eq.1 h6
  obtain ⟨z, h9, h10⟩ := ob_eq.1 h8
  obtain ⟨q, h11, h12⟩ := ob_eq.1 h10
  cases h12
  obtain ⟨y, g1, rfl⟩ := den_map ha
  obtain ⟨y', ob', a1, -, a3, a4⟩ := h.obj r' _ h3
  rw [g1] at a1
  cases a1
  cases ob' <;> try exact a4.elim
  rename_i ms c
  obtain ⟨rfl, a5⟩ := a4
  obtain ⟨zu, z1, z2, -⟩ := zrE_ok hE h9 ρ w
  have hget : (getObj y.1).run P w = .ok (.map ms c) w := by simp [getObj, Sem.run, a3]
  have ck := checkKey_ok hE h5 h7 hx false w
  have fk : ∀ q, Fnd P w k dk ux ms.toList 0 q → (Instr.findKey k ux ms.toList).run P w = .ok q w := fun q hq => hq.run hE h5
  rcases entE_ok hE h.held h5 h7 hx z2 0 h11 a5 with ⟨b1, b2, b3, b4⟩ | ⟨j, y', b1, b2, b3, b4, b5, b6, b7⟩
  · obtain ⟨w', c1, c2⟩ := h.setMap (ms := ms.push { key := ux, val := zu, born := c }) (c := c + 1) (es := q.2.1) h3 g1 a3 (by simpa using b3)
    rw [← b4] at c2
    refine ⟨_, w', ?_, den_tup_mk (us := [zu, goInt c]) (denL_cons.2 ⟨_, _, by rw [b2]; exact z2, denL_cons.2 ⟨_, _, by rw [b2]; exact den_int _ _ _, denL_nil ρ, rfl⟩, rfl⟩), c2⟩
    simp only [Instr.mapEntry, Sem.run_bind, run_underlying hu w, Result.andThen_ok, hget, ck, fk _ b1, z1, c1, Sem.run_pure]
  · rw [Nat.zero_add] at b2
    obtain ⟨w', c1, c2⟩ := h.setMap (ms := ms.modify j fun e => { e with key := ux }) (c := c) (es := q.2.1) h3 g1 a3 (by rw [Array.toList_modify]; exact b6)
    rw [← b7] at c2
    have hj : ms[j]? = some y' := by simpa using b1
    refine ⟨_, w', ?_, den_tup_mk (us := [y'.val, goInt y'.born]) (denL_cons.2 ⟨_, _, b4, denL_cons.2 ⟨_, _, by rw [b5]; exact den_int _ _ _, denL_nil ρ, rfl⟩, rfl⟩), c2⟩
    have hk : ((ms[j]?).map (·.key)).getD ux = y'.key := by rw [hj]; rfl
    have kt : (Instr.keyThatStays y'.key ux).run P w = .ok ux w := by unfold Instr.keyThatStays; rw [if_pos b3]; rfl
    simp only [Instr.mapEntry, Sem.run_bind, run_underlying hu w, Result.andThen_ok, hget, ck, fk _ b2, hk, kt, c1, Sem.run_pure]
    rw [hj]
    rfl
noncomputable def estE (n : Nat) (v : SV) (es : List SE) : Option (List SE) := List.rec (motive := fun _ => Option (List SE)) none (fun e es' ih => Bool.rec (motive := fun _ => Option (List SE)) (ob ih fun r => some (e :: r)) (some (⟨e.key, v, e.born⟩ :: es')) (Nat.beq e.born n)) es
omit [Orig] in
theorem estE_ok {ρ : Pl} {n : Nat} {v : SV} {uv : Value} (hv : den ρ v = some uv) : ∀ {es : List SE} {ms : List MapEntry} {r : List SE}, estE n v es = some r → denE ρ es ms → ∃ j, ms.findIdx? (fun e => (e.born : Int) == (n : Int)) = some j ∧ denE ρ r (ms.modify j fun e => { e with val := uv })
  | [], [], r, h, hd => by cases h
  | e :: es, y :: ms, r, h, ⟨d1, d2, d3, d4⟩ => by
    have h' : Bool.rec (motive := fun _ => Option (List SE)) (ob (estE n v es) fun r => some (e :: r)) (some (⟨e.key, v, e.born⟩ :: es)) (Nat.beq e.born n) = some r := h
    by_cases hb : e.born = n
    · rw [nbeq_iff.2 hb] at h'
      cases h'
      exact ⟨0, by simp [List.findIdx?_cons, ← d3, hb], d1, hv, d3, d4⟩
    · rw [nbeq hb] at h'
      have h2 : (ob (estE n v es) fun r => some (e :: r)) = some r := h'
      obtain ⟨r', h3, h4⟩ := ob_eq.1 h2
      cases h4
      obtain ⟨j, g1, g2⟩ := estE_ok hv h3 d4
      refine ⟨j + 1, ?_, by rw [List.modify_succ_cons]; exact ⟨d1, d2, d3, g2⟩⟩
      rw [List.findIdx?_cons, g1]
      have : ((y.born : Int) == (n : Int)) = false := by rw [← d3, beq_eq_false_iff_ne]; omega
      rw [this]
      rfl
noncomputable def esE (m : T SObj) (a s v : SV) : Option (T SObj) := match a, s with
  | .map r, .int _ (.ofNat n) => ob (m.get r) fun o => match o with
    | .map es clock => ob (estE n v es) fun es' => some (m.put (some (.map es' clock)) r)
    | _ => none
  | _, _ => none
theorem esE_ok {P : Program} {ρ : Pl} {m m' : T SObj} {nx : Nat} {w0 : Base} {w : World} (h : Emb P ρ m nx w0 w) {t : TypeId} {a s v : SV} {ua us uv : Value} (e : esE m a s v = some m') (ha : den ρ a = some ua) (hs : den ρ s = some us) (hv : den ρ v = some uv) :
    ∃ w', (Instr.entryStore t ua us uv).run P w = .ok () w' ∧ Emb P ρ m' nx w0 w' := by
  unfold esE at e
  split at e
  case h_2 => cases e
  rename_i r k n
  obtain ⟨o, h3, h4⟩ := ob_eq.1 e
  split at h4
  case h_2 => cases h4
  rename_i es clock
  obtain ⟨es', h5, h6⟩ := ob_eq.1 h4
  cases h6
  obtain ⟨y, g1, rfl⟩ := den_map ha
  rw [den_int] at hs
  cases hs
  obtain ⟨y', ob', a1, -, a3, a4⟩ := h.obj r _ h3
  rw [g1] at a1
  cases a1
  cases ob' <;> try exact a4.elim
  rename_i ms c
  obtain ⟨rfl, a5⟩ := a4
  have hget : (getObj y.1).run P w = .ok (.map ms c) w := by simp [getObj, Sem.run, a3]
  obtain ⟨j, b1, b2⟩ := estE_ok hv h5 a5
  obtain ⟨w', c1, c2⟩ := h.setMap (ms := ms.modify j fun e => { e with val := uv }) (c := c) (es := es') h3 g1 a3 (by rw [Array.toList_modify]; exact b2)
  refine ⟨w', ?_, c2⟩
  have hf : ms.findIdx? (fun e => (e.born : Int) == (n : Int)) = some j := by
    obtain ⟨l⟩ := ms
    rw [List.findIdx?_toArray]
    exact b1
  have hf' : ms.findIdx? (fun e => (e.born : Int) == Int.ofNat n) = some j := hf
  simp only [Instr.entryStore, Sem.run_bind, Sem.run_pure, Result.andThen_ok, hget, asInt, asIntOf, hf', c1]
noncomputable def delE (m : T SObj) (x : SV) (es : List SE) : Option (List SE) := List.rec (motive := fun _ => Option (List SE)) (some []) (fun e es' ih => ob (keyEq m x e.key) fun b => Bool.rec (motive := fun _ => Option (List SE)) (ob ih fun r => some (e :: r)) (some es') b) es
omit [Orig] in
theorem delE_ok {P : Program} {E : Env} (hE : EnvOk P E) {ρ : Pl} {m : T SObj} {w : World} (hm : Held ρ m w) {k : TypeId} {x : SV} {u : Value} {d : TypeDesc} (hk : und E k = some d) (ht : keyTy E d x = true) (hx : den ρ x = some u) : ∀ {es : List SE} {ms : List MapEntry} {r : List SE} (i : Nat), delE m x es = some r → denE ρ es ms →
    (Fnd P w k d u ms i none ∧ denE ρ r ms) ∨ ∃ j y, ms[j]? = some y ∧ Fnd P w k d u ms i (some (i + j, y.val)) ∧ denE ρ r (ms.eraseIdx j)
  | [], [], r, i, h, hd => by cases h; exact .inl ⟨Fnd.nil .., trivial⟩
  | e :: es, y :: ms, r, i, h, ⟨d1, d2, d3, d4⟩ => by
    have h' : (ob (keyEq m x e.key) fun b => Bool.rec (motive := fun _ => Option (List SE)) (ob (delE m x es) fun r => some (e :: r)) (some es) b) = some r := h
    obtain ⟨b, h1, h2⟩ := ob_eq.1 h'
    have hs := keyEq_ok hE hm hk h1 ht hx d1
    cases b with
    | true =>
      cases h2
      exact .inr ⟨0, y, rfl, Fnd.here hs ms i, d4⟩
    | false =>
      have h2' : (ob (delE m x es) fun r => some (e :: r)) = some r := h2
      obtain ⟨r', h3, h4⟩ := ob_eq.1 h2'
      cases h4
      rcases delE_ok hE hm hk ht hx (i + 1) h3 d4 with ⟨g1, g2⟩ | ⟨j, y', g1, g2, g3⟩
      · exact .inl ⟨Fnd.later hs g1, d1, d2, d3, g2⟩
      · exact .inr ⟨j + 1, y', g1, by rw [show i + (j + 1) = i + 1 + j by omega]; exact Fnd.later hs g2, d1, d2, d3, g3⟩
noncomputable def dlE (E : Env) (m : T SObj) (t : TypeId) (a x : SV) : Option (T SObj) := ob (und E t) fun d => match d with
  | .map k _ => ob (und E k) fun dk => oi (keyTy E dk x) (match a with
    | .nmap => some m
    | .map r => ob (m.get r) fun o => match o with
      | .map es clock => ob (delE m x es) fun es' => some (m.put (some (.map es' clock)) r)
      | _ => none
    | _ => none)
  | _ => none
theorem dlE_ok {P : Program} {E : Env} (hE : EnvOk P E) {ρ : Pl} {m m' : T SObj} {nx : Nat} {w0 : Base} {w : World} (h : Emb P ρ m nx w0 w) {ts : Array TypeId} {ty t : TypeId} (hts : ts[0]? = some t) {a x : SV} {ua ux : Value} (e : dlE E m t a x = some m') (ha : den ρ a = some ua) (hx : den ρ x = some ux) :
    ∃ w', (Builtin.delete_ ts ty #[ua, ux]).run P w = .ok undef w' ∧ Emb P ρ m' nx w0 w' := by
  obtain ⟨d, h1, h2⟩ := ob_eq.1 e
  have hu := und_ok hE h1
  split at h2
  case h_2 => cases h2
  rename_i k el
  obtain ⟨dk, h5, h6⟩ := ob_eq.1 h2
  obtain ⟨h7, h8⟩ := oi_eq.1 h6
  have ck := fun em => checkKey_ok hE h5 h7 hx em w
  unfold Builtin.delete_
  simp only [hts, Array.getElem?_eq_getElem, List.size_toArray, List.length_cons, List.length_nil, List.getElem_toArray, List.getElem_cons_zero, List.getElem_cons_succ, Nat.reduceAdd, Nat.zero_lt_succ, Nat.lt_add_one]
  simp only [Sem.run_bind, run_underlying hu w, Result.andThen_ok]
  split at h8
  · cases h8
    rw [den_nmap] at ha
    cases ha
    exact ⟨w, by simp only [Sem.run_bind, ck, Result.andThen_ok, Sem.run_pure]; rfl, h⟩
  · rename_i r
    obtain ⟨o, h3, h4⟩ := ob_eq.1 h8
    split at h4
    case h_2 => cases h4
    rename_i es clock
    obtain ⟨es', h9, h10⟩ := ob_eq.1 h4
    cases h10
    obtain ⟨y, g1, rfl⟩ := den_map ha
    obtain ⟨y', ob', a1, -, a3, a4⟩ := h.obj r _ h3
    rw [g1] at a1
    cases a1
    cases ob' <;> try exact a4.elim
    rename_i ms c
    obtain ⟨rfl, a5⟩ := a4
    have hget : (getObj y.1).run P w = .ok (.map ms c) w := by simp [getObj, Sem.run, a3]
    have fk : ∀ q, Fnd P w k dk ux ms.toList 0 q → (Instr.findKey k ux ms.toList).run P w = .ok q w := fun q hq => hq.run hE h5
    rcases delE_ok hE h.held h5 h7 hx 0 h9 a5 with ⟨b1, b2⟩ | ⟨j, y', b1, b2, b3⟩
    · obtain ⟨w', c1, c2⟩ := h.setMap (ms := ms) (c := c) (es := es') h3 g1 a3 b2
      refine ⟨w', ?_, c2⟩
      simp only [Sem.run_bind, hget, Result.andThen_ok, ck, fk _ b1, c1, Sem.run_pure]
      rfl
    · rw [Nat.zero_add] at b2
      obtain ⟨w', c1, c2⟩ := h.setMap (ms := ms.eraseIdxIfInBounds j) (c := c) (es := es') h3 g1 a3 (by rw [Array.toList_eraseIdxIfInBounds]; exact b3)
      refine ⟨w', ?_, c2⟩
      simp only [Sem.run_bind, hget, Result.andThen_ok, ck, fk _ b2, c1, Sem.run_pure]
      rfl
  · cases h8
/-- clear of a slice. -/
noncomputable def repS (z : SV) (n : Nat) : List SV := Nat.rec (motive := fun _ => List SV) [] (fun _ ih => z :: ih) n
noncomputable def clsE (E : Env) (m : T SObj) (el : TypeId) (b o n : Nat) : Option (T SObj) := match n with
  | 0 => some m
  | k + 1 => ob (zrE E el) fun z => match cellsOf z with
    | [c] => oi (Nat.beq (lenC [c]) 1) (oi (match z with | .tup _ => false | _ => true) (ob (m.get b) fun x => match x with
      | .cells cs e opn => oi (Nat.ble (Nat.add o (Nat.succ k)) (lenC cs)) (some (m.put (some (.cells (lay o (repS c (Nat.succ k)) cs) e opn)) b))
      | _ => none))
    | _ => none
omit [Orig] in
theorem repS_den {ρ : Pl} {c : SV} {u : Value} (h : denC ρ [c] = some [u]) : ∀ n, denC ρ (repS c n) = some (List.replicate n u)
  | 0 => denC_nil _
  | n + 1 => by
    show denC ρ ([c] ++ repS c n) = _
    rw [denC_append h (repS_den h n)]
    rfl
omit [Orig] in
theorem repS_onc {c : SV} (h : [c].all SV.onc = true) : ∀ n, (repS c n).all SV.onc = true
  | 0 => rfl
  | n + 1 => by
    show (c :: repS c n).all SV.onc = true
    rw [List.all_cons, repS_onc h n]
    simpa using h
theorem clsE_ok {P : Program} {E : Env} (hE : EnvOk P E) {ρ : Pl} {m m' : T SObj} {nx : Nat} {w0 : Base} {w : World} (h : Emb P ρ m nx w0 w) {el : TypeId} {b o n : Nat} (e : clsE E m el b o n = some m') {y : Nat × Nat} (hy : ρ b = some y) (c : Nat) {ts : Array TypeId} {ty t : TypeId} (hts : ts[0]? = some t) (hu : P.underlying t = some (.slice el)) :
    ∃ w', (Builtin.clear_ ts ty #[.slice (some ⟨y.1, o, none⟩) n c]).run P w = .ok undef w' ∧ Emb P ρ m' nx w0 w' := by
  unfold Builtin.clear_
  simp only [hts, Array.getElem?_eq_getElem, List.size_toArray, List.length_cons, List.length_nil, List.getElem_toArray, List.getElem_cons_zero, Nat.reduceAdd, Nat.lt_add_one]
  simp only [Sem.run_bind, run_underlying hu w, Result.andThen_ok]
  cases n with
  | zero =>
    cases e
    exact ⟨w, rfl, h⟩
  | succ k =>
    obtain ⟨z, h1, h2⟩ := ob_eq.1 (show (ob (zrE E el) fun z => match cellsOf z with
      | [c] => oi (Nat.beq (lenC [c]) 1) (oi (match z with | .tup _ => false | _ => true) (ob (m.get b) fun x => match x with
        | .cells cs e opn => oi (Nat.ble (Nat.add o (Nat.succ k)) (lenC cs)) (some (m.put (some (.cells (lay o (repS c (Nat.succ k)) cs) e opn)) b))
        | _ => none))
      | _ => none) = some m' from e)
    obtain ⟨zu, c1, c2, -⟩ := zrE_ok hE h1 ρ w
    split at h2
    case h_2 => cases h2
    rename_i c0 hc0
    obtain ⟨h3, h4⟩ := oi_eq.1 h2
    obtain ⟨h5, h6⟩ := oi_eq.1 h4
    obtain ⟨x, h7, h8⟩ := ob_eq.1 h6
    split at h8
    case h_2 => cases h8
    rename_i cs te opn
    obtain ⟨h9, h10⟩ := oi_eq.1 h8
    cases h10
    rw [nbeq_iff] at h3
    rw [nble_iff] at h9
    have h9' : o + (k + 1) ≤ lenC cs := h9
    have d1 := cellsOf_den c2
    have d2 := cellsOf_one c2 (fun l hl => by rw [hl] at h5; cases h5)
    rw [hc0] at d1 d2
    have d3 := denC_len d1
    obtain ⟨u, hu1⟩ : ∃ u, zu.cells = #[u] := by
      have h0 : zu.cells.toList.length = 1 := by rw [d3]; exact h3
      obtain ⟨u, hu⟩ := List.length_eq_one_iff.1 h0
      exact ⟨u, by rw [← Array.toArray_toList (xs := zu.cells), hu]⟩
    rw [hu1] at d1
    have d4 := repS_den d1 (k + 1)
    have hl : lenC (repS c0 (k + 1)) = k + 1 := by rw [← denC_len d4, List.length_replicate]
    obtain ⟨w', g1, g2⟩ := h.write h7 hy d4 (repS_onc d2 (k + 1)) (o := o) (by rw [hl]; exact h9')
    refine ⟨w', ?_, g2⟩
    have e1 : (Builtin.zeroCells zu.cells (k + 1)).toList = List.replicate (k + 1) u := by
      rw [hu1]
      apply List.ext_getElem
      · simp [Builtin.zeroCells]
      · intro i h1 h2
        simp [Builtin.zeroCells, Nat.mod_one]
    simp only [Sem.run_bind, c1, Result.andThen_ok, e1, g1, Sem.run_pure]
    rfl
/-- clear of a map. -/
noncomputable def clrE (E : Env) (m : T SObj) (t : TypeId) (a : SV) : Option (T SObj) := ob (und E t) fun d => match d with
  | .map _ _ => match a with
    | .nmap => some m
    | .map r => ob (m.get r) fun o => match o with
      | .map _ clock => some (m.put (some (.map [] clock)) r)
      | _ => none
    | _ => none
  | .slice el => match a with
    | .nslc => some m
    | .slc b o n _ => clsE E m el b o n
    | .slu b o n _ => clsE E m el b o n
    | _ => none
  | _ => none
theorem clrE_ok {P : Program} {E : Env} (hE : EnvOk P E) {ρ : Pl} {m m' : T SObj} {nx : Nat} {w0 : Base} {w : World} (h : Emb P ρ m nx w0 w) {ts : Array TypeId} {ty t : TypeId} (hts : ts[0]? = some t) {a : SV} {ua : Value} (e : clrE E m t a = some m') (ha : den ρ a = some ua) :
    ∃ w', (Builtin.clear_ ts ty #[ua]).run P w = .ok undef w' ∧ Emb P ρ m' nx w0 w' := by
  obtain ⟨d, h1, h2⟩ := ob_eq.1 e
  have hu := und_ok hE h1
  split at h2
  case h_3 => cases h2
  case h_2 =>
    rename_i el
    split at h2
    · cases h2
      rw [den_nslc] at ha
      cases ha
      unfold Builtin.clear_
      simp only [hts, Array.getElem?_eq_getElem, List.size_toArray, List.length_cons, List.length_nil, List.getElem_toArray, List.getElem_cons_zero, Nat.reduceAdd, Nat.lt_add_one]
      simp only [Sem.run_bind, run_underlying hu w, Result.andThen_ok]
      exact ⟨w, rfl, h⟩
    · obtain ⟨y, g1, rfl⟩ := den_slc ha
      exact clsE_ok hE h h2 g1 _ hts hu
    · obtain ⟨y, g1, -, rfl⟩ := den_slu ha
      exact clsE_ok hE h h2 g1 _ hts hu
    · cases h2
  rename_i k el
  unfold Builtin.clear_
  simp only [hts, Array.getElem?_eq_getElem, List.size_toArray, List.length_cons, List.length_nil, List.getElem_toArray, List.getElem_cons_zero, Nat.reduceAdd, Nat.lt_add_one]
  simp only [Sem.run_bind, run_underlying hu w, Result.andThen_ok]
  split at h2
  · cases h2
    rw [den_nmap] at ha
    cases ha
    exact ⟨w, rfl, h⟩
  · rename_i r
    obtain ⟨o, h3, h4⟩ := ob_eq.1 h2
    split at h4
    case h_2 => cases h4
    rename_i es clock
    cases h4
    obtain ⟨y, g1, rfl⟩ := den_map ha
    obtain ⟨y', ob', a1, -, a3, a4⟩ := h.obj r _ h3
    rw [g1] at a1
    cases a1
    cases ob' <;> try exact a4.elim
    rename_i ms c
    obtain ⟨rfl, a5⟩ := a4
    have hget : (getObj y.1).run P w = .ok (.map ms c) w := by simp [getObj, Sem.run, a3]
    obtain ⟨w', c1, c2⟩ := h.setMap (ms := #[]) (c := c) (es := []) h3 g1 a3 trivial
    refine ⟨w', ?_, c2⟩
    simp only [Sem.run_bind, hget, Result.andThen_ok, c1, Sem.run_pure]
    rfl
  · cases h2
end Go.Proofs.YtodehmognjofhaaGreat

namespace Go.Proofs.YtodehmognjofhaaGreat
open Go.RowKit

noncomputable def rmE (E : Env) (m : T SObj) (nx : Nat) (t : TypeId) (v : SV) : Option (SV × T SObj × Nat) := match v with
  | .nmap => ob (und E t) fun d => match d with
    | .map _ _ => some (.ptr nx 0, m.put (some (.miter none 0 [] 0)) nx, Nat.succ nx)
    | _ => none
  | .map r => ob (und E t) fun d => match d with
    | .map _ _ => ob (m.get r) fun o => match o with
      | .map _ clock => some (.ptr nx 0, m.put (some (.miter (some r) clock [] clock)) nx, Nat.succ nx)
      | _ => none
    | _ => none
  | v => rgE E m nx t v
variable [Orig]
theorem rmE_ok {P : Program} {E : Env} (hE : EnvOk P E) {ρ : Pl} {m : T SObj} {nx : Nat} {w0 : Base} {w : World} (h : Emb P ρ m nx w0 w) {t : TypeId} {v : SV} {u0 : Value} {r : SV × T SObj × Nat} (e : rmE E m nx t v = some r) (hv : den ρ v = some u0) :
    ∃ ρ' u w', Le ρ ρ' ∧ (Instr.range t u0).run P w = .ok u w' ∧ den ρ' r.1 = some u ∧ Emb P ρ' r.2.1 r.2.2 w0 w' := by
  unfold rmE at e
  split at e
  · obtain ⟨d, h1, h2⟩ := ob_eq.1 e
    have hu := und_ok hE h1
    split at h2
    · cases h2
      rw [den_nmap] at hv
      cases hv
      obtain ⟨g1, g2⟩ := h.new 0 (o := .miter none 0 [] 0) (ob := .mapIter none 0 #[] 0) ⟨rfl, rfl, rfl, rfl⟩
      refine ⟨_, _, _, g2, ?_, den_ptr_mk (pset_same _ _ _) 0, g1⟩
      simp only [Instr.range, Sem.run_bind, run_underlying hu w, Result.andThen_ok, Sem.run_pure, run_newObj_alloc]
    · cases h2
  · rename_i q
    obtain ⟨d, h1, h2⟩ := ob_eq.1 e
    have hu := und_ok hE h1
    split at h2
    · obtain ⟨o, h3, h4⟩ := ob_eq.1 h2
      split at h4
      · rename_i es clock
        cases h4
        obtain ⟨y, a1, rfl⟩ := den_map hv
        obtain ⟨y', ob', b1, -, b3, b4⟩ := h.obj q _ h3
        rw [a1] at b1
        cases b1
        cases ob' <;> try exact b4.elim
        rename_i ms c
        obtain ⟨rfl, -⟩ := b4
        have hle := pset_le (b := nx) (w.heap.size, 0) (h.fresh nx (Nat.le_refl _)).1
        obtain ⟨g1, g2⟩ := h.new 0 (o := .miter (some q) c [] c) (ob := .mapIter (some y.1) c #[] c) ⟨rfl, rfl, rfl, y, hle q y a1, rfl⟩
        have hget : (getObj y.1).run P w = .ok (.map ms c) w := by simp [getObj, Sem.run, b3]
        refine ⟨_, _, _, g2, ?_, den_ptr_mk (pset_same _ _ _) 0, g1⟩
        simp only [Instr.range, Sem.run_bind, run_underlying hu w, Result.andThen_ok, Sem.run_pure, run_newObj_alloc, hget]
      · cases h4
    · cases h2
  · exact rgE_ok hE h e hv
/-- the entries that are left: those that have not been seen. -/
noncomputable def memN (x : Nat) (l : List Nat) : Bool := List.rec (motive := fun _ => Bool) false (fun y _ ih => Bool.rec (motive := fun _ => Bool) ih true (Nat.beq x y)) l
omit [Orig] in
theorem memN_ok (x : Nat) : ∀ l : List Nat, memN x l = l.contains x
  | [] => rfl
  | y :: l => by
    show Bool.rec (motive := fun _ => Bool) (memN x l) true (Nat.beq x y) = _
    rw [memN_ok x l, List.contains_cons, beq_nbeq]
    cases Nat.beq x y <;> rfl
noncomputable def leftE (seen : List Nat) (es : List SE) : List SE := List.rec (motive := fun _ => List SE) [] (fun e _ ih => Bool.rec (motive := fun _ => List SE) (e :: ih) ih (memN e.born seen)) es
omit [Orig] in
theorem leftE_ok {ρ : Pl} {seen : List Nat} : ∀ {es : List SE} {ms : List MapEntry}, denE ρ es ms → denE ρ (leftE seen es) (ms.filter fun e => !seen.contains e.born)
  | [], [], _ => trivial
  | e :: es, y :: ms, ⟨d1, d2, d3, d4⟩ => by
    have ih := leftE_ok (seen := seen) d4
    show denE ρ (Bool.rec (motive := fun _ => List SE) (e :: leftE seen es) (leftE seen es) (memN e.born seen)) _
    rw [memN_ok, d3]
    cases hb : seen.contains y.born with
    | true => rw [List.filter_cons_of_neg (by rw [hb]; simp)]; exact ih
    | false => rw [List.filter_cons_of_pos (by rw [hb]; rfl)]; exact ⟨d1, d2, d3, ih⟩
noncomputable def nmV (m : T SObj) (v : SV) : Option (SV × T SObj) := match v with
  | .ptr b o => oi (Nat.beq o 0) (ob (m.get b) fun x => match x with
    | .miter none _ _ _ => some (.tup [.bool false], m)
    | .miter (some r) since seen last => ob (m.get r) fun y => match y with
      | .map es clock => match leftE seen es with
        | [] => oi (match seen, es with | [], _ => true | _, [] => true | _, e :: _ => Nat.blt e.born last) (some (.tup [.bool false], m))
        | [e] => oi (Nat.blt e.born since) (oi (match seen with | [] => true | _ => false) (some (.tup [.bool true, e.key, e.val], m.put (some (.miter (some r) since (app seen [e.born]) clock)) b)))
        | _ => none
      | _ => none
    | _ => none)
  | _ => none
noncomputable def nmE (m : T SObj) (v : SV) (isS : Bool) : Option (SV × T SObj) := Bool.rec (motive := fun _ => Option (SV × T SObj)) (nmV m v) (nxE m v true) isS
omit [Orig] in
theorem denE_nil {ρ : Pl} {ms : List MapEntry} (h : denE ρ [] ms) : ms = [] := by cases ms with
  | nil => rfl
  | cons _ _ => exact h.elim
theorem nmE_ok {P : Program} {ρ : Pl} {m : T SObj} {nx : Nat} {w0 : Base} {w : World} (h : Emb P ρ m nx w0 w) {v : SV} {isS : Bool} {ty : TypeId} {u0 : Value} {r : SV × T SObj} (e : nmE m v isS = some r) (hv : den ρ v = some u0) :
    ∃ u w', (Instr.next u0 isS ty).run P w = .ok u w' ∧ den ρ r.1 = some u ∧ Emb P ρ r.2 nx w0 w' := by
  cases isS with
  | true => exact nxE_ok h e hv
  | false =>
    have e' : nmV m v = some r := e
    unfold nmV at e'
    split at e'
    case h_2 => cases e'
    rename_i b o
    obtain ⟨h1, h2⟩ := oi_eq.1 e'
    obtain ⟨x, h3, h4⟩ := ob_eq.1 h2
    obtain rfl := nbeq_iff.1 h1
    obtain ⟨y, g1, rfl⟩ := den_ptr hv
    obtain ⟨y', ob', a1, -, a3, a4⟩ := h.obj b _ h3
    rw [g1] at a1
    cases a1
    have over : ∃ u w', (pure (Value.tuple #[.bool false]) : Sem Value).run P w = .ok u w' ∧ den ρ (.tup [.bool false]) = some u ∧ Emb P ρ m nx w0 w' := ⟨_, w, rfl, den_tup_mk (us := [.bool false]) (denL_cons.2 ⟨_, _, den_bool _ _, denL_nil ρ, rfl⟩), h⟩
    split at h4
    · cases h4
      cases ob' <;> try exact a4.elim
      rename_i m' s' l' b'
      obtain ⟨rfl, -, rfl, hm⟩ := a4
      simp only at hm
      subst hm
      have hget : (getObj y.1).run P w = .ok (.mapIter none s' l' b') w := by simp [getObj, Sem.run, a3]
      obtain ⟨u, w', o1, o2, o3⟩ := over
      refine ⟨u, w', ?_, o2, o3⟩
      simp only [Instr.next, Sem.run_bind, hget, Result.andThen_ok]
      exact o1
    · rename_i rr since seen last
      obtain ⟨z, h5, h6⟩ := ob_eq.1 h4
      split at h6
      case h_2 => cases h6
      rename_i es clock
      cases ob' <;> try exact a4.elim
      rename_i m' s' l' b'
      obtain ⟨rfl, hl', rfl, y2, hy2, rfl⟩ := a4
      obtain ⟨y3, ob3, b1, -, b3, b4⟩ := h.obj rr _ h5
      rw [hy2] at b1
      cases b1
      cases ob3 <;> try exact b4.elim
      rename_i ms c
      obtain ⟨rfl, b5⟩ := b4
      have hget : (getObj y.1).run P w = .ok (.mapIter (some y2.1) s' l' b') w := by simp [getObj, Sem.run, a3]
      have hget2 : (getObj y2.1).run P w = .ok (.map ms c) w := by simp [getObj, Sem.run, b3]
      have hleft := leftE_ok (seen := seen) b5
      have hfil : (ms.filter fun e => !l'.contains e.born).toList = ms.toList.filter fun e => !seen.contains e.born := by
        rw [Array.toList_filter]
        apply List.filter_congr
        intro q _
        rw [← hl']
        simp
      split at h6
      · rename_i hE0
        obtain ⟨h7, h8⟩ := oi_eq.1 h6
        cases h8
        rw [hE0] at hleft
        have hnil := denE_nil hleft
        have harr : (ms.filter fun e => !l'.contains e.born) = #[] := by
          apply Array.ext'
          rw [hfil, hnil]
        have hno : (!l'.isEmpty && !ms.isEmpty && ms.all (·.born ≥ b')) = false := by
          cases seen with
          | nil =>
            have : l' = #[] := by apply Array.ext'; rw [hl']
            rw [this]; rfl
          | cons s0 ss =>
            cases es with
            | nil =>
              have := denE_nil b5
              have : ms = #[] := by apply Array.ext'; rw [this]
              rw [this]; simp
            | cons q qs =>
              have hq := blt_true h7
              cases hms : ms.toList with
              | nil => rw [hms] at b5; exact b5.elim
              | cons q' qs' =>
                rw [hms] at b5
                have hb : q'.born = q.born := b5.2.2.1.symm
                have : ms.all (·.born ≥ b') = false := by
                  rw [← Array.all_toList, hms]
                  simp [hb]
                  omega
                rw [this]; simp
        obtain ⟨u, w', o1, o2, o3⟩ := over
        refine ⟨u, w', ?_, o2, o3⟩
        simp only [Instr.next, Sem.run_bind, hget, Result.andThen_ok, hget2, hno, Bool.false_eq_true, if_false, harr]
        have hc : ((if (Array.filter (fun x => decide (x.born < s')) (#[] : Array MapEntry)).isEmpty = true then #[(none : Option MapEntry)] else #[]) ++ Array.map some (Array.filter (fun x => decide (x.born < s')) (#[] : Array MapEntry) ++ Array.filter (fun x => decide (x.born ≥ s')) (#[] : Array MapEntry))) = #[none] := by simp
        rw [hc]
        exact o1
      · rename_i e1 hE1
        obtain ⟨h7, h8⟩ := oi_eq.1 h6
        obtain ⟨h9, h10⟩ := oi_eq.1 h8
        cases h10
        rw [hE1] at hleft
        have hs0 : seen = [] := by cases seen with
          | nil => rfl
          | cons _ _ => cases h9
        subst hs0
        have hl0 : l' = #[] := by apply Array.ext'; rw [hl']
        subst hl0
        cases hL : ms.toList.filter fun e => !([] : List Nat).contains e.born with
        | nil => rw [hL] at hleft; exact hleft.elim
        | cons q qs =>
          rw [hL] at hleft
          obtain ⟨d1, d2, d3, d4⟩ := hleft
          have := denE_nil d4
          subst this
          have hq := blt_true h7
          rw [d3] at hq
          have harr : (ms.filter fun e => !(#[] : Array Nat).contains e.born) = #[q] := by
            apply Array.ext'
            rw [hfil, hL]
          obtain ⟨w', f1, f2⟩ := h.setObj h3 g1 a3 (fun _ _ _ hh => by cases hh) (o' := .miter (some rr) s' (app [] [e1.born]) c) (ob' := .mapIter (some y2.1) s' (#[].push q.born) c) ⟨rfl, by rw [d3]; rfl, rfl, y2, hy2, rfl⟩
          refine ⟨_, w', ?_, den_tup_mk (us := [.bool true, q.key, q.val]) (denL_cons.2 ⟨_, _, den_bool _ _, denL_cons.2 ⟨_, _, d1, denL_cons.2 ⟨_, _, d2, denL_nil ρ, rfl⟩, rfl⟩, rfl⟩), f2⟩
          have f1' := f1
          simp only [Instr.next, Sem.run_bind, hget, Result.andThen_ok, hget2, harr]
          have hold : (#[q] : Array MapEntry).filter (fun e => decide (e.born < s')) = #[q] := by simp [hq]
          have hnew : (#[q] : Array MapEntry).filter (fun e => decide (e.born ≥ s')) = #[] := by simp; omega
          have hc : ((if (Array.filter (fun x => decide (x.born < s')) (#[q] : Array MapEntry)).isEmpty = true then #[(none : Option MapEntry)] else #[]) ++ Array.map some (Array.filter (fun x => decide (x.born < s')) (#[q] : Array MapEntry) ++ Array.filter (fun x => decide (x.born ≥ s')) (#[q] : Array MapEntry))) = #[some q] := by
            rw [hold, hnew]; simp
          rw [hc]
          simp only [Array.isEmpty_empty, Bool.not_true, Bool.false_and, Bool.false_eq_true, if_false]
          have hch : (choose (Question.mapNext (#[some q] : Array (Option MapEntry)).size)).run P w = .ok 0 w := rfl
          rw [Sem.run_bind, hch]
          show (Sem.run P (do setObj y.1 (Obj.mapIter (some y2.1) s' (#[].push q.born) c); pure (Value.tuple #[Value.bool true, q.key, q.val])) w) = _
          simp only [Sem.run_bind, f1', Result.andThen_ok, Sem.run_pure]
      · cases h6
    · cases h4
noncomputable def lastE (l : List Nat) : Option Nat := List.rec (motive := fun _ => Option Nat) none (fun x _ ih => Option.rec (motive := fun _ => Option Nat) (some x) (fun y => some y) ih) l
omit [Orig] in
theorem lastE_ok : ∀ l : List Nat, lastE l = l.getLast?
  | [] => rfl
  | x :: l => by
    show Option.rec (motive := fun _ => Option Nat) (some x) (fun y => some y) (lastE l) = _
    rw [lastE_ok l, List.getLast?_cons]
    cases l.getLast? <;> rfl
noncomputable def bornE (s : Nat) (es : List SE) : Option SE := List.rec (motive := fun _ => Option SE) none (fun e _ ih => Bool.rec (motive := fun _ => Option SE) ih (some e) (Nat.beq e.born s)) es
omit [Orig] in
theorem bornE_ok {ρ : Pl} {s : Nat} : ∀ {es : List SE} {ms : List MapEntry} {e : SE}, denE ρ es ms → bornE s es = some e → ∃ q, ms.find? (·.born == s) = some q ∧ den ρ e.key = some q.key ∧ den ρ e.val = some q.val
  | [], _, _, _, h => by cases h
  | x :: es, [], _, h, _ => h.elim
  | x :: es, y :: ms, e, ⟨d1, d2, d3, d4⟩, h => by
    have h' : Bool.rec (motive := fun _ => Option SE) (bornE s es) (some x) (Nat.beq x.born s) = some e := h
    rw [List.find?_cons, beq_nbeq, ← d3]
    cases hb : Nat.beq x.born s with
    | true =>
      rw [hb] at h'
      cases h'
      exact ⟨y, rfl, d1, d2⟩
    | false =>
      rw [hb] at h'
      exact bornE_ok d4 h'
noncomputable def etE (m : T SObj) (v : SV) : Option SV := match v with
  | .ptr b o => oi (Nat.beq o 0) (ob (m.get b) fun x => match x with
    | .miter (some r) _ seen stepped => ob (m.get r) fun y => match y with
      | .map es clock => oi (Nat.beq clock stepped) (ob (lastE seen) fun s => ob (bornE s es) fun e => some (.tup [e.key, e.val]))
      | _ => none
    | _ => none)
  | _ => none
theorem etE_ok {P : Program} {ρ : Pl} {m : T SObj} {nx : Nat} {w0 : Base} {w : World} (h : Emb P ρ m nx w0 w) {v : SV} {u0 : Value} {r : SV} (e : etE m v = some r) (hv : den ρ v = some u0) : ∃ u, (Instr.entry u0).run P w = .ok u w ∧ den ρ r = some u := by
  unfold etE at e
  split at e
  case h_2 => cases e
  rename_i b o
  obtain ⟨h1, h2⟩ := oi_eq.1 e
  obtain ⟨x, h3, h4⟩ := ob_eq.1 h2
  obtain rfl := nbeq_iff.1 h1
  obtain ⟨y, g1, rfl⟩ := den_ptr hv
  obtain ⟨y', ob', a1, -, a3, a4⟩ := h.obj b _ h3
  rw [g1] at a1
  cases a1
  split at h4
  case h_2 => cases h4
  obtain ⟨z, h5, h6⟩ := ob_eq.1 h4
  split at h6
  case h_2 => cases h6
  obtain ⟨h7, h8⟩ := oi_eq.1 h6
  obtain ⟨st, h9, h10⟩ := ob_eq.1 h8
  obtain ⟨q, h11, h12⟩ := ob_eq.1 h10
  cases h12
  cases ob' <;> try exact a4.elim
  rename_i m' s' l' b'
  obtain ⟨rfl, hl', rfl, y2, hy2, rfl⟩ := a4
  obtain ⟨y3, ob3, b1, -, b3, b4⟩ := h.obj _ _ h5
  rw [hy2] at b1
  cases b1
  cases ob3 <;> try exact b4.elim
  rename_i ms c
  obtain ⟨rfl, b5⟩ := b4
  obtain rfl := nbeq_iff.1 h7
  obtain ⟨q', k1, k2, k3⟩ := bornE_ok b5 h11
  rw [lastE_ok] at h9
  have hback : l'.back? = some st := by
    obtain ⟨l⟩ := l'
    have : l = _ := hl'
    subst this
    simpa using h9
  have hfind : ms.find? (·.born == st) = some q' := by rw [← Array.find?_toList]; exact k1
  have hget : (getObj y.1).run P w = .ok (.mapIter (some y2.1) s' l' c) w := by simp [getObj, Sem.run, a3]
  have hget2 : (getObj y2.1).run P w = .ok (.map ms c) w := by simp [getObj, Sem.run, b3]
  refine ⟨_, ?_, den_tup_mk (us := [q'.key, q'.val]) (denL_cons.2 ⟨_, _, k2, denL_cons.2 ⟨_, _, k3, denL_nil ρ, rfl⟩, rfl⟩)⟩
  simp only [Instr.entry, Sem.run_bind, hget, Result.andThen_ok, hback, hget2, bne_self_eq_false, Bool.false_eq_true, if_false, hfind, Sem.run_pure]
/-- whichever entry comes next. -/
noncomputable def altE (f : SE → SV × T SObj) (es : List SE) : List (SV × T SObj) := List.rec (motive := fun _ => List (SV × T SObj)) [] (fun e _ ih => f e :: ih) es
omit [Orig] in
theorem altE_ok (f : SE → SV × T SObj) : ∀ es, altE f es = es.map f
  | [] => rfl
  | e :: es => by show f e :: altE f es = _; rw [altE_ok f es]; rfl
noncomputable def nlE (m : T SObj) (v : SV) : Option (List (SV × T SObj)) := match v with
  | .ptr b o => oi (Nat.beq o 0) (ob (m.get b) fun x => match x with
    | .miter (some r) since seen last => ob (m.get r) fun y => match y with
      | .map es clock => oi (es.all fun e => Nat.blt e.born since) (oi (Nat.ble since last) (match leftE seen es with
        | [] => none
        | q :: qs => some (altE (fun e => (.tup [.bool true, e.key, e.val], m.put (some (.miter (some r) since (app seen [e.born]) clock)) b)) (q :: qs))))
      | _ => none
    | _ => none)
  | _ => none
omit [Orig] in
theorem denE_mem {ρ : Pl} : ∀ {es : List SE} {ms : List MapEntry}, denE ρ es ms → ∀ q ∈ ms, ∃ e ∈ es, den ρ e.key = some q.key ∧ den ρ e.val = some q.val ∧ e.born = q.born
  | [], [], _, q, hq => by cases hq
  | x :: es, y :: ms, ⟨d1, d2, d3, d4⟩, q, hq => by
    rcases List.mem_cons.1 hq with rfl | hq
    · exact ⟨x, by simp, d1, d2, d3⟩
    · obtain ⟨e, h1, h2⟩ := denE_mem d4 q hq
      exact ⟨e, by simp [h1], h2⟩
theorem nlE_ok {P : Program} {ρ : Pl} {m : T SObj} {nx : Nat} {w0 : Base} {w : World} (h : Emb P ρ m nx w0 w) {v : SV} {ty : TypeId} {u0 : Value} {l : List (SV × T SObj)} (e : nlE m v = some l) (hv : den ρ v = some u0) :
    ∃ r ∈ l, ∃ u w', (Instr.next u0 false ty).run P w = .ok u w' ∧ den ρ r.1 = some u ∧ Emb P ρ r.2 nx w0 w' := by
  unfold nlE at e
  split at e
  case h_2 => cases e
  rename_i b o
  obtain ⟨h1, h2⟩ := oi_eq.1 e
  obtain ⟨x, h3, h4⟩ := ob_eq.1 h2
  obtain rfl := nbeq_iff.1 h1
  obtain ⟨y, g1, rfl⟩ := den_ptr hv
  obtain ⟨y', ob', a1, -, a3, a4⟩ := h.obj b _ h3
  rw [g1] at a1
  cases a1
  split at h4
  case h_2 => cases h4
  rename_i rr since seen last
  obtain ⟨z, h5, h6⟩ := ob_eq.1 h4
  split at h6
  case h_2 => cases h6
  rename_i es clock
  obtain ⟨h7, h8⟩ := oi_eq.1 h6
  obtain ⟨h9, h10⟩ := oi_eq.1 h8
  cases ob' <;> try exact a4.elim
  rename_i m' s' l' b'
  obtain ⟨rfl, hl', rfl, y2, hy2, rfl⟩ := a4
  obtain ⟨y3, ob3, b1, -, b3, b4⟩ := h.obj rr _ h5
  rw [hy2] at b1
  cases b1
  cases ob3 <;> try exact b4.elim
  rename_i ms c
  obtain ⟨rfl, b5⟩ := b4
  have hleft := leftE_ok (seen := seen) b5
  have hfil : (leftOf ms l').toList = ms.toList.filter fun e => !seen.contains e.born := by
    unfold leftOf
    rw [Array.toList_filter]
    apply List.filter_congr
    intro q _
    rw [← hl']
    simp
  have hold : ∀ q ∈ ms.toList, q.born < s' := by
    intro q hq
    obtain ⟨e1, m1, -, -, m2⟩ := denE_mem b5 q hq
    have := blt_true (List.all_eq_true.1 h7 e1 m1)
    omega
  split at h10
  · cases h10
  · rename_i q0 qs hq0
    rcases run_next_at (P := P) w ty y.1 y2.1 s' b' l' ms c a3 b3 hold (nble_iff.1 h9) with ⟨k1, -⟩ | ⟨q, k1, w1, k2, k3⟩
    · exfalso
      have : (leftOf ms l').toList = [] := List.eq_nil_of_length_eq_zero (by simpa using k1)
      rw [← hfil, this, hq0] at hleft
      exact hleft
    · rw [hfil] at k1
      obtain ⟨e1, m1, m2, m3, m4⟩ := denE_mem hleft q k1
      cases h10
      refine ⟨_, by rw [altE_ok, ← hq0]; exact List.mem_map_of_mem m1, _, _, k3, den_tup_mk (us := [.bool true, q.key, q.val]) (denL_cons.2 ⟨_, _, den_bool _ _, denL_cons.2 ⟨_, _, m2, denL_cons.2 ⟨_, _, m3, denL_nil ρ, rfl⟩, rfl⟩, rfl⟩), ?_⟩
      have hw1 : Emb P ρ m nx w0 w1 ∧ w1.heap[y.1]? = some (.mapIter (some y2.1) s' l' b') := by
        rcases k2 with rfl | rfl
        · exact ⟨h, a3⟩
        · exact ⟨h.drew, a3⟩
      obtain ⟨w', f1, f2⟩ := hw1.1.setObj h3 g1 hw1.2 (fun _ _ _ hh => by cases hh) (o' := .miter (some rr) s' (app seen [e1.born]) c) (ob' := .mapIter (some y2.1) s' (l'.push q.born) c) ⟨rfl, by rw [app_ok, m4, ← hl']; simp, rfl, y2, hy2, rfl⟩
      rw [run_setObj_at hw1.2] at f1
      cases f1
      exact f2
end Go.Proofs.YtodehmognjofhaaGreat

namespace Go.Proofs.YtodehmognjofhaaGreat
open Go.RowKit

noncomputable def clA (E : Env) (m : T SObj) (nx : Nat) (F : T SV) (c : Call) : Option (SV × T SObj × Nat) := match c.callee with
  | .builtin b => ob (evL F c.args.toList) fun vs => match b, vs with
    | .append, [s, x] => apE E m nx c.argTypes.toList s x
    | .copy, [d, x] => ob c.argTypes.toList.head? fun t => ob (cpE E m t d x) fun r => some (r.1, r.2, nx)
    | .delete, [a, x] => ob c.argTypes.toList.head? fun t => ob (dlE E m t a x) fun m' => some (.tup [], m', nx)
    | .clear, [a] => ob c.argTypes.toList.head? fun t => ob (clrE E m t a) fun m' => some (.tup [], m', nx)
    | _, _ => none
  | _ => none
noncomputable def evA (E : Env) (m : T SObj) (nx : Nat) (F : T SV) (o : Oper) : Option (SV × T SObj × Nat) := match o.op with
  | .alloc t => ob (zrE E t) fun z => newE m nx t z
  | .box t x => ob (ev F x) fun v => newE m nx t v
  | .store t a x => ob (ev F a) fun p => ob (ev F x) fun v => ob (stE E m t p v) fun m' => some (.tup [], m', nx)
  | .buildSlice t n ps => ob (evPs F ps.toList) fun l => bslE E m nx t n l
  | .makeMap t r => ob (evO F r) fun q => ob (und E t) fun d => oi (match d with | .map _ _ => true | _ => false) (oi (match q with | some (.int _ _) => true | none => true | _ => false) (some (mmkE m nx)))
  | .makeSlice t l c => ob (ev F l) fun x => ob (ev F c) fun y => mslE E m nx t x y
  | .mapUpdate t a k x => ob (ev F a) fun p => ob (ev F k) fun q => ob (ev F x) fun v => ob (muE E m t p q v) fun m' => some (.tup [], m', nx)
  | .insert t a k x => ob (ev F a) fun p => ob (ev F k) fun q => ob (ev F x) fun v => ob (muE E m t p q v) fun m' => some (.tup [], m', nx)
  | .convert s d x => ob (ev F x) fun v => bcE E m nx s d v
  | .range t x => ob (ev F x) fun v => rmE E m nx t v
  | .next x isS => ob (ev F x) fun v => ob (nmE m v isS) fun r => some (r.1, r.2, nx)
  | .entry x => ob (ev F x) fun v => ob (etE m v) fun r => some (r, m, nx)
  | .mapEntry t a k => ob (ev F a) fun p => ob (ev F k) fun q => ob (meE E m t p q) fun r => some (r.1, r.2, nx)
  | .entryStore _ a st x => ob (ev F a) fun p => ob (ev F st) fun q => ob (ev F x) fun v => ob (esE m p q v) fun m' => some (.tup [], m', nx)
  | .call c => clA E m nx F c
  | _ => none
theorem run_val {P : Program} {w w' : World} {s : Sem Value} {u : Value} (h : s.run P w = .ok u w') : (do pure (Next.value (← s)) : Sem Next).run P w = .ok (.value u) w' := by
  show ((s >>= fun x => pure (Next.value x)) : Sem Next).run P w = _
  rw [Sem.run_bind, h]
  rfl
theorem run_unit {P : Program} {w w' : World} {s : Sem Unit} (h : s.run P w = .ok () w') : (do s; pure Next.skip : Sem Next).run P w = .ok .skip w' := by
  show ((s >>= fun _ => pure Next.skip) : Sem Next).run P w = _
  rw [Sem.run_bind, h]
  rfl
variable [Orig]
theorem evA_ok {P : Program} {E : Env} (hE : EnvOk P E) {ρ : Pl} {m : T SObj} {nx : Nat} {w0 : Base} {w : World} (h : Emb P ρ m nx w0 w) {N : Nat} {F : T SV} {a : Act} (hF : FRel ρ N F a) {o : Oper} {r : SV × T SObj × Nat} (e : evA E m nx F o = some r) :
    AOk P ρ w0 r.1 r.2.1 r.2.2 ((execOp a.eval o).run P w) := by
  have val : ∀ {s : Sem Value}, execOp a.eval o = (do pure (Next.value (← s)) : Sem Next) → (∃ ρ' u w', Le ρ ρ' ∧ s.run P w = .ok u w' ∧ den ρ' r.1 = some u ∧ Emb P ρ' r.2.1 r.2.2 w0 w') → AOk P ρ w0 r.1 r.2.1 r.2.2 ((execOp a.eval o).run P w) := by
    rintro s hs ⟨ρ', u, w', h1, h2, h3, h4⟩
    rw [hs]
    exact ⟨ρ', u, w', _, h1, run_val h2, .inl rfl, h3, h4⟩
  have uni : ∀ {s : Sem Unit} {m' : T SObj}, execOp a.eval o = (do s; pure Next.skip : Sem Next) → r = (.tup [], m', nx) → (∃ w', s.run P w = .ok () w' ∧ Emb P ρ m' nx w0 w') → AOk P ρ w0 r.1 r.2.1 r.2.2 ((execOp a.eval o).run P w) := by
    rintro s m' hs rfl ⟨w', h2, h4⟩
    rw [hs]
    exact ⟨ρ, _, w', _, Le.refl ρ, run_unit h2, .inr ⟨rfl, rfl⟩, den_undef ρ, h4⟩
  obtain ⟨dst, op, ty, pos, after, guard⟩ := o
  unfold evA at e
  cases op <;> simp only at e <;> try cases e
  case alloc t =>
    obtain ⟨z, h1, h2⟩ := ob_eq.1 e
    obtain ⟨u, c1, c2, -⟩ := zrE_ok hE h1 ρ w
    obtain ⟨ρ', w', p, d1, d2, d3, d4⟩ := newE_ok h h2 c2
    refine val rfl ⟨ρ', _, w', d1, ?_, d3, d4⟩
    simp only [Instr.alloc, Sem.run_bind, c1, Result.andThen_ok, d2, Sem.run_pure]
  case box t x =>
    obtain ⟨v, h1, h2⟩ := ob_eq.1 e
    obtain ⟨ρ', w', p, d1, d2, d3, d4⟩ := newE_ok h h2 (ev_den hF h1)
    refine val rfl ⟨ρ', _, w', d1, ?_, d3, d4⟩
    simp only [Instr.box, Sem.run_bind, Result.andThen_ok, d2, Sem.run_pure]
  case store t p x =>
    obtain ⟨v, h1, h2⟩ := ob_eq.1 e
    obtain ⟨v2, h3, h4⟩ := ob_eq.1 h2
    obtain ⟨m', h5, h6⟩ := ob_eq.1 h4
    cases h6
    exact uni rfl rfl (stE_ok hE h h5 (ev_den hF h1) (ev_den hF h3))
  case buildSlice t n ps =>
    obtain ⟨l, h1, h2⟩ := ob_eq.1 e
    have := bslE_ok hE h h2 (evPs_den hF h1)
    have e1 : (ps.map fun (i, x) => (i, a.eval x)) = (ps.toList.map fun x => (x.1, a.eval x.2)).toArray := map_toA _ _
    rw [← e1] at this
    exact val rfl this
  case makeMap t q =>
    obtain ⟨v, h1, h2⟩ := ob_eq.1 e
    obtain ⟨d, h3, h4⟩ := ob_eq.1 h2
    obtain ⟨h5, h6⟩ := oi_eq.1 h4
    obtain ⟨h7, h8⟩ := oi_eq.1 h6
    cases h8
    refine val rfl (mmkE_ok h t (q.map a.eval) fun u hu => ?_)
    have hd := evO_den hF h1
    rw [hu] at hd
    have hu' := und_ok hE h3
    refine ⟨?_, ?_⟩
    · cases d <;> first | exact ⟨_, _, hu'⟩ | cases h5
    · cases v with
      | none => exact hd.elim
      | some v =>
        cases v <;> first | cases h7 | skip
        have hd' : den ρ (SV.int _ _) = some u := hd
        rw [den_int] at hd'
        exact ⟨_, _, (Option.some.inj hd').symm⟩
  case makeSlice t l c =>
    obtain ⟨v, h1, h2⟩ := ob_eq.1 e
    obtain ⟨v2, h3, h4⟩ := ob_eq.1 h2
    exact val rfl (mslE_ok hE h h4 (ev_den hF h1) (ev_den hF h3))
  case mapUpdate t p k x =>
    obtain ⟨v, h1, h2⟩ := ob_eq.1 e
    obtain ⟨v2, h3, h4⟩ := ob_eq.1 h2
    obtain ⟨v3, h5, h6⟩ := ob_eq.1 h4
    obtain ⟨m', h7, h8⟩ := ob_eq.1 h6
    cases h8
    exact uni rfl rfl (muE_ok hE h h7 (ev_den hF h1) (ev_den hF h3) (ev_den hF h5))
  case insert t p k x =>
    obtain ⟨v, h1, h2⟩ := ob_eq.1 e
    obtain ⟨v2, h3, h4⟩ := ob_eq.1 h2
    obtain ⟨v3, h5, h6⟩ := ob_eq.1 h4
    obtain ⟨m', h7, h8⟩ := ob_eq.1 h6
    cases h8
    exact uni rfl rfl (muE_ok hE h h7 (ev_den hF h1) (ev_den hF h3) (ev_den hF h5))
  case convert s d x =>
    obtain ⟨v, h1, h2⟩ := ob_eq.1 e
    exact val rfl (bcE_ok hE h h2 (ev_den hF h1))
  case range t x =>
    obtain ⟨v, h1, h2⟩ := ob_eq.1 e
    exact val rfl (rmE_ok hE h h2 (ev_den hF h1))
  case next x isS =>
    obtain ⟨v, h1, h2⟩ := ob_eq.1 e
    obtain ⟨q, h3, h4⟩ := ob_eq.1 h2
    cases h4
    obtain ⟨u, w', k1, k2, k3⟩ := nmE_ok h (ty := ty) h3 (ev_den hF h1)
    exact val rfl ⟨ρ, u, w', Le.refl ρ, k1, k2, k3⟩
  case entry x =>
    obtain ⟨v, h1, h2⟩ := ob_eq.1 e
    obtain ⟨q, h3, h4⟩ := ob_eq.1 h2
    cases h4
    obtain ⟨u, k1, k2⟩ := etE_ok h h3 (ev_den hF h1)
    exact val rfl ⟨ρ, u, w, Le.refl ρ, k1, k2, h⟩
  case mapEntry t p k =>
    obtain ⟨v, h1, h2⟩ := ob_eq.1 e
    obtain ⟨v2, h3, h4⟩ := ob_eq.1 h2
    obtain ⟨q, h5, h6⟩ := ob_eq.1 h4
    cases h6
    obtain ⟨u, w', k1, k2, k3⟩ := meE_ok hE h h5 (ev_den hF h1) (ev_den hF h3)
    exact val rfl ⟨ρ, u, w', Le.refl ρ, k1, k2, k3⟩
  case entryStore t p st x =>
    obtain ⟨v, h1, h2⟩ := ob_eq.1 e
    obtain ⟨v2, h3, h4⟩ := ob_eq.1 h2
    obtain ⟨v3, h5, h6⟩ := ob_eq.1 h4
    obtain ⟨m', h7, h8⟩ := ob_eq.1 h6
    cases h8
    exact uni rfl rfl (esE_ok h h7 (ev_den hF h1) (ev_den hF h3) (ev_den hF h5))
  case call c =>
    unfold clA at e
    split at e
    · rename_i b hb
      obtain ⟨vs, h1, h2⟩ := ob_eq.1 e
      have hd := evL_den hF h1
      have hargs : c.args.map a.eval = (c.args.toList.map a.eval).toArray := map_toArray_eval a c.args
      split at h2
      · obtain ⟨u, us', g1, g2, g3⟩ := denL_cons.1 hd
        obtain ⟨u2, us2, g4, g5, g6⟩ := denL_cons.1 g2
        rw [denL_nil] at g5
        cases g5
        subst g6
        rw [g3] at hargs
        refine val ?_ (apE_ok hE h (ty := ty) h2 g1 g4)
        simp only [execOp, resolve, hb, hargs]
        rfl
      · obtain ⟨u, us', g1, g2, g3⟩ := denL_cons.1 hd
        obtain ⟨u2, us2, g4, g5, g6⟩ := denL_cons.1 g2
        rw [denL_nil] at g5
        cases g5
        subst g6
        rw [g3] at hargs
        obtain ⟨t, h3, h4⟩ := ob_eq.1 h2
        obtain ⟨q, h5, h6⟩ := ob_eq.1 h4
        cases h6
        obtain ⟨u', w', k1, k2, k3⟩ := cpE_ok hE h (ty := ty) (head_get h3) h5 g1 g4
        refine val ?_ ⟨ρ, u', w', Le.refl ρ, k1, k2, k3⟩
        simp only [execOp, resolve, hb, hargs]
        rfl
      · obtain ⟨u, us', g1, g2, g3⟩ := denL_cons.1 hd
        obtain ⟨u2, us2, g4, g5, g6⟩ := denL_cons.1 g2
        rw [denL_nil] at g5
        cases g5
        subst g6
        rw [g3] at hargs
        obtain ⟨t, h3, h4⟩ := ob_eq.1 h2
        obtain ⟨m', h5, h6⟩ := ob_eq.1 h4
        cases h6
        obtain ⟨w', k1, k2⟩ := dlE_ok hE h (ty := ty) (head_get h3) h5 g1 g4
        refine val ?_ ⟨ρ, undef, w', Le.refl ρ, k1, den_undef ρ, k2⟩
        simp only [execOp, resolve, hb, hargs]
        rfl
      · obtain ⟨u, us', g1, g2, g3⟩ := denL_cons.1 hd
        rw [denL_nil] at g2
        cases g2
        rw [g3] at hargs
        obtain ⟨t, h3, h4⟩ := ob_eq.1 h2
        obtain ⟨m', h5, h6⟩ := ob_eq.1 h4
        cases h6
        obtain ⟨w', k1, k2⟩ := clrE_ok hE h (ty := ty) (head_get h3) h5 g1
        refine val ?_ ⟨ρ, undef, w', Le.refl ρ, k1, den_undef ρ, k2⟩
        simp only [execOp, resolve, hb, hargs]
        rfl
      · cases h2
    · cases e
end Go.Proofs.YtodehmognjofhaaGreat

namespace Go.Proofs.YtodehmognjofhaaGreat
open Go.RowKit

noncomputable def ldP (E : Env) (m : T SObj) (t : TypeId) (v : SV) : Option SV := match v with
  | .ptr b o => ldE E m t b o
  | _ => none
noncomputable def resE (E : Env) (m : T SObj) (F : T SV) (l : List ResultVar) : Option (List SV) := List.rec (motive := fun _ => Option (List SV)) (some []) (fun r _ ih => ob (match r with | .tmp t => F.get t | .cell a t => ob (F.get a) fun v => ldP E m t v) fun v => ob ih fun vs => some (v :: vs)) l
noncomputable def resV (l : List SV) : SV := match l with
  | [v] => v
  | l => .tup l
variable [Orig]
theorem resE_ok {P : Program} {E : Env} (hE : EnvOk P E) {ρ : Pl} {m : T SObj} {nx : Nat} {w0 : Base} {w : World} (h : Emb P ρ m nx w0 w) {N : Nat} {F : T SV} {a : Act} (hF : FRel ρ N F a) {R : ResultVar → Sem Value} (hR1 : ∀ t, R (.tmp t) = pure (a.tmps.getD t undef)) (hR2 : ∀ a' t, R (.cell a' t) = do loadVar t (← asAddr (a.tmps.getD a' undef))) : ∀ {l : List ResultVar} {vs : List SV}, resE E m F l = some vs →
    ∃ us, denL ρ vs = some us ∧ (l.mapM R).run P w = .ok us w
  | [], vs, e => by cases e; exact ⟨[], denL_nil ρ, rfl⟩
  | r :: l, vs, e => by
    have e' : (ob (match r with | .tmp t => F.get t | .cell a t => ob (F.get a) fun v => ldP E m t v) fun v => ob (resE E m F l) fun vs => some (v :: vs)) = some vs := e
    obtain ⟨v, h1, h2⟩ := ob_eq.1 e'
    obtain ⟨ws, h3, h4⟩ := ob_eq.1 h2
    cases h4
    obtain ⟨us, g1, g2⟩ := resE_ok hE h hF hR1 hR2 h3
    rw [List.mapM_cons]
    cases r with
    | tmp t =>
      obtain ⟨u, k1, k2⟩ := hF.at_ t v h1
      refine ⟨u :: us, denL_cons.2 ⟨u, us, k2, g1, rfl⟩, ?_⟩
      simp only [hR1, Sem.run_bind, Sem.run_pure, Result.andThen_ok, g2, Array.getD_eq_getD_getElem?, k1, Option.getD_some]
    | cell a' t =>
      have h1' : (ob (F.get a') fun v => ldP E m t v) = some v := h1
      obtain ⟨p, k1, k2⟩ := ob_eq.1 h1'
      unfold ldP at k2
      split at k2
      · obtain ⟨u0, k3, k4⟩ := hF.at_ a' _ k1
        obtain ⟨u, k5, k6⟩ := ldE_ok hE h k2 k4
        obtain ⟨x, -, rfl⟩ := den_ptr k4
        refine ⟨u :: us, denL_cons.2 ⟨u, us, k6, g1, rfl⟩, ?_⟩
        simp only [Instr.loadAt, Instr.sureAddr, Sem.run_bind, Sem.run_pure, Result.andThen_ok] at k5
        simp only [hR2, Sem.run_bind, Sem.run_pure, Result.andThen_ok, g2, Array.getD_eq_getD_getElem?, k3, Option.getD_some, asAddr, k5]
      · cases k2
theorem resV_ok {P : Program} {E : Env} (hE : EnvOk P E) {ρ : Pl} {m : T SObj} {nx : Nat} {w0 : Base} {w : World} (h : Emb P ρ m nx w0 w) {N : Nat} {F : T SV} {a : Act} (hF : FRel ρ N F a) {g : Func} {vs : List SV} (e : resE E m F g.results.toList = some vs) :
    ∃ u, (results g a.tmps).run P w = .ok u w ∧ den ρ (resV vs) = some u := by
  obtain ⟨R, hR1, hR2, hR3⟩ : ∃ R : ResultVar → Sem Value, (∀ t, R (.tmp t) = pure (a.tmps.getD t undef)) ∧ (∀ a' t, R (.cell a' t) = do loadVar t (← asAddr (a.tmps.getD a' undef))) ∧ results g a.tmps = (do let vs ← g.results.mapM R; pure (if h : vs.size = 1 then vs[0] else .tuple vs)) := ⟨_, fun _ => rfl, fun _ _ => rfl, rfl⟩
  obtain ⟨us, h1, h2⟩ := resE_ok hE h hF hR1 hR2 e
  refine ⟨if us.length = 1 then us.headD undef else .tuple us.toArray, ?_, ?_⟩
  · rw [hR3, Array.mapM_eq_mapM_toList]
    simp only [Sem.run_bind, map_eq_pure_bind, h2, Result.andThen_ok, Sem.run_pure]
    congr 1
    by_cases hl : us.length = 1
    · obtain ⟨x, rfl⟩ := List.length_eq_one_iff.1 hl
      rfl
    · rw [if_neg hl, dif_neg (by simpa using hl)]
  · have hlen := denL_len h1
    unfold resV
    split
    · obtain ⟨u, us', k1, k2, rfl⟩ := denL_cons.1 h1
      rw [denL_nil] at k2
      cases k2
      exact k1
    · rename_i hne
      have : us.length ≠ 1 := by
        intro hl
        rw [hlen] at hl
        obtain ⟨x, hx⟩ := List.length_eq_one_iff.1 hl
        exact hne x hx
      rw [if_neg this]
      exact den_tup_mk h1

noncomputable def findM (name : String) (l : List Method) : Option Method := List.rec (motive := fun _ => Option Method) none (fun m _ ih => Bool.rec (motive := fun _ => Option Method) ih (some m) (m.name == name)) l
omit [Orig] in
theorem findM_ok (name : String) : ∀ l : List Method, findM name l = l.find? (·.name == name)
  | [] => rfl
  | m :: l => by
    show Bool.rec (motive := fun _ => Option Method) (findM name l) (some m) (m.name == name) = _
    rw [findM_ok name l, List.find?_cons]
    cases m.name == name <;> rfl
def rcvE (d : TypeDesc) (pr : Bool) : Bool := match d, pr with
  | .pointer _, true => true
  | .pointer _, false => false
  | _, true => false
  | _, false => true
noncomputable def methE (E : Env) (t : TypeId) (name : String) : Option FuncId := ob (E.ty.get t) fun i => ob (findM name i.methods.toList) fun m => match m.path.toList, m.func with
  | [], some (g, pr) => ob (und E t) fun d => oi (rcvE d pr) (some g)
  | _, _ => none
omit [Orig] in
theorem methE_ok {P : Program} {E : Env} (hE : EnvOk P E) {t : TypeId} {name : String} {g : FuncId} (e : methE E t name = some g) (v : Value) (w : World) (k : Nat) : (method (k + 1) t v name).run P w = .ok (g, v) w := by
  obtain ⟨i, h1, h2⟩ := ob_eq.1 e
  obtain ⟨m, h3, h4⟩ := ob_eq.1 h2
  split at h4
  · rename_i g' pr hp hf
    obtain ⟨d, h5, h6⟩ := ob_eq.1 h4
    obtain ⟨h7, h8⟩ := oi_eq.1 h6
    cases h8
    rw [findM_ok] at h3
    have hfi : i.methods.find? (·.name == name) = some m := by rw [← Array.find?_toList]; exact h3
    have hu := und_ok hE h5
    unfold method
    simp only [Sem.run_bind, run_typeInfo w (hE.ty _ _ h1), Result.andThen_ok, hfi, hp, follow, Sem.run_pure, hf]
    have hrec : ∀ wr, (receiverAt t (.val v) pr wr).run P w = .ok v w := by
      intro wr
      unfold receiverAt
      simp only [Sem.run_bind, run_underlying hu w, Result.andThen_ok]
      cases d <;> cases pr <;> first | rfl | cases h7
    simp only [hrec, Result.andThen_ok]
  · cases h4
/-- whom a call calls, and by what. -/
noncomputable def tgtE (E : Env) (F : T SV) (c : Call) : Option (FuncId × List SV) := ob (evL F c.args.toList) fun vs => match c.callee with
  | .value f => ob (ev F f) fun fv => match fv with
    | .fn (.func g) a cap => some (g, app a (app vs cap))
    | _ => none
  | .invoke r name => ob (ev F r) fun rv => match rv with
    | .ifc t v => ob (methE E t name) fun g => some (g, v :: vs)
    | _ => none
  | _ => none
omit [Orig] in
theorem callFunc_ok {P : Program} {E : Env} (hE : EnvOk P E) {f : FuncId} {g : Func} {c : Code} (h : E.fn.get f = some g) (hb : g.body = some c) (args : Array Value) (w : World) : (callFunc f args).run P w = .ok (.enter f args) w := by
  obtain ⟨h1, h2⟩ := hE.fn f g h
  unfold callFunc
  simp only [Sem.run_bind, run_program, Result.andThen_ok, h1, h2, Bool.false_eq_true, if_false, hb, Option.isNone_some, Sem.run_pure]
omit [Orig] in
theorem tgtE_ok {P : Program} {E : Env} (hE : EnvOk P E) {ρ : Pl} {N : Nat} {F : T SV} {a : Act} (hF : FRel ρ N F a) {o : Oper} {c : Call} (ho : o.op = .call c) {f : FuncId} {args : List SV} (e : tgtE E F c = some (f, args)) {g : Func} {b : Code} (hg : E.fn.get f = some g) (hb : g.body = some b) (w : World) :
    ∃ us, denL ρ args = some us ∧ (execOp a.eval o).run P w = .ok (.enter f us.toArray) w := by
  obtain ⟨vs, h1, h2⟩ := ob_eq.1 e
  have hd := evL_den hF h1
  have hargs : c.args.map a.eval = (c.args.toList.map a.eval).toArray := map_toArray_eval a c.args
  split at h2
  · rename_i fo hc
    obtain ⟨fv, h3, h4⟩ := ob_eq.1 h2
    have hf := ev_den hF h3
    split at h4
    · rename_i g' x cap
      cases h4
      obtain ⟨y1, y2, k1, k2, k3, k4⟩ := den_fn hf
      refine ⟨y1 ++ (c.args.toList.map a.eval ++ y2), by rw [app_ok, app_ok]; exact denL_append k1 (denL_append hd k2), ?_⟩
      simp only [execOp, ho, resolve, hc, hargs, Deferred.ofValue, k4, Sem.run_bind, Sem.run_pure, Result.andThen_ok, invoke]
      rw [callFunc_ok hE hg hb]
      congr 2
      simp
    · cases h4
  · rename_i ro name hc
    obtain ⟨rv, h3, h4⟩ := ob_eq.1 h2
    have hr := ev_den hF h3
    split at h4
    · rename_i t v
      obtain ⟨g', h5, h6⟩ := ob_eq.1 h4
      cases h6
      obtain ⟨x, k1, k2⟩ := den_ifc hr
      refine ⟨x :: c.args.toList.map a.eval, denL_cons.2 ⟨_, _, k1, hd, rfl⟩, ?_⟩
      obtain ⟨k, hk⟩ : ∃ k, P.types.size + Made.depth = k + 1 := ⟨P.types.size + Made.depth - 1, (by have h0 : 0 < Made.depth := (by decide); omega)⟩
      have hm := methE_ok hE h5 x w k
      have e0 : ∀ A : Array Value, (#[Value.iface t x] ++ A)[0]? = some (Value.iface t x) := fun A => by
        rw [Array.getElem?_append_left (by simp)]
        rfl
      have e1 : ∀ A : Array Value, (#[Value.iface t x] ++ A).extract 1 = A := fun A => by
        obtain ⟨l⟩ := A
        simp
      simp only [execOp, ho, resolve, hc, k2, Sem.run_bind, Sem.run_pure, Result.andThen_ok, invoke]
      rw [e0, e1]
      simp only [callMethod, Sem.run_bind, run_program, Result.andThen_ok, hk, hm]
      rw [callFunc_ok hE hg hb]
      congr 2
      rw [hargs]
      simp
    · cases h4
  · cases h2
/-- functions without a text that only reckon. -/
noncomputable def idxN (c : Nat) (l : List Nat) : Nat → Int := List.rec (motive := fun _ => Nat → Int) (fun _ => .negSucc 0) (fun x _ ih i => Bool.rec (motive := fun _ => Int) (ih (Nat.succ i)) (.ofNat i) (Nat.beq x c)) l
noncomputable def idxE (args : List SV) : Option SV := match args with
  | [.str s, .int .u8 n] => match n with
    | .ofNat c => oi (Nat.blt c 256) (some (.int .i64 (idxN c s 0)))
    | _ => none
  | _ => none
noncomputable def fbitE (args : List SV) : Option SV := match args with
  | [.int .u64 n] => match n with
    | .ofNat b => some (.flt .f64 b)
    | _ => none
  | _ => none
noncomputable def tbitE (args : List SV) : Option SV := match args with
  | [.flt .f64 b] => some (.int .u64 (.ofNat b))
  | _ => none
noncomputable def sameE (args : List SV) : Option SV := match args with
  | [x] => some x
  | _ => none
noncomputable def pexE (n : String) (args : List SV) : Option SV := match n == "internal/bytealg.IndexByteString" with
  | true => idxE args
  | false => match n == "math.Float64frombits" with
    | true => fbitE args
    | false => match n == "internal/abi.NoEscape" with
      | true => sameE args
      | false => match n == "math.Float64bits" with
        | true => tbitE args
        | false => none
/-- functions without a text; maps.clone makes a map. -/
noncomputable def clnE (m : T SObj) (nx : Nat) (args : List SV) : Option (SV × T SObj × Nat) := match args with
  | [.ifc ty (.map b)] => ob (m.get b) fun x => match x with
    | .map es cl => some (.ifc ty (.map nx), m.put (some (.map es cl)) nx, Nat.succ nx)
    | _ => none
  | _ => none
noncomputable def extE (E : Env) (F : T SV) (c : Call) (m : T SObj) (nx : Nat) : Option (SV × T SObj × Nat) := match c.callee with
  | .value _ => ob (tgtE E F c) fun t => ob (E.fn.get t.1) fun g => oi g.body.isNone (oi (g.origin == "") (match g.name == "maps.clone" with
    | true => clnE m nx t.2
    | false => ob (pexE g.name t.2) fun v => some (v, m, nx)))
  | _ => none
omit [Orig] in
theorem find_cong {α : Type} {p q : α → Bool} : ∀ {l : List α}, (∀ x ∈ l, p x = q x) → l.find? p = l.find? q
  | [], _ => rfl
  | x :: l, h => by rw [List.find?_cons, List.find?_cons, h x (by simp), find_cong (l := l) fun y hy => h y (by simp [hy])]
omit [Orig] in
theorem idxN_ok (c : Nat) : ∀ (l : List Nat) (i : Nat), idxN c l i = match (List.range l.length).find? (fun j => l[j]! == c) with
    | some j => ((i + j : Nat) : Int)
    | none => -1
  | [], i => rfl
  | x :: l, i => by
    have ih := idxN_ok c l (i + 1)
    show Bool.rec (motive := fun _ => Int) (idxN c l (i + 1)) (.ofNat i) (Nat.beq x c) = _
    rw [List.length_cons, List.range_succ_eq_map, List.find?_cons]
    have e0 : ((x :: l)[0]! == c) = Nat.beq x c := by rw [← beq_nbeq]; rfl
    rw [e0]
    cases hx : Nat.beq x c with
    | true => rfl
    | false =>
      rw [List.find?_map]
      have e1 : (List.range l.length).find? ((fun j => (x :: l)[j]! == c) ∘ Nat.succ) = (List.range l.length).find? (fun j => l[j]! == c) := find_cong fun j _ => by simp [Function.comp]
      rw [e1]
      show idxN c l (i + 1) = _
      rw [ih]
      cases (List.range l.length).find? (fun j => l[j]! == c) with
      | none => rfl
      | some j =>
        show ((i + 1 + j : Nat) : Int) = ((i + (j + 1) : Nat) : Int)
        rw [show i + 1 + j = i + (j + 1) by omega]
omit [Orig] in
theorem find_index {fn : Func} (h : fn.name = "internal/bytealg.IndexByteString") : Extern.find fn = some Extern.BytealgIndexByte.indexByte := by
  unfold Extern.find
  rw [h]
  kernel_rfl
omit [Orig] in
theorem next_index {fn : Func} (h : fn.name = "internal/bytealg.IndexByteString") (ho : fn.origin = "") : Extern.findNext fn = none := by
  unfold Extern.findNext
  rw [h, ho]
  kernel_rfl
omit [Orig] in
theorem find_fbits {fn : Func} (h : fn.name = "math.Float64frombits") : Extern.find fn = some Extern.MathFloatBits.float64frombits := by
  unfold Extern.find
  rw [h]
  kernel_rfl
omit [Orig] in
theorem next_fbits {fn : Func} (h : fn.name = "math.Float64frombits") (ho : fn.origin = "") : Extern.findNext fn = none := by
  unfold Extern.findNext
  rw [h, ho]
  kernel_rfl
omit [Orig] in
theorem find_tbits {fn : Func} (h : fn.name = "math.Float64bits") : Extern.find fn = some Extern.MathFloatBits.float64bits := by
  unfold Extern.find
  rw [h]
  kernel_rfl
omit [Orig] in
theorem next_tbits {fn : Func} (h : fn.name = "math.Float64bits") (ho : fn.origin = "") : Extern.findNext fn = none := by
  unfold Extern.findNext
  rw [h, ho]
  kernel_rfl
omit [Orig] in
theorem find_noesc {fn : Func} (h : fn.name = "internal/abi.NoEscape") : Extern.find fn = some Extern.AbiNoEscape.same := by
  unfold Extern.find
  rw [h]
  kernel_rfl
omit [Orig] in
theorem next_noesc {fn : Func} (h : fn.name = "internal/abi.NoEscape") (ho : fn.origin = "") : Extern.findNext fn = none := by
  unfold Extern.findNext
  rw [h, ho]
  kernel_rfl
omit [Orig] in
theorem bytesOf_getB {s : List Nat} {j : Nat} (hj : j < s.length) : (bytesOf s)[j]! = UInt8.ofNat s[j]! := by
  rw [getElem!_pos (bytesOf s) j (by rw [bytesOf_size]; exact hj), getElem!_pos s j hj]
  show (bytesOf s).data[j]'(by rw [show (bytesOf s).data.size = (bytesOf s).size from rfl, bytesOf_size]; exact hj) = _
  simp [bytesOf]
omit [Orig] in
theorem idxE_ok {P : Program} {args : List SV} {v : SV} (h : idxE args = some v) {ρ : Pl} {us : List Value} (hd : denL ρ args = some us) (w : World) :
    ∃ u, (Extern.BytealgIndexByte.indexByte us.toArray).run P w = .ok u w ∧ den ρ v = some u := by
  unfold idxE at h
  split at h
  case h_2 => cases h
  rename_i s n
  split at h
  case h_2 => cases h
  rename_i c
  obtain ⟨hc, h1⟩ := oi_eq.1 h
  cases h1
  have hc : c < 256 := blt_true hc
  obtain ⟨u1, us1, d1, d2, rfl⟩ := denL_cons.1 hd
  obtain ⟨u2, us2, d3, d4, rfl⟩ := denL_cons.1 d2
  rw [denL_nil] at d4
  cases d4
  obtain ⟨rfl, hs⟩ := den_str d1
  rw [den_int] at d3
  cases d3
  refine ⟨_, ?_, den_int _ _ _⟩
  have e1 : (List.range (bytesOf s).size).find? (fun i => (bytesOf s)[i]! == (Int.toNat (.ofNat c)).toUInt8) = (List.range s.length).find? (fun j => s[j]! == c) := by
    rw [bytesOf_size]
    refine find_cong fun j hj => ?_
    have hj : j < s.length := List.mem_range.1 hj
    rw [bytesOf_getB hj]
    have hx : s[j]! < 256 := by rw [getElem!_pos s j hj]; exact hs _ (List.getElem_mem _)
    show (UInt8.ofNat s[j]! == UInt8.ofNat c) = _
    rw [u8_inj hx hc, beq_nbeq]
  have e0 : Extern.BytealgIndexByte.indexByte #[.string (bytesOf s), .int .u8 (.ofNat c)] = (do
      let b ← Extern.Bytes.bytesOf (.string (bytesOf s))
      let c ← Extern.Bytes.asByte (.int .u8 (.ofNat c))
      match (List.range b.size).find? fun i => b[i]! == c with
      | some i => pure (goInt i)
      | none => pure (goInt (-1))) := rfl
  show (Extern.BytealgIndexByte.indexByte #[.string (bytesOf s), .int .u8 (.ofNat c)]).run P w = _
  rw [e0]
  simp only [Extern.Bytes.bytesOf, Extern.Bytes.asByte, Sem.run_bind, Sem.run_pure, Result.andThen_ok]
  rw [e1, idxN_ok c s 0]
  cases (List.range s.length).find? (fun j => s[j]! == c) with
  | none => rfl
  | some j => simp only [Nat.zero_add]; rfl
omit [Orig] in
theorem pexE_ok {P : Program} {fn : Func} {args : List SV} {v : SV} (h : pexE fn.name args = some v) (ho : fn.origin = "") {ρ : Pl} {us : List Value} (hd : denL ρ args = some us) :
    ∃ row, Extern.find fn = some row ∧ Extern.findNext fn = none ∧ ∀ w : World, ∃ u, (row us.toArray).run P w = .ok u w ∧ den ρ v = some u := by
  unfold pexE at h
  split at h
  · rename_i hn
    have hn := eq_of_beq hn
    exact ⟨_, find_index hn, next_index hn ho, idxE_ok h hd⟩
  · split at h
    · rename_i hn
      have hn := eq_of_beq hn
      refine ⟨_, find_fbits hn, next_fbits hn ho, fun w => ?_⟩
      unfold fbitE at h
      split at h
      case h_2 => cases h
      split at h
      case h_2 => cases h
      cases h
      obtain ⟨u1, us1, d1, d2, rfl⟩ := denL_cons.1 hd
      rw [denL_nil] at d2
      cases d2
      rw [den_int] at d1
      cases d1
      exact ⟨_, rfl, den_flt _ _ _⟩
    · split at h
      · rename_i hn
        have hn := eq_of_beq hn
        refine ⟨_, find_noesc hn, next_noesc hn ho, fun w => ?_⟩
        unfold sameE at h
        split at h
        case h_2 => cases h
        cases h
        obtain ⟨u1, us1, d1, d2, rfl⟩ := denL_cons.1 hd
        rw [denL_nil] at d2
        cases d2
        exact ⟨_, rfl, d1⟩
      · split at h
        · rename_i hn
          have hn := eq_of_beq hn
          refine ⟨_, find_tbits hn, next_tbits hn ho, fun w => ?_⟩
          unfold tbitE at h
          split at h
          case h_2 => cases h
          cases h
          obtain ⟨u1, us1, d1, d2, rfl⟩ := denL_cons.1 hd
          rw [denL_nil] at d2
          cases d2
          rw [den_flt] at d1
          cases d1
          exact ⟨_, rfl, den_int _ _ _⟩
        · cases h
omit [Orig] in
theorem find_clone {fn : Func} (h : fn.name = "maps.clone") : Extern.find fn = some Extern.MapsClone.clone := by
  unfold Extern.find
  rw [h]
  kernel_rfl
omit [Orig] in
theorem next_clone {fn : Func} (h : fn.name = "maps.clone") (ho : fn.origin = "") : Extern.findNext fn = none := by
  unfold Extern.findNext
  rw [h, ho]
  kernel_rfl
omit [Orig] in
theorem tgtE_run {E : Env} {ρ : Pl} {N : Nat} {F : T SV} {a : Act} (hF : FRel ρ N F a) {o : Oper} {c : Call} (ho : o.op = .call c) {fo : Operand} (hc : c.callee = .value fo) {f : FuncId} {args : List SV} (e : tgtE E F c = some (f, args)) {P : Program} (w : World) :
    ∃ us, denL ρ args = some us ∧ (execOp a.eval o).run P w = (callFunc f us.toArray).run P w := by
  obtain ⟨vs, h1, h2⟩ := ob_eq.1 e
  have hd := evL_den hF h1
  have hargs : c.args.map a.eval = (c.args.toList.map a.eval).toArray := map_toArray_eval a c.args
  rw [hc] at h2
  obtain ⟨fv, h3, h4⟩ := ob_eq.1 (show (ob (ev F fo) fun fv => match fv with
    | .fn (.func g) a cap => some (g, app a (app vs cap))
    | _ => none) = some (f, args) from h2)
  have hf := ev_den hF h3
  split at h4
  · rename_i g' x cap
    cases h4
    obtain ⟨y1, y2, k1, k2, k3, k4⟩ := den_fn hf
    refine ⟨y1 ++ (c.args.toList.map a.eval ++ y2), by rw [app_ok, app_ok]; exact denL_append k1 (denL_append hd k2), ?_⟩
    simp only [execOp, ho, resolve, hc, hargs, Deferred.ofValue, k4, Sem.run_bind, Sem.run_pure, Result.andThen_ok, invoke]
    congr 2
    simp
  · cases h4
theorem extE_ok {P : Program} {E : Env} (hE : EnvOk P E) {ρ : Pl} {m : T SObj} {nx : Nat} {w0 : Base} {w : World} (h : Emb P ρ m nx w0 w) {N : Nat} {F : T SV} {a : Act} (hF : FRel ρ N F a) {o : Oper} {c : Call} (ho : o.op = .call c) {r : SV × T SObj × Nat} (e : extE E F c m nx = some r) :
    ∃ ρ' u w', Le ρ ρ' ∧ (execOp a.eval o).run P w = .ok (.value u) w' ∧ den ρ' r.1 = some u ∧ Emb P ρ' r.2.1 r.2.2 w0 w' := by
  unfold extE at e
  split at e
  case h_2 => cases e
  rename_i fo hc
  obtain ⟨⟨f, args⟩, h1, h2⟩ := ob_eq.1 e
  obtain ⟨g, h3, h4⟩ := ob_eq.1 h2
  obtain ⟨h5, h6⟩ := oi_eq.1 h4
  obtain ⟨h9, h8⟩ := oi_eq.1 h6
  have hor : g.origin = "" := by simpa using h9
  obtain ⟨hf1, hf2⟩ := hE.fn f g h3
  split at h8
  case h_2 =>
    obtain ⟨v, p1, p2⟩ := ob_eq.1 h8
    cases p2
    obtain ⟨us, k1, k2⟩ := tgtE_run (P := P) hF ho hc h1 w
    obtain ⟨row, q1, q2, q3⟩ := pexE_ok (P := P) p1 hor k1
    obtain ⟨u, q4, q5⟩ := q3 w
    refine ⟨ρ, u, w, Le.refl ρ, ?_, q5, h⟩
    rw [k2, run_callFunc_extern hf1 hf2 h5 q2 q1, q4]
    rfl
  rename_i h7
  have h10 : clnE m nx args = some r := h8
  unfold clnE at h10
  split at h10
  case h_2 => cases h10
  rename_i ty b
  obtain ⟨x, h11, h12⟩ := ob_eq.1 h10
  split at h12
  case h_2 => cases h12
  rename_i es cl
  cases h12
  obtain ⟨us, k1, k2⟩ := tgtE_run (P := P) hF ho hc h1 w
  obtain ⟨u1, us1, d1, d2, rfl⟩ := denL_cons.1 k1
  rw [denL_nil] at d2
  cases d2
  obtain ⟨v, d3, rfl⟩ := den_ifc d1
  obtain ⟨y, d4, rfl⟩ := den_map d3
  obtain ⟨y', ob', a1, -, a3, a4⟩ := h.obj b _ h11
  rw [d4] at a1
  cases a1
  cases ob' <;> try exact a4.elim
  rename_i ms c'
  obtain ⟨rfl, a5⟩ := a4
  have hn : g.name = "maps.clone" := by simpa using h7
  have hle := pset_le (b := nx) (w.heap.size, 0) (h.fresh nx (Nat.le_refl _)).1
  obtain ⟨g1, g2⟩ := h.new 0 (o := .map es c') (ob := .map ms c') ⟨rfl, denE_mono hle a5⟩
  refine ⟨_, .iface ty (.map (some w.heap.size)), _, g2, ?_, den_ifc_mk (den_map_mk (pset_same _ _ _)), g1⟩
  rw [k2, run_callFunc_extern hf1 hf2 h5 (next_clone hn hor) (find_clone hn)]
  have e1 : Extern.MapsClone.clone #[.iface ty (.map (some y.1))] = (getObj y.1 >>= fun o => match o with
      | .map entries clock => (newObj (.map entries clock) >>= fun n => pure (.iface ty (.map (some n))))
      | _ => stuck "maps.clone: a map expected") := rfl
  rw [e1]
  simp [MapKept.run_getObj_map a3, Result.andThen, go_sem]
end Go.Proofs.YtodehmognjofhaaGreat

namespace Go.Proofs.YtodehmognjofhaaGreat
open Go.RowKit

/-- a deferred call, or a mark among them. -/
inductive DEnt where
  | mark (d : Nat)
  | call (g : FuncId) (a c : List SV)
def DOk (ρ : Pl) : DEnt → Deferred → Prop
  | .mark d, D => ∃ y, ρ d = some y ∧ D = { target := .collected y.1, args := #[] }
  | .call g a c, D => ∃ x y, denL ρ a = some x ∧ denL ρ c = some y ∧ D = { target := .fn (.func g) y.toArray, args := x.toArray }
def DRel (ρ : Pl) : List DEnt → List Deferred → Prop
  | [], [] => True
  | d :: l, D :: L => DOk ρ d D ∧ DRel ρ l L
  | _, _ => False
theorem DOk.mono {ρ ρ' : Pl} (h : Le ρ ρ') {d : DEnt} {D : Deferred} (k : DOk ρ d D) : DOk ρ' d D := by
  cases d with
  | mark d =>
    obtain ⟨y, h1, h2⟩ := k
    exact ⟨y, h _ y h1, h2⟩
  | call g a c =>
    obtain ⟨x, y, h1, h2, h3⟩ := k
    exact ⟨x, y, denL_mono h a h1, denL_mono h c h2, h3⟩
theorem DRel.mono {ρ ρ' : Pl} (h : Le ρ ρ') : ∀ {l : List DEnt} {L : List Deferred}, DRel ρ l L → DRel ρ' l L
  | [], [], _ => trivial
  | _ :: _, _ :: _, ⟨h1, h3⟩ => ⟨h1.mono h, DRel.mono h h3⟩
theorem DRel.append {ρ : Pl} : ∀ {l : List DEnt} {L : List Deferred} {l' : List DEnt} {L' : List Deferred}, DRel ρ l L → DRel ρ l' L' → DRel ρ (app l l') (L ++ L')
  | [], [], _, _, _, h => h
  | _ :: _, _ :: _, _, _, ⟨h1, h2⟩, h => ⟨h1, DRel.append h2 h⟩
/-- the round that a frame is of. -/
def RO (ρ : Pl) : Option Nat → Option Nat → Prop
  | none, none => True
  | some i, some l => ∃ c, ρ i = some (l, c)
  | _, _ => False
theorem RO.mono {ρ ρ' : Pl} (h : Le ρ ρ') : ∀ {i r : Option Nat}, RO ρ i r → RO ρ' i r
  | none, none, _ => trivial
  | some _, some _, ⟨c, h1⟩ => ⟨c, h _ _ h1⟩
variable [Orig]
section
variable {P : Program} {ρ : Pl} {m : T SObj} {nx : Nat} {w0 : Base} {w : World}
theorem Emb.turn (h : Emb P ρ m nx w0 w) {b : Nat} {o o' : SObj} {x : Nat × Nat} {ob ob' : Obj} (hb : m.get b = some o) (hx : ρ b = some x) (hw : w.heap[x.1]? = some ob) (hc : ∀ a t z, ob ≠ .cells a t z) (k : ObjRel P ρ x o' ob') :
    (Go.setObj x.1 ob').run P w = .ok () { w with heap := w.heap.setIfInBounds x.1 ob' } ∧ Emb P ρ (m.put (some o') b) nx w0 { w with heap := w.heap.setIfInBounds x.1 ob' } := by
  have hlt := (Array.getElem?_eq_some_iff.1 hw).1
  refine ⟨by cases ob <;> first | exact absurd rfl (hc _ _ _) | simp [Go.setObj, Sem.run, hw], ?_⟩
  exact h.upd (o' := o') (ob' := ob') hb hx rfl rfl rfl (by simp) (by simp [hlt]) (fun j hj => by simp [Array.getElem?_setIfInBounds_ne (Ne.symm hj)]) k
theorem Emb.loop (h : Emb P ρ m nx w0 w) {l : Nat} {st : LoopState} {pd : Option Code} {n : Nat} {F : T SV} {ps : List Tmp} {x y : Code} {d : Nat} (e : m.get l = some (.lp st pd n F ps x y d)) :
    ∃ z r, ρ l = some z ∧ w.heap[z.1]? = some (.loop r) ∧ (Instr.getLoop z.1).run P w = .ok r w ∧ LoopRel ρ st pd n F ps x y d r := by
  obtain ⟨z, ob, h1, -, h3, h4⟩ := h.obj l _ e
  cases ob <;> try exact h4.elim
  rename_i r
  refine ⟨z, r, h1, h3, ?_, h4⟩
  have hget : (getObj z.1).run P w = .ok (.loop r) w := by simp [getObj, Sem.run, h3]
  simp only [Instr.getLoop, Sem.run_bind, hget, Result.andThen_ok, Sem.run_pure]
end

noncomputable def enterE (ro : Option Nat) (N : Nat) (F : T SV) (ps : List Tmp) (x y : Code) (m : T SObj) (nx : Nat) : Option (T SObj × Nat × List DEnt × Nat) := match ro with
  | none => some (T.put (T.put m (some (.defr true)) nx) (some (.lp .ready none N F ps x y nx)) (nx + 1), nx + 2, [.mark nx], nx + 1)
  | some l0 => ob (m.get l0) fun o => match o with
    | .lp _ _ _ _ _ _ _ d => some (T.put m (some (.lp .ready none N F ps x y d)) nx, nx + 1, [], nx)
    | _ => none
noncomputable def putPs (N : Nat) : List Tmp → List SV → T SV → Option (T SV) := fun ps => List.rec (motive := fun _ => List SV → T SV → Option (T SV)) (fun vs F => match vs with
  | [] => some F
  | _ => none) (fun p _ ih vs F => match vs with
  | v :: vs => oi (Nat.blt p N) (ih vs (T.put F (some v) p))
  | _ => none) ps
noncomputable def ynE (m : T SObj) (l : Nat) (vs : List SV) : Option (Nat × T SV × Code × Code) := ob (m.get l) fun o => match o with
  | .lp _ _ n F ps x y _ => ob (putPs n ps vs F) fun F' => some (n, F', x, y)
  | _ => none
noncomputable def begE (m : T SObj) (l : Nat) : Option (T SObj) := ob (m.get l) fun o => match o with
  | .lp .ready pd n F ps x y d => some (T.put m (some (.lp .busy pd n F ps x y d)) l)
  | _ => none
noncomputable def endRE (m : T SObj) (l : Nat) (jump : Option Code) : Option (T SObj) := ob (m.get l) fun o => match o with
  | .lp _ _ n F ps x y d => some (T.put m (some (.lp (Option.rec (motive := fun _ => LoopState) .ready (fun _ => .done) jump) jump n F ps x y d)) l)
  | _ => none
def notBusy : LoopState → Bool
  | .busy => false
  | _ => true
noncomputable def endLE (m : T SObj) (l : Nat) : Option (Option Code × T SObj) := ob (m.get l) fun o => match o with
  | .lp st pd n F ps x y d => oi (notBusy st) (some (pd, T.put m (some (.lp .exhausted pd n F ps x y d)) l))
  | _ => none
noncomputable def takE (m : T SObj) (d : Nat) : Option (T SObj) := ob (m.get d) fun o => match o with
  | .defr true => some (T.put m (some (.defr false)) d)
  | _ => none

section
variable {P : Program} {ρ : Pl} {m : T SObj} {nx : Nat} {w0 : Base} {w : World}
omit [Orig] in
theorem pset_ne (ρ : Pl) {b c : Nat} (x : Nat × Nat) (h : c ≠ b) : pset ρ b x c = ρ c := by rw [pset_at, if_neg h]
theorem enterE_ok (h : Emb P ρ m nx w0 w) {ro r : Option Nat} (hr : RO ρ ro r) {N : Nat} {F : T SV} {a : Act} (hF : FRel ρ N F a) {ps : Array Tmp} {x y : Code} {q : T SObj × Nat × List DEnt × Nat} (e : enterE ro N F ps.toList x y m nx = some q) :
    ∃ ρ' lw, Le ρ ρ' ∧ ρ' q.2.2.2 = some (lw, 0) ∧ ∃ mark, DRel ρ' q.2.2.1 mark ∧ ∀ fn, ∃ w', (Instr.enterLoop fn a.tmps ps x y r).run P w = .ok (lw, mark) w' ∧ Emb P ρ' q.1 q.2.1 w0 w' := by
  unfold enterE at e
  cases ro with
  | none =>
    cases r with
    | some l => exact hr.elim
    | none =>
      cases e
      obtain ⟨g1, g2⟩ := h.new 0 (o := .defr true) (ob := .deferred (some [])) rfl
      have hsz : (w.alloc (.deferred (some []))).heap.size = w.heap.size + 1 := by simp
      refine ⟨pset (pset ρ nx (w.heap.size, 0)) (nx + 1) (w.heap.size + 1, 0), w.heap.size + 1, ?_, pset_same _ _ _, [{ target := .collected w.heap.size, args := #[] }], ⟨⟨(w.heap.size, 0), ?_, rfl⟩, trivial⟩, fun fn => ?_⟩
      · have := (g1.fresh (nx + 1) (Nat.le_refl _)).1
        exact g2.trans (pset_le _ this)
      · show pset _ _ _ nx = _
        rw [pset_ne _ _ (by omega)]
        exact pset_same _ _ _
      · have hle2 : Le ρ (pset (pset ρ nx (w.heap.size, 0)) (nx + 1) (w.heap.size + 1, 0)) := g2.trans (pset_le _ (g1.fresh (nx + 1) (Nat.le_refl _)).1)
        obtain ⟨k1, k2⟩ := g1.new 0 (o := .lp .ready none N F ps.toList x y nx) (ob := .loop { state := .ready, pending := none, fn := fn, tmps := a.tmps, params := ps, assign := x, body := y, defers := w.heap.size }) (by
          refine ⟨rfl, rfl, ⟨hF.size, ?_⟩, rfl, rfl, rfl, (w.heap.size, 0), ?_, rfl⟩
          · intro i v hi
            obtain ⟨u, j1, j2⟩ := hF.at_ i v hi
            rw [hsz]
            exact ⟨u, j1, den_mono hle2 v j2⟩
          · rw [pset_ne _ _ (by omega)]
            exact pset_same _ _ _)
        rw [hsz] at k1
        refine ⟨_, ?_, k1⟩
        simp only [Instr.enterLoop, Sem.run_bind, Sem.run_pure, run_newObj_alloc, Result.andThen_ok, hsz]
  | some l0 =>
    cases r with
    | none => exact hr.elim
    | some l =>
      obtain ⟨c, hc⟩ := hr
      obtain ⟨o, h1, h2⟩ := ob_eq.1 e
      split at h2
      case h_2 => cases h2
      cases h2
      obtain ⟨z, r, k1, k2, k3, -, -, -, -, -, -, zz, k4, k5⟩ := h.loop h1
      rw [hc] at k1
      cases k1
      have hle : Le ρ (pset ρ nx (w.heap.size, 0)) := pset_le _ (h.fresh nx (Nat.le_refl _)).1
      refine ⟨pset ρ nx (w.heap.size, 0), w.heap.size, hle, pset_same _ _ _, [], trivial, fun fn => ?_⟩
      obtain ⟨g1, g2⟩ := h.new 0 (o := .lp .ready none N F ps.toList x y _) (ob := .loop { state := .ready, pending := none, fn := fn, tmps := a.tmps, params := ps, assign := x, body := y, defers := r.defers })
        ⟨rfl, rfl, ⟨hF.size, fun i v hi => let ⟨u, j1, j2⟩ := hF.at_ i v hi; ⟨u, j1, den_mono hle v j2⟩⟩, rfl, rfl, rfl, zz, hle _ _ k4, k5⟩
      refine ⟨_, ?_, g1⟩
      simp only [Instr.enterLoop, Sem.run_bind, k3, Result.andThen_ok, Sem.run_pure, run_newObj_alloc]
omit [Orig] in
theorem putPs_ok {n : Nat} {ρ : Pl} : ∀ (ps : List Tmp) (vs : List SV) (us : List Value) (F F' : T SV) (t : Array Value), putPs n ps vs F = some F' → denL ρ vs = some us → TRel ρ n F t → us.length = ps.length ∧ TRel ρ n F' ((ps.zip us).foldl (fun tmps (t, a) => tmps.setIfInBounds t a) t)
  | [], [], us, F, F', t, e, hd, h => by
    cases e
    rw [denL_nil] at hd
    cases hd
    exact ⟨rfl, h⟩
  | [], _ :: _, us, F, F', t, e, hd, h => by cases e
  | _ :: _, [], us, F, F', t, e, hd, h => by cases e
  | p :: ps, v :: vs, us, F, F', t, e, hd, h => by
    have e' : oi (Nat.blt p n) (putPs n ps vs (T.put F (some v) p)) = some F' := e
    obtain ⟨h1, h2⟩ := oi_eq.1 e'
    obtain ⟨u, us', d1, d2, rfl⟩ := denL_cons.1 hd
    have hp : p < n := blt_true h1
    have h' : TRel ρ n (T.put F (some v) p) (t.setIfInBounds p u) := by
      refine ⟨by simp [h.size], fun j x hj => ?_⟩
      rw [T.get_put] at hj
      by_cases e : j = p
      · subst e
        rw [if_pos rfl] at hj
        cases hj
        exact ⟨u, by simp [h.size, hp], d1⟩
      · rw [if_neg e] at hj
        obtain ⟨x', h3, h4⟩ := h.at_ j x hj
        exact ⟨x', by rw [Array.getElem?_setIfInBounds_ne (Ne.symm e)]; exact h3, h4⟩
    obtain ⟨k1, k2⟩ := putPs_ok ps vs us' _ F' _ h2 d2 h'
    exact ⟨by simp [k1], k2⟩
theorem ynE_ok (h : Emb P ρ m nx w0 w) {l : Nat} {z : Nat × Nat} (hz : ρ l = some z) {vs : List SV} {us : List Value} {q : Nat × T SV × Code × Code} (e : ynE m l vs = some q) (hd : denL ρ vs = some us) :
    ∃ fn tmps, (Instr.yield z.1 us.toArray).run P w = .ok (.round z.1 fn tmps q.2.2.1 q.2.2.2) w ∧ TRel ρ q.1 q.2.1 tmps := by
  obtain ⟨o, h1, h2⟩ := ob_eq.1 e
  split at h2
  case h_2 => cases h2
  obtain ⟨F', h3, h4⟩ := ob_eq.1 h2
  cases h4
  obtain ⟨z', r, k1, k2, k3, a1, a2, a3, a4, rfl, rfl, -⟩ := h.loop h1
  rw [hz] at k1
  cases k1
  obtain ⟨b1, b2⟩ := putPs_ok _ _ _ _ _ _ h3 hd a3
  have hsz : us.toArray.size = r.params.size := by rw [← a4] at b1; simpa using b1
  refine ⟨r.fn, _, ?_, b2⟩
  have hz2 : r.params.zip us.toArray = (r.params.toList.zip us).toArray := by
    apply Array.toList_inj.1
    simp
  simp only [Instr.yield, Sem.run_bind, k3, Result.andThen_ok, ne_eq, hsz, not_true_eq_false, if_false, Sem.run_pure, hz2, a4]
  simp
theorem begE_ok (h : Emb P ρ m nx w0 w) {l : Nat} {z : Nat × Nat} (hz : ρ l = some z) {m' : T SObj} (e : begE m l = some m') : ∃ w', (Instr.beginRound z.1).run P w = .ok () w' ∧ Emb P ρ m' nx w0 w' := by
  obtain ⟨o, h1, h2⟩ := ob_eq.1 e
  split at h2
  case h_2 => cases h2
  cases h2
  obtain ⟨z', r, k1, k2, k3, a1, a2, a3, a4, a5, a6, a7⟩ := h.loop h1
  rw [hz] at k1
  cases k1
  obtain ⟨b1, b2⟩ := h.turn h1 hz k2 (fun _ _ _ e => by cases e) (o' := .lp .busy _ _ _ _ _ _ _) (ob' := .loop { r with state := .busy }) ⟨rfl, a2, a3, a4, a5, a6, a7⟩
  refine ⟨_, ?_, b2⟩
  simp only [Instr.beginRound, Sem.run_bind, k3, Result.andThen_ok, b1, a1, Sem.run_pure]
theorem endRE_ok (h : Emb P ρ m nx w0 w) {l : Nat} {z : Nat × Nat} (hz : ρ l = some z) {jump : Option Code} {m' : T SObj} (e : endRE m l jump = some m') : ∃ w', (Instr.endRound z.1 jump).run P w = .ok (.bool jump.isNone) w' ∧ Emb P ρ m' nx w0 w' := by
  obtain ⟨o, h1, h2⟩ := ob_eq.1 e
  split at h2
  case h_2 => cases h2
  cases h2
  obtain ⟨z', r, k1, k2, k3, a1, a2, a3, a4, a5, a6, a7⟩ := h.loop h1
  rw [hz] at k1
  cases k1
  obtain ⟨b1, b2⟩ := h.turn h1 hz k2 (fun _ _ _ e => by cases e) (o' := .lp _ jump _ _ _ _ _ _) (ob' := .loop { r with state := if jump.isNone then .ready else .done, pending := jump }) ⟨rfl, rfl, a3, a4, a5, a6, a7⟩
  refine ⟨{ w with heap := w.heap.setIfInBounds z.1 (.loop { r with state := if jump.isNone then .ready else .done, pending := jump }) }, ?_, ?_⟩
  rotate_left
  · have : (Option.rec (motive := fun _ => LoopState) LoopState.ready (fun _ => .done) jump) = (if jump.isNone then LoopState.ready else LoopState.done) := by cases jump <;> rfl
    rw [this]
    exact b2
  · simp only [Instr.endRound, Sem.run_bind, k3, Result.andThen_ok, b1, Sem.run_pure]
theorem endLE_ok (h : Emb P ρ m nx w0 w) {l : Nat} {z : Nat × Nat} (hz : ρ l = some z) {q : Option Code × T SObj} (e : endLE m l = some q) : ∃ w', (Instr.endLoop z.1).run P w = .ok q.1 w' ∧ Emb P ρ q.2 nx w0 w' := by
  obtain ⟨o, h1, h2⟩ := ob_eq.1 e
  split at h2
  case h_2 => cases h2
  obtain ⟨h3, h4⟩ := oi_eq.1 h2
  cases h4
  obtain ⟨z', r, k1, k2, k3, rfl, rfl, a3, a4, a5, a6, a7⟩ := h.loop h1
  rw [hz] at k1
  cases k1
  obtain ⟨b1, b2⟩ := h.turn h1 hz k2 (fun _ _ _ e => by cases e) (o' := .lp .exhausted _ _ _ _ _ _ _) (ob' := .loop { r with state := .exhausted }) ⟨rfl, rfl, a3, a4, a5, a6, a7⟩
  refine ⟨_, ?_, b2⟩
  have hb : (r.state == LoopState.busy) = false := by
    cases hs : r.state <;> first | rfl | (rw [hs] at h3; cases h3)
  simp only [Instr.endLoop, Sem.run_bind, k3, Result.andThen_ok, hb, Bool.false_eq_true, if_false, b1, Sem.run_pure]
theorem takE_ok (h : Emb P ρ m nx w0 w) {d : Nat} {z : Nat × Nat} (hz : ρ d = some z) {m' : T SObj} (e : takE m d = some m') : ∃ w', (Instr.takeDeferred z.1).run P w = .ok [] w' ∧ Emb P ρ m' nx w0 w' := by
  obtain ⟨o, h1, h2⟩ := ob_eq.1 e
  split at h2
  case h_2 => cases h2
  cases h2
  obtain ⟨z', ob, k1, -, k3, k4⟩ := h.obj d _ h1
  rw [hz] at k1
  cases k1
  cases ob <;> try exact k4.elim
  rename_i ls
  have k4' : ls = some [] := k4
  subst k4'
  obtain ⟨b1, b2⟩ := h.turn h1 hz k3 (fun _ _ _ e => by cases e) (o' := .defr false) (ob' := .deferred none) rfl
  refine ⟨_, ?_, b2⟩
  have hget : (getObj z.1).run P w = .ok (.deferred (some [])) w := by simp [getObj, Sem.run, k3]
  simp only [Instr.takeDeferred, Sem.run_bind, hget, Result.andThen_ok, b1, Sem.run_pure]
end
/-- is yield called, and by what? -/
noncomputable def yldE (F : T SV) (c : Call) : Option (Nat × List SV) := match c.callee with
  | .value f => ob (evL F c.args.toList) fun vs => ob (ev F f) fun fv => match fv with
    | .yld l => some (l, vs)
    | _ => none
  | _ => none
omit [Orig] in
theorem yldE_ok {P : Program} {ρ : Pl} {N : Nat} {F : T SV} {a : Act} (hF : FRel ρ N F a) {o : Oper} {c : Call} (ho : o.op = .call c) {l : Nat} {args : List SV} (e : yldE F c = some (l, args)) (w : World) :
    ∃ us z, denL ρ args = some us ∧ ρ l = some z ∧ (execOp a.eval o).run P w = (Instr.yield z.1 us.toArray).run P w := by
  unfold yldE at e
  split at e
  case h_2 => cases e
  rename_i f hc
  obtain ⟨vs, h1, h2⟩ := ob_eq.1 e
  obtain ⟨fv, h3, h4⟩ := ob_eq.1 h2
  have hf := ev_den hF h3
  split at h4
  case h_2 => cases h4
  cases h4
  have hf' : (ρ l).map (fun p => Value.func (.yield p.1) #[] #[]) = some (a.eval f) := by unfold den at hf; exact hf
  obtain ⟨z, k1, k2⟩ := Option.map_eq_some_iff.1 hf'
  refine ⟨_, z, evL_den hF h1, k1, ?_⟩
  simp only [execOp, ho, resolve, hc, Deferred.ofValue, ← k2, Sem.run_bind, Sem.run_pure, Result.andThen_ok, invoke]
  rw [map_toArray_eval]
  simp
end Go.Proofs.YtodehmognjofhaaGreat

namespace Go.Proofs.YtodehmognjofhaaGreat
open Go.RowKit

structure St where
  F : T SV
  m : T SObj
  nx : Nat
inductive Ex where
  | normal
  | exit (id : Nat)
  | goto (l : Nat)
  | ret
  | pan (v : SV)
abbrev Res := SV × T SObj × Nat
abbrev CalF := FuncId → List SV → T SObj → Nat → Option Res
/-- functions, and rounds of loops over functions. -/
structure Cal where
  fn : CalF
  rd : Nat → List SV → T SObj → Nat → Option Res
def FW (r : Option Nat) : Fence := { Fence.wide with round := r }
theorem calls_FW {P : Program} {r : Option Nat} {n : Nat} {f : FuncId} {args : Array Value} {w : World} {R : Ending → World → Prop} (h : Calls P f args w R) : CallsIn (FW r) n P f args w R := (callsIn_wide (n := n)).2 h
theorem callsIn_FW {P : Program} {r r' : Option Nat} {n n' : Nat} {f : FuncId} {args : Array Value} {w : World} {R : Ending → World → Prop} (h : CallsIn (FW r) n P f args w R) : CallsIn (FW r') n' P f args w R :=
  calls_FW (h.calls fun k d hd => by cases hd)
/-- a way out, for the values at hand. -/
def Ex.toE (ρ : Pl) : Ex → Exit
  | .normal => .normal
  | .exit id => .exit id
  | .goto l => .goto l
  | .ret => .ret
  | .pan v => .panic [{ v := (den ρ v).getD undef, recovered := false }]
def Ex.ok (ρ : Pl) : Ex → Prop
  | .pan v => (den ρ v).isSome = true
  | _ => True
variable [Orig]
/-- functions that end by a panic. -/
def PnOk (P : Program) (pn : CalF) : Prop := ∀ f args m nx r, pn f args m nx = some r → ∀ (ρ : Pl) (us : List Value) (w0 : Base) (w : World), denL ρ args = some us → Emb P ρ m nx w0 w →
  Calls P f us.toArray w fun e w' => ∃ ρ' u, e = .panicked [{ v := u, recovered := false }] ∧ Le ρ ρ' ∧ den ρ' r.1 = some u ∧ Emb P ρ' r.2.1 r.2.2 w0 w'
def FnOk (P : Program) (cal : CalF) : Prop := ∀ f args m nx r, cal f args m nx = some r → ∀ (ρ : Pl) (us : List Value) (w0 : Base) (w : World), denL ρ args = some us → Emb P ρ m nx w0 w →
  Calls P f us.toArray w fun e w' => ∃ ρ' u, e = .returned u ∧ Le ρ ρ' ∧ den ρ' r.1 = some u ∧ Emb P ρ' r.2.1 r.2.2 w0 w'
def RdOk (P : Program) (rd : Nat → List SV → T SObj → Nat → Option Res) : Prop := ∀ l args m nx r, rd l args m nx = some r → ∀ (ρ : Pl) (us : List Value) (z : Nat × Nat) (w0 : Base) (w : World), denL ρ args = some us → ρ l = some z → Emb P ρ m nx w0 w →
  ∃ fn tmps x y, (Instr.yield z.1 us.toArray).run P w = .ok (.round z.1 fn tmps x y) w ∧ RoundIn Fence.wide 0 P z.1 fn tmps x y w fun e w' => ∃ ρ' u, e = .returned u ∧ Le ρ ρ' ∧ den ρ' r.1 = some u ∧ Emb P ρ' r.2.1 r.2.2 w0 w'
structure CalOk (P : Program) (cal : Cal) : Prop where
  fn : FnOk P cal.fn
  rd : RdOk P cal.rd
structure Rel (P : Program) (ρ : Pl) (N : Nat) (s : St) (D : List Deferred) (a : Act) (w0 : Base) (w : World) : Prop where
  F : FRel ρ N s.F a
  m : Emb P ρ s.m s.nx w0 w
  d : a.defers = D

/-- is a guarded operation wanted? -/
noncomputable def wantE (all : List Oper) (F : T SV) (g : Option (Nat × Bool)) : Option Bool := match g with
  | none => some true
  | some (j, want) => ob (nth j all) fun o => ob o.dst fun d => ob (F.get d) fun v => match v with
    | .bool b => some (Bool.rec (motive := fun _ => Bool) (not want) want b)
    | .tup _ => some false
    | _ => none
omit [Orig] in
theorem wantE_ok {ρ : Pl} {N : Nat} {F : T SV} {a : Act} (hF : FRel ρ N F a) {all : List Oper} {o : Oper} {b : Bool} (e : wantE all F o.guard = some b) : Region.wanted o (yielded all.toArray a.tmps) = b := by
  unfold Region.wanted
  unfold wantE at e
  split at e
  · rename_i hg
    rw [hg]
    cases e
    rfl
  · rename_i j want hg
    rw [hg]
    obtain ⟨o', h1, h2⟩ := ob_eq.1 e
    obtain ⟨d, h3, h4⟩ := ob_eq.1 h2
    obtain ⟨v, h5, h6⟩ := ob_eq.1 h4
    rw [nth_ok] at h1
    obtain ⟨u, k1, k2⟩ := hF.at_ d v h5
    have hy : yielded all.toArray a.tmps j = (match u with | .bool b => some b | _ => none) := by
      unfold yielded
      simp only [List.getElem?_toArray, h1, Option.bind_some, h3, k1]
      cases u <;> rfl
    simp only [hy]
    split at h6
    · rename_i b'
      rw [den_bool] at k2
      cases k2
      cases h6
      cases b' <;> cases want <;> rfl
    · obtain ⟨us, -, rfl⟩ := den_tup k2
      cases h6
      cases want <;> rfl
    · cases h6
noncomputable def callE (E : Env) (cal : Cal) (o : Oper) (s : St) : Option Res := match o.op with
  | .call c => Option.rec (motive := fun _ => Option Res) (ob (yldE s.F c) fun t => cal.rd t.1 t.2 s.m s.nx) (fun r => some r) (Option.rec (motive := fun _ => Option Res) (extE E s.F c s.m s.nx) (fun r => some r) (ob (tgtE E s.F c) fun t => ob (E.fn.get t.1) fun g => ob g.body fun _ => cal.fn t.1 t.2 s.m s.nx))
  | _ => none
noncomputable def valE (E : Env) (cal : Cal) (o : Oper) (s : St) : Option Res :=
  Option.rec (motive := fun _ => Option Res) (Option.rec (motive := fun _ => Option Res) (callE E cal o s) (fun r => some r) (evA E s.m s.nx s.F o)) (fun v => some (v, s.m, s.nx)) (evP E s.m s.F o)
noncomputable def doE (E : Env) (cal : Cal) (N : Nat) (o : Oper) (s : St) : Option St := ob (valE E cal o s) fun r => ob (fput N s.F o.dst r.1) fun F' => some ⟨F', r.2.1, r.2.2⟩
omit [Orig] in
theorem nd_P {E : Env} {m : T SObj} {F : T SV} {o : Oper} {v : SV} (e : evP E m F o = some v) : ∀ c, o.op ≠ .defer c := by
  intro c h
  unfold evP at e
  rw [h] at e
  cases e
omit [Orig] in
theorem nd_A {E : Env} {m : T SObj} {nx : Nat} {F : T SV} {o : Oper} {v : SV × T SObj × Nat} (e : evA E m nx F o = some v) : ∀ c, o.op ≠ .defer c := by
  intro c h
  unfold evA at e
  rw [h] at e
  cases e
section
variable {P : Program} {r : Option Nat}
theorem valE_ok {E : Env} (hE : EnvOk P E) {cal : Cal} (hcal : CalOk P cal) {ρ : Pl} {N : Nat} {s : St} {D : List Deferred} {a : Act} {w0 : Base} {w : World} (h : Rel P ρ N s D a w0 w) {o : Oper} {q : Res} (e : valE E cal o s = some q) {K : Act → World → Prop} {Q : Exit → Act → World → Prop}
    (hK : ∀ ρ' u w', Le ρ ρ' → den ρ' q.1 = some u → Emb P ρ' q.2.1 q.2.2 w0 w' → K (a.put o.dst u) w') : o.wpIn (FW r) 0 P a w K Q := by
  refine ⟨fun _ _ => trivial, ?_⟩
  unfold valE at e
  cases hp : evP E s.m s.F o with
  | some v =>
    rw [hp] at e
    cases e
    rw [Oper.semAt_eq _ _ _ (nd_P hp)]
    obtain ⟨u, h1, h2⟩ := evP_ok hE h.m h.F hp
    rw [h1]
    exact hK ρ u w (Le.refl ρ) h2 h.m
  | none =>
    rw [hp] at e
    cases ha : evA E s.m s.nx s.F o with
    | some r' =>
      rw [ha] at e
      cases e
      rw [Oper.semAt_eq _ _ _ (nd_A ha)]
      obtain ⟨ρ', u, w', n, h1, h2, h3, h4, h5⟩ := evA_ok hE h.m h.F ha
      rw [h2]
      rcases h3 with rfl | ⟨rfl, rfl⟩
      · exact hK ρ' u w' h1 h4 h5
      · exact hK ρ' undef w' h1 h4 h5
    | none =>
      rw [ha] at e
      have e' : callE E cal o s = some q := e
      unfold callE at e'
      split at e'
      case h_2 => cases e'
      rename_i c ho
      rw [Oper.semAt_eq _ _ _ (fun c' h' => by rw [ho] at h'; cases h')]
      have call : ∀ q', (ob (tgtE E s.F c) fun t => ob (E.fn.get t.1) fun g => ob g.body fun _ => cal.fn t.1 t.2 s.m s.nx) = some q' → q' = q → o.uponIn (FW r) 0 P a K Q ((execOp a.eval o).run P w) := by
        intro q' ht hq
        subst hq
        obtain ⟨⟨f, args⟩, h1, h2⟩ := ob_eq.1 ht
        obtain ⟨g, h3, h4⟩ := ob_eq.1 h2
        obtain ⟨b, h5, h6⟩ := ob_eq.1 h4
        obtain ⟨us, k1, k2⟩ := tgtE_ok hE h.F ho h1 h3 h5 w
        rw [k2]
        refine ⟨fun hd => (by cases hd), calls_FW ((hcal.fn f args s.m s.nx q' h6 ρ us w0 w k1 h.m).mono ?_)⟩
        rintro e1 w' ⟨ρ', u, rfl, h7, h8, h9⟩
        exact hK ρ' u w' h7 h8 h9
      cases ht : (Option.rec (motive := fun _ => Option Res) (extE E s.F c s.m s.nx) (fun r => some r) (ob (tgtE E s.F c) fun t => ob (E.fn.get t.1) fun g => ob g.body fun _ => cal.fn t.1 t.2 s.m s.nx)) with
      | some q' =>
        rw [ht] at e'
        cases e'
        cases hc2 : (ob (tgtE E s.F c) fun t => ob (E.fn.get t.1) fun g => ob g.body fun _ => cal.fn t.1 t.2 s.m s.nx) with
        | some q2 =>
          rw [hc2] at ht
          cases ht
          exact call _ hc2 rfl
        | none =>
          rw [hc2] at ht
          obtain ⟨ρ', u, w', k1, k2, k3, k4⟩ := extE_ok hE h.m h.F ho (show extE E s.F c s.m s.nx = some q from ht)
          rw [k2]
          exact hK ρ' u w' k1 k3 k4
      | none =>
        rw [ht] at e'
        have e2 : (ob (yldE s.F c) fun t => cal.rd t.1 t.2 s.m s.nx) = some q := e'
        obtain ⟨⟨l, args⟩, h1, h2⟩ := ob_eq.1 e2
        obtain ⟨us, z, k1, k2, k3⟩ := yldE_ok h.F ho h1 w
        obtain ⟨fn, tmps, x, y, j1, j2⟩ := hcal.rd l args s.m s.nx q h2 ρ us z w0 w k1 k2 h.m
        rw [k3, j1]
        refine ⟨fun hd => (by cases hd), RoundIn.mono (F := FW r) (R := fun e w' => ∃ ρ' u, e = .returned u ∧ Le ρ ρ' ∧ den ρ' q.1 = some u ∧ Emb P ρ' q.2.1 q.2.2 w0 w') j2 ?_⟩
        rintro e1 w' ⟨ρ', u, rfl, h7, h8, h9⟩
        exact hK ρ' u w' h7 h8 h9
noncomputable def stepE (E : Env) (cal : Cal) (N : Nat) (all : List Oper) (o : Oper) (s : St) : Option St := ob (wantE all s.F o.guard) fun b =>
  Bool.rec (motive := fun _ => Option St) (ob (fput N s.F o.dst (.tup [])) fun F' => some ⟨F', s.m, s.nx⟩) (doE E cal N o s) b
theorem stepE_ok {E : Env} (hE : EnvOk P E) {cal : Cal} (hcal : CalOk P cal) {ρ : Pl} {N : Nat} {all : List Oper} {s s' : St} {D : List Deferred} {a : Act} {w0 : Base} {w : World} (h : Rel P ρ N s D a w0 w) {o : Oper} (e : stepE E cal N all o s = some s') {K : Act → World → Prop} {Q : Exit → Act → World → Prop}
    (hK : ∀ ρ' a' w', Le ρ ρ' → Rel P ρ' N s' D a' w0 w' → K a' w') : if Region.wanted o (yielded all.toArray a.tmps) = true then o.wpIn (FW r) 0 P a w K Q else (∀ f, o.about P w a.eval = some f → (FW r).fn f) ∧ K (a.put o.dst undef) w := by
  obtain ⟨b, h1, h2⟩ := ob_eq.1 e
  rw [wantE_ok h.F h1]
  cases b with
  | true =>
    rw [if_pos rfl]
    have h2' : doE E cal N o s = some s' := h2
    obtain ⟨q, h3, h4⟩ := ob_eq.1 h2'
    obtain ⟨F', h5, h6⟩ := ob_eq.1 h4
    cases h6
    refine valE_ok hE hcal h h3 fun ρ' u w' k1 k2 k3 => hK ρ' _ w' k1 ⟨(h.F.mono k1).put h5 k2, k3, ?_⟩
    rw [put_defers]; exact h.d
  | false =>
    rw [if_neg (by simp)]
    have h2' : (ob (fput N s.F o.dst (.tup [])) fun F' => some (St.mk F' s.m s.nx)) = some s' := h2
    obtain ⟨F', h5, h6⟩ := ob_eq.1 h2'
    cases h6
    exact ⟨fun _ _ => trivial, hK ρ _ w (Le.refl ρ) ⟨h.F.put h5 (den_undef ρ), h.m, by rw [put_defers]; exact h.d⟩⟩
noncomputable def opsE (E : Env) (cal : Cal) (N : Nat) (all l : List Oper) : St → Option St := List.rec (motive := fun _ => St → Option St) (fun s => some s) (fun o _ ih s => ob (stepE E cal N all o s) fun s' => ih s') l
theorem opsE_ok {E : Env} (hE : EnvOk P E) {cal : Cal} (hcal : CalOk P cal) {N : Nat} {all : List Oper} {w0 : Base} {Q : Exit → Act → World → Prop} : ∀ {l : List Oper} {ρ : Pl} {s s' : St} {D : List Deferred} {a : Act} {w : World}, Rel P ρ N s D a w0 w → opsE E cal N all l s = some s' →
    (∀ ρ' a' w', Le ρ ρ' → Rel P ρ' N s' D a' w0 w' → Q .normal a' w') → wpListIn (FW r) 0 P all.toArray Q l a w
  | [], ρ, s, s', D, a, w, h, e, hQ => by cases e; exact wpListIn_nil (hQ ρ a w (Le.refl ρ) h)
  | o :: l, ρ, s, s', D, a, w, h, e, hQ => by
    have e' : (ob (stepE E cal N all o s) fun s' => opsE E cal N all l s') = some s' := e
    obtain ⟨s1, h1, h2⟩ := ob_eq.1 e'
    refine wpListIn_step fun K hK => stepE_ok hE hcal h h1 fun ρ' a' w' k1 k2 => hK a' w' ?_
    exact opsE_ok hE hcal k2 h2 fun ρ2 a2 w2 j1 j2 => hQ ρ2 a2 w2 (k1.trans j1) j2
end
section
variable {F : Fence} {n : Nat} {P : Program} {Q : Exit → Act → World → Prop} {a : Act} {w : World}
/-- a loop, behind a round. -/
def LW (F : Fence) (n : Nat) (P : Program) (c : Code) (Q : Exit → Act → World → Prop) (a : Act) (w : World) : Prop :=
  ∀ (b : Frame) (k : List Item) (cs : List Frame), b.roundOf = F.round → F.fn b.fn → F.room (cs.length + 1 + n) → ∃ e a' w', Q e a' w' ∧ ArrivesIn (Machine.fenced P F) P (lone (b.atR a (.code c :: .inLoop c :: k)) cs w) b k cs e a' w'
omit [Orig] in
theorem LW_step {c : Code} (h : c.wpIn F n P (Exit.then (LW F n P c Q) Q) a w) : LW F n P c Q a w := by
  intro b k cs hro hb hr
  obtain ⟨e, a₁, w₁, hq, harr⟩ := h b (.inLoop c :: k) cs hro hb hr
  cases e with
  | normal =>
    obtain ⟨e₂, a₂, w₂, hq₂, harr₂⟩ := hq b k cs hro hb hr
    exact ⟨e₂, a₂, w₂, hq₂, .of_steps (StepsIn.trans harr (.one (fenced_calm hb hr rfl) stepR_inLoop)) harr₂⟩
  | exit id => exact ⟨_, a₁, w₁, hq, .pass (x := .inLoop c) rfl (fun _ _ => .inl (by simp)) harr⟩
  | goto l => exact ⟨_, a₁, w₁, hq, .pass (x := .inLoop c) rfl (fun _ _ => .inl (by simp)) harr⟩
  | ret => exact ⟨_, a₁, w₁, hq, .pass (x := .inLoop c) rfl (fun _ _ => .inl (by simp)) harr⟩
  | panic ch => exact ⟨_, a₁, w₁, hq, .pass (x := .inLoop c) rfl (fun _ _ => .inl (by simp)) harr⟩
  | outgrown => exact ⟨_, a₁, w₁, hq, .pass (x := .inLoop c) rfl (fun _ _ => .inl (by simp)) harr⟩
omit [Orig] in
theorem wpIn_of_LW {c : Code} (h : LW F n P c Q a w) : (Code.loop c).wpIn F n P Q a w := by
  intro b k cs hro hb hr
  obtain ⟨e, a', w', hq, harr⟩ := h b k cs hro hb hr
  exact ⟨e, a', w', hq, .of_steps (.one (fenced_calm hb hr rfl) stepR_loop) harr⟩
omit [Orig] in
theorem LW_mono {c : Code} {Q' : Exit → Act → World → Prop} (h : LW F n P c Q a w) (hq : ∀ e a w, Q e a w → Q' e a w) : LW F n P c Q' a w :=
  fun b k cs h1 h2 h3 => let ⟨e, a', w', q, r⟩ := h b k cs h1 h2 h3; ⟨e, a', w', hq _ _ _ q, r⟩
omit [Orig] in
theorem stepR_scope {b : Frame} {k : List Item} {cs : List Frame} {c : Code} : step P (lone (b.atR a (.code (.scope c) :: k)) cs w) = .next (lone (b.atR a (.code c :: .inScope c :: k)) cs w) :=
  step_lone_go (by simp [stepG, stepG.exec, Frame.atR])
omit [Orig] in
theorem stepR_inScope {b : Frame} {k : List Item} {cs : List Frame} {c : Code} : step P (lone (b.atR a (.inScope c :: k)) cs w) = .next (lone (b.atR a k) cs w) :=
  step_lone_go (by simp [stepG, stepG.exec, Frame.atR])
omit [Orig] in
theorem wpIn_scope_straight {c : Code} (h : c.wpIn F n P (Exit.noGoto Q) a w) : (Code.scope c).wpIn F n P Q a w := by
  intro b k cs hro hb hr
  have h0 : (lone (b.atR a (.code (.scope c) :: k)) cs w).fenced P F := fenced_calm hb hr rfl
  obtain ⟨e, a₁, w₁, hq, harr⟩ := h b (.inScope c :: k) cs hro hb hr
  cases e with
  | normal => exact ⟨.normal, a₁, w₁, hq, .head h0 stepR_scope (StepsIn.trans harr (.one (fenced_calm hb hr rfl) stepR_inScope))⟩
  | exit id =>
    have hx : exitTo id (.inScope c :: k) = exitTo id k := by simp [exitTo]
    exact ⟨.exit id, a₁, w₁, hq, fun k' hk => .head h0 stepR_scope (harr.1 k' (by rw [hx]; exact hk)),
      fun hr' hk => let ⟨k₁, h1, h2⟩ := harr.2 hr' (by rw [hx]; exact hk); ⟨k₁, h1, .head h0 stepR_scope h2⟩⟩
  | goto l => exact hq.elim
  | ret => exact ⟨_, a₁, w₁, hq, .of_steps (.one h0 stepR_scope) harr⟩
  | panic ch => exact ⟨_, a₁, w₁, hq, .of_steps (.one h0 stepR_scope) harr⟩
  | outgrown => exact ⟨_, a₁, w₁, hq, .of_steps (.one h0 stepR_scope) harr⟩
end
end Go.Proofs.YtodehmognjofhaaGreat

namespace Go.Proofs.YtodehmognjofhaaGreat
open Go.RowKit

/-- blocks that float: laid by an 'alloc' whenever it is, taken up by memory later. -/
noncomputable def adM (L : List (Nat × SObj)) (m : T SObj) : T SObj := List.rec (motive := fun _ => T SObj) m (fun p _ ih => ih.put (some p.2) p.1) L
variable [Orig]
def AllocOk (P : Program) (N : Nat) (G : T SV) (o : Oper) (v : SV) (b : Nat) (z : SObj) : Prop := (∀ c, o.op ≠ .defer c) ∧ ∀ (ρ : Pl) (a : Act) (w : World), FRel ρ N G a → ∃ ob u, (execOp a.eval o).run P w = .ok (.value u) (w.alloc ob) ∧ (∀ ρ', ObjRel P ρ' (w.heap.size, 0) z ob) ∧ ∀ ρ', ρ' b = some (w.heap.size, 0) → den ρ' v = some u
theorem adM_ok {P : Program} {ρ : Pl} {m : T SObj} {nx : Nat} {w0 : Base} {w : World} (h : Emb P ρ m nx w0 w) : ∀ {L : List (Nat × SObj)}, (∀ p ∈ L, ∃ x ob, ρ p.1 = some x ∧ w.heap[x.1]? = some ob ∧ ObjRel P ρ x p.2 ob ∧ ¬ w0.pr x.1 ∧ ∀ b' x', (m.get b').isSome = true → ρ b' = some x' → x'.1 ≠ x.1) →
    (L.Pairwise fun p q => ∀ x y, ρ p.1 = some x → ρ q.1 = some y → x.1 ≠ y.1) → Emb P ρ (adM L m) nx w0 w ∧ ∀ b', ((adM L m).get b').isSome = true → (m.get b').isSome = true ∨ ∃ p ∈ L, b' = p.1
  | [], _, _ => ⟨h, fun _ hb => .inl hb⟩
  | p :: L, hL, hd => by
    obtain ⟨k1, k2⟩ := adM_ok h (fun q hq => hL q (by simp [hq])) (List.pairwise_cons.1 hd).2
    obtain ⟨x, ob, a1, a2, a3, a4, a5⟩ := hL p (by simp)
    refine ⟨k1.adopt a1 a2 a4 (fun b' x' hb' hx' => ?_) a3, fun b' hb' => ?_⟩
    · rcases k2 b' hb' with h1 | ⟨q, hq, rfl⟩
      · exact a5 b' x' h1 hx'
      · exact fun e => (List.pairwise_cons.1 hd).1 q hq x x' a1 hx' e.symm
    · have hb2 : (T.get ((adM L m).put (some p.2) p.1) b').isSome = true := hb'
      rw [T.get_put] at hb2
      by_cases e : b' = p.1
      · exact .inr ⟨p, by simp, e⟩
      · rw [if_neg e] at hb2
        rcases k2 b' hb2 with h1 | ⟨q, hq, h2⟩
        · exact .inl h1
        · exact .inr ⟨q, by simp [hq], h2⟩
structure Canon (P : Program) (E : Env) (cal : Cal) (N : Nat) (all : List Oper) (pre : Nat → Nat) (act : Nat → Bool) (Fl : Nat → Option (Nat × SObj)) (A B : Nat → List (Nat × SObj)) (AL : List (Nat × SObj)) (F : Nat → T SV) (M : Nat → T SObj) (X : Nat → Nat) (v : Nat → SV) (want : Nat → Bool) (G : Nat → T SV) : Prop where
  s1 : ∀ k o, all[k]? = some o → ∀ e ∈ o.after.toList, Region.binds .any e = true → e.on < k
  s2 : ∀ k o j, all[k]? = some o → (pre k).testBit j = true → ∃ e ∈ o.after.toList, Region.binds .any e = true ∧ (e.on = j ∨ (pre e.on).testBit j = true)
  s3 : ∀ i j oi oj, i < j → all[i]? = some oi → all[j]? = some oj → (pre j).testBit i = true ∨ (oi.apart all.toArray oj = true ∧ ¬ (act i = true ∧ act j = true))
  d1 : ∀ k o, all[k]? = some o → fput N (F k) o.dst (v k) = some (F (k + 1))
  d2 : ∀ k o d x, all[k]? = some o → (G k).get d = some x → d ∈ o.looksAt all.toArray ∧ (F k).get d = some x
  d3 : ∀ k o, all[k]? = some o → wantE all (G k) o.guard = some (want k)
  d4 : ∀ k o, all[k]? = some o → want k = false → v k = .tup [] ∧ M (k + 1) = M k ∧ X (k + 1) = X k
  d5 : ∀ k o, all[k]? = some o → want k = true → act k = true → valE E cal o ⟨G k, adM (A k) (M k), X k⟩ = some (v k, M (k + 1), X (k + 1))
  d6 : ∀ k o, all[k]? = some o → act k = false → M (k + 1) = M k ∧ X (k + 1) = X k
  d7 : ∀ k o c, all[k]? = some o → want k = true → act k = false → c ≤ all.length → (c = 0 ∨ act (c - 1) = true) → (∀ j, j < all.length → act j = true → j < c → (pre j).testBit k = false) → (∀ j, j < all.length → act j = true → c ≤ j → (pre k).testBit j = false) →
    Fl k = none → evP E (adM (B k) (M c)) (G k) o = some (v k)
  f1 : ∀ k o b z, all[k]? = some o → Fl k = some (b, z) → act k = false ∧ want k = true ∧ AllocOk P N (G k) o (v k) b z
  f2 : ∀ k k' b z z', Fl k = some (b, z) → Fl k' = some (b, z') → k = k'
  f3 : ∀ k q, Fl k = some q → k < all.length
  a1 : ∀ i q, q ∈ A i → act i = true ∧ want i = true ∧ ∃ j, Fl j = some q ∧ (pre i).testBit j = true
  a2 : ∀ i i' q, q ∈ A i → q ∈ A i' → i = i'
  a3 : ∀ i, ((A i).map (·.1)).Nodup
  b1 : ∀ k o q, all[k]? = some o → want k = true → act k = false → Fl k = none → q ∈ B k → (∃ j, Fl j = some q ∧ (pre k).testBit j = true) ∧ ∀ i, i < all.length → q ∈ A i → (pre i).testBit k = true
  b2 : ∀ k, ((B k).map (·.1)).Nodup
  l1 : ∀ q, q ∈ AL → (∃ j, Fl j = some q) ∧ ∀ i, q ∉ A i
  l2 : (AL.map (·.1)).Nodup

section
variable {P : Program} {E : Env} {cal : Cal} {N : Nat} {all : List Oper} {pre : Nat → Nat} {act : Nat → Bool} {Fl : Nat → Option (Nat × SObj)} {A B : Nat → List (Nat × SObj)} {AL : List (Nat × SObj)} {F : Nat → T SV} {M : Nat → T SObj} {X : Nat → Nat} {v : Nat → SV} {want : Nat → Bool} {G : Nat → T SV}
def dstAt (all : List Oper) (k : Nat) : Option Tmp := (all[k]?).bind (·.dst)
omit [Orig] in
theorem Canon.fget (C : Canon P E cal N all pre act Fl A B AL F M X v want G) : ∀ (k : Nat), k ≤ all.length → ∀ d x, (F k).get d = some x →
    (∃ j, j < k ∧ dstAt all j = some d ∧ (∀ j', j < j' → j' < k → dstAt all j' ≠ some d) ∧ x = v j) ∨ ((∀ j, j < k → dstAt all j ≠ some d) ∧ (F 0).get d = some x)
  | 0, _, d, x, h => .inr ⟨fun j hj => by omega, h⟩
  | k + 1, hk, d, x, h => by
    have ho : all[k]? = some (all[k]'(by omega)) := List.getElem?_eq_getElem (by omega)
    have hf := C.d1 k _ ho
    have hd : dstAt all k = (all[k]'(by omega)).dst := by unfold dstAt; rw [ho]; rfl
    generalize all[k]'(by omega) = o at ho hf hd
    have step : dstAt all k ≠ some d → (F k).get d = some x → (∃ j, j < k + 1 ∧ dstAt all j = some d ∧ (∀ j', j < j' → j' < k + 1 → dstAt all j' ≠ some d) ∧ x = v j) ∨ ((∀ j, j < k + 1 → dstAt all j ≠ some d) ∧ (F 0).get d = some x) := by
      intro hne hg
      rcases C.fget k (by omega) d x hg with ⟨j, h1, h2, h3, h4⟩ | ⟨h1, h2⟩
      · refine .inl ⟨j, by omega, h2, fun j' a1 a2 => ?_, h4⟩
        rcases Nat.lt_or_ge j' k with h5 | h5
        · exact h3 j' a1 h5
        · obtain rfl : j' = k := by omega
          exact hne
      · refine .inr ⟨fun j hj => ?_, h2⟩
        rcases Nat.lt_or_ge j k with h5 | h5
        · exact h1 j h5
        · obtain rfl : j = k := by omega
          exact hne
    cases hdst : o.dst with
    | none =>
      rw [hdst] at hf hd
      have hF : F k = F (k + 1) := Option.some.inj hf
      refine step (by rw [hd]; simp) ?_
      rw [hF]
      exact h
    | some t =>
      rw [hdst] at hf hd
      obtain ⟨h1, h2⟩ := oi_eq.1 hf
      have h2 := Option.some.inj h2
      rw [← h2, T.get_put] at h
      by_cases ht : d = t
      · subst ht
        rw [if_pos rfl] at h
        cases h
        exact .inl ⟨k, by omega, hd, fun j' a1 a2 => by omega, rfl⟩
      · rw [if_neg ht] at h
        exact step (by rw [hd]; intro e; exact ht (Option.some.inj e).symm) h
omit [Orig] in
/-- a predecessor of what is listed, or ready, is listed. -/
theorem Canon.closed (C : Canon P E cal N all pre act Fl A B AL F M X v want G) {L : Nat → Prop} (down : ∀ k o, L k → all[k]? = some o → ∀ e ∈ o.after.toList, Region.binds .any e = true → L e.on) (lt : ∀ k, L k → k < all.length) :
    ∀ (b k : Nat) (o : Oper), k < b → all[k]? = some o → (∀ e ∈ o.after.toList, Region.binds .any e = true → L e.on) → ∀ j, (pre k).testBit j = true → L j
  | 0, k, o, hb, _, _, _, _ => by omega
  | b + 1, k, o, hb, ho, hall, j, hj => by
    obtain ⟨e, h1, h2, h3⟩ := C.s2 k o j ho hj
    have hL := hall e h1 h2
    rcases h3 with rfl | h3
    · exact hL
    · have hlt := C.s1 k o ho e h1 h2
      have ho' : all[e.on]? = some (all[e.on]'(lt _ hL)) := List.getElem?_eq_getElem _
      exact C.closed down lt b e.on _ (by omega) ho' (fun e' he' hb' => down e.on _ hL ho' e' he' hb') j h3
structure PInv (P : Program) (Fl : Nat → Option (Nat × SObj)) (A : Nat → List (Nat × SObj)) (M : Nat → T SObj) (X : Nat → Nat) (w0 : Base) (ρ : Pl) (c : Nat) (listed : Array Bool) (w : World) : Prop where
  fv : ∀ k b z, Fl k = some (b, z) → ¬ w0.rv b
  pd0 : ∀ k b z, Fl k = some (b, z) → listed.getD k false = false → ρ b = none ∧ b < X c
  pd1 : ∀ k b z, Fl k = some (b, z) → listed.getD k false = true → ∃ x, ρ b = some x
  pd2 : ∀ k b z, Fl k = some (b, z) → listed.getD k false = true → (∀ i, i < c → (b, z) ∉ A i) → ∀ x, ρ b = some x → ∃ ob, w.heap[x.1]? = some ob ∧ ObjRel P ρ x z ob ∧ ¬ w0.pr x.1 ∧ ∀ b' x', ((M c).get b').isSome = true → ρ b' = some x' → x'.1 ≠ x.1
  dist : ∀ k k' b z b' z' x x', Fl k = some (b, z) → Fl k' = some (b', z') → ρ b = some x → ρ b' = some x' → x.1 = x'.1 → k = k'
structure RInv (P : Program) (N : Nat) (all : List Oper) (act : Nat → Bool) (Fl : Nat → Option (Nat × SObj)) (A : Nat → List (Nat × SObj)) (F : Nat → T SV) (M : Nat → T SObj) (X : Nat → Nat) (v : Nat → SV) (w0 : Base) (D : List Deferred) (ρ : Pl) (c : Nat) (listed : Array Bool) (a : Act) (w : World) : Prop where
  size : listed.size = all.length
  down : ∀ k o, listed.getD k false = true → all[k]? = some o → ∀ e ∈ o.after.toList, Region.binds .any e = true → listed.getD e.on false = true
  cn : c ≤ all.length
  nrm : c = 0 ∨ act (c - 1) = true
  split_ : ∀ j, j < all.length → act j = true → (listed.getD j false = true ↔ j < c)
  emb : Emb P ρ (M c) (X c) w0 w
  t1 : ∀ k d, listed.getD k false = true → dstAt all k = some d → (∀ k', listed.getD k' false = true → k < k' → dstAt all k' ≠ some d) → ∃ u, a.tmps[d]? = some u ∧ den ρ (v k) = some u
  t2 : ∀ d x, (∀ k, listed.getD k false = true → dstAt all k ≠ some d) → (F 0).get d = some x → ∃ u, a.tmps[d]? = some u ∧ den ρ x = some u
  sz : a.tmps.size = N
  d : a.defers = D
  p : PInv P Fl A M X w0 ρ c listed w
omit [Orig] in
theorem getD_ltE {listed : Array Bool} {k : Nat} (h : listed.getD k false = true) : k < listed.size := by
  rcases Nat.lt_or_ge k listed.size with h' | h'
  · exact h'
  · simp [Array.getElem?_eq_none h'] at h
omit [Orig] in
theorem getD_two {listed : Array Bool} {k : Nat} (h : listed.getD k true = false) : k < listed.size ∧ listed.getD k false = false := by
  rcases Nat.lt_or_ge k listed.size with h' | h'
  · refine ⟨h', ?_⟩
    simp [h'] at h ⊢
    exact h
  · simp [Array.getElem?_eq_none h'] at h
omit [Orig] in
theorem apart3 {ops : Array Oper} {x y : Oper} (h : x.apart ops y = true) : (∀ d, x.dst = some d → d ∉ y.looksAt ops) ∧ (∀ d, x.dst = some d → y.dst ≠ some d) ∧ (∀ d, y.dst = some d → d ∉ x.looksAt ops) := Oper.apart_spec h
/-- the frame that an operation sees. -/
theorem Canon.sees (C : Canon P E cal N all pre act Fl A B AL F M X v want G) {w0 : Base} {w : World} {D : List Deferred} {ρ : Pl} {c : Nat} {listed : Array Bool} {a : Act} (I : RInv P N all act Fl A F M X v w0 D ρ c listed a w) {k : Nat} {o : Oper} (ho : all[k]? = some o) (hk : listed.getD k true = false)
    (hall : ∀ e ∈ o.after.toList, Region.binds .any e = true → listed.getD e.on false = true) : FRel ρ N (G k) a := by
  obtain ⟨hk1, hk2⟩ := getD_two hk
  rw [I.size] at hk1
  have lt : ∀ j, listed.getD j false = true → j < all.length := fun j hj => by rw [← I.size]; exact getD_ltE hj
  have cl := C.closed (L := fun j => listed.getD j false = true) I.down lt
  refine ⟨I.sz, fun d x hd => ?_⟩
  obtain ⟨h1, h2⟩ := C.d2 k o d x ho hd
  have late : ∀ k', listed.getD k' false = true → k < k' → dstAt all k' ≠ some d := by
    intro k' hl hlt hd'
    have hk' := lt k' hl
    have ho' : all[k']? = some (all[k']'hk') := List.getElem?_eq_getElem _
    have hd2 : (all[k']'hk').dst = some d := by unfold dstAt at hd'; rw [ho'] at hd'; exact hd'
    rcases C.s3 k k' o _ hlt ho ho' with hp | ⟨hp, -⟩
    · have := cl (k' + 1) k' _ (by omega) ho' (I.down k' _ hl ho') k hp
      rw [hk2] at this; cases this
    · exact (apart3 hp).2.2 d hd2 h1
  rcases C.fget k (by omega) d x h2 with ⟨j, a1, a2, a3, rfl⟩ | ⟨a1, a2⟩
  · have hj : j < all.length := by omega
    have hoj : all[j]? = some (all[j]'hj) := List.getElem?_eq_getElem _
    have hdj : (all[j]'hj).dst = some d := by unfold dstAt at a2; rw [hoj] at a2; exact a2
    have hL : listed.getD j false = true := by
      rcases C.s3 j k _ o a1 hoj ho with hp | ⟨hp, -⟩
      · exact cl (k + 1) k o (by omega) ho hall j hp
      · exact absurd h1 ((apart3 hp).1 d hdj)
    refine I.t1 j d hL a2 fun k' hl hlt => ?_
    rcases Nat.lt_trichotomy k' k with h | h | h
    · exact a3 k' hlt h
    · subst h; rw [hk2] at hl; cases hl
    · exact late k' hl h
  · refine I.t2 d x (fun k' hl => ?_) a2
    rcases Nat.lt_trichotomy k' k with h | h | h
    · exact a1 k' h
    · subst h; rw [hk2] at hl; cases hl
    · exact late k' hl h
/-- behind an operation. -/
theorem Canon.next (C : Canon P E cal N all pre act Fl A B AL F M X v want G) {w0 : Base} {w w' : World} {D : List Deferred} {ρ ρ' : Pl} {c c' : Nat} {listed : Array Bool} {a : Act} (I : RInv P N all act Fl A F M X v w0 D ρ c listed a w) {k : Nat} {o : Oper} (ho : all[k]? = some o) (hk : listed.getD k true = false)
    (hall : ∀ e ∈ o.after.toList, Region.binds .any e = true → listed.getD e.on false = true) (hle : Le ρ ρ') {u : Value} (hu : den ρ' (v k) = some u) (hem : Emb P ρ' (M c') (X c') w0 w') (hc' : (act k = true → c' = k + 1) ∧ (act k = false → c' = c)) (hp : PInv P Fl A M X w0 ρ' c' (listed.setIfInBounds k true) w') :
    RInv P N all act Fl A F M X v w0 D ρ' c' (listed.setIfInBounds k true) (a.put o.dst u) w' := by
  obtain ⟨hk1, hk2⟩ := getD_two hk
  rw [I.size] at hk1
  have lt : ∀ j, listed.getD j false = true → j < all.length := fun j hj => by rw [← I.size]; exact getD_ltE hj
  have cl := C.closed (L := fun j => listed.getD j false = true) I.down lt
  have hset : ∀ j, (listed.setIfInBounds k true).getD j false = true ↔ (j = k ∨ listed.getD j false = true) := by
    intro j
    by_cases e : k = j
    · subst e
      have : k < listed.size := by rw [I.size]; exact hk1
      simp [this]
    · rw [getD_set_ne false e]
      constructor
      · exact fun h => .inr h
      · rintro (h | h)
        · exact absurd h.symm e
        · exact h
  have hdk : dstAt all k = o.dst := by unfold dstAt; rw [ho]; rfl
  have uni : ∀ j, listed.getD j false = true → k < j → ∀ d, o.dst = some d → dstAt all j ≠ some d := by
    intro j hl hlt d hd hdj
    have hj := lt j hl
    have hoj : all[j]? = some (all[j]'hj) := List.getElem?_eq_getElem _
    rcases C.s3 k j o _ hlt ho hoj with hp | ⟨hp, -⟩
    · have := cl (j + 1) j _ (by omega) hoj (I.down j _ hl hoj) k hp
      rw [hk2] at this; cases this
    · have := (apart3 hp).2.1 d hd
      unfold dstAt at hdj
      rw [hoj] at hdj
      exact this hdj
  refine ⟨by simp [I.size], ?_, ?_, ?_, ?_, hem, ?_, ?_, ?_, ?_, hp⟩
  · intro j oj hj hoj e he hb
    rcases (hset j).1 hj with rfl | hj
    · rw [ho] at hoj
      cases hoj
      exact (hset _).2 (.inr (hall e he hb))
    · exact (hset _).2 (.inr (I.down j oj hj hoj e he hb))
  · cases ha : act k with
    | true => rw [hc'.1 ha]; omega
    | false => rw [hc'.2 ha]; exact I.cn
  · cases ha : act k with
    | true => right; rw [hc'.1 ha]; simpa using ha
    | false => rw [hc'.2 ha]; exact I.nrm
  · intro j hj hact
    rw [hset]
    cases ha : act k with
    | false =>
      rw [hc'.2 ha, ← I.split_ j hj hact]
      constructor
      · rintro (rfl | h)
        · rw [ha] at hact; cases hact
        · exact h
      · exact fun h => .inr h
    | true =>
      rw [hc'.1 ha]
      constructor
      · rintro (rfl | h)
        · omega
        · rcases Nat.lt_or_ge k j with hlt | hge
          · have hoj : all[j]? = some (all[j]'hj) := List.getElem?_eq_getElem _
            rcases C.s3 k j o _ hlt ho hoj with hp | ⟨-, hp⟩
            · have := cl (j + 1) j _ (by omega) hoj (I.down j _ h hoj) k hp
              rw [hk2] at this; cases this
            · exact absurd ⟨ha, hact⟩ hp
          · omega
      · intro h
        by_cases e : j = k
        · exact .inl e
        · have hlt : j < k := by omega
          have hoj : all[j]? = some (all[j]'hj) := List.getElem?_eq_getElem _
          rcases C.s3 j k _ o hlt hoj ho with hp | ⟨-, hp⟩
          · exact .inr (cl (k + 1) k o (by omega) ho hall j hp)
          · exact absurd ⟨hact, ha⟩ hp
  · intro j d hj hd hlast
    rcases (hset j).1 hj with rfl | hj2
    · rw [hdk] at hd
      have : o.dst = some d := hd
      have hi : d < a.tmps.size := by
        have := C.d1 j o ho
        rw [hd] at this
        obtain ⟨h1, -⟩ := oi_eq.1 this
        rw [I.sz]
        exact blt_true h1
      exact ⟨u, by rw [hd]; simp [Act.put, hi], hu⟩
    · by_cases e : o.dst = some d
      · exfalso
        rcases Nat.lt_trichotomy j k with h | h | h
        · exact hlast k ((hset k).2 (.inl rfl)) h (by rw [hdk]; exact e)
        · subst h; rw [hk2] at hj2; cases hj2
        · exact uni j hj2 h d e hd
      · obtain ⟨u', g1, g2⟩ := I.t1 j d hj2 hd (fun k' hl hlt => hlast k' ((hset k').2 (.inr hl)) hlt)
        refine ⟨u', ?_, den_mono hle _ g2⟩
        cases hdst : o.dst with
        | none => simpa [Act.put] using g1
        | some t =>
          have hne : t ≠ d := fun h => e (by rw [hdst, h])
          simp only [Act.put]
          rw [Array.getElem?_setIfInBounds_ne hne]
          exact g1
  · intro d x hnone hx
    have e : o.dst ≠ some d := by
      have := hnone k ((hset k).2 (.inl rfl))
      rwa [hdk] at this
    obtain ⟨u', g1, g2⟩ := I.t2 d x (fun k' hl => hnone k' ((hset k').2 (.inr hl))) hx
    refine ⟨u', ?_, den_mono hle _ g2⟩
    cases hdst : o.dst with
    | none => simpa [Act.put] using g1
    | some t =>
      have hne : t ≠ d := fun h => e (by rw [hdst, h])
      simp only [Act.put]
      rw [Array.getElem?_setIfInBounds_ne hne]
      exact g1
  · cases o.dst <;> simp [Act.put, I.sz]
  · rw [put_defers]; exact I.d
omit [Orig] in
theorem getD_set {listed : Array Bool} {k j : Nat} (hk : k < listed.size) : (listed.setIfInBounds k true).getD j false = true ↔ (j = k ∨ listed.getD j false = true) := by
  by_cases e : k = j
  · subst e
    simp [hk]
  · rw [getD_set_ne false e]
    constructor
    · exact fun h => .inr h
    · rintro (h | h)
      · exact absurd h.symm e
      · exact h
omit [Orig] in
theorem PInv.same {w0 : Base} {w : World} {ρ : Pl} {c c' : Nat} {listed : Array Bool} (I : PInv P Fl A M X w0 ρ c listed w) {k : Nat} (_hk : k < listed.size) (hF : Fl k = none) (hc : c ≤ c') (hM : M c' = M c) (hX : X c' = X c) : PInv P Fl A M X w0 ρ c' (listed.setIfInBounds k true) w := by
  have un : ∀ k1 q, Fl k1 = some q → (listed.setIfInBounds k true).getD k1 false = listed.getD k1 false := by
    intro k1 q h
    have hne : k ≠ k1 := fun e => by subst e; rw [hF] at h; cases h
    exact getD_set_ne false hne
  refine ⟨I.fv, fun k1 b z h1 h2 => ?_, fun k1 b z h1 h2 => ?_, fun k1 b z h1 h2 h3 x hx => ?_, I.dist⟩
  · rw [un k1 _ h1] at h2
    rw [hX]
    exact I.pd0 k1 b z h1 h2
  · rw [un k1 _ h1] at h2
    exact I.pd1 k1 b z h1 h2
  · rw [un k1 _ h1] at h2
    rw [hM]
    exact I.pd2 k1 b z h1 h2 (fun i hi => h3 i (by omega)) x hx
theorem PInv.float {w0 : Base} {w : World} {ρ : Pl} {c : Nat} {listed : Array Bool} (I : PInv P Fl A M X w0 ρ c listed w) (hem : Emb P ρ (M c) (X c) w0 w) (f2 : ∀ k k' b z z', Fl k = some (b, z) → Fl k' = some (b, z') → k = k') {k : Nat} (hk : k < listed.size) (hun : listed.getD k false = false) {b : Nat} {z : SObj} (hF : Fl k = some (b, z)) {ob : Obj} (hob : ∀ ρ, ObjRel P ρ (w.heap.size, 0) z ob) :
    Emb P (pset ρ b (w.heap.size, 0)) (M c) (X c) w0 (w.alloc ob) ∧ Le ρ (pset ρ b (w.heap.size, 0)) ∧ PInv P Fl A M X w0 (pset ρ b (w.heap.size, 0)) c (listed.setIfInBounds k true) (w.alloc ob) := by
  obtain ⟨h1, h2⟩ := I.pd0 k b z hF hun
  have hle : Le ρ (pset ρ b (w.heap.size, 0)) := pset_le _ h1
  have hsz : (w.alloc ob).heap.size = w.heap.size + 1 := by simp
  have same : ∀ c, c ≠ b → pset ρ b (w.heap.size, 0) c = ρ c := fun c hc => by rw [pset_at, if_neg hc]
  have other : ∀ k1 b1 z1, Fl k1 = some (b1, z1) → k1 ≠ k → b1 ≠ b := fun k1 b1 z1 g hne e => by subst e; exact hne (f2 k1 k _ _ _ g hF)
  have rep : ∀ b', ((M c).get b').isSome = true → b' ≠ b := by
    intro b' hb' e
    subst e
    obtain ⟨o, ho⟩ := Option.isSome_iff_exists.1 hb'
    obtain ⟨x, _, g1, _⟩ := hem.obj b' o ho
    rw [h1] at g1
    cases g1
  refine ⟨hem.floats h1 h2 (I.fv k b z hF) 0 ob, hle, I.fv, ?_, ?_, ?_, ?_⟩
  · intro k1 b1 z1 g1 g2
    have hne : k1 ≠ k := fun e => by
      have : (listed.setIfInBounds k true).getD k1 false = true := (getD_set hk).2 (.inl e)
      rw [this] at g2; cases g2
    rw [getD_set_ne false (Ne.symm hne)] at g2
    rw [same b1 (other k1 b1 z1 g1 hne)]
    exact I.pd0 k1 b1 z1 g1 g2
  · intro k1 b1 z1 g1 g2
    by_cases e : k1 = k
    · subst e
      rw [hF] at g1
      cases g1
      exact ⟨_, pset_same _ _ _⟩
    · rw [getD_set_ne false (Ne.symm e)] at g2
      obtain ⟨x, hx⟩ := I.pd1 k1 b1 z1 g1 g2
      exact ⟨x, hle _ _ hx⟩
  · intro k1 b1 z1 g1 g2 g3 x hx
    by_cases e : k1 = k
    · subst e
      rw [hF] at g1
      cases g1
      rw [pset_same] at hx
      cases hx
      refine ⟨ob, heap_alloc_new w ob, hob _, hem.touch.fresh, fun b' x' hb' hx' => ?_⟩
      rw [same b' (rep b' hb')] at hx'
      have := hem.old b' x' hx'
      show x'.1 ≠ w.heap.size
      omega
    · rw [getD_set_ne false (Ne.symm e)] at g2
      rw [same b1 (other k1 b1 z1 g1 e)] at hx
      obtain ⟨ob1, c1, c2, c3, c4⟩ := I.pd2 k1 b1 z1 g1 g2 g3 x hx
      refine ⟨ob1, (Below.heap_alloc w ob x.1 (hem.old _ x hx)).trans c1, c2.mono hle, c3, fun b' x' hb' hx' => ?_⟩
      rw [same b' (rep b' hb')] at hx'
      exact c4 b' x' hb' hx'
  · intro k1 k2 b1 z1 b2 z2 x1 x2 g1 g2 g3 g4 ge
    have key : ∀ k1 b1 z1 x1, Fl k1 = some (b1, z1) → pset ρ b (w.heap.size, 0) b1 = some x1 → (k1 = k ∧ x1.1 = w.heap.size) ∨ (ρ b1 = some x1 ∧ x1.1 < w.heap.size) := by
      intro k1 b1 z1 x1 g1 g3
      by_cases e : b1 = b
      · subst e
        rw [pset_same] at g3
        cases g3
        exact .inl ⟨f2 _ _ _ _ _ g1 hF, rfl⟩
      · rw [same b1 e] at g3
        exact .inr ⟨g3, hem.old _ _ g3⟩
    rcases key k1 b1 z1 x1 g1 g3 with ⟨a1, a2⟩ | ⟨a1, a2⟩ <;> rcases key k2 b2 z2 x2 g2 g4 with ⟨b1', b2'⟩ | ⟨b1', b2'⟩
    · rw [a1, b1']
    · omega
    · omega
    · exact I.dist _ _ _ _ _ _ _ _ g1 g2 a1 b1' ge
/-- the blocks that one list takes up. -/
theorem PInv.take {w0 : Base} {w : World} {ρ : Pl} {c : Nat} {listed : Array Bool} (I : PInv P Fl A M X w0 ρ c listed w) (hem : Emb P ρ (M c) (X c) w0 w) {L : List (Nat × SObj)} (h1 : ∀ q ∈ L, ∃ j, Fl j = some q ∧ listed.getD j false = true ∧ ∀ i, i < c → q ∉ A i) (h2 : (L.map (·.1)).Nodup) :
    Emb P ρ (adM L (M c)) (X c) w0 w ∧ ∀ b', ((adM L (M c)).get b').isSome = true → ((M c).get b').isSome = true ∨ ∃ q ∈ L, b' = q.1 := by
  refine adM_ok hem ?_ ?_
  · intro q hq
    obtain ⟨j, g1, g2, g3⟩ := h1 q hq
    obtain ⟨x, hx⟩ := I.pd1 j q.1 q.2 g1 g2
    obtain ⟨ob, c1, c2, c3, c4⟩ := I.pd2 j q.1 q.2 g1 g2 g3 x hx
    exact ⟨x, ob, hx, c1, c2, c3, c4⟩
  · have h2' : L.Pairwise fun p q => p.1 ≠ q.1 := by
      have := h2
      unfold List.Nodup at this
      rw [List.pairwise_map] at this
      exact this
    refine List.Pairwise.imp_of_mem ?_ h2'
    intro p q hp hq hne x y hx hy e
    obtain ⟨j, g1, -, -⟩ := h1 p hp
    obtain ⟨j', g1', -, -⟩ := h1 q hq
    have := I.dist j j' p.1 p.2 q.1 q.2 x y g1 g1' hx hy e
    subst this
    rw [g1] at g1'
    cases g1'
    exact hne rfl
/-- an operation that turns memory, while blocks float. -/
theorem PInv.acts {w0 : Base} {w : World} {ρ : Pl} {c : Nat} {listed : Array Bool} (I : PInv P Fl A M X w0 ρ c listed w) (hem : Emb P ρ (M c) (X c) w0 w) {k : Nat} (_hk : k < listed.size) (hF : Fl k = none) (hck : c ≤ k)
    (h1 : ∀ q ∈ A k, ∃ j, Fl j = some q ∧ listed.getD j false = true ∧ ∀ i, i < c → q ∉ A i) (h2 : ((A k).map (·.1)).Nodup) :
    ∃ pr rv, Emb P ρ (adM (A k) (M c)) (X c) ⟨w, pr, rv⟩ w ∧ ∀ ρ' w', Le ρ ρ' → Emb P ρ' (M (k + 1)) (X (k + 1)) ⟨w, pr, rv⟩ w' → Emb P ρ' (M (k + 1)) (X (k + 1)) w0 w' ∧ PInv P Fl A M X w0 ρ' (k + 1) (listed.setIfInBounds k true) w' := by
  obtain ⟨t1, t2⟩ := I.take hem h1 h2
  have un : ∀ k1 q, Fl k1 = some q → (listed.setIfInBounds k true).getD k1 false = listed.getD k1 false := by
    intro k1 q h
    have hne : k ≠ k1 := fun e => by subst e; rw [hF] at h; cases h
    exact getD_set_ne false hne
  have pend : ∀ q : Nat × SObj, (∀ i, i < k + 1 → q ∉ A i) → ∀ i, i < c → q ∉ A i := fun q h i hi => h i (by omega)
  let pr : Nat → Prop := fun h => w0.pr h ∨ ∃ k1 b z x, Fl k1 = some (b, z) ∧ listed.getD k1 false = true ∧ (∀ i, i < k + 1 → (b, z) ∉ A i) ∧ ρ b = some x ∧ x.1 = h
  let rv : Nat → Prop := fun b => w0.rv b ∨ ∃ k1 z, Fl k1 = some (b, z) ∧ listed.getD k1 false = false
  refine ⟨pr, rv, t1.rebase pr rv ?_ ?_ ?_ (fun j hj => .inl hj), ?_⟩
  · rintro h (h | ⟨k1, b, z, x, -, -, -, hx, rfl⟩)
    · have := (hem.touch.block _ h).1
      have := hem.touch.size
      omega
    · exact hem.old b x hx
  · rintro b x hb hx (h | ⟨k1, b1, z1, x1, g1, g2, g3, g4, g5⟩)
    · obtain ⟨o, ho⟩ := Option.isSome_iff_exists.1 hb
      obtain ⟨x', _, e1, e2, -, -⟩ := t1.obj b o ho
      rw [hx] at e1
      cases e1
      exact e2 h
    · rcases t2 b hb with h3 | ⟨q, hq, rfl⟩
      · obtain ⟨ob, -, -, -, c4⟩ := I.pd2 k1 b1 z1 g1 g2 (pend _ g3) x1 g4
        exact c4 b x h3 hx g5.symm
      · obtain ⟨j, j1, j2, j3⟩ := h1 q hq
        have := I.dist j k1 q.1 q.2 b1 z1 x x1 j1 g1 hx g4 g5.symm
        subst this
        rw [j1] at g1
        cases g1
        exact g3 k (by omega) hq
  · rintro b (h | ⟨k1, z, g1, g2⟩)
    · exact hem.hole b h
    · exact (I.pd0 k1 b z g1 g2).symm
  · intro ρ' w' hle hem'
    have hem0 := hem'.unbase hem.touch (fun j hj => .inl hj) (fun j hj => .inl hj) hem.x.org
    have back : ∀ k1 b z x, Fl k1 = some (b, z) → ρ' b = some x → listed.getD k1 false = true ∧ ρ b = some x := by
      intro k1 b z x g1 g2
      cases hl : listed.getD k1 false with
      | false =>
        have := (hem'.hole b (.inr ⟨k1, z, g1, hl⟩)).2
        rw [this] at g2; cases g2
      | true =>
        obtain ⟨y, hy⟩ := I.pd1 k1 b z g1 hl
        have := hle _ _ hy
        rw [this] at g2
        cases g2
        exact ⟨rfl, hy⟩
    refine ⟨hem0, I.fv, ?_, ?_, ?_, ?_⟩
    · intro k1 b z g1 g2
      rw [un k1 _ g1] at g2
      exact (hem'.hole b (.inr ⟨k1, z, g1, g2⟩)).symm
    · intro k1 b z g1 g2
      rw [un k1 _ g1] at g2
      obtain ⟨x, hx⟩ := I.pd1 k1 b z g1 g2
      exact ⟨x, hle _ _ hx⟩
    · intro k1 b z g1 g2 g3 x hx
      obtain ⟨b1, b2⟩ := back k1 b z x g1 hx
      obtain ⟨ob, c1, c2, c3, c4⟩ := I.pd2 k1 b z g1 b1 (pend _ g3) x b2
      have hpr : pr x.1 := .inr ⟨k1, b, z, x, g1, b1, g3, b2, rfl⟩
      refine ⟨ob, (hem'.touch.block x.1 hpr).2.trans c1, c2.mono hle, c3, fun b' x' hb' hx' e => ?_⟩
      obtain ⟨o, ho⟩ := Option.isSome_iff_exists.1 hb'
      obtain ⟨x2, _, e1, e2, -, -⟩ := hem'.obj b' o ho
      rw [hx'] at e1
      cases e1
      exact e2 (e ▸ hpr)
    · intro k1 k2 b1 z1 b2 z2 x1 x2 g1 g2 g3 g4 ge
      exact I.dist k1 k2 b1 z1 b2 z2 x1 x2 g1 g2 (back _ _ _ _ g1 g3).2 (back _ _ _ _ g2 g4).2 ge
end
end Go.Proofs.YtodehmognjofhaaGreat

namespace Go.Proofs.YtodehmognjofhaaGreat
open Go.RowKit

variable [Orig]
section
variable {P : Program} {E : Env} {cal : Cal} {N : Nat} {all : List Oper} {pre : Nat → Nat} {act : Nat → Bool} {Fl : Nat → Option (Nat × SObj)} {A B : Nat → List (Nat × SObj)} {AL : List (Nat × SObj)} {F : Nat → T SV} {M : Nat → T SObj} {X : Nat → Nat} {v : Nat → SV} {want : Nat → Bool} {G : Nat → T SV}
omit [Orig] in
theorem Canon.const (C : Canon P E cal N all pre act Fl A B AL F M X v want G) (a : Nat) : ∀ b, a ≤ b → b ≤ all.length → (∀ j, a ≤ j → j < b → act j = false) → M b = M a ∧ X b = X a
  | 0, h, _, _ => by obtain rfl : a = 0 := by omega
                     exact ⟨rfl, rfl⟩
  | b + 1, h, hb, hn => by
    rcases Nat.lt_or_ge b a with h1 | h1
    · obtain rfl : a = b + 1 := by omega
      exact ⟨rfl, rfl⟩
    · obtain ⟨h2, h3⟩ := C.const a b h1 (by omega) (fun j x y => hn j x (by omega))
      obtain ⟨h4, h5⟩ := C.d6 b _ (List.getElem?_eq_getElem (by omega)) (hn b h1 (by omega))
      exact ⟨h4.trans h2, h5.trans h3⟩
def cnt (n : Nat) (listed : Array Bool) : Nat := ((List.range n).filter fun j => !listed.getD j false).length
omit [Orig] in
theorem cnt_set {n k : Nat} {listed : Array Bool} (hk : k < n) (h : listed.getD k false = false) (hs : k < listed.size) : cnt n (listed.setIfInBounds k true) < cnt n listed := by
  unfold cnt
  have e : ((List.range n).filter fun j => !(listed.setIfInBounds k true).getD j false) = ((List.range n).filter fun j => !listed.getD j false).filter fun j => decide (j ≠ k) := by
    rw [List.filter_filter]
    apply List.filter_congr
    intro j _
    by_cases e : k = j
    · subst e
      simp [hs]
    · rw [getD_set_ne false e]
      have : j ≠ k := fun h => e h.symm
      simp [this]
  rw [e, List.length_filter_lt_length_iff_exists]
  refine ⟨k, ?_, by simp⟩
  rw [List.mem_filter]
  exact ⟨List.mem_range.2 hk, by rw [h]; rfl⟩
omit [Orig] in
theorem cnt_zero {n : Nat} {listed : Array Bool} (h : cnt n listed = 0) : ∀ k, k < n → listed.getD k false = true := by
  intro k hk
  have h1 := List.eq_nil_of_length_eq_zero h
  rw [List.filter_eq_nil_iff] at h1
  have := h1 k (List.mem_range.2 hk)
  simpa using this
theorem Canon.ends (C : Canon P E cal N all pre act Fl A B AL F M X v want G) {w0 : Base} {w : World} {D : List Deferred} {ρ : Pl} {c : Nat} {listed : Array Bool} {a : Act} (I : RInv P N all act Fl A F M X v w0 D ρ c listed a w) (h : ∀ k, k < all.length → listed.getD k false = true) :
    Rel P ρ N ⟨F all.length, adM AL (M all.length), X all.length⟩ D a w0 w := by
  refine ⟨⟨I.sz, fun d x hd => ?_⟩, ?_, I.d⟩
  · rcases C.fget all.length (Nat.le_refl _) d x hd with ⟨j, a1, a2, a3, rfl⟩ | ⟨a1, a2⟩
    · exact I.t1 j d (h j a1) a2 fun k' hl hlt => a3 k' hlt (by rw [← I.size]; exact getD_ltE hl)
    · exact I.t2 d x (fun k' hl => a1 k' (by rw [← I.size]; exact getD_ltE hl)) a2
  · obtain ⟨h1, h2⟩ := C.const c all.length I.cn (Nat.le_refl _) (fun j x y => by
      cases ha : act j with
      | false => rfl
      | true => exact absurd ((I.split_ j y ha).1 (h j y)) (by omega))
    have := (I.p.take I.emb (L := AL) (fun q hq => by
      obtain ⟨⟨j, g1⟩, g2⟩ := C.l1 q hq
      exact ⟨j, g1, h j (C.f3 j q g1), fun i _ => g2 i⟩) C.l2).1
    show Emb P ρ (adM AL (M all.length)) (X all.length) w0 w
    rw [h1, h2]
    exact this
theorem Canon.any (C : Canon P E cal N all pre act Fl A B AL F M X v want G) (hE : EnvOk P E) (hcal : CalOk P cal) {r : Option Nat} {w0 : Base} {D : List Deferred} {ρ0 : Pl} {Q : Exit → Act → World → Prop} (hQ : ∀ ρ' a' w', Le ρ0 ρ' → Rel P ρ' N ⟨F all.length, adM AL (M all.length), X all.length⟩ D a' w0 w' → Q .normal a' w') :
    ∀ (fuel : Nat) (listed : Array Bool) (ρ : Pl) (c : Nat) (a : Act) (w : World), RInv P N all act Fl A F M X v w0 D ρ c listed a w → Le ρ0 ρ → cnt all.length listed ≤ fuel → wpAnyIn (FW r) 0 P .any all.toArray Q fuel listed a w := by
  have done : ∀ (listed : Array Bool) (ρ : Pl) (c : Nat) (a : Act) (w : World), RInv P N all act Fl A F M X v w0 D ρ c listed a w → Le ρ0 ρ → (∀ k, k < all.length → listed.getD k false = true) → Q .normal a w := fun listed ρ c a w I hle h => hQ ρ a w hle (C.ends I h)
  intro fuel
  induction fuel with
  | zero =>
    intro listed ρ c a w I hle hc
    have hall := cnt_zero (Nat.le_zero.1 hc)
    refine ⟨?_, done listed ρ c a w I hle hall⟩
    rw [List.eq_nil_iff_forall_not_mem]
    intro k hk
    obtain ⟨h0, o, ho, -⟩ := mem_ready.1 hk
    obtain ⟨h1, h2⟩ := getD_two h0
    rw [hall k (by rw [← I.size]; exact h1)] at h2
    cases h2
  | succ fuel ih =>
    intro listed ρ c a w I hle hc
    refine ⟨fun hr => done listed ρ c a w I hle ?_, fun k hk => ?_⟩
    · have : ∀ b k, k < b → k < all.length → listed.getD k false = true := by
        intro b
        induction b with
        | zero => intro k hk; omega
        | succ b ihb =>
          intro k hkb hkn
          cases hl : listed.getD k false with
          | true => rfl
          | false =>
            exfalso
            have hks : k < listed.size := by rw [I.size]; exact hkn
            have hm : k ∈ Region.ready .any all.toArray listed := by
              refine mem_ready.2 ⟨by simp [hks] at hl ⊢; exact hl, all[k]'hkn, by simp [hkn], fun e he hb => ?_⟩
              have hlt := C.s1 k _ (List.getElem?_eq_getElem hkn) e (by simpa using he) hb
              exact ihb e.on (by omega) (by omega)
            rw [hr] at hm
            cases hm
      exact fun k hk => this (k + 1) k (by omega) hk
    · obtain ⟨h0, o, ho', hall'⟩ := mem_ready.1 hk
      have ho : all[k]? = some o := by simpa using ho'
      have hall : ∀ e ∈ o.after.toList, Region.binds .any e = true → listed.getD e.on false = true := fun e he hb => hall' e (by simpa using he) hb
      obtain ⟨hk1, hk2⟩ := getD_two h0
      have hkn : k < all.length := by rw [← I.size]; exact hk1
      have lt : ∀ j, listed.getD j false = true → j < all.length := fun j hj => by rw [← I.size]; exact getD_ltE hj
      have cl := C.closed (L := fun j => listed.getD j false = true) I.down lt
      have see := C.sees I ho h0 hall
      have hw := wantE_ok see (C.d3 k o ho)
      have hcn : cnt all.length (listed.setIfInBounds k true) ≤ fuel := by have := cnt_set hkn hk2 hk1; omega
      -- the memory at an active operation is the canonical one
      have mact : act k = true → c ≤ k ∧ M k = M c ∧ X k = X c := by
        intro ha
        have above : ∀ j, k ≤ j → j < all.length → act j = true → ¬ j < c := by
          intro j hj hjn haj hjc
          have hl := (I.split_ j hjn haj).2 hjc
          by_cases e : j = k
          · subst e; rw [hk2] at hl; cases hl
          · have hoj : all[j]? = some (all[j]'hjn) := List.getElem?_eq_getElem _
            rcases C.s3 k j o _ (by omega) ho hoj with hp | ⟨-, hp⟩
            · have := cl (j + 1) j _ (by omega) hoj (I.down j _ hl hoj) k hp
              rw [hk2] at this; cases this
            · exact absurd ⟨ha, haj⟩ hp
        have below : ∀ j, j < k → act j = true → j < c := by
          intro j hj haj
          have hoj : all[j]? = some (all[j]'(by omega)) := List.getElem?_eq_getElem _
          rcases C.s3 j k _ o hj hoj ho with hp | ⟨-, hp⟩
          · exact (I.split_ j (by omega) haj).1 (cl (k + 1) k o (by omega) ho hall j hp)
          · exact absurd ⟨haj, ha⟩ hp
        have hck : c ≤ k := by
          rcases Nat.lt_or_ge k c with h | h
          · rcases I.nrm with h0 | h0
            · omega
            · exact absurd (by omega) (above (c - 1) (by omega) (by have := I.cn; omega) h0)
          · exact h
        refine ⟨hck, C.const c k hck (by omega) (fun j x y => by
          cases haj : act j with
          | false => rfl
          | true => have := below j y haj; omega)⟩
      unfold wpOpIn
      simp only [ho']
      rw [hw]
      cases hwk : want k with
      | false =>
        rw [if_neg (by simp)]
        obtain ⟨d1, d2, d3⟩ := C.d4 k o ho hwk
        have hFk : Fl k = none := by
          cases hf : Fl k with
          | none => rfl
          | some q => have := (C.f1 k o q.1 q.2 ho hf).2.1; rw [hwk] at this; cases this
        cases ha : act k with
        | true =>
          obtain ⟨m0, m1, m2⟩ := mact ha
          refine ⟨fun _ _ => trivial, ih _ ρ (k + 1) _ w (C.next I ho h0 hall (Le.refl ρ) (by rw [d1]; exact den_undef ρ) (c' := k + 1) ?_ ⟨fun _ => rfl, fun h => (by rw [ha] at h; cases h)⟩ (I.p.same hk1 hFk (by omega) (d2.trans m1) (d3.trans m2))) hle hcn⟩
          rw [d2, d3, m1, m2]
          exact I.emb
        | false =>
          exact ⟨fun _ _ => trivial, ih _ ρ c _ w (C.next I ho h0 hall (Le.refl ρ) (by rw [d1]; exact den_undef ρ) I.emb ⟨fun h => (by rw [ha] at h; cases h), fun _ => rfl⟩ (I.p.same hk1 hFk (Nat.le_refl c) rfl rfl)) hle hcn⟩
      | true =>
        rw [if_pos rfl]
        cases ha : act k with
        | true =>
          obtain ⟨m0, m1, m2⟩ := mact ha
          have hv := C.d5 k o ho hwk ha
          rw [m1, m2] at hv
          have hFk : Fl k = none := by
            cases hf : Fl k with
            | none => rfl
            | some q => have := (C.f1 k o q.1 q.2 ho hf).1; rw [ha] at this; cases this
          obtain ⟨pr, rv, e1, e2⟩ := I.p.acts I.emb hk1 hFk m0 (fun q hq => by
            obtain ⟨-, -, j, g1, g2⟩ := C.a1 k q hq
            refine ⟨j, g1, cl (k + 1) k o (by omega) ho hall j g2, fun i hi hq2 => ?_⟩
            have := C.a2 i k q hq2 hq
            omega) (C.a3 k)
          refine valE_ok hE hcal (s := ⟨G k, adM (A k) (M c), X c⟩) (D := D) ⟨see, e1, I.d⟩ hv ?_
          intro ρ' u w' k1 k2 k3
          obtain ⟨e3, e4⟩ := e2 ρ' w' k1 k3
          exact ih _ ρ' (k + 1) _ w' (C.next I ho h0 hall k1 k2 e3 ⟨fun _ => rfl, fun h => (by rw [ha] at h; cases h)⟩ e4) (hle.trans k1) hcn
        | false =>
          cases hf : Fl k with
          | none =>
            have hv := C.d7 k o c ho hwk ha I.cn I.nrm (fun j hj haj hjc => by
              cases hb : (pre j).testBit k with
              | false => rfl
              | true =>
                have hoj : all[j]? = some (all[j]'hj) := List.getElem?_eq_getElem _
                have hl := (I.split_ j hj haj).2 hjc
                have := cl (j + 1) j _ (by omega) hoj (I.down j _ hl hoj) k hb
                rw [hk2] at this; cases this) (fun j hj haj hjc => by
              cases hb : (pre k).testBit j with
              | false => rfl
              | true =>
                have := (I.split_ j hj haj).1 (cl (k + 1) k o (by omega) ho hall j hb)
                omega) hf
            have eB := (I.p.take I.emb (L := B k) (fun q hq => by
              obtain ⟨⟨j, g1, g2⟩, g3⟩ := C.b1 k o q ho hwk ha hf hq
              refine ⟨j, g1, cl (k + 1) k o (by omega) ho hall j g2, fun i hi hqi => ?_⟩
              have hin : i < all.length := by have := I.cn; omega
              have hli := (I.split_ i hin (C.a1 i q hqi).1).2 hi
              have hoi : all[i]? = some (all[i]'hin) := List.getElem?_eq_getElem _
              have := cl (i + 1) i _ (by omega) hoi (I.down i _ hli hoi) k (g3 i hin hqi)
              rw [hk2] at this; cases this) (C.b2 k)).1
            obtain ⟨u, h1, h2⟩ := evP_ok hE eB see hv
            refine ⟨fun _ _ => trivial, ?_⟩
            rw [Oper.semAt_eq _ _ _ (nd_P hv), h1]
            exact ih _ ρ c _ w (C.next I ho h0 hall (Le.refl ρ) h2 I.emb ⟨fun h => (by rw [ha] at h; cases h), fun _ => rfl⟩ (I.p.same hk1 hf (Nat.le_refl c) rfl rfl)) hle hcn
          | some q =>
            obtain ⟨b, z⟩ := q
            obtain ⟨-, -, nd, al⟩ := C.f1 k o b z ho hf
            obtain ⟨ob, u, r1, r2, r3⟩ := al ρ a w see
            obtain ⟨e1, e2, e3⟩ := I.p.float I.emb C.f2 hk1 hk2 hf r2
            refine ⟨fun _ _ => trivial, ?_⟩
            rw [Oper.semAt_eq _ _ _ nd, r1]
            exact ih _ _ c _ _ (C.next I ho h0 hall e2 (r3 _ (pset_same _ _ _)) e1 ⟨fun h => (by rw [ha] at h; cases h), fun _ => rfl⟩ e3) (hle.trans e2) hcn
omit [Orig] in
theorem rep_false (m j : Nat) : (Array.replicate m false).getD j false = false := by
  rcases Nat.lt_or_ge j m with h | h
  · simp [h]
  · simp [h]
theorem Canon.wp (C : Canon P E cal N all pre act Fl A B AL F M X v want G) (hE : EnvOk P E) (hcal : CalOk P cal) {r : Option Nat} {w0 : Base} {w : World} {D : List Deferred} {ρ : Pl} {a : Act} {id : Nat} (h : Rel P ρ N ⟨F 0, M 0, X 0⟩ D a w0 w) (hfl : ∀ k b z, Fl k = some (b, z) → ρ b = none ∧ b < X 0 ∧ ¬ w0.rv b) {Q : Exit → Act → World → Prop} (hQ : ∀ ρ' a' w', Le ρ ρ' → Rel P ρ' N ⟨F all.length, adM AL (M all.length), X all.length⟩ D a' w0 w' → Q .normal a' w') :
    (Code.region id all.toArray true).wpIn (FW r) 0 P Q a w := by
  refine wpIn_region_any hE.mixed ?_
  refine C.any hE hcal hQ _ _ ρ 0 a _ ⟨by simp, fun k o hk => ?_, Nat.zero_le _, .inl rfl, fun j hj _ => ?_, h.m.drew', fun k d hk => ?_, fun d x _ hx => h.F.at_ d x hx, h.F.size, h.d,
    ⟨fun k b z hk => (hfl k b z hk).2.2, fun k b z hk _ => ⟨(hfl k b z hk).1, (hfl k b z hk).2.1⟩, fun k b z _ hl => (by rw [rep_false] at hl; cases hl), fun k b z _ hl => (by rw [rep_false] at hl; cases hl), fun k k' b z b' z' x x' hk _ hx => (by rw [(hfl k b z hk).1] at hx; cases hx)⟩⟩ (Le.refl ρ) ?_
  · rw [rep_false] at hk; cases hk
  · rw [rep_false]; simp
  · rw [rep_false] at hk; cases hk
  · unfold cnt
    refine Nat.le_trans (List.length_filter_le _ _) ?_
    simp
end
end Go.Proofs.YtodehmognjofhaaGreat
