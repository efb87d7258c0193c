/-
  A run by the kernel: slices, literals, conversions.
-/
import Derived.Test.YteblflebjhncbaaGreatDoorE6
import Derived.Laws.BytesString
namespace Go.Proofs.YteblflebjhncbaaGreatDoor
open Go.RowKit

theorem slicedAddr (p o j : Nat) (c : Prop) [Decidable c] : (if c then (some (⟨p, o, none⟩ : Addr)) else (some (⟨p, o, none⟩ : Addr)).map (·.add j)) = some ⟨p, if c then o else o + j, none⟩ := by
  split
  · rfl
  · simp [Addr.add_lit]
theorem slicedAddr' (p o j : Nat) (c : Prop) [Decidable c] : (some (if c then (⟨p, o, none⟩ : Addr) else (⟨p, o, none⟩ : Addr).add j)) = some ⟨p, if c then o else o + j, none⟩ := by
  split
  · rfl
  · simp [Addr.add_lit]
noncomputable def offE (o l m s : Nat) : Nat := Bool.rec (motive := fun _ => Nat) (Nat.add o (Nat.mul l s)) o (Nat.beq m l)
theorem offE_ok (o l m s : Nat) : offE o l m s = if m = l then o else o + l * s := by
  unfold offE
  by_cases h : m = l
  · subst h; rw [nbeq_iff.2 rfl, if_pos rfl]
  · rw [nbeq h, if_neg h]; rfl
/-- x[lo:hi:mx]. -/
noncomputable def slE (E : Env) (t : TypeId) (v : SV) (lo hi mx : Option SV) : Option SV := ob (und E t) fun d => match d, v with
  | .array n e, .ptr b o => ob (bndE n n lo hi mx) fun x => ob (szE E e) fun s => some (.slc b (offE o x.1 x.2.2 s) (Nat.sub x.2.1 x.1) (Nat.sub x.2.2 x.1))
  | .pointer a, .ptr b o => ob (und E a) fun d' => match d' with
    | .array n e => ob (bndE n n lo hi mx) fun x => ob (szE E e) fun s => some (.slc b (offE o x.1 x.2.2 s) (Nat.sub x.2.1 x.1) (Nat.sub x.2.2 x.1))
    | _ => none
  | .slice e, .slc b o n c => ob (bndE n c lo hi mx) fun x => ob (szE E e) fun s => some (.slc b (offE o x.1 x.2.2 s) (Nat.sub x.2.1 x.1) (Nat.sub x.2.2 x.1))
  | .slice e, .nslc => ob (bndE 0 0 lo hi mx) fun _ => ob (szE E e) fun _ => some .nslc
  | .slice e, .slu b o n k => ob (bndE n n lo hi mx) fun x => ob (szE E e) fun s => match mx with
    | some _ => some (.slc b (offE o x.1 x.2.2 s) (Nat.sub x.2.1 x.1) (Nat.sub x.2.2 x.1))
    | none => oi (or (Nat.beq x.1 0) (Nat.blt x.1 n)) (oi (Nat.ble x.1 x.2.1) (some (.slu b (Nat.add o (Nat.mul x.1 s)) (Nat.sub x.2.1 x.1) (Nat.add k x.1))))
  | .string, .str l => match mx with
    | some _ => none
    | none => ob (bndE (len l) (len l) lo hi none) fun x => oi (Nat.ble x.1 x.2.1) (some (.str (tk (Nat.sub x.2.1 x.1) (drp x.1 l))))
  | _, _ => none
theorem bytesOf_extract (l : List Nat) (a b : Nat) : (bytesOf l).extract a b = bytesOf ((l.drop a).take (b - a)) := by
  apply ByteArray.ext
  simp [bytesOf, List.extract_eq_take_drop, List.map_take, List.map_drop]
theorem slE_ok {P : Program} {E : Env} (hE : EnvOk P E) {ρ : Pl} {t : TypeId} {v r : SV} {u0 : Value} {lo hi mx : Option SV} {lo' hi' mx' : Option Value} (e : slE E t v lo hi mx = some r) (h : den ρ v = some u0)
    (h1 : denO ρ lo lo') (h2 : denO ρ hi hi') (h3 : denO ρ mx mx') (w : World) :
    ∃ u, (Instr.sliceAt t u0 lo' hi' mx').run P w = .ok u w ∧ den ρ r = some u := by
  have hmx : mx'.isSome = mx.isSome := by cases mx <;> cases mx' <;> first | rfl | exact h3.elim
  obtain ⟨d, e1, e2⟩ := ob_eq.1 e
  have hu := und_ok hE e1
  split at e2
  · rename_i n el b o
    obtain ⟨⟨l, hh, m⟩, e3, e4⟩ := ob_eq.1 e2
    obtain ⟨s, e5, e6⟩ := ob_eq.1 e4
    cases e6
    obtain ⟨x, a1, rfl⟩ := den_ptr h
    obtain ⟨b1, -, -, -, -, b6, b7⟩ := bndE_ok (P := P) e3 h1 h2 h3 (Nat.le_refl n) false w
    have hm : (if mx.isSome = true then m else n) = m := by
      split
      · rfl
      · rename_i hs; exact (b7 (by simpa using hs)).symm
    rw [hm] at b1
    refine ⟨_, ?_, den_slc_mk a1 _ _ _⟩
    simp only [Instr.sliceAt, Sem.run_bind, run_underlying hu w, Result.andThen_ok, Instr.sureAddr, Sem.run_pure, b1, (szE_ok hE e5 w).1]
    rw [slicedAddr', offE_ok]
    rfl
  · rename_i at_ b o
    obtain ⟨d', e7, e8⟩ := ob_eq.1 e2
    split at e8
    · rename_i n el
      obtain ⟨⟨l, hh, m⟩, e3, e4⟩ := ob_eq.1 e8
      obtain ⟨s, e5, e6⟩ := ob_eq.1 e4
      cases e6
      obtain ⟨x, a1, rfl⟩ := den_ptr h
      obtain ⟨b1, -, -, -, -, b6, b7⟩ := bndE_ok (P := P) e3 h1 h2 h3 (Nat.le_refl n) false w
      have hm : (if mx.isSome = true then m else n) = m := by
        split
        · rfl
        · rename_i hs; exact (b7 (by simpa using hs)).symm
      rw [hm] at b1
      refine ⟨_, ?_, den_slc_mk a1 _ _ _⟩
      simp only [Instr.sliceAt, Instr.slice, Sem.run_bind, run_underlying hu w, run_underlying (und_ok hE e7) w, Result.andThen_ok, asAddr, Sem.run_pure, b1, (szE_ok hE e5 w).1]
      rw [slicedAddr', offE_ok]
      rfl
    · cases e8
  · rename_i el b o n c
    obtain ⟨⟨l, hh, m⟩, e3, e4⟩ := ob_eq.1 e2
    obtain ⟨s, e5, e6⟩ := ob_eq.1 e4
    cases e6
    obtain ⟨x, a1, rfl⟩ := den_slc h
    obtain ⟨b1, -, -, -, -, b6, b7⟩ := bndE_ok (P := P) e3 h1 h2 h3 (Nat.le_refl c) true w
    have hm : (if mx.isSome = true then m else c) = m := by
      split
      · rfl
      · rename_i hs; exact (b7 (by simpa using hs)).symm
    rw [hm] at b1
    refine ⟨_, ?_, den_slc_mk a1 _ _ _⟩
    simp only [Instr.sliceAt, Instr.slice, Sem.run_bind, run_underlying hu w, Result.andThen_ok, Sem.run_pure, b1, (szE_ok hE e5 w).1]
    rw [slicedAddr, offE_ok]
    rfl
  · rename_i el
    obtain ⟨⟨l, hh, m⟩, e3, e4⟩ := ob_eq.1 e2
    obtain ⟨s, e5, e6⟩ := ob_eq.1 e4
    cases e6
    rw [den_nslc] at h
    cases h
    obtain ⟨b1, b2, b3, b4, b5, b6, b7⟩ := bndE_ok (P := P) e3 h1 h2 h3 (Nat.le_refl 0) true w
    obtain rfl : m = 0 := by omega
    have hh0 : hh = 0 := by
      cases hi with
      | none => exact b5 rfl
      | some _ => have := b4 rfl; omega
    subst hh0
    have hl0 : l = 0 := by
      cases lo with
      | none => exact b3 rfl
      | some _ => have := b2 rfl; omega
    subst hl0
    have hm : (if mx.isSome = true then 0 else 0) = 0 := by split <;> rfl
    rw [hm] at b1
    refine ⟨_, ?_, den_nslc ρ⟩
    simp only [Instr.sliceAt, Instr.slice, Sem.run_bind, run_underlying hu w, Result.andThen_ok, Sem.run_pure, b1, (szE_ok hE e5 w).1]
    rfl
  · rename_i el b o n k
    obtain ⟨⟨l, hh, m⟩, e3, e4⟩ := ob_eq.1 e2
    obtain ⟨s, e5, e6⟩ := ob_eq.1 e4
    obtain ⟨x, a1, a2, rfl⟩ := den_slu h
    obtain ⟨b1, b2, b3, b4, b5, b6, b7⟩ := bndE_ok (P := P) e3 h1 h2 h3 (show n ≤ x.2 - k by omega) true w
    cases mx with
    | some q =>
      cases e6
      simp only [Option.isSome_some, if_true] at b1
      refine ⟨_, ?_, den_slc_mk a1 _ _ _⟩
      simp only [Instr.sliceAt, Instr.slice, Sem.run_bind, run_underlying hu w, Result.andThen_ok, Sem.run_pure, b1, (szE_ok hE e5 w).1]
      rw [slicedAddr, offE_ok]
      rfl
    | none =>
      obtain ⟨c1, e7⟩ := oi_eq.1 e6
      obtain ⟨c2, e8⟩ := oi_eq.1 e7
      cases e8
      simp only [nble_iff] at c2
      obtain rfl := b7 rfl
      have hh2 : hh ≤ m := by
        cases hi with
        | none => have := b5 rfl; omega
        | some _ => exact b4 rfl
      rw [if_neg (by simp)] at b1
      refine ⟨_, ?_, den_slu_mk a1 (show (hh - l) + (k + l) ≤ x.2 by omega) _⟩
      simp only [Instr.sliceAt, Instr.slice, Sem.run_bind, run_underlying hu w, Result.andThen_ok, Sem.run_pure, b1, (szE_ok hE e5 w).1]
      rw [slicedAddr]
      have e9 : (if x.2 - k = l then o else o + l * s) = o + l * s := by
        by_cases h0 : l = 0
        · subst h0; simp
        · rw [if_neg]
          simp only [Bool.or_eq_true] at c1
          rcases c1 with c1 | c1
          · exact absurd (nbeq_iff.1 c1) h0
          · have := blt_true c1; omega
      rw [e9, show x.2 - k - l = x.2 - (k + l) by omega]
      rfl
  · rename_i l0
    split at e2
    · cases e2
    · rename_i hmn
      obtain ⟨⟨l, hh, m⟩, e3, e4⟩ := ob_eq.1 e2
      obtain ⟨c2, e5⟩ := oi_eq.1 e4
      cases e5
      obtain ⟨rfl, hl⟩ := den_str h
      cases mx' with
      | some _ => exact h3.elim
      | none =>
        rw [len_ok] at e3
        obtain ⟨b1, b2, b3, b4, b5, b6, b7⟩ := bndE_ok (P := P) (mx := none) (mx' := none) e3 h1 h2 trivial (Nat.le_refl _) false w
        simp only [Option.isSome_none, Bool.false_eq_true, if_false] at b1
        refine ⟨_, ?_, den_str_mk ρ (fun y hy => hl y (by rw [tk_ok, drp_ok] at hy; exact List.mem_of_mem_drop (List.mem_of_mem_take hy)))⟩
        simp only [Instr.sliceAt, Instr.slice, Sem.run_bind, run_underlying hu w, Result.andThen_ok, Sem.run_pure, Option.isSome_none, Bool.false_eq_true, if_false, bytesOf_size, b1, bytesOf_extract]
        rw [tk_ok, drp_ok]
        rfl
  · cases e2

/-- literals. -/
def cellsOf : SV → List SV
  | .agg l => l
  | v => [v]
theorem one_cells {u : Value} (h : u.oneCell' = true) : u.cells.toList = [u] := by cases u <;> first | rfl | cases h
theorem cellsOf_den {ρ : Pl} {v : SV} {u : Value} (h : den ρ v = some u) : denL ρ (cellsOf v) = some u.cells.toList := by
  cases v with
  | agg l => obtain ⟨us, h1, -, rfl⟩ := den_agg h; exact h1
  | tup l => obtain ⟨us, h1, rfl⟩ := den_tup h; exact denL_cons.2 ⟨_, _, h, denL_nil ρ, rfl⟩
  | bool b => rw [den_bool] at h; cases h; exact denL_cons.2 ⟨_, _, den_bool ρ b, denL_nil ρ, rfl⟩
  | str s => obtain ⟨rfl, hl⟩ := den_str h; exact denL_cons.2 ⟨_, _, h, denL_nil ρ, rfl⟩
  | int k n => rw [den_int] at h; cases h; exact denL_cons.2 ⟨_, _, den_int ρ k n, denL_nil ρ, rfl⟩
  | slu b o n k => obtain ⟨x, -, -, rfl⟩ := den_slu h; exact denL_cons.2 ⟨_, _, h, denL_nil ρ, rfl⟩
  | fn f a c =>
    have h' := h
    unfold den at h'
    split at h'
    · cases h'
    · split at h'
      · cases h'; exact denL_cons.2 ⟨_, _, h, denL_nil ρ, rfl⟩
      · cases h'
  | flt k b => have h' := h; unfold den at h'; cases h'; exact denL_cons.2 ⟨_, _, h, denL_nil ρ, rfl⟩
  | nptr => have h' := h; unfold den at h'; cases h'; exact denL_cons.2 ⟨_, _, h, denL_nil ρ, rfl⟩
  | nslc => have h' := h; unfold den at h'; cases h'; exact denL_cons.2 ⟨_, _, h, denL_nil ρ, rfl⟩
  | nmap => have h' := h; unfold den at h'; cases h'; exact denL_cons.2 ⟨_, _, h, denL_nil ρ, rfl⟩
  | nfn => have h' := h; unfold den at h'; cases h'; exact denL_cons.2 ⟨_, _, h, denL_nil ρ, rfl⟩
  | nifc => have h' := h; unfold den at h'; cases h'; exact denL_cons.2 ⟨_, _, h, denL_nil ρ, rfl⟩
  | ptr b o => have h' := h; unfold den at h'; obtain ⟨p, -, rfl⟩ := Option.map_eq_some_iff.1 h'; exact denL_cons.2 ⟨_, _, h, denL_nil ρ, rfl⟩
  | slc b o n c => have h' := h; unfold den at h'; obtain ⟨p, -, rfl⟩ := Option.map_eq_some_iff.1 h'; exact denL_cons.2 ⟨_, _, h, denL_nil ρ, rfl⟩
  | map r => have h' := h; unfold den at h'; obtain ⟨p, -, rfl⟩ := Option.map_eq_some_iff.1 h'; exact denL_cons.2 ⟨_, _, h, denL_nil ρ, rfl⟩
  | yld l => have h' := h; unfold den at h'; obtain ⟨p, -, rfl⟩ := Option.map_eq_some_iff.1 h'; exact denL_cons.2 ⟨_, _, h, denL_nil ρ, rfl⟩
  | ifc t v => have h' := h; unfold den at h'; obtain ⟨p, -, rfl⟩ := Option.map_eq_some_iff.1 h'; exact denL_cons.2 ⟨_, _, h, denL_nil ρ, rfl⟩
  | _ => exact denL_cons.2 ⟨_, _, h, denL_nil ρ, one_cells (den_one h rfl)⟩
theorem cellsOf_one {ρ : Pl} {v : SV} {u : Value} (h : den ρ v = some u) (ht : ∀ l, v ≠ .tup l) : (cellsOf v).all SV.one = true := by
  cases v with
  | agg l => obtain ⟨us, -, h1, -⟩ := den_agg h; exact h1
  | tup l => exact absurd rfl (ht l)
  | _ => rfl
/-- lay a part over a row of cells. -/
noncomputable def lay (o : Nat) (p cs : List SV) : List SV := app (tk o cs) (app p (drp (Nat.add o (len p)) cs))
theorem zip_fold (p : List Value) : ∀ (o : Nat) (cs : Array Value), o + p.length ≤ cs.size → (p.zipIdx.foldl (fun (a : Array Value) x => a.setIfInBounds (o + x.2) x.1) cs).toList = cs.toList.take o ++ (p ++ cs.toList.drop (o + p.length)) := by
  suffices H : ∀ (p : List Value) (j o : Nat) (cs : Array Value), o + j + p.length ≤ cs.size → ((p.zipIdx j).foldl (fun (a : Array Value) x => a.setIfInBounds (o + x.2) x.1) cs).toList = cs.toList.take (o + j) ++ (p ++ cs.toList.drop (o + j + p.length)) from fun o cs h => H p 0 o cs (by simpa using h)
  intro p
  induction p with
  | nil => intro j o cs h; simp
  | cons x p ih =>
    intro j o cs h
    rw [List.length_cons] at h
    rw [List.zipIdx_cons, List.foldl_cons, ih (j + 1) o _ (by simp; omega)]
    have h1 : o + j < cs.toList.length := by simp; omega
    simp only [Array.toList_setIfInBounds, List.length_cons]
    rw [show o + (j + 1) = (o + j) + 1 by omega, List.take_add_one, List.take_set_of_le (Nat.le_refl _), List.getElem?_set_self h1, List.drop_set_of_lt (by omega)]
    simp [show o + j + 1 + p.length = o + j + (p.length + 1) by omega]
theorem lay_den {ρ : Pl} {p cs : List SV} {ps us : List Value} {o : Nat} (h1 : denL ρ p = some ps) (h2 : denL ρ cs = some us) : denL ρ (lay o p cs) = some (us.take o ++ (ps ++ us.drop (o + ps.length))) := by
  unfold lay
  rw [app_ok, app_ok, tk_ok, drp_ok, len_ok, ← denL_len h1]
  exact denL_append (denL_take o h2) (denL_append h1 (denL_drop _ h2))
theorem lay_one {p cs : List SV} {o : Nat} (h1 : p.all SV.one = true) (h2 : cs.all SV.one = true) : (lay o p cs).all SV.one = true := by
  unfold lay
  rw [app_ok, app_ok, tk_ok, drp_ok, List.all_append, List.all_append, h1, all_take h2, all_drop h2]
  rfl
/-- fill: the places by a function. -/
noncomputable def fillE (pl : Nat → Option (Nat × Nat)) (parts : List (Nat × SV)) : List SV → Option (List SV) := List.rec (motive := fun _ => List SV → Option (List SV)) (fun cs => some cs)
  (fun x _ ih cs => ob (pl x.1) fun y => oi (Nat.beq (len (cellsOf x.2)) y.2) (oi (Nat.ble (Nat.add y.1 (len (cellsOf x.2))) (len cs)) (oi (match x.2 with | .tup _ => false | _ => true) (ih (lay y.1 (cellsOf x.2) cs))))) parts
def denP (ρ : Pl) : List (Nat × SV) → List (Nat × Value) → Prop
  | [], [] => True
  | x :: l, y :: m => x.1 = y.1 ∧ den ρ x.2 = some y.2 ∧ denP ρ l m
  | _, _ => False
theorem fillE_ok {ρ : Pl} {pl : Nat → Option (Nat × Nat)} {pl' : Nat → Option (Nat × Nat)} (hpl : ∀ i y, pl i = some y → pl' i = some y) : ∀ {parts : List (Nat × SV)} {ps : List (Nat × Value)} {cs r : List SV} {us : List Value},
    fillE pl parts cs = some r → denP ρ parts ps → denL ρ cs = some us → cs.all SV.one = true → ∃ rs, Instr.fill pl' us.toArray ps = some rs.toArray ∧ denL ρ r = some rs ∧ r.all SV.one = true
  | [], ps, cs, r, us, h, hp, hd, ho => by
    cases ps with
    | nil => cases h; exact ⟨us, rfl, hd, ho⟩
    | cons _ _ => exact hp.elim
  | x :: parts, ps, cs, r, us, h, hp, hd, ho => by
    cases ps with
    | nil => exact hp.elim
    | cons y ps =>
      obtain ⟨i, u⟩ := y
      obtain ⟨hp1, hp2, hp3⟩ := hp
      simp only at hp1 hp2
      have h' : (ob (pl x.1) fun y => oi (Nat.beq (len (cellsOf x.2)) y.2) (oi (Nat.ble (Nat.add y.1 (len (cellsOf x.2))) (len cs)) (oi (match x.2 with | .tup _ => false | _ => true) (fillE pl parts (lay y.1 (cellsOf x.2) cs))))) = some r := h
      obtain ⟨z, e1, e2⟩ := ob_eq.1 h'
      obtain ⟨e3, e4⟩ := oi_eq.1 e2
      obtain ⟨e5, e6⟩ := oi_eq.1 e4
      obtain ⟨e7, e8⟩ := oi_eq.1 e6
      rw [nbeq_iff, len_ok] at e3
      rw [nble_iff, len_ok, len_ok] at e5
      have e5' : z.1 + (cellsOf x.2).length ≤ cs.length := e5
      have c1 := cellsOf_den hp2
      have c2 := denL_len c1
      have c3 := denL_len hd
      have hone := cellsOf_one hp2 (fun l hl => by rw [hl] at e7; cases e7)
      have hyc : u.cells.size = z.2 := by rw [← e3, ← c2]; simp
      have c4 : u.cells.size = (cellsOf x.2).length := by rw [← c2]; simp
      have L := lay_den (o := z.1) c1 hd
      obtain ⟨rs, f1, f2, f3⟩ := fillE_ok hpl e8 hp3 L (lay_one hone ho)
      refine ⟨rs, ?_, f2, f3⟩
      subst hp1
      unfold Instr.fill
      rw [hpl _ _ e1]
      simp only
      have hc : ¬ (decide (u.cells.size ≠ z.2) || decide (z.1 + u.cells.size > us.toArray.size)) = true := by
        have g1 : ¬ u.cells.size ≠ z.2 := fun g => g hyc
        have g2 : ¬ z.1 + u.cells.size > us.toArray.size := by
          have : us.toArray.size = us.length := rfl
          omega
        rw [decide_eq_false g1, decide_eq_false g2]
        simp
      rw [if_neg hc]
      rw [← f1]
      congr 1
      apply Array.ext'
      have hfold := zip_fold u.cells.toList z.1 us.toArray (by rw [List.size_toArray, c2, c3]; exact e5')
      rw [← hfold]
      have hz : u.cells.size = u.cells.zipIdx.size := by simp
      rw [← Array.foldl_toList, Array.toList_zipIdx]
end Go.Proofs.YteblflebjhncbaaGreatDoor
