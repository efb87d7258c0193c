/-
  A run by the kernel: places, cuts, literals.
-/
import Derived.Test.YteblflebjhncbaaGreatDoorE5
import Derived.Laws.Tables
namespace Go.Proofs.YteblflebjhncbaaGreatDoor
open Go.RowKit

/-- a number from 0 on, below a bound. -/
noncomputable def ixE (v : SV) (n : Nat) : Option Nat := match v with
  | .int _ (.ofNat i) => oi (Nat.blt i n) (some i)
  | _ => none
theorem ixE_ok {v : SV} {n i : Nat} (h : ixE v n = some i) : ∃ k, v = .int k (i : Int) ∧ i < n := by
  cases v with
  | int k z =>
    cases z with
    | ofNat j =>
      obtain ⟨h1, h2⟩ := oi_eq.1 h
      cases h2
      exact ⟨k, rfl, blt_true h1⟩
    | negSucc j => cases h
  | _ => cases h
theorem den_slc {ρ : Pl} {b o n c : Nat} {u : Value} (h : den ρ (.slc b o n c) = some u) : ∃ x, ρ b = some x ∧ u = .slice (some ⟨x.1, o, none⟩) n c := by
  unfold den at h
  obtain ⟨x, h1, rfl⟩ := Option.map_eq_some_iff.1 h
  exact ⟨x, h1, rfl⟩
theorem den_slc_mk {ρ : Pl} {b : Nat} {x : Nat × Nat} (h : ρ b = some x) (o n c : Nat) : den ρ (.slc b o n c) = some (.slice (some ⟨x.1, o, none⟩) n c) := by
  unfold den; rw [h]; rfl
theorem den_slu {ρ : Pl} {b o n k : Nat} {u : Value} (h : den ρ (.slu b o n k) = some u) : ∃ x, ρ b = some x ∧ n + k ≤ x.2 ∧ u = .slice (some ⟨x.1, o, none⟩) n (x.2 - k) := by
  unfold den at h
  obtain ⟨x, h1, h2⟩ := Option.bind_eq_some_iff.1 h
  split at h2
  · rename_i h3
    cases h2
    exact ⟨x, h1, h3, rfl⟩
  · cases h2
theorem den_slu_mk {ρ : Pl} {b : Nat} {x : Nat × Nat} {n k : Nat} (h : ρ b = some x) (h2 : n + k ≤ x.2) (o : Nat) : den ρ (.slu b o n k) = some (.slice (some ⟨x.1, o, none⟩) n (x.2 - k)) := by
  unfold den; rw [h]
  simp [h2]
theorem den_nslc (ρ : Pl) : den ρ .nslc = some (.slice none 0 0) := by simp [den]

/-- &x[i]. -/
noncomputable def iaE (E : Env) (t : TypeId) (v ix : SV) : Option SV := ob (und E t) fun d => match d, v with
  | .array n e, .ptr b o => Option.rec (motive := fun _ => Option SV) (oi (ix8 ix) (oi (Nat.ble 256 n) (ob (szE E e) fun s => oi (Nat.beq s 1) (some (.pix b o 256 ix))))) (fun i => ob (szE E e) fun s => some (.ptr b (Nat.add o (Nat.mul i s)))) (ixE ix n)
  | .slice e, .slc b o n _ => ob (ixE ix n) fun i => ob (szE E e) fun s => some (.ptr b (Nat.add o (Nat.mul i s)))
  | .slice e, .slu b o n _ => ob (ixE ix n) fun i => ob (szE E e) fun s => some (.ptr b (Nat.add o (Nat.mul i s)))
  | _, _ => none
theorem iaE_ok {P : Program} {E : Env} (hE : EnvOk P E) {ρ : Pl} {t : TypeId} {v ix r : SV} {u0 u1 : Value} (e : iaE E t v ix = some r) (h : den ρ v = some u0) (h' : den ρ ix = some u1) (w : World) :
    ∃ u, (Instr.indexAt t u0 u1).run P w = .ok u w ∧ den ρ r = some u := by
  obtain ⟨d, h1, h2⟩ := ob_eq.1 e
  have hu := und_ok hE h1
  split at h2
  · rename_i n el b o
    cases h3 : ixE ix n with
    | none =>
      rw [h3] at h2
      obtain ⟨h4, h5⟩ := oi_eq.1 h2
      obtain ⟨h6, h7⟩ := oi_eq.1 h5
      obtain ⟨s, h8, h9⟩ := ob_eq.1 h7
      obtain ⟨h10, h11⟩ := oi_eq.1 h9
      cases h11
      rw [nble_iff] at h6
      rw [nbeq_iff] at h10
      subst h10
      obtain ⟨k, z, rfl, z0, z1⟩ := ix8_ok ix h4 h'
      obtain ⟨x, a1, rfl⟩ := den_ptr h
      refine ⟨_, ?_, show den ρ (.pix b o 256 ix) = some (.pointer (some ⟨x.1, o + z.toNat, none⟩)) by unfold den; rw [a1, h', pixD_mk z0 (by omega)]⟩
      have g : (0 : Int) ≤ z ∧ z < (n : Int) := by omega
      simp only [Instr.indexAt, asIntOf, Sem.run_bind, Sem.run_pure, Result.andThen_ok, run_underlying hu w, Instr.sureAddr]
      rw [if_pos g]
      simp only [Sem.run_bind, (szE_ok hE h8 w).1, Result.andThen_ok, Sem.run_pure, Addr.add_lit, Nat.mul_one]
    | some i =>
    rw [h3] at h2
    have h4 : (ob (szE E el) fun s => some (SV.ptr b (Nat.add o (Nat.mul i s)))) = some r := h2
    obtain ⟨s, h5, h6⟩ := ob_eq.1 h4
    cases h6
    obtain ⟨k, rfl, hi⟩ := ixE_ok h3
    obtain ⟨x, a1, rfl⟩ := den_ptr h
    rw [den_int] at h'
    cases h'
    refine ⟨_, ?_, den_ptr_mk a1 _⟩
    have g : (0 : Int) ≤ (i : Int) ∧ (i : Int) < (n : Int) := by omega
    simp only [Instr.indexAt, asIntOf, Sem.run_bind, Sem.run_pure, Result.andThen_ok, run_underlying hu w, Instr.sureAddr]
    rw [if_pos g]
    simp only [Sem.run_bind, (szE_ok hE h5 w).1, Result.andThen_ok, Sem.run_pure, Addr.add_lit, Int.toNat_natCast]
    rfl
  · rename_i el b o n c
    obtain ⟨i, h3, h4⟩ := ob_eq.1 h2
    obtain ⟨s, h5, h6⟩ := ob_eq.1 h4
    cases h6
    obtain ⟨k, rfl, hi⟩ := ixE_ok h3
    obtain ⟨x, a1, rfl⟩ := den_slc h
    rw [den_int] at h'
    cases h'
    refine ⟨_, ?_, den_ptr_mk a1 _⟩
    have g : (0 : Int) ≤ (i : Int) ∧ (i : Int) < (n : Int) := by omega
    simp only [Instr.indexAt, asIntOf, Sem.run_bind, Sem.run_pure, Result.andThen_ok, run_underlying hu w]
    rw [if_pos g]
    simp only [Sem.run_bind, (szE_ok hE h5 w).1, Result.andThen_ok, Sem.run_pure, Addr.add_lit, Int.toNat_natCast]
    rfl
  · rename_i el b o n c
    obtain ⟨i, h3, h4⟩ := ob_eq.1 h2
    obtain ⟨s, h5, h6⟩ := ob_eq.1 h4
    cases h6
    obtain ⟨k, rfl, hi⟩ := ixE_ok h3
    obtain ⟨x, a1, -, rfl⟩ := den_slu h
    rw [den_int] at h'
    cases h'
    refine ⟨_, ?_, den_ptr_mk a1 _⟩
    have g : (0 : Int) ≤ (i : Int) ∧ (i : Int) < (n : Int) := by omega
    simp only [Instr.indexAt, asIntOf, Sem.run_bind, Sem.run_pure, Result.andThen_ok, run_underlying hu w]
    rw [if_pos g]
    simp only [Sem.run_bind, (szE_ok hE h5 w).1, Result.andThen_ok, Sem.run_pure, Addr.add_lit, Int.toNat_natCast]
    rfl
  · cases h2
/-- x[i] of a value. -/
noncomputable def inE (E : Env) (t : TypeId) (v ix : SV) : Option SV := ob (und E t) fun d => match d, v with
  | .array n e, .agg cs => ob (ixE ix n) fun i => ob (szE E e) fun s => ptE E e cs (Nat.mul i s)
  | .string, .str l => match ix with
    | .int _ (.ofNat i) => ob (nth i l) fun x => some (.int .u8 (.ofNat x))
    | _ => none
  | _, _ => none
theorem bytesOf_get {l : List Nat} {i x : Nat} (h : l[i]? = some x) (hx : x < 256) : ∃ b, (bytesOf l)[i]? = some b ∧ b.toNat = x := by
  have hi : i < l.length := (List.getElem?_eq_some_iff.1 h).1
  refine ⟨UInt8.ofNat x, ?_, by simp [UInt8.toNat_ofNat', Nat.mod_eq_of_lt hx]⟩
  rw [ByteArray.getElem?_lt' _ _ (by rw [bytesOf_size]; exact hi)]
  congr 1
  show (bytesOf l).data[i]'_ = _
  simp only [bytesOf, List.getElem_toArray, List.getElem_map]
  congr 1
  rw [List.getElem?_eq_getElem hi] at h
  exact Option.some.inj h
theorem inE_ok {P : Program} {E : Env} (hE : EnvOk P E) {ρ : Pl} {t : TypeId} {v ix r : SV} {u0 u1 : Value} (e : inE E t v ix = some r) (h : den ρ v = some u0) (h' : den ρ ix = some u1) (w : World) :
    ∃ u, (Instr.index t u0 u1).run P w = .ok u w ∧ den ρ r = some u := by
  obtain ⟨d, h1, h2⟩ := ob_eq.1 e
  have hu := und_ok hE h1
  split at h2
  · rename_i n el cs
    obtain ⟨i, h3, h4⟩ := ob_eq.1 h2
    obtain ⟨s, h5, h6⟩ := ob_eq.1 h4
    obtain ⟨k, rfl, hi⟩ := ixE_ok h3
    obtain ⟨us, a1, a2, rfl⟩ := den_agg h
    rw [den_int] at h'
    cases h'
    obtain ⟨u, b1, b2⟩ := ptE_ok hE h6 a1 a2 w
    refine ⟨u, ?_, b2⟩
    have g : (0 : Int) ≤ (i : Int) ∧ (i : Int) < (n : Int) := by omega
    simp only [Instr.index, asIntOf, Sem.run_bind, Sem.run_pure, Result.andThen_ok, run_underlying hu w]
    rw [if_pos g]
    simp only [Sem.run_bind, (szE_ok hE h5 w).1, Result.andThen_ok, Int.toNat_natCast]
    exact b1
  · rename_i l
    split at h2
    · rename_i k i
      obtain ⟨x, h3, h4⟩ := ob_eq.1 h2
      cases h4
      rw [nth_ok] at h3
      obtain ⟨rfl, hl⟩ := den_str h
      rw [den_int] at h'
      cases h'
      obtain ⟨b, b1, b2⟩ := bytesOf_get h3 (hl x (List.mem_of_getElem? h3))
      refine ⟨.int .u8 x, ?_, den_int _ _ _⟩
      have g : (0 : Int) ≤ Int.ofNat i := by rw [Int.ofNat_eq_natCast]; omega
      have g2 : (Int.ofNat i).toNat = i := rfl
      simp only [Instr.index, asIntOf, Sem.run_bind, Sem.run_pure, Result.andThen_ok, run_underlying hu w]
      rw [if_pos g, g2, b1]
      simp [b2]
    · cases h2
  · cases h2

/-- bounds. -/
noncomputable def bdE (v : SV) (y : Nat) : Option Nat := match v with
  | .int _ (.ofNat i) => oi (Nat.ble i y) (some i)
  | _ => none
theorem bdE_ok {P : Program} {ρ : Pl} {v : SV} {y i : Nat} {u : Value} (h : bdE v y = some i) (hv : den ρ v = some u) (code : BoundsCode) (Y : Nat) (hY : y ≤ Y) (w : World) : (Instr.sliceBound u Y code).run P w = .ok i w ∧ i ≤ y := by
  cases v with
  | int k z =>
    cases z with
    | ofNat j =>
      obtain ⟨h1, h2⟩ := oi_eq.1 h
      cases h2
      rw [den_int] at hv
      cases hv
      rw [nble_iff] at h1
      refine ⟨?_, h1⟩
      have := run_sliceBound (P := P) w k (Int.ofNat i) Y code (by rw [Int.ofNat_eq_natCast]; omega) (by rw [Int.ofNat_eq_natCast]; omega)
      rw [this]; rfl
    | negSucc j => cases h
  | _ => cases h
/-- low, high, max: none where they are not there. -/
noncomputable def bndE (len cap : Nat) (lo hi mx : Option SV) : Option (Nat × Nat × Nat) :=
  ob (match mx with | some v => bdE v cap | none => some cap) fun m =>
  ob (match hi, mx with | some v, _ => bdE v m | none, none => some len | none, some _ => none) fun h =>
  ob (match lo with | some v => bdE v h | none => some 0) fun l => some (l, h, m)
def denO (ρ : Pl) : Option SV → Option Value → Prop
  | some v, some u => den ρ v = some u
  | none, none => True
  | _, _ => False
/-- cap: what is known of it; it may be more (then there is no max). -/
theorem bndE_ok {P : Program} {ρ : Pl} {len cap Cap : Nat} {lo hi mx : Option SV} {lo' hi' mx' : Option Value} {l h m : Nat} (e : bndE len cap lo hi mx = some (l, h, m)) (h1 : denO ρ lo lo') (h2 : denO ρ hi hi') (h3 : denO ρ mx mx')
    (hc : cap ≤ Cap) (isS : Bool) (w : World) : (Instr.sliceBounds isS len Cap lo' hi' mx').run P w = .ok (l, h, if mx.isSome then m else Cap) w ∧ (lo.isSome = true → l ≤ h) ∧ (lo.isSome = false → l = 0) ∧ (hi.isSome = true → h ≤ m) ∧ (hi.isSome = false → h = len) ∧ m ≤ cap ∧ (mx.isSome = false → m = cap) := by
  obtain ⟨m', e1, e2⟩ := ob_eq.1 e
  obtain ⟨h'', e3, e4⟩ := ob_eq.1 e2
  obtain ⟨l', e5, e6⟩ := ob_eq.1 e4
  cases e6
  cases mx with
  | none =>
    cases mx' with
    | some _ => exact h3.elim
    | none =>
      cases e1
      cases hi with
      | none =>
        cases hi' with
        | some _ => exact h2.elim
        | none =>
          cases e3
          cases lo with
          | none =>
            cases lo' with
            | some _ => exact h1.elim
            | none => cases e5; simp [Instr.sliceBounds]
          | some v =>
            cases lo' with
            | none => exact h1.elim
            | some u =>
              obtain ⟨b1, b2⟩ := bdE_ok (P := P) e5 h1 .sliceB _ (Nat.le_refl _) w
              simp [Instr.sliceBounds, b1, b2]
      | some v =>
        cases hi' with
        | none => exact h2.elim
        | some u =>
          obtain ⟨b1, b2⟩ := bdE_ok (P := P) e3 h2 (if isS then .sliceAcap else .sliceAlen) Cap hc w
          cases lo with
          | none =>
            cases lo' with
            | some _ => exact h1.elim
            | none => cases e5; simp [Instr.sliceBounds, b1, b2]
          | some v' =>
            cases lo' with
            | none => exact h1.elim
            | some u' =>
              obtain ⟨c1, c2⟩ := bdE_ok (P := P) e5 h1 .sliceB _ (Nat.le_refl _) w
              simp [Instr.sliceBounds, b1, b2, c1, c2]
  | some v0 =>
    cases mx' with
    | none => exact h3.elim
    | some u0 =>
      obtain ⟨a1, a2⟩ := bdE_ok (P := P) e1 h3 (if isS then .slice3Acap else .slice3Alen) Cap hc w
      cases hi with
      | none => cases e3
      | some v =>
        cases hi' with
        | none => exact h2.elim
        | some u =>
          obtain ⟨b1, b2⟩ := bdE_ok (P := P) e3 h2 .slice3B _ (Nat.le_refl _) w
          cases lo with
          | none =>
            cases lo' with
            | some _ => exact h1.elim
            | none => cases e5; simp [Instr.sliceBounds, a1, a2, b1, b2]
          | some v' =>
            cases lo' with
            | none => exact h1.elim
            | some u' =>
              obtain ⟨c1, c2⟩ := bdE_ok (P := P) e5 h1 .slice3C _ (Nat.le_refl _) w
              simp [Instr.sliceBounds, a1, a2, b1, b2, c1, c2]
end Go.Proofs.YteblflebjhncbaaGreatDoor
