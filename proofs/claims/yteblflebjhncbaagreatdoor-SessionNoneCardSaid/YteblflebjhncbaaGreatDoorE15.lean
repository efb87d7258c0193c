/-
  A run by the kernel: append, copy, bytes of a text.
-/
import Derived.Test.YteblflebjhncbaaGreatDoorE14
import Derived.Laws.IdiomStrings
namespace Go.Proofs.YteblflebjhncbaaGreatDoor
open Go.RowKit

noncomputable def u8L (l : List Nat) : List SV := List.rec (motive := fun _ => List SV) [] (fun x _ ih => .int .u8 (.ofNat x) :: ih) l
theorem u8L_den (ρ : Pl) : ∀ (l : List Nat), denL ρ (u8L l) = some (l.map fun (x : Nat) => Value.int .u8 (x : Int)) ∧ (u8L l).all SV.one = true
  | [] => ⟨denL_nil ρ, rfl⟩
  | x :: l => ⟨denL_cons.2 ⟨_, _, den_int _ _ _, (u8L_den ρ l).1, rfl⟩, by show (SV.one (.int .u8 (.ofNat x)) && (u8L l).all SV.one) = true; rw [(u8L_den ρ l).2]; rfl⟩
/-- how many elements. -/
noncomputable def lenS (v : SV) : Option Nat := match v with
  | .slc _ _ n _ => some n
  | .slu _ _ n _ => some n
  | .nslc => some 0
  | .str l => some (len l)
  | _ => none
theorem lenS_ok {P : Program} {ρ : Pl} {v : SV} {n : Nat} {u : Value} (e : lenS v = some n) (h : den ρ v = some u) (w : World) : (Builtin.lenOf u).run P w = .ok n w := by
  unfold lenS at e
  split at e <;> cases e
  · obtain ⟨x, -, rfl⟩ := den_slc h; rfl
  · obtain ⟨x, -, -, rfl⟩ := den_slu h; rfl
  · rw [den_nslc] at h; cases h; rfl
  · obtain ⟨rfl, -⟩ := den_str h; rw [len_ok, ← bytesOf_size]; rfl
/-- the cells of the first n elements, of s cells each. -/
noncomputable def srcE (m : T SObj) (s n : Nat) (v : SV) : Option (List SV) := match v with
  | .slc b o l _ => oi (Nat.ble n l) (ob (cellsE m b) fun cs => oi (Nat.ble (Nat.add o (Nat.mul n s)) (len cs)) (some (tk (Nat.mul n s) (drp o cs))))
  | .slu b o l _ => oi (Nat.ble n l) (ob (cellsE m b) fun cs => oi (Nat.ble (Nat.add o (Nat.mul n s)) (len cs)) (some (tk (Nat.mul n s) (drp o cs))))
  | .nslc => oi (Nat.beq n 0) (some [])
  | .str l => oi (Nat.beq s 1) (oi (Nat.ble n (len l)) (some (u8L (tk n l))))
  | _ => none
variable [Orig]
theorem srcE_ok {P : Program} {ρ : Pl} {m : T SObj} {nx : Nat} {w0 : Base} {w : World} (h : Emb P ρ m nx w0 w) {s n : Nat} {v : SV} {r : List SV} {u : Value} (e : srcE m s n v = some r) (hv : den ρ v = some u) :
    ∃ ns, denL ρ r = some ns ∧ r.all SV.one = true ∧ (Builtin.firstCells s n u).run P w = .ok ns.toArray w ∧ ns.length = n * s := by
  have seg : ∀ {b o : Nat} {x : Nat × Nat} {L C : Nat}, ρ b = some x → (ob (cellsE m b) fun cs => oi (Nat.ble (Nat.add o (Nat.mul n s)) (len cs)) (some (tk (Nat.mul n s) (drp o cs)))) = some r →
      ∃ ns, denL ρ r = some ns ∧ r.all SV.one = true ∧ (Builtin.firstCells s n (.slice (some ⟨x.1, o, none⟩) L C)).run P w = .ok ns.toArray w ∧ ns.length = n * s := by
    intro b o x L C hx he
    obtain ⟨cs, h1, h2⟩ := ob_eq.1 he
    obtain ⟨h3, h4⟩ := oi_eq.1 h2
    cases h4
    rw [nble_iff, len_ok] at h3
    have h3' : o + n * s ≤ cs.length := h3
    obtain ⟨us, a2, a3, a4, -⟩ := h.seg h1 hx h3'
    obtain ⟨x', us', -, b2, b3, -⟩ := h.cells h1
    refine ⟨(us.drop o).take (n * s), ?_, ?_, a3, a4⟩
    · rw [tk_ok, drp_ok]; exact denL_take _ (denL_drop o a2)
    · rw [tk_ok, drp_ok]; exact all_take (all_drop b3 o) _
  unfold srcE at e
  split at e
  · obtain ⟨-, h2⟩ := oi_eq.1 e
    obtain ⟨x, g1, rfl⟩ := den_slc hv
    exact seg g1 h2
  · obtain ⟨-, h2⟩ := oi_eq.1 e
    obtain ⟨x, g1, -, rfl⟩ := den_slu hv
    exact seg g1 h2
  · obtain ⟨h1, h2⟩ := oi_eq.1 e
    cases h2
    rw [den_nslc] at hv
    cases hv
    obtain rfl := nbeq_iff.1 h1
    exact ⟨[], denL_nil ρ, rfl, rfl, by simp⟩
  · rename_i l
    obtain ⟨h1, h2⟩ := oi_eq.1 e
    obtain ⟨h3, h4⟩ := oi_eq.1 h2
    cases h4
    obtain rfl := nbeq_iff.1 h1
    rw [nble_iff, len_ok] at h3
    obtain ⟨rfl, hl⟩ := den_str hv
    refine ⟨_, (u8L_den ρ _).1, (u8L_den ρ _).2, ?_, by simp [tk_ok]; omega⟩
    show Result.ok (((bytesOf l).extract 0 n).data.map fun b => Value.int .u8 b.toNat) w = _
    rw [bytesOf_extract, tk_ok]
    congr 1
    apply Array.ext'
    simp only [bytesOf, List.drop_zero, Nat.sub_zero, Array.toList_map, List.map_map]
    apply List.map_congr_left
    intro y hy
    have := hl y (List.mem_of_mem_take hy)
    simp [UInt8.toNat_ofNat', Nat.mod_eq_of_lt this]
  · cases e

/-- one block under a new number. -/
theorem Emb.rename {P : Program} {ρ : Pl} {m : T SObj} {nx : Nat} {w0 : Base} {w : World} (h : Emb P ρ m nx w0 w) {b : Nat} {o : SObj} {x : Nat × Nat} (hb : m.get b = some o) (hx : ρ b = some x) :
    Emb P (pset ρ nx x) ((m.put none b).put (some o) nx) (nx + 1) w0 w ∧ Le ρ (pset ρ nx x) := by
  have hf := h.fresh nx (Nat.le_refl _)
  have hle : Le ρ (pset ρ nx x) := pset_le _ hf.1
  have hbn : b ≠ nx := fun e => by subst e; rw [hb] at hf; cases hf.2
  have key : ∀ c, (T.get ((m.put none b).put (some o) nx) c).isSome = true → ∀ y, pset ρ nx x c = some y → (c = nx ∧ y = x) ∨ (c ≠ nx ∧ c ≠ b ∧ (m.get c).isSome = true ∧ ρ c = some y) := by
    intro c hc y hy
    rw [T.get_put] at hc
    rw [pset_at] at hy
    by_cases e : c = nx
    · rw [if_pos e] at hy; cases hy; exact .inl ⟨e, rfl⟩
    · rw [if_neg e] at hc hy
      rw [T.get_put] at hc
      by_cases e2 : c = b
      · rw [if_pos e2] at hc; cases hc
      · rw [if_neg e2] at hc; exact .inr ⟨e, e2, hc, hy⟩
  refine ⟨⟨h.touch, ?_, ?_, ?_, ?_, fun b hb => ⟨Nat.lt_succ_of_lt (h.hole b hb).1, by rw [pset_at, if_neg (by have := (h.hole b hb).1; omega)]; exact (h.hole b hb).2⟩, h.x.bump (Nat.le_succ _)⟩, hle⟩
  · intro c oc hc
    rw [T.get_put] at hc
    by_cases e : c = nx
    · subst e
      rw [if_pos rfl] at hc
      cases hc
      obtain ⟨x', ob', a1, a2, a3, a4⟩ := h.obj b o hb
      rw [hx] at a1
      cases a1
      exact ⟨x, ob', pset_same _ _ _, a2, a3, a4.mono hle⟩
    · rw [if_neg e, T.get_put] at hc
      by_cases e2 : c = b
      · rw [if_pos e2] at hc; cases hc
      · rw [if_neg e2] at hc
        obtain ⟨y, ob', a1, a2, a3, a4⟩ := h.obj c oc hc
        exact ⟨y, ob', hle c y a1, a2, a3, a4.mono hle⟩
  · intro c c' y y' hc hc' hy hy' he
    have hbs : (m.get b).isSome = true := by rw [hb]; rfl
    rcases key c hc y hy with ⟨a1, rfl⟩ | ⟨a1, a2, a3, a4⟩ <;> rcases key c' hc' y' hy' with ⟨b1, rfl⟩ | ⟨b1, b2, b3, b4⟩
    · rw [a1, b1]
    · exact absurd (h.inj b c' _ _ hbs b3 hx b4 he).symm b2
    · exact absurd (h.inj c b _ _ a3 hbs a4 hx he) a2
    · exact h.inj c c' y y' a3 b3 a4 b4 he
  · intro c hc
    have hf' := h.fresh c (by omega)
    refine ⟨?_, ?_⟩
    · rw [pset_at, if_neg (by omega)]; exact hf'.1
    · rw [T.get_put_ne _ _ (by omega), T.get_put]
      split
      · rfl
      · exact hf'.2
  · intro c y hy
    rw [pset_at] at hy
    by_cases e : c = nx
    · rw [if_pos e] at hy; cases hy; exact h.old b x hx
    · rw [if_neg e] at hy; exact h.old c y hy
omit [Orig] in
theorem bytesRow_rel {P : Program} {E : Env} {ρ : Pl} {s : List Nat} {c : Nat} {e : TypeId} (hsz : P.cellsOf e = 1) (hc : s.length ≤ c) (hl : ∀ x ∈ s, x < 256) (p : Nat) : ObjRel P ρ (p, c) (.cells (u8L s) e true) (.cells (bytesRow (bytesOf s) c) e ((bytesRow (bytesOf s) c).size, (bytesRow (bytesOf s) c).size + 1)) := by
  have e1 : (bytesRow (bytesOf s) c).toList = (s.map fun (x : Nat) => Value.int .u8 (x : Int)) ++ List.replicate (c - s.length) (.int .u8 0) := by
    unfold bytesRow
    simp only [Array.toList_append, Array.toList_replicate, bytesOf_size, Array.toList_map]
    congr 1
    simp only [bytesOf, List.map_map]
    apply List.map_congr_left
    intro y hy
    have := hl y hy
    simp [UInt8.toNat_ofNat', Nat.mod_eq_of_lt this]
  refine ⟨rfl, ⟨_, (u8L_den ρ s).1, ?_⟩, fun i hi g => by omega, (u8L_den ρ s).2⟩
  rw [if_pos rfl]
  refine ⟨?_, ?_⟩
  · rw [e1, List.take_left]
  · rw [hsz, ← Array.length_toList, e1]
    simp
    omega
noncomputable def bcE (E : Env) (m : T SObj) (nx : Nat) (src dst : TypeId) (v : SV) : Option (SV × T SObj × Nat) := ob (und E src) fun s => ob (und E dst) fun d => match s, d, v with
  | .string, .slice e, .str l => ob (und E e) fun x => match x with
    | .int .u8 => ob (szE E e) fun n => oi (Nat.beq n 1) (some (.slu nx 0 (len l) 0, m.put (some (.cells (u8L l) e true)) nx, Nat.succ nx))
    | _ => none
  | _, _, _ => none
theorem bcE_ok {P : Program} {E : Env} (hE : EnvOk P E) {ρ : Pl} {m : T SObj} {nx : Nat} {w0 : Base} {w : World} (h : Emb P ρ m nx w0 w) {src dst : TypeId} {v : SV} {u0 : Value} {r : SV × T SObj × Nat} (e : bcE E m nx src dst v = some r) (hv : den ρ v = some u0) :
    ∃ ρ' u w', Le ρ ρ' ∧ (convert src dst u0).run P w = .ok u w' ∧ den ρ' r.1 = some u ∧ Emb P ρ' r.2.1 r.2.2 w0 w' := by
  obtain ⟨s, h1, h2⟩ := ob_eq.1 e
  obtain ⟨d, h3, h4⟩ := ob_eq.1 h2
  split at h4
  · rename_i el l
    obtain ⟨x, h5, h6⟩ := ob_eq.1 h4
    split at h6
    · obtain ⟨n, h7, h8⟩ := ob_eq.1 h6
      obtain ⟨h9, h10⟩ := oi_eq.1 h8
      cases h10
      obtain rfl := nbeq_iff.1 h9
      obtain ⟨rfl, hl⟩ := den_str hv
      have hrun := run_bytes_of_string (P := P) w src dst el (bytesOf l) (und_ok hE h1) (und_ok hE h3) (und_ok hE h5)
      have hge := grownCap_ge w (bytesOf l).size 0 el
      rw [bytesOf_size] at hge hrun
      obtain ⟨g1, g2⟩ := h.drew.new (grownCap w l.length 0 el) (bytesRow_rel (P := P) (E := E) (szE_ok hE h7 w).2 hge hl w.heap.size)
      refine ⟨_, _, _, g2, hrun, ?_, g1⟩
      rw [len_ok]
      exact den_slu_mk (pset_same _ _ _) (by simpa using hge) 0
    · cases h6
  · cases h4
end Go.Proofs.YteblflebjhncbaaGreatDoor
