/-
  A run by the kernel: literals of structs, conversions, comparisons.
-/
import Derived.Test.YteblflebjhncbaaGreatDoorE7
import Derived.Laws.BytesString
namespace Go.Proofs.YteblflebjhncbaaGreatDoor
open Go.RowKit

noncomputable def placesE (E : Env) (fs : List Field) : Option (List (Nat × Nat)) := List.rec (motive := fun _ => Option (List (Nat × Nat))) (some []) (fun f _ ih => ob (szE E f.type) fun s => ob ih fun r => some ((f.offset, s) :: r)) fs
theorem placesE_ok {P : Program} {E : Env} (hE : EnvOk P E) : ∀ {fs : List Field} {r : List (Nat × Nat)}, placesE E fs = some r → fs.mapM (fun f => (P.info? f.type).map fun i => (f.offset, i.size)) = some r
  | [], r, h => by cases h; rfl
  | f :: fs, r, h => by
    have h' : (ob (szE E f.type) fun s => ob (placesE E fs) fun r => some ((f.offset, s) :: r)) = some r := h
    obtain ⟨s, h1, h2⟩ := ob_eq.1 h'
    obtain ⟨r', h3, h4⟩ := ob_eq.1 h2
    cases h4
    obtain ⟨i, h5, h6⟩ := ob_eq.1 h1
    cases h6
    rw [List.mapM_cons, hE.ty _ _ h5, placesE_ok hE h3]
    rfl
noncomputable def bldE (E : Env) (t : TypeId) (parts : List (Nat × SV)) : Option SV := ob (zrE E t) fun z => ob (und E t) fun d => match d with
  | .struct fs => ob (placesE E fs.toList) fun pl => ob (fillE (fun i => nth i pl) parts (cellsOf z)) fun cs => oi (match z with | .tup _ => false | _ => true) (some (.agg cs))
  | .array _ e => ob (szE E e) fun s => ob (fillE (fun i => some (Nat.mul i s, s)) parts (cellsOf z)) fun cs => oi (match z with | .tup _ => false | _ => true) (some (.agg cs))
  | _ => none
theorem bldE_ok {P : Program} {E : Env} (hE : EnvOk P E) {ρ : Pl} {t : TypeId} {parts : List (Nat × SV)} {ps : List (Nat × Value)} {r : SV} (e : bldE E t parts = some r) (hp : denP ρ parts ps) (w : World) :
    ∃ u, (Instr.build t ps.toArray).run P w = .ok u w ∧ den ρ r = some u := by
  obtain ⟨z, h1, h2⟩ := ob_eq.1 e
  obtain ⟨d, h3, h4⟩ := ob_eq.1 h2
  obtain ⟨u, -, a2, it, a3, a4⟩ := zrE_ok hE h1 ρ w
  have hu := und_ok hE h3
  split at h4
  · rename_i fs
    obtain ⟨pl, h5, h6⟩ := ob_eq.1 h4
    obtain ⟨cs, h7, h8⟩ := ob_eq.1 h6
    obtain ⟨h9, h10⟩ := oi_eq.1 h8
    cases h10
    obtain ⟨rs, b1, b2, b3⟩ := fillE_ok (pl' := fun i => pl.toArray[i]?) (fun i y hy => by rw [nth_ok] at hy; simpa using hy) h7 hp (cellsOf_den a2) (cellsOf_one a2 (fun l hl => by rw [hl] at h9; cases h9))
    refine ⟨.agg rs.toArray, run_build w t _ _ ?_, den_agg_mk b2 b3⟩
    unfold Program.built
    simp only [a3, hu, a4, placesE_ok hE h5]
    simpa using b1
  · rename_i n el
    obtain ⟨s, h5, h6⟩ := ob_eq.1 h4
    obtain ⟨cs, h7, h8⟩ := ob_eq.1 h6
    obtain ⟨h9, h10⟩ := oi_eq.1 h8
    cases h10
    obtain ⟨i, h11, h12⟩ := ob_eq.1 h5
    cases h12
    obtain ⟨rs, b1, b2, b3⟩ := fillE_ok (pl' := fun j => some (j * i.size, i.size)) (fun j y hy => hy) h7 hp (cellsOf_den a2) (cellsOf_one a2 (fun l hl => by rw [hl] at h9; cases h9))
    refine ⟨.agg rs.toArray, run_build w t _ _ ?_, den_agg_mk b2 b3⟩
    unfold Program.built
    simp only [a3, hu, a4, hE.ty _ _ h11]
    simpa using b1
  · cases h4

/-- cells that are bytes. -/
noncomputable def u8of (v : SV) : Option Nat := match v with
  | .int .u8 (.ofNat x) => oi (Nat.blt x 256) (some x)
  | _ => none
theorem u8of_ok {v : SV} {x : Nat} (h : u8of v = some x) : v = .int .u8 (x : Int) ∧ x < 256 := by
  unfold u8of at h
  split at h
  · obtain ⟨h1, h2⟩ := oi_eq.1 h
    cases h2
    exact ⟨rfl, blt_true h1⟩
  · cases h
noncomputable def u8s (l : List SV) : Option (List Nat) := List.rec (motive := fun _ => Option (List Nat)) (some []) (fun v _ ih => ob (u8of v) fun x => ob ih fun r => some (x :: r)) l
theorem u8s_ok {ρ : Pl} : ∀ {l : List SV} {r : List Nat}, u8s l = some r → denL ρ l = some (r.map fun (x : Nat) => Value.int .u8 (x : Int)) ∧ (∀ x ∈ r, x < 256)
  | [], r, h => by cases h; exact ⟨denL_nil ρ, by simp⟩
  | v :: l, r, h => by
    have h' : (ob (u8of v) fun x => ob (u8s l) fun r => some (x :: r)) = some r := h
    obtain ⟨x, h1, h2⟩ := ob_eq.1 h'
    obtain ⟨r', h3, h4⟩ := ob_eq.1 h2
    cases h4
    obtain ⟨rfl, hx⟩ := u8of_ok h1
    obtain ⟨a, b⟩ := u8s_ok (ρ := ρ) h3
    refine ⟨denL_cons.2 ⟨_, _, den_int _ _ _, a, rfl⟩, ?_⟩
    intro y hy
    rcases List.mem_cons.1 hy with rfl | hy
    · exact hx
    · exact b y hy
variable [Orig]
/-- a row of cells is read. -/
theorem Emb.seg {P : Program} {ρ : Pl} {m : T SObj} {nx : Nat} {w0 : Base} {w : World} (h : Emb P ρ m nx w0 w) {b : Nat} {cs : List SV} (e : cellsE m b = some cs) {x : Nat × Nat} (hx : ρ b = some x) {o n : Nat} (hl : o + n ≤ cs.length) :
    ∃ us, denL ρ cs = some us ∧ (loadCells ⟨x.1, o, none⟩ n).run P w = .ok ((us.drop o).take n).toArray w ∧ ((us.drop o).take n).length = n ∧ ∀ j u, ((us.drop o).take n)[j]? = some u → w.cell? ((⟨x.1, o, none⟩ : Addr).add j) = some u := by
  obtain ⟨x', us, a1, a2, a3, a4, -⟩ := h.cells e
  rw [hx] at a1
  cases a1
  have hul := denL_len a2
  have hlen : ((us.drop o).take n).length = n := by rw [List.length_take, List.length_drop]; omega
  have hc : ∀ j u, ((us.drop o).take n)[j]? = some u → w.cell? ((⟨x.1, o, none⟩ : Addr).add j) = some u := fun j u hj => by
    rw [Addr.add_lit]
    refine a4 (o + j) u ?_
    rw [List.getElem?_take] at hj
    split at hj
    · rw [List.getElem?_drop] at hj; exact hj
    · cases hj
  have hrun := run_loadCells_list (P := P) w ⟨x.1, o, none⟩ ((us.drop o).take n) hc
  rw [hlen] at hrun
  exact ⟨us, a2, hrun, hlen, hc⟩
/-- a byte read at a place that is not known. -/
noncomputable def pixE (E : Env) (m : T SObj) (t : TypeId) (b o n : Nat) (x : SV) : Option SV := ob (agE E t) fun g => Bool.rec (motive := fun _ => Option SV) (ob (cellsE m b) fun cs => ob (u8s (tk n (drp o cs))) fun l => oi (Nat.beq (len l) n) (some (.tab l x))) none g
theorem pixE_ok {P : Program} {E : Env} (hE : EnvOk P E) {ρ : Pl} {m : T SObj} {nx : Nat} {w0 : Base} {w : World} (h : Emb P ρ m nx w0 w) {t : TypeId} {b o n : Nat} {x v : SV} (e : pixE E m t b o n x = some v) {u0 : Value} (hp : den ρ (.pix b o n x) = some u0) :
    ∃ u, (Instr.loadAt t u0).run P w = .ok u w ∧ den ρ v = some u := by
  unfold den at hp
  obtain ⟨k1, z, q, hx, z0, z1, hq, rfl⟩ := pixD_some hp
  obtain ⟨g, h1, h2⟩ := ob_eq.1 e
  cases g with
  | true => cases h2
  | false =>
    have h2' : (ob (cellsE m b) fun cs => ob (u8s (tk n (drp o cs))) fun l => oi (Nat.beq (len l) n) (some (SV.tab l x))) = some v := h2
    obtain ⟨cs, h3, h4⟩ := ob_eq.1 h2'
    obtain ⟨l, h5, h6⟩ := ob_eq.1 h4
    obtain ⟨h7, h8⟩ := oi_eq.1 h6
    cases h8
    rw [nbeq_iff, len_ok] at h7
    obtain ⟨y, us, a1, a2, a3, a4, -⟩ := h.cells h3
    rw [hq] at a1
    cases a1
    obtain ⟨b1, b2⟩ := u8s_ok (ρ := ρ) h5
    rw [tk_ok, drp_ok, denL_take n (denL_drop o a2)] at b1
    have b1' := Option.some.inj b1
    have hi : z.toNat < l.length := by omega
    have hc : us[o + z.toNat]? = some (.int .u8 ((l.getD z.toNat 0 : Nat) : Int)) := by
      have h9 : ((us.drop o).take n)[z.toNat]? = some (.int .u8 ((l.getD z.toNat 0 : Nat) : Int)) := by
        rw [b1', List.getElem?_map, List.getElem?_eq_getElem hi, List.getD_eq_getElem?_getD, List.getElem?_eq_getElem hi]; rfl
      rw [List.getElem?_take, if_pos z1, List.getElem?_drop] at h9
      exact h9
    refine ⟨.int .u8 ((l.getD z.toNat 0 : Nat) : Int), ?_, ?_⟩
    · simp only [Instr.loadAt, Instr.sureAddr, loadVar, Sem.run_bind, Sem.run_pure, Result.andThen_ok, agE_ok hE h1 w]
      simp [a4 _ _ hc]
    · unfold den
      rw [hx, tabD_mk z0 hi]
      have : l.getD z.toNat 0 < 256 := by
        rw [List.getD_eq_getElem?_getD, List.getElem?_eq_getElem hi]
        exact b2 _ (List.getElem_mem hi)
      rw [Nat.mod_eq_of_lt this]
noncomputable def convE (E : Env) (m : T SObj) (src dst : TypeId) (v : SV) : Option SV := ob (und E src) fun s => ob (und E dst) fun d => match d with
  | .int k => match v with
    | .int _ n => some (.int k (wr k n))
    | v => ob (ik v) fun _ => some (.cv k v)
  | .string => match v with
    | .str l => some (.str l)
    | .nslc => match s with
      | .slice e => ob (und E e) fun x => match x with
        | .int .u8 => some (.str [])
        | _ => none
      | _ => none
    | .slc b o n _ => match s with
      | .slice e => ob (und E e) fun x => match x with
        | .int .u8 => ob (cellsE m b) fun cs => ob (u8s (tk n (drp o cs))) fun r => oi (Nat.beq (len r) n) (some (.str r))
        | _ => none
      | _ => none
    | .slu b o n _ => match s with
      | .slice e => ob (und E e) fun x => match x with
        | .int .u8 => ob (cellsE m b) fun cs => ob (u8s (tk n (drp o cs))) fun r => oi (Nat.beq (len r) n) (some (.str r))
        | _ => none
      | _ => none
    | _ => none
  | _ => none
omit [Orig] in
theorem push_foldl : ∀ (l : List Nat) (s : ByteArray), (l.map fun (y : Nat) => (y : Int)).foldl (fun (r : ByteArray) (n : Int) => r.push (UInt8.ofNat n.toNat)) s = s ++ bytesOf l
  | [], s => by apply ByteArray.ext; simp [bytesOf]
  | x :: l, s => by
    rw [List.map_cons, List.foldl_cons, push_foldl l]
    apply ByteArray.ext
    simp [bytesOf, ByteArray.push]
theorem conv_bytes {P : Program} {ρ : Pl} {m : T SObj} {nx : Nat} {w0 : Base} {w : World} (h : Emb P ρ m nx w0 w) {b o n : Nat} (cap : Nat) {x : Nat × Nat} {cs : List SV} {r : List Nat} (h1 : cellsE m b = some cs) (hx : ρ b = some x) (h2 : u8s (tk n (drp o cs)) = some r) (h3 : Nat.beq (len r) n = true) :
    (Conv.bytesToString (.slice (some ⟨x.1, o, none⟩) n cap)).run P w = .ok (.string (bytesOf r)) w ∧ ∀ y ∈ r, y < 256 := by
  obtain ⟨b1, b2⟩ := u8s_ok (ρ := ρ) h2
  rw [nbeq_iff, len_ok] at h3
  have hl : n = 0 ∨ o + n ≤ cs.length := by
    have := denL_len b1
    rw [List.length_map, tk_ok, drp_ok, List.length_take, List.length_drop] at this
    omega
  refine ⟨?_, b2⟩
  have key : (loadCells ⟨x.1, o, none⟩ n).run P w = .ok ((r.map fun (y : Nat) => (y : Int)).map (Value.int .u8)).toArray w := by
    rcases hl with h0 | hl
    · subst h0
      have : r = [] := List.eq_nil_of_length_eq_zero h3
      subst this
      rfl
    · obtain ⟨us, a2, a5, -⟩ := h.seg h1 hx hl
      rw [tk_ok, drp_ok, denL_take n (denL_drop o a2)] at b1
      rw [a5, Option.some.inj b1, List.map_map]
      rfl
  rw [run_bytesToString (P := P) w ⟨x.1, o, none⟩ n cap _ key, push_foldl]
  simp
theorem convE_ok {P : Program} {E : Env} (hE : EnvOk P E) {ρ : Pl} {m : T SObj} {nx : Nat} {w0 : Base} {w : World} (h : Emb P ρ m nx w0 w) {src dst : TypeId} {v r : SV} {u0 : Value} (e : convE E m src dst v = some r) (hv : den ρ v = some u0) :
    ∃ u, (convert src dst u0).run P w = .ok u w ∧ den ρ r = some u := by
  obtain ⟨s, h1, h2⟩ := ob_eq.1 e
  obtain ⟨d, h3, h4⟩ := ob_eq.1 h2
  have hs := und_ok hE h1
  have hd := und_ok hE h3
  split at h4
  · rename_i k
    split at h4
    · rename_i k' n
      cases h4
      rw [den_int] at hv
      cases hv
      refine ⟨_, ?_, den_int _ _ _⟩
      simp only [convert, Sem.run_bind, run_underlying hs w, run_underlying hd w, Result.andThen_ok, Conv.intToInt, Sem.run_pure, wr_ok]
    · obtain ⟨k', h5, h6⟩ := ob_eq.1 h4
      cases h6
      obtain ⟨a, rfl⟩ := ik_ok h5 hv
      refine ⟨_, ?_, show den ρ (.cv k v) = some (.int k (k.wrap a)) by unfold den; rw [hv]; rfl⟩
      simp only [convert, Sem.run_bind, run_underlying hs w, run_underlying hd w, Result.andThen_ok, Conv.intToInt, Sem.run_pure]
  · split at h4
    · cases h4
      obtain ⟨rfl, hl⟩ := den_str hv
      refine ⟨_, ?_, hv⟩
      simp only [convert, Sem.run_bind, run_underlying hs w, run_underlying hd w, Result.andThen_ok, Sem.run_pure]
    · split at h4
      · obtain ⟨x, h5, h6⟩ := ob_eq.1 h4
        split at h6
        · cases h6
          rw [den_nslc] at hv
          cases hv
          have hx := und_ok hE h5
          refine ⟨.string .empty, ?_, ?_⟩
          · rw [run_convert_bytes_string w _ _ _ _ _ _ hs hx hd]
            rfl
          · rw [den_str_mk ρ (by simp)]; rfl
        · cases h6
      · cases h4
    · rename_i b o n c
      split at h4
      · obtain ⟨x, h5, h6⟩ := ob_eq.1 h4
        split at h6
        · obtain ⟨cs, h7, h8⟩ := ob_eq.1 h6
          obtain ⟨l, h9, h10⟩ := ob_eq.1 h8
          obtain ⟨h11, h12⟩ := oi_eq.1 h10
          cases h12
          obtain ⟨y, a1, rfl⟩ := den_slc hv
          obtain ⟨b1, b2⟩ := conv_bytes h c h7 a1 h9 h11
          refine ⟨_, ?_, den_str_mk ρ b2⟩
          rw [run_convert_bytes_string w _ _ _ _ _ _ hs (und_ok hE h5) hd, b1]
        · cases h6
      · cases h4
    · rename_i b o n c
      split at h4
      · obtain ⟨x, h5, h6⟩ := ob_eq.1 h4
        split at h6
        · obtain ⟨cs, h7, h8⟩ := ob_eq.1 h6
          obtain ⟨l, h9, h10⟩ := ob_eq.1 h8
          obtain ⟨h11, h12⟩ := oi_eq.1 h10
          cases h12
          obtain ⟨y, a1, -, rfl⟩ := den_slu hv
          obtain ⟨b1, b2⟩ := conv_bytes h (y.2 - c) h7 a1 h9 h11
          refine ⟨_, ?_, den_str_mk ρ b2⟩
          rw [run_convert_bytes_string w _ _ _ _ _ _ hs (und_ok hE h5) hd, b1]
        · cases h6
      · cases h4
    · cases h4
  · cases h4
end Go.Proofs.YteblflebjhncbaaGreatDoor
