/-
  A run by the kernel: of a function of several arguments that are not known; of a world of which something is known.
-/
import Derived.Test.YtpbikmlfhipckaaGreatDoorQED
import Derived.Shelf.Strings.Builder1
import Derived.Test.YtpbikmlfhipckaaGreatDoorQEE
namespace Go.Proofs.YtpbikmlfhipckaaGreatDoor
open Go.RowKit

def symL : List SK → Nat → List SV
  | [], _ => []
  | k :: t, i => .sym k i :: symL t (i + 1)
def fitL : List SK → List Value → Prop
  | [], [] => True
  | k :: ks, v :: vs => k.is v = true ∧ fitL ks vs
  | _, _ => False
theorem fitL_len : ∀ {ks : List SK} {vs : List Value}, fitL ks vs → vs.length = ks.length
  | [], [], _ => rfl
  | k :: ks, v :: vs, h => by rw [List.length_cons, List.length_cons, fitL_len h.2]
  | [], _ :: _, h => h.elim
  | _ :: _, [], h => h.elim
theorem symL_den {ρ : Pl} : ∀ {ks : List SK} {vs : List Value} {i : Nat}, fitL ks vs → (∀ j v, vs[j]? = some v → ρ.val (i + j) = some v) → denL ρ (symL ks i) = some vs
  | [], [], _, _, _ => denL_nil _
  | k :: ks, v :: vs, i, h, hv => by
    refine denL_cons.2 ⟨v, vs, ?_, symL_den h.2 (fun j u hj => ?_), rfl⟩
    · unfold den
      have h0 : ρ.val i = some v := hv 0 v rfl
      rw [h0, symD_mk h.1]
    · have := hv (j + 1) u (by simpa using hj)
      rwa [show i + (j + 1) = i + 1 + j by omega] at this
  | [], _ :: _, _, h, _ => h.elim
  | _ :: _, [], _, h, _ => h.elim
theorem n_run {P : Program} {E : Env} (hE : EnvOk P E) {I : CalF} (w : World) (hI : ∀ [o : Orig], o.W = w → FnOk P I) {n : Nat} {f : FuncId} (ks : List SK) {vs : List Value} (h : trueR (callE' E I n f (symL ks 0) .leaf ks.length) = true) (hv : fitL ks vs) :
    Calls P f vs.toArray w fun e w' => e = .returned (.bool true) ∧ Touch [] w w' := by
  cases hr : callE' E I n f (symL ks 0) .leaf ks.length with
  | none => rw [hr] at h; cases h
  | some r =>
    obtain ⟨v, m, x⟩ := r
    rw [hr] at h
    refine (sym_run hE w (fun i => vs[i]?) (nx := ks.length) (fun b hb _ => List.getElem?_eq_none (by rw [fitL_len hv]; exact hb)) (@hI ⟨w, fun i => vs[i]?⟩ rfl) (v := v) (by rw [hr]; rfl) (us := vs) (symL_den hv (fun j v hj => by rw [Nat.zero_add]; exact hj))).mono ?_
    rintro e w' ⟨ρ', u, -, rfl, h2, h3⟩
    cases v <;> try cases h
    rename_i b
    cases b <;> try cases h
    rw [den_bool] at h2
    cases h2
    exact ⟨rfl, h3⟩
/-- a closed call that answers true, in worlds like the one where the run began. -/
theorem yesP_ok [Orig] {P : Program} {g : FuncId} (R : World → Prop) (hR : ∀ w0 w _w' : World, w0.heap.size ≤ w.heap.size → (∀ k, k < w0.heap.size → w.heap[k]? = w0.heap[k]?) → R w0 → R w) (h0 : R Orig.W) (hg : ∀ w : World, R w → Calls P g #[] w fun e w' => e = .returned (.bool true) ∧ Touch [] w w') :
    ∀ args m nx r, yesI args m nx = some r → ∀ (ρ : Pl) (us : List Value) (w0 : Base) (w : World), denL ρ args = some us → Emb P ρ m nx w0 w →
    Calls P g us.toArray w fun e w' => ∃ ρ' u, e = .returned u ∧ Le ρ ρ' ∧ den ρ' r.1 = some u ∧ Emb P ρ' r.2.1 r.2.2 w0 w' := by
  intro args m nx r e ρ us w0 w hd hm
  unfold yesI at e
  split at e
  · cases e
    rw [denL_nil] at hd
    cases hd
    have hk : ∀ k, k < Orig.W.heap.size → w.heap[k]? = Orig.W.heap[k]? := fun k hk => by
      obtain ⟨o1, o2⟩ := hm.x.org k hk
      exact (hm.touch.block _ o1).2.trans o2
    have hs : Orig.W.heap.size ≤ w.heap.size := by
      rcases Nat.lt_or_ge w.heap.size Orig.W.heap.size with h | h
      · have := hk w.heap.size h
        rw [Array.getElem?_eq_none (Nat.le_refl _), Array.getElem?_eq_getElem h] at this
        cases this
      · exact h
    refine (hg w (hR _ w w hs hk h0)).mono ?_
    rintro e w' ⟨rfl, t⟩
    exact ⟨ρ, _, rfl, Le.refl ρ, den_bool _ _, hm.below (t.toBelow (Nat.le_refl _) (by simp))⟩
  · cases e
end Go.Proofs.YtpbikmlfhipckaaGreatDoor

namespace Go.Proofs.YtpbikmlfhipckaaGreatDoor
open Go.RowKit Go.Shelf

section
variable {P : Program} {ρ : Ren}
set_option maxHeartbeats 1000000 in
set_option maxRecDepth 100000 in
theorem bld_used (L : Lays.n240 P ρ) (X : Builder.X72 P ρ) (b o : Nat) (w : World) (h0 : w.cell? ⟨b, o, none⟩ = some (.pointer (some ⟨b, o, none⟩))) :
    Calls P (ρ.f 240) #[.pointer (some ⟨b, o, none⟩)] w fun e w' => e = .returned (.tuple #[]) ∧ w' = w := by
  obtain ⟨j, hj, _⟩ := Option.map_eq_some_iff.1 X.sizeBuilder
  have mixed := L.mixed
  have t72 := L.t72; have a72 := L.a72; have z72 := L.z72; have v72 := L.v72; have u72 := run_underlying L.t72
  have t70 := L.t70; have a70 := L.a70; have z70 := L.z70; have v70 := L.v70; have u70 := run_underlying L.t70
  have t9 := L.t9; have a9 := L.a9; have z9 := L.z9; have v9 := L.v9; have u9 := run_underlying L.t9
  have t4 := L.t4; have a4 := L.a4; have z4 := L.z4; have v4 := L.v4; have u4 := run_underlying L.t4
  have t164 := L.t164; have a164 := L.a164; have z164 := L.z164; have v164 := L.v164; have u164 := run_underlying L.t164
  go_enter L.f240, Body.n240_ntmps ρ
  go_wp2
  rw [Lib.run_neq_ptr_same w _ L.t70 hj]
  go_wp2
  go_end0
  exact ⟨rfl, rfl⟩
set_option maxHeartbeats 1000000 in
set_option maxRecDepth 100000 in
theorem bld_fresh (L : Lays.n240 P ρ) (X : Builder.X72 P ρ) (b o : Nat) (w : World) (h0 : w.cell? ⟨b, o, none⟩ = some (.pointer none)) {e : TypeId} {k : Nat} (hsh : w.shape? b = some (e, k)) (hok : o < k) (hl : liesAt P P.depth e (k / P.cellsOf e) o (ρ.t 72) 1 = true) (hfz : w.frozen? ⟨b, o, none⟩ = false) :
    Calls P (ρ.f 240) #[.pointer (some ⟨b, o, none⟩)] w fun e w' => e = .returned (.tuple #[]) ∧ w' = w.setCell ⟨b, o, none⟩ (.pointer (some ⟨b, o, none⟩)) := by
  obtain ⟨j, hj, hjs⟩ := Option.map_eq_some_iff.1 X.sizeBuilder
  have mixed := L.mixed
  have t72 := L.t72; have a72 := L.a72; have z72 := L.z72; have v72 := L.v72; have u72 := run_underlying L.t72
  have t70 := L.t70; have a70 := L.a70; have z70 := L.z70; have v70 := L.v70; have u70 := run_underlying L.t70
  have t9 := L.t9; have a9 := L.a9; have z9 := L.z9; have v9 := L.v9; have u9 := run_underlying L.t9
  have t4 := L.t4; have a4 := L.a4; have z4 := L.z4; have v4 := L.v4; have u4 := run_underlying L.t4
  have t164 := L.t164; have a164 := L.a164; have z164 := L.z164; have v164 := L.v164; have u164 := run_underlying L.t164
  go_enter L.f240, Body.n240_ntmps ρ
  go_wp2
  rw [Lib.run_to_unsafe w ⟨b, o, none⟩ L.t70 L.t164 hj (by rw [hjs]; decide) hsh hok]
  simp only [Result.andThen]
  rw [Oper.upon_value]
  go_wp2
  rw [run_callFunc_extern L.f276 (by kernel_rfl) (by kernel_rfl) (by kernel_rfl) (e := Extern.AbiNoEscape.same) (by kernel_rfl)]
  rw [Lib.run_noEscape]
  simp only [Result.andThen]
  rw [Oper.upon_value]
  go_wp2
  rw [Lib.run_from_unsafe w ⟨b, o, none⟩ L.t164 L.t70 hj hsh hl]
  simp only [Result.andThen]
  rw [Oper.upon_value]
  go_wp2
  go_end0
  exact ⟨rfl, rfl⟩
set_option maxHeartbeats 1000000 in
set_option maxRecDepth 100000 in
theorem bld_string (L : Lays.n169 P ρ) (X : Builder.Extra P ρ) (b o g cap : Nat) (l : List UInt8) (w : World) (c1 : w.drew.cell? ⟨b, o + 1, none⟩ = some (.slice (some ⟨g, 0, none⟩) l.length cap)) (h0 : l ≠ []) (hcap : cap ≠ 0) {cells : Nat} (hsh : w.shape? g = some (ρ.t 5, cells)) (hn : l.length ≤ cells) (h63 : l.length ≤ 9223372036854775807)
    (hcell : ∀ j x, l[j]? = some x → w.cell? ((⟨g, 0, none⟩ : Addr).add j) = some (.int .u8 x.toNat)) :
    Calls P (ρ.f 169) #[.pointer (some ⟨b, o, none⟩)] w fun e w' => e = .returned (.string ⟨l.toArray⟩) ∧ w' = w.drew.freeze ⟨g, 0, none⟩ l.length := by
  have hl0 : l.length ≠ 0 := by simpa using h0
  have hSD : (Builtin.unsafeSliceData_ #[(ρ.t 37)] (ρ.t 127) #[.slice (some ⟨g, 0, none⟩) l.length cap]).run P w.drew = .ok (.pointer (some ⟨g, 0, none⟩)) w.drew :=
    Lib.run_unsafeSliceData_row _ _ _ _ _ _ hcap
  have hUS : (Builtin.unsafeString_ #[(ρ.t 127), (ρ.t 3)] (ρ.t 9) #[.pointer (some ⟨g, 0, none⟩), .int .i64 l.length]).run P w.drew = .ok (.string ⟨l.toArray⟩) (w.drew.freeze ⟨g, 0, none⟩ l.length) :=
    Lib.run_unsafeString_row w.drew (ρ.t 127) (ρ.t 3) (ρ.t 9) (ρ.t 5) L.t127 X.cellsByte g cells hsh l h0 hn h63 hcell
  have mixed := L.mixed
  have t72 := L.t72; have a72 := L.a72; have z72 := L.z72; have v72 := L.v72; have u72 := run_underlying L.t72
  have t70 := L.t70; have a70 := L.a70; have z70 := L.z70; have v70 := L.v70; have u70 := run_underlying L.t70
  have t37 := L.t37; have a37 := L.a37; have z37 := L.z37; have v37 := L.v37; have u37 := run_underlying L.t37
  have t127 := L.t127; have a127 := L.a127; have z127 := L.z127; have v127 := L.v127; have u127 := run_underlying L.t127
  have t3 := L.t3; have a3 := L.a3; have z3 := L.z3; have v3 := L.v3; have u3 := run_underlying L.t3
  have t9 := L.t9; have a9 := L.a9; have z9 := L.z9; have v9 := L.v9; have u9 := run_underlying L.t9
  have t5 := X.t5; have a5 := X.a5; have z5 := X.z5; have v5 := X.v5; have u5 := run_underlying X.t5
  go_enter L.f169, Body.n169_ntmps ρ
  go_wp2
  go_region_o
  all_goals (go_wp2; go_ret; exact ⟨rfl, rfl⟩)
set_option maxHeartbeats 1000000 in
set_option maxRecDepth 100000 in
theorem bld_string_nil (L : Lays.n169 P ρ) (X : Builder.Extra P ρ) (b o : Nat) (w : World) (c1 : w.drew.cell? ⟨b, o + 1, none⟩ = some (.slice none 0 0)) :
    Calls P (ρ.f 169) #[.pointer (some ⟨b, o, none⟩)] w fun e w' => e = .returned (.string .empty) ∧ w' = w.drew := by
  have hUS := Any.unsafeString_none L X
  have mixed := L.mixed
  have t72 := L.t72; have a72 := L.a72; have z72 := L.z72; have v72 := L.v72; have u72 := run_underlying L.t72
  have t70 := L.t70; have a70 := L.a70; have z70 := L.z70; have v70 := L.v70; have u70 := run_underlying L.t70
  have t37 := L.t37; have a37 := L.a37; have z37 := L.z37; have v37 := L.v37; have u37 := run_underlying L.t37
  have t127 := L.t127; have a127 := L.a127; have z127 := L.z127; have v127 := L.v127; have u127 := run_underlying L.t127
  have t3 := L.t3; have a3 := L.a3; have z3 := L.z3; have v3 := L.v3; have u3 := run_underlying L.t3
  have t9 := L.t9; have a9 := L.a9; have z9 := L.z9; have v9 := L.v9; have u9 := run_underlying L.t9
  have t5 := X.t5; have a5 := X.a5; have z5 := X.z5; have v5 := X.v5; have u5 := run_underlying X.t5
  have hSD : (Builtin.unsafeSliceData_ #[(ρ.t 37)] (ρ.t 127) #[.slice none 0 0]).run P w.drew = .ok (.pointer none) w.drew := rfl
  go_enter L.f169, Body.n169_ntmps ρ
  go_wp2
  go_region_o
  all_goals (go_wp2; go_ret; exact ⟨rfl, rfl⟩)
end

variable [Orig]
/-- a block that memory does not speak of turns. -/
theorem Emb.aside {P : Program} {ρ : Pl} {m : T SObj} {nx : Nat} {w0 : Base} {w : World} (h : Emb P ρ m nx w0 w) {k : Nat} (hp : ¬ w0.pr k) (hn : ∀ b x, (m.get b).isSome = true → ρ b = some x → x.1 ≠ k) {w' : World}
    (h1 : w'.os = w.os) (h2 : w'.tape = w.tape) (h3 : w'.output = w.output) (hs : w'.heap.size = w.heap.size) (hk : ∀ j, j ≠ k → w'.heap[j]? = w.heap[j]?) : Emb P ρ m nx w0 w' := by
  refine ⟨⟨h1.trans h.touch.os, h2.trans h.touch.tape, h3.trans h.touch.output, by rw [hs]; exact h.touch.size, fun j hj => by rw [hk j (fun e => hp (e ▸ hj))]; exact h.touch.block j hj⟩, ?_, h.inj, h.fresh, fun b x hb => by rw [hs]; exact h.old b x hb, h.hole, h.x⟩
  intro b o hb
  obtain ⟨x, ob, a1, a2, a3, a4⟩ := h.obj b o hb
  exact ⟨x, ob, a1, a2, (hk x.1 (hn b x (by rw [hb]; rfl) a1)).trans a3, a4⟩
/-- the bytes of a text that a block bears are frozen: memory speaks of it no more. -/
theorem Emb.froze {P : Program} {ρ : Pl} {m : T SObj} {nx : Nat} {w0 : Base} {w : World} (h : Emb P ρ m nx w0 w) {b : Nat} {o : SObj} (hb : m.get b = some o) {x : Nat × Nat} (hx : ρ b = some x) (n : Nat) : Emb P ρ (m.put none b) nx w0 (w.freeze ⟨x.1, 0, none⟩ n) := by
  obtain ⟨x', ob, a1, a2, a3, a4⟩ := h.obj b o hb
  rw [hx] at a1
  cases a1
  have e := h.erase b
  unfold World.freeze
  split
  · exact e
  · refine e.aside a2 (fun b' y hb' hy he => ?_) rfl rfl rfl (by simp) (fun j hj => by simp only [Array.getElem?_modify]; rw [if_neg (fun e => hj e.symm)])
    rw [T.get_put] at hb'
    by_cases e : b' = b
    · rw [if_pos e] at hb'; cases hb'
    · rw [if_neg e] at hb'
      exact e (h.inj b' b y x hb' (by rw [hb]; rfl) hy hx he)
omit [Orig] in
theorem strC_lt {ρ : Pl} {n : Nat} {cs : List SV} {us : List Value} {r : SV} (e : strC n cs = some r) (hd : denC ρ cs = some us) : ∃ l : List Nat, us = l.map (fun (x : Nat) => Value.int .u8 (x : Int)) ∧ l.length = n ∧ den ρ r = some (.string (bytesOf l)) ∧ ∀ x ∈ l, x < 256 := by
  have hlen := denC_len hd
  unfold strC at e
  cases hu : u8s cs with
  | some l =>
    rw [hu] at e
    obtain ⟨h1, h2⟩ := oi_eq.1 (show oi (Nat.beq (lenC cs) n) (some (SV.str l)) = some r from e)
    cases h2
    rw [nbeq_iff] at h1
    obtain ⟨rfl, b2⟩ := u8s_ok hu hd
    rw [List.length_map] at hlen
    exact ⟨l, rfl, by omega, den_str_mk ρ b2, b2⟩
  | none =>
    rw [hu] at e
    obtain ⟨h1, h2⟩ := oi_eq.1 (show oi (Nat.beq (lenC cs) n) (oi (allQ (expC cs)) (some (SV.strs (expC cs)))) = some r from e)
    obtain ⟨h3, h4⟩ := oi_eq.1 h2
    cases h4
    rw [nbeq_iff] at h1
    obtain ⟨l, rfl, hl⟩ := allQ_bytes h3 (expC_den hd)
    refine ⟨l, rfl, ?_, den_strs_mk (expC_den hd) hl, hl⟩
    rw [List.length_map] at hlen
    omega
noncomputable def bccI (lies : TypeId → Nat → Nat → Bool) (args : List SV) (m : T SObj) (nx : Nat) : Option Res := match args with
  | [.ptr b o] => ob (m.get b) fun x => match x with
    | .cells cs e false => ob (nthC o cs) fun v => match v with
      | .nptr => oi (lies e (lenC cs) o) (oi (Nat.blt o (lenC cs)) (some (.tup [], m.put (some (.cells (lay o [.ptr b o] cs) e false)) b, nx)))
      | .ptr b' o' => oi (Nat.beq b b') (oi (Nat.beq o o') (some (.tup [], m, nx)))
      | _ => none
    | _ => none
  | _ => none
noncomputable def bstR (t5 : TypeId) (m : T SObj) (nx g p n : Nat) : Option Res := oi (Nat.beq p 0) (oi (Nat.blt 0 n) (oi (Nat.ble n 1048576) (ob (m.get g) fun x => match x with
  | .cells cs e _ => oi (Nat.beq e t5) (oi (Nat.ble n (lenC cs)) (ob (strC n (tkC n cs)) fun r => some (r, m.put none g, nx)))
  | _ => none)))
noncomputable def bstI (t5 : TypeId) (args : List SV) (m : T SObj) (nx : Nat) : Option Res := match args with
  | [.ptr b o] => ob (cellsE m b) fun cs => ob (nthC (Nat.succ o) cs) fun v => match v with
    | .nslc => some (.str [], m, nx)
    | .slc g p n c => oi (Nat.blt 0 c) (bstR t5 m nx g p n)
    | .slu g p n _ => bstR t5 m nx g p n
    | _ => none
  | _ => none
theorem bccI_ok {P : Program} {R : Ren} (L : Lays.n240 P R) (X : Builder.X72 P R) {lies : TypeId → Nat → Nat → Bool} (hl : ∀ e k o, lies e k o = true → liesAt P P.depth e (k / P.cellsOf e) o (R.t 72) 1 = true) :
    ∀ args m nx r, bccI lies args m nx = some r → ∀ (ρ : Pl) (us : List Value) (w0 : Base) (w : World), denL ρ args = some us → Emb P ρ m nx w0 w →
    Calls P (R.f 240) us.toArray w fun e w' => ∃ ρ' u, e = .returned u ∧ Le ρ ρ' ∧ den ρ' r.1 = some u ∧ Emb P ρ' r.2.1 r.2.2 w0 w' := by
  intro args m nx r e ρ us w0 w hd hm
  unfold bccI at e
  split at e
  case h_2 => cases e
  rename_i b o
  obtain ⟨u1, us1, d1, d2, rfl⟩ := denL_cons.1 hd
  rw [denL_nil] at d2
  cases d2
  obtain ⟨x, hx, rfl⟩ := den_ptr d1
  obtain ⟨ox, h1, h2⟩ := ob_eq.1 e
  split at h2
  case h_2 => cases h2
  rename_i cs te
  obtain ⟨v, h3, h4⟩ := ob_eq.1 h2
  obtain ⟨x', ob', a1, a2, a3, a4⟩ := hm.obj b _ h1
  rw [hx] at a1
  cases a1
  cases ob' <;> try exact a4.elim
  rename_i arr te' z
  obtain ⟨rfl, ⟨vs, k1, k2⟩, ⟨k3, k4⟩, k5⟩ := a4
  rw [if_neg (by simp)] at k2
  cases k4 rfl
  obtain ⟨q, q1, q2⟩ := denC_nth o k1 h3
  have hq : arr[o]? = some q := by rw [← Array.getElem?_toList, k2]; exact q2
  have hc : w.cell? ⟨x.1, o, none⟩ = some q := by rw [cell_of_row w x.1 o arr _ _ a3]; exact hq
  have hlen : arr.size = lenC cs := by rw [← denC_len k1, ← k2]; simp
  split at h4
  · obtain ⟨h5, h6⟩ := oi_eq.1 h4
    obtain ⟨h7, h8⟩ := oi_eq.1 h6
    cases h8
    have h7 : o < lenC cs := blt_true h7
    have e0 : q = .pointer none := by simpa [den] using q1.symm
    subst e0
    have hf : w.frozen? ⟨x.1, o, none⟩ = false := by unfold World.frozen?; simp only [a3]; simp
    obtain ⟨w', p1, p2⟩ := hm.write h1 hx (p := [.ptr b o]) (ps := [.pointer (some ⟨x.1, o, none⟩)]) (denC_cons.2 ⟨_, _, by rw [cellV_one rfl, den_ptr_mk hx]; rfl, denC_nil _, rfl⟩) rfl (o := o) (by show o + (wdC (.ptr b o) + 0) ≤ _; exact h7)
    have e1 : w' = w.setCell ⟨x.1, o, none⟩ (.pointer (some ⟨x.1, o, none⟩)) := by
      have : (storeCells ⟨x.1, o, none⟩ [.pointer (some ⟨x.1, o, none⟩)]).run P w = .ok () (w.setCell ⟨x.1, o, none⟩ (.pointer (some ⟨x.1, o, none⟩))) := by
        have h9 := run_storeCells_cells (P := P) x.1 o [.pointer (some ⟨x.1, o, none⟩)] 0 w (fun j hj => by
          have hj : j < 1 := hj
          obtain rfl : j = 0 := by omega
          simp [hc]) (fun j hj => by
          have hj : j < 1 := hj
          obtain rfl : j = 0 := by omega
          simpa using hf) (by simp [Value.oneCell'])
        simpa [World.setCells] using h9
      rw [this] at p1
      injection p1 with _ p1
      exact p1.symm
    refine (bld_fresh L X x.1 o w hc (e := te') (k := lenC cs) (by simp [World.shape?, a3, hlen]) h7 (hl _ _ _ h5) hf).mono ?_
    rintro e w2 ⟨rfl, rfl⟩
    exact ⟨ρ, _, rfl, Le.refl ρ, by simp [den, denL], e1 ▸ p2⟩
  · rename_i b' o'
    obtain ⟨h5, h6⟩ := oi_eq.1 h4
    obtain ⟨h7, h8⟩ := oi_eq.1 h6
    cases h8
    rw [nbeq_iff] at h5 h7
    subst h5 h7
    obtain ⟨y, y1, rfl⟩ := den_ptr q1
    rw [hx] at y1
    cases y1
    refine (bld_used L X x.1 o w hc).mono ?_
    rintro e w2 ⟨rfl, rfl⟩
    exact ⟨ρ, _, rfl, Le.refl ρ, by simp [den, denL], hm⟩
  · cases h4
theorem bstI_ok {P : Program} {R : Ren} (L : Lays.n169 P R) (X : Builder.Extra P R) :
    ∀ args m nx r, bstI (R.t 5) args m nx = some r → ∀ (ρ : Pl) (us : List Value) (w0 : Base) (w : World), denL ρ args = some us → Emb P ρ m nx w0 w →
    Calls P (R.f 169) us.toArray w fun e w' => ∃ ρ' u, e = .returned u ∧ Le ρ ρ' ∧ den ρ' r.1 = some u ∧ Emb P ρ' r.2.1 r.2.2 w0 w' := by
  intro args m nx r e ρ us w0 w hd hm
  unfold bstI at e
  split at e
  case h_2 => cases e
  rename_i b o
  obtain ⟨u1, us1, d1, d2, rfl⟩ := denL_cons.1 hd
  rw [denL_nil] at d2
  cases d2
  obtain ⟨x, hx, rfl⟩ := den_ptr d1
  obtain ⟨cs, h1, h2⟩ := ob_eq.1 e
  obtain ⟨v, h3, h4⟩ := ob_eq.1 h2
  have hmd : Emb P ρ m nx w0 w.drew := hm.drew
  have key : ∃ q, den ρ v = some q ∧ w.drew.cell? ⟨x.1, o + 1, none⟩ = some q := by
    obtain ⟨x', us, g1, g2, g3, g4, -⟩ := hmd.cells h1
    rw [hx] at g1
    cases g1
    obtain ⟨q', p1, p2⟩ := denC_nth (o + 1) g2 h3
    exact ⟨q', p1, g4 _ _ p2⟩
  obtain ⟨q0, kq, kc⟩ := key
  have main : ∀ g p n c, bstR (R.t 5) m nx g p n = some r → (∃ y, ρ g = some y ∧ q0 = .slice (some ⟨y.1, p, none⟩) n c) → c ≠ 0 → Calls P (R.f 169) #[.pointer (some ⟨x.1, o, none⟩)] w fun e w' => ∃ ρ' u, e = .returned u ∧ Le ρ ρ' ∧ den ρ' r.1 = some u ∧ Emb P ρ' r.2.1 r.2.2 w0 w' := by
    intro g p n c h ⟨y, hy, hv⟩ hc0
    subst hv
    obtain ⟨h5, h6⟩ := oi_eq.1 h
    obtain ⟨h7, h8⟩ := oi_eq.1 h6
    obtain ⟨h9, h10⟩ := oi_eq.1 h8
    obtain ⟨ox, h11, h12⟩ := ob_eq.1 h10
    split at h12
    case h_2 => cases h12
    rename_i gs te opn
    obtain ⟨h13, h14⟩ := oi_eq.1 h12
    obtain ⟨h15, h16⟩ := oi_eq.1 h14
    obtain ⟨s, h17, h18⟩ := ob_eq.1 h16
    cases h18
    rw [nbeq_iff] at h5 h13
    subst h5 h13
    have h7 : 0 < n := blt_true h7
    rw [nble_iff] at h15 h9
    obtain ⟨y', ob', a1, a2, a3, a4⟩ := hm.obj g _ h11
    rw [hy] at a1
    cases a1
    cases ob' <;> try exact a4.elim
    rename_i arr te' z
    obtain ⟨rfl, ⟨vs, k1, k2⟩, ⟨k3, k4⟩, k5⟩ := a4
    have hvl := denC_len k1
    have ktk : arr.toList.take vs.length = vs := by
      by_cases ho : opn = true
      · rw [if_pos ho] at k2; exact k2.1
      · rw [if_neg ho] at k2; rw [k2, List.take_length]
    obtain ⟨l, l1, l2, l3, hl256⟩ := strC_lt h17 (denC_tk n k1)
    have hsz : vs.length ≤ arr.size := by
      have := congrArg List.length ktk
      rw [List.length_take] at this
      have h6 : arr.toList.length = arr.size := by simp
      omega
    have hlv : (l.map UInt8.ofNat).length = n := by simpa using l2
    refine (bld_string L X x.1 o y.1 c (l.map UInt8.ofNat) w (by rw [hlv]; exact kc) (by intro h0; rw [h0] at hlv; simp at hlv; omega) hc0 (cells := arr.size) (by simp [World.shape?, a3]) (by omega) (by omega) ?_).mono ?_
    · intro j z hz
      rw [List.getElem?_map] at hz
      obtain ⟨q, q1, rfl⟩ := Option.map_eq_some_iff.1 hz
      have hj : j < l.length := (List.getElem?_eq_some_iff.1 q1).1
      have e2 : arr.toList[j]? = some (.int .u8 (q : Int)) := by
        have e3 : (vs.take n)[j]? = some (.int .u8 (q : Int)) := by rw [l1, List.getElem?_map, q1]; rfl
        rw [List.getElem?_take_of_lt (by omega)] at e3
        rw [← ktk, List.getElem?_take_of_lt (by omega)] at e3
        exact e3
      have e4 : ((⟨y.1, 0, none⟩ : Addr).add j) = ⟨y.1, j, none⟩ := by
        unfold Addr.add
        split
        · rename_i h0; rw [h0]
        · simp
      rw [e4, cell_of_row w y.1 j arr _ _ a3, ← Array.getElem?_toList, e2]
      have := hl256 q (List.mem_of_getElem? q1)
      simp [Nat.mod_eq_of_lt this]
    · rintro e w2 ⟨rfl, rfl⟩
      rw [hlv]
      refine ⟨ρ, _, rfl, Le.refl ρ, ?_, hmd.froze h11 hy n⟩
      rw [l3]; rfl
  clear h3
  split at h4
  · cases h4
    rw [den_nslc] at kq
    cases kq
    refine (bld_string_nil L X x.1 o w kc).mono ?_
    rintro e w2 ⟨rfl, rfl⟩
    exact ⟨ρ, _, rfl, Le.refl ρ, by rw [den_str_mk ρ (by simp)]; rfl, hmd⟩
  · rename_i g p n c
    obtain ⟨h5, h6⟩ := oi_eq.1 h4
    have h5 : 0 < c := blt_true h5
    obtain ⟨y, hy, rfl⟩ := den_slc kq
    exact main g p n c h6 ⟨y, hy, rfl⟩ (by omega)
  · rename_i g p n k
    obtain ⟨y, hy, hk, rfl⟩ := den_slu kq
    have h5 : 0 < n := blt_true (oi_eq.1 (oi_eq.1 h4).2).1
    exact main g p n _ h4 ⟨y, hy, rfl⟩ (by omega)
  · cases h4
end Go.Proofs.YtpbikmlfhipckaaGreatDoor

namespace Go.Proofs.YtpbikmlfhipckaaGreatDoor
open Go.RowKit

theorem gen_new {P : Program} {E : Env} (hE : EnvOk P E) {I : CalF} (hI : ∀ [Orig], FnOk P I) {n N K : Nat} {S : Smy} {outs : List (Nat × List SV × TypeId)} (hrun : genOk E I n N K S outs = true) (hk : S.blks.length ≤ S.nx0) (V : Nat → Option Value) (hV : ∀ b, S.nx0 ≤ b → b < big → V b = none)
    (hL : ∀ W, @LgOk ⟨W, V⟩ (ofA S.log).get) (w : World) {bl : List Nat} (hlen : bl.length = S.blks.length) (hnd : bl.Nodup) (hone : ∀ x ∈ S.blks, x.pre.all SV.one = true)
    (hat : ∀ (j b : Nat) (x : Blk), bl[j]? = some b → S.blks[j]? = some x → ∃ us, denL (plOf bl V) x.pre = some us ∧ At w b x.e us) {us : List Value} (hd : denL (plOf bl V) S.args = some us) :
    Calls P S.f us.toArray w fun e w' => ∃ ρ' u, e = .returned u ∧ Le (plOf bl V) ρ' ∧ den ρ' S.v = some u ∧ Touch bl w w' ∧ (∀ (j b : Nat) (x : Blk), bl[j]? = some b → S.blks[j]? = some x → ∃ us, denL ρ' x.post = some us ∧ At w' b x.e us)
      ∧ ∀ x ∈ outs, ∃ y us, ρ' x.1 = some y ∧ denL ρ' x.2.1 = some us ∧ At w' y.1 x.2.2 us ∧ (w.heap.size ≤ y.1 ∨ x.1 < S.blks.length) := by
  letI : Orig := ⟨{ w with heap := #[] }, V⟩
  let pr : Nat → Prop := fun j => j < w.heap.size ∧ j ∉ bl
  have blk : ∀ {j : Nat} {x : Nat × Nat}, plOf bl V j = some x → bl[j]? = some x.1 := by
    intro j x h
    obtain ⟨b, h1, h2⟩ := Option.map_eq_some_iff.1 (show (bl[j]?).map (fun b => (b, 0)) = some x from h)
    rw [h1, ← h2]
  have get : ∀ {j : Nat} {x : Nat × Nat}, plOf bl V j = some x → ∃ y, S.blks[j]? = some y := by
    intro j x h
    have := (List.getElem?_eq_some_iff.1 (blk h)).1
    exact ⟨_, List.getElem?_eq_getElem (by omega)⟩
  have hm0 : Emb P (plOf bl V) (memOf S.blks 0 .leaf) S.nx0 ⟨w, pr, fun _ => False⟩ w := by
    refine ⟨⟨rfl, rfl, rfl, Nat.le_refl _, fun k hk => ⟨hk.1, rfl⟩⟩, ?_, fun b b' x x' _ _ hx hx' he => ?_, fun b hb => ⟨?_, ?_⟩, fun b x hx => ?_, fun b hb => hb.elim, hV, fun i v h => h, fun k hk => ?_⟩
    · intro b o ho
      obtain ⟨x, hx, rfl⟩ := memOf_blk ho
      have hb : b < bl.length := by have := (List.getElem?_eq_some_iff.1 hx).1; omega
      have hbl : bl[b]? = some bl[b] := List.getElem?_eq_getElem hb
      obtain ⟨us, h1, h2⟩ := hat b _ x hbl hx
      obtain ⟨ob, h3, h4⟩ := at_obj (P := P) h1 (hone x (List.mem_of_getElem? hx)) h2 0
      exact ⟨_, ob, plOf_at hbl, fun hp => hp.2 (List.getElem_mem hb), h3, h4⟩
    · have h1 := blk hx
      have h2 := blk hx'
      rw [← he] at h2
      exact (List.getElem?_inj (List.getElem?_eq_some_iff.1 h1).1 hnd).1 (h1.trans h2.symm)
    · show (bl[b]?).map _ = none
      rw [List.getElem?_eq_none (by omega)]; rfl
    · rw [memOf_get, if_neg (by omega), T.get_leaf]
    · obtain ⟨y, hy⟩ := get hx
      obtain ⟨us, -, h2⟩ := hat b _ y (blk hx) hy
      exact h2.lt
    · have h0 : k < 0 := hk
      omega
  unfold genOk at hrun
  cases hr : callN E I (hdE (ofA S.log).get N K) n S.f S.args (memOf S.blks 0 .leaf) S.nx0 with
  | none => rw [hr] at hrun; cases hrun
  | some q =>
  obtain ⟨v, ms, nxs⟩ := q
  rw [hr] at hrun
  simp only [Bool.and_eq_true] at hrun
  have hv := svEq_ok hrun.1
  subst hv
  have hend := endB_ok hrun.2.1
  have hout := outB_ok hrun.2.2
  refine (callN_ok hE hI (hdE_ok (hL _) N K) n S.f S.args _ S.nx0 _ hr _ us _ w hd hm0).mono ?_
  rintro e w' ⟨ρ', u, rfl, l1, l2, l3⟩
  refine ⟨ρ', u, rfl, l1, l2, ⟨l3.touch.os, l3.touch.tape, l3.touch.output, l3.touch.size, fun k h1 h2 => (l3.touch.block k ⟨h1, h2⟩).2⟩, fun j b x hb hx => ?_, fun x hx => ?_⟩
  · obtain ⟨h1, h1o⟩ := hend j x hx
    rw [Nat.zero_add] at h1
    obtain ⟨y, ob, g1, -, g3, g4⟩ := l3.obj j _ h1
    have g5 := l1 j _ (plOf_at hb)
    rw [g5] at g1
    cases g1
    exact obj_at g3 g4 h1o
  · obtain ⟨y, ob, g1, g2, g3, g4⟩ := l3.obj x.1 _ (hout x hx).1
    obtain ⟨us, g5, g6⟩ := obj_at g3 g4 (hout x hx).2
    refine ⟨y, us, g1, g5, g6, ?_⟩
    by_cases h : y.1 ∈ bl
    · obtain ⟨i, hi, hy⟩ := List.mem_iff_getElem.1 h
      have hbi : bl[i]? = some y.1 := by rw [List.getElem?_eq_getElem hi, hy]
      have hx2 : S.blks[i]? = some (S.blks[i]'(by omega)) := List.getElem?_eq_getElem (by omega)
      obtain ⟨h1, -⟩ := hend i _ hx2
      rw [Nat.zero_add] at h1
      have hc := l3.inj x.1 i y (y.1, 0) (by rw [(hout x hx).1]; rfl) (by rw [h1]; rfl) g1 (l1 i _ (plOf_at hbi)) rfl
      exact .inr (by omega)
    · exact .inl (Nat.le_of_not_lt fun hlt => g2 ⟨hlt, h⟩)
end Go.Proofs.YtpbikmlfhipckaaGreatDoor

namespace Go.Proofs.YtpbikmlfhipckaaGreatDoor
open Go.RowKit

noncomputable def outB2 (m : T SObj) (l : List (Nat × List SV × TypeId)) : Bool := List.rec (motive := fun _ => Bool) true (fun x _ ih => and (match m.get x.1 with
  | some (.cells cs e false) => and (Nat.beq e x.2.2) (svEqL cs x.2.1)
  | _ => false) ih) l
theorem outB2_ok {m : T SObj} : ∀ {l : List (Nat × List SV × TypeId)}, outB2 m l = true → ∀ x ∈ l, m.get x.1 = some (.cells x.2.1 x.2.2 false)
  | [], _, x, hx => by cases hx
  | y :: l, h, x, hx => by
    have h' : and (match m.get y.1 with
      | some (.cells cs e false) => and (Nat.beq e y.2.2) (svEqL cs y.2.1)
      | _ => false) (outB2 m l) = true := h
    simp only [Bool.and_eq_true] at h'
    obtain ⟨h1, h2⟩ := h'
    rcases List.mem_cons.1 hx with rfl | hx
    · split at h1
      · rename_i cs e hm
        simp only [Bool.and_eq_true, nbeq_iff] at h1
        rw [hm, h1.1, svEqL_ok h1.2]
      · cases h1
    · exact outB2_ok h2 x hx
noncomputable def genOk2 (E : Env) (I : CalF) (n N K : Nat) (S : Smy) (outs : List (Nat × List SV × TypeId)) : Bool := match callN E I (hdE (ofA S.log).get N K) n S.f S.args (memOf S.blks 0 .leaf) S.nx0 with
  | some (v, m, _) => and (svEq v S.v) (and (endB m S.blks 0) (outB2 m outs))
  | none => false
theorem obj_atC {P : Program} {ρ : Pl} {w : World} {x : Nat × Nat} {ob : Obj} {cs : List SV} {e : TypeId} (hw : w.heap[x.1]? = some ob) (h : ObjRel P ρ x (.cells cs e false) ob) : ∃ us, denC ρ cs = some us ∧ At w x.1 e us := by
  cases ob <;> try exact h.elim
  rename_i arr e' z
  obtain ⟨h1, ⟨us, h2, h3⟩, ⟨-, h4⟩, h5⟩ := h
  refine ⟨us, h2, ?_⟩
  unfold At
  rw [hw, ← h1, h4 rfl]
  congr 2
  rw [← h3]
theorem gen_new2 {P : Program} {E : Env} (hE : EnvOk P E) {I : CalF} (hI : ∀ [Orig], FnOk P I) {n N K : Nat} {S : Smy} {outs : List (Nat × List SV × TypeId)} (hrun : genOk2 E I n N K S outs = true) (hk : S.blks.length ≤ S.nx0) (V : Nat → Option Value) (hV : ∀ b, S.nx0 ≤ b → b < big → V b = none)
    (hL : ∀ W, @LgOk ⟨W, V⟩ (ofA S.log).get) (w : World) {bl : List Nat} (hlen : bl.length = S.blks.length) (hnd : bl.Nodup) (hone : ∀ x ∈ S.blks, x.pre.all SV.one = true)
    (hat : ∀ (j b : Nat) (x : Blk), bl[j]? = some b → S.blks[j]? = some x → ∃ us, denL (plOf bl V) x.pre = some us ∧ At w b x.e us) {us : List Value} (hd : denL (plOf bl V) S.args = some us) :
    Calls P S.f us.toArray w fun e w' => ∃ ρ' u, e = .returned u ∧ Le (plOf bl V) ρ' ∧ den ρ' S.v = some u ∧ Touch bl w w' ∧ (∀ (j b : Nat) (x : Blk), bl[j]? = some b → S.blks[j]? = some x → ∃ us, denL ρ' x.post = some us ∧ At w' b x.e us)
      ∧ ∀ x ∈ outs, ∃ y us, ρ' x.1 = some y ∧ denC ρ' x.2.1 = some us ∧ At w' y.1 x.2.2 us ∧ (w.heap.size ≤ y.1 ∨ x.1 < S.blks.length) := by
  letI : Orig := ⟨{ w with heap := #[] }, V⟩
  let pr : Nat → Prop := fun j => j < w.heap.size ∧ j ∉ bl
  have blk : ∀ {j : Nat} {x : Nat × Nat}, plOf bl V j = some x → bl[j]? = some x.1 := by
    intro j x h
    obtain ⟨b, h1, h2⟩ := Option.map_eq_some_iff.1 (show (bl[j]?).map (fun b => (b, 0)) = some x from h)
    rw [h1, ← h2]
  have get : ∀ {j : Nat} {x : Nat × Nat}, plOf bl V j = some x → ∃ y, S.blks[j]? = some y := by
    intro j x h
    have := (List.getElem?_eq_some_iff.1 (blk h)).1
    exact ⟨_, List.getElem?_eq_getElem (by omega)⟩
  have hm0 : Emb P (plOf bl V) (memOf S.blks 0 .leaf) S.nx0 ⟨w, pr, fun _ => False⟩ w := by
    refine ⟨⟨rfl, rfl, rfl, Nat.le_refl _, fun k hk => ⟨hk.1, rfl⟩⟩, ?_, fun b b' x x' _ _ hx hx' he => ?_, fun b hb => ⟨?_, ?_⟩, fun b x hx => ?_, fun b hb => hb.elim, hV, fun i v h => h, fun k hk => ?_⟩
    · intro b o ho
      obtain ⟨x, hx, rfl⟩ := memOf_blk ho
      have hb : b < bl.length := by have := (List.getElem?_eq_some_iff.1 hx).1; omega
      have hbl : bl[b]? = some bl[b] := List.getElem?_eq_getElem hb
      obtain ⟨us, h1, h2⟩ := hat b _ x hbl hx
      obtain ⟨ob, h3, h4⟩ := at_obj (P := P) h1 (hone x (List.mem_of_getElem? hx)) h2 0
      exact ⟨_, ob, plOf_at hbl, fun hp => hp.2 (List.getElem_mem hb), h3, h4⟩
    · have h1 := blk hx
      have h2 := blk hx'
      rw [← he] at h2
      exact (List.getElem?_inj (List.getElem?_eq_some_iff.1 h1).1 hnd).1 (h1.trans h2.symm)
    · show (bl[b]?).map _ = none
      rw [List.getElem?_eq_none (by omega)]; rfl
    · rw [memOf_get, if_neg (by omega), T.get_leaf]
    · obtain ⟨y, hy⟩ := get hx
      obtain ⟨us, -, h2⟩ := hat b _ y (blk hx) hy
      exact h2.lt
    · have h0 : k < 0 := hk
      omega
  unfold genOk2 at hrun
  cases hr : callN E I (hdE (ofA S.log).get N K) n S.f S.args (memOf S.blks 0 .leaf) S.nx0 with
  | none => rw [hr] at hrun; cases hrun
  | some q =>
  obtain ⟨v, ms, nxs⟩ := q
  rw [hr] at hrun
  simp only [Bool.and_eq_true] at hrun
  have hv := svEq_ok hrun.1
  subst hv
  have hend := endB_ok hrun.2.1
  have hout := outB2_ok hrun.2.2
  refine (callN_ok hE hI (hdE_ok (hL _) N K) n S.f S.args _ S.nx0 _ hr _ us _ w hd hm0).mono ?_
  rintro e w' ⟨ρ', u, rfl, l1, l2, l3⟩
  refine ⟨ρ', u, rfl, l1, l2, ⟨l3.touch.os, l3.touch.tape, l3.touch.output, l3.touch.size, fun k h1 h2 => (l3.touch.block k ⟨h1, h2⟩).2⟩, fun j b x hb hx => ?_, fun x hx => ?_⟩
  · obtain ⟨h1, h1o⟩ := hend j x hx
    rw [Nat.zero_add] at h1
    obtain ⟨y, ob, g1, -, g3, g4⟩ := l3.obj j _ h1
    have g5 := l1 j _ (plOf_at hb)
    rw [g5] at g1
    cases g1
    exact obj_at g3 g4 h1o
  · obtain ⟨y, ob, g1, g2, g3, g4⟩ := l3.obj x.1 _ (hout x hx)
    obtain ⟨us, g5, g6⟩ := obj_atC g3 g4
    refine ⟨y, us, g1, g5, g6, ?_⟩
    by_cases h : y.1 ∈ bl
    · obtain ⟨i, hi, hy⟩ := List.mem_iff_getElem.1 h
      have hbi : bl[i]? = some y.1 := by rw [List.getElem?_eq_getElem hi, hy]
      have hx2 : S.blks[i]? = some (S.blks[i]'(by omega)) := List.getElem?_eq_getElem (by omega)
      obtain ⟨h1, -⟩ := hend i _ hx2
      rw [Nat.zero_add] at h1
      have hc := l3.inj x.1 i y (y.1, 0) (by rw [hout x hx]; rfl) (by rw [h1]; rfl) g1 (l1 i _ (plOf_at hbi)) rfl
      exact .inr (by omega)
    · exact .inl (Nat.le_of_not_lt fun hlt => g2 ⟨hlt, h⟩)
end Go.Proofs.YtpbikmlfhipckaaGreatDoor
