/-
  A run by the kernel over data that is not known: what it has laid is new.
-/
import Derived.Test.YtodehmognjofhaaGreatQEE
import Derived.Test.YtodehmognjofhaaGreatQED
namespace Go.Proofs.YtodehmognjofhaaGreat
open Go.RowKit

theorem gen_new {P : Program} {E : Env} (hE : EnvOk P E) {I : CalF} (hI : ∀ [Orig], FnOk P I) {n N K : Nat} {S : Smy} {outs : List (Nat × List SV × TypeId)} (hrun : genOk E I n N K S outs = true) (hk : S.blks.length ≤ S.nx0) (V : Nat → Option Value) (hV : ∀ b, S.nx0 ≤ b → b < big → V b = none)
    (hL : ∀ W, @LgOk ⟨W, V⟩ (ofA S.log).get) (w : World) {bl : List Nat} (hlen : bl.length = S.blks.length) (hnd : bl.Nodup) (hone : ∀ x ∈ S.blks, x.pre.all SV.one = true)
    (hat : ∀ (j b : Nat) (x : Blk), bl[j]? = some b → S.blks[j]? = some x → ∃ us, denL (plOf bl V) x.pre = some us ∧ At w b x.e us) {us : List Value} (hd : denL (plOf bl V) S.args = some us) :
    Calls P S.f us.toArray w fun e w' => ∃ ρ' u, e = .returned u ∧ Le (plOf bl V) ρ' ∧ den ρ' S.v = some u ∧ Touch bl w w' ∧ (∀ (j b : Nat) (x : Blk), bl[j]? = some b → S.blks[j]? = some x → ∃ us, denL ρ' x.post = some us ∧ At w' b x.e us)
      ∧ ∀ x ∈ outs, ∃ y us, ρ' x.1 = some y ∧ denL ρ' x.2.1 = some us ∧ At w' y.1 x.2.2 us ∧ (w.heap.size ≤ y.1 ∨ x.1 < S.blks.length) := by
  letI : Orig := ⟨{ w with heap := #[] }, V⟩
  let pr : Nat → Prop := fun j => j < w.heap.size ∧ j ∉ bl
  have blk : ∀ {j : Nat} {x : Nat × Nat}, plOf bl V j = some x → bl[j]? = some x.1 := by
    intro j x h
    obtain ⟨b, h1, h2⟩ := Option.map_eq_some_iff.1 (show (bl[j]?).map (fun b => (b, 0)) = some x from h)
    rw [h1, ← h2]
  have get : ∀ {j : Nat} {x : Nat × Nat}, plOf bl V j = some x → ∃ y, S.blks[j]? = some y := by
    intro j x h
    have := (List.getElem?_eq_some_iff.1 (blk h)).1
    exact ⟨_, List.getElem?_eq_getElem (by omega)⟩
  have hm0 : Emb P (plOf bl V) (memOf S.blks 0 .leaf) S.nx0 ⟨w, pr, fun _ => False⟩ w := by
    refine ⟨⟨rfl, rfl, rfl, Nat.le_refl _, fun k hk => ⟨hk.1, rfl⟩⟩, ?_, fun b b' x x' _ _ hx hx' he => ?_, fun b hb => ⟨?_, ?_⟩, fun b x hx => ?_, fun b hb => hb.elim, hV, fun i v h => h, fun k hk => ?_⟩
    · intro b o ho
      obtain ⟨x, hx, rfl⟩ := memOf_blk ho
      have hb : b < bl.length := by have := (List.getElem?_eq_some_iff.1 hx).1; omega
      have hbl : bl[b]? = some bl[b] := List.getElem?_eq_getElem hb
      obtain ⟨us, h1, h2⟩ := hat b _ x hbl hx
      obtain ⟨ob, h3, h4⟩ := at_obj (P := P) h1 (hone x (List.mem_of_getElem? hx)) h2 0
      exact ⟨_, ob, plOf_at hbl, fun hp => hp.2 (List.getElem_mem hb), h3, h4⟩
    · have h1 := blk hx
      have h2 := blk hx'
      rw [← he] at h2
      exact (List.getElem?_inj (List.getElem?_eq_some_iff.1 h1).1 hnd).1 (h1.trans h2.symm)
    · show (bl[b]?).map _ = none
      rw [List.getElem?_eq_none (by omega)]; rfl
    · rw [memOf_get, if_neg (by omega), T.get_leaf]
    · obtain ⟨y, hy⟩ := get hx
      obtain ⟨us, -, h2⟩ := hat b _ y (blk hx) hy
      exact h2.lt
    · have h0 : k < 0 := hk
      omega
  unfold genOk at hrun
  cases hr : callN E I (hdE (ofA S.log).get N K) n S.f S.args (memOf S.blks 0 .leaf) S.nx0 with
  | none => rw [hr] at hrun; cases hrun
  | some q =>
  obtain ⟨v, ms, nxs⟩ := q
  rw [hr] at hrun
  simp only [Bool.and_eq_true] at hrun
  have hv := svEq_ok hrun.1
  subst hv
  have hend := endB_ok hrun.2.1
  have hout := outB_ok hrun.2.2
  refine (callN_ok hE hI (hdE_ok (hL _) N K) n S.f S.args _ S.nx0 _ hr _ us _ w hd hm0).mono ?_
  rintro e w' ⟨ρ', u, rfl, l1, l2, l3⟩
  refine ⟨ρ', u, rfl, l1, l2, ⟨l3.touch.os, l3.touch.tape, l3.touch.output, l3.touch.size, fun k h1 h2 => (l3.touch.block k ⟨h1, h2⟩).2⟩, fun j b x hb hx => ?_, fun x hx => ?_⟩
  · obtain ⟨h1, h1o⟩ := hend j x hx
    rw [Nat.zero_add] at h1
    obtain ⟨y, ob, g1, -, g3, g4⟩ := l3.obj j _ h1
    have g5 := l1 j _ (plOf_at hb)
    rw [g5] at g1
    cases g1
    exact obj_at g3 g4 h1o
  · obtain ⟨y, ob, g1, g2, g3, g4⟩ := l3.obj x.1 _ (hout x hx).1
    obtain ⟨us, g5, g6⟩ := obj_at g3 g4 (hout x hx).2
    refine ⟨y, us, g1, g5, g6, ?_⟩
    by_cases h : y.1 ∈ bl
    · obtain ⟨i, hi, hy⟩ := List.mem_iff_getElem.1 h
      have hbi : bl[i]? = some y.1 := by rw [List.getElem?_eq_getElem hi, hy]
      have hx2 : S.blks[i]? = some (S.blks[i]'(by omega)) := List.getElem?_eq_getElem (by omega)
      obtain ⟨h1, -⟩ := hend i _ hx2
      rw [Nat.zero_add] at h1
      have hc := l3.inj x.1 i y (y.1, 0) (by rw [(hout x hx).1]; rfl) (by rw [h1]; rfl) g1 (l1 i _ (plOf_at hbi)) rfl
      exact .inr (by omega)
    · exact .inl (Nat.le_of_not_lt fun hlt => g2 ⟨hlt, h⟩)
end Go.Proofs.YtodehmognjofhaaGreat

namespace Go.Proofs.YtodehmognjofhaaGreat
open Go.RowKit

noncomputable def outB2 (m : T SObj) (l : List (Nat × List SV × TypeId)) : Bool := List.rec (motive := fun _ => Bool) true (fun x _ ih => and (match m.get x.1 with
  | some (.cells cs e false) => and (Nat.beq e x.2.2) (svEqL cs x.2.1)
  | _ => false) ih) l
theorem outB2_ok {m : T SObj} : ∀ {l : List (Nat × List SV × TypeId)}, outB2 m l = true → ∀ x ∈ l, m.get x.1 = some (.cells x.2.1 x.2.2 false)
  | [], _, x, hx => by cases hx
  | y :: l, h, x, hx => by
    have h' : and (match m.get y.1 with
      | some (.cells cs e false) => and (Nat.beq e y.2.2) (svEqL cs y.2.1)
      | _ => false) (outB2 m l) = true := h
    simp only [Bool.and_eq_true] at h'
    obtain ⟨h1, h2⟩ := h'
    rcases List.mem_cons.1 hx with rfl | hx
    · split at h1
      · rename_i cs e hm
        simp only [Bool.and_eq_true, nbeq_iff] at h1
        rw [hm, h1.1, svEqL_ok h1.2]
      · cases h1
    · exact outB2_ok h2 x hx
noncomputable def genOk2 (E : Env) (I : CalF) (n N K : Nat) (S : Smy) (outs : List (Nat × List SV × TypeId)) : Bool := match callN E I (hdE (ofA S.log).get N K) n S.f S.args (memOf S.blks 0 .leaf) S.nx0 with
  | some (v, m, _) => and (svEq v S.v) (and (endB m S.blks 0) (outB2 m outs))
  | none => false
theorem obj_atC {P : Program} {ρ : Pl} {w : World} {x : Nat × Nat} {ob : Obj} {cs : List SV} {e : TypeId} (hw : w.heap[x.1]? = some ob) (h : ObjRel P ρ x (.cells cs e false) ob) : ∃ us, denC ρ cs = some us ∧ At w x.1 e us := by
  cases ob <;> try exact h.elim
  rename_i arr e' z
  obtain ⟨h1, ⟨us, h2, h3⟩, ⟨-, h4⟩, h5⟩ := h
  refine ⟨us, h2, ?_⟩
  unfold At
  rw [hw, ← h1, h4 rfl]
  congr 2
  rw [← h3]
theorem gen_new2 {P : Program} {E : Env} (hE : EnvOk P E) {I : CalF} (hI : ∀ [Orig], FnOk P I) {n N K : Nat} {S : Smy} {outs : List (Nat × List SV × TypeId)} (hrun : genOk2 E I n N K S outs = true) (hk : S.blks.length ≤ S.nx0) (V : Nat → Option Value) (hV : ∀ b, S.nx0 ≤ b → b < big → V b = none)
    (hL : ∀ W, @LgOk ⟨W, V⟩ (ofA S.log).get) (w : World) {bl : List Nat} (hlen : bl.length = S.blks.length) (hnd : bl.Nodup) (hone : ∀ x ∈ S.blks, x.pre.all SV.one = true)
    (hat : ∀ (j b : Nat) (x : Blk), bl[j]? = some b → S.blks[j]? = some x → ∃ us, denL (plOf bl V) x.pre = some us ∧ At w b x.e us) {us : List Value} (hd : denL (plOf bl V) S.args = some us) :
    Calls P S.f us.toArray w fun e w' => ∃ ρ' u, e = .returned u ∧ Le (plOf bl V) ρ' ∧ den ρ' S.v = some u ∧ Touch bl w w' ∧ (∀ (j b : Nat) (x : Blk), bl[j]? = some b → S.blks[j]? = some x → ∃ us, denL ρ' x.post = some us ∧ At w' b x.e us)
      ∧ ∀ x ∈ outs, ∃ y us, ρ' x.1 = some y ∧ denC ρ' x.2.1 = some us ∧ At w' y.1 x.2.2 us ∧ (w.heap.size ≤ y.1 ∨ x.1 < S.blks.length) := by
  letI : Orig := ⟨{ w with heap := #[] }, V⟩
  let pr : Nat → Prop := fun j => j < w.heap.size ∧ j ∉ bl
  have blk : ∀ {j : Nat} {x : Nat × Nat}, plOf bl V j = some x → bl[j]? = some x.1 := by
    intro j x h
    obtain ⟨b, h1, h2⟩ := Option.map_eq_some_iff.1 (show (bl[j]?).map (fun b => (b, 0)) = some x from h)
    rw [h1, ← h2]
  have get : ∀ {j : Nat} {x : Nat × Nat}, plOf bl V j = some x → ∃ y, S.blks[j]? = some y := by
    intro j x h
    have := (List.getElem?_eq_some_iff.1 (blk h)).1
    exact ⟨_, List.getElem?_eq_getElem (by omega)⟩
  have hm0 : Emb P (plOf bl V) (memOf S.blks 0 .leaf) S.nx0 ⟨w, pr, fun _ => False⟩ w := by
    refine ⟨⟨rfl, rfl, rfl, Nat.le_refl _, fun k hk => ⟨hk.1, rfl⟩⟩, ?_, fun b b' x x' _ _ hx hx' he => ?_, fun b hb => ⟨?_, ?_⟩, fun b x hx => ?_, fun b hb => hb.elim, hV, fun i v h => h, fun k hk => ?_⟩
    · intro b o ho
      obtain ⟨x, hx, rfl⟩ := memOf_blk ho
      have hb : b < bl.length := by have := (List.getElem?_eq_some_iff.1 hx).1; omega
      have hbl : bl[b]? = some bl[b] := List.getElem?_eq_getElem hb
      obtain ⟨us, h1, h2⟩ := hat b _ x hbl hx
      obtain ⟨ob, h3, h4⟩ := at_obj (P := P) h1 (hone x (List.mem_of_getElem? hx)) h2 0
      exact ⟨_, ob, plOf_at hbl, fun hp => hp.2 (List.getElem_mem hb), h3, h4⟩
    · have h1 := blk hx
      have h2 := blk hx'
      rw [← he] at h2
      exact (List.getElem?_inj (List.getElem?_eq_some_iff.1 h1).1 hnd).1 (h1.trans h2.symm)
    · show (bl[b]?).map _ = none
      rw [List.getElem?_eq_none (by omega)]; rfl
    · rw [memOf_get, if_neg (by omega), T.get_leaf]
    · obtain ⟨y, hy⟩ := get hx
      obtain ⟨us, -, h2⟩ := hat b _ y (blk hx) hy
      exact h2.lt
    · have h0 : k < 0 := hk
      omega
  unfold genOk2 at hrun
  cases hr : callN E I (hdE (ofA S.log).get N K) n S.f S.args (memOf S.blks 0 .leaf) S.nx0 with
  | none => rw [hr] at hrun; cases hrun
  | some q =>
  obtain ⟨v, ms, nxs⟩ := q
  rw [hr] at hrun
  simp only [Bool.and_eq_true] at hrun
  have hv := svEq_ok hrun.1
  subst hv
  have hend := endB_ok hrun.2.1
  have hout := outB2_ok hrun.2.2
  refine (callN_ok hE hI (hdE_ok (hL _) N K) n S.f S.args _ S.nx0 _ hr _ us _ w hd hm0).mono ?_
  rintro e w' ⟨ρ', u, rfl, l1, l2, l3⟩
  refine ⟨ρ', u, rfl, l1, l2, ⟨l3.touch.os, l3.touch.tape, l3.touch.output, l3.touch.size, fun k h1 h2 => (l3.touch.block k ⟨h1, h2⟩).2⟩, fun j b x hb hx => ?_, fun x hx => ?_⟩
  · obtain ⟨h1, h1o⟩ := hend j x hx
    rw [Nat.zero_add] at h1
    obtain ⟨y, ob, g1, -, g3, g4⟩ := l3.obj j _ h1
    have g5 := l1 j _ (plOf_at hb)
    rw [g5] at g1
    cases g1
    exact obj_at g3 g4 h1o
  · obtain ⟨y, ob, g1, g2, g3, g4⟩ := l3.obj x.1 _ (hout x hx)
    obtain ⟨us, g5, g6⟩ := obj_atC g3 g4
    refine ⟨y, us, g1, g5, g6, ?_⟩
    by_cases h : y.1 ∈ bl
    · obtain ⟨i, hi, hy⟩ := List.mem_iff_getElem.1 h
      have hbi : bl[i]? = some y.1 := by rw [List.getElem?_eq_getElem hi, hy]
      have hx2 : S.blks[i]? = some (S.blks[i]'(by omega)) := List.getElem?_eq_getElem (by omega)
      obtain ⟨h1, -⟩ := hend i _ hx2
      rw [Nat.zero_add] at h1
      have hc := l3.inj x.1 i y (y.1, 0) (by rw [hout x hx]; rfl) (by rw [h1]; rfl) g1 (l1 i _ (plOf_at hbi)) rfl
      exact .inr (by omega)
    · exact .inl (Nat.le_of_not_lt fun hlt => g2 ⟨hlt, h⟩)
end Go.Proofs.YtodehmognjofhaaGreat

namespace Go.Proofs.YtodehmognjofhaaGreat
open Go.RowKit

noncomputable def memS (l : List SObj) : Nat → T SObj → T SObj := List.rec (motive := fun _ => Nat → T SObj → T SObj) (fun _ t => t) (fun x _ ih i t => ih (Nat.succ i) (t.put (some x) i)) l
theorem memS_get : ∀ (l : List SObj) (i : Nat) (t : T SObj) (k : Nat), (memS l i t).get k = if i ≤ k ∧ k < i + l.length then l[k - i]? else t.get k
  | [], i, t, k => by rw [if_neg (by simp)]; rfl
  | x :: l, i, t, k => by
    rw [show memS (x :: l) i t = memS l (i + 1) (t.put (some x) i) from rfl, memS_get l (i + 1), List.length_cons]
    by_cases h : i = k
    · subst h
      rw [if_neg (by omega), T.get_put_same, if_pos (by omega), Nat.sub_self]; rfl
    · by_cases h2 : i + 1 ≤ k ∧ k < i + 1 + l.length
      · rw [if_pos h2, if_pos (by omega), show k - i = (k - (i + 1)) + 1 by omega, List.getElem?_cons_succ]
      · rw [if_neg h2, T.get_put_ne _ _ (fun e => h e.symm), if_neg (by omega)]
noncomputable def outsB (m : T SObj) (l : List (Nat × SObj)) : Bool := List.rec (motive := fun _ => Bool) true (fun x _ ih => and (match m.get x.1 with
  | some o => sbEq o x.2
  | none => false) ih) l
theorem outsB_ok {m : T SObj} : ∀ {l : List (Nat × SObj)}, outsB m l = true → ∀ x ∈ l, m.get x.1 = some x.2
  | [], _, x, hx => by cases hx
  | y :: l, h, x, hx => by
    have h' : and (match m.get y.1 with
      | some o => sbEq o y.2
      | none => false) (outsB m l) = true := h
    simp only [Bool.and_eq_true] at h'
    obtain ⟨h1, h2⟩ := h'
    rcases List.mem_cons.1 hx with rfl | hx
    · split at h1
      · rename_i o hm
        rw [hm, sbEq_ok h1]
      · cases h1
    · exact outsB_ok h2 x hx
noncomputable def keepB (m : T SObj) (n : Nat) : Bool := Nat.rec (motive := fun _ => Bool) true (fun i ih => and (m.get i).isSome ih) n
theorem keepB_ok {m : T SObj} : ∀ {n : Nat}, keepB m n = true → ∀ i, i < n → (m.get i).isSome = true
  | 0, _, i, h => by omega
  | n + 1, h, i, hi => by
    have h' : and (m.get n).isSome (keepB m n) = true := h
    simp only [Bool.and_eq_true] at h'
    by_cases e : i = n
    · subst e; exact h'.1
    · exact keepB_ok h'.2 i (by omega)
noncomputable def anyOk (E : Env) (I : CalF) (n N K : Nat) (lg : Log) (f : FuncId) (args : List SV) (mem : List SObj) (nx0 : Nat) (v : SV) (outs : List (Nat × SObj)) : Bool := match callN E I (hdE (ofA lg).get N K) n f args (memS mem 0 .leaf) nx0 with
  | some (v', m, _) => and (svEq v' v) (and (outsB m outs) (keepB m (len mem)))
  | none => false
/-- the blocks at hand, with how far they reach. -/
def plA (bl : List (Nat × Nat)) (V : Nat → Option Value) : Pl := ⟨fun i => bl[i]?, V⟩
theorem any_run {P : Program} {E : Env} (hE : EnvOk P E) {I : CalF} (hI : ∀ [Orig], FnOk P I) {n N K : Nat} {lg : Log} {f : FuncId} {args : List SV} {mem : List SObj} {nx0 : Nat} {v : SV} {outs : List (Nat × SObj)} (hrun : anyOk E I n N K lg f args mem nx0 v outs = true) (hk : mem.length ≤ nx0) (V : Nat → Option Value) (hV : ∀ b, nx0 ≤ b → b < big → V b = none)
    (hL : ∀ W, @LgOk ⟨W, V⟩ (ofA lg).get) (w : World) {bl : List (Nat × Nat)} (hlen : bl.length = mem.length) (hnd : (bl.map (·.1)).Nodup)
    (hat : ∀ (j : Nat) (y : Nat × Nat) (o : SObj), bl[j]? = some y → mem[j]? = some o → ∃ ob, w.heap[y.1]? = some ob ∧ ObjRel P (plA bl V) y o ob) {us : List Value} (hd : denL (plA bl V) args = some us) :
    Calls P f us.toArray w fun e w' => ∃ ρ' u, e = .returned u ∧ Le (plA bl V) ρ' ∧ den ρ' v = some u ∧ Touch (bl.map (·.1)) w w' ∧ ∀ x ∈ outs, ∃ y ob, ρ' x.1 = some y ∧ w'.heap[y.1]? = some ob ∧ ObjRel P ρ' y x.2 ob ∧ (w.heap.size ≤ y.1 ∨ x.1 < mem.length) := by
  letI : Orig := ⟨{ w with heap := #[] }, V⟩
  let pr : Nat → Prop := fun j => j < w.heap.size ∧ j ∉ bl.map (·.1)
  have get : ∀ {j : Nat} {x : Nat × Nat}, plA bl V j = some x → bl[j]? = some x ∧ ∃ o, mem[j]? = some o := by
    intro j x h
    have h1 : bl[j]? = some x := h
    have := (List.getElem?_eq_some_iff.1 h1).1
    exact ⟨h1, _, List.getElem?_eq_getElem (by omega)⟩
  have hm0 : Emb P (plA bl V) (memS mem 0 .leaf) nx0 ⟨w, pr, fun _ => False⟩ w := by
    refine ⟨⟨rfl, rfl, rfl, Nat.le_refl _, fun k hk => ⟨hk.1, rfl⟩⟩, ?_, fun b b' x x' _ _ hx hx' he => ?_, fun b hb => ⟨?_, ?_⟩, fun b x hx => ?_, fun b hb => hb.elim, hV, fun i v h => h, fun k hk => ?_⟩
    · intro b o ho
      rw [memS_get] at ho
      split at ho
      · rename_i hb
        rw [Nat.sub_zero] at ho
        have hbl : bl[b]? = some (bl[b]'(by omega)) := List.getElem?_eq_getElem (by omega)
        obtain ⟨ob, h3, h4⟩ := hat b _ o hbl ho
        exact ⟨_, ob, hbl, fun hp => hp.2 (List.mem_map.2 ⟨_, List.getElem_mem _, rfl⟩), h3, h4⟩
      · rw [T.get_leaf] at ho; cases ho
    · obtain ⟨h1, -⟩ := get hx
      obtain ⟨h2, -⟩ := get hx'
      have g1 : (bl.map (·.1))[b]? = some x.1 := by rw [List.getElem?_map, h1]; rfl
      have g2 : (bl.map (·.1))[b']? = some x.1 := by rw [List.getElem?_map, h2, he]; rfl
      exact (List.getElem?_inj (List.getElem?_eq_some_iff.1 g1).1 hnd).1 (g1.trans g2.symm)
    · show bl[b]? = none
      exact List.getElem?_eq_none (by omega)
    · rw [memS_get, if_neg (by omega), T.get_leaf]
    · obtain ⟨h1, o, ho⟩ := get hx
      obtain ⟨ob, h3, -⟩ := hat b x o h1 ho
      exact (Array.getElem?_eq_some_iff.1 h3).1
    · have h0 : k < 0 := hk
      omega
  unfold anyOk at hrun
  cases hr : callN E I (hdE (ofA lg).get N K) n f args (memS mem 0 .leaf) nx0 with
  | none => rw [hr] at hrun; cases hrun
  | some q =>
  obtain ⟨v', ms, nxs⟩ := q
  rw [hr] at hrun
  simp only [Bool.and_eq_true] at hrun
  have hv := svEq_ok hrun.1
  subst hv
  have hout := outsB_ok hrun.2.1
  have hkeep := keepB_ok hrun.2.2
  refine (callN_ok hE hI (hdE_ok (hL _) N K) n f args _ nx0 _ hr _ us _ w hd hm0).mono ?_
  rintro e w' ⟨ρ', u, rfl, l1, l2, l3⟩
  refine ⟨ρ', u, rfl, l1, l2, ⟨l3.touch.os, l3.touch.tape, l3.touch.output, l3.touch.size, fun k h1 h2 => (l3.touch.block k ⟨h1, h2⟩).2⟩, fun x hx => ?_⟩
  obtain ⟨y, ob, g1, g2, g3, g4⟩ := l3.obj x.1 _ (hout x hx)
  refine ⟨y, ob, g1, g3, g4, ?_⟩
  by_cases hlt : w.heap.size ≤ y.1
  · exact .inl hlt
  · have hy : y.1 ∈ bl.map (·.1) := Classical.byContradiction fun hn => g2 ⟨by omega, hn⟩
    refine .inr (Nat.lt_of_not_le fun hge => ?_)
    obtain ⟨z, hz, hzy⟩ := List.mem_map.1 hy
    obtain ⟨i, hi, hiz⟩ := List.mem_iff_getElem.1 hz
    have hbi : bl[i]? = some z := by rw [List.getElem?_eq_getElem hi, hiz]
    have hc := l3.inj x.1 i y z (by rw [hout x hx]; rfl) (hkeep i (by rw [len_ok]; omega)) g1 (l1 i _ hbi) hzy.symm
    omega
end Go.Proofs.YtodehmognjofhaaGreat
