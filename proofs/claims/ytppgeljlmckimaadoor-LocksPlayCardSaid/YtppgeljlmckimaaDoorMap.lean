/-
  Maps as lists of keys and values, in the order in which they came: look-up, store, delete, and a range over a map that stays as it is; over any program.
-/
import Derived.Test.YtppgeljlmckimaaDoorKit
namespace Go.Proofs.YtppgeljlmckimaaDoor
open Go.RowKit

/-- A key's kind: how a key of ours is a value, and that two are told apart by what they are. -/
structure KK (P : Program) (kt : TypeId) (κ : Type) [DecidableEq κ] where
  d : TypeDesc
  f : κ → Value
  hk : P.underlying kt = some d
  same : ∀ a b, Instr.sameNow d (f a) (f b) = some (decide (a = b))
  chk : ∀ e a (w : World), (Instr.checkKey e 10000 kt (f a)).run P w = .ok () w
  bits : ∀ a, Instr.sameBits 10000 (f a) (f a) = true

def KK.int {P : Program} {kt : TypeId} {q : IntKind} (hk : P.underlying kt = some (.int q)) : KK P kt Int where
  d := .int q
  f := .int q
  hk := hk
  same a b := by simp [Instr.sameNow, BEq.beq]
  chk e a w := by
    rw [show (10000 : Nat) = 9999 + 1 from rfl]
    unfold Instr.checkKey
    rw [Sem.run_bind, run_underlying hk]
    rfl
  bits a := by simp [Instr.sameBits]

theorem bytes_beq (a b : ByteArray) : (a == b) = decide (a = b) := by
  obtain ⟨x⟩ := a
  obtain ⟨y⟩ := b
  show (x == y) = _
  rw [Bool.eq_iff_iff]
  simp

theorem map_erase {α β : Type} (g : α → β) : ∀ (l : List α) (j : Nat), (l.eraseIdx j).map g = (l.map g).eraseIdx j
  | [], _ => rfl
  | _ :: _, 0 => rfl
  | x :: l, j + 1 => by simp [map_erase g l j]

def KK.str {P : Program} {kt : TypeId} (hk : P.underlying kt = some .string) : KK P kt ByteArray where
  d := .string
  f := .string
  hk := hk
  same a b := by simp only [Instr.sameNow, bytes_beq]
  chk e a w := by
    rw [show (10000 : Nat) = 9999 + 1 from rfl]
    unfold Instr.checkKey
    rw [Sem.run_bind, run_underlying hk]
    rfl
  bits a := by simp [Instr.sameBits, bytes_beq]

section plain
variable {κ : Type} [DecidableEq κ]
def keyAt (kv : List (κ × Value)) (k : κ) : Option Nat := kv.findIdx? (fun p => decide (p.1 = k))
def atKey (kv : List (κ × Value)) (k : κ) : Option Value := (kv.find? (fun p => decide (p.1 = k))).map (·.2)
def putKey (kv : List (κ × Value)) (k : κ) (v : Value) : List (κ × Value) := match keyAt kv k with | some j => kv.set j (k, v) | none => kv ++ [(k, v)]
def delKey (kv : List (κ × Value)) (k : κ) : List (κ × Value) := match keyAt kv k with | some j => kv.eraseIdx j | none => kv

theorem keyAt_some {kv : List (κ × Value)} {k : κ} {j : Nat} (h : keyAt kv k = some j) : ∃ v, kv[j]? = some (k, v) ∧ atKey kv k = some v := by
  unfold keyAt at h
  obtain ⟨hj, h1, h2⟩ := List.findIdx?_eq_some_iff_getElem.1 h
  have hk : kv[j].1 = k := by simpa using h1
  refine ⟨kv[j].2, by rw [List.getElem?_eq_getElem hj]; congr 1; exact Prod.ext hk rfl, ?_⟩
  unfold atKey
  have : kv.find? (fun p => decide (p.1 = k)) = some kv[j] := by
    rw [List.find?_eq_some_iff_getElem]
    exact ⟨h1, j, hj, rfl, fun i hi => by simpa using h2 i hi⟩
  rw [this]; rfl
theorem keyAt_none {kv : List (κ × Value)} {k : κ} (h : keyAt kv k = none) : (∀ p ∈ kv, p.1 ≠ k) ∧ atKey kv k = none := by
  unfold keyAt at h
  have h1 : ∀ p ∈ kv, p.1 ≠ k := fun p hp => by simpa using List.findIdx?_eq_none_iff.1 h p hp
  exact ⟨h1, by unfold atKey; rw [List.find?_eq_none.2 (fun p hp => by simpa using h1 p hp)]; rfl⟩
theorem atKey_none {kv : List (κ × Value)} {k : κ} (h : ∀ p ∈ kv, p.1 ≠ k) : atKey kv k = none := by
  unfold atKey; rw [List.find?_eq_none.2 (fun p hp => by simpa using h p hp)]; rfl
theorem keyAt_none' {kv : List (κ × Value)} {k : κ} (h : ∀ p ∈ kv, p.1 ≠ k) : keyAt kv k = none := by
  unfold keyAt; exact List.findIdx?_eq_none_iff.2 (fun p hp => by simpa using h p hp)
theorem putKey_new {kv : List (κ × Value)} {k : κ} (h : ∀ p ∈ kv, p.1 ≠ k) (v : Value) : putKey kv k v = kv ++ [(k, v)] := by
  unfold putKey; rw [keyAt_none' h]
end plain

/-- Block b is a map that holds kv. -/
def IMap {κ : Type} (w : World) (f : κ → Value) (b : Nat) (kv : List (κ × Value)) : Prop :=
  ∃ es clock, w.heap[b]? = some (.map es clock) ∧ es.toList.map (fun e => (e.key, e.val)) = kv.map (fun p => (f p.1, p.2)) ∧ (es.toList.map (·.born)).Nodup ∧ ∀ e ∈ es.toList, e.born < clock

namespace IMap
variable {κ : Type} {w w' : World} {f : κ → Value} {b : Nat} {kv : List (κ × Value)}
theorem lt (h : IMap w f b kv) : b < w.heap.size := by obtain ⟨es, clock, hb, _⟩ := h; exact (Array.getElem?_eq_some_iff.1 hb).1
theorem touch {l : List Nat} (h : IMap w f b kv) (t : Touch l w w') (hn : b ∉ l) : IMap w' f b kv := by
  have hlt := h.lt
  obtain ⟨es, clock, hb, r⟩ := h; exact ⟨es, clock, (t.block b hlt hn).trans hb, r⟩
theorem alloc (h : IMap w f b kv) (o : Obj) : IMap (w.alloc o) f b kv := h.touch ((Touch.refl [] w).alloc o) (by simp)
theorem drew (h : IMap w f b kv) : IMap w.drew f b kv := h
theorem new (w : World) (f : κ → Value) : IMap (w.alloc (.map #[] 0)) f w.heap.size [] := ⟨#[], 0, heap_alloc_new w _, by simp, by simp, by simp⟩
theorem setCell (h : IMap w f b kv) {p : Addr} (hp : b ≠ p.block) (v : Value) : IMap (w.setCell p v) f b kv := by
  obtain ⟨es, clock, hb, r⟩ := h; exact ⟨es, clock, (heap_setCell_other w p b v hp).trans hb, r⟩
end IMap

section
variable {P : Program} {kt : TypeId} {κ : Type} [DecidableEq κ] (K : KK P kt κ)

theorem find_now (k : κ) : ∀ (es : List MapEntry) (kv : List (κ × Value)) (i : Nat), es.map (fun e => (e.key, e.val)) = kv.map (fun p => (K.f p.1, p.2)) →
    Instr.findNow K.d (K.f k) es i = some ((keyAt kv k).map fun j => (i + j, ((kv[j]?).map (·.2)).getD undef))
  | [], kv, i, h => by
    have : kv = [] := by simpa using h.symm
    subst this; rfl
  | e :: es, [], i, h => by simp at h
  | e :: es, p :: kv, i, h => by
    simp only [List.map_cons, List.cons.injEq, Prod.mk.injEq] at h
    obtain ⟨⟨h1, h2⟩, h3⟩ := h
    have ih := find_now k es kv (i + 1) h3
    unfold Instr.findNow
    rw [h1, K.same]
    by_cases hk : p.1 = k
    · subst hk
      simp [keyAt, List.findIdx?_cons, h2]
    · have hk' : ¬ k = p.1 := fun e => hk e.symm
      simp only [hk', decide_false]
      rw [ih]
      simp only [keyAt, List.findIdx?_cons, hk, decide_false, Option.map_map, Option.some.injEq]
      simp only [if_neg (show ¬ (false = true) by decide), Option.map_map]
      congr 1
      funext j
      simp only [Function.comp, List.getElem?_cons_succ]
      congr 1
      omega

theorem run_findKey (w : World) (k : κ) (es : Array MapEntry) (kv : List (κ × Value)) (h : es.toList.map (fun e => (e.key, e.val)) = kv.map (fun p => (K.f p.1, p.2))) :
    (Instr.findKey kt (K.f k) es.toList).run P w = .ok ((keyAt kv k).map fun j => (j, ((kv[j]?).map (·.2)).getD undef)) w := by
  unfold Instr.findKey
  rw [Sem.run_bind, run_underlying K.hk]
  simp only [Result.andThen_ok]
  rw [find_now K k es.toList kv 0 h]
  simp

theorem run_lookup_imap {t e : TypeId} (w : World) (ht : P.underlying t = some (.map kt e)) {z : Value} (hz : (zeroValue e).run P w = .ok z w) {b : Nat} {kv : List (κ × Value)} (h : IMap w K.f b kv) (k : κ) (ok : Bool) :
    (Instr.lookup t (.map (some b)) (K.f k) ok).run P w = .ok (if ok then .tuple #[(atKey kv k).getD z, .bool (atKey kv k).isSome] else (atKey kv k).getD z) w := by
  obtain ⟨es, clock, hb, hm, _⟩ := h
  have hg : (getObj b).run P w = .ok (.map es clock) w := by simp [getObj, Sem.run, hb]
  have hf := run_findKey K w k es kv hm
  unfold Instr.lookup
  simp only [Sem.run_bind, run_underlying ht, Result.andThen_ok, hg, Sem.run_pure, K.chk, hf]
  cases hk : keyAt kv k with
  | none => simp [hz, (keyAt_none hk).2]
  | some j =>
    obtain ⟨v, h1, h2⟩ := keyAt_some hk
    simp [h1, h2]

theorem run_lookup_nil {t e : TypeId} (w : World) (ht : P.underlying t = some (.map kt e)) {z : Value} (hz : (zeroValue e).run P w = .ok z w) (k : κ) (ok : Bool) :
    (Instr.lookup t (.map none) (K.f k) ok).run P w = .ok (if ok then .tuple #[z, .bool false] else z) w := by
  have hf := run_findKey K w k #[] [] rfl
  unfold Instr.lookup
  simp only [Sem.run_bind, run_underlying ht, Result.andThen_ok, Sem.run_pure, K.chk, hf]
  simp [keyAt, hz]

theorem map_modify (es : Array MapEntry) (j : Nat) (g : MapEntry → MapEntry) : (es.modify j g).toList = es.toList.modify j g := by simp

theorem run_update_imap {t e : TypeId} (w : World) (ht : P.underlying t = some (.map kt e)) {b : Nat} {kv : List (κ × Value)} (h : IMap w K.f b kv) (k : κ) (v : Value) :
    ∃ w', (Instr.mapUpdate t (.map (some b)) (K.f k) v).run P w = .ok () w' ∧ IMap w' K.f b (putKey kv k v) ∧ Touch [b] w w' := by
  obtain ⟨es, clock, hb, hm, hn, hc⟩ := h
  have hg : (getObj b).run P w = .ok (.map es clock) w := by simp [getObj, Sem.run, hb]
  have hset : ∀ o : Obj, (setObj b o).run P w = .ok () { w with heap := w.heap.setIfInBounds b o } := by intro o; simp [setObj, Sem.run, hb]
  have htouch : ∀ o : Obj, Touch [b] w { w with heap := w.heap.setIfInBounds b o } := by
    intro o
    refine ⟨rfl, rfl, rfl, by simp, fun i _ hi => ?_⟩
    simp only [List.mem_singleton] at hi
    simp only [Array.getElem?_setIfInBounds]
    rw [if_neg (fun e => hi e.symm)]
  have hlt : b < w.heap.size := (Array.getElem?_eq_some_iff.1 hb).1
  have hat : ∀ o : Obj, ({ w with heap := w.heap.setIfInBounds b o } : World).heap[b]? = some o := by intro o; simp [hlt]
  have hf := run_findKey K w k es kv hm
  unfold Instr.mapUpdate
  simp only [Sem.run_bind, run_underlying ht, Result.andThen_ok, hg, K.chk, hf]
  cases hk : keyAt kv k with
  | none =>
    simp only [Option.map_none, hset]
    refine ⟨_, rfl, ⟨_, _, hat _, ?_, ?_, ?_⟩, htouch _⟩
    · simp [putKey, hk, hm]
    · simp only [Array.toList_push, List.map_append, List.map_cons, List.map_nil]
      rw [List.nodup_append]
      refine ⟨hn, by simp, ?_⟩
      intro x hx y hy
      simp only [List.mem_map] at hx
      obtain ⟨e0, he0, rfl⟩ := hx
      simp only [List.mem_singleton] at hy
      have := hc e0 he0
      omega
    · intro x hx
      simp only [Array.toList_push, List.mem_append, List.mem_singleton] at hx
      rcases hx with hx | rfl
      · have := hc x hx; omega
      · simp
  | some j =>
    obtain ⟨v0, h1, h2⟩ := keyAt_some hk
    have hj : j < kv.length := (List.getElem?_eq_some_iff.1 h1).1
    have hlen : es.toList.length = kv.length := by have := congrArg List.length hm; simpa using this
    have hkey : ((es[j]?).map (·.key)).getD (K.f k) = K.f k := by
      have h3 : (es.toList.map (fun e => (e.key, e.val)))[j]? = (kv.map (fun p => (K.f p.1, p.2)))[j]? := by rw [hm]
      rw [List.getElem?_map, List.getElem?_map, h1] at h3
      cases he : es[j]? with
      | none => rfl
      | some e0 =>
        simp [he] at h3
        simp [h3.1]
    simp only [Option.map_some, hkey]
    have hstay : (Instr.keyThatStays (K.f k) (K.f k)).run P w = .ok (K.f k) w := by simp [Instr.keyThatStays, K.bits]
    simp only [Sem.run_bind, hstay, Result.andThen_ok, hset]
    refine ⟨_, rfl, ⟨_, _, hat _, ?_, ?_, ?_⟩, htouch _⟩
    · rw [map_modify]
      apply List.ext_getElem?
      intro i
      simp only [putKey, hk, List.getElem?_map, List.getElem?_modify, List.getElem?_set]
      have h3 : (es.toList.map (fun e => (e.key, e.val)))[i]? = (kv.map (fun p => (K.f p.1, p.2)))[i]? := by rw [hm]
      rw [List.getElem?_map, List.getElem?_map] at h3
      by_cases hij : j = i
      · subst hij
        have : es.toList[j]? = some es.toList[j] := List.getElem?_eq_getElem (by omega)
        rw [this]
        simp [hj]
      · simp only [hij, if_false]
        simpa using h3
    · rw [map_modify]
      have : (es.toList.modify j fun e => { key := K.f k, val := v, born := e.born }).map (·.born) = es.toList.map (·.born) := by
        apply List.ext_getElem?
        intro i
        simp only [List.getElem?_map, List.getElem?_modify]
        by_cases hij : j = i
        · subst hij; cases es.toList[j]? <;> simp
        · simp [hij]
      rw [this]; exact hn
    · intro x hx
      rw [map_modify] at hx
      obtain ⟨i, hi⟩ := List.mem_iff_getElem?.1 hx
      rw [List.getElem?_modify] at hi
      cases he : es.toList[i]? with
      | none => rw [he] at hi; simp at hi
      | some e0 =>
        rw [he] at hi
        have hmem : e0 ∈ es.toList := List.mem_iff_getElem?.2 ⟨i, he⟩
        have := hc e0 hmem
        by_cases hij : j = i
        · simp [hij] at hi; subst hi; exact this
        · simp [hij] at hi; subst hi; exact this

theorem run_delete_imap {t e : TypeId} (w : World) (ht : P.underlying t = some (.map kt e)) {b : Nat} {kv : List (κ × Value)} (h : IMap w K.f b kv) (k : κ) (ty : TypeId) :
    ∃ w', (Builtin.delete_ #[t, kt] ty #[.map (some b), K.f k]).run P w = .ok (.tuple #[]) w' ∧ IMap w' K.f b (delKey kv k) ∧ Touch [b] w w' := by
  obtain ⟨es, clock, hb, hm, hn, hc⟩ := h
  have hg : (getObj b).run P w = .ok (.map es clock) w := by simp [getObj, Sem.run, hb]
  have hset : ∀ o : Obj, (setObj b o).run P w = .ok () { w with heap := w.heap.setIfInBounds b o } := by intro o; simp [setObj, Sem.run, hb]
  have htouch : ∀ o : Obj, Touch [b] w { w with heap := w.heap.setIfInBounds b o } := by
    intro o
    refine ⟨rfl, rfl, rfl, by simp, fun i _ hi => ?_⟩
    simp only [List.mem_singleton] at hi
    simp only [Array.getElem?_setIfInBounds]
    rw [if_neg (fun e => hi e.symm)]
  have hlt : b < w.heap.size := (Array.getElem?_eq_some_iff.1 hb).1
  have hat : ∀ o : Obj, ({ w with heap := w.heap.setIfInBounds b o } : World).heap[b]? = some o := by intro o; simp [hlt]
  have hf := run_findKey K w k es kv hm
  unfold Builtin.delete_
  have e0 : (#[t, kt] : Array TypeId)[0]? = some t := rfl
  have e1 : (#[Value.map (some b), K.f k] : Array Value)[0]? = some (.map (some b)) := rfl
  have e2 : (#[Value.map (some b), K.f k] : Array Value)[1]? = some (K.f k) := rfl
  simp only [e0, e1, e2, Sem.run_bind, run_underlying ht, Result.andThen_ok, hg, K.chk, hf]
  cases hk : keyAt kv k with
  | none =>
    simp only [Option.map_none, Sem.run_bind, hset, Result.andThen_ok, Sem.run_pure]
    exact ⟨_, rfl, ⟨_, _, hat _, by simpa [delKey, hk] using hm, hn, hc⟩, htouch _⟩
  | some j =>
    obtain ⟨v0, h1, h2⟩ := keyAt_some hk
    have hj : j < kv.length := (List.getElem?_eq_some_iff.1 h1).1
    have hlen : es.toList.length = kv.length := by have := congrArg List.length hm; simpa using this
    have he : (es.eraseIdxIfInBounds j).toList = es.toList.eraseIdx j := by
      unfold Array.eraseIdxIfInBounds
      rw [dif_pos (by simpa using (by omega : j < es.toList.length))]
      simp
    simp only [Option.map_some, Sem.run_bind, hset, Result.andThen_ok, Sem.run_pure]
    refine ⟨_, rfl, ⟨_, _, hat _, ?_, ?_, ?_⟩, htouch _⟩
    · rw [he, map_erase, hm, ← map_erase]; simp [delKey, hk]
    · rw [he, map_erase]; exact hn.sublist (List.eraseIdx_sublist _ _)
    · intro x hx
      rw [he] at hx
      exact hc x ((List.eraseIdx_sublist _ _).subset hx)

theorem wpList_lookup_imap {ops : Array Oper} {rest : List Oper} {o : Oper} {a : Act} {w : World} {Q : Exit → Act → World → Prop} (hgd : o.guard = none) (m x : Operand) {t : TypeId} (ok : Bool) (ho : o.op = .lookup t m x ok)
    {e : TypeId} (ht : P.underlying t = some (.map kt e)) {z : Value} (hz : (zeroValue e).run P w = .ok z w) {b : Nat} {kv : List (κ × Value)} (hm : a.eval m = .map (some b)) (h : IMap w K.f b kv) (k : κ) (hx : a.eval x = K.f k)
    (hK : wpList P ops Q rest (a.put o.dst (if ok then .tuple #[(atKey kv k).getD z, .bool (atKey kv k).isSome] else (atKey kv k).getD z)) w) : wpList P ops Q (o :: rest) a w :=
  wpList_plain hgd fun K' hK' => by
    have hr := run_lookup_imap K w ht hz h k ok
    unfold Oper.wp execOp
    simp only [ho, Sem.run_bind, hm, hx, hr, Result.andThen_ok, Sem.run_pure]
    exact hK' _ _ hK

theorem wpList_update_imap {ops : Array Oper} {rest : List Oper} {o : Oper} {a : Act} {w : World} {Q : Exit → Act → World → Prop} (hgd : o.guard = none) (m x y : Operand) {t : TypeId} (ho : o.op = .mapUpdate t m x y)
    {e : TypeId} (ht : P.underlying t = some (.map kt e)) {b : Nat} {kv : List (κ × Value)} (hm : a.eval m = .map (some b)) (h : IMap w K.f b kv) (k : κ) (hx : a.eval x = K.f k) (v : Value) (hv : a.eval y = v)
    (hK : ∀ w', IMap w' K.f b (putKey kv k v) → Touch [b] w w' → wpList P ops Q rest (a.put o.dst undef) w') : wpList P ops Q (o :: rest) a w :=
  wpList_plain hgd fun K' hK' => by
    obtain ⟨w', hr, h1, h2⟩ := run_update_imap K w ht h k v
    unfold Oper.wp execOp
    simp only [ho, Sem.run_bind, hm, hx, hv, hr, Result.andThen_ok, Sem.run_pure]
    exact hK' _ _ (hK w' h1 h2)

theorem wpList_delete_imap {ops : Array Oper} {rest : List Oper} {o : Oper} {a : Act} {w : World} {Q : Exit → Act → World → Prop} (hgd : o.guard = none) (m x : Operand) {t : TypeId} (ho : o.op = .call { callee := .builtin .delete, args := #[m, x], argTypes := #[t, kt] })
    {e : TypeId} (ht : P.underlying t = some (.map kt e)) {b : Nat} {kv : List (κ × Value)} (hm : a.eval m = .map (some b)) (h : IMap w K.f b kv) (k : κ) (hx : a.eval x = K.f k)
    (hK : ∀ w', IMap w' K.f b (delKey kv k) → Touch [b] w w' → wpList P ops Q rest (a.put o.dst (.tuple #[])) w') : wpList P ops Q (o :: rest) a w :=
  wpList_plain hgd fun K' hK' => by
    obtain ⟨w', hr, h1, h2⟩ := run_delete_imap K w ht h k o.type
    unfold Oper.wp execOp
    simp only [ho, resolve, invoke, builtin, Sem.run_bind, Sem.run_pure, Result.andThen_ok, List.map_toArray, List.map_cons, List.map_nil, hm, hx, hr]
    exact hK' _ _ (hK w' h1 h2)
end
end Go.Proofs.YtppgeljlmckimaaDoor
