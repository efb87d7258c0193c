/-
  A run by the kernel: memory by numbers of our own, within a world.
-/
import Derived.Test.YteblflebjhncbaaGreatDoorE1
namespace Go.Proofs.YteblflebjhncbaaGreatDoor
open Go.RowKit

structure SE where
  key : SV
  val : SV
  born : Nat
inductive SObj where
  | cells (cs : List SV) (e : TypeId) (opn : Bool)
  | map (es : List SE) (clock : Nat)
  | siter (s : List Nat) (pos : Nat)
  | miter (m : Option Nat) (since : Nat) (seen : List Nat) (stepped : Nat)
  | defr (opn : Bool)
  | lp (st : LoopState) (pend : Option Code) (n : Nat) (F : T SV) (ps : List Tmp) (assign body : Code) (d : Nat)

def denE (ρ : Pl) : List SE → List MapEntry → Prop
  | [], [] => True
  | x :: l, y :: m => den ρ x.key = some y.key ∧ den ρ x.val = some y.val ∧ x.born = y.born ∧ denE ρ l m
  | _, _ => False
theorem denE_mono {ρ ρ' : Pl} (h : Le ρ ρ') : ∀ {l : List SE} {m : List MapEntry}, denE ρ l m → denE ρ' l m
  | [], [], _ => trivial
  | x :: l, y :: m, ⟨h1, h2, h3, h4⟩ => ⟨den_mono h _ h1, den_mono h _ h2, h3, denE_mono h h4⟩
structure TRel (ρ : Pl) (N : Nat) (F : T SV) (a : Array Value) : Prop where
  size : a.size = N
  at_ : ∀ i v, F.get i = some v → ∃ u, a[i]? = some u ∧ den ρ v = some u
theorem TRel.mono {ρ ρ' : Pl} {N : Nat} {F : T SV} {a : Array Value} (h : TRel ρ N F a) (k : Le ρ ρ') : TRel ρ' N F a :=
  ⟨h.size, fun i v hi => let ⟨u, h1, h2⟩ := h.at_ i v hi; ⟨u, h1, den_mono k v h2⟩⟩
def LoopRel (ρ : Pl) (st : LoopState) (pd : Option Code) (n : Nat) (F : T SV) (ps : List Tmp) (x y : Code) (d : Nat) (r : Loop) : Prop :=
  r.state = st ∧ r.pending = pd ∧ TRel ρ n F r.tmps ∧ r.params.toList = ps ∧ r.assign = x ∧ r.body = y ∧ ∃ z, ρ d = some z ∧ r.defers = z.1
def ObjRel (P : Program) (ρ : Pl) (x : Nat × Nat) : SObj → Obj → Prop
  | .cells cs e opn, .cells arr e' z => e' = e ∧ (∃ us, denL ρ cs = some us ∧ if opn then (arr.toList.take us.length = us ∧ arr.size = x.2 * P.cellsOf e) else arr.toList = us) ∧ (∀ i, i < arr.size → ¬ (z.1 ≤ i ∧ i < z.2)) ∧ cs.all SV.one = true
  | .map es c, .map ents c' => c' = c ∧ denE ρ es ents.toList
  | .siter s p, .stringIter s' p' => s' = bytesOf s ∧ p' = p ∧ (∀ y ∈ s, y < 256)
  | .miter m a l b, .mapIter m' a' l' b' => a' = a ∧ l'.toList = l ∧ b' = b ∧ (match m with | none => m' = none | some r => ∃ y, ρ r = some y ∧ m' = some y.1)
  | .defr b, .deferred l => l = (if b then some [] else none)
  | .lp st pd n F ps ak bk d, .loop r => LoopRel ρ st pd n F ps ak bk d r
  | _, _ => False
theorem ObjRel.mono {P : Program} {ρ ρ' : Pl} (h : Le ρ ρ') {x : Nat × Nat} {o : SObj} {ob : Obj} (k : ObjRel P ρ x o ob) : ObjRel P ρ' x o ob := by
  cases o with
  | cells cs e opn =>
    cases ob <;> try exact k.elim
    obtain ⟨h1, ⟨us, h2, h3⟩, h4⟩ := k
    exact ⟨h1, ⟨us, denL_mono h cs h2, h3⟩, h4⟩
  | map es c =>
    cases ob <;> try exact k.elim
    exact ⟨k.1, denE_mono h k.2⟩
  | siter s p =>
    cases ob <;> first | exact k | exact k.elim
  | miter mm a l b =>
    cases ob <;> try exact k.elim
    obtain ⟨h1, h2, h3, h4⟩ := k
    refine ⟨h1, h2, h3, ?_⟩
    cases mm with
    | none => exact h4
    | some r =>
      obtain ⟨y, h5, h6⟩ := h4
      exact ⟨y, h r y h5, h6⟩
  | defr b => cases ob <;> first | exact k | exact k.elim
  | lp st pd n F ps ak bk d =>
    cases ob <;> try exact k.elim
    obtain ⟨h1, h2, h3, h4, h5, h6, z, h7, h8⟩ := k
    exact ⟨h1, h2, h3.mono h, h4, h5, h6, z, h d z h7, h8⟩

/-- what is not to be touched. -/
structure Base where
  w : World
  pr : Nat → Prop
  rv : Nat → Prop
structure Kept (B : Base) (w : World) : Prop where
  os : w.os = B.w.os
  tape : w.tape = B.w.tape
  output : w.output = B.w.output
  size : B.w.heap.size ≤ w.heap.size
  block : ∀ k, B.pr k → k < B.w.heap.size ∧ w.heap[k]? = B.w.heap[k]?
def Base.of (w : World) : Base := ⟨w, fun k => k < w.heap.size, fun _ => False⟩
theorem Kept.touch {w0 w : World} (h : Kept (.of w0) w) : Touch [] w0 w := ⟨h.os, h.tape, h.output, h.size, fun k hk _ => (h.block k hk).2⟩
theorem Kept.fresh {B : Base} {w : World} (h : Kept B w) : ¬ B.pr w.heap.size := fun k => by
  have := (h.block _ k).1
  have := h.size
  omega
theorem Kept.refl (w : World) : Kept (.of w) w := ⟨rfl, rfl, rfl, Nat.le_refl _, fun k hk => ⟨hk, rfl⟩⟩
theorem Kept.alloc {B : Base} {w : World} (h : Kept B w) (o : Obj) : Kept B (w.alloc o) := by
  refine ⟨h.os, h.tape, h.output, ?_, fun k hk => ?_⟩
  · have : (w.alloc o).heap.size = w.heap.size + 1 := by simp
    have := h.size
    omega
  · obtain ⟨h1, h2⟩ := h.block k hk
    exact ⟨h1, (Below.heap_alloc w o k (Nat.lt_of_lt_of_le h1 h.size)).trans h2⟩
/-- where the run began, and what stands for values that are not known. -/
class Orig where
  W : World
  V : Nat → Option Value
variable [Orig]
structure EmbX (val : Nat → Option Value) (nx : Nat) (w0 : Base) : Prop where
  vfr : ∀ b, nx ≤ b → val b = none
  vals : ∀ i v, Orig.V i = some v → val i = some v
  org : ∀ k, k < Orig.W.heap.size → w0.pr k ∧ w0.w.heap[k]? = Orig.W.heap[k]?
theorem EmbX.bump {val : Nat → Option Value} {nx nx' : Nat} {w0 : Base} (h : EmbX val nx w0) (k : nx ≤ nx') : EmbX val nx' w0 := ⟨fun b hb => h.vfr b (by omega), h.vals, h.org⟩
structure Emb (P : Program) (ρ : Pl) (m : T SObj) (nx : Nat) (w0 : Base) (w : World) : Prop where
  touch : Kept w0 w
  obj : ∀ b o, m.get b = some o → ∃ x ob, ρ b = some x ∧ ¬ w0.pr x.1 ∧ w.heap[x.1]? = some ob ∧ ObjRel P ρ x o ob
  inj : ∀ b b' x x', (m.get b).isSome = true → (m.get b').isSome = true → ρ b = some x → ρ b' = some x' → x.1 = x'.1 → b = b'
  fresh : ∀ b, nx ≤ b → ρ b = none ∧ m.get b = none
  old : ∀ b x, ρ b = some x → x.1 < w.heap.size
  hole : ∀ b, w0.rv b → b < nx ∧ ρ b = none
  x : EmbX ρ.val nx w0
def pset (ρ : Pl) (b : Nat) (x : Nat × Nat) : Pl := ⟨fun c => if c = b then some x else ρ c, ρ.val⟩
omit [Orig] in
theorem pset_at (ρ : Pl) (b : Nat) (x : Nat × Nat) (c : Nat) : pset ρ b x c = if c = b then some x else ρ c := rfl
omit [Orig] in
theorem pset_le {ρ : Pl} {b : Nat} (x : Nat × Nat) (h : ρ b = none) : Le ρ (pset ρ b x) := by
  refine ⟨fun _ _ h => h, ?_⟩
  intro c p hc
  rw [pset_at]
  by_cases e : c = b
  · subst e; rw [h] at hc; cases hc
  · rw [if_neg e]; exact hc
omit [Orig] in
theorem pset_same (ρ : Pl) (b : Nat) (x : Nat × Nat) : pset ρ b x b = some x := by rw [pset_at, if_pos rfl]
namespace Emb
variable {P : Program} {ρ : Pl} {m : T SObj} {nx : Nat} {w0 : Base} {w : World}
theorem orig (h : Emb P ρ m nx w0 w) {k : Nat} (hk : k < Orig.W.heap.size) : w.heap[k]? = Orig.W.heap[k]? := (h.touch.block k (h.x.org k hk).1).2.trans (h.x.org k hk).2
theorem empty (P : Program) (w : World) (hw : Orig.W = w) {nx : Nat} (hV : ∀ b, nx ≤ b → Orig.V b = none) : Emb P ⟨fun _ => none, Orig.V⟩ .leaf nx (.of w) w :=
  ⟨Kept.refl w, fun b o h => (by rw [T.get_leaf] at h; cases h), fun b b' x x' h => (by rw [T.get_leaf] at h; cases h), fun b _ => ⟨rfl, T.get_leaf b⟩, fun b x h => (by cases h), fun b h => h.elim, hV, fun _ _ h => h, fun k hk => ⟨by rw [← hw]; exact hk, by rw [hw]; rfl⟩⟩
theorem drawn (h : Emb P ρ m nx w0 w) {w' : World} (h1 : w'.heap = w.heap) (h2 : w'.os = w.os) (h3 : w'.tape = w.tape) (h4 : w'.output = w.output) : Emb P ρ m nx w0 w' := by
  refine ⟨⟨h2.trans h.touch.os, h3.trans h.touch.tape, h4.trans h.touch.output, by rw [h1]; exact h.touch.size, fun k hk => by rw [h1]; exact h.touch.block k hk⟩, ?_, h.inj, h.fresh, by rw [h1]; exact h.old, h.hole, h.x⟩
  rw [h1]; exact h.obj
theorem drew (h : Emb P ρ m nx w0 w) : Emb P ρ m nx w0 w.drew := h.drawn rfl rfl rfl rfl
theorem drew' (h : Emb P ρ m nx w0 w) : Emb P ρ m nx w0 { w with drawn := w.drawn + 1 } := h.drawn rfl rfl rfl rfl
/-- a new block. -/
theorem new (h : Emb P ρ m nx w0 w) (cap : Nat) {o : SObj} {ob : Obj} (k : ObjRel P (pset ρ nx (w.heap.size, cap)) (w.heap.size, cap) o ob) :
    Emb P (pset ρ nx (w.heap.size, cap)) (m.put (some o) nx) (nx + 1) w0 (w.alloc ob) ∧ Le ρ (pset ρ nx (w.heap.size, cap)) := by
  have hle : Le ρ (pset ρ nx (w.heap.size, cap)) := pset_le _ (h.fresh nx (Nat.le_refl _)).1
  have hsz : (w.alloc ob).heap.size = w.heap.size + 1 := by simp
  refine ⟨⟨h.touch.alloc ob, ?_, ?_, ?_, ?_, fun b hb => ⟨Nat.lt_succ_of_lt (h.hole b hb).1, by rw [pset_at, if_neg (by have := (h.hole b hb).1; omega)]; exact (h.hole b hb).2⟩, h.x.bump (Nat.le_succ _)⟩, hle⟩
  · intro b o' hb
    rw [T.get_put] at hb
    by_cases e : b = nx
    · subst e
      rw [if_pos rfl] at hb
      cases hb
      exact ⟨_, ob, pset_same _ _ _, h.touch.fresh, heap_alloc_new w ob, k⟩
    · rw [if_neg e] at hb
      obtain ⟨x, ob', h1, h2, h3, h4⟩ := h.obj b o' hb
      exact ⟨x, ob', hle b x h1, h2, (Below.heap_alloc w ob x.1 (h.old b x h1)).trans h3, h4.mono hle⟩
  · intro b b' x x' hb hb' hx hx' he
    have key : ∀ c y, (T.get (m.put (some o) nx) c).isSome = true → pset ρ nx (w.heap.size, cap) c = some y → (c = nx ∧ y.1 = w.heap.size) ∨ (c ≠ nx ∧ (m.get c).isSome = true ∧ ρ c = some y ∧ y.1 < w.heap.size) := by
      intro c y h1 h2
      rw [T.get_put] at h1
      rw [pset_at] at h2
      by_cases e : c = nx
      · rw [if_pos e] at h2; cases h2; exact .inl ⟨e, rfl⟩
      · rw [if_neg e] at h1 h2; exact .inr ⟨e, h1, h2, h.old c y h2⟩
    rcases key b x hb hx with ⟨e1, e2⟩ | ⟨e1, e2, e3, e4⟩ <;> rcases key b' x' hb' hx' with ⟨f1, f2⟩ | ⟨f1, f2, f3, f4⟩
    · omega
    · omega
    · omega
    · exact h.inj b b' x x' e2 f2 e3 f3 he
  · intro b hb
    have := h.fresh b (by omega)
    refine ⟨?_, ?_⟩
    · rw [pset_at, if_neg (by omega)]; exact this.1
    · rw [T.get_put_ne _ _ (by omega)]; exact this.2
  · intro b x hb
    rw [pset_at] at hb
    by_cases e : b = nx
    · rw [if_pos e] at hb; cases hb; rw [hsz]; exact Nat.lt_succ_self _
    · rw [if_neg e] at hb; have := h.old b x hb; rw [hsz]; omega
/-- a block turned. -/
theorem upd (h : Emb P ρ m nx w0 w) {b : Nat} {o o' : SObj} {x : Nat × Nat} {ob' : Obj} (hb : m.get b = some o) (hx : ρ b = some x) {w' : World}
    (h1 : w'.os = w.os) (h2 : w'.tape = w.tape) (h3 : w'.output = w.output) (hs : w'.heap.size = w.heap.size) (hn : w'.heap[x.1]? = some ob') (hk : ∀ k, k ≠ x.1 → w'.heap[k]? = w.heap[k]?)
    (k : ObjRel P ρ x o' ob') : Emb P ρ (m.put (some o') b) nx w0 w' := by
  obtain ⟨x0, ob0, e1, e2, e3, e4⟩ := h.obj b o hb
  rw [hx] at e1
  cases e1
  refine ⟨⟨h1.trans h.touch.os, h2.trans h.touch.tape, h3.trans h.touch.output, by rw [hs]; exact h.touch.size, fun j hj => by rw [hk j (fun e => e2 (e ▸ hj))]; exact h.touch.block j hj⟩, ?_, ?_, ?_, ?_, h.hole, h.x⟩
  · intro c oc hc
    rw [T.get_put] at hc
    by_cases e : c = b
    · subst e
      rw [if_pos rfl] at hc
      cases hc
      exact ⟨x, ob', hx, e2, hn, k⟩
    · rw [if_neg e] at hc
      obtain ⟨y, oy, f1, f2, f3, f4⟩ := h.obj c oc hc
      refine ⟨y, oy, f1, f2, ?_, f4⟩
      rw [hk y.1 (fun he => e (h.inj c b y x (by rw [hc]; rfl) (by rw [hb]; rfl) f1 hx he))]
      exact f3
  · intro c c' y y' hc hc' hy hy' he
    have key : ∀ d, (T.get (m.put (some o') b) d).isSome = true → (m.get d).isSome = true := by
      intro d hd
      rw [T.get_put] at hd
      by_cases e : d = b
      · subst e; rw [hb]; rfl
      · rw [if_neg e] at hd; exact hd
    exact h.inj c c' y y' (key c hc) (key c' hc') hy hy' he
  · intro c hc
    have := h.fresh c hc
    refine ⟨this.1, ?_⟩
    rw [T.get_put]
    by_cases e : c = b
    · subst e; rw [hb] at this; cases this.2
    · rw [if_neg e]; exact this.2
  · intro c y hy
    rw [hs]; exact h.old c y hy
/-- a block let go. -/
theorem erase (h : Emb P ρ m nx w0 w) (b : Nat) : Emb P ρ (m.put none b) nx w0 w := by
  have key : ∀ d o, T.get (m.put none b) d = some o → m.get d = some o := by
    intro d o hd
    rw [T.get_put] at hd
    by_cases e : d = b
    · rw [if_pos e] at hd; cases hd
    · rw [if_neg e] at hd; exact hd
  have key2 : ∀ d, (T.get (m.put none b) d).isSome = true → (m.get d).isSome = true := by
    intro d hd
    obtain ⟨o, ho⟩ := Option.isSome_iff_exists.1 hd
    rw [key d o ho]; rfl
  refine ⟨h.touch, fun c o hc => h.obj c o (key c o hc), fun c c' y y' hc hc' => h.inj c c' y y' (key2 c hc) (key2 c' hc'), fun c hc => ⟨(h.fresh c hc).1, ?_⟩, h.old, h.hole, h.x⟩
  rw [T.get_put]
  split
  · rfl
  · exact (h.fresh c hc).2
theorem bump (h : Emb P ρ m nx w0 w) {nx' : Nat} (k : nx ≤ nx') : Emb P ρ m nx' w0 w :=
  ⟨h.touch, h.obj, h.inj, fun b hb => h.fresh b (by omega), h.old, fun b hb => ⟨by have := (h.hole b hb).1; omega, (h.hole b hb).2⟩, h.x.bump k⟩
/-- a block laid that memory does not bear yet. -/
theorem floats (h : Emb P ρ m nx w0 w) {b : Nat} (hb : ρ b = none) (hlt : b < nx) (hrv : ¬ w0.rv b) (cap : Nat) (ob : Obj) :
    Emb P (pset ρ b (w.heap.size, cap)) m nx w0 (w.alloc ob) := by
  have hle : Le ρ (pset ρ b (w.heap.size, cap)) := pset_le _ hb
  have hsz : (w.alloc ob).heap.size = w.heap.size + 1 := by simp
  have hne : ∀ c, (m.get c).isSome = true → c ≠ b := by
    intro c hc e
    subst e
    obtain ⟨o, ho⟩ := Option.isSome_iff_exists.1 hc
    obtain ⟨x, _, h1, _⟩ := h.obj c o ho
    rw [hb] at h1
    cases h1
  have same : ∀ c, c ≠ b → pset ρ b (w.heap.size, cap) c = ρ c := fun c hc => by rw [pset_at, if_neg hc]
  refine ⟨h.touch.alloc ob, ?_, ?_, ?_, ?_, ?_, h.x⟩
  · intro c o hc
    obtain ⟨x, ob', h1, h2, h3, h4⟩ := h.obj c o hc
    exact ⟨x, ob', hle c x h1, h2, (Below.heap_alloc w ob x.1 (h.old c x h1)).trans h3, h4.mono hle⟩
  · intro c c' x x' hc hc' hx hx'
    rw [same c (hne c hc)] at hx
    rw [same c' (hne c' hc')] at hx'
    exact h.inj c c' x x' hc hc' hx hx'
  · intro c hc
    rw [same c (by omega)]
    exact h.fresh c hc
  · intro c x hc
    rw [pset_at] at hc
    by_cases e : c = b
    · rw [if_pos e] at hc; cases hc; rw [hsz]; exact Nat.lt_succ_self _
    · rw [if_neg e] at hc; have := h.old c x hc; rw [hsz]; omega
  · intro c hc
    rw [same c (fun e => hrv (e ▸ hc))]
    exact h.hole c hc
/-- memory takes a block up. -/
theorem adopt (h : Emb P ρ m nx w0 w) {b : Nat} {o : SObj} {x : Nat × Nat} {ob : Obj} (hb : ρ b = some x) (hw : w.heap[x.1]? = some ob) (hpr : ¬ w0.pr x.1) (hno : ∀ b' x', (m.get b').isSome = true → ρ b' = some x' → x'.1 ≠ x.1) (k : ObjRel P ρ x o ob) :
    Emb P ρ (m.put (some o) b) nx w0 w := by
  refine ⟨h.touch, ?_, ?_, ?_, h.old, h.hole, h.x⟩
  · intro c o' hc
    rw [T.get_put] at hc
    by_cases e : c = b
    · subst e
      rw [if_pos rfl] at hc
      cases hc
      exact ⟨x, ob, hb, hpr, hw, k⟩
    · rw [if_neg e] at hc
      exact h.obj c o' hc
  · intro c c' y y' hc hc' hy hy' he
    rw [T.get_put] at hc hc'
    by_cases e : c = b <;> by_cases e' : c' = b
    · rw [e, e']
    · rw [if_neg e'] at hc'
      subst e
      rw [hb] at hy
      cases hy
      exact absurd he.symm (hno c' y' hc' hy')
    · rw [if_neg e] at hc
      subst e'
      rw [hb] at hy'
      cases hy'
      exact absurd he (hno c y hc hy)
    · rw [if_neg e] at hc
      rw [if_neg e'] at hc'
      exact h.inj c c' y y' hc hc' hy hy' he
  · intro c hc
    have := h.fresh c hc
    refine ⟨this.1, ?_⟩
    rw [T.get_put_ne _ _ (fun e => by subst e; rw [hb] at this; cases this.1)]
    exact this.2
/-- with more to be left alone. -/
theorem rebase (h : Emb P ρ m nx w0 w) (pr rv : Nat → Prop) (h1 : ∀ k, pr k → k < w.heap.size) (h2 : ∀ b x, (m.get b).isSome = true → ρ b = some x → ¬ pr x.1) (h3 : ∀ b, rv b → b < nx ∧ ρ b = none) (h4 : ∀ k, w0.pr k → pr k) : Emb P ρ m nx ⟨w, pr, rv⟩ w :=
  ⟨⟨rfl, rfl, rfl, Nat.le_refl _, fun k hk => ⟨h1 k hk, rfl⟩⟩, fun b o hb => let ⟨x, ob, a1, _, a3, a4⟩ := h.obj b o hb; ⟨x, ob, a1, h2 b x (by rw [hb]; rfl) a1, a3, a4⟩, h.inj, h.fresh, h.old, h3, h.x.vfr, h.x.vals, fun k hk => ⟨h4 k (h.x.org k hk).1, h.orig hk⟩⟩
theorem unbase {pr rv : Nat → Prop} {w1 : World} (h : Emb P ρ m nx ⟨w, pr, rv⟩ w1) (k : Kept w0 w) (h1 : ∀ j, w0.pr j → pr j) (h2 : ∀ j, w0.rv j → rv j) (h3 : ∀ k, k < Orig.W.heap.size → w0.pr k ∧ w0.w.heap[k]? = Orig.W.heap[k]?) : Emb P ρ m nx w0 w1 :=
  ⟨⟨h.touch.os.trans k.os, h.touch.tape.trans k.tape, h.touch.output.trans k.output, Nat.le_trans k.size h.touch.size, fun j hj => ⟨(k.block j hj).1, (h.touch.block j (h1 j hj)).2.trans (k.block j hj).2⟩⟩,
    fun b o hb => let ⟨x, ob, a1, a2, a3, a4⟩ := h.obj b o hb; ⟨x, ob, a1, fun e => a2 (h1 _ e), a3, a4⟩, h.inj, h.fresh, h.old, fun b hb => h.hole b (h2 b hb), h.x.vfr, h.x.vals, h3⟩
end Emb

/-- a frame. -/
structure FRel (ρ : Pl) (N : Nat) (F : T SV) (a : Act) : Prop where
  size : a.tmps.size = N
  at_ : ∀ i v, F.get i = some v → ∃ u, a.tmps[i]? = some u ∧ den ρ v = some u
omit [Orig] in
theorem FRel.mono {ρ ρ' : Pl} {N : Nat} {F : T SV} {a : Act} (h : FRel ρ N F a) (k : Le ρ ρ') : FRel ρ' N F a :=
  ⟨h.size, fun i v hi => let ⟨u, h1, h2⟩ := h.at_ i v hi; ⟨u, h1, den_mono k v h2⟩⟩
noncomputable def fput (N : Nat) (F : T SV) (d : Option Tmp) (v : SV) : Option (T SV) := Option.rec (motive := fun _ => Option (T SV)) (some F) (fun i => oi (Nat.blt i N) (some (F.put (some v) i))) d
omit [Orig] in
theorem FRel.put {ρ : Pl} {N : Nat} {F F' : T SV} {a : Act} (h : FRel ρ N F a) {d : Option Tmp} {v : SV} {u : Value} (e : fput N F d v = some F') (hv : den ρ v = some u) : FRel ρ N F' (a.put d u) := by
  cases d with
  | none => cases e; exact h
  | some i =>
    obtain ⟨h1, h2⟩ := oi_eq.1 e
    cases h2
    have hi : i < N := Nat.le_of_ble_eq_true h1
    refine ⟨by simp [Act.put, h.size], fun j x hj => ?_⟩
    rw [T.get_put] at hj
    by_cases e : j = i
    · subst e
      rw [if_pos rfl] at hj
      cases hj
      exact ⟨u, by simp [Act.put, h.size, hi], hv⟩
    · rw [if_neg e] at hj
      obtain ⟨x', h3, h4⟩ := h.at_ j x hj
      exact ⟨x', by simp only [Act.put]; rw [Array.getElem?_setIfInBounds_ne (Ne.symm e)]; exact h3, h4⟩
omit [Orig] in
theorem put_defers (a : Act) (d : Option Tmp) (u : Value) : (a.put d u).defers = a.defers := by cases d <;> rfl
end Go.Proofs.YteblflebjhncbaaGreatDoor
