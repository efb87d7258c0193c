/-
  How locks lie in memory: whose block is whose is said by colours.
-/
import Derived.Test.YtppgeljlmckimaaDoorProg
import Derived.Test.YtppgeljlmckimaaDoorLLaw
import Derived.Test.YtppgeljlmckimaaDoorKit
import Derived.Test.YtppgeljlmckimaaDoorMapAt
import Derived.WalkLawsBesides
namespace Go.Proofs.YtppgeljlmckimaaDoor
open Go.RowKit

inductive LTag
  | box | ids | held | waits | order
  | wait (p : Int) | ask (i : Int) | row (i : Int)
  deriving DecidableEq

/-- Blocks of one colour may have turned; below the elder heap's size the colours are as they were. -/
structure Keep {τ : Type} (T : τ) (col col' : Nat → Option τ) (w w' : World) : Prop where
  touch : ∃ l, Touch l w w' ∧ ∀ x ∈ l, x < w.heap.size → ∀ T', col x = some T' → T' = T
  col : ∀ b, b < w.heap.size → col' b = col b
namespace Keep
variable {τ : Type} {T T' : τ} {col col' : Nat → Option τ} {w w' : World}
theorem old (k : Keep T col col' w w') {b : Nat} (hb : b < w.heap.size) (hc : col b = some T') (hne : T' ≠ T) : w'.heap[b]? = w.heap[b]? ∧ col' b = some T' := by
  obtain ⟨⟨l, t, hl⟩, hk⟩ := k
  refine ⟨t.block b hb (fun hm => ?_), (hk b hb).trans hc⟩
  exact hne (hl b hm hb _ hc)
theorem at_ (k : Keep T col col' w w') {b : Nat} {e : TypeId} {cs : List Value} (h : At w b e cs) (hc : col b = some T') (hne : T' ≠ T) : At w' b e cs ∧ col' b = some T' := by
  obtain ⟨h1, h2⟩ := k.old h.lt hc hne
  exact ⟨h1.trans h, h2⟩
theorem row (k : Keep T col col' w w') {e : TypeId} {size : Nat} {a : Option Addr} {n cap : Nat} {own : List Nat} {xs : List Value} (h : Row w e size a n cap own xs) (hc : ∀ b ∈ own, col b = some T') (hne : T' ≠ T) : Row w' e size a n cap own xs ∧ ∀ b ∈ own, col' b = some T' := by
  refine ⟨⟨h.1, h.2.1, h.2.2.1, ?_⟩, fun b hb => (k.old (h.lt b hb) (hc b hb) hne).2⟩
  rcases h.2.2.2 with h' | ⟨b, off, cur, h1, rfl, hg, r⟩
  · exact .inl h'
  · exact .inr ⟨b, off, cur, h1, rfl, (k.old (h.lt b (by simp)) (hc b (by simp)) hne).1.trans hg, r⟩
theorem imap {κ : Type} (k : Keep T col col' w w') {f : κ → Value} {b : Nat} {kv : List (κ × Value)} (h : IMap w f b kv) (hc : col b = some T') (hne : T' ≠ T) : IMap w' f b kv ∧ col' b = some T' := by
  obtain ⟨h1, h2⟩ := k.old h.lt hc hne
  obtain ⟨es, clock, hb, r⟩ := h
  exact ⟨⟨es, clock, h1.trans hb, r⟩, h2⟩
theorem of {l : List Nat} (t : Touch l w w') (hl : ∀ x ∈ l, x < w.heap.size → col x = some T) (hk : ∀ b, b < w.heap.size → col' b = col b) : Keep T col col' w w' := ⟨⟨l, t, fun x hx hlt T' hT => by rw [hl x hx hlt] at hT; simpa using hT.symm⟩, hk⟩
theorem of_none {l : List Nat} (t : Touch l w w') (hl : ∀ x ∈ l, x < w.heap.size → col x = none) (hk : ∀ b, b < w.heap.size → col' b = col b) : Keep T col col' w w' := ⟨⟨l, t, fun x hx hlt T' hT => by rw [hl x hx hlt] at hT; cases hT⟩, hk⟩
end Keep

/-- The colours, with what is new in colour T. -/
def paint {τ : Type} (col : Nat → Option τ) (n : Nat) (T : τ) : Nat → Option τ := fun b => if n ≤ b then some T else col b
theorem paint_old {τ : Type} (col : Nat → Option τ) (n : Nat) (T : τ) {b : Nat} (h : b < n) : paint col n T b = col b := if_neg (by omega)
theorem paint_new {τ : Type} (col : Nat → Option τ) (n : Nat) (T : τ) {b : Nat} (h : n ≤ b) : paint col n T b = some T := if_pos h
/-- what is coloured. -/
def owned {τ : Type} (col : Nat → Option τ) (w : World) : List Nat := (List.range w.heap.size).filter fun b => (col b).isSome
theorem mem_owned {τ : Type} {col : Nat → Option τ} {w : World} {b : Nat} : b ∈ owned col w ↔ b < w.heap.size ∧ col b ≠ none := by
  unfold owned
  rw [List.mem_filter, List.mem_range]
  cases col b <;> simp

/-- What a call leaves: it gives v; what it had for itself may have turned; I holds of what it has now. -/
def After (own : List Nat) (w : World) (v : Value) (I : World → List Nat → Prop) (e : Ending) (w' : World) : Prop :=
  ∃ own', e = .returned v ∧ I w' own' ∧ Touch own w w' ∧ ∀ b ∈ own', b ∈ own ∨ w.heap.size ≤ b

theorem Tryd.mapI : Tryd.prog.underlying 66 = some (.map 3 71) := by kernel_rfl
theorem Tryd.mapH : Tryd.prog.underlying 67 = some (.map 39 3) := by kernel_rfl
theorem Tryd.mapW : Tryd.prog.underlying 68 = some (.map 39 30) := by kernel_rfl
theorem Tryd.u64T : Tryd.prog.underlying 39 = some (.int .u64) := by kernel_rfl
theorem Tryd.i64T : Tryd.prog.underlying 3 = some (.int .i64) := by kernel_rfl
theorem Tryd.intsT : Tryd.prog.underlying 30 = some (.slice 3) := by kernel_rfl
theorem Tryd.u64sT : Tryd.prog.underlying 27 = some (.slice 39) := by kernel_rfl
theorem Tryd.infoInt : (Tryd.prog.info? 3).map (fun i => (i.zero, i.size, i.bytes)) = some (some (.int .i64 0), 1, 8) := by kernel_rfl
theorem Tryd.infoU64 : (Tryd.prog.info? 39).map (fun i => (i.zero, i.size, i.bytes)) = some (some (.int .u64 0), 1, 8) := by kernel_rfl
noncomputable def KU : KK Tryd.prog 39 Int := KK.int Tryd.u64T
noncomputable def KI : KK Tryd.prog 3 Int := KK.int Tryd.i64T
theorem zeroInt (w : World) : (zeroValue 3).run Tryd.prog w = .ok (.int .i64 0) w := by kernel_rfl
theorem zeroInts (w : World) : (zeroValue 30).run Tryd.prog w = .ok (.slice none 0 0) w := by kernel_rfl
theorem zeroAsk (w : World) : (zeroValue 71).run Tryd.prog w = .ok (.pointer none) w := by kernel_rfl

def ints (l : List Int) : List Value := l.map (Value.int .i64)
def u64s (l : List Int) : List Value := l.map (Value.int .u64)

/-- Those that wait for a path: no entry, or a list. -/
def WaitAt (w : World) (col : Nat → Option LTag) (p : Int) (v : Option Value) (l : List Int) : Prop :=
  match v with
  | none => l = []
  | some v => ∃ a n c o, v = .slice a n c ∧ Row w 3 1 a n c o (ints l) ∧ ∀ b ∈ o, col b = some (.wait p)
/-- One that asks. -/
structure ObjAt (w : World) (col : Nat → Option LTag) (b : Nat) (i : Int) (ps : List Int) (h : Nat) (a : Option Addr) (n c : Nat) (o : List Nat) : Prop where
  at_ : At w b 75 [.int .i64 i, .slice a n c, .int .i64 h]
  row : Row w 39 1 a n c o (u64s ps)
  cb : col b = some (.ask i)
  co : ∀ x ∈ o, col x = some (.row i)
def Obj (w : World) (col : Nat → Option LTag) (b : Nat) (i : Int) (ps : List Int) (h : Nat) : Prop := ∃ a n c o, ObjAt w col b i ps h a n c o

/-- H: who has a path; W: who waits for it; P, N: the paths that one asks for, and how many it has. -/
structure LParts (w : World) (lp : Nat) (col : Nat → Option LTag) (ol order objs : List Int) (H : Int → Option Int) (W P : Int → List Int) (N : Int → Nat) (blk : Int → Nat) (ao : Option Addr) (no co : Nat) (oo : List Nat) (bi bh bw : Nat) (ki kh kw : List (Int × Value)) : Prop where
  at_ : At w lp 70 [.slice ao no co, .map (some bi), .map (some bh), .map (some bw)]
  order_ : Row w 3 1 ao no co oo (ints ol)
  ids : IMap w KI.f bi ki
  idsn : (keysOf ki).Nodup
  idsAt : ∀ i, atKey ki i = if i ∈ order then some (.pointer (some ⟨blk i, 0, none⟩)) else none
  held : IMap w KU.f bh kh
  heldn : (keysOf kh).Nodup
  heldAt : ∀ p, atKey kh p = (H p).map (Value.int .i64)
  waits : IMap w KU.f bw kw
  waitsn : (keysOf kw).Nodup
  waitsAt : ∀ p, WaitAt w col p (atKey kw p) (W p)
  obj : ∀ i ∈ objs, Obj w col (blk i) i (P i) (N i)
  c_lp : col lp = some .box
  c_oo : ∀ b ∈ oo, col b = some .order
  c_bi : col bi = some .ids
  c_bh : col bh = some .held
  c_bw : col bw = some .waits

namespace Keep
variable {T : LTag} {col col' : Nat → Option LTag} {w w' : World}
theorem waitAt (k : Keep T col col' w w') {p : Int} {v : Option Value} {l : List Int} (h : WaitAt w col p v l) (hne : LTag.wait p ≠ T) : WaitAt w' col' p v l := by
  cases v with
  | none => exact h
  | some v =>
    obtain ⟨a, n, c, o, h1, h2, h3⟩ := h
    obtain ⟨h4, h5⟩ := k.row h2 h3 hne
    exact ⟨a, n, c, o, h1, h4, h5⟩
theorem objAt (k : Keep T col col' w w') {b : Nat} {i : Int} {ps : List Int} {h : Nat} {a : Option Addr} {n c : Nat} {o : List Nat} (H : ObjAt w col b i ps h a n c o) (h1 : LTag.ask i ≠ T) (h2 : LTag.row i ≠ T) : ObjAt w' col' b i ps h a n c o := by
  obtain ⟨k1, k2⟩ := k.at_ H.at_ H.cb h1
  obtain ⟨k3, k4⟩ := k.row H.row H.co h2
  exact ⟨k1, k3, k2, k4⟩
theorem obj (k : Keep T col col' w w') {b : Nat} {i : Int} {ps : List Int} {h : Nat} (H : Obj w col b i ps h) (h1 : LTag.ask i ≠ T) (h2 : LTag.row i ≠ T) : Obj w' col' b i ps h := by
  obtain ⟨a, n, c, o, H⟩ := H
  exact ⟨a, n, c, o, k.objAt H h1 h2⟩
end Keep

section
variable {w w' : World} {lp : Nat} {col col' : Nat → Option LTag} {ol order objs : List Int} {H : Int → Option Int} {W P : Int → List Int} {N : Int → Nat} {blk : Int → Nat} {ao : Option Addr} {no co : Nat} {oo : List Nat} {bi bh bw : Nat} {ki kh kw : List (Int × Value)}

/-- Nothing that is coloured has turned. -/
theorem LParts.still (h : LParts w lp col ol order objs H W P N blk ao no co oo bi bh bw ki kh kw) {l : List Nat} (t : Touch l w w') (hl : ∀ x ∈ l, x < w.heap.size → col x = none) (hk : ∀ b, b < w.heap.size → col' b = col b) : LParts w' lp col' ol order objs H W P N blk ao no co oo bi bh bw ki kh kw := by
  have k : ∀ T : LTag, Keep T col col' w w' := fun T => Keep.of_none t hl hk
  refine ⟨((k .ids).at_ h.at_ h.c_lp (by simp)).1, ((k .ids).row h.order_ h.c_oo (by simp)).1, ((k .box).imap h.ids h.c_bi (by simp)).1, h.idsn, h.idsAt, ((k .box).imap h.held h.c_bh (by simp)).1, h.heldn, h.heldAt, ((k .box).imap h.waits h.c_bw (by simp)).1, h.waitsn,
    fun p => (k .box).waitAt (h.waitsAt p) (by simp), fun i hi => (k .box).obj (h.obj i hi) (by simp) (by simp), ((k .ids).at_ h.at_ h.c_lp (by simp)).2, ((k .ids).row h.order_ h.c_oo (by simp)).2, ((k .box).imap h.ids h.c_bi (by simp)).2, ((k .box).imap h.held h.c_bh (by simp)).2, ((k .box).imap h.waits h.c_bw (by simp)).2⟩
theorem LParts.step (h : LParts w lp col ol order objs H W P N blk ao no co oo bi bh bw ki kh kw) (t : Touch [] w w') : LParts w' lp col ol order objs H W P N blk ao no co oo bi bh bw ki kh kw := h.still t (by simp) (fun _ _ => rfl)

/-- An entry of 'held' has been written or struck. -/
theorem LParts.setHeld (h : LParts w lp col ol order objs H W P N blk ao no co oo bi bh bw ki kh kw) {kh' : List (Int × Value)} {H' : Int → Option Int} (hm : IMap w' KU.f bh kh') (t : Touch [bh] w w') (hn : (keysOf kh').Nodup)
    (ha : ∀ p, atKey kh' p = (H' p).map (Value.int .i64)) : LParts w' lp col ol order objs H' W P N blk ao no co oo bi bh bw ki kh' kw := by
  have k : Keep LTag.held col col w w' := Keep.of t (by intro x hx _; simp at hx; subst hx; exact h.c_bh) (fun _ _ => rfl)
  exact ⟨(k.at_ h.at_ h.c_lp (by simp)).1, (k.row h.order_ h.c_oo (by simp)).1, (k.imap h.ids h.c_bi (by simp)).1, h.idsn, h.idsAt, hm, hn, ha, (k.imap h.waits h.c_bw (by simp)).1, h.waitsn,
    fun p => k.waitAt (h.waitsAt p) (by simp), fun i hi => k.obj (h.obj i hi) (by simp) (by simp), h.c_lp, h.c_oo, h.c_bi, h.c_bh, h.c_bw⟩
theorem LParts.putHeld (h : LParts w lp col ol order objs H W P N blk ao no co oo bi bh bw ki kh kw) {p i : Int} (hm : IMap w' KU.f bh (putKey kh p (.int .i64 i))) (t : Touch [bh] w w') :
    LParts w' lp col ol order objs (fun q => if q = p then some i else H q) W P N blk ao no co oo bi bh bw ki (putKey kh p (.int .i64 i)) kw :=
  h.setHeld hm t (nodup_put h.heldn _ _) (fun q => by rw [atKey_put h.heldn, h.heldAt]; split <;> rfl)
theorem LParts.delHeld (h : LParts w lp col ol order objs H W P N blk ao no co oo bi bh bw ki kh kw) {p : Int} (hm : IMap w' KU.f bh (delKey kh p)) (t : Touch [bh] w w') :
    LParts w' lp col ol order objs (fun q => if q = p then none else H q) W P N blk ao no co oo bi bh bw ki (delKey kh p) kw :=
  h.setHeld hm t (nodup_del h.heldn _) (fun q => by rw [atKey_del h.heldn, h.heldAt]; split <;> rfl)
/-- One of those that ask has turned. -/
theorem LParts.setObj (h : LParts w lp col ol order objs H W P N blk ao no co oo bi bh bw ki kh kw) {i : Int} {n : Nat} (hob : Obj w' col (blk i) i (P i) n) (t : Touch [blk i] w w') (hc : col (blk i) = some (.ask i)) :
    LParts w' lp col ol order objs H W P (Lk.up N i n) blk ao no co oo bi bh bw ki kh kw := by
  have k : Keep (LTag.ask i) col col w w' := Keep.of t (by intro x hx _; simp at hx; subst hx; exact hc) (fun _ _ => rfl)
  refine ⟨(k.at_ h.at_ h.c_lp (by simp)).1, (k.row h.order_ h.c_oo (by simp)).1, (k.imap h.ids h.c_bi (by simp)).1, h.idsn, h.idsAt, (k.imap h.held h.c_bh (by simp)).1, h.heldn, h.heldAt, (k.imap h.waits h.c_bw (by simp)).1, h.waitsn,
    fun p => k.waitAt (h.waitsAt p) (by simp), fun j hj => ?_, h.c_lp, h.c_oo, h.c_bi, h.c_bh, h.c_bw⟩
  by_cases e : j = i
  · subst e; rw [Lk.up_same]; exact hob
  · rw [Lk.up_other _ _ e]
    exact k.obj (h.obj j hj) (by simpa using e) (by simp)
/-- The list of those that wait for a path has turned (what is new is its own), and then the map's entry. -/
theorem LParts.setWait {w1 : World} (h : LParts w lp col ol order objs H W P N blk ao no co oo bi bh bw ki kh kw) {p : Int} {a : Option Addr} {n c : Nat} {o o' l : List Nat} {xs : List Int} (t : Touch l w w1) (hl : ∀ x ∈ l, x < w.heap.size → col x = some (.wait p))
    (hr : Row w1 3 1 a n c o' (ints xs)) (ho : ∀ b ∈ o', b ∈ o ∨ w.heap.size ≤ b) (hco : ∀ b ∈ o, col b = some (.wait p)) (hm : IMap w' KU.f bw (putKey kw p (.slice a n c))) (t2 : Touch [bw] w1 w') :
    LParts w' lp (paint col w.heap.size (.wait p)) ol order objs H (Lk.up W p xs) P N blk ao no co oo bi bh bw ki kh (putKey kw p (.slice a n c)) := by
  have k : Keep (LTag.wait p) col (paint col w.heap.size (.wait p)) w w1 := Keep.of t hl (fun b hb => paint_old _ _ _ hb)
  have hcw := (k.imap h.waits h.c_bw (by simp)).2
  have k2 : Keep LTag.waits (paint col w.heap.size (.wait p)) (paint col w.heap.size (.wait p)) w1 w' := Keep.of t2 (by intro x hx _; simp at hx; subst hx; exact hcw) (fun _ _ => rfl)
  have hco' : ∀ b ∈ o', paint col w.heap.size (.wait p) b = some (.wait p) := fun b hb => by
    rcases Nat.lt_or_ge b w.heap.size with hlt | hge
    · rcases ho b hb with h1 | h1
      · rw [paint_old _ _ _ hlt]; exact hco b h1
      · omega
    · exact paint_new _ _ _ hge
  have at1 := k.at_ h.at_ h.c_lp (by simp)
  have or1 := k.row h.order_ h.c_oo (by simp)
  have im1 := k.imap h.ids h.c_bi (by simp)
  have im2 := k.imap h.held h.c_bh (by simp)
  have rw1 := k2.row hr hco' (by simp)
  refine ⟨(k2.at_ at1.1 at1.2 (by simp)).1, (k2.row or1.1 or1.2 (by simp)).1, (k2.imap im1.1 im1.2 (by simp)).1, h.idsn, h.idsAt, (k2.imap im2.1 im2.2 (by simp)).1, h.heldn, h.heldAt, hm, nodup_put h.waitsn _ _,
    fun q => ?_, fun i hi => k2.obj (k.obj (h.obj i hi) (by simp) (by simp)) (by simp) (by simp), at1.2, or1.2, im1.2, im2.2, hcw⟩
  rw [atKey_put h.waitsn]
  by_cases e : q = p
  · subst e
    rw [if_pos rfl, Lk.up_same]
    exact ⟨a, n, c, o', rfl, rw1.1, rw1.2⟩
  · rw [if_neg e, Lk.up_other _ _ e]
    exact k2.waitAt (k.waitAt (h.waitsAt q) (by simpa using e)) (by simp)
theorem LParts.congr (h : LParts w lp col ol order objs H W P N blk ao no co oo bi bh bw ki kh kw) {H' : Int → Option Int} {W' P' : Int → List Int} {N' : Int → Nat} (eH : ∀ p, H' p = H p) (eW : ∀ p, W' p = W p) (eP : ∀ i ∈ objs, P' i = P i ∧ N' i = N i) :
    LParts w lp col ol order objs H' W' P' N' blk ao no co oo bi bh bw ki kh kw :=
  ⟨h.at_, h.order_, h.ids, h.idsn, h.idsAt, h.held, h.heldn, fun p => by rw [eH]; exact h.heldAt p, h.waits, h.waitsn, fun p => by rw [eW]; exact h.waitsAt p, fun i hi => by rw [(eP i hi).1, (eP i hi).2]; exact h.obj i hi, h.c_lp, h.c_oo, h.c_bi, h.c_bh, h.c_bw⟩
/-- The map of those that ask has turned. -/
theorem LParts.setIds (h : LParts w lp col ol order objs H W P N blk ao no co oo bi bh bw ki kh kw) {order' objs' : List Int} {blk' : Int → Nat} {ki' : List (Int × Value)} (hm : IMap w' KI.f bi ki') (t : Touch [bi] w w') (hn : (keysOf ki').Nodup)
    (ha : ∀ i, atKey ki' i = if i ∈ order' then some (.pointer (some ⟨blk' i, 0, none⟩)) else none) (hob : ∀ i ∈ objs', Obj w col (blk' i) i (P i) (N i)) : LParts w' lp col ol order' objs' H W P N blk' ao no co oo bi bh bw ki' kh kw := by
  have k : Keep LTag.ids col col w w' := Keep.of t (by intro x hx _; simp at hx; subst hx; exact h.c_bi) (fun _ _ => rfl)
  exact ⟨(k.at_ h.at_ h.c_lp (by simp)).1, (k.row h.order_ h.c_oo (by simp)).1, hm, hn, ha, (k.imap h.held h.c_bh (by simp)).1, h.heldn, h.heldAt, (k.imap h.waits h.c_bw (by simp)).1, h.waitsn,
    fun p => k.waitAt (h.waitsAt p) (by simp), fun i hi => k.obj (hob i hi) (by simp) (by simp), h.c_lp, h.c_oo, h.c_bi, h.c_bh, h.c_bw⟩
/-- The list of those that ask has turned (what is new is its own), and is stored. -/
theorem LParts.setOrder {w1 : World} (h : LParts w lp col ol order objs H W P N blk ao no co oo bi bh bw ki kh kw) {a : Option Addr} {n c : Nat} {o' : List Nat} {ol' : List Int} (t : Touch oo w w1)
    (hr : Row w1 3 1 a n c o' (ints ol')) (ho : ∀ b ∈ o', b ∈ oo ∨ w.heap.size ≤ b) : LParts (w1.setCell ⟨lp, 0, none⟩ (.slice a n c)) lp (paint col w.heap.size .order) ol' order objs H W P N blk a n c o' bi bh bw ki kh kw := by
  have k : Keep LTag.order col (paint col w.heap.size .order) w w1 := Keep.of t (fun x hx _ => h.c_oo x hx) (fun b hb => paint_old _ _ _ hb)
  have at1 := k.at_ h.at_ h.c_lp (by simp)
  have k2 : Keep LTag.box (paint col w.heap.size .order) (paint col w.heap.size .order) w1 (w1.setCell ⟨lp, 0, none⟩ (.slice a n c)) := Keep.of ((Touch.refl [lp] _).setCell _ (by simp) _) (by intro x hx _; simp at hx; subst hx; exact at1.2) (fun _ _ => rfl)
  have hco' : ∀ b ∈ o', paint col w.heap.size .order b = some .order := fun b hb => by
    rcases Nat.lt_or_ge b w.heap.size with hlt | hge
    · rcases ho b hb with h1 | h1
      · rw [paint_old _ _ _ hlt]; exact h.c_oo b h1
      · omega
    · exact paint_new _ _ _ hge
  have im1 := k.imap h.ids h.c_bi (by simp)
  have im2 := k.imap h.held h.c_bh (by simp)
  have im3 := k.imap h.waits h.c_bw (by simp)
  have rw1 := k2.row hr hco' (by simp)
  refine ⟨?_, rw1.1, (k2.imap im1.1 im1.2 (by simp)).1, h.idsn, h.idsAt, (k2.imap im2.1 im2.2 (by simp)).1, h.heldn, h.heldAt, (k2.imap im3.1 im3.2 (by simp)).1, h.waitsn,
    fun q => k2.waitAt (k.waitAt (h.waitsAt q) (by simp)) (by simp), fun i hi => k2.obj (k.obj (h.obj i hi) (by simp) (by simp)) (by simp) (by simp), at1.2, rw1.2, im1.2, im2.2, im3.2⟩
  have := at1.1.set 0 (.slice a n c)
  simpa using this
end

/-- Of what was coloured in w something may have turned, but for the colours fz; the colours are as they were. -/
structure Later {τ : Type} (fz : τ → Prop) (w : World) (col : Nat → Option τ) (w' : World) (col' : Nat → Option τ) : Prop where
  touch : Touch (owned col w) w w'
  same : ∀ b, b < w.heap.size → col' b = col b
  stays : ∀ b, b < w.heap.size → ∀ T, col b = some T → fz T → w'.heap[b]? = w.heap[b]?
namespace Later
variable {τ : Type} {fz : τ → Prop} {w w1 w2 : World} {col col1 col2 : Nat → Option τ}
theorem refl (w : World) (col : Nat → Option τ) : Later fz w col w col := ⟨Touch.refl _ _, fun _ _ => rfl, fun _ _ _ _ _ => rfl⟩
theorem trans (h : Later fz w col w1 col1) (k : Later fz w1 col1 w2 col2) : Later fz w col w2 col2 := by
  refine ⟨h.touch.trans k.touch (fun x hx => ?_), fun b hb => (k.same b (Nat.lt_of_lt_of_le hb h.touch.size)).trans (h.same b hb), fun b hb T hT hf => ?_⟩
  · obtain ⟨h1, h2⟩ := mem_owned.1 hx
    rcases Nat.lt_or_ge x w.heap.size with hlt | hge
    · exact .inl (mem_owned.2 ⟨hlt, by rw [← h.same x hlt]; exact h2⟩)
    · exact .inr hge
  · exact (k.stays b (Nat.lt_of_lt_of_le hb h.touch.size) T (by rw [h.same b hb]; exact hT) hf).trans (h.stays b hb T hT hf)
theorem of {l : List Nat} (t : Touch l w w1) (hl : ∀ x ∈ l, x < w.heap.size → ∃ T, col x = some T ∧ ¬ fz T) (hk : ∀ b, b < w.heap.size → col1 b = col b) : Later fz w col w1 col1 := by
  refine ⟨t.mono (fun x hx => ?_), hk, fun b hb T hT hf => t.block b hb (fun hm => ?_)⟩
  · rcases Nat.lt_or_ge x w.heap.size with hlt | hge
    · obtain ⟨T, h1, -⟩ := hl x hx hlt
      exact .inl (mem_owned.2 ⟨hlt, by rw [h1]; simp⟩)
    · exact .inr hge
  · obtain ⟨T', h1, h2⟩ := hl b hm hb
    rw [hT] at h1
    cases h1
    exact h2 hf
theorem owned_of (h : Later fz w col w1 col1) : ∀ b ∈ owned col1 w1, b ∈ owned col w ∨ w.heap.size ≤ b := by
  intro b hb
  obtain ⟨h1, h2⟩ := mem_owned.1 hb
  rcases Nat.lt_or_ge b w.heap.size with hlt | hge
  · exact .inl (mem_owned.2 ⟨hlt, by rw [← h.same b hlt]; exact h2⟩)
  · exact .inr hge
theorem step (h : Later fz w col w1 col1) (t : Touch [] w1 w2) : Later fz w col w2 col1 := h.trans (of t (by simp) (fun _ _ => rfl))
/-- what is new since w, and not coloured, has turned. -/
theorem loose (h : Later fz w col w1 col1) {l : List Nat} (t : Touch l w1 w2) (hl : ∀ x ∈ l, w.heap.size ≤ x) (hn : ∀ x ∈ l, x < w1.heap.size → col1 x = none) (hk : ∀ b, b < w1.heap.size → col2 b = col1 b) : Later fz w col w2 col2 := by
  refine ⟨h.touch.trans t (fun x hx => .inr (hl x hx)), fun b hb => (hk b (Nat.lt_of_lt_of_le hb h.touch.size)).trans (h.same b hb), fun b hb T hT hf => ?_⟩
  exact (t.block b (Nat.lt_of_lt_of_le hb h.touch.size) (fun hm => by have := hl b hm; omega)).trans (h.stays b hb T hT hf)
/-- a row of a colour that stays. -/
theorem row (h : Later fz w col w1 col1) {e : TypeId} {size : Nat} {a : Option Addr} {n cap : Nat} {own : List Nat} {xs : List Value} {T : τ} (hr : Row w e size a n cap own xs) (hc : ∀ b ∈ own, col b = some T) (hf : fz T) : Row w1 e size a n cap own xs := by
  refine ⟨hr.1, hr.2.1, hr.2.2.1, ?_⟩
  rcases hr.2.2.2 with h' | ⟨b, off, cur, h1, rfl, hg, r⟩
  · exact .inl h'
  · exact .inr ⟨b, off, cur, h1, rfl, (h.stays b (hr.lt b (by simp)) T (hc b (by simp)) hf).trans hg, r⟩
end Later
/-- the rows of paths never turn. -/
def isRow : LTag → Prop
  | .row _ => True
  | _ => False
end Go.Proofs.YtppgeljlmckimaaDoor
