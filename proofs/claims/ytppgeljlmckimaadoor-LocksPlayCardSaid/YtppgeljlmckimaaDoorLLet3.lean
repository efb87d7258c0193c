/-
  (*Locks).Let: what its loop keeps.
-/
import Derived.Test.YtppgeljlmckimaaDoorLLet
import Derived.Test.YtppgeljlmckimaaDoorLLetLaw
namespace Go.Proofs.YtppgeljlmckimaaDoor
open Go.RowKit

structure Ready (w wr : World) (colr : Nat → Option LTag) (ra : Option Addr) (rn rc : Nat) (ro : List Nat) (ready : List Int) : Prop where
  row : Row wr 3 1 ra rn rc ro (ints ready)
  fr : ∀ b ∈ ro, w.heap.size ≤ b ∧ colr b = none
theorem Ready.later {w wr w2 : World} {colr col2 : Nat → Option LTag} {ra : Option Addr} {rn rc : Nat} {ro : List Nat} {ready : List Int} (h : Ready w wr colr ra rn rc ro ready) (k : Later isRow wr colr w2 col2) : Ready w w2 col2 ra rn rc ro ready :=
  ⟨h.row.touch k.touch (fun b hb hm => by have := (mem_owned.1 hm).2; exact this (h.fr b hb).2), fun b hb => ⟨(h.fr b hb).1, by rw [k.same b (h.row.lt b hb)]; exact (h.fr b hb).2⟩⟩
structure PathRow (wr : World) (colr : Nat → Option LTag) (id : Int) (pa : Option Addr) (pn pc : Nat) (po : List Nat) (ps : List Int) : Prop where
  row : Row wr 39 1 pa pn pc po (u64s ps)
  co : ∀ b ∈ po, colr b = some (.row id)
theorem PathRow.later {wr w2 : World} {colr col2 : Nat → Option LTag} {id : Int} {pa : Option Addr} {pn pc : Nat} {po : List Nat} {ps : List Int} (h : PathRow wr colr id pa pn pc po ps) (k : Later isRow wr colr w2 col2) : PathRow w2 col2 id pa pn pc po ps :=
  ⟨k.row h.row h.co trivial, fun b hb => by rw [k.same b (h.row.lt b hb)]; exact h.co b hb⟩
theorem Mid.on {w wr w2 : World} {lp : Nat} {col colr col2 : Nat → Option LTag} {S S' S'' : Lk} {id : Int} {blk : Int → Nat} {bi bh bw : Nat} {ao : Option Addr} {no co : Nat} {oo : List Nat} {ki kh kw : List (Int × Value)} (h : Mid w lp col S id blk bi bh bw S' wr colr)
    (hp : LParts w2 lp col2 (S.order.filter fun x => decide (x ≠ id)) (S.order.filter fun x => decide (x ≠ id)) S.order S''.held S''.waitsFor S.paths (Lk.up S''.has id (S.has id)) blk ao no co oo bi bh bw ki kh kw) (k : Later isRow wr colr w2 col2) : Mid w lp col S id blk bi bh bw S'' w2 col2 :=
  ⟨⟨_, _, _, _, _, _, _, hp⟩, h.later.trans k⟩

structure LetRel (w : World) (lp : Nat) (col : Nat → Option LTag) (S : Lk) (id : Int) (blk : Int → Nat) (bi bh bw : Nat) (pa : Option Addr) (pn pc : Nat) (po : List Nat) (t : Nat) (S' : Lk) (ready : List Int) (ra : Option Addr) (rn rc : Nat) (ro : List Nat) (wr : World) (colr : Nat → Option LTag) : Prop where
  mid : Mid w lp col S id blk bi bh bw S' wr colr
  sem : Lk.Sem S id t S' ready
  rdy : Ready w wr colr ra rn rc ro ready
  pr : PathRow wr colr id pa pn pc po (S.paths id)

/-- the next path is had no more: the entry of 'held' is struck. -/
theorem LetRel.cut {w : World} {lp : Nat} {col : Nat → Option LTag} {S : Lk} {id : Int} {blk : Int → Nat} {bi bh bw : Nat} {pa : Option Addr} {pn pc : Nat} {po : List Nat} {t : Nat} {S' : Lk} {ready : List Int} {ra : Option Addr} {rn rc : Nat} {ro : List Nat} {wr w2 : World} {colr : Nat → Option LTag}
    (h : LetRel w lp col S id blk bi bh bw pa pn pc po t S' ready ra rn rc ro wr colr) (hl : S.has id ≤ (S.paths id).length) (ht : t < S.has id) (hido : id ∈ S.order) {ao : Option Addr} {no co : Nat} {oo : List Nat} {ki kh kw : List (Int × Value)}
    (hp : LParts wr lp colr (S.order.filter fun x => decide (x ≠ id)) (S.order.filter fun x => decide (x ≠ id)) S.order S'.held S'.waitsFor S.paths (Lk.up S'.has id (S.has id)) blk ao no co oo bi bh bw ki kh kw)
    (hm : IMap w2 KU.f bh (delKey kh ((S.paths id).getD t 0))) (t2 : Touch [bh] wr w2) :
    LParts w2 lp colr (S.order.filter fun x => decide (x ≠ id)) (S.order.filter fun x => decide (x ≠ id)) S.order (S'.cut id).held (S'.cut id).waitsFor S.paths (Lk.up (S'.cut id).has id (S.has id)) blk ao no co oo bi bh bw ki (delKey kh ((S.paths id).getD t 0)) kw ∧ Later isRow wr colr w2 colr := by
  have hpp := h.sem.path hl ht
  have h0 : 0 < S'.has id := by rw [h.sem.hid]; omega
  have hid' : id ∈ S'.order := by rw [h.sem.order]; exact hido
  refine ⟨(hp.delHeld hm t2).congr (fun q => Lk.held_cut h.sem.inv hid' hpp h0 q) (fun q => Lk.waits_cut h0 q) (fun j _ => ⟨rfl, ?_⟩), Later.of t2 (fun x hx _ => ?_) (fun _ _ => rfl)⟩
  · by_cases e : j = id
    · subst e; rw [Lk.up_same, Lk.up_same]
    · rw [Lk.up_other _ _ e, Lk.up_other _ _ e]; exact Lk.up_other _ _ e
  · simp at hx; subst hx; exact ⟨_, hp.c_bh, by simp [isRow]⟩

theorem Row.tail {w : World} {e : TypeId} {b off n cap : Nat} {own : List Nat} {xs : List Value} (h : Row w e 1 (some ⟨b, off, none⟩) n cap own xs) (hn : 0 < n) :
    Row w e 1 (if cap = 1 then some ⟨b, off, none⟩ else some ⟨b, off + 1, none⟩) (n - 1) (cap - 1) (if cap = 1 then [] else own) (xs.drop 1) := by
  obtain ⟨b', off', cur, h1, h2, hg, hs, ht⟩ := h.form (by have := h.2.1; omega)
  cases h1
  have hc := h.2.1
  refine ⟨by rw [List.length_drop, h.1]; omega, by omega, by have := h.2.2.1; omega, ?_⟩
  by_cases e1 : cap = 1
  · left; simp [e1]
  · right
    rw [if_neg e1, if_neg e1]
    refine ⟨b, off + 1, cur, rfl, h2, hg, by omega, ?_⟩
    rw [← ht, Nat.mul_one, Nat.mul_one, List.drop_take, List.drop_drop]
end Go.Proofs.YtppgeljlmckimaaDoor
