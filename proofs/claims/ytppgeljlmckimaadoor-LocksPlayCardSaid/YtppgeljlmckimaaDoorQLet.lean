/-
  The document's locks: Let.
-/
import Derived.Test.YtppgeljlmckimaaDoorQAsk
import Derived.Test.YtppgeljlmckimaaDoorLLet2
import Derived.Test.YtppgeljlmckimaaDoorMapLen
import Derived.Lib.Builder
namespace Go.Proofs.YtppgeljlmckimaaDoor
open Go.RowKit

def QLetPost (own : List Nat) (w : World) (rp : Nat) (r : List Int × Int × Lk) (e : Ending) (w' : World) : Prop :=
  ∃ a n c o, After own w (.tuple #[.slice a n c, .int .i64 r.2.1]) (fun w' o' => QRep w' rp r.2.2 o' ∧ (∀ b ∈ o, b ∉ o')) e w' ∧ Row w' 3 1 a n c o (ints r.1) ∧ ∀ b ∈ o, w.heap.size ≤ b
theorem QAt.below {w : World} {rp : Nat} {col : Nat → Option QTag} {S : Lk} {blk : Int → Nat} (h : QAt w rp col S blk) : QAt w rp (below col w.heap.size) S blk := by
  obtain ⟨la, ln, lc, lo, qa, qn, qc, qo, h⟩ := h
  exact (h.still (Touch.refl [] w) (by simp) (fun b hb => if_pos hb)).qat
theorem QAt.step {w w' : World} {rp : Nat} {col : Nat → Option QTag} {S : Lk} {blk : Int → Nat} (h : QAt w rp col S blk) (t : Touch [] w w') : QAt w' rp col S blk := by
  obtain ⟨la, ln, lc, lo, qa, qn, qc, qo, h⟩ := h
  exact (h.step t).qat
theorem Later.below {τ : Type} {fz : τ → Prop} {w w1 : World} {col col1 : Nat → Option τ} (h : Later fz w col w1 col1) : Later fz w col w1 (below col1 w1.heap.size) :=
  ⟨h.touch, fun b hb => (if_pos (Nat.lt_of_lt_of_le hb h.touch.size)).trans (h.same b hb), h.stays⟩
/-- What stands at each round of Let: t of the paths are let go; ready: those that have all of theirs now. -/
structure QLetRel (w : World) (rp : Nat) (col : Nat → Option QTag) (S : Lk) (blk : Int → Nat) (id : Int) (t : Nat) (S' : Lk) (ready : List Int) (ra : Option Addr) (rn rc : Nat) (ro : List Nat) (colr : Nat → Option QTag) (wr : World) : Prop where
  q : QAt wr rp colr S' blk
  later : Later noTag w col wr colr
  sem : Lk.Sem S id t S' ready
  row : Row wr 3 1 ra rn rc ro (ints ready)
  rnew : ∀ b ∈ ro, w.heap.size ≤ b
  rcol : ∀ b ∈ ro, colr b = none
  fut : ∀ b, wr.heap.size ≤ b → colr b = none
/-- the next state, of whatever colours. -/
theorem QLetRel.next {w wr wx : World} {rp : Nat} {col colr colx : Nat → Option QTag} {S S' S2 : Lk} {blk : Int → Nat} {id : Int} {t : Nat} {ready : List Int} {ra : Option Addr} {rn rc : Nat} {ro : List Nat}
    (h : QLetRel w rp col S blk id t S' ready ra rn rc ro colr wr) (hQ : QAt wx rp colx S2 blk) (hl : Later noTag wr colr wx colx) (hs : Lk.Sem S id (t + 1) S2 ready) : QLetRel w rp col S blk id (t + 1) S2 ready ra rn rc ro (Go.Proofs.YtppgeljlmckimaaDoor.below colx wx.heap.size) wx := by
  have hrt : ∀ b ∈ ro, b ∉ owned colr wr := fun b hb hm => (mem_owned.1 hm).2 (h.rcol b hb)
  refine ⟨hQ.below, (h.later.trans hl).below, hs, h.row.touch hl.touch hrt, h.rnew, fun b hb => ?_, fun b hb => if_neg (by omega)⟩
  have hlt := h.row.lt b hb
  exact (if_pos (Nat.lt_of_lt_of_le hlt hl.touch.size)).trans ((hl.same b hlt).trans (h.rcol b hb))
/-- one more is ready. -/
theorem QLetRel.more {w wr wx wy : World} {rp : Nat} {col colr colx : Nat → Option QTag} {S S' S2 : Lk} {blk : Int → Nat} {id j : Int} {t : Nat} {ready : List Int} {ra ra' : Option Addr} {rn rn' rc rc' : Nat} {ro ro' : List Nat}
    (h : QLetRel w rp col S blk id t S' ready ra rn rc ro colr wr) (hQ : QAt wx rp colx S2 blk) (hl : Later noTag wr colr wx colx) (hs : Lk.Sem S id (t + 1) S2 (ready ++ [j]))
    (hr : Row wy 3 1 ra' rn' rc' ro' (ints (ready ++ [j]))) (ht : Touch ro wx wy) (hro : ∀ b ∈ ro', b ∈ ro ∨ wx.heap.size ≤ b) :
    QLetRel w rp col S blk id (t + 1) S2 (ready ++ [j]) ra' rn' rc' ro' (Go.Proofs.YtppgeljlmckimaaDoor.below colx wx.heap.size) wy := by
  have hb1 : ∀ b ∈ ro, Go.Proofs.YtppgeljlmckimaaDoor.below colx wx.heap.size b = none := fun b hb => by
    have hlt := h.row.lt b hb
    exact (if_pos (Nat.lt_of_lt_of_le hlt hl.touch.size)).trans ((hl.same b hlt).trans (h.rcol b hb))
  obtain ⟨la, ln, lc, lo, qa, qn, qc, qo, hq⟩ := hQ.below
  refine ⟨(hq.still ht (fun x hx _ => hb1 x hx) (fun _ _ => rfl)).qat, ((h.later.trans hl).below).loose ht h.rnew (fun x hx _ => hb1 x hx) (fun _ _ => rfl), hs, hr, fun b hb => ?_, fun b hb => ?_, fun b hb => if_neg (by have := ht.size; omega)⟩
  · rcases hro b hb with h1 | h1
    · exact h.rnew b h1
    · exact Nat.le_trans h.later.touch.size (Nat.le_trans hl.touch.size h1)
  · rcases hro b hb with h1 | h1
    · exact hb1 b h1
    · exact if_neg (by omega)
/-- the path that is let go is cut. -/
theorem qcut {w wx : World} {rp : Nat} {col : Nat → Option QTag} {S : Lk} {blk : Int → Nat} {id : Int} {la : Option Addr} {ln lc : Nat} {lo : List Nat} {qa : Option Addr} {qn qc : Nat} {qo : List Nat} (h : QParts w rp col S blk la ln lc lo qa qn qc qo)
    {b off n c h1 : Nat} {o : List Nat} (hob : QObjAt w col (blk id) id (S.paths id) (S.has id) (some ⟨b, off, none⟩) n c o) (hh : S.has id = h1 + 1) (hn : 0 < n) (t : Touch [blk id] w wx)
    (hA : At wx (blk id) 82 [.int .i64 id, .slice (if c = 1 then some ⟨b, off, none⟩ else some ⟨b, off + 1, none⟩) (n - 1) (c - 1), .int .i64 (h1 : Nat)]) :
    QParts wx rp col (S.cut id) blk la ln lc lo qa qn qc qo := by
  have hno : blk id ∉ o := fun hm => by { have := hob.co _ hm; rw [hob.cb] at this; cases this }
  have hr := (hob.row.touch t (fun x hx => by simp; rintro rfl; exact hno hx)).tail hn
  refine h.setObj (S' := S.cut id) (i := id) rfl rfl (fun j hj => ⟨Lk.up_other _ _ hj, Lk.up_other _ _ hj⟩) ?_ t hob.cb
  rw [show (S.cut id).paths id = (S.paths id).tail from Lk.up_same _ _ _, show (S.cut id).has id = S.has id - 1 from Lk.up_same _ _ _, hh, Nat.add_sub_cancel]
  have e : (u64s (S.paths id)).drop 1 = u64s (S.paths id).tail := by unfold u64s; rw [← List.map_drop, List.drop_one]
  rw [e] at hr
  refine ⟨_, _, _, _, hA, hr, hob.cb, fun x hx => ?_⟩
  split at hx
  · simp at hx
  · exact hob.co x hx
end Go.Proofs.YtppgeljlmckimaaDoor
