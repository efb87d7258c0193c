/-
  How the document's locks lie in memory.
-/
import Derived.Test.YtppgeljlmckimaaDoorLLook
namespace Go.Proofs.YtppgeljlmckimaaDoor
open Go.RowKit

inductive QTag
  | box | row | queue
  | ask (i : Int) | path (i : Int)
  deriving DecidableEq
/-- One that asks. -/
structure QObjAt (w : World) (col : Nat → Option QTag) (b : Nat) (i : Int) (ps : List Int) (h : Nat) (a : Option Addr) (n c : Nat) (o : List Nat) : Prop where
  at_ : At w b 82 [.int .i64 i, .slice a n c, .int .i64 h]
  row : Row w 39 1 a n c o (u64s ps)
  cb : col b = some (.ask i)
  co : ∀ x ∈ o, col x = some (.path i)
def QObj (w : World) (col : Nat → Option QTag) (b : Nat) (i : Int) (ps : List Int) (h : Nat) : Prop := ∃ a n c o, QObjAt w col b i ps h a n c o
def ptrs (blk : Int → Nat) (l : List Int) : List Value := l.map fun i => .pointer (some ⟨blk i, 0, none⟩)
structure QParts (w : World) (rp : Nat) (col : Nat → Option QTag) (S : Lk) (blk : Int → Nat) (la : Option Addr) (ln lc : Nat) (lo : List Nat) (qa : Option Addr) (qn qc : Nat) (qo : List Nat) : Prop where
  at_ : At w rp 44 [.slice la ln lc, .slice qa qn qc]
  row : Row w 78 1 la ln lc lo (ptrs blk S.order)
  queue : Row w 3 1 qa qn qc qo (ints S.queue)
  obj : ∀ i ∈ S.order, QObj w col (blk i) i (S.paths i) (S.has i)
  c_rp : col rp = some .box
  c_lo : ∀ b ∈ lo, col b = some .row
  c_qo : ∀ b ∈ qo, col b = some .queue
def QAt (w : World) (rp : Nat) (col : Nat → Option QTag) (S : Lk) (blk : Int → Nat) : Prop := ∃ la ln lc lo qa qn qc qo, QParts w rp col S blk la ln lc lo qa qn qc qo

namespace Keep
variable {T : QTag} {col col' : Nat → Option QTag} {w w' : World}
theorem qobjAt (k : Keep T col col' w w') {b : Nat} {i : Int} {ps : List Int} {h : Nat} {a : Option Addr} {n c : Nat} {o : List Nat} (H : QObjAt w col b i ps h a n c o) (h1 : QTag.ask i ≠ T) (h2 : QTag.path i ≠ T) : QObjAt w' col' b i ps h a n c o := by
  obtain ⟨k1, k2⟩ := k.at_ H.at_ H.cb h1
  obtain ⟨k3, k4⟩ := k.row H.row H.co h2
  exact ⟨k1, k3, k2, k4⟩
theorem qobj (k : Keep T col col' w w') {b : Nat} {i : Int} {ps : List Int} {h : Nat} (H : QObj w col b i ps h) (h1 : QTag.ask i ≠ T) (h2 : QTag.path i ≠ T) : QObj w' col' b i ps h := by
  obtain ⟨a, n, c, o, H⟩ := H
  exact ⟨a, n, c, o, k.qobjAt H h1 h2⟩
end Keep

section
variable {w w' : World} {rp : Nat} {col col' : Nat → Option QTag} {S : Lk} {blk : Int → Nat} {la : Option Addr} {ln lc : Nat} {lo : List Nat} {qa : Option Addr} {qn qc : Nat} {qo : List Nat}
theorem QParts.still (h : QParts w rp col S blk la ln lc lo qa qn qc qo) {l : List Nat} (t : Touch l w w') (hl : ∀ x ∈ l, x < w.heap.size → col x = none) (hk : ∀ b, b < w.heap.size → col' b = col b) : QParts w' rp col' S blk la ln lc lo qa qn qc qo := by
  have k : ∀ T : QTag, Keep T col col' w w' := fun T => Keep.of_none t hl hk
  exact ⟨((k .row).at_ h.at_ h.c_rp (by simp)).1, ((k .box).row h.row h.c_lo (by simp)).1, ((k .box).row h.queue h.c_qo (by simp)).1, fun i hi => (k .box).qobj (h.obj i hi) (by simp) (by simp),
    ((k .row).at_ h.at_ h.c_rp (by simp)).2, ((k .box).row h.row h.c_lo (by simp)).2, ((k .box).row h.queue h.c_qo (by simp)).2⟩
theorem QParts.step (h : QParts w rp col S blk la ln lc lo qa qn qc qo) (t : Touch [] w w') : QParts w' rp col S blk la ln lc lo qa qn qc qo := h.still t (by simp) (fun _ _ => rfl)
theorem QParts.congr (h : QParts w rp col S blk la ln lc lo qa qn qc qo) {S' : Lk} (h1 : S'.order = S.order) (h2 : S'.queue = S.queue) (h3 : ∀ i ∈ S.order, S'.paths i = S.paths i ∧ S'.has i = S.has i) : QParts w rp col S' blk la ln lc lo qa qn qc qo :=
  ⟨h.at_, by rw [h1]; exact h.row, by rw [h2]; exact h.queue, fun i hi => by rw [h1] at hi; rw [(h3 i hi).1, (h3 i hi).2]; exact h.obj i hi, h.c_rp, h.c_lo, h.c_qo⟩
/-- One of those that ask has turned. -/
theorem QParts.setObj (h : QParts w rp col S blk la ln lc lo qa qn qc qo) {S' : Lk} {i : Int} (h1 : S'.order = S.order) (h2 : S'.queue = S.queue) (h3 : ∀ j, j ≠ i → S'.paths j = S.paths j ∧ S'.has j = S.has j)
    (hob : QObj w' col (blk i) i (S'.paths i) (S'.has i)) (t : Touch [blk i] w w') (hc : col (blk i) = some (.ask i)) : QParts w' rp col S' blk la ln lc lo qa qn qc qo := by
  have k : Keep (QTag.ask i) col col w w' := Keep.of t (by intro x hx _; simp at hx; subst hx; exact hc) (fun _ _ => rfl)
  refine ⟨(k.at_ h.at_ h.c_rp (by simp)).1, by rw [h1]; exact (k.row h.row h.c_lo (by simp)).1, by rw [h2]; exact (k.row h.queue h.c_qo (by simp)).1, fun j hj => ?_, h.c_rp, h.c_lo, h.c_qo⟩
  by_cases e : j = i
  · subst e; exact hob
  · rw [(h3 j e).1, (h3 j e).2]
    rw [h1] at hj
    exact k.qobj (h.obj j hj) (by simpa using e) (by simp)
theorem QParts.row_ne (h : QParts w rp col S blk la ln lc lo qa qn qc qo) : rp ∉ lo ∧ rp ∉ qo :=
  ⟨fun hm => by { have := h.c_lo _ hm; rw [h.c_rp] at this; cases this }, fun hm => by { have := h.c_qo _ hm; rw [h.c_rp] at this; cases this }⟩
/-- The queue has turned (what is new is its own), and is stored. -/
theorem QParts.setQueue {w1 : World} (h : QParts w rp col S blk la ln lc lo qa qn qc qo) {a : Option Addr} {n c : Nat} {o' : List Nat} {q' : List Int} (t : Touch qo w w1)
    (hr : Row w1 3 1 a n c o' (ints q')) (ho : ∀ b ∈ o', b ∈ qo ∨ w.heap.size ≤ b) : QParts (w1.setCell ⟨rp, 1, none⟩ (.slice a n c)) rp (paint col w.heap.size .queue) { S with queue := q' } blk la ln lc lo a n c o' := by
  have k : Keep QTag.queue col (paint col w.heap.size .queue) w w1 := Keep.of t (fun x hx _ => h.c_qo x hx) (fun b hb => paint_old _ _ _ hb)
  have at1 := k.at_ h.at_ h.c_rp (by simp)
  have k2 : Keep QTag.box (paint col w.heap.size .queue) (paint col w.heap.size .queue) w1 (w1.setCell ⟨rp, 1, none⟩ (.slice a n c)) := Keep.of ((Touch.refl [rp] _).setCell _ (by simp) _) (by intro x hx _; simp at hx; subst hx; exact at1.2) (fun _ _ => rfl)
  have hco' : ∀ b ∈ o', paint col w.heap.size .queue b = some .queue := fun b hb => by
    rcases Nat.lt_or_ge b w.heap.size with hlt | hge
    · rcases ho b hb with h1 | h1
      · rw [paint_old _ _ _ hlt]; exact h.c_qo b h1
      · omega
    · exact paint_new _ _ _ hge
  have r1 := k.row h.row h.c_lo (by simp)
  have r2 := k2.row hr hco' (by simp)
  refine ⟨?_, (k2.row r1.1 r1.2 (by simp)).1, r2.1, fun i hi => k2.qobj (k.qobj (h.obj i hi) (by simp) (by simp)) (by simp) (by simp), at1.2, r1.2, r2.2⟩
  have := at1.1.set 1 (.slice a n c)
  simpa using this
/-- The list of those that ask has turned (what is new is its own), and is stored; those in it lie as they lay. -/
theorem QParts.setRow {w1 : World} (h : QParts w rp col S blk la ln lc lo qa qn qc qo) {a : Option Addr} {n c : Nat} {o' : List Nat} {ord' : List Int} {blk' : Int → Nat} {S' : Lk} (t : Touch lo w w1)
    (hr : Row w1 78 1 a n c o' (ptrs blk' ord')) (ho : ∀ b ∈ o', b ∈ lo ∨ w.heap.size ≤ b) (h1 : S'.order = ord') (h2 : S'.queue = S.queue) (hob : ∀ i ∈ ord', QObj w col (blk' i) i (S'.paths i) (S'.has i)) :
    QParts (w1.setCell ⟨rp, 0, none⟩ (.slice a n c)) rp (paint col w.heap.size .row) S' blk' a n c o' qa qn qc qo := by
  have k : Keep QTag.row col (paint col w.heap.size .row) w w1 := Keep.of t (fun x hx _ => h.c_lo x hx) (fun b hb => paint_old _ _ _ hb)
  have at1 := k.at_ h.at_ h.c_rp (by simp)
  have k2 : Keep QTag.box (paint col w.heap.size .row) (paint col w.heap.size .row) w1 (w1.setCell ⟨rp, 0, none⟩ (.slice a n c)) := Keep.of ((Touch.refl [rp] _).setCell _ (by simp) _) (by intro x hx _; simp at hx; subst hx; exact at1.2) (fun _ _ => rfl)
  have hco' : ∀ b ∈ o', paint col w.heap.size .row b = some .row := fun b hb => by
    rcases Nat.lt_or_ge b w.heap.size with hlt | hge
    · rcases ho b hb with h1 | h1
      · rw [paint_old _ _ _ hlt]; exact h.c_lo b h1
      · omega
    · exact paint_new _ _ _ hge
  have r1 := k.row h.queue h.c_qo (by simp)
  have r2 := k2.row hr hco' (by simp)
  refine ⟨?_, by rw [h1]; exact r2.1, by rw [h2]; exact (k2.row r1.1 r1.2 (by simp)).1, fun i hi => ?_, at1.2, r2.2, r1.2⟩
  · have := at1.1.set 0 (.slice a n c)
    simpa using this
  · rw [h1] at hi
    exact k2.qobj (k.qobj (hob i hi) (by simp) (by simp)) (by simp) (by simp)
end
def noTag : QTag → Prop := fun _ => False
/-- The document's locks, whole: own: the blocks that are its own. -/
def QRep (w : World) (rp : Nat) (S : Lk) (own : List Nat) : Prop := ∃ col blk, QAt w rp col S blk ∧ own = owned col w
theorem below_keeps {τ : Type} {col : Nat → Option τ} {w : World} : (∀ b, below col w.heap.size b ≠ none → b < w.heap.size) ∧ owned (below col w.heap.size) w = owned col w :=
  ⟨fun b hb => by { unfold below at hb; split at hb <;> simp_all }, owned_below col w⟩
theorem QRep.touch {w w' : World} {rp : Nat} {S : Lk} {own l : List Nat} (h : QRep w rp S own) (t : Touch l w w') (hl : ∀ b ∈ own, b ∉ l) : QRep w' rp S own := by
  obtain ⟨col, blk, ⟨la, ln, lc, lo, qa, qn, qc, qo, h⟩, rfl⟩ := h
  obtain ⟨k1, k2⟩ := below_keeps (col := col) (w := w)
  have h := h.still (Touch.refl [] w) (by simp) (col' := below col w.heap.size) (fun b hb => if_pos hb)
  refine ⟨below col w.heap.size, blk, ⟨la, ln, lc, lo, qa, qn, qc, qo, h.still t (fun x hx hlt => ?_) (fun _ _ => rfl)⟩, ?_⟩
  · cases hc : below col w.heap.size x with
    | none => rfl
    | some T => exact absurd hx (hl x (by rw [← k2]; exact mem_owned.2 ⟨hlt, by rw [hc]; simp⟩))
  · rw [← k2]
    exact (owned_touch t.size k1).symm
theorem QRep.lt {w : World} {rp : Nat} {S : Lk} {own : List Nat} (h : QRep w rp S own) : ∀ b ∈ own, b < w.heap.size := by
  obtain ⟨col, blk, -, rfl⟩ := h
  exact fun b hb => (mem_owned.1 hb).1
end Go.Proofs.YtppgeljlmckimaaDoor
