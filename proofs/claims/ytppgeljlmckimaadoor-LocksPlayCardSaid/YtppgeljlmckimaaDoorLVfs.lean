/-
  The known files at hand: entries in a ring; front, out, trim.
-/
import Derived.Test.YtppgeljlmckimaaDoorLTree
import Derived.Deep.RegionHeld3
import Derived.Deep.DeepCutAuto
namespace Go.Proofs.YtppgeljlmckimaaDoor
open Go.RowKit

/-- An entry: its head, who is ahead of it, who behind it. -/
def ent (hd : List Value) (a b : Value) : List Value := hd ++ [a, b]
def ptr (b : Nat) : Value := .pointer (some ⟨b, 0, none⟩)
structure Ent (w : World) (n : Nat) (hd : List Value) (a b : Value) : Prop where
  at_ : At w n 96 (ent hd a b)
  len : hd.length = 14
namespace Ent
variable {w w' : World} {n : Nat} {hd : List Value} {a b : Value}
theorem c14 (h : Ent w n hd a b) : w.cell? ⟨n, 14, none⟩ = some a := by rw [h.at_.cell 14, ent, List.getElem?_append_right (by rw [h.len]; exact Nat.le_refl _), h.len]; rfl
theorem c15 (h : Ent w n hd a b) : w.cell? ⟨n, 15, none⟩ = some b := by rw [h.at_.cell 15, ent, List.getElem?_append_right (by rw [h.len]; decide), h.len]; rfl
theorem touch {l : List Nat} (h : Ent w n hd a b) (t : Touch l w w') (hn : n ∉ l) : Ent w' n hd a b := ⟨h.at_.touch t hn, h.len⟩
theorem set14 (h : Ent w n hd a b) (c : Value) : Ent (w.setCell ⟨n, 14, none⟩ c) n hd c b := by
  refine ⟨?_, h.len⟩
  have := h.at_.set 14 c
  unfold ent at this ⊢
  rw [List.set_append_right _ _ (by rw [h.len]; exact Nat.le_refl _), h.len] at this
  exact this
theorem set15 (h : Ent w n hd a b) (c : Value) : Ent (w.setCell ⟨n, 15, none⟩ c) n hd a c := by
  refine ⟨?_, h.len⟩
  have := h.at_.set 15 c
  unfold ent at this ⊢
  rw [List.set_append_right _ _ (by rw [h.len]; decide), h.len] at this
  exact this
theorem drew (h : Ent w n hd a b) : Ent w.drew n hd a b := ⟨h.at_.drew, h.len⟩
end Ent
theorem keep_cell {l : List Nat} {W W' : World} {b o : Nat} {v : Value} (t : Touch l W W') (h : W.cell? ⟨b, o, none⟩ = some v) (hb : b ∉ l) : W'.cell? ⟨b, o, none⟩ = some v := (t.cell (p := ⟨b, o, none⟩) (World.block_lt_of_cell? W _ h) hb).trans h

/-- One entry's two links are set (one after the other, in any order). -/
def Links (w : World) (n : Nat) (hd : List Value) (a b : Value) (wx : World) : Prop := Ent wx n hd a b ∧ Touch [n] w wx
theorem Links.drew {w wx : World} {n : Nat} {hd : List Value} {a b : Value} (h : Links w n hd a b wx) : Links w n hd a b wx.drew := ⟨h.1.drew, h.2.drew⟩
theorem links_of {w : World} {n : Nat} {hd : List Value} {x y : Value} (h : Ent w n hd x y) (a b : Value) : Links w n hd a b ((w.setCell ⟨n, 14, none⟩ a).setCell ⟨n, 15, none⟩ b) :=
  ⟨(h.set14 a).set15 b, ((Touch.refl [n] w).setCell _ (by simp) _).setCell _ (by simp) _⟩
theorem links_of' {w : World} {n : Nat} {hd : List Value} {x y : Value} (h : Ent w n hd x y) (a b : Value) : Links w n hd a b ((w.setCell ⟨n, 15, none⟩ b).setCell ⟨n, 14, none⟩ a) :=
  ⟨(h.set15 b).set14 a, ((Touch.refl [n] w).setCell _ (by simp) _).setCell _ (by simp) _⟩

set_option maxRecDepth 100000 in
set_option maxHeartbeats 1600000 in
/-- An entry is laid ahead of the others, where the ring is alone. -/
theorem front_alone (w : World) (v r n : Nat) (hr hn : List Value) (x y z : Value) (R : Ent w r hr x (ptr r)) (N : Ent w n hn y z) (c2 : w.cell? ⟨v, 2, none⟩ = some (ptr r)) (hrn : r ≠ n) (hvn : v ≠ n) (hvr : v ≠ r) :
    Calls Tryd.prog 34 #[.pointer (some ⟨v, 0, none⟩), .pointer (some ⟨n, 0, none⟩)] w fun e w' => e = .returned (.tuple #[]) ∧ Ent w' r hr (ptr n) (ptr n) ∧ Ent w' n hn (ptr r) (ptr r) ∧ Touch [r, n] w w' := by
  have e14 := R.c14
  have e15 := R.c15
  have d14 := N.c14
  have d15 := N.c15
  unfold ptr at e15 c2
  have f1 := fun o => R.at_.frozen o
  have f2 := fun o => N.at_.frozen o
  have lr := R.at_.lt
  have ln := N.at_.lt
  have lv := World.block_lt_of_cell? w _ c2
  have HR := Lib.hid R
  have HN := Lib.hid N
  clear R N
  go_enter Tryd.func34, Tryd.ntmps34
  go_wp2
  go_cut [] (fun wx => Links w n hn (ptr r) (ptr r) wx)
  case first =>
    go_region_held3 (fun W => W.cell? ⟨v, 2, none⟩ = some (.pointer (some ⟨r, 0, none⟩)) ∧ W.cell? ⟨r, 15, none⟩ = some (.pointer (some ⟨r, 0, none⟩))) (first | assumption | (exact ⟨keep_cell (l := [n]) (by repeat' (first | exact Touch.refl _ _ | refine Touch.drew ?_ | refine Touch.setCell ?_ _ (by simp) _)) c2 (by simpa using hvn), keep_cell (l := [n]) (by repeat' (first | exact Touch.refl _ _ | refine Touch.drew ?_ | refine Touch.setCell ?_ _ (by simp) _)) e15 (by simpa using hrn)⟩) | go_keep) (fail)
    all_goals go_wp2_with fail
    all_goals
      go_meet
      first
      | exact (links_of HN.out _ _).drew
      | exact (links_of' HN.out _ _).drew
  case rest =>
    obtain ⟨N1, t1⟩ := hcut
    have R1 := HR.out.touch t1 (by simpa using hrn)
    have HN1 := Lib.hid N1
    have HR1 := Lib.hid R1
    have T1 := Lib.hid t1
    clear e14 e15 d14 d15 f1 f2 c2
    have e14 := R1.c14
    have e15 := R1.c15
    have d14 := N1.c14
    have d15 := N1.c15
    unfold ptr at d14 d15
    have f1 := fun o => R1.at_.frozen o
    have lr := R1.at_.lt
    have ln := N1.at_.lt
    clear t1 R1 N1
    go_wp2
    go_region_held3 (fun W => W.cell? ⟨n, 14, none⟩ = some (.pointer (some ⟨r, 0, none⟩)) ∧ W.cell? ⟨n, 15, none⟩ = some (.pointer (some ⟨r, 0, none⟩))) (first | assumption | (exact ⟨keep_cell (l := [r]) (by repeat' (first | exact Touch.refl _ _ | refine Touch.drew ?_ | refine Touch.setCell ?_ _ (by simp) _)) d14 (by simpa using hrn.symm), keep_cell (l := [r]) (by repeat' (first | exact Touch.refl _ _ | refine Touch.drew ?_ | refine Touch.setCell ?_ _ (by simp) _)) d15 (by simpa using hrn.symm)⟩) | go_keep) (fail)
    all_goals go_wp2_with fail
    all_goals go_end0
    all_goals
      have fin : ∀ wx, Links wc r hr (ptr n) (ptr n) wx → Ent wx r hr (ptr n) (ptr n) ∧ Ent wx n hn (ptr r) (ptr r) ∧ Touch [r, n] w wx := fun wx L =>
        ⟨L.1, HN1.out.touch L.2 (by simpa using hrn.symm), (T1.out.mono (l' := [r, n]) (by simp)).trans L.2 (by simp)⟩
      first
      | exact ⟨rfl, fin _ (links_of HR1.out _ _).drew⟩
      | exact ⟨rfl, fin _ (links_of' HR1.out _ _).drew⟩
end Go.Proofs.YtppgeljlmckimaaDoor
