/-
  The known tree: model.New of ann, and Stat of its root.
-/
import Derived.Test.YtppgeljlmckimaaDoorLName
import Derived.Test.YtppgeljlmckimaaDoorLLook
import Derived.Test.YtppgeljlmckimaaDoorMapStep
namespace Go.Proofs.YtppgeljlmckimaaDoor
open Go.RowKit

def rootCells : List Value := [.int .u16 0, .int .u32 0, .int .u8 128, .int .u32 0, .int .u64 1, .int .u32 2147484141, .int .u32 0, .int .u32 0, .int .u64 0, .string ⟨#[47]⟩, .string ⟨#[97, 110, 110]⟩, .string ⟨#[97, 110, 110]⟩, .string ⟨#[97, 110, 110]⟩, .int .u64 1, .string ⟨#[]⟩, .slice none 0 0]
theorem Tryd.mapF : Tryd.prog.underlying 89 = some (.map 39 86) := by kernel_rfl
/-- a tree that has its root alone. -/
def Root (w : World) (tb bm nb : Nat) : Prop := At w tb 91 [.map (some bm), .int .u64 1] ∧ IMap w KU.f bm [(1, .pointer (some ⟨nb, 0, none⟩))] ∧ At w nb 88 rootCells
theorem Root.touch {w w' : World} {tb bm nb : Nat} {l : List Nat} (h : Root w tb bm nb) (t : Touch l w w') (h1 : tb ∉ l) (h2 : bm ∉ l) (h3 : nb ∉ l) : Root w' tb bm nb := ⟨h.1.touch t h1, h.2.1.touch t h2, h.2.2.touch t h3⟩

set_option maxRecDepth 100000 in
set_option maxHeartbeats 1600000 in
theorem newTree_ann (w : World) : Calls Tryd.prog 18 #[.string ⟨#[97, 110, 110]⟩, .int .u32 0] w fun e w' => ∃ tb bm nb, e = .returned (.tuple #[.pointer (some ⟨tb, 0, none⟩), .int .i64 0]) ∧ Root w' tb bm nb ∧ Touch [] w w' ∧ w.heap.size ≤ tb ∧ w.heap.size ≤ bm ∧ w.heap.size ≤ nb := by
  have hmm := @run_makeMap Tryd.prog
  go_enter Tryd.func18, Tryd.ntmps18
  go_wp2_with (first | (go_at_call 32; refine (user_ann _).mono ?_; rintro e w2 ⟨rfl, t2⟩; have l2 : w2.heap.size + 1 < w2.heap.size + 1 + 1 := by omega) | (refine wpList_insert_imap KU rfl _ _ _ rfl Tryd.mapF rfl (b := w2.heap.size + 1) (kv := []) ?_ 1 rfl _ rfl ?_))
  · have := (IMap.new (w2.alloc (.cells #[.int .u16 0, .int .u32 0, .int .u8 128, .int .u32 0, .int .u64 1, .int .u32 2147484141, .int .u32 0, .int .u32 0, .int .u64 0, .string ⟨#[47]⟩, .string ⟨#[97, 110, 110]⟩, .string ⟨#[97, 110, 110]⟩, .string ⟨#[97, 110, 110]⟩] 61)) KU.f).alloc (.cells #[.int .u16 0, .int .u32 0, .int .u8 128, .int .u32 0, .int .u64 1, .int .u32 2147484141, .int .u32 0, .int .u32 0, .int .u64 0, .string ⟨#[47]⟩, .string ⟨#[97, 110, 110]⟩, .string ⟨#[97, 110, 110]⟩, .string ⟨#[97, 110, 110]⟩, .int .u64 1, .string ⟨#[]⟩, .slice none 0 0] 88)
    simpa using this
  · intro w4 hm4 t4
    have hn := (At.new ((w2.alloc (.cells #[.int .u16 0, .int .u32 0, .int .u8 128, .int .u32 0, .int .u64 1, .int .u32 2147484141, .int .u32 0, .int .u32 0, .int .u64 0, .string ⟨#[47]⟩, .string ⟨#[97, 110, 110]⟩, .string ⟨#[97, 110, 110]⟩, .string ⟨#[97, 110, 110]⟩] 61)).alloc (.map #[] 0)) 88 rootCells)
    simp only [World.size_alloc] at hn
    have hn4 := hn.touch t4 (by simp)
    have s4 := t4.size
    have T4 := Lib.hid ((((t2.alloc _).alloc _).alloc _).trans t4 (by simp; have := t2.size; omega))
    have HN := Lib.hid hn4
    have HM := Lib.hid hm4
    clear hn hn4 t4 hm4
    go_wp2
    go_ret2
    have hs := t2.size
    simp only [World.size_alloc] at s4
    refine ⟨w4.heap.size, w2.heap.size + 1, w2.heap.size + 1 + 1, rfl, ⟨At.new w4 _ _, by simpa [putKey, keyAt] using HM.out.alloc _, HN.out.alloc _⟩, T4.out.alloc _, by omega, by omega, by omega⟩

def rootStat : Value := .agg #[.int .u16 0, .int .u32 0, .int .u8 128, .int .u32 0, .int .u64 1, .int .u32 2147484141, .int .u32 0, .int .u32 0, .int .u64 0, .string ⟨#[47]⟩, .string ⟨#[97, 110, 110]⟩, .string ⟨#[97, 110, 110]⟩, .string ⟨#[97, 110, 110]⟩]
set_option maxRecDepth 100000 in
theorem told_root (w : World) (nb : Nat) (h : At w nb 88 rootCells) : Calls Tryd.prog 63 #[.pointer (some ⟨nb, 0, none⟩)] w fun e w' => e = .returned rootStat ∧ Touch [] w w' := by
  have c0 := h.cell 0
  have c1 := h.cell 1
  have c2 := h.cell 2
  have c3 := h.cell 3
  have c4 := h.cell 4
  have c5 := h.cell 5
  have c6 := h.cell 6
  have c7 := h.cell 7
  have c8 := h.cell 8
  have c9 := h.cell 9
  have c10 := h.cell 10
  have c11 := h.cell 11
  have c12 := h.cell 12
  have c14 := h.cell 14
  simp [rootCells] at c0 c1 c2 c3 c4 c5 c6 c7 c8 c9 c10 c11 c12 c14
  have lt := h.lt
  clear h
  go_enter Tryd.func63, Tryd.ntmps63
  go_wp2
  exact bodyPost_ret (v := rootStat) (by simp [results, Tryd.results63, go_sem, rootStat]) rfl ⟨rfl, ((Touch.refl [] w).alloc _).alloc _⟩

theorem get_root (w : World) (tb bm nb : Nat) (h : Root w tb bm nb) : Calls Tryd.prog 62 #[.pointer (some ⟨tb, 0, none⟩), .int .u64 1] w fun e w' => e = .returned (.tuple #[.pointer (some ⟨nb, 0, none⟩), .int .i64 0]) ∧ w = w' := by
  have c0 := h.1.cell 0
  simp at c0
  have hm := h.2.1
  have hnil := fun W => run_eql_map_nil (P := Tryd.prog) W 89 39 86 (some bm) Tryd.mapF
  have hz : ∀ W : World, (zeroValue 86).run Tryd.prog W = .ok (.pointer none) W := fun W => by kernel_rfl
  have hat : atKey [((1 : Int), Value.pointer (some ⟨nb, 0, none⟩))] 1 = some (.pointer (some ⟨nb, 0, none⟩)) := rfl
  clear h
  go_enter Tryd.func62, Tryd.ntmps62
  go_wp2_with (at_lookup; refine wpList_lookup_imap KU rfl _ _ true rfl Tryd.mapF (hz _) rfl hm 1 rfl ?_; simp only [hat, Option.getD_some, Option.isSome_some, if_true])
  go_ret2
  exact ⟨rfl, rfl⟩
set_option maxRecDepth 100000 in
set_option maxHeartbeats 1600000 in
theorem stat_root (w : World) (tb bm nb : Nat) (h : Root w tb bm nb) : Calls Tryd.prog 61 #[.pointer (some ⟨tb, 0, none⟩), .int .u64 1] w fun e w' => e = .returned (.tuple #[rootStat, .int .i64 0]) ∧ Touch [] w w' := by
  have h1 := h.touch ((Touch.refl [] w).alloc (.cells #[.int .u16 0, .int .u32 0, .int .u8 0, .int .u32 0, .int .u64 0, .int .u32 0, .int .u32 0, .int .u32 0, .int .u64 0, .string ⟨#[]⟩, .string ⟨#[]⟩, .string ⟨#[]⟩, .string ⟨#[]⟩] 61)) (by simp) (by simp) (by simp)
  have H := Lib.hid h1
  clear h h1
  go_enter Tryd.func61, Tryd.ntmps61
  go_wp2_with fail
  refine (get_root _ tb bm nb (by exact H.out)).mono ?_
  rintro e w' ⟨rfl, rfl⟩
  go_wp2_with fail
  refine (told_root _ nb (by exact H.out.2.2)).mono ?_
  rintro e w2 ⟨rfl, t2⟩
  have l2 := t2.size
  simp at l2
  have hA := (At.new w 61 [.int .u16 0, .int .u32 0, .int .u8 0, .int .u32 0, .int .u64 0, .int .u32 0, .int .u32 0, .int .u32 0, .int .u64 0, .string ⟨#[]⟩, .string ⟨#[]⟩, .string ⟨#[]⟩, .string ⟨#[]⟩]).touch t2 (by simp)
  have e0 := hA.cell 0
  have e1 := hA.cell 1
  have e2 := hA.cell 2
  have e3 := hA.cell 3
  have e4 := hA.cell 4
  have e5 := hA.cell 5
  have e6 := hA.cell 6
  have e7 := hA.cell 7
  have e8 := hA.cell 8
  have e9 := hA.cell 9
  have e10 := hA.cell 10
  have e11 := hA.cell 11
  have e12 := hA.cell 12
  simp at e0 e1 e2 e3 e4 e5 e6 e7 e8 e9 e10 e11 e12
  have f := fun o => hA.frozen o
  have T2 := Lib.hid (((Touch.refl [] w).alloc (.cells #[.int .u16 0, .int .u32 0, .int .u8 0, .int .u32 0, .int .u64 0, .int .u32 0, .int .u32 0, .int .u32 0, .int .u64 0, .string ⟨#[]⟩, .string ⟨#[]⟩, .string ⟨#[]⟩, .string ⟨#[]⟩] 61)).trans' t2)
  clear hA t2
  unfold rootStat
  go_wp2_with fail
  refine bodyPost_ret (v := .tuple #[rootStat, .int .i64 0]) ?_ rfl ⟨rfl, ?_⟩
  · simp [results, Tryd.results61, go_sem, rootStat, e0, e1, e2, e3, e4, e5, e6, e7, e8, e9, e10, e11, e12]
  · repeat (refine Touch.setCell ?_ _ (Or.inr (Nat.le_refl _)) _)
    exact T2.out
end Go.Proofs.YtppgeljlmckimaaDoor
