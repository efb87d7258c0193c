/-
  Texts one behind the other: the program's put.
-/
import Derived.Test.YtodehmognjofhaaGreatQJRecV
import Derived.Test.YtodehmognjofhaaGreatQNRun
namespace Go.Proofs.YtodehmognjofhaaGreat
open Go.RowKit

theorem join_flat : ∀ (l : List (List UInt8)), Lib.join l [] = l.flatten
  | [] => rfl
  | [x] => by simp [Lib.join, List.intercalate]
  | x :: y :: t => by
    have ih := join_flat (y :: t)
    simp only [Lib.join, List.intercalate, List.intersperse_cons_cons, List.flatten_cons, List.nil_append] at ih ⊢
    rw [ih]
theorem cat_bytes (xs : List ByteArray) : (⟨(Lib.join (xs.map (·.data.toList)) ByteArray.empty.data.toList).toArray⟩ : ByteArray) = bytesOf (xs.flatMap bsOf) := by
  have e : ByteArray.empty.data.toList = ([] : List UInt8) := rfl
  rw [e, join_flat]
  unfold bytesOf
  congr 2
  rw [List.map_flatMap, List.flatMap_def]
  congr 1
  refine List.map_congr_left fun s _ => ?_
  unfold bsOf
  rw [List.map_map]
  exact ((List.map_congr_left (g := id) fun x _ => by simp).trans (List.map_id _)).symm
theorem cat_len (xs : List ByteArray) : (Lib.join (xs.map (·.data.toList)) ByteArray.empty.data.toList).length = (xs.flatMap bsOf).length := by
  have h := congrArg ByteArray.size (cat_bytes xs)
  rw [bytesOf_size] at h
  exact (by simpa [ByteArray.size] using h)
theorem jputs_any (w : World) (b o cap : Nat) (xs : List ByteArray) (hc : ∀ (j : Nat) x, xs[j]? = some x → w.cell? ⟨b, o + j, none⟩ = some (.string x)) (hb : b < w.heap.size) (h2 : 2 ≤ xs.length) (hx : xs.length ≤ cap) (hm : xs.length ≤ 140737488355328) (hl : (xs.flatMap bsOf).length ≤ 140737488355328) :
    Calls Tryz.prog 45 #[.slice (some ⟨b, o, none⟩) xs.length cap] w fun e w' => e = .returned (.string (bytesOf (xs.flatMap bsOf))) ∧ Touch [] w w' := by
  have C := join_ok.m b o cap xs ByteArray.empty w hc hb h2 hm hx (by rw [cat_len]; exact hl)
  rw [cat_bytes] at C
  go_enter Tryz.func45, Tryz.ntmps45
  go_wp2_with (go_at_call 85; refine C.mono ?_; clear C; rintro e w2 ⟨rfl, t2⟩)
  go_ret
  exact ⟨rfl, Touch.below t2⟩
end Go.Proofs.YtodehmognjofhaaGreat
