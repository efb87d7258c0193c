/-
  The program's cipher: a text turned.
-/
import Derived.Test.YtodehmognjofhaaGreatQNTurn
namespace Go.Proofs.YtodehmognjofhaaGreat
open Go.RowKit Go.Shelf

/-- a text turned by the stream. -/
def ctrF (rk nonce s : List Nat) : List Nat := (List.range s.length).map fun j => s.getD j 0 ^^^ ksB rk nonce j
/-- so far. -/
def ctrK (rk nonce s : List Nat) (k : Nat) : List Nat := (List.range s.length).map fun j => if j < k then s.getD j 0 ^^^ ksB rk nonce j else s.getD j 0
theorem ksB_lt {rk nonce : List Nat} (h1 : Bytes rk) (h2 : Bytes nonce) (j : Nat) : ksB rk nonce j < 256 := getD_lt (aesF_bytes h1 (ctrN_bytes h2 _)) (by decide) _
theorem ctrF_len (rk nonce s : List Nat) : (ctrF rk nonce s).length = s.length := by simp [ctrF]
theorem ctrF_bytes {rk nonce s : List Nat} (h1 : Bytes rk) (h2 : Bytes nonce) (h3 : Bytes s) : Bytes (ctrF rk nonce s) := by
  intro x hx
  obtain ⟨j, -, rfl⟩ := List.mem_map.1 hx
  exact xlt (getD_lt h3 (by decide) _) (ksB_lt h1 h2 j)
theorem ctrK_len (rk nonce s : List Nat) (k : Nat) : (ctrK rk nonce s k).length = s.length := by simp [ctrK]
theorem ctrK_zero (rk nonce s : List Nat) : ctrK rk nonce s 0 = s := by
  unfold ctrK
  simp only [Nat.not_lt_zero, if_false]
  exact map_getD rfl
theorem ctrK_end (rk nonce s : List Nat) : ctrK rk nonce s s.length = ctrF rk nonce s := by
  unfold ctrK ctrF
  exact List.map_congr_left fun j hj => if_pos (List.mem_range.1 hj)
theorem ctrK_get (rk nonce s : List Nat) {k : Nat} (hk : k < s.length) : (ctrK rk nonce s k)[k]? = some (s.getD k 0) := by
  unfold ctrK
  rw [List.getElem?_map, List.getElem?_range hk]
  simp
theorem ctrK_set (rk nonce s : List Nat) (k : Nat) : (ctrK rk nonce s k).set k (s.getD k 0 ^^^ ksB rk nonce k) = ctrK rk nonce s (k + 1) := by
  apply List.ext_getElem?
  intro i
  by_cases h : i < s.length
  · rw [List.getElem?_set]
    by_cases hi : k = i
    · subst hi
      rw [if_pos rfl, if_pos (by rw [ctrK_len]; exact h)]
      unfold ctrK
      rw [List.getElem?_map, List.getElem?_range h]
      simp
    · rw [if_neg hi]
      unfold ctrK
      rw [List.getElem?_map, List.getElem?_map, List.getElem?_range h]
      simp only [Option.map_some]
      by_cases h2 : i < k
      · rw [if_pos h2, if_pos (by omega)]
      · rw [if_neg h2, if_neg (by omega)]
  · rw [List.getElem?_eq_none (by rw [List.length_set, ctrK_len]; omega), List.getElem?_eq_none (by rw [ctrK_len]; omega)]
/-- a block whose first cells are known. -/
def RowZ (w : World) (b : Nat) (e : TypeId) (xs : List Value) : Prop := ∃ (arr : Array Value) (z : Nat × Nat), w.heap[b]? = some (.cells arr e z) ∧ arr.toList.take xs.length = xs ∧ xs.length ≤ arr.size ∧ ∀ i, i < arr.size → ¬ (z.1 ≤ i ∧ i < z.2)
theorem RowZ.lt {w : World} {b : Nat} {e : TypeId} {xs : List Value} (h : RowZ w b e xs) : b < w.heap.size := by
  obtain ⟨arr, z, h1, -⟩ := h
  exact (Array.getElem?_eq_some_iff.1 h1).1
theorem RowZ.touch {w w' : World} {b : Nat} {e : TypeId} {xs : List Value} {l : List Nat} (h : RowZ w b e xs) (t : Touch l w w') (hn : b ∉ l) : RowZ w' b e xs := by
  have hlt := h.lt
  obtain ⟨arr, z, h1, h2⟩ := h
  exact ⟨arr, z, (t.block b hlt hn).trans h1, h2⟩
theorem RowZ.cell {w : World} {b : Nat} {e : TypeId} {xs : List Value} (h : RowZ w b e xs) {i : Nat} {v : Value} (hv : xs[i]? = some v) : w.cell? ⟨b, i, none⟩ = some v := by
  obtain ⟨arr, z, h1, h2, h3, h4⟩ := h
  have hi : i < xs.length := (List.getElem?_eq_some_iff.1 hv).1
  rw [cell_of_row w b i arr e z h1]
  rw [← h2, List.getElem?_take, if_pos hi] at hv
  simpa using hv
theorem RowZ.frozen {w : World} {b : Nat} {e : TypeId} {xs : List Value} (h : RowZ w b e xs) {i : Nat} (hi : i < xs.length) : w.frozen? ⟨b, i, none⟩ = false := by
  obtain ⟨arr, z, h1, h2, h3, h4⟩ := h
  have := h4 i (by omega)
  unfold World.frozen?
  simp only [h1]
  simpa using this
theorem RowZ.set {w : World} {b : Nat} {e : TypeId} {xs : List Value} (h : RowZ w b e xs) {i : Nat} (_hi : i < xs.length) (v : Value) : RowZ (w.setCell ⟨b, i, none⟩ v) b e (xs.set i v) := by
  obtain ⟨arr, z, h1, h2, h3, h4⟩ := h
  refine ⟨arr.setIfInBounds i v, z, heap_setCell_z w b i arr e z v h1, ?_, by simpa using h3, by simpa using h4⟩
  rw [List.length_set, Array.toList_setIfInBounds, List.take_set, h2]
theorem RowZ.conv {P : Program} {w : World} {b : Nat} {t : TypeId} {l : List Nat} {src dst e : TypeId} (hA : RowZ w b t (bcells l)) (_hl : Bytes l) (n cap : Nat) (hn : l.length = n) (hs : P.underlying src = some (.slice e)) (he : P.underlying e = some (.int .u8)) (hd : P.underlying dst = some .string) :
    (convert src dst (.slice (some ⟨b, 0, none⟩) n cap)).run P w = .ok (.string (bytesOf l)) w := by
  have key := run_loadCells_list (P := P) w ⟨b, 0, none⟩ (bcells l) (fun j v hj => by rw [Addr.add_lit, Nat.zero_add]; exact hA.cell hj)
  rw [bcells_len, hn] at key
  have key2 : (loadCells ⟨b, 0, none⟩ n).run P w = .ok ((l.map fun (y : Nat) => (y : Int)).map (Value.int .u8)).toArray w := by
    rw [key, List.map_map]; rfl
  rw [run_convert_bytes_string w _ _ _ _ _ _ hs he hd, run_bytesToString (P := P) w ⟨b, 0, none⟩ n cap _ key2, push_foldl]
  simp
theorem rowZ_bytes (W : World) (s : ByteArray) (cap : Nat) (e : TypeId) (_hc : s.size ≤ cap) : RowZ (W.alloc (.cells (bytesRow s cap) e ((bytesRow s cap).size, (bytesRow s cap).size + 1))) W.heap.size e (bcells (bsOf s)) := by
  have e1 : (bytesRow s cap).toList = bcells (bsOf s) ++ List.replicate (cap - s.size) (.int .u8 0) := by
    unfold bytesRow bcells bsOf
    simp [List.map_map]
  refine ⟨_, _, heap_alloc_new W _, ?_, ?_, fun i hi => by omega⟩
  · rw [e1, List.take_left]
  · rw [← Array.length_toList, e1, List.length_append]; omega

theorem stream_mk (w : World) (cb : Nat) (nonce : ByteArray) : Calls Tryz.prog 135 #[.pointer (some ⟨cb, 0, none⟩), .string nonce] w fun e w' => ∃ xb nb, e = .returned (.func (.func 165) #[] #[.pointer (some ⟨xb, 0, none⟩), .pointer (some ⟨nb, 0, none⟩)]) ∧ Touch [] w w' ∧ w.heap.size ≤ xb ∧ w.heap.size ≤ nb ∧ At w' xb 167 [.pointer (some ⟨cb, 0, none⟩)] ∧ At w' nb 9 [.string nonce] := by
  go_enter Tryz.func135, Tryz.ntmps135
  go_wp2
  go_ret
  have a1 := (At.new w 167 [.pointer (some ⟨cb, 0, none⟩)]).alloc (.cells #[.string nonce] 9)
  have a2 := At.new (w.alloc (.cells #[.pointer (some ⟨cb, 0, none⟩)] 167)) 9 [.string nonce]
  rw [World.size_alloc] at a2
  exact ⟨_, _, rfl, ((Touch.refl [] w).alloc _).alloc _, by simp, by simp, a1, a2⟩
end Go.Proofs.YtodehmognjofhaaGreat
