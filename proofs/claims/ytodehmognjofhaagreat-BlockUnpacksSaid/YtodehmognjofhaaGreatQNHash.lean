/-
  The digest in plain words: bytes that came so far.
-/
import Derived.Test.YtodehmognjofhaaGreatQNShaC
import Derived.Laws.CopyOwn
namespace Go.Proofs.YtodehmognjofhaaGreat
open Go.RowKit

/-- so many blocks taken. -/
def bf (l : List Nat) : Nat → List Nat
  | 0 => VS
  | k + 1 => blockF (bf l k) ((l.drop (64 * k)).take 64)
theorem bf_append (l x : List Nat) : ∀ k, 64 * k ≤ l.length → bf (l ++ x) k = bf l k
  | 0, _ => rfl
  | k + 1, h => by
    show blockF (bf (l ++ x) k) _ = blockF (bf l k) _
    rw [bf_append l x k (by omega), List.drop_append_of_le_length (by omega), List.take_append_of_le_length (by rw [List.length_drop]; omega)]
theorem bf_len (l : List Nat) : ∀ k, (bf l k).length = 8
  | 0 => VS_len
  | k + 1 => blockF_len _ _ (bf_len l k)
theorem bf_words (l : List Nat) : ∀ k, Words (bf l k)
  | 0 => VS_lt
  | _ + 1 => addW_lt _ _
/-- a digest that has taken m. -/
structure HS (m v part : List Nat) : Prop where
  v : v = bf m (m.length / 64)
  len : part.length = 64
  pt : part.take (m.length % 64) = m.drop (64 * (m.length / 64))
  bytes : Bytes part
theorem HS.vlen {m v part : List Nat} (h : HS m v part) : v.length = 8 := by rw [h.v]; exact bf_len _ _
theorem HS.words {m v part : List Nat} (h : HS m v part) : Words v := by rw [h.v]; exact bf_words _ _
theorem splice_bytes {l x : List Nat} {o : Nat} (hl : Bytes l) (hx : Bytes x) : Bytes (splice l o x) := by
  intro y hy
  unfold splice at hy
  rcases List.mem_append.1 hy with h | h
  · exact hl y (List.mem_of_mem_take h)
  rcases List.mem_append.1 h with h | h
  · exact hx y h
  · exact hl y (List.mem_of_mem_drop h)
theorem splice_take {l x : List Nat} {o : Nat} (ho : o ≤ l.length) : (splice l o x).take (o + x.length) = l.take o ++ x := by
  unfold splice
  rw [← List.append_assoc, List.take_append_of_le_length (by simp; omega), List.take_of_length_le (by simp; omega)]
theorem HS.start (part : List Nat) (h : part.length = 64) (hb : Bytes part) : HS [] VS part := ⟨rfl, h, by simp, hb⟩
section
variable {m v part x : List Nat} (h : HS m v part) (hx : Bytes x)
include h hx
theorem HS.full (hr : m.length % 64 + x.length = 64) : HS (m ++ x) (blockF v (splice part (m.length % 64) x)) (splice part (m.length % 64) x) := by
  have h1 : (m ++ x).length = 64 * (m.length / 64 + 1) := by rw [List.length_append]; omega
  have h2 : (m ++ x).length / 64 = m.length / 64 + 1 := by omega
  have h3 : (m ++ x).length % 64 = 0 := by omega
  have hs : splice part (m.length % 64) x = (m ++ x).drop (64 * (m.length / 64)) := by
    rw [List.drop_append_of_le_length (by omega), ← h.pt, ← splice_take (by rw [h.len]; omega)]
    exact (List.take_of_length_le (by rw [length_splice _ _ _ (by rw [h.len]; omega), h.len]; omega)).symm
  refine ⟨?_, by rw [length_splice _ _ _ (by rw [h.len]; omega), h.len], ?_, splice_bytes h.bytes hx⟩
  · rw [h2]
    show _ = blockF (bf (m ++ x) (m.length / 64)) _
    rw [bf_append _ _ _ (by omega), ← h.v, ← hs, List.take_of_length_le (by rw [length_splice _ _ _ (by rw [h.len]; omega), h.len]; omega)]
  · rw [h3, h2, List.drop_eq_nil_of_le (by omega)]; rfl
theorem HS.more (hr : m.length % 64 + x.length < 64) : HS (m ++ x) v (splice part (m.length % 64) x) := by
  have h2 : (m ++ x).length / 64 = m.length / 64 := by rw [List.length_append]; omega
  have h3 : (m ++ x).length % 64 = m.length % 64 + x.length := by rw [List.length_append]; omega
  refine ⟨by rw [h2, bf_append _ _ _ (by omega)]; exact h.v, by rw [length_splice _ _ _ (by rw [h.len]; omega), h.len], ?_, splice_bytes h.bytes hx⟩
  rw [h3, h2, splice_take (by rw [h.len]; omega), h.pt, List.drop_append_of_le_length (by omega)]
end

/-- a text's bytes. -/
def bsOf (s : ByteArray) : List Nat := s.data.toList.map UInt8.toNat
theorem bsOf_len (s : ByteArray) : (bsOf s).length = s.size := by simp [bsOf]
theorem bsOf_bytes (s : ByteArray) : Bytes (bsOf s) := by
  intro x hx
  obtain ⟨b, -, rfl⟩ := List.mem_map.1 hx
  exact UInt8.toNat_lt b
theorem bsOf_bytesOf {l : List Nat} (h : Bytes l) : bsOf (bytesOf l) = l := by
  unfold bsOf bytesOf
  simp only [List.map_map]
  exact (List.map_congr_left (g := id) fun x hx => by simp [UInt8.toNat_ofNat', Nat.mod_eq_of_lt (h x hx)]).trans (List.map_id l)
theorem bytesOf_bsOf (s : ByteArray) : bytesOf (bsOf s) = s := by
  apply ByteArray.ext
  have e : (s.data.toList.map UInt8.toNat).map UInt8.ofNat = s.data.toList := by
    rw [List.map_map]
    exact (List.map_congr_left (g := id) fun x _ => by simp).trans (List.map_id _)
  unfold bsOf bytesOf
  rw [e]
theorem bsOf_extract (s : ByteArray) (a b : Nat) : bsOf (s.extract a b) = ((bsOf s).drop a).take (b - a) := by
  conv => lhs; rw [← bytesOf_bsOf s, bytesOf_extract]
  exact bsOf_bytesOf fun x hx => bsOf_bytes s x (List.mem_of_mem_drop (List.mem_of_mem_take hx))
theorem bsOf_append (s t : ByteArray) : bsOf (s ++ t) = bsOf s ++ bsOf t := by
  conv => lhs; rw [← bytesOf_bsOf s, ← bytesOf_bsOf t, ← bytesOf_append]
  exact bsOf_bytesOf fun x hx => (List.mem_append.1 hx).elim (bsOf_bytes s x) (bsOf_bytes t x)

/-- copy(dst, s), s a text: a law for the walk. -/
theorem wpList_copy_str {P : Program} {w : World} {ops : Array Oper} {rest : List Oper} {o : Oper} {a : Act} {Q : Exit → Act → World → Prop} (hgd : o.guard = none) (d s : Operand) (dT sT : TypeId)
    (ho : o.op = .call { callee := .builtin .copy, args := #[d, s], argTypes := #[dT, sT] }) (elem : TypeId) (hu : P.underlying dT = some (.slice elem)) (hsz : (P.info? elem).map (·.size) = some 1)
    (g off dLen dCap : Nat) (str : ByteArray) (hd : a.eval d = .slice (some ⟨g, off, none⟩) dLen dCap) (hs : a.eval s = .string str)
    (cur : List Value) (t : TypeId) (hg : At w g t cur) (xs : List Nat) (hx : xs = (bsOf str).take dLen) (hfit : off + xs.length ≤ cur.length)
    (h : ∀ w', Hid (At w' g t (splice cur off (bcells xs))) → Touch [g] w w' → wpList P ops Q rest (a.put o.dst (goInt xs.length)) w') : wpList P ops Q (o :: rest) a w := by
  refine wpList_plain hgd fun K hK => ?_
  have hn : Nat.min str.size dLen = xs.length := by rw [hx, List.length_take, bsOf_len]; exact Nat.min_comm _ _
  have hf : (Builtin.firstCells 1 xs.length (.string str)).run P w = .ok (bcells xs).toArray w := by
    show Result.ok ((str.extract 0 xs.length).data.map fun b => Value.int .u8 b.toNat) w = _
    congr 1
    apply Array.ext'
    have e := bsOf_extract str 0 xs.length
    rw [List.drop_zero, Nat.sub_zero] at e
    have e2 : (bsOf str).take xs.length = xs := by
      have hl := congrArg List.length hx
      rw [List.length_take] at hl
      rw [hx, List.length_take, List.take_eq_take_iff]
      omega
    rw [e2] at e
    have e3 : (bcells xs) = (bsOf (str.extract 0 xs.length)).map fun (x : Nat) => Value.int .u8 (x : Int) := by rw [e]; rfl
    rw [e3]
    simp only [bsOf, Array.toList_map, List.map_map]
    rfl
  have hc := hg.cell
  have hst := run_storeCells_cells (P := P) g off (bcells xs) 0 w (fun j hj => by
      rw [hc]
      rw [bcells_len] at hj
      rw [List.getElem?_eq_getElem (by omega)]; rfl) (fun j _ => hg.frozen _) (fun v hv => by
      obtain ⟨x, -, rfl⟩ := List.mem_map.1 hv
      rfl)
  obtain ⟨arr', c1, c2, c3, c4, c5, c6, c7, c8⟩ := setCells_heap g (bcells xs) off w cur.toArray t (0, 0) hg (by simp [bcells_len]; omega)
  have hA : At (w.setCells g off (bcells xs)) g t (splice cur off (bcells xs)) := by
    have e : arr' = (splice cur off (bcells xs)).toArray := by
      apply Array.ext'
      rw [c2]
      simp [splice]
    rw [e] at c1
    exact c1
  have hT : Touch [g] w (w.setCells g off (bcells xs)) := ⟨c6, c7, c8, by rw [c4]; exact Nat.le_refl _, fun k _ hk => c5 k (by simpa using hk)⟩
  have hrun : (Builtin.copy_ #[dT, sT] o.type #[.slice (some ⟨g, off, none⟩) dLen dCap, .string str]).run P w = .ok (goInt xs.length) (w.setCells g off (bcells xs)) := by
    cases hq : P.info? elem with
    | none => simp [hq] at hsz
    | some i =>
      have hi : i.size = 1 := by simpa [hq] using hsz
      simp only [Nat.add_zero] at hst
      simp [Builtin.copy_, run_underlying hu, Builtin.lenOf, sizeOf, typeInfo, hq, hi, hn, hf, hst]
  unfold Oper.wp
  simp [execOp, ho, resolve, invoke, builtin, hd, hs, hrun, Result.andThen]
  exact hK _ _ (h _ hA hT)
end Go.Proofs.YtodehmognjofhaaGreat
