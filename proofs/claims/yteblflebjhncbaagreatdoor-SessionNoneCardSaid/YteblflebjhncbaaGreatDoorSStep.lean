/-
  A step of a session that came in, as a value: its cells.
-/
import Derived.Test.YteblflebjhncbaaGreatDoorReadN
import Derived.Deep.Strs
import Derived.SizedLaws
namespace Go.Proofs.YteblflebjhncbaaGreatDoor
open Go.ChangeShapes Go.WideShapes Go.ChangeAt Go.RowKit

structure StepV where
  ty : Int
  tag : Int
  msize : Int
  version : ByteArray
  fid : Int
  afid : Int
  newfid : Int
  oldtag : Int
  uname : ByteArray
  aname : ByteArray
  ename : ByteArray
  name : ByteArray
  namesa : Option Addr
  namesn : Nat
  namesc : Nat
  qt : Int
  qv : Int
  qp : Int
  qidsa : Option Addr
  qidsn : Nat
  qidsc : Nat
  mode : Int
  perm : Int
  iounit : Int
  offset : Int
  count : Int
  data : ByteArray
  st : Int
  sd : Int
  sq0 : Int
  sq1 : Int
  sq2 : Int
  sm : Int
  sa : Int
  sx : Int
  sl : Int
  s0 : ByteArray
  s1 : ByteArray
  s2 : ByteArray
  s3 : ByteArray
  now : Int
  fin : Bool
def StepV.mcells (x : StepV) : List Value := [.int .u8 x.ty, .int .u16 x.tag, .int .u32 x.msize, .string x.version, .int .u32 x.fid, .int .u32 x.afid, .int .u32 x.newfid, .int .u16 x.oldtag, .string x.uname, .string x.aname, .string x.ename, .string x.name, .slice x.namesa x.namesn x.namesc, .int .u8 x.qt, .int .u32 x.qv, .int .u64 x.qp, .slice x.qidsa x.qidsn x.qidsc, .int .u8 x.mode, .int .u32 x.perm, .int .u32 x.iounit, .int .u64 x.offset, .int .u32 x.count, .string x.data, .int .u16 x.st, .int .u32 x.sd, .int .u8 x.sq0, .int .u32 x.sq1, .int .u64 x.sq2, .int .u32 x.sm, .int .u32 x.sa, .int .u32 x.sx, .int .u64 x.sl, .string x.s0, .string x.s1, .string x.s2, .string x.s3]
def StepV.cells (x : StepV) : List Value := [.int .u8 x.ty, .int .u16 x.tag, .int .u32 x.msize, .string x.version, .int .u32 x.fid, .int .u32 x.afid, .int .u32 x.newfid, .int .u16 x.oldtag, .string x.uname, .string x.aname, .string x.ename, .string x.name, .slice x.namesa x.namesn x.namesc, .int .u8 x.qt, .int .u32 x.qv, .int .u64 x.qp, .slice x.qidsa x.qidsn x.qidsc, .int .u8 x.mode, .int .u32 x.perm, .int .u32 x.iounit, .int .u64 x.offset, .int .u32 x.count, .string x.data, .int .u16 x.st, .int .u32 x.sd, .int .u8 x.sq0, .int .u32 x.sq1, .int .u64 x.sq2, .int .u32 x.sm, .int .u32 x.sa, .int .u32 x.sx, .int .u64 x.sl, .string x.s0, .string x.s1, .string x.s2, .string x.s3, .int .u32 x.now, .bool x.fin]
def StepV.val (x : StepV) : Value := .agg x.cells.toArray
/-- a slice that came in: its cells. -/
structure SliceIn (w : World) (size : Nat) (a : Option Addr) (n cap : Nat) (xs : List Value) : Prop where
  len : xs.length = n * size
  le : n ≤ cap
  max : cap ≤ maxLen
  at_ : n = 0 ∨ ∃ b off, a = some ⟨b, off, none⟩ ∧ b < w.heap.size ∧ ∀ j u, xs[j]? = some u → w.cell? ⟨b, off + j, none⟩ = some u
  one : ∀ u ∈ xs, u.oneCell' = true
theorem SliceIn.touch {w w' : World} {size : Nat} {a : Option Addr} {n cap : Nat} {xs : List Value} (h : SliceIn w size a n cap xs) (t : ∀ k, k < w.heap.size → k < w'.heap.size ∧ w'.heap[k]? = w.heap[k]?) : SliceIn w' size a n cap xs := by
  refine ⟨h.len, h.le, h.max, h.at_.imp id ?_, h.one⟩
  rintro ⟨b, off, h1, h2, h3⟩
  exact ⟨b, off, h1, (t b h2).1, fun j u hj => (World.cell?_of_block (a := ⟨b, _, none⟩) (t b h2).2).trans (h3 j u hj)⟩
theorem sliceIn_of {w : World} {size : Nat} {a : Option Addr} {n cap : Nat} (hs : 0 < size) (h1 : n ≤ cap) (h2 : cap ≤ maxLen) (h3 : 0 < n → ∃ b off, a = some ⟨b, off, none⟩ ∧ ∀ j, j < n * size → ∃ u, w.cell? ⟨b, off + j, none⟩ = some u ∧ u.oneCell' = true) : ∃ xs, SliceIn w size a n cap xs := by
  rcases Nat.eq_zero_or_pos n with h0 | h0
  · subst h0
    exact ⟨[], by simp, h1, h2, .inl rfl, by simp⟩
  · obtain ⟨b, off, rfl, h4⟩ := h3 h0
    have hlt : b < w.heap.size := by
      obtain ⟨u, hu, -⟩ := h4 0 (Nat.mul_pos h0 hs)
      exact World.block_lt_of_cell? w _ hu
    refine ⟨(List.range (n * size)).map fun j => (w.cell? ⟨b, off + j, none⟩).getD (.bool false), by simp, h1, h2, .inr ⟨b, off, rfl, hlt, fun j u hj => ?_⟩, fun u hu => ?_⟩
    · rw [List.getElem?_map] at hj
      obtain ⟨i, hi, rfl⟩ := Option.map_eq_some_iff.1 hj
      obtain ⟨hi1, hi2⟩ := List.getElem?_eq_some_iff.1 hi
      rw [List.getElem_range] at hi2
      subst hi2
      obtain ⟨u, hu, -⟩ := h4 j (by simpa using hi1)
      rw [hu]; rfl
    · obtain ⟨j, hj, rfl⟩ := List.mem_map.1 hu
      obtain ⟨u, hu, ho⟩ := h4 j (List.mem_range.1 hj)
      rw [hu]; exact ho
theorem trod_field {H : Type} {enc : TypeId × Value → H} {P : Program} {w : World} {base : Nat} {spare : Nat → Bool} {held : Bool} {t : TypeId} {fs : Array Field} {fuel : Nat} {cs : List Value} {x : DataW H × List MemPlace} (ht : P.underlying t = some (.struct fs)) (h : DataW.trod enc P w base spare held fuel t cs = some x)
    (i : Nat) (T o m : Nat) (hf : (fs[i]?).map (fun f => (f.type, f.offset, P.cellsOf f.type)) = some (T, o, m)) (hw : ∀ k ∈ x.1.weights P t, k ≤ reachBytes) : ∃ n y, DataW.trod enc P w base spare held n T ((cs.drop o).take m) = some y ∧ ∀ k ∈ y.1.weights P T, k ≤ reachBytes := by
  obtain ⟨xs, n, _, rfl, _, hlen, hfs⟩ := DataW.trod_struct ht h
  obtain ⟨f, hf1, hf2⟩ := Option.map_eq_some_iff.1 hf
  cases hf2
  have hi : i < fs.size := (Array.getElem?_eq_some_iff.1 hf1).1
  refine ⟨n, xs[i]'(by omega), ?_, fun k hk => hw k ?_⟩
  · rw [hfs i f hf1, List.getElem?_eq_getElem (by omega)]
  · simp only [DataW.weights, ht]
    exact DataW.weights_mem_each (j := i) (t := f.type) (by rw [List.getElem?_map, Array.getElem?_toList, hf1]; rfl) (by rw [List.getElem?_map, List.getElem?_eq_getElem (show i < xs.length by omega)]; rfl) k hk
theorem slice_weight {H : Type} {enc : TypeId × Value → H} {P : Program} {w : World} {base : Nat} {spare : Nat → Bool} {held : Bool} {t e : TypeId} {fuel : Nat} {a : Option Addr} {n c : Nat} {x : DataW H × List MemPlace} (ht : P.underlying t = some (.slice e)) (h : DataW.trod enc P w base spare held fuel t [.slice a n c] = some x)
    (hw : ∀ k ∈ x.1.weights P t, k ≤ reachBytes) : n * P.bytesOf e ≤ reachBytes := by
  rcases DataW.trod_slice ht h with ⟨hcs, rfl⟩ | ⟨a', len, cap, elems, rest, m, -, hcs, rfl, -, hl, hm, hlen, -⟩
  · simp only [List.cons.injEq, and_true, Value.slice.injEq] at hcs
    obtain ⟨-, rfl, -⟩ := hcs
    simp
  · simp only [List.cons.injEq, and_true, Value.slice.injEq] at hcs
    obtain ⟨-, rfl, -⟩ := hcs
    have h1 := hw ((elems.length + rest.length) * P.bytesOf e) (by simp [DataW.weights, ht])
    have h2 : elems.length * P.bytesOf e ≤ (elems.length + rest.length) * P.bytesOf e := Nat.mul_le_mul_right _ (by omega)
    rw [hlen] at h1 h2
    exact Nat.le_trans h2 h1
theorem wf_wrap_u8 {z : Int} (h : (Lit.int .u8 z).wf = true) : IntKind.u8.wrap z = z := by
  simp [Lit.wf, IntKind.min, IntKind.max, IntKind.signed, IntKind.bits] at h
  simp [IntKind.wrap, IntKind.signed, IntKind.bits]
  omega
theorem wf_wrap_u16 {z : Int} (h : (Lit.int .u16 z).wf = true) : IntKind.u16.wrap z = z := by
  simp [Lit.wf, IntKind.min, IntKind.max, IntKind.signed, IntKind.bits] at h
  simp [IntKind.wrap, IntKind.signed, IntKind.bits]
  omega
theorem bytesString : Tryz.prog.bytesOf 9 = 16 := by kernel_rfl
theorem bytesQid : Tryz.prog.bytesOf 32 = 16 := by kernel_rfl
theorem cellsString : Tryz.prog.cellsOf 9 = 1 := by kernel_rfl
theorem cellsQid : Tryz.prog.cellsOf 32 = 3 := by kernel_rfl
/-- strings that came in. -/
theorem read_names {H : Type} {enc : TypeId × Value → H} {w : World} {base : Nat} {spare : Nat → Bool} {held : Bool} {fuel : Nat} {v : Value} {x : DataW H × List MemPlace}
    (h : DataW.trod enc Tryz.prog w base spare held fuel 43 [v] = some x) : ∃ a n c, v = .slice a n c ∧ n ≤ c ∧ ∃ xs, SliceIn w 1 a n c xs ∧ ∀ u ∈ xs, ∃ s, u = .string s := by
  rcases Go.Deep.open_strs Tryz.underlying43 Tryz.underlying9 cellsString h with ⟨h1, -⟩ | ⟨a, len, cap, m, Sx, h1, -, h2, h3, h4, -, h5⟩
  · simp only [List.cons.injEq, and_true] at h1
    exact ⟨none, 0, 0, h1, Nat.le_refl _, [], ⟨rfl, Nat.le_refl _, by decide, .inl rfl, by simp⟩, by simp⟩
  · simp only [List.cons.injEq, and_true] at h1
    have hlm : len ≤ m := by rw [h4]; split <;> omega
    refine ⟨some a, len, cap, h1, h2, (List.range len).map fun i => .string (Sx i), ⟨by simp, h2, h3, ?_, ?_⟩, ?_⟩
    · rcases Nat.eq_zero_or_pos len with h0 | h0
      · exact .inl h0
      · right
        obtain ⟨b, off, spot⟩ := a
        have c0 := (h5 0 (by omega)).1
        have hspot : spot = none := by simpa [Addr.add] using World.cell?_spot c0
        subst hspot
        refine ⟨b, off, rfl, World.block_lt_of_cell? w _ c0, fun j u hj => ?_⟩
        rw [List.getElem?_map] at hj
        obtain ⟨i, hi, rfl⟩ := Option.map_eq_some_iff.1 hj
        obtain ⟨hi1, hi2⟩ := List.getElem?_eq_some_iff.1 hi
        rw [List.getElem_range] at hi2
        subst hi2
        have := (h5 j (by have := hi1; simp at this; omega)).1
        rwa [Addr.add_lit] at this
    · intro u hu
      obtain ⟨j, -, rfl⟩ := List.mem_map.1 hu
      rfl
    · intro u hu
      obtain ⟨j, -, rfl⟩ := List.mem_map.1 hu
      exact ⟨_, rfl⟩
theorem cellsU8 : Tryz.prog.cellsOf 5 = 1 := by kernel_rfl
theorem cellsU32 : Tryz.prog.cellsOf 29 = 1 := by kernel_rfl
theorem cellsU64 : Tryz.prog.cellsOf 30 = 1 := by kernel_rfl
set_option maxRecDepth 100000 in
/-- qids that came in. -/
theorem read_qids {H : Type} {enc : TypeId × Value → H} {w : World} {base : Nat} {spare : Nat → Bool} {held : Bool} {fuel : Nat} {v : Value} {x : DataW H × List MemPlace}
    (h : DataW.trod enc Tryz.prog w base spare held fuel 44 [v] = some x) : ∃ a n c, v = .slice a n c ∧ n ≤ c ∧ ∃ xs, SliceIn w 3 a n c xs := by
  have hs : ∃ a n c, v = .slice a n c := by
    rcases DataW.trod_slice Tryz.underlying44 h with ⟨hcs, _⟩ | ⟨x, l, c, elems, rest, n, _, hcs, _⟩
    · exact ⟨_, _, _, by simpa using hcs⟩
    · exact ⟨_, _, _, by simpa using hcs⟩
  obtain ⟨a, n, c, rfl⟩ := hs
  obtain ⟨h1, h2, h3⟩ := read_slice Tryz.underlying44 ⟨fuel, by simpa [Value.cells] using h⟩
  rw [cellsQid] at h3
  refine ⟨a, n, c, rfl, h1, sliceIn_of (by decide) h1 h2 fun h0 => ?_⟩
  obtain ⟨ad, rfl, hx⟩ := h3 h0
  obtain ⟨b, off, spot⟩ := ad
  have hspot : spot = none := by
    obtain ⟨m, cs, y, h4, h5⟩ := hx 0 h0
    obtain ⟨-, hl, hc⟩ := World.cells?_some h4
    have h6 := hc 0 (by omega)
    match cs, hl with
    | [v0, v1, v2], _ => simpa [Addr.add] using World.cell?_spot h6
  subst hspot
  have each : ∀ i, i < n → ∀ j, j < 3 → ∃ u, w.cell? ((Addr.mk b off none).add (i * 3 + j)) = some u ∧ u.oneCell' = true := by
    intro i hi j hj
    obtain ⟨m, cs, y, h4, h5⟩ := hx i hi
    obtain ⟨-, hl, hc⟩ := World.cells?_some h4
    obtain ⟨y0, y1, y2, m, -, -, g0, g1, g2⟩ := Go.Deep.trod_struct3 Tryz.underlying32 h5
    match cs, hl with
    | [v0, v1, v2], _ =>
      simp only [cellsU8, cellsU32, cellsU64, List.drop_zero, List.drop_succ_cons, List.take_succ_cons, List.take_zero] at g0 g1 g2
      obtain ⟨p0, e0, -⟩ := DataW.trod_int Tryz.underlying5 g0
      obtain ⟨p1, e1, -⟩ := DataW.trod_int Tryz.underlying29 g1
      obtain ⟨p2, e2, -⟩ := DataW.trod_int Tryz.underlying30 g2
      simp only [List.cons.injEq, and_true] at e0 e1 e2
      subst e0 e1 e2
      have k := hc j (by simpa using hj)
      have e : ((Addr.mk b off none).add (i * 3)).add j = (Addr.mk b off none).add (i * 3 + j) := by rw [Addr.add_lit, Addr.add_lit, Addr.add_lit, Nat.add_assoc]
      rw [e] at k
      match j, hj with
      | 0, _ => exact ⟨_, k, rfl⟩
      | 1, _ => exact ⟨_, k, rfl⟩
      | 2, _ => exact ⟨_, k, rfl⟩
  refine ⟨b, off, rfl, fun j hj => ?_⟩
  obtain ⟨u, hu, ho⟩ := each (j / 3) (by omega) (j % 3) (by omega)
  rw [Addr.add_lit, show j / 3 * 3 + j % 3 = j by omega] at hu
  exact ⟨u, hu, ho⟩
theorem cellsStepV : Tryz.prog.cellsOf 50 = 38 := by kernel_rfl
theorem un1 {α : Type} {n : Nat} {l : List α} (h : l.length = n + 1) : ∃ v l', l = v :: l' ∧ l'.length = n := by
  cases l with
  | nil => cases h
  | cons v l' => exact ⟨v, l', rfl, by simpa using h⟩
structure StepIn (w : World) (x : StepV) : Prop where
  names : ∃ xs, SliceIn w 1 x.namesa x.namesn x.namesc xs ∧ ∀ u ∈ xs, ∃ s, u = .string s
  qids : ∃ xs, SliceIn w 3 x.qidsa x.qidsn x.qidsc xs
  nb : x.namesn * 16 ≤ 140737488351232
  qb : x.qidsn * 16 ≤ 140737488351232
  wt : IntKind.u8.wrap x.ty = x.ty
  wg : IntKind.u16.wrap x.tag = x.tag
theorem StepIn.touch {w w' : World} {x : StepV} (h : StepIn w x) (t : ∀ k, k < w.heap.size → k < w'.heap.size ∧ w'.heap[k]? = w.heap[k]?) : StepIn w' x :=
  ⟨let ⟨xs, h1, h2⟩ := h.names; ⟨xs, h1.touch t, h2⟩, let ⟨xs, h1⟩ := h.qids; ⟨xs, h1.touch t⟩, h.nb, h.qb, h.wt, h.wg⟩
set_option maxRecDepth 100000 in
theorem open_step {H : Type} {enc : TypeId × Value → H} {w : World} {r : Reach} {b0 base : Nat} {spare : Nat → Bool} {held : Bool} {v : Value} {d : DataW H} {ps : List MemPlace}
    (hv : Value.okWide Tryz.prog w r b0 50 v) (h : DataW.Trod enc Tryz.prog w base spare held 50 v d ps) (hw : ∀ k ∈ d.weights Tryz.prog 50, k ≤ reachBytes) : ∃ x : StepV, v = x.val ∧ StepIn w x := by
  obtain ⟨cs, rfl, hsz⟩ := okWide_struct Tryz.underlying50 hv
  obtain ⟨l⟩ := cs
  have hl : l.length = 38 := hsz.trans cellsStepV
  obtain ⟨fuel, hf⟩ := h
  have hf : DataW.trod enc Tryz.prog w base spare held fuel 50 l = some (d, ps) := hf
  have whf := hw
  obtain ⟨v0, l0, rfl, u0⟩ := un1 hl
  obtain ⟨v1, l1, rfl, u1⟩ := un1 u0
  obtain ⟨v2, l2, rfl, u2⟩ := un1 u1
  obtain ⟨v3, l3, rfl, u3⟩ := un1 u2
  obtain ⟨v4, l4, rfl, u4⟩ := un1 u3
  obtain ⟨v5, l5, rfl, u5⟩ := un1 u4
  obtain ⟨v6, l6, rfl, u6⟩ := un1 u5
  obtain ⟨v7, l7, rfl, u7⟩ := un1 u6
  obtain ⟨v8, l8, rfl, u8⟩ := un1 u7
  obtain ⟨v9, l9, rfl, u9⟩ := un1 u8
  obtain ⟨v10, l10, rfl, u10⟩ := un1 u9
  obtain ⟨v11, l11, rfl, u11⟩ := un1 u10
  obtain ⟨v12, l12, rfl, u12⟩ := un1 u11
  obtain ⟨v13, l13, rfl, u13⟩ := un1 u12
  obtain ⟨v14, l14, rfl, u14⟩ := un1 u13
  obtain ⟨v15, l15, rfl, u15⟩ := un1 u14
  obtain ⟨v16, l16, rfl, u16⟩ := un1 u15
  obtain ⟨v17, l17, rfl, u17⟩ := un1 u16
  obtain ⟨v18, l18, rfl, u18⟩ := un1 u17
  obtain ⟨v19, l19, rfl, u19⟩ := un1 u18
  obtain ⟨v20, l20, rfl, u20⟩ := un1 u19
  obtain ⟨v21, l21, rfl, u21⟩ := un1 u20
  obtain ⟨v22, l22, rfl, u22⟩ := un1 u21
  obtain ⟨v23, l23, rfl, u23⟩ := un1 u22
  obtain ⟨v24, l24, rfl, u24⟩ := un1 u23
  obtain ⟨v25, l25, rfl, u25⟩ := un1 u24
  obtain ⟨v26, l26, rfl, u26⟩ := un1 u25
  obtain ⟨v27, l27, rfl, u27⟩ := un1 u26
  obtain ⟨v28, l28, rfl, u28⟩ := un1 u27
  obtain ⟨v29, l29, rfl, u29⟩ := un1 u28
  obtain ⟨v30, l30, rfl, u30⟩ := un1 u29
  obtain ⟨v31, l31, rfl, u31⟩ := un1 u30
  obtain ⟨v32, l32, rfl, u32⟩ := un1 u31
  obtain ⟨v33, l33, rfl, u33⟩ := un1 u32
  obtain ⟨v34, l34, rfl, u34⟩ := un1 u33
  obtain ⟨v35, l35, rfl, u35⟩ := un1 u34
  obtain ⟨v36, l36, rfl, u36⟩ := un1 u35
  obtain ⟨v37, l37, rfl, u37⟩ := un1 u36
  obtain rfl := List.eq_nil_of_length_eq_zero u37
  obtain ⟨_, _, gM, wgM⟩ := trod_field Tryz.underlying50 hf 0 48 0 36 (by kernel_rfl) whf
  simp only [List.drop_zero, List.drop_succ_cons, List.take_succ_cons, List.take_zero, List.take_nil] at gM
  obtain ⟨_, _, h0, w0⟩ := trod_field Tryz.underlying48 gM 0 5 0 1 (by kernel_rfl) wgM
  simp only [List.drop_zero, List.drop_succ_cons, List.take_succ_cons, List.take_zero] at h0
  obtain ⟨ty, e0, -, q0⟩ := DataW.trod_int Tryz.underlying5 h0
  obtain ⟨_, _, h1, w1⟩ := trod_field Tryz.underlying48 gM 1 42 1 1 (by kernel_rfl) wgM
  simp only [List.drop_zero, List.drop_succ_cons, List.take_succ_cons, List.take_zero] at h1
  obtain ⟨tag, e1, -, q1⟩ := DataW.trod_int Tryz.underlying42 h1
  obtain ⟨_, _, h2, w2⟩ := trod_field Tryz.underlying48 gM 2 29 2 1 (by kernel_rfl) wgM
  simp only [List.drop_zero, List.drop_succ_cons, List.take_succ_cons, List.take_zero] at h2
  obtain ⟨msize, e2, -, q2⟩ := DataW.trod_int Tryz.underlying29 h2
  obtain ⟨_, _, h3, w3⟩ := trod_field Tryz.underlying48 gM 3 9 3 1 (by kernel_rfl) wgM
  simp only [List.drop_zero, List.drop_succ_cons, List.take_succ_cons, List.take_zero] at h3
  obtain ⟨version, e3, -⟩ := DataW.trod_string Tryz.underlying9 h3
  obtain ⟨_, _, h4, w4⟩ := trod_field Tryz.underlying48 gM 4 29 4 1 (by kernel_rfl) wgM
  simp only [List.drop_zero, List.drop_succ_cons, List.take_succ_cons, List.take_zero] at h4
  obtain ⟨fid, e4, -, q4⟩ := DataW.trod_int Tryz.underlying29 h4
  obtain ⟨_, _, h5, w5⟩ := trod_field Tryz.underlying48 gM 5 29 5 1 (by kernel_rfl) wgM
  simp only [List.drop_zero, List.drop_succ_cons, List.take_succ_cons, List.take_zero] at h5
  obtain ⟨afid, e5, -, q5⟩ := DataW.trod_int Tryz.underlying29 h5
  obtain ⟨_, _, h6, w6⟩ := trod_field Tryz.underlying48 gM 6 29 6 1 (by kernel_rfl) wgM
  simp only [List.drop_zero, List.drop_succ_cons, List.take_succ_cons, List.take_zero] at h6
  obtain ⟨newfid, e6, -, q6⟩ := DataW.trod_int Tryz.underlying29 h6
  obtain ⟨_, _, h7, w7⟩ := trod_field Tryz.underlying48 gM 7 42 7 1 (by kernel_rfl) wgM
  simp only [List.drop_zero, List.drop_succ_cons, List.take_succ_cons, List.take_zero] at h7
  obtain ⟨oldtag, e7, -, q7⟩ := DataW.trod_int Tryz.underlying42 h7
  obtain ⟨_, _, h8, w8⟩ := trod_field Tryz.underlying48 gM 8 9 8 1 (by kernel_rfl) wgM
  simp only [List.drop_zero, List.drop_succ_cons, List.take_succ_cons, List.take_zero] at h8
  obtain ⟨uname, e8, -⟩ := DataW.trod_string Tryz.underlying9 h8
  obtain ⟨_, _, h9, w9⟩ := trod_field Tryz.underlying48 gM 9 9 9 1 (by kernel_rfl) wgM
  simp only [List.drop_zero, List.drop_succ_cons, List.take_succ_cons, List.take_zero] at h9
  obtain ⟨aname, e9, -⟩ := DataW.trod_string Tryz.underlying9 h9
  obtain ⟨_, _, h10, w10⟩ := trod_field Tryz.underlying48 gM 10 9 10 1 (by kernel_rfl) wgM
  simp only [List.drop_zero, List.drop_succ_cons, List.take_succ_cons, List.take_zero] at h10
  obtain ⟨ename, e10, -⟩ := DataW.trod_string Tryz.underlying9 h10
  obtain ⟨_, _, h11, w11⟩ := trod_field Tryz.underlying48 gM 11 9 11 1 (by kernel_rfl) wgM
  simp only [List.drop_zero, List.drop_succ_cons, List.take_succ_cons, List.take_zero] at h11
  obtain ⟨name, e11, -⟩ := DataW.trod_string Tryz.underlying9 h11
  obtain ⟨_, _, h12, w12⟩ := trod_field Tryz.underlying48 gM 12 43 12 1 (by kernel_rfl) wgM
  simp only [List.drop_zero, List.drop_succ_cons, List.take_succ_cons, List.take_zero] at h12
  obtain ⟨namesa, namesn, namesc, rfl, -, inames⟩ := read_names h12
  obtain ⟨_, _, gQ, wgQ⟩ := trod_field Tryz.underlying48 gM 13 32 13 3 (by kernel_rfl) wgM
  simp only [List.drop_zero, List.drop_succ_cons, List.take_succ_cons, List.take_zero, List.take_nil] at gQ
  obtain ⟨_, _, h13, w13⟩ := trod_field Tryz.underlying32 gQ 0 5 0 1 (by kernel_rfl) wgQ
  simp only [List.drop_zero, List.drop_succ_cons, List.take_succ_cons, List.take_zero] at h13
  obtain ⟨qt, e13, -, q13⟩ := DataW.trod_int Tryz.underlying5 h13
  obtain ⟨_, _, h14, w14⟩ := trod_field Tryz.underlying32 gQ 1 29 1 1 (by kernel_rfl) wgQ
  simp only [List.drop_zero, List.drop_succ_cons, List.take_succ_cons, List.take_zero] at h14
  obtain ⟨qv, e14, -, q14⟩ := DataW.trod_int Tryz.underlying29 h14
  obtain ⟨_, _, h15, w15⟩ := trod_field Tryz.underlying32 gQ 2 30 2 1 (by kernel_rfl) wgQ
  simp only [List.drop_zero, List.drop_succ_cons, List.take_succ_cons, List.take_zero] at h15
  obtain ⟨qp, e15, -, q15⟩ := DataW.trod_int Tryz.underlying30 h15
  obtain ⟨_, _, h16, w16⟩ := trod_field Tryz.underlying48 gM 14 44 16 1 (by kernel_rfl) wgM
  simp only [List.drop_zero, List.drop_succ_cons, List.take_succ_cons, List.take_zero] at h16
  obtain ⟨qidsa, qidsn, qidsc, rfl, -, iqids⟩ := read_qids h16
  obtain ⟨_, _, h17, w17⟩ := trod_field Tryz.underlying48 gM 15 5 17 1 (by kernel_rfl) wgM
  simp only [List.drop_zero, List.drop_succ_cons, List.take_succ_cons, List.take_zero] at h17
  obtain ⟨mode, e17, -, q17⟩ := DataW.trod_int Tryz.underlying5 h17
  obtain ⟨_, _, h18, w18⟩ := trod_field Tryz.underlying48 gM 16 29 18 1 (by kernel_rfl) wgM
  simp only [List.drop_zero, List.drop_succ_cons, List.take_succ_cons, List.take_zero] at h18
  obtain ⟨perm, e18, -, q18⟩ := DataW.trod_int Tryz.underlying29 h18
  obtain ⟨_, _, h19, w19⟩ := trod_field Tryz.underlying48 gM 17 29 19 1 (by kernel_rfl) wgM
  simp only [List.drop_zero, List.drop_succ_cons, List.take_succ_cons, List.take_zero] at h19
  obtain ⟨iounit, e19, -, q19⟩ := DataW.trod_int Tryz.underlying29 h19
  obtain ⟨_, _, h20, w20⟩ := trod_field Tryz.underlying48 gM 18 30 20 1 (by kernel_rfl) wgM
  simp only [List.drop_zero, List.drop_succ_cons, List.take_succ_cons, List.take_zero] at h20
  obtain ⟨offset, e20, -, q20⟩ := DataW.trod_int Tryz.underlying30 h20
  obtain ⟨_, _, h21, w21⟩ := trod_field Tryz.underlying48 gM 19 29 21 1 (by kernel_rfl) wgM
  simp only [List.drop_zero, List.drop_succ_cons, List.take_succ_cons, List.take_zero] at h21
  obtain ⟨count, e21, -, q21⟩ := DataW.trod_int Tryz.underlying29 h21
  obtain ⟨_, _, h22, w22⟩ := trod_field Tryz.underlying48 gM 20 9 22 1 (by kernel_rfl) wgM
  simp only [List.drop_zero, List.drop_succ_cons, List.take_succ_cons, List.take_zero] at h22
  obtain ⟨data, e22, -⟩ := DataW.trod_string Tryz.underlying9 h22
  obtain ⟨_, _, gT, wgT⟩ := trod_field Tryz.underlying48 gM 21 46 23 13 (by kernel_rfl) wgM
  simp only [List.drop_zero, List.drop_succ_cons, List.take_succ_cons, List.take_zero, List.take_nil] at gT
  obtain ⟨_, _, h23, w23⟩ := trod_field Tryz.underlying46 gT 0 42 0 1 (by kernel_rfl) wgT
  simp only [List.drop_zero, List.drop_succ_cons, List.take_succ_cons, List.take_zero] at h23
  obtain ⟨st, e23, -, q23⟩ := DataW.trod_int Tryz.underlying42 h23
  obtain ⟨_, _, h24, w24⟩ := trod_field Tryz.underlying46 gT 1 29 1 1 (by kernel_rfl) wgT
  simp only [List.drop_zero, List.drop_succ_cons, List.take_succ_cons, List.take_zero] at h24
  obtain ⟨sd, e24, -, q24⟩ := DataW.trod_int Tryz.underlying29 h24
  obtain ⟨_, _, gS, wgS⟩ := trod_field Tryz.underlying46 gT 2 32 2 3 (by kernel_rfl) wgT
  simp only [List.drop_zero, List.drop_succ_cons, List.take_succ_cons, List.take_zero, List.take_nil] at gS
  obtain ⟨_, _, h25, w25⟩ := trod_field Tryz.underlying32 gS 0 5 0 1 (by kernel_rfl) wgS
  simp only [List.drop_zero, List.drop_succ_cons, List.take_succ_cons, List.take_zero] at h25
  obtain ⟨sq0, e25, -, q25⟩ := DataW.trod_int Tryz.underlying5 h25
  obtain ⟨_, _, h26, w26⟩ := trod_field Tryz.underlying32 gS 1 29 1 1 (by kernel_rfl) wgS
  simp only [List.drop_zero, List.drop_succ_cons, List.take_succ_cons, List.take_zero] at h26
  obtain ⟨sq1, e26, -, q26⟩ := DataW.trod_int Tryz.underlying29 h26
  obtain ⟨_, _, h27, w27⟩ := trod_field Tryz.underlying32 gS 2 30 2 1 (by kernel_rfl) wgS
  simp only [List.drop_zero, List.drop_succ_cons, List.take_succ_cons, List.take_zero] at h27
  obtain ⟨sq2, e27, -, q27⟩ := DataW.trod_int Tryz.underlying30 h27
  obtain ⟨_, _, h28, w28⟩ := trod_field Tryz.underlying46 gT 3 29 5 1 (by kernel_rfl) wgT
  simp only [List.drop_zero, List.drop_succ_cons, List.take_succ_cons, List.take_zero] at h28
  obtain ⟨sm, e28, -, q28⟩ := DataW.trod_int Tryz.underlying29 h28
  obtain ⟨_, _, h29, w29⟩ := trod_field Tryz.underlying46 gT 4 29 6 1 (by kernel_rfl) wgT
  simp only [List.drop_zero, List.drop_succ_cons, List.take_succ_cons, List.take_zero] at h29
  obtain ⟨sa, e29, -, q29⟩ := DataW.trod_int Tryz.underlying29 h29
  obtain ⟨_, _, h30, w30⟩ := trod_field Tryz.underlying46 gT 5 29 7 1 (by kernel_rfl) wgT
  simp only [List.drop_zero, List.drop_succ_cons, List.take_succ_cons, List.take_zero] at h30
  obtain ⟨sx, e30, -, q30⟩ := DataW.trod_int Tryz.underlying29 h30
  obtain ⟨_, _, h31, w31⟩ := trod_field Tryz.underlying46 gT 6 30 8 1 (by kernel_rfl) wgT
  simp only [List.drop_zero, List.drop_succ_cons, List.take_succ_cons, List.take_zero] at h31
  obtain ⟨sl, e31, -, q31⟩ := DataW.trod_int Tryz.underlying30 h31
  obtain ⟨_, _, h32, w32⟩ := trod_field Tryz.underlying46 gT 7 9 9 1 (by kernel_rfl) wgT
  simp only [List.drop_zero, List.drop_succ_cons, List.take_succ_cons, List.take_zero] at h32
  obtain ⟨s0, e32, -⟩ := DataW.trod_string Tryz.underlying9 h32
  obtain ⟨_, _, h33, w33⟩ := trod_field Tryz.underlying46 gT 8 9 10 1 (by kernel_rfl) wgT
  simp only [List.drop_zero, List.drop_succ_cons, List.take_succ_cons, List.take_zero] at h33
  obtain ⟨s1, e33, -⟩ := DataW.trod_string Tryz.underlying9 h33
  obtain ⟨_, _, h34, w34⟩ := trod_field Tryz.underlying46 gT 9 9 11 1 (by kernel_rfl) wgT
  simp only [List.drop_zero, List.drop_succ_cons, List.take_succ_cons, List.take_zero] at h34
  obtain ⟨s2, e34, -⟩ := DataW.trod_string Tryz.underlying9 h34
  obtain ⟨_, _, h35, w35⟩ := trod_field Tryz.underlying46 gT 10 9 12 1 (by kernel_rfl) wgT
  simp only [List.drop_zero, List.drop_succ_cons, List.take_succ_cons, List.take_zero] at h35
  obtain ⟨s3, e35, -⟩ := DataW.trod_string Tryz.underlying9 h35
  obtain ⟨_, _, h36, w36⟩ := trod_field Tryz.underlying50 hf 1 29 36 1 (by kernel_rfl) whf
  simp only [List.drop_zero, List.drop_succ_cons, List.take_succ_cons, List.take_zero] at h36
  obtain ⟨now, e36, -, q36⟩ := DataW.trod_int Tryz.underlying29 h36
  obtain ⟨_, _, h37, w37⟩ := trod_field Tryz.underlying50 hf 2 4 37 1 (by kernel_rfl) whf
  simp only [List.drop_zero, List.drop_succ_cons, List.take_succ_cons, List.take_zero] at h37
  obtain ⟨fin, e37, -⟩ := DataW.trod_bool Tryz.underlying4 h37
  simp only [List.cons.injEq, and_true] at e0 e1 e2 e3 e4 e5 e6 e7 e8 e9 e10 e11 e13 e14 e15 e17 e18 e19 e20 e21 e22 e23 e24 e25 e26 e27 e28 e29 e30 e31 e32 e33 e34 e35 e36 e37
  subst e0 e1 e2 e3 e4 e5 e6 e7 e8 e9 e10 e11 e13 e14 e15 e17 e18 e19 e20 e21 e22 e23 e24 e25 e26 e27 e28 e29 e30 e31 e32 e33 e34 e35 e36 e37
  refine ⟨⟨ty, tag, msize, version, fid, afid, newfid, oldtag, uname, aname, ename, name, namesa, namesn, namesc, qt, qv, qp, qidsa, qidsn, qidsc, mode, perm, iounit, offset, count, data, st, sd, sq0, sq1, sq2, sm, sa, sx, sl, s0, s1, s2, s3, now, fin⟩, rfl, inames, iqids, ?_, ?_, wf_wrap_u8 q0, wf_wrap_u16 q1⟩
  · have := slice_weight Tryz.underlying43 h12 w12
    rw [bytesString] at this
    exact this
  · have := slice_weight Tryz.underlying44 h16 w16
    rw [bytesQid] at this
    exact this
end Go.Proofs.YteblflebjhncbaaGreatDoor
