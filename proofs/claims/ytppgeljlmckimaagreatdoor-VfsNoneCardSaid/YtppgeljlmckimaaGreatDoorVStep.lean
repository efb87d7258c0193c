/-
  A step that came in, as a value: its cells.
-/
import Derived.Test.YtppgeljlmckimaaGreatDoorReadN
import Derived.SizedLaws
namespace Go.Proofs.YtppgeljlmckimaaGreatDoor
open Go.ChangeShapes Go.WideShapes Go.ChangeAt Go.RowKit

structure StepV where
  d : Int
  p : Int
  name : ByteArray
  who : ByteArray
  perm : Int
  mode : Int
  now : Int
  off : Int
  cnt : Int
  data : ByteArray
  c0 : Int
  c1 : Int
  c2 : Int
  c3 : Int
  c4 : Int
  c5 : Int
  c6 : Int
  c7 : Int
  c8 : Int
  s0 : ByteArray
  s1 : ByteArray
  s2 : ByteArray
  s3 : ByteArray
def StepV.cells (x : StepV) : List Value := [.int .i64 x.d, .int .u64 x.p, .string x.name, .string x.who, .int .u32 x.perm, .int .u8 x.mode, .int .u32 x.now, .int .u64 x.off, .int .u32 x.cnt, .string x.data, .int .u16 x.c0, .int .u32 x.c1, .int .u8 x.c2, .int .u32 x.c3, .int .u64 x.c4, .int .u32 x.c5, .int .u32 x.c6, .int .u32 x.c7, .int .u64 x.c8, .string x.s0, .string x.s1, .string x.s2, .string x.s3]
def StepV.val (x : StepV) : Value := .agg x.cells.toArray
def StepV.small (x : StepV) : Prop := x.name.size ≤ 140737488351232 ∧ x.who.size ≤ 140737488351232 ∧ x.data.size ≤ 140737488351232 ∧ x.s0.size ≤ 140737488351232 ∧ x.s1.size ≤ 140737488351232 ∧ x.s2.size ≤ 140737488351232 ∧ x.s3.size ≤ 140737488351232
theorem trod_field {H : Type} {enc : TypeId × Value → H} {P : Program} {w : World} {base : Nat} {spare : Nat → Bool} {held : Bool} {t : TypeId} {fs : Array Field} {fuel : Nat} {cs : List Value} {x : DataW H × List MemPlace} (ht : P.underlying t = some (.struct fs)) (h : DataW.trod enc P w base spare held fuel t cs = some x)
    (i : Nat) (T o m : Nat) (hf : (fs[i]?).map (fun f => (f.type, f.offset, P.cellsOf f.type)) = some (T, o, m)) : ∃ n y, DataW.trod enc P w base spare held n T ((cs.drop o).take m) = some y ∧ ∀ k ∈ y.1.weights P T, k ∈ x.1.weights P t := by
  obtain ⟨xs, n, _, rfl, _, hlen, hfs⟩ := DataW.trod_struct ht h
  obtain ⟨f, hf1, hf2⟩ := Option.map_eq_some_iff.1 hf
  cases hf2
  have hi : i < fs.size := (Array.getElem?_eq_some_iff.1 hf1).1
  refine ⟨n, xs[i]'(by omega), ?_, fun k hk => ?_⟩
  · rw [hfs i f hf1, List.getElem?_eq_getElem (by omega)]
  · simp only [DataW.weights, ht]
    exact DataW.weights_mem_each (j := i) (t := f.type) (by rw [List.getElem?_map, Array.getElem?_toList, hf1]; rfl) (by rw [List.getElem?_map, List.getElem?_eq_getElem (show i < xs.length by omega)]; rfl) k hk
theorem cellsStepV : Tryz.prog.cellsOf 48 = 23 := by kernel_rfl
set_option maxRecDepth 100000 in
theorem open_step {H : Type} {enc : TypeId × Value → H} {w : World} {r : Reach} {b0 base : Nat} {spare : Nat → Bool} {held : Bool} {v : Value} {d : DataW H} {ps : List MemPlace}
    (hv : Value.okWide Tryz.prog w r b0 48 v) (h : DataW.Trod enc Tryz.prog w base spare held 48 v d ps) (hw : ∀ k ∈ d.weights Tryz.prog 48, k ≤ reachBytes) : ∃ x : StepV, v = x.val ∧ x.small := by
  obtain ⟨cs, rfl, hsz⟩ := okWide_struct Tryz.underlying48 hv
  obtain ⟨l⟩ := cs
  have hl : l.length = 23 := hsz.trans cellsStepV
  obtain ⟨fuel, hf⟩ := h
  have hf : DataW.trod enc Tryz.prog w base spare held fuel 48 l = some (d, ps) := hf
  match l, hl with
  | [v0, v1, v2, v3, v4, v5, v6, v7, v8, v9, v10, v11, v12, v13, v14, v15, v16, v17, v18, v19, v20, v21, v22], _ =>
    obtain ⟨_, _, h0, m0⟩ := trod_field Tryz.underlying48 hf 0 3 0 1 (by kernel_rfl)
    simp only [List.drop_zero, List.drop_succ_cons, List.take_succ_cons, List.take_zero] at h0
    obtain ⟨d, e0, -⟩ := DataW.trod_int Tryz.underlying3 h0
    obtain ⟨_, _, h1, m1⟩ := trod_field Tryz.underlying48 hf 1 41 1 1 (by kernel_rfl)
    simp only [List.drop_zero, List.drop_succ_cons, List.take_succ_cons, List.take_zero] at h1
    obtain ⟨p, e1, -⟩ := DataW.trod_int Tryz.underlying41 h1
    obtain ⟨_, _, h2, m2⟩ := trod_field Tryz.underlying48 hf 2 9 2 1 (by kernel_rfl)
    simp only [List.drop_zero, List.drop_succ_cons, List.take_succ_cons, List.take_zero] at h2
    obtain ⟨name, e2, y2, -⟩ := DataW.trod_string Tryz.underlying9 h2
    obtain ⟨_, _, h3, m3⟩ := trod_field Tryz.underlying48 hf 3 9 3 1 (by kernel_rfl)
    simp only [List.drop_zero, List.drop_succ_cons, List.take_succ_cons, List.take_zero] at h3
    obtain ⟨who, e3, y3, -⟩ := DataW.trod_string Tryz.underlying9 h3
    obtain ⟨_, _, h4, m4⟩ := trod_field Tryz.underlying48 hf 4 29 4 1 (by kernel_rfl)
    simp only [List.drop_zero, List.drop_succ_cons, List.take_succ_cons, List.take_zero] at h4
    obtain ⟨perm, e4, -⟩ := DataW.trod_int Tryz.underlying29 h4
    obtain ⟨_, _, h5, m5⟩ := trod_field Tryz.underlying48 hf 5 5 5 1 (by kernel_rfl)
    simp only [List.drop_zero, List.drop_succ_cons, List.take_succ_cons, List.take_zero] at h5
    obtain ⟨mode, e5, -⟩ := DataW.trod_int Tryz.underlying5 h5
    obtain ⟨_, _, h6, m6⟩ := trod_field Tryz.underlying48 hf 6 29 6 1 (by kernel_rfl)
    simp only [List.drop_zero, List.drop_succ_cons, List.take_succ_cons, List.take_zero] at h6
    obtain ⟨now, e6, -⟩ := DataW.trod_int Tryz.underlying29 h6
    obtain ⟨_, _, h7, m7⟩ := trod_field Tryz.underlying48 hf 7 41 7 1 (by kernel_rfl)
    simp only [List.drop_zero, List.drop_succ_cons, List.take_succ_cons, List.take_zero] at h7
    obtain ⟨off, e7, -⟩ := DataW.trod_int Tryz.underlying41 h7
    obtain ⟨_, _, h8, m8⟩ := trod_field Tryz.underlying48 hf 8 29 8 1 (by kernel_rfl)
    simp only [List.drop_zero, List.drop_succ_cons, List.take_succ_cons, List.take_zero] at h8
    obtain ⟨cnt, e8, -⟩ := DataW.trod_int Tryz.underlying29 h8
    obtain ⟨_, _, h9, m9⟩ := trod_field Tryz.underlying48 hf 9 9 9 1 (by kernel_rfl)
    simp only [List.drop_zero, List.drop_succ_cons, List.take_succ_cons, List.take_zero] at h9
    obtain ⟨data, e9, y9, -⟩ := DataW.trod_string Tryz.underlying9 h9
    obtain ⟨_, _, hs, ms⟩ := trod_field Tryz.underlying48 hf 10 46 10 13 (by kernel_rfl)
    simp only [List.drop_zero, List.drop_succ_cons, List.take_succ_cons, List.take_zero, List.take_nil] at hs
    obtain ⟨_, _, h10, m10⟩ := trod_field Tryz.underlying46 hs 0 42 0 1 (by kernel_rfl)
    simp only [List.drop_zero, List.drop_succ_cons, List.take_succ_cons, List.take_zero] at h10
    obtain ⟨c0, e10, -⟩ := DataW.trod_int Tryz.underlying42 h10
    obtain ⟨_, _, h11, m11⟩ := trod_field Tryz.underlying46 hs 1 29 1 1 (by kernel_rfl)
    simp only [List.drop_zero, List.drop_succ_cons, List.take_succ_cons, List.take_zero] at h11
    obtain ⟨c1, e11, -⟩ := DataW.trod_int Tryz.underlying29 h11
    obtain ⟨_, _, hq, mq⟩ := trod_field Tryz.underlying46 hs 2 44 2 3 (by kernel_rfl)
    simp only [List.drop_zero, List.drop_succ_cons, List.take_succ_cons, List.take_zero, List.take_nil] at hq
    obtain ⟨_, _, h12, m12⟩ := trod_field Tryz.underlying44 hq 0 5 0 1 (by kernel_rfl)
    simp only [List.drop_zero, List.drop_succ_cons, List.take_succ_cons, List.take_zero] at h12
    obtain ⟨c2, e12, -⟩ := DataW.trod_int Tryz.underlying5 h12
    obtain ⟨_, _, h13, m13⟩ := trod_field Tryz.underlying44 hq 1 29 1 1 (by kernel_rfl)
    simp only [List.drop_zero, List.drop_succ_cons, List.take_succ_cons, List.take_zero] at h13
    obtain ⟨c3, e13, -⟩ := DataW.trod_int Tryz.underlying29 h13
    obtain ⟨_, _, h14, m14⟩ := trod_field Tryz.underlying44 hq 2 41 2 1 (by kernel_rfl)
    simp only [List.drop_zero, List.drop_succ_cons, List.take_succ_cons, List.take_zero] at h14
    obtain ⟨c4, e14, -⟩ := DataW.trod_int Tryz.underlying41 h14
    obtain ⟨_, _, h15, m15⟩ := trod_field Tryz.underlying46 hs 3 29 5 1 (by kernel_rfl)
    simp only [List.drop_zero, List.drop_succ_cons, List.take_succ_cons, List.take_zero] at h15
    obtain ⟨c5, e15, -⟩ := DataW.trod_int Tryz.underlying29 h15
    obtain ⟨_, _, h16, m16⟩ := trod_field Tryz.underlying46 hs 4 29 6 1 (by kernel_rfl)
    simp only [List.drop_zero, List.drop_succ_cons, List.take_succ_cons, List.take_zero] at h16
    obtain ⟨c6, e16, -⟩ := DataW.trod_int Tryz.underlying29 h16
    obtain ⟨_, _, h17, m17⟩ := trod_field Tryz.underlying46 hs 5 29 7 1 (by kernel_rfl)
    simp only [List.drop_zero, List.drop_succ_cons, List.take_succ_cons, List.take_zero] at h17
    obtain ⟨c7, e17, -⟩ := DataW.trod_int Tryz.underlying29 h17
    obtain ⟨_, _, h18, m18⟩ := trod_field Tryz.underlying46 hs 6 41 8 1 (by kernel_rfl)
    simp only [List.drop_zero, List.drop_succ_cons, List.take_succ_cons, List.take_zero] at h18
    obtain ⟨c8, e18, -⟩ := DataW.trod_int Tryz.underlying41 h18
    obtain ⟨_, _, h19, m19⟩ := trod_field Tryz.underlying46 hs 7 9 9 1 (by kernel_rfl)
    simp only [List.drop_zero, List.drop_succ_cons, List.take_succ_cons, List.take_zero] at h19
    obtain ⟨s0, e19, y19, -⟩ := DataW.trod_string Tryz.underlying9 h19
    obtain ⟨_, _, h20, m20⟩ := trod_field Tryz.underlying46 hs 8 9 10 1 (by kernel_rfl)
    simp only [List.drop_zero, List.drop_succ_cons, List.take_succ_cons, List.take_zero] at h20
    obtain ⟨s1, e20, y20, -⟩ := DataW.trod_string Tryz.underlying9 h20
    obtain ⟨_, _, h21, m21⟩ := trod_field Tryz.underlying46 hs 9 9 11 1 (by kernel_rfl)
    simp only [List.drop_zero, List.drop_succ_cons, List.take_succ_cons, List.take_zero] at h21
    obtain ⟨s2, e21, y21, -⟩ := DataW.trod_string Tryz.underlying9 h21
    obtain ⟨_, _, h22, m22⟩ := trod_field Tryz.underlying46 hs 10 9 12 1 (by kernel_rfl)
    simp only [List.drop_zero, List.drop_succ_cons, List.take_succ_cons, List.take_zero] at h22
    obtain ⟨s3, e22, y22, -⟩ := DataW.trod_string Tryz.underlying9 h22
    simp only [List.cons.injEq, and_true] at e0 e1 e2 e3 e4 e5 e6 e7 e8 e9 e10 e11 e12 e13 e14 e15 e16 e17 e18 e19 e20 e21 e22
    subst e0 e1 e2 e3 e4 e5 e6 e7 e8 e9 e10 e11 e12 e13 e14 e15 e16 e17 e18 e19 e20 e21 e22
    have z2 : name.data.toList.length ≤ reachBytes := hw _ (m2 _ (by rw [y2]; simp [DataW.weights]))
    have z3 : who.data.toList.length ≤ reachBytes := hw _ (m3 _ (by rw [y3]; simp [DataW.weights]))
    have z9 : data.data.toList.length ≤ reachBytes := hw _ (m9 _ (by rw [y9]; simp [DataW.weights]))
    have z19 : s0.data.toList.length ≤ reachBytes := hw _ (ms _ (m19 _ (by rw [y19]; simp [DataW.weights])))
    have z20 : s1.data.toList.length ≤ reachBytes := hw _ (ms _ (m20 _ (by rw [y20]; simp [DataW.weights])))
    have z21 : s2.data.toList.length ≤ reachBytes := hw _ (ms _ (m21 _ (by rw [y21]; simp [DataW.weights])))
    have z22 : s3.data.toList.length ≤ reachBytes := hw _ (ms _ (m22 _ (by rw [y22]; simp [DataW.weights])))
    exact ⟨⟨d, p, name, who, perm, mode, now, off, cnt, data, c0, c1, c2, c3, c4, c5, c6, c7, c8, s0, s1, s2, s3⟩, rfl, by have := z2; simpa [reachBytes] using this, by have := z3; simpa [reachBytes] using this, by have := z9; simpa [reachBytes] using this, by have := z19; simpa [reachBytes] using this, by have := z20; simpa [reachBytes] using this, by have := z21; simpa [reachBytes] using this, by have := z22; simpa [reachBytes] using this⟩
end Go.Proofs.YtppgeljlmckimaaGreatDoor
