/-
  The known files at hand: Stat, asked for the first time, and again.
-/
import Derived.Test.YtppgeljlmckimaaDoorLVfs2
import Derived.Test.YtppgeljlmckimaaDoorLVfs3
namespace Go.Proofs.YtppgeljlmckimaaDoor
open Go.RowKit

def rootHead : List Value := [.int .u16 0, .int .u32 0, .int .u8 128, .int .u32 0, .int .u64 1, .int .u32 2147484141, .int .u32 0, .int .u32 0, .int .u64 0, .string ⟨#[47]⟩, .string ⟨#[97, 110, 110]⟩, .string ⟨#[97, 110, 110]⟩, .string ⟨#[97, 110, 110]⟩, .int .u64 1]
def statZ : List Value := [.int .u16 0, .int .u32 0, .int .u8 0, .int .u32 0, .int .u64 0, .int .u32 0, .int .u32 0, .int .u32 0, .int .u64 0, .string ⟨#[]⟩, .string ⟨#[]⟩, .string ⟨#[]⟩, .string ⟨#[]⟩]
def statA : List Value := [.int .u16 0, .int .u32 0, .int .u8 128, .int .u32 0, .int .u64 1, .int .u32 2147484141, .int .u32 0, .int .u32 0, .int .u64 0, .string ⟨#[47]⟩, .string ⟨#[97, 110, 110]⟩, .string ⟨#[97, 110, 110]⟩, .string ⟨#[97, 110, 110]⟩]
theorem zeroEntP (w : World) : (zeroValue 94).run Tryd.prog w = .ok (.pointer none) w := by kernel_rfl
set_option maxRecDepth 100000 in
set_option maxHeartbeats 1600000 in
theorem stat_miss (w : World) (v r am km tb bm nb : Nat) (V : At w v 99 (vfsCells tb r am km 0 0)) (R : Ent w r noHead (ptr r) (ptr r)) (M : IMap w KU.f am []) (T : Root w tb bm nb)
    (h1 : v ≠ r) (h2 : v ≠ am) (h3 : r ≠ am) (h4 : tb ≠ v) (h5 : bm ≠ v) (h6 : nb ≠ v) (h7 : tb ≠ r) :
    Calls Tryd.prog 20 #[.pointer (some ⟨v, 0, none⟩), .int .u64 1] w fun e w' => e = .returned (.tuple #[rootStat, .int .i64 0]) ∧ ∃ n, w.heap.size ≤ n ∧ At w' v 99 (vfsCells tb r am km 0 1) ∧
      Ent w' r noHead (ptr n) (ptr n) ∧ Ent w' n rootHead (ptr r) (ptr r) ∧ IMap w' KU.f am [(1, ptr n)] ∧ Touch [v, r, am] w w' := by
  have V1 := V.alloc (.cells #[.int .u16 0, .int .u32 0, .int .u8 0, .int .u32 0, .int .u64 0, .int .u32 0, .int .u32 0, .int .u32 0, .int .u64 0, .string ⟨#[]⟩, .string ⟨#[]⟩, .string ⟨#[]⟩, .string ⟨#[]⟩] 61)
  have M1 := M.alloc (.cells #[.int .u16 0, .int .u32 0, .int .u8 0, .int .u32 0, .int .u64 0, .int .u32 0, .int .u32 0, .int .u32 0, .int .u64 0, .string ⟨#[]⟩, .string ⟨#[]⟩, .string ⟨#[]⟩, .string ⟨#[]⟩] 61)
  have c0 := V.cell 0
  have c1 := V.cell 1
  have c2 := V.cell 2
  have c3 := V.cell 3
  have c5 := V.cell 5
  have c6 := V.cell 6
  simp [vfsCells] at c0 c1 c2 c3 c5 c6
  have fv := fun o => V.frozen o
  have lv := V.lt
  have HV := Lib.hid V
  have HR := Lib.hid R
  have HM := Lib.hid M
  have HT := Lib.hid T
  have HV1 := Lib.hid V1
  have HM1 := Lib.hid M1
  clear V R M T V1 M1
  go_enter Tryd.func20, Tryd.ntmps20
  go_wp2_with (at_lookup; refine wpList_lookup_imap KU rfl _ _ true rfl Tryd.mapE (zeroEntP _) rfl HM1.out 1 rfl ?_; simp only [atKey, List.find?_nil, Option.map_none, Option.getD_none, Option.isSome_none, if_true])
  have tA : Touch [v] w ((w.setCell ⟨v, 6, none⟩ (.int .i64 1)).alloc (.cells (statZ).toArray 61)) := ((Touch.refl [v] w).setCell ⟨v, 6, none⟩ (by simp) _).alloc _
  have VA : At ((w.setCell ⟨v, 6, none⟩ (.int .i64 1)).alloc (.cells (statZ).toArray 61)) v 99 (vfsCells tb r am km 0 1) := (HV.out.set 6 (.int .i64 1)).alloc _
  have ZA := At.new (w.setCell ⟨v, 6, none⟩ (.int .i64 1)) 61 statZ
  refine (stat_root _ tb bm nb (HT.out.touch tA (by simpa using h4) (by simpa using h5) (by simpa using h6))).mono ?_
  rintro e w1 ⟨rfl, t1⟩
  have V1 := VA.touch t1 (by simp)
  have Z1 := ZA.touch t1 (by simp)
  simp only [World.size_setCell] at Z1
  have tB := tA.trans' (t1.mono (l' := [v]) (by simp))
  have R1 := HR.out.touch tB (by simpa using h1.symm)
  have M1 := HM.out.touch tB (by simpa using h2.symm)
  obtain ⟨z, hz⟩ : ∃ z, w.heap.size = z := ⟨_, rfl⟩
  have lz : w.heap.size + 1 ≤ w1.heap.size := by have := t1.size; simpa using this
  rw [hz] at Z1 lz ⊢
  clear c0 c1 c2 c3 c5 c6 fv tA VA ZA t1
  have c1 := V1.cell 1
  have c2 := V1.cell 2
  have c3 := V1.cell 3
  simp [vfsCells] at c1 c2 c3
  have fv := fun o => V1.frozen o
  have lv1 := V1.lt
  have HZ := Lib.hid Z1
  have HTB := Lib.hid tB
  have HVB := Lib.hid V1
  have HRB := Lib.hid R1
  have HMB := Lib.hid M1
  have HZZ := Lib.hid hz
  clear Z1 tB V1 R1 M1 hz
  have HM2 := Lib.hid ((HMB.out.alloc (.cells statA.toArray 61)).alloc (.cells (ent rootHead (.pointer none) (.pointer none)).toArray 96))
  have HT2 := Lib.hid (((Touch.refl [] w1).alloc (.cells statA.toArray 61)).alloc (.cells (ent rootHead (.pointer none) (.pointer none)).toArray 96))
  have HA2 := Lib.hid ((At.new w1 61 statA).alloc (.cells (ent rootHead (.pointer none) (.pointer none)).toArray 96))
  have HN2 := Lib.hid (At.new (w1.alloc (.cells statA.toArray 61)) 96 (ent rootHead (.pointer none) (.pointer none)))
  unfold rootStat
  go_wp2_with (at_mapUpdate; refine wpList_update_imap KU rfl _ _ _ rfl Tryd.mapE rfl HM2.out 1 rfl (.pointer (some ⟨w1.heap.size + 1, 0, none⟩)) rfl ?_; intro w2 hm2 t2)
  have t12 : Touch [am] w1 w2 := (HT2.out.mono (l' := [am]) (by simp)).trans t2 (by simp)
  have N2 : Ent w2 (w1.heap.size + 1) rootHead (.pointer none) (.pointer none) := ⟨by have := HN2.out.touch t2 (by have := HMB.out.lt; simp; omega); simpa only [World.size_alloc] using this, rfl⟩
  have A2 := HA2.out.touch t2 (by have := HMB.out.lt; simp; omega)
  have V2 := HVB.out.touch t12 (by simpa using h2)
  have R2 := HRB.out.touch t12 (by simpa using h3)
  have Z2 := HZ.out.touch t12 (by have := HMB.out.lt; have := HM.out.lt; have := HZZ.out; simp; omega)
  have lr := HR.out.at_.lt
  have hz := HZZ.out
  refine (front_alone w2 v r (w1.heap.size + 1) _ _ _ _ _ R2 N2 (by have := V2.cell 2; simpa [vfsCells, ptr] using this) (by omega) (by omega) h1).mono ?_
  rintro e w3 ⟨rfl, R3, N3, t3⟩
  have V3 := V2.touch t3 (by simp; omega)
  have M3 := hm2.touch t3 (by have := HM.out.lt; simp; omega)
  have A3 := A2.touch t3 (by simp; omega)
  have Z3 := Z2.touch t3 (by simp; omega)
  have t13 : Touch [v, r, am] w w3 := ((HTB.out.mono (l' := [v, r, am]) (by simp)).trans t12 (by simp)).trans t3 (by simp; omega)
  have HV3 := Lib.hid V3
  have HM3 := Lib.hid M3
  have HA3 := Lib.hid A3
  have HZ3 := Lib.hid Z3
  have HR3 := Lib.hid R3
  have HN3 := Lib.hid N3
  have HT3 := Lib.hid t13
  clear V3 M3 A3 Z3 R3 N3 t13 t3 V2 R2 N2 A2 Z2 t12 hm2 t2 HN2 HA2 HT2 HM2 c1 c2 c3 fv HTB HVB HRB HMB HZ HV1 HM1 HT
  go_wp2_with fail
  refine (trim_none w3 v r (w1.heap.size + 1) am _ 1 (by have := HV3.out.cell 1; simpa [vfsCells] using this) (by have := HV3.out.cell 2; simpa [vfsCells] using this) (by have := HV3.out.cell 3; simpa [vfsCells] using this) HM3.out (by simp [putKey, keyAt]) _ _ _ _ _ HR3.out HN3.out (by omega)).mono ?_
  rintro e w4 ⟨rfl, t4⟩
  have lam := HM.out.lt
  have fin : ∀ wx, Touch [z] w4 wx → ∃ n, w.heap.size ≤ n ∧ At wx v 99 (vfsCells tb r am km 0 1) ∧ Ent wx r noHead (ptr n) (ptr n) ∧ Ent wx n rootHead (ptr r) (ptr r) ∧ IMap wx KU.f am [(1, ptr n)] ∧ Touch [v, r, am] w wx := fun wx tx => by
    have t4x : Touch [z] w3 wx := (t4.mono (by simp)).trans' tx
    refine ⟨w1.heap.size + 1, by omega, HV3.out.touch t4x (by simp; omega), HR3.out.touch t4x (by simp; omega), HN3.out.touch t4x (by simp; omega), ?_, HT3.out.trans t4x (by simp; omega)⟩
    have := HM3.out.touch t4x (by simp; omega)
    simpa [putKey, keyAt, ptr] using this
  have A4 := HA3.out.touch t4 (by simp)
  have Z4 := HZ3.out.touch t4 (by simp)
  have e0 := A4.cell 0
  have e1 := A4.cell 1
  have e2 := A4.cell 2
  have e3 := A4.cell 3
  have e4 := A4.cell 4
  have e5 := A4.cell 5
  have e6 := A4.cell 6
  have e7 := A4.cell 7
  have e8 := A4.cell 8
  have e9 := A4.cell 9
  have e10 := A4.cell 10
  have e11 := A4.cell 11
  have e12 := A4.cell 12
  simp [statA] at e0 e1 e2 e3 e4 e5 e6 e7 e8 e9 e10 e11 e12
  have z0 := Z4.cell 0
  have z1 := Z4.cell 1
  have z2 := Z4.cell 2
  have z3 := Z4.cell 3
  have z4 := Z4.cell 4
  have z5 := Z4.cell 5
  have z6 := Z4.cell 6
  have z7 := Z4.cell 7
  have z8 := Z4.cell 8
  have z9 := Z4.cell 9
  have z10 := Z4.cell 10
  have z11 := Z4.cell 11
  have z12 := Z4.cell 12
  simp [statZ] at z0 z1 z2 z3 z4 z5 z6 z7 z8 z9 z10 z11 z12
  have fz := fun o => Z4.frozen o
  have fa := fun o => A4.frozen o
  have lz4 := Z4.lt
  have HF := Lib.hid fin
  clear A4 Z4 fin t4 HV3 HM3 HA3 HZ3 HR3 HN3 HT3
  go_wp2_with fail
  refine bodyPost_ret (v := .tuple #[rootStat, .int .i64 0]) ?_ rfl ⟨rfl, HF.out _ ?_⟩
  · simp [results, Tryd.results20, go_sem, rootStat, z0, z1, z2, z3, z4, z5, z6, z7, z8, z9, z10, z11, z12]
  · repeat (refine Touch.setCell ?_ _ (Or.inl (by simp)) _)
    exact Touch.refl _ _
end Go.Proofs.YtppgeljlmckimaaDoor
