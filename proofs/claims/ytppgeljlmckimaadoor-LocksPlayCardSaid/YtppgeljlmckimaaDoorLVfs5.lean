/-
  The known files at hand: Stat of what is at hand.
-/
import Derived.Test.YtppgeljlmckimaaDoorLVfs4
namespace Go.Proofs.YtppgeljlmckimaaDoor
open Go.RowKit

set_option maxRecDepth 100000 in
set_option maxHeartbeats 1600000 in
theorem stat_hit (w : World) (v r n am km tb : Nat) (V : At w v 99 (vfsCells tb r am km 0 1)) (R : Ent w r noHead (ptr n) (ptr n)) (N : Ent w n rootHead (ptr r) (ptr r)) (M : IMap w KU.f am [(1, ptr n)])
    (h1 : v ≠ r) (h2 : v ≠ am) (h3 : r ≠ n) (h4 : v ≠ n) :
    Calls Tryd.prog 20 #[.pointer (some ⟨v, 0, none⟩), .int .u64 1] w fun e w' => e = .returned (.tuple #[rootStat, .int .i64 0]) ∧ At w' v 99 (vfsCells tb r am km 1 1) ∧ Touch [v, r, n] w w' := by
  have M1 := M.alloc (.cells statZ.toArray 61)
  have c3 := V.cell 3
  have c5 := V.cell 5
  simp [vfsCells] at c3 c5
  have fv := fun o => V.frozen o
  have lv := V.lt
  have hat : atKey [((1 : Int), ptr n)] 1 = some (.pointer (some ⟨n, 0, none⟩)) := rfl
  have HV := Lib.hid V
  have HR := Lib.hid R
  have HN := Lib.hid N
  have HM1 := Lib.hid M1
  clear V R M N M1
  go_enter Tryd.func20, Tryd.ntmps20
  go_wp2_with (at_lookup; refine wpList_lookup_imap KU rfl _ _ true rfl Tryd.mapE (zeroEntP _) rfl HM1.out 1 rfl ?_; simp only [hat, Option.getD_some, Option.isSome_some, if_true])
  have tA : Touch [v] w ((w.setCell ⟨v, 5, none⟩ (.int .i64 1)).alloc (.cells (statZ).toArray 61)) := ((Touch.refl [v] w).setCell ⟨v, 5, none⟩ (by simp) _).alloc _
  have VA : At ((w.setCell ⟨v, 5, none⟩ (.int .i64 1)).alloc (.cells (statZ).toArray 61)) v 99 (vfsCells tb r am km 1 1) := (HV.out.set 5 (.int .i64 1)).alloc _
  have ZA := At.new (w.setCell ⟨v, 5, none⟩ (.int .i64 1)) 61 statZ
  simp only [World.size_setCell] at ZA
  have lr := HR.out.at_.lt
  have ln := HN.out.at_.lt
  refine (out_alone _ r n _ _ _ _ (HR.out.touch tA (by simpa using h1.symm)) (HN.out.touch tA (by simpa using h4.symm)) h3).mono ?_
  rintro e w1 ⟨rfl, R1, t1⟩
  have N1 := (HN.out.touch tA (by simpa using h4.symm)).touch t1 (by simpa using h3.symm)
  have V1 := VA.touch t1 (by simpa using h1)
  have Z1 := ZA.touch t1 (by simp; omega)
  have tB : Touch [v, r, n] w w1 := (tA.mono (l' := [v, r, n]) (by simp)).trans t1 (by simp)
  have HTB := Lib.hid tB
  have HVB := Lib.hid V1
  have HRB := Lib.hid R1
  have HNB := Lib.hid N1
  have HZ := Lib.hid Z1
  clear c3 c5 fv tA VA ZA t1 tB V1 R1 N1 Z1 hat
  obtain ⟨z, hz⟩ : ∃ z, w.heap.size = z := ⟨_, rfl⟩
  rw [hz] at HZ lr ln lv ⊢
  have HZZ := Lib.hid hz
  clear hz
  go_wp2_with fail
  refine (front_alone w1 v r n _ _ _ _ _ HRB.out HNB.out (by have := HVB.out.cell 2; simpa [vfsCells, ptr] using this) h3 (by omega) h1).mono ?_
  rintro e w3 ⟨rfl, R3, N3, t3⟩
  have V3 := HVB.out.touch t3 (by simp; omega)
  have Z3 := HZ.out.touch t3 (by simp; omega)
  have t13 : Touch [v, r, n] w w3 := HTB.out.trans t3 (by simp)
  have fin : ∀ wx, Touch [z] w3 wx → At wx v 99 (vfsCells tb r am km 1 1) ∧ Touch [v, r, n] w wx := fun wx tx => by
    have := HZZ.out
    exact ⟨V3.touch tx (by simp; omega), t13.trans tx (by simp; omega)⟩
  have fixN : ∀ (W : World), Touch [z] w3 W → ∀ i, i < 13 → W.cell? ⟨n, i, none⟩ = rootHead[i]? := fun W tx i hi => by
    rw [(N3.touch tx (by simp; omega)).at_.cell i, ent, List.getElem?_append_left (by simp [rootHead]; omega)]
  have e0 := fixN w3 (Touch.refl _ _) 0 (by decide)
  have e1 := fixN w3 (Touch.refl _ _) 1 (by decide)
  have e2 := fixN w3 (Touch.refl _ _) 2 (by decide)
  have e3 := fixN w3 (Touch.refl _ _) 3 (by decide)
  have e4 := fixN w3 (Touch.refl _ _) 4 (by decide)
  have e5 := fixN w3 (Touch.refl _ _) 5 (by decide)
  have e6 := fixN w3 (Touch.refl _ _) 6 (by decide)
  have e7 := fixN w3 (Touch.refl _ _) 7 (by decide)
  have e8 := fixN w3 (Touch.refl _ _) 8 (by decide)
  have e9 := fixN w3 (Touch.refl _ _) 9 (by decide)
  have e10 := fixN w3 (Touch.refl _ _) 10 (by decide)
  have e11 := fixN w3 (Touch.refl _ _) 11 (by decide)
  have e12 := fixN w3 (Touch.refl _ _) 12 (by decide)
  simp [rootHead] at e0 e1 e2 e3 e4 e5 e6 e7 e8 e9 e10 e11 e12
  have z0 := Z3.cell 0
  have z1 := Z3.cell 1
  have z2 := Z3.cell 2
  have z3 := Z3.cell 3
  have z4 := Z3.cell 4
  have z5 := Z3.cell 5
  have z6 := Z3.cell 6
  have z7 := Z3.cell 7
  have z8 := Z3.cell 8
  have z9 := Z3.cell 9
  have z10 := Z3.cell 10
  have z11 := Z3.cell 11
  have z12 := Z3.cell 12
  simp [statZ] at z0 z1 z2 z3 z4 z5 z6 z7 z8 z9 z10 z11 z12
  have fz := fun o => Z3.frozen o
  have lz := Z3.lt
  have lrn := N3.at_.lt
  have HF := Lib.hid fin
  clear fin fixN V3 Z3 R3 N3 t13 t3 HV HR HN HM1 HTB HVB HRB HNB HZ
  go_wp2_with fail
  refine bodyPost_ret (v := .tuple #[rootStat, .int .i64 0]) ?_ rfl ⟨rfl, HF.out _ ?_⟩
  · simp [results, Tryd.results20, go_sem, rootStat, z0, z1, z2, z3, z4, z5, z6, z7, z8, z9, z10, z11, z12]
  · repeat (refine Touch.setCell ?_ _ (Or.inl (by simp)) _)
    exact Touch.refl _ _
end Go.Proofs.YtppgeljlmckimaaDoor
