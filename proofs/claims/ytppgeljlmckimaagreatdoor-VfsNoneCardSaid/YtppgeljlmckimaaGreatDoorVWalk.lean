/-
  VfsNone: the walk.
-/
import Derived.Test.YtppgeljlmckimaaGreatDoorVHeavy
namespace Go.Proofs.YtppgeljlmckimaaGreatDoor.VfsNone
open Go.RowKit

theorem infoStep : (Tryz.prog.info? 48).map (fun i => (i.zero.isSome, i.size)) = some (true, 23) := by kernel_rfl
theorem wpList_buildSlice_one {P : Program} {ops : Array Oper} {rest : List Oper} {o : Oper} {a : Act} {w : World} {Q : Exit → Act → World → Prop} (hg : o.guard = none) (t e : TypeId) (y : Operand) (ho : o.op = .buildSlice t 1 #[(0, y)])
    (cells : Array Value) (n : Nat) (hu : P.underlying t = some (.slice e)) (hi : (P.info? e).map (fun i => (i.zero.isSome, i.size)) = some (true, n)) (hn : cells.size = n) (h0 : 0 < n) (h1 : n ≤ 2 ^ 24) (hy : a.eval y = .agg cells)
    (h : wpList P ops Q rest (a.put o.dst (.slice (some ⟨w.heap.size, 0, none⟩) 1 1)) (w.alloc (.cells cells e))) : wpList P ops Q (o :: rest) a w := by
  obtain ⟨ie, hie, hie2⟩ := Option.map_eq_some_iff.1 hi
  simp only [Prod.mk.injEq] at hie2
  obtain ⟨hz0, hsz⟩ := hie2
  obtain ⟨z, hz⟩ := Option.isSome_iff_exists.1 hz0
  refine wpList_buildSlice hg t e 1 _ ho cells ie z hu hie hz (by rw [hsz]; omega) (by rw [hsz]; omega) ?_ h
  have := Great.fill_whole (s := n) h0 [.agg cells] ((Array.range (1 * n)).map (z.cells[· % z.cells.size]!)) (by intro v hv; simp at hv; subst hv; exact hn) (by simp)
  rw [hsz]
  simpa [Value.cells, hy] using this

set_option maxRecDepth 100000 in
set_option maxHeartbeats 6400000 in
theorem walkN (x : StepV) (hs : x.small) (w : World) : Calls Tryz.prog 4 #[.agg x.cells.toArray] w fun e w' => e = .returned (.bool true) ∧ Touch [] w w' := by
  have h23 : 0 < 23 := by decide
  have h24 : 23 ≤ 2 ^ 24 := by decide
  go_enter Tryz.func4, Tryz.ntmps4
  go_wp2_with (first | (refine wpList_load_row rfl 48 (.tmp 1) rfl w.heap.size rfl 48 x.cells.toArray (0, 0) _ (heap_alloc_new w _) Tryz.underlying48 rfl (by kernel_rfl) ?_) | (refine wpList_buildSlice_one rfl 22 48 (.tmp 34) rfl x.cells.toArray 23 Tryz.underlying22 infoStep rfl h23 h24 rfl ?_))
  have A0 := (At.new w 48 x.cells)
  have B0 := At.new (w.alloc (.cells x.cells.toArray 48)) 48 x.cells
  simp only [World.size_alloc] at B0
  refine (heavy_one _ _ _ B0 hs).mono ?_
  rintro e w0 ⟨hv, rfl, t0⟩
  have T0 : Touch [] w w0 := Touch.trans' (((Touch.refl [] w).alloc _).alloc _) t0
  have C0 := (A0.alloc _).touch t0 (by simp)
  obtain ⟨sb, hsb⟩ : ∃ sb, w.heap.size = sb := ⟨_, rfl⟩
  rw [hsb] at C0 ⊢
  clear A0 B0 t0 hsb h23 h24
  have HT0 := Lib.hid T0
  have HC0 := Lib.hid C0
  clear T0 C0
  cases hv with
  | true =>
    go_wp2_with fail
    refine (works_any _).mono ?_
    rintro e w1 ⟨rfl, t1⟩
    go_wp2_with fail
    go_ret
    exact ⟨rfl, HT0.out.trans' t1⟩
  | false =>
    have q1 := HC0.out.cell 1
    simp [StepV.cells] at q1
    have lsb := HC0.out.lt
    go_wp2_with fail
    refine (nil_stat _ _).mono ?_
    rintro e w1 ⟨rfl, t1⟩
    have T1 : Touch [] w0 w1 := Touch.trans' (by repeat (first | exact Touch.refl _ _ | refine Touch.alloc ?_ _ | refine Touch.drew ?_)) t1
    have HT1 := Lib.hid (HT0.out.trans' T1)
    have HC1 := Lib.hid (HC0.out.touch T1 (by simp))
    clear t1 T1 HT0 HC0 q1 lsb
    unfold statZ
    have q1 := HC1.out.cell 1
    have q2 := HC1.out.cell 2
    have q3 := HC1.out.cell 3
    simp [StepV.cells] at q1 q2 q3
    have lsb := HC1.out.lt
    go_wp2_with fail
    refine (nil_walk _ _ _ _).mono ?_
    rintro e w2 ⟨rfl, t2⟩
    have T2 : Touch [] w1 w2 := Touch.trans' (by repeat (first | exact Touch.refl _ _ | refine Touch.alloc ?_ _ | refine Touch.drew ?_)) t2
    have HT2 := Lib.hid (HT1.out.trans' T2)
    have HC2 := Lib.hid (HC1.out.touch T2 (by simp))
    clear t2 T2 HT1 HC1 q1 q2 q3 lsb
    unfold qidZ
    have q1 := HC2.out.cell 1
    have q5 := HC2.out.cell 5
    have q3 := HC2.out.cell 3
    have q6 := HC2.out.cell 6
    simp [StepV.cells] at q1 q5 q3 q6
    have lsb := HC2.out.lt
    go_wp2_with fail
    refine (nil_open _ _ _ _ _).mono ?_
    rintro e w3 ⟨rfl, t3⟩
    have T3 : Touch [] w2 w3 := Touch.trans' (by repeat (first | exact Touch.refl _ _ | refine Touch.alloc ?_ _ | refine Touch.drew ?_)) t3
    have HT3 := Lib.hid (HT2.out.trans' T3)
    have HC3 := Lib.hid (HC2.out.touch T3 (by simp))
    clear t3 T3 HT2 HC2 q1 q5 q3 q6 lsb
    unfold qidZ
    have q1 := HC3.out.cell 1
    have q2 := HC3.out.cell 2
    have q4 := HC3.out.cell 4
    have q5 := HC3.out.cell 5
    have q3 := HC3.out.cell 3
    have q6 := HC3.out.cell 6
    simp [StepV.cells] at q1 q2 q4 q5 q3 q6
    have lsb := HC3.out.lt
    go_wp2_with fail
    refine (nil_create _ _ _ _ _ _ _).mono ?_
    rintro e w4 ⟨rfl, t4⟩
    have T4 : Touch [] w3 w4 := Touch.trans' (by repeat (first | exact Touch.refl _ _ | refine Touch.alloc ?_ _ | refine Touch.drew ?_)) t4
    have HT4 := Lib.hid (HT3.out.trans' T4)
    have HC4 := Lib.hid (HC3.out.touch T4 (by simp))
    clear t4 T4 HT3 HC3 q1 q2 q4 q5 q3 q6 lsb
    unfold qidZ
    have q1 := HC4.out.cell 1
    have q7 := HC4.out.cell 7
    have q8 := HC4.out.cell 8
    simp [StepV.cells] at q1 q7 q8
    have lsb := HC4.out.lt
    go_wp2_with fail
    refine (nil_read _ _ _ _).mono ?_
    rintro e w5 ⟨rfl, t5⟩
    have T5 : Touch [] w4 w5 := Touch.trans' (by repeat (first | exact Touch.refl _ _ | refine Touch.alloc ?_ _ | refine Touch.drew ?_)) t5
    have HT5 := Lib.hid (HT4.out.trans' T5)
    have HC5 := Lib.hid (HC4.out.touch T5 (by simp))
    clear t5 T5 HT4 HC4 q1 q7 q8 lsb
    have q1 := HC5.out.cell 1
    simp [StepV.cells] at q1
    have lsb := HC5.out.lt
    go_wp2_with fail
    refine (nil_list _ _).mono ?_
    rintro e w6 ⟨rfl, t6⟩
    have T6 : Touch [] w5 w6 := Touch.trans' (by repeat (first | exact Touch.refl _ _ | refine Touch.alloc ?_ _ | refine Touch.drew ?_)) t6
    have HT6 := Lib.hid (HT5.out.trans' T6)
    have HC6 := Lib.hid (HC5.out.touch T6 (by simp))
    clear t6 T6 HT5 HC5 q1 lsb
    have q1 := HC6.out.cell 1
    have q7 := HC6.out.cell 7
    have q9 := HC6.out.cell 9
    have q3 := HC6.out.cell 3
    have q6 := HC6.out.cell 6
    simp [StepV.cells] at q1 q7 q9 q3 q6
    have lsb := HC6.out.lt
    go_wp2_with fail
    refine (nil_write _ _ _ _ _ _).mono ?_
    rintro e w7 ⟨rfl, t7⟩
    have T7 : Touch [] w6 w7 := Touch.trans' (by repeat (first | exact Touch.refl _ _ | refine Touch.alloc ?_ _ | refine Touch.drew ?_)) t7
    have HT7 := Lib.hid (HT6.out.trans' T7)
    have HC7 := Lib.hid (HC6.out.touch T7 (by simp))
    clear t7 T7 HT6 HC6 q1 q7 q9 q3 q6 lsb
    have q1 := HC7.out.cell 1
    simp [StepV.cells] at q1
    have lsb := HC7.out.lt
    go_wp2_with fail
    refine (nil_parent _ _).mono ?_
    rintro e w8 ⟨rfl, t8⟩
    have T8 : Touch [] w7 w8 := Touch.trans' (by repeat (first | exact Touch.refl _ _ | refine Touch.alloc ?_ _ | refine Touch.drew ?_)) t8
    have HT8 := Lib.hid (HT7.out.trans' T8)
    have HC8 := Lib.hid (HC7.out.touch T8 (by simp))
    clear t8 T8 HT7 HC7 q1 lsb
    go_wp2_with fail
    refine (nil_ask _ _).mono ?_
    rintro e w9 ⟨rfl, t9⟩
    have T9 : Touch [] w8 w9 := Touch.trans' (by repeat (first | exact Touch.refl _ _ | refine Touch.alloc ?_ _ | refine Touch.drew ?_)) t9
    have HT9 := Lib.hid (HT8.out.trans' T9)
    have HC9 := Lib.hid (HC8.out.touch T9 (by simp))
    clear t9 T9 HT8 HC8
    go_wp2_with fail
    refine (nil_let _ _).mono ?_
    rintro e w10 ⟨rfl, t10⟩
    have T10 : Touch [] w9 w10 := Touch.trans' (by repeat (first | exact Touch.refl _ _ | refine Touch.alloc ?_ _ | refine Touch.drew ?_)) t10
    have HT10 := Lib.hid (HT9.out.trans' T10)
    have HC10 := Lib.hid (HC9.out.touch T10 (by simp))
    clear t10 T10 HT9 HC9
    go_wp2_with fail
    refine (nil_new _).mono ?_
    rintro e w11 ⟨rfl, t11⟩
    have T11 : Touch [] w10 w11 := Touch.trans' (by repeat (first | exact Touch.refl _ _ | refine Touch.alloc ?_ _ | refine Touch.drew ?_)) t11
    have HT11 := Lib.hid (HT10.out.trans' T11)
    have HC11 := Lib.hid (HC10.out.touch T11 (by simp))
    clear t11 T11 HT10 HC10
    go_wp2_with fail
    refine (nil_hits _).mono ?_
    rintro e w12 ⟨rfl, t12⟩
    have T12 : Touch [] w11 w12 := Touch.trans' (by repeat (first | exact Touch.refl _ _ | refine Touch.alloc ?_ _ | refine Touch.drew ?_)) t12
    have HT12 := Lib.hid (HT11.out.trans' T12)
    have HC12 := Lib.hid (HC11.out.touch T12 (by simp))
    clear t12 T12 HT11 HC11
    go_wp2_with fail
    refine (nil_waits _ _).mono ?_
    rintro e w13 ⟨rfl, t13⟩
    have T13 : Touch [] w12 w13 := Touch.trans' (by repeat (first | exact Touch.refl _ _ | refine Touch.alloc ?_ _ | refine Touch.drew ?_)) t13
    have HT13 := Lib.hid (HT12.out.trans' T13)
    have HC13 := Lib.hid (HC12.out.touch T13 (by simp))
    clear t13 T13 HT12 HC12
    go_wp2_with fail
    refine (nil_holder _ _).mono ?_
    rintro e w14 ⟨rfl, t14⟩
    have T14 : Touch [] w13 w14 := Touch.trans' (by repeat (first | exact Touch.refl _ _ | refine Touch.alloc ?_ _ | refine Touch.drew ?_)) t14
    have HT14 := Lib.hid (HT13.out.trans' T14)
    have HC14 := Lib.hid (HC13.out.touch T14 (by simp))
    clear t14 T14 HT13 HC13
    have q1 := HC14.out.cell 1
    have q3 := HC14.out.cell 3
    have q6 := HC14.out.cell 6
    simp [StepV.cells] at q1 q3 q6
    have lsb := HC14.out.lt
    go_wp2_with fail
    refine (nil_remove _ _ _ _).mono ?_
    rintro e w15 ⟨rfl, t15⟩
    have T15 : Touch [] w14 w15 := Touch.trans' (by repeat (first | exact Touch.refl _ _ | refine Touch.alloc ?_ _ | refine Touch.drew ?_)) t15
    have HT15 := Lib.hid (HT14.out.trans' T15)
    have HC15 := Lib.hid (HC14.out.touch T15 (by simp))
    clear t15 T15 HT14 HC14 q1 q3 q6 lsb
    have q1 := HC15.out.cell 1
    have q3 := HC15.out.cell 3
    have q6 := HC15.out.cell 6
    have q10 := HC15.out.cell 10
    have q11 := HC15.out.cell 11
    have q12 := HC15.out.cell 12
    have q13 := HC15.out.cell 13
    have q14 := HC15.out.cell 14
    have q15 := HC15.out.cell 15
    have q16 := HC15.out.cell 16
    have q17 := HC15.out.cell 17
    have q18 := HC15.out.cell 18
    have q19 := HC15.out.cell 19
    have q20 := HC15.out.cell 20
    have q21 := HC15.out.cell 21
    have q22 := HC15.out.cell 22
    simp [StepV.cells] at q1 q3 q6 q10 q11 q12 q13 q14 q15 q16 q17 q18 q19 q20 q21 q22
    have lsb := HC15.out.lt
    go_wp2_with fail
    refine (nil_wstat _ _ _ _ _ _ _ _ _ _ _ _ _ _ _ _ _).mono ?_
    rintro e w16 ⟨rfl, t16⟩
    have T16 : Touch [] w15 w16 := Touch.trans' (by repeat (first | exact Touch.refl _ _ | refine Touch.alloc ?_ _ | refine Touch.drew ?_)) t16
    have HT16 := Lib.hid (HT15.out.trans' T16)
    have HC16 := Lib.hid (HC15.out.touch T16 (by simp))
    clear t16 T16 HT15 HC15 q1 q3 q6 q10 q11 q12 q13 q14 q15 q16 q17 q18 q19 q20 q21 q22 lsb
    have q1 := HC16.out.cell 1
    simp [StepV.cells] at q1
    have lsb := HC16.out.lt
    go_wp2_with fail
    refine (nil_keep _ _).mono ?_
    rintro e w17 ⟨rfl, t17⟩
    have T17 : Touch [] w16 w17 := Touch.trans' (by repeat (first | exact Touch.refl _ _ | refine Touch.alloc ?_ _ | refine Touch.drew ?_)) t17
    have HT17 := Lib.hid (HT16.out.trans' T17)
    have HC17 := Lib.hid (HC16.out.touch T17 (by simp))
    clear t17 T17 HT16 HC16 q1 lsb
    have q1 := HC17.out.cell 1
    simp [StepV.cells] at q1
    have lsb := HC17.out.lt
    go_wp2_with fail
    refine (nil_vlet _ _).mono ?_
    rintro e w18 ⟨rfl, t18⟩
    have T18 : Touch [] w17 w18 := Touch.trans' (by repeat (first | exact Touch.refl _ _ | refine Touch.alloc ?_ _ | refine Touch.drew ?_)) t18
    have HT18 := Lib.hid (HT17.out.trans' T18)
    have HC18 := Lib.hid (HC17.out.touch T18 (by simp))
    clear t18 T18 HT17 HC17 q1 lsb
    go_wp2_with fail
    refine (nil_cached _).mono ?_
    rintro e w19 ⟨rfl, t19⟩
    have T19 : Touch [] w18 w19 := Touch.trans' (by repeat (first | exact Touch.refl _ _ | refine Touch.alloc ?_ _ | refine Touch.drew ?_)) t19
    have HT19 := Lib.hid (HT18.out.trans' T19)
    have HC19 := Lib.hid (HC18.out.touch T19 (by simp))
    clear t19 T19 HT18 HC18
    go_wp2_with fail
    refine (nil_has _ _).mono ?_
    rintro e w20 ⟨rfl, t20⟩
    have T20 : Touch [] w19 w20 := Touch.trans' (by repeat (first | exact Touch.refl _ _ | refine Touch.alloc ?_ _ | refine Touch.drew ?_)) t20
    have HT20 := Lib.hid (HT19.out.trans' T20)
    have HC20 := Lib.hid (HC19.out.touch T20 (by simp))
    clear t20 T20 HT19 HC19
    go_wp2_with fail
    refine (nil_all _).mono ?_
    rintro e w21 ⟨rfl, t21⟩
    have T21 : Touch [] w20 w21 := Touch.trans' (by repeat (first | exact Touch.refl _ _ | refine Touch.alloc ?_ _ | refine Touch.drew ?_)) t21
    have HT21 := Lib.hid (HT20.out.trans' T21)
    have HC21 := Lib.hid (HC20.out.touch T21 (by simp))
    clear t21 T21 HT20 HC20
    go_wp2_with fail
    refine (works_any _).mono ?_
    rintro e wz ⟨rfl, tz⟩
    have Tz : Touch [] w21 wz := Touch.trans' (by repeat (first | exact Touch.refl _ _ | refine Touch.alloc ?_ _ | refine Touch.drew ?_)) tz
    have HTz := Lib.hid (HT21.out.trans' Tz)
    clear tz Tz
    go_wp2_with fail
    go_ret
    exact ⟨rfl, HTz.out⟩
theorem walk (x : StepV) (w : World) (hs : x.small) : Calls Tryz.prog 4 #[x.val] w fun e w' => e = .returned (.bool true) ∧ Below w.heap.size w w' :=
  (walkN x hs w).mono fun e w' ⟨he, t⟩ => ⟨he, t.toBelow (Nat.le_refl _) (by simp)⟩
end Go.Proofs.YtppgeljlmckimaaGreatDoor.VfsNone
