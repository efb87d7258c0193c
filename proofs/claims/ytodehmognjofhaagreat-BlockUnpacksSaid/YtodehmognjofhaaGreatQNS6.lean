/-
  Seals: opened: the program's.
-/
import Derived.Test.YtodehmognjofhaaGreatQNSV
namespace Go.Proofs.YtodehmognjofhaaGreat
open Go.RowKit

set_option maxRecDepth 100000 in
set_option maxHeartbeats 3200000 in
theorem popen_any (w : World) (c m label x : ByteArray) (hk : mayK c m) (h40 : 40 ≤ x.size) (hx : x.size ≤ 1048616) (hlab : label.size ≤ 1048576) : Calls Tryz.prog 55 #[.agg #[.string c, .string m], .string label, .string x] w fun e w' =>
    e = .returned (.tuple #[.string (opS c m label x), .int .i64 (opC m label x)]) ∧ Touch [] w w' := by
  have CM := Lib.hid fun W => pkmay_any W c m
  rw [show mayC c m = 0 from if_pos hk] at CM
  obtain ⟨n, hn⟩ : ∃ n, n = x.size - 32 := ⟨_, rfl⟩
  have hds : (x.extract 0 n).size = n := by rw [ByteArray.size_extract]; omega
  have hts : (x.extract n x.size).size = 32 := by rw [ByteArray.size_extract]; omega
  have h8s : (x.extract 0 8).size = 8 := by rw [ByteArray.size_extract]; omega
  have CT := Lib.hid fun (W : World) (nb cp : Nat) (h1 : 8 ≤ cp) (h2 : ∀ j v, (bcells (bsOf (x.extract 0 8)))[j]? = some v → W.cell? ⟨nb, j, none⟩ = some v) (h3 : nb < W.heap.size) => pturned_any W c m (x.extract 8 n) (bsOf (x.extract 0 8)) nb cp hk.1 (by rw [bsOf_len, h8s]) (bsOf_bytes _) h1 (by rw [ByteArray.size_extract]; omega) h2 h3
  have hm := hk.2
  have CA := Lib.hid fun (W : World) (lb cap : Nat) (hL : At W lb 9 ([label, x.extract 0 n].map Value.string)) => pall_any W m lb cap [label, x.extract 0 n] (by omega) hL (by
    rw [List.map_cons, List.map_cons, List.map_nil, allF_two, bsOf_len, bsOf_len, hds]
    omega) (by simp) (by simp)
  simp only [List.map_cons, List.map_nil] at CA
  have HOB : Hid (openB m label x = decide (bytesOf (macF (bsOf m) (allF [bsOf label, bsOf (x.extract 0 n)])) = x.extract n x.size)) := Lib.hid (by unfold openB tagF; rw [← hn])
  have HOS : Hid (openS c x = bytesOf (encF (bsOf c) (bsOf (x.extract 0 8)) (bsOf (x.extract 8 n)))) := Lib.hid (by unfold openS; rw [← hn])
  have HTS : Hid ((bytesOf (macF (bsOf m) (allF [bsOf label, bsOf (x.extract 0 n)]))).size = 32) := Lib.hid (by rw [bytesOf_size, macF_len])
  generalize bytesOf (macF (bsOf m) (allF [bsOf label, bsOf (x.extract 0 n)])) = T at CA HOB HTS
  generalize bytesOf (encF (bsOf c) (bsOf (x.extract 0 8)) (bsOf (x.extract 8 n))) = O at CT HOS
  have CS := Lib.hid fun W => psame_any W T (x.extract n x.size) HTS.out hts
  rw [← HOB.out] at CS
  have imx : ¬ (1048616 : Int) < (x.size : Int) := by omega
  have jn : IntKind.i64.wrap ((x.size : Int) - 32) = (n : Int) := by rw [IntWalk.i64_in _ (by omega)]; omega
  have n0 : (0 : Int) ≤ (n : Int) := by omega
  have n1 : (n : Int) ≤ (x.size : Int) := by omega
  have n2 : n ≤ x.size := by omega
  have n8 : ¬ (n : Int) < 8 := by omega
  have n7 : (8 : Int) ≤ (n : Int) := by omega
  have x8 : (8 : Int) ≤ (x.size : Int) := by omega
  have HK := Lib.hid (At.new w 30 [.string c, .string m])
  generalize hd : x.extract 0 n = d at CA hds
  generalize ht : x.extract n x.size = t at CS hts HOB
  clear hn hm hk h40 hx hds hts HTS
  go_enter Tryz.func55, Tryz.ntmps55
  go_wp2_with fail
  refine (CM.out _).mono ?_
  rintro e w2 ⟨rfl, t2⟩
  have T2 := Lib.hid (((Touch.refl [] w).alloc (.cells #[.string c, .string m] 30)).trans' t2)
  have HK2 := Lib.hid (HK.out.touch t2 (by simp))
  clear t2 HK CM
  go_upto_region 7 with (fail)
  generalize hkb : w.heap.size = kb at HK2 ⊢
  clear hkb
  go_cut [27] (fun b wx => b = .bool (!(openB m label x)) ∧ Hid (Touch [] w wx) ∧ Hid (At wx kb 30 [.string c, .string m]))
  case first =>
    clear CT
    have c0 : w2.cell? ⟨kb, 1, none⟩ = some (.string m) := HK2.out.cell 1
    go_region_held3 (fun W => W.cell? ⟨kb, 1, none⟩ = some (.string m)) (first | assumption | go_keep) (first | (go_at_call 61; refine (CA.out _ _ _ (At.new w2 9 [.string label, .string d]).drew).mono ?_; rintro e w5 ⟨rfl, t5⟩; have HK5 := Lib.hid (((HK2.out.alloc (.cells #[.string label, .string d] 9)).drew).touch t5 (by simp)); have T5 := Lib.hid (((T2.out.alloc (.cells #[.string label, .string d] 9)).drew).trans' t5); clear t5; have hK5 : w5.cell? ⟨kb, 1, none⟩ = some (.string m) := HK5.out.cell 1) | (go_at_call 90; refine (CS.out _).mono ?_; rintro e w6 ⟨rfl, t6⟩; have HK6 := Lib.hid (HK5.out.touch t6 (by simp)); have T6 := Lib.hid (T5.out.trans' t6); clear t6; have hK6 : w6.cell? ⟨kb, 1, none⟩ = some (.string m) := HK6.out.cell 1))
    all_goals go_wp2_with fail
    all_goals (go_meet; exact ⟨rfl, T6, HK6⟩)
  case rest =>
    obtain ⟨rfl, T7, HK7⟩ := hcut
    clear T2 HK2 CA CS
    have c0 : wc.cell? ⟨kb, 0, none⟩ = some (.string c) := HK7.out.cell 0
    have c1 : wc.cell? ⟨kb, 1, none⟩ = some (.string m) := HK7.out.cell 1
    cases hob : openB m label x with
    | false =>
      have HR : Hid (opS c m label x = ⟨#[]⟩ ∧ opC m label x = 7) := Lib.hid ⟨by unfold opS; rw [hob]; rfl, by unfold opC; rw [hob]; rfl⟩
      go_wp2_with fail
      go_ret2
      exact ⟨by rw [HR.out.1, HR.out.2]; rfl, T7.out⟩
    | true =>
      have HR : Hid (opS c m label x = O ∧ opC m label x = 0) := Lib.hid ⟨by unfold opS; rw [hob, ← HOS.out]; rfl, by unfold opC; rw [hob]; rfl⟩
      have hcv := run_bytes_of_string (P := Tryz.prog) wc.drew 9 36 5 (x.extract 0 8) Tryz.underlying9 Tryz.underlying36 Tryz.underlying5
      have hcap := grownCap_ge wc.drew (x.extract 0 8).size 0 5
      have HRZ := Lib.hid (rowZ_bytes wc.drew (x.extract 0 8) (grownCap wc.drew (x.extract 0 8).size 0 5) 5 hcap)
      generalize bytesRow (x.extract 0 8) (grownCap wc.drew (x.extract 0 8).size 0 5) = row at hcv HRZ
      generalize grownCap wc.drew (x.extract 0 8).size 0 5 = cap at hcv hcap
      rw [h8s] at hcv hcap
      have HCAP := Lib.hid hcap
      generalize hy8 : x.extract 0 8 = y8 at hcv HRZ CT
      generalize hyr : x.extract 8 n = yr at CT
      clear hob HOB h8s hd ht hcap jn n8 imx
      have HLT : Hid (wc.heap.size < ((wc.alloc (.cells row 5 (row.size, row.size + 1))).drew.drew).heap.size) := Lib.hid (by simp only [World.size_drew, World.size_alloc]; omega)
      have HC9 := Lib.hid (CT.out ((wc.alloc (.cells row 5 (row.size, row.size + 1))).drew.drew) wc.heap.size cap HCAP.out (fun j v h => RowZ.cell (show RowZ ((wc.alloc (.cells row 5 (row.size, row.size + 1))).drew.drew) wc.heap.size 5 (bcells (bsOf y8)) from HRZ.out) h) HLT.out)
      have lkb := HK7.out.lt
      have lkb2 : kb < wc.heap.size + 1 := by omega
      have lne : ¬ kb = wc.heap.size := by omega
      go_upto_region 9 with (fail)
      go_region_with (go_at_call 60; refine HC9.out.mono ?_; rintro e w5 ⟨rfl, t5⟩)
      all_goals go_wp2_with fail
      all_goals go_ret2
      all_goals exact ⟨by rw [HR.out.1, HR.out.2]; rfl, ((T7.out.alloc _).drew.drew).trans' t5⟩
end Go.Proofs.YtodehmognjofhaaGreat
