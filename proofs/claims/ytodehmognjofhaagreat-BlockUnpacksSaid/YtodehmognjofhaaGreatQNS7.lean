/-
  Seals: the program's.
-/
import Derived.Test.YtodehmognjofhaaGreatQNS6
namespace Go.Proofs.YtodehmognjofhaaGreat
open Go.RowKit

set_option maxRecDepth 100000 in
set_option maxHeartbeats 3200000 in
theorem pseal_any (w : World) (c m : ByteArray) (nn : Nat) (label s : ByteArray) (hk : mayK c m) (hs : s.size = 448) (hlab : label.size ≤ 1048576) : Calls Tryz.prog 24 #[.agg #[.string c, .string m], .int .u64 (nn : Int), .string label, .string s] w fun e w' =>
    e = .returned (.tuple #[.string (bytesOf (sealF (bsOf c) (bsOf m) nn (bsOf label) (bsOf s))), .int .i64 0]) ∧ Touch [] w w' := by
  have CM := Lib.hid fun W => pkmay_any W c m
  rw [show mayC c m = 0 from if_pos hk] at CM
  have hsi : (s.size : Int) = 448 := by omega
  have hcb := bsOf_bytes c
  have hsb := bsOf_bytes s
  have hsl : (bsOf s).length = 448 := by rw [bsOf_len, hs]
  have CT := Lib.hid fun (W : World) (nb cp : Nat) (h1 : 8 ≤ cp) (h2 : ∀ j v, (bcells (be8 nn))[j]? = some v → W.cell? ⟨nb, j, none⟩ = some v) (h3 : nb < W.heap.size) => pturned_any W c m s (be8 nn) nb cp hk.1 (be8_len nn) (be8_bytes nn) h1 (by omega) h2 h3
  have hel : (encF (bsOf c) (be8 nn) (bsOf s)).length = 448 := by rw [encF_len, hsl]
  have HE1 : Hid (bsOf (bytesOf (encF (bsOf c) (be8 nn) (bsOf s))) = encF (bsOf c) (be8 nn) (bsOf s)) := Lib.hid (bsOf_bytesOf (encF_bytes hcb (be8_bytes nn) hsb))
  have HE2 : Hid ((bytesOf (encF (bsOf c) (be8 nn) (bsOf s))).size = 448) := Lib.hid (by rw [bytesOf_size, hel])
  have hbl : (bodyF (bsOf c) nn (bsOf s)).length = 456 := by rw [bodyF_len, hsl]
  have HB : Hid (bsOf (bytesOf (bodyF (bsOf c) nn (bsOf s))) = bodyF (bsOf c) nn (bsOf s)) := Lib.hid (bsOf_bytesOf (bodyF_bytes hcb nn hsb))
  have HBD : Hid (bodyF (bsOf c) nn (bsOf s) = be8 nn ++ encF (bsOf c) (be8 nn) (bsOf s)) := Lib.hid rfl
  have HSF : Hid (sealF (bsOf c) (bsOf m) nn (bsOf label) (bsOf s) = bodyF (bsOf c) nn (bsOf s) ++ tagF (bsOf m) (bsOf label) (bodyF (bsOf c) nn (bsOf s))) := Lib.hid rfl
  generalize sealF (bsOf c) (bsOf m) nn (bsOf label) (bsOf s) = sl at HSF ⊢
  generalize encF (bsOf c) (be8 nn) (bsOf s) = el at CT HE1 HE2 HBD hel
  generalize bytesOf el = E at CT HE1 HE2
  generalize bodyF (bsOf c) nn (bsOf s) = bl at HB HBD HSF hbl
  have htl : (tagF (bsOf m) (bsOf label) bl).length = 32 := tagF_len _ _ _
  have HT1 : Hid (bsOf (bytesOf (tagF (bsOf m) (bsOf label) bl)) = tagF (bsOf m) (bsOf label) bl) := Lib.hid (bsOf_bytesOf (tagF_bytes _ _ _))
  have HT2 : Hid ((bytesOf (tagF (bsOf m) (bsOf label) bl)).size = 32) := Lib.hid (by rw [bytesOf_size, htl])
  have hm := hk.2
  have CA := Lib.hid fun (W : World) (lb cap : Nat) (hL : At W lb 9 ([label, bytesOf bl].map Value.string)) => pall_any W m lb cap [label, bytesOf bl] (by omega) hL (by
    rw [List.map_cons, List.map_cons, List.map_nil, allF_two, bsOf_len, HB.out, hbl]
    omega) (by simp) (by simp)
  simp only [List.map_cons, List.map_nil, HB.out] at CA
  have CA2 : Hid (∀ (W : World) (lb : Nat), At W lb 9 [.string label, .string (bytesOf bl)] → Calls Tryz.prog 61 #[.string m, .slice (some ⟨lb, 0, none⟩) 2 2] W fun e w' => e = .returned (.string (bytesOf (tagF (bsOf m) (bsOf label) bl))) ∧ Touch [] W w') := Lib.hid fun W lb h => CA.out W lb 2 h
  generalize tagF (bsOf m) (bsOf label) bl = tl at HT1 HT2 HSF CA2 htl
  generalize bytesOf tl = T at HT1 HT2 CA2
  generalize hBS : bytesOf bl = BS at CA2
  have HBS := Lib.hid hBS
  clear hBS
  obtain ⟨i0, hii, hz0, hz1, hz2⟩ := info_parts Tryz.infoU8
  have HK := Lib.hid (At.new w 30 [.string c, .string m])
  clear CA hm hk hcb hsb hsl
  go_enter Tryz.func24, Tryz.ntmps24
  go_wp2_with fail
  refine (CM.out _).mono ?_
  rintro e w2 ⟨rfl, t2⟩
  have T2 := Lib.hid (((Touch.refl [] w).alloc (.cells #[.string c, .string m] 30)).trans' t2)
  have HK2 := Lib.hid (HK.out.touch t2 (by simp))
  have hs2 := t2.size
  rw [World.size_alloc] at hs2
  clear t2 HK CM
  have hmk : (Instr.makeSlice 36 (.int .i64 8) (.int .i64 488)).run Tryz.prog w2 = .ok (.slice (some ⟨w2.heap.size, 0, none⟩) 8 488) (w2.alloc (.cells (bcells (List.replicate 488 0)).toArray 5)) := by kernel_rfl
  have HO3 : Hid ((w2.alloc (.cells (bcells (List.replicate 488 0)).toArray 5)).ownsRow (w.heap.size + 1) 5 1 (.slice (some ⟨w2.heap.size, 0, none⟩) 8 488) 8 (bcells (sofar (be8 nn) 0))) := Lib.hid (by
    refine ⟨by rw [bcells_len, sofar_zero, List.length_replicate, be8_len], .inr ⟨w2.heap.size, 488, _, rfl, hs2, heap_alloc_new w2 _, by decide, by simp only [maxLen]; omega, by rw [List.size_toArray, bcells_len, List.length_replicate], ?_⟩⟩
    rw [sofar_zero, be8_len]
    rfl)
  go_wp2
  clear hmk
  have T3 := Lib.hid (T2.out.alloc (.cells (bcells (List.replicate 488 0)).toArray 5))
  have HK3 := Lib.hid (HK2.out.alloc (.cells (bcells (List.replicate 488 0)).toArray 5))
  obtain ⟨gb, hgb⟩ : ∃ gb, gb = w2.heap.size := ⟨_, rfl⟩
  rw [← hgb] at HO3 ⊢
  have HGB : Hid (w.heap.size + 1 ≤ gb) := Lib.hid (by omega)
  obtain ⟨kb, hkb⟩ : ∃ kb, kb = w.heap.size := ⟨_, rfl⟩
  have HKB := Lib.hid hkb
  rw [← hkb] at HK3 HO3 ⊢
  clear hkb hgb HK2 T2 hs2
  go_loopw [29] (fun i wr => ∃ k : Nat, k ≤ 8 ∧ i = .int .i64 (k : Int) ∧ Hid (Touch [] w wr) ∧ Hid (At wr kb 30 [.string c, .string m]) ∧ Hid (wr.ownsRow (kb + 1) 5 1 (.slice (some ⟨gb, 0, none⟩) 8 488) 8 (bcells (sofar (be8 nn) k)))) (fun i _ => 8 - (intOf i).toNat)
  case atStart => exact ⟨0, by omega, rfl, T3, HK3, HO3⟩
  case round =>
    obtain ⟨k, hk', rfl, tr, HKr, HO⟩ := hrel
    by_cases hk8 : k < 8
    · have hki : (k : Int) < 8 := by omega
      have j0 : (0 : Int) ≤ (k : Int) := by omega
      obtain ⟨mm, hmm⟩ : ∃ mm, mm = 56 - 8 * k := ⟨_, rfl⟩
      have j2 : IntKind.i64.wrap (8 * (k : Int)) = ((8 * k : Nat) : Int) := by rw [IntWalk.i64_in _ (by omega)]; omega
      have j3 : IntKind.i64.wrap (56 - ((8 * k : Nat) : Int)) = (mm : Int) := by rw [IntWalk.i64_in _ (by omega)]; omega
      have j4 : IntKind.u64.wrap (mm : Int) = (mm : Int) := by rw [IntKind.wrap_u64]; omega
      obtain ⟨x0, cL⟩ := sofar_get (be8 nn) k (by rw [be8_len]; exact hk8)
      rw [← HO.out.cellAt k (by omega)] at cL
      have fr : wr.frozen? ⟨gb, k, none⟩ = false := HO.out.frozenAt k
      have HGE := Lib.hid (be8_get nn hk8)
      clear hmm
      go_wp2
      have ex : ((nn : Int) / 2 ^ (56 - 8 * k) % 256) = (((be8 nn).getD k 0 : Nat) : Int) := by rw [HGE.out]; simp
      rw [ex]
      have h := (HO.out.stored k (.int .u8 (((be8 nn).getD k 0 : Nat) : Int)))
      rw [sofar_set _ _ _ (by rw [be8_len]; exact hk8) rfl] at h
      have hg := HGB.out
      have hb := HKB.out
      exact ⟨⟨k + 1, by omega, rfl, Lib.hid (tr.out.setCell _ (.inr (by show w.heap.size ≤ gb; omega)) _), Lib.hid (HKr.out.other (p := ⟨gb, k, none⟩) (by show kb ≠ gb; omega) _), Lib.hid h.1⟩, by simp [intOf]; omega⟩
    · have hki : ¬ (k : Int) < 8 := by omega
      obtain rfl : k = 8 := by omega
      have e8 : sofar (be8 nn) 8 = be8 nn := sofar_all (be8 nn)
      have hO8 := HO.out
      rw [e8] at hO8
      have HO8 := Lib.hid hO8
      have hlt := (hO8.lt gb rfl).2
      have HC8 := Lib.hid (CT.out wr gb 488 (by decide) (fun j v hj => by rw [hO8.cellAt j (by have := (List.getElem?_eq_some_iff.1 hj).1; rw [bcells_len, be8_len] at this; omega)]; exact hj) hlt)
      clear hO8 e8 HO CT hlt
      have hszr := tr.out.size
      have hkbb := HKB.out
      have c0 : wr.cell? ⟨w.heap.size, 0, none⟩ = some (.string c) := by rw [← hkbb]; exact HKr.out.cell 0
      have c1 : wr.cell? ⟨w.heap.size, 1, none⟩ = some (.string m) := by rw [← hkbb]; exact HKr.out.cell 1
      have hkl := HKr.out.lt
      have hws : w.heap.size ≤ kb + 1 := by omega
      go_wp2_with (first | (refine wpList_call_fn (o := ⟨some 47, _, _, _, _, _⟩) rfl 60 #[.agg #[.string c, .string m], .slice (some ⟨gb, 0, none⟩) 8 488, .string s] (by kernel_rfl) (fun v w' => v = .string E ∧ Touch [] wr w') (HC8.out.mono fun e w' h => ⟨_, h.1, rfl, h.2⟩) ?_; rintro v w5 ⟨rfl, t5⟩; have T5 := Lib.hid (tr.out.trans' t5); have HK5 := Lib.hid (HKr.out.touch t5 (by simp)); have HO5 := Lib.hid (own_touch HO8.out t5 (by simp)); have hs5 := t5.size; clear t5; go_loud (refine Lib.wpList_append_own_string _ rfl (.tmp 43) (.tmp 47) 36 9 rfl (kb + 1) 5 i0 Tryz.u8sT Tryz.underlying9 hii hz0 hz1 hz2 (.slice (some ⟨gb, 0, none⟩) 8 488) 8 _ rfl HO5.out E rfl (by have := HE2.out; simp only [maxLen]; omega) (by have := HE2.out; omega) (by omega) ?_); intro v6 w6 hR6 hg6 hnil6; have T6 := Lib.hid (own_grown HO5.out hg6 T5.out hws); have HK6 : Hid (At w6 kb 30 [.string c, .string m]) := Lib.hid ((hg6.block kb HK5.out.lt (fun e => by have := (HO5.out.lt kb e.symm).1; omega)).trans HK5.out); have HO6 : Hid (w6.ownsRow (kb + 1) 5 1 v6 bl.length (bcells bl)) := Lib.hid (by rw [HBD.out, bcells_append, List.length_append, be8_len, hel]; rw [strCells_eq, HE1.out, HE2.out] at hR6; exact hR6); have d1 : w6.cell? ⟨w.heap.size, 1, none⟩ = some (.string m) := by { rw [← hkbb]; exact HK6.out.cell 1 }; have hcv6 := own_conv (P := Tryz.prog) (src := 36) (dst := 9) (el := 5) HO6.out (by omega) Tryz.u8sT Tryz.underlying5 Tryz.underlying9; rw [HBS.out] at hcv6; have hkl6 := HK6.out.lt; have hs6 := hg6.size; clear hR6 hg6 hnil6) | (refine wpList_call_fn (o := ⟨some 56, _, _, _, _, _⟩) rfl 61 #[.string m, .slice (some ⟨w6.heap.size, 0, none⟩) 2 2] (by kernel_rfl) (fun v w' => v = .string T ∧ Touch [] (w6.alloc (.cells #[.string label, .string BS] 9)) w') ((CA2.out _ _ (At.new w6 9 [.string label, .string BS])).mono fun e w' h => ⟨_, h.1, rfl, h.2⟩) ?_; rintro v w7 ⟨rfl, t7⟩; have T7 := Lib.hid ((T6.out.alloc (.cells #[.string label, .string BS] 9)).trans' t7); have HO7 := Lib.hid (own_touch (HO6.out.alloc (.cells #[.string label, .string BS] 9)) t7 (by simp)); have hs7 := t7.size; rw [World.size_alloc] at hs7; clear t7; go_loud (refine Lib.wpList_append_own_string _ rfl (.tmp 49) (.tmp 56) 36 9 rfl (kb + 1) 5 i0 Tryz.u8sT Tryz.underlying9 hii hz0 hz1 hz2 v6 _ _ rfl HO7.out T rfl (by have := HT2.out; simp only [maxLen]; omega) (by have := HT2.out; omega) (by omega) ?_); intro v8 w8 hR8 hg8 hnil8; have T8 := Lib.hid (own_grown HO7.out hg8 T7.out hws); have HO8' : Hid (w8.ownsRow (kb + 1) 5 1 v8 sl.length (bcells sl)) := Lib.hid (by rw [HSF.out, bcells_append, List.length_append, htl]; rw [strCells_eq, HT1.out, HT2.out] at hR8; exact hR8); have hcv8 := own_conv (P := Tryz.prog) (src := 36) (dst := 9) (el := 5) HO8'.out (by rw [HSF.out, List.length_append]; omega) Tryz.u8sT Tryz.underlying5 Tryz.underlying9; clear hR8 hg8 hnil8))
      go_ret2
      exact ⟨rfl, T8.out⟩
end Go.Proofs.YtodehmognjofhaaGreat
