/-
  The program's digest: bytes are taken.
-/
import Derived.Test.YtodehmognjofhaaGreatQNHash
namespace Go.Proofs.YtodehmognjofhaaGreat
open Go.RowKit

theorem Tryz.u8sT : Tryz.prog.underlying 36 = some (.slice 5) := by kernel_rfl
theorem Tryz.sizeU8 : (Tryz.prog.info? 5).map (·.size) = some 1 := by kernel_rfl
theorem toList_bsOf (t : ByteArray) : t.toList.isEmpty = (bsOf t).isEmpty := by
  have : bsOf t = t.toList.map UInt8.toNat := by rw [← bytesOf_bsOf t, bytesOf_toList, bsOf_bytesOf (bsOf_bytes t), List.map_map]; exact ((List.map_congr_left (g := id) fun x hx => by simp [UInt8.toNat_ofNat', Nat.mod_eq_of_lt (bsOf_bytes t x hx)]).trans (List.map_id _)).symm
  rw [this]; simp
theorem hcells_n {tb : Nat} {v part : List Nat} {n : Nat} (hv : v.length = 8) (hp : part.length = 64) : (hcells tb v part n)[73]? = some (.int .u64 n) := by
  unfold hcells
  rw [List.getElem?_cons_succ, List.getElem?_append_right (by rw [wcells_len]; omega), wcells_len, hv, List.getElem?_append_right (by rw [bcells_len]; omega), bcells_len, hp]
  rfl
theorem hcells_nset {tb : Nat} {v part : List Nat} {n m : Nat} (hv : v.length = 8) (hp : part.length = 64) : (hcells tb v part n).set 73 (.int .u64 m) = hcells tb v part m := by
  unfold hcells
  rw [List.set_cons_succ, List.set_append_right _ _ (by rw [wcells_len]; omega), wcells_len, hv, List.set_append_right _ _ (by rw [bcells_len]; omega), bcells_len, hp]
  rfl
theorem hcells_len {tb : Nat} {v part : List Nat} {n : Nat} (hv : v.length = 8) (hp : part.length = 64) : (hcells tb v part n).length = 74 := by
  unfold hcells
  simp [wcells_len, bcells_len, hv, hp]
theorem hcells_splice {tb : Nat} {v part x : List Nat} {n o : Nat} (hv : v.length = 8) (hp : part.length = 64) (ho : o + x.length ≤ 64) : splice (hcells tb v part n) (9 + o) (bcells x) = hcells tb v (splice part o x) n := by
  unfold hcells splice
  have e1 : ∀ k, List.drop (9 + k) (Value.pointer (some ⟨tb, 0, none⟩) :: (wcells v ++ (bcells part ++ [Value.int .u64 n]))) = List.drop k (bcells part ++ [Value.int .u64 n]) := by
    intro k
    rw [show 9 + k = (8 + k) + 1 by omega, List.drop_succ_cons, List.drop_append, List.drop_eq_nil_of_le (by rw [wcells_len]; omega), wcells_len, hv, List.nil_append, Nat.add_sub_cancel_left]
  have e2 : List.take (9 + o) (Value.pointer (some ⟨tb, 0, none⟩) :: (wcells v ++ (bcells part ++ [Value.int .u64 n]))) = Value.pointer (some ⟨tb, 0, none⟩) :: (wcells v ++ (bcells part).take o) := by
    rw [show 9 + o = (8 + o) + 1 by omega, List.take_succ_cons, List.take_append, List.take_of_length_le (by rw [wcells_len]; omega), wcells_len, hv, Nat.add_sub_cancel_left, List.take_append_of_le_length (by rw [bcells_len]; omega)]
  rw [bcells_len, Nat.add_assoc, e1, e2, List.drop_append_of_le_length (by rw [bcells_len]; omega)]
  simp only [bcells, List.map_append, List.map_take, List.map_drop, List.cons_append, List.append_assoc]
set_option maxRecDepth 100000 in
set_option maxHeartbeats 1600000 in
theorem add_any (w : World) (hb tb : Nat) (m v part : List Nat) (s : ByteArray) (hH : At w hb 247 (hcells tb v part m.length)) (hT : At w tb 245 (wcells (VS ++ KS))) (hne : hb ≠ tb) (hs : HS m v part) (hlen : m.length + s.size < 2305843009213693952) :
    Calls Tryz.prog 117 #[.pointer (some ⟨hb, 0, none⟩), .string s] w fun e w' => e = .returned (.int .i64 0) ∧ Touch [hb] w w' ∧ ∃ v' part', HS (m ++ bsOf s) v' part' ∧ At w' hb 247 (hcells tb v' part' (m.length + s.size)) := by
  have lh := hH.lt
  have lt := hT.lt
  have HH := Lib.hid hH
  have HTB := Lib.hid hT
  have c0 : w.cell? ⟨hb, 0, none⟩ = some (.pointer (some ⟨tb, 0, none⟩)) := hH.cell 0
  have HS0 := Lib.hid hs
  clear hH hT hs
  go_enter Tryz.func117, Tryz.ntmps117
  go_wp2
  go_loopw [1, 5] (fun x _ wr => ∃ (t : ByteArray) (pre v' part' : List Nat), x = .string t ∧ m ++ bsOf s = pre ++ bsOf t ∧ Touch [hb] w wr ∧ Hid (HS pre v' part') ∧ Hid (At wr hb 247 (hcells tb v' part' pre.length))) (fun x _ _ => match x with | .string t => t.size | _ => 0)
  case atStart => exact ⟨s, m, v, part, rfl, rfl, Touch.refl _ _, HS0, HH⟩
  case round =>
    obtain ⟨t, pre, v', part', rfl, hcat, tr, hS, hA⟩ := hrel
    cases he : t.toList.isEmpty with
    | true =>
      have hb0 : bsOf t = [] := by rw [toList_bsOf, List.isEmpty_iff] at he; exact he
      rw [hb0, List.append_nil] at hcat
      have HC := Lib.hid hcat
      clear hcat hb0
      go_wp2
      go_ret
      refine ⟨rfl, tr, v', part', by rw [HC.out]; exact hS.out, ?_⟩
      have e : pre.length = m.length + s.size := by rw [← HC.out, List.length_append, bsOf_len]
      rw [← e]
      exact hA.out
    | false =>
      have cN : wr.cell? ⟨hb, 73, none⟩ = some (.int .u64 (pre.length : Int)) := by rw [hA.out.cell]; exact hcells_n hS.out.vlen hS.out.len
      have lr := tr.size
      go_wp2
      refine region_tail 10 (by kernel_rfl) (by kernel_rfl) (fun w2 t2 => ?_)
      have hA2 := Lib.hid (hA.out.touch t2 (by simp))
      have cN2 : w2.cell? ⟨hb, 73, none⟩ = some (.int .u64 (pre.length : Int)) := by rw [hA2.out.cell]; exact hcells_n hS.out.vlen hS.out.len
      have T2 := Lib.hid (tr.trans' (t2.mono (l' := [hb]) (by simp)))
      clear t2 tr cN
      obtain ⟨r, hr⟩ : ∃ r, r = pre.length % 64 := ⟨_, rfl⟩
      have e1 : (pre.length : Int).tmod 64 = (r : Int) := by rw [Int.tmod_eq_emod_of_nonneg (Int.natCast_nonneg _)]; omega
      have e2 : (0 : Int) ≤ (r : Int) := by omega
      have e3 : (r : Int) ≤ 64 := by omega
      have e4 : ¬ (64 = r) := by omega
      have HR := Lib.hid hr
      clear hr
      simp only [List.take_succ_cons, List.take_zero, List.drop_succ_cons, List.drop_zero]
      repeat still_step
      refine wpStill_nil ?_
      obtain ⟨xs, hxs⟩ : ∃ xs, xs = (bsOf t).take (64 - r) := ⟨_, rfl⟩
      have hxl : xs.length ≤ 64 - r := by rw [hxs, List.length_take]; exact Nat.min_le_left _ _
      have hr64 : r < 64 := by have := HR.out; omega
      have hcl := hcells_len (tb := tb) (n := pre.length) hS.out.vlen hS.out.len
      refine wpList_copy_str rfl (.tmp 25) (.tmp 26) 36 9 rfl 5 Tryz.u8sT Tryz.sizeU8 hb (9 + r) (64 - r) (64 - r) t rfl rfl _ _ hA2.out xs hxs (by omega) ?_
      intro w3 hA3 t3
      rw [hcells_splice hS.out.vlen hS.out.len (by omega)] at hA3
      have hA3c := hA3.out.cell
      have fr3 := fun o => hA3.out.frozen o
      have cN3 : w3.cell? ⟨hb, 73, none⟩ = some (.int .u64 (pre.length : Int)) := by rw [hA3c]; exact hcells_n hS.out.vlen (by rw [length_splice _ _ _ (by rw [hS.out.len]; omega), hS.out.len])
      clear hA3c
      have ht : (bsOf t).length = t.size := bsOf_len t
      have hpl : pre.length + t.size = m.length + s.size := by
        have := congrArg List.length hcat
        rw [List.length_append, List.length_append, bsOf_len, bsOf_len] at this
        exact this.symm
      obtain ⟨k, hk⟩ : ∃ k, k = xs.length := ⟨_, rfl⟩
      have hk2 : k = min (64 - r) t.size := by rw [hk, hxs, List.length_take, ht]
      have ht0 : 0 < t.size := by
        rw [toList_bsOf] at he
        cases hbs : bsOf t with
        | nil => rw [hbs] at he; cases he
        | cons x l => rw [← ht, hbs]; simp
      have hk0 : 0 < k := by omega
      rw [← hk]
      have i1 : (0 : Int) ≤ (k : Int) := by omega
      have i2 : (k : Int) ≤ (t.size : Int) := by omega
      have i3 : IntKind.u64.wrap (k : Int) = (k : Int) := by rw [IntKind.wrap_u64]; omega
      have i4 : IntKind.u64.wrap ((pre.length : Int) + (k : Int)) = ((pre.length + k : Nat) : Int) := by rw [IntKind.wrap_u64]; omega
      have HK := Lib.hid hk
      have HK2 := Lib.hid hk2
      have HPL := Lib.hid hpl
      have HXS := Lib.hid hxs
      have HT3 := Lib.hid t3
      have HCAT := Lib.hid hcat
      clear hk hk2 hpl hxs t3 hcat ht hcl
      have hbx : Bytes xs := by rw [HXS.out]; exact fun x hx => bsOf_bytes t x (List.mem_of_mem_take hx)
      have hsl : (splice part' r xs).length = 64 := by rw [length_splice _ _ _ (by rw [hS.out.len]; omega), hS.out.len]
      have hA4 : At (w3.setCell ⟨hb, 73, none⟩ (.int .u64 ((pre.length + k : Nat) : Int))) hb 247 (hcells tb v' (splice part' r xs) (pre.length + k)) := by
        have := hA3.out.set 73 (.int .u64 ((pre.length + k : Nat) : Int))
        rw [hcells_nset hS.out.vlen hsl] at this
        exact this
      have T4 : Touch [hb] w (w3.setCell ⟨hb, 73, none⟩ (.int .u64 ((pre.length + k : Nat) : Int))) := (T2.out.trans' HT3.out).setCell _ (.inl (by simp)) _
      have hT4 : At (w3.setCell ⟨hb, 73, none⟩ (.int .u64 ((pre.length + k : Nat) : Int))) tb 245 (wcells (VS ++ KS)) := HTB.out.touch T4 (by simp [Ne.symm hne])
      have hnx : m ++ bsOf s = (pre ++ xs) ++ bsOf (t.extract k t.size) := by
        rw [HCAT.out, bsOf_extract, List.append_assoc, List.take_of_length_le (by rw [List.length_drop, bsOf_len]; exact Nat.le_refl _)]
        congr 1
        have : xs = (bsOf t).take k := by
          rw [HXS.out, List.take_eq_take_iff, bsOf_len]
          have := HK2.out
          omega
        rw [this, List.take_append_drop]
      have hnl : (pre ++ xs).length = pre.length + k := by rw [List.length_append, HK.out]
      have hms : (t.extract k t.size).size < t.size := by rw [ByteArray.size_extract]; omega
      have hle : k ≤ 64 - r := by have := HK2.out; omega
      have h64 : pre.length + k < 18446744073709551616 := by have := HK2.out; have := HPL.out; omega
      have HN := Lib.hid hnx
      have HNL := Lib.hid hnl
      have HA4 := Lib.hid hA4
      have HT4 := Lib.hid T4
      clear hnx hnl hA4 T4 cN2 e1
      by_cases hful : r + k = 64
      · have i5 : (((pre.length + k : Nat) : Int) % 64 == 0) = true := by rw [beq_iff_eq]; have := HR.out; omega
        have C := pblock_any _ hb tb _ _ _ HA4.out hT4 hne hS.out.vlen hsl hS.out.words (splice_bytes hS.out.bytes hbx) h64
        have HF : Hid (HS (pre ++ xs) (blockF v' (splice part' r xs)) (splice part' r xs)) := by
          have h := hS.out.full hbx (by rw [← HR.out, ← HK.out]; exact hful)
          rw [← HR.out] at h
          exact h
        clear hT4
        generalize pre.length + k = nn at i4 i5 HNL HA4 HT4 C
        go_wp2_with (go_at_call 156; refine C.mono ?_; rintro e w5 ⟨rfl, t5, hA5⟩; clear C)
        refine ⟨⟨_, _, _, _, rfl, HN.out, HT4.out.trans' t5, HF, ?_⟩, hms⟩
        rw [HNL.out]
        exact hA5
      · have i5 : (((pre.length + k : Nat) : Int) % 64 == 0) = false := by rw [beq_eq_false_iff_ne]; have := HR.out; omega
        have HF : Hid (HS (pre ++ xs) v' (splice part' r xs)) := by
          have h := hS.out.more hbx (by rw [← HR.out, ← HK.out]; omega)
          rw [← HR.out] at h
          exact h
        clear hT4
        generalize pre.length + k = nn at i4 i5 HNL HA4 HT4
        go_wp2
        refine ⟨⟨_, _, _, _, rfl, HN.out, HT4.out, HF, ?_⟩, hms⟩
        rw [HNL.out]
        exact HA4
end Go.Proofs.YtodehmognjofhaaGreat
