/-
  The program's tags by a key.
-/
import Derived.Test.YtodehmognjofhaaGreatQNTim
namespace Go.Proofs.YtodehmognjofhaaGreat
open Go.RowKit

def witS : Smy where
  f := 136
  args := [.agg ((List.range 64).map fun i => .sym (.int .u8) i), .sym (.int .u8) 64]
  blks := []
  nx0 := 65
  log := []
  v := .strs ((List.range 64).map fun i => .ar .xor .u8 (.sym (.int .u8) i) (.sym (.int .u8) 64))
set_option maxRecDepth 1000000 in
theorem wit_run : genOk env0 (fun _ _ _ _ => none) 100000 0 0 witS [] = true := by decide +kernel
def witV (l : List Nat) (x i : Nat) : Option Value := if i < 64 then some (.int .u8 ((l.getD i 0 : Nat) : Int)) else if i = 64 then some (.int .u8 (x : Int)) else none
/-- a key's block, each byte exclusive or one. -/
theorem with_any (w : World) (l : List Nat) (x : Nat) (hl : l.length = 64) (hb : Bytes l) (hx : x < 256) : Calls Tryz.prog 136 #[.agg (bcells l).toArray, .int .u8 x] w fun e w' => e = .returned (.string (bytesOf (l.map fun y => y ^^^ x))) ∧ Touch [] w w' := by
  have hv : ∀ i, i < 64 → witV l x i = some (.int .u8 ((l.getD i 0 : Nat) : Int)) := fun i hi => if_pos hi
  have hv64 : witV l x 64 = some (.int .u8 (x : Int)) := rfl
  have hargs : ∀ f, denL ⟨f, witV l x⟩ ((List.range 64).map fun i => SV.sym (.int .u8) i) = some (bcells l) := by
    intro f
    have : bcells l = (List.range 64).map fun i => Value.int .u8 ((l.getD i 0 : Nat) : Int) := by
      conv => lhs; rw [← map_getD hl]
      unfold bcells
      rw [List.map_map]; rfl
    rw [this]
    exact denL_map _ _ _ fun i hi => D.sym8 (hv i (List.mem_range.1 hi)) (getD_lt hb (by decide) i)
  have h1 := gen_run envOk (fun {_} => noI_ok _) wit_run (by decide) (witV l x) (fun b h1 h2 => by unfold witV; rw [if_neg (by have : 65 ≤ b := h1; omega), if_neg (by have : 65 ≤ b := h1; omega)]) (fun W n k e h => by rw [show (ofA witS.log).get n = none from T.get_leaf n] at h; cases h) w (bl := []) rfl List.nodup_nil (by simp [witS]) (fun j b y h _ => by simp at h) (us := [.agg (bcells l).toArray, .int .u8 x]) (denL_cons.2 ⟨_, _, den_agg_mk (by rw [denC_of_L (one_of_bytes (ρ := ⟨fun _ => none, witV l x⟩) (hargs _))]; exact hargs _) (onc_of_one (one_of_bytes (ρ := ⟨fun _ => none, witV l x⟩) (hargs _))), denL_cons.2 ⟨_, _, D.sym8 hv64 hx, denL_nil _, rfl⟩, rfl⟩)
  refine h1.mono ?_
  rintro e w' ⟨ρ', u, rfl, l1, l2, l3, -, -⟩
  refine ⟨?_, l3⟩
  have hres : denL ρ' ((List.range 64).map fun i => SV.ar .xor .u8 (.sym (.int .u8) i) (.sym (.int .u8) 64)) = some ((l.map fun y => y ^^^ x).map fun (z : Nat) => Value.int .u8 (z : Int)) := by
    have : l.map (fun y => y ^^^ x) = (List.range 64).map fun i => l.getD i 0 ^^^ x := by
      conv => lhs; rw [← map_getD hl]
      rw [List.map_map]; rfl
    rw [this, List.map_map]
    refine denL_map _ _ _ fun i hi => ?_
    have hi := List.mem_range.1 hi
    exact (D.sym8 (l1.val _ _ (hv i hi)) (getD_lt hb (by decide) i)).xor8 (D.sym8 (l1.val _ _ hv64) hx) (getD_lt hb (by decide) i) hx
  have := den_strs_mk hres (fun y hy => by obtain ⟨z, hz, rfl⟩ := List.mem_map.1 hy; exact Nat.xor_lt_two_pow (n := 8) (hb z hz) hx)
  rw [show den ρ' witS.v = some (.string (bytesOf (l.map fun y => y ^^^ x))) from this] at l2
  cases l2; rfl
/-- a key's block. -/
def keyB (k : List Nat) : List Nat := let j := if 64 < k.length then shaF k else k; j ++ List.replicate (64 - j.length) 0
def macF (k m : List Nat) : List Nat := shaF ((keyB k).map (fun y => y ^^^ 92) ++ shaF ((keyB k).map (fun y => y ^^^ 54) ++ m))
theorem macF_len (k m : List Nat) : (macF k m).length = 32 := shaF_len _
theorem macF_bytes (k m : List Nat) : Bytes (macF k m) := shaF_bytes _
theorem xor_bytes {l : List Nat} (h : Bytes l) {x : Nat} (hx : x < 256) : Bytes (l.map fun y => y ^^^ x) := by
  intro y hy
  obtain ⟨z, hz, rfl⟩ := List.mem_map.1 hy
  exact Nat.xor_lt_two_pow (n := 8) (h z hz) hx
theorem splice_bcells (l x : List Nat) (o : Nat) : splice (bcells l) o (bcells x) = bcells (splice l o x) := by
  unfold splice bcells
  simp [List.map_take, List.map_drop]
theorem Tryz.sizeMb : (Tryz.prog.info? 223).map (·.size) = some 64 := by kernel_rfl
theorem bcells_one (l : List Nat) : (bcells l).toArray.all (·.oneCell') = true := by unfold bcells; simp [Value.oneCell']
set_option maxRecDepth 100000 in
set_option maxHeartbeats 3200000 in
theorem mac_any (w : World) (key s : ByteArray) (hk : key.size < 1152921504606846976) (hs : s.size < 576460752303423488) : Calls Tryz.prog 98 #[.string key, .string s] w fun e w' => e = .returned (.string (bytesOf (macF (bsOf key) (bsOf s)))) ∧ Touch [] w w' := by
  have CK := of_any w key hk
  by_cases hl : 64 < key.size
  · have hli : (64 : Int) < (key.size : Int) := by omega
    go_enter Tryz.func98, Tryz.ntmps98
    obtain ⟨xs, hxs⟩ : ∃ xs, xs = (bsOf (bytesOf (shaF (bsOf key)))).take 64 := ⟨_, rfl⟩
    have hxl : xs.length ≤ 64 := by rw [hxs, List.length_take]; exact Nat.min_le_left _ _
    have hB64 : splice (List.replicate 64 0) 0 xs = keyB (bsOf key) := by rw [hxs, bsOf_bytesOf (shaF_bytes _), List.take_of_length_le (by rw [shaF_len]; decide)]; unfold keyB splice; rw [if_pos (by rw [bsOf_len]; exact hl)]; simp [shaF_len]
    have hbl : (keyB (bsOf key)).length = 64 := by rw [← hB64, length_splice _ _ _ (by simp; omega)]; simp
    have hbb : Bytes (keyB (bsOf key)) := by rw [← hB64]; exact splice_bytes (fun x hx => by rw [List.eq_of_mem_replicate hx]; decide) (by rw [hxs]; exact fun x hx => bsOf_bytes _ x (List.mem_of_mem_take hx))
    have HX := Lib.hid hxs
    have HB64 := Lib.hid hB64
    clear hxs hB64
    go_wp2_with (first | (go_at_call 76; refine CK.mono ?_; clear CK; rintro e w1 ⟨rfl, t1⟩) | (refine wpList_copy_str rfl (.tmp 12) (.tmp 13) 36 9 rfl 5 Tryz.u8sT Tryz.sizeU8 w1.heap.size 0 64 64 (bytesOf (shaF (bsOf key))) rfl rfl (bcells (List.replicate 64 0)) 223 (At.new' w1 _ (by kernel_rfl)) xs HX.out (by simp [bcells_len]; omega) ?_; intro w2 hB t2))
    rw [splice_bcells, HB64.out] at hB
    have hge : w.heap.size ≤ w1.heap.size := t1.size
    have T2 := Lib.hid (((t1).alloc _).trans t2 (by intro x hx; rw [List.mem_singleton.1 hx]; exact .inr hge))
    clear t2
    generalize w1.heap.size = bb at hB hge ⊢
    have hsz : (Tryz.prog.info? 223).map (·.size) = some (bcells (keyB (bsOf key))).toArray.size := by rw [List.size_toArray, bcells_len, hbl]; exact Tryz.sizeMb
    refine (new_any w2).mono ?_
    rintro e w3 ⟨hb, tb, rfl, t3, hne, hge3, hH, hT⟩
    have lbb := hB.out.lt
    have HB3 := Lib.hid (hB.out.touch t3 (by simp))
    have HH3 := Lib.hid hH
    have HT3 := Lib.hid hT
    have T3 := Lib.hid (T2.out.trans' t3)
    have l23 := t3.size
    have g23 := T2.out.size
    clear hH hT t3
    go_wp2_with (refine wpList_load_row rfl 223 (.tmp 5) rfl bb rfl 223 (bcells (keyB (bsOf key))).toArray (0, 0) _ HB3.out Tryz.underlying223 rfl hsz ?_)
    refine (with_any w3 (keyB (bsOf key)) 54 hbl hbb (by decide)).mono ?_
    rintro e w4 ⟨rfl, t4⟩
    go_wp2_with (fail)
    have hx1 := xor_bytes hbb (x := 54) (by decide)
    have hl1 : ((keyB (bsOf key)).map fun y => y ^^^ 54).length = 64 := by rw [List.length_map, hbl]
    refine (add_any w4 hb tb [] VS (List.replicate 64 0) _ (HH3.out.touch t4 (by simp)) (HT3.out.touch t4 (by simp)) hne (HS.start _ (by simp) (fun x hx => by rw [List.eq_of_mem_replicate hx]; decide)) (by rw [bytesOf_size, hl1]; decide)).mono ?_
    rintro e w5 ⟨rfl, t5, v5, part5, hs5, hA5⟩
    rw [List.nil_append, bsOf_bytesOf hx1] at hs5
    have hA5' : At w5 hb 247 (hcells tb v5 part5 ((keyB (bsOf key)).map fun y => y ^^^ 54).length) := by
      rw [hl1]
      rw [bytesOf_size, hl1] at hA5
      exact hA5
    have T5 := Lib.hid ((T3.out.trans' t4).trans t5 (by intro x hx; rw [List.mem_singleton.1 hx]; exact .inr (by omega)))
    have HT5 := Lib.hid ((HT3.out.touch t4 (by simp)).touch t5 (by simp [Ne.symm hne]))
    have HB5 := Lib.hid ((HB3.out.touch t4 (by simp)).touch t5 (by simp; omega))
    clear t4 t5 hA5
    go_wp2_with (fail)
    refine (add_any w5 hb tb _ v5 part5 s hA5' HT5.out hne hs5 (by rw [hl1]; omega)).mono ?_
    rintro e w6 ⟨rfl, t6, v6, part6, hs6, hA6⟩
    rw [hl1] at hA6
    have hl2 : (((keyB (bsOf key)).map fun y => y ^^^ 54) ++ bsOf s).length = 64 + s.size := by rw [List.length_append, hl1, bsOf_len]
    rw [← hl2] at hA6
    have T6 := Lib.hid (T5.out.trans t6 (by intro x hx; rw [List.mem_singleton.1 hx]; exact .inr (by omega)))
    have HT6 := Lib.hid (HT5.out.touch t6 (by simp [Ne.symm hne]))
    have HB6 := Lib.hid (HB5.out.touch t6 (by simp; omega))
    have HA6 := Lib.hid hA6
    have HS6 := Lib.hid hs6
    clear t6 hA6 hs6 hs5 hA5'
    go_wp2_with (refine wpList_load_row rfl 223 (.tmp 5) rfl bb rfl 223 (bcells (keyB (bsOf key))).toArray (0, 0) _ HB6.out Tryz.underlying223 rfl hsz ?_)
    refine (with_any w6 (keyB (bsOf key)) 92 hbl hbb (by decide)).mono ?_
    rintro e w7 ⟨rfl, t7⟩
    go_wp2_with (fail)
    refine (sum_any w7 hb tb _ v6 part6 (HA6.out.touch t7 (by simp)) (HT6.out.touch t7 (by simp)) HS6.out (by rw [hl2]; omega)).mono ?_
    rintro e w8 ⟨rfl, t8⟩
    have z1 : (bytesOf ((keyB (bsOf key)).map fun y => y ^^^ 92)).size = 64 := by rw [bytesOf_size, List.length_map, hbl]
    have z2 : (bytesOf (shaF (((keyB (bsOf key)).map fun y => y ^^^ 54) ++ bsOf s))).size = 32 := by rw [bytesOf_size, shaF_len]
    have hno : ¬ 9223372036854775807 < (bytesOf ((keyB (bsOf key)).map fun y => y ^^^ 92)).size + (bytesOf (shaF (((keyB (bsOf key)).map fun y => y ^^^ 54) ++ bsOf s))).size := by rw [z1, z2]; decide
    have hcat : bsOf (bytesOf ((keyB (bsOf key)).map fun y => y ^^^ 92) ++ bytesOf (shaF (((keyB (bsOf key)).map fun y => y ^^^ 54) ++ bsOf s))) = ((keyB (bsOf key)).map fun y => y ^^^ 92) ++ shaF (((keyB (bsOf key)).map fun y => y ^^^ 54) ++ bsOf s) := by
      rw [bsOf_append, bsOf_bytesOf (xor_bytes hbb (by decide)), bsOf_bytesOf (shaF_bytes _)]
    have CF := of_any w8 (bytesOf ((keyB (bsOf key)).map fun y => y ^^^ 92) ++ bytesOf (shaF (((keyB (bsOf key)).map fun y => y ^^^ 54) ++ bsOf s))) (by rw [ByteArray.size_append, z1, z2]; decide)
    rw [hcat] at CF
    have T8 := Lib.hid ((T6.out.trans' t7).trans' t8)
    clear z1 z2 hcat t7 t8
    go_wp2_with (go_at_call 76; refine CF.mono ?_; clear CF; rintro e w9 ⟨rfl, t9⟩)
    go_ret
    exact ⟨rfl, T8.out.trans' t9⟩
  · have hli : ¬ (64 : Int) < (key.size : Int) := by omega
    go_enter Tryz.func98, Tryz.ntmps98
    have t1 : Touch [] w w := Touch.refl _ _
    obtain ⟨xs, hxs⟩ : ∃ xs, xs = (bsOf (key)).take 64 := ⟨_, rfl⟩
    have hxl : xs.length ≤ 64 := by rw [hxs, List.length_take]; exact Nat.min_le_left _ _
    have hB64 : splice (List.replicate 64 0) 0 xs = keyB (bsOf key) := by rw [hxs, List.take_of_length_le (by rw [bsOf_len]; omega)]; unfold keyB splice; rw [if_neg (by rw [bsOf_len]; exact hl)]; simp only [List.take_zero, List.nil_append, Nat.zero_add, List.drop_replicate]
    have hbl : (keyB (bsOf key)).length = 64 := by rw [← hB64, length_splice _ _ _ (by simp; omega)]; simp
    have hbb : Bytes (keyB (bsOf key)) := by rw [← hB64]; exact splice_bytes (fun x hx => by rw [List.eq_of_mem_replicate hx]; decide) (by rw [hxs]; exact fun x hx => bsOf_bytes _ x (List.mem_of_mem_take hx))
    have HX := Lib.hid hxs
    have HB64 := Lib.hid hB64
    clear hxs hB64
    go_wp2_with ((refine wpList_copy_str rfl (.tmp 12) (.tmp 13) 36 9 rfl 5 Tryz.u8sT Tryz.sizeU8 w.heap.size 0 64 64 (key) rfl rfl (bcells (List.replicate 64 0)) 223 (At.new' w _ (by kernel_rfl)) xs HX.out (by simp [bcells_len]; omega) ?_; intro w2 hB t2))
    rw [splice_bcells, HB64.out] at hB
    have hge : w.heap.size ≤ w.heap.size := t1.size
    have T2 := Lib.hid (((t1).alloc _).trans t2 (by intro x hx; rw [List.mem_singleton.1 hx]; exact .inr hge))
    clear t2
    generalize w.heap.size = bb at hB hge ⊢
    have hsz : (Tryz.prog.info? 223).map (·.size) = some (bcells (keyB (bsOf key))).toArray.size := by rw [List.size_toArray, bcells_len, hbl]; exact Tryz.sizeMb
    refine (new_any w2).mono ?_
    rintro e w3 ⟨hb, tb, rfl, t3, hne, hge3, hH, hT⟩
    have lbb := hB.out.lt
    have HB3 := Lib.hid (hB.out.touch t3 (by simp))
    have HH3 := Lib.hid hH
    have HT3 := Lib.hid hT
    have T3 := Lib.hid (T2.out.trans' t3)
    have l23 := t3.size
    have g23 := T2.out.size
    clear hH hT t3
    go_wp2_with (refine wpList_load_row rfl 223 (.tmp 5) rfl bb rfl 223 (bcells (keyB (bsOf key))).toArray (0, 0) _ HB3.out Tryz.underlying223 rfl hsz ?_)
    refine (with_any w3 (keyB (bsOf key)) 54 hbl hbb (by decide)).mono ?_
    rintro e w4 ⟨rfl, t4⟩
    go_wp2_with (fail)
    have hx1 := xor_bytes hbb (x := 54) (by decide)
    have hl1 : ((keyB (bsOf key)).map fun y => y ^^^ 54).length = 64 := by rw [List.length_map, hbl]
    refine (add_any w4 hb tb [] VS (List.replicate 64 0) _ (HH3.out.touch t4 (by simp)) (HT3.out.touch t4 (by simp)) hne (HS.start _ (by simp) (fun x hx => by rw [List.eq_of_mem_replicate hx]; decide)) (by rw [bytesOf_size, hl1]; decide)).mono ?_
    rintro e w5 ⟨rfl, t5, v5, part5, hs5, hA5⟩
    rw [List.nil_append, bsOf_bytesOf hx1] at hs5
    have hA5' : At w5 hb 247 (hcells tb v5 part5 ((keyB (bsOf key)).map fun y => y ^^^ 54).length) := by
      rw [hl1]
      rw [bytesOf_size, hl1] at hA5
      exact hA5
    have T5 := Lib.hid ((T3.out.trans' t4).trans t5 (by intro x hx; rw [List.mem_singleton.1 hx]; exact .inr (by omega)))
    have HT5 := Lib.hid ((HT3.out.touch t4 (by simp)).touch t5 (by simp [Ne.symm hne]))
    have HB5 := Lib.hid ((HB3.out.touch t4 (by simp)).touch t5 (by simp; omega))
    clear t4 t5 hA5
    go_wp2_with (fail)
    refine (add_any w5 hb tb _ v5 part5 s hA5' HT5.out hne hs5 (by rw [hl1]; omega)).mono ?_
    rintro e w6 ⟨rfl, t6, v6, part6, hs6, hA6⟩
    rw [hl1] at hA6
    have hl2 : (((keyB (bsOf key)).map fun y => y ^^^ 54) ++ bsOf s).length = 64 + s.size := by rw [List.length_append, hl1, bsOf_len]
    rw [← hl2] at hA6
    have T6 := Lib.hid (T5.out.trans t6 (by intro x hx; rw [List.mem_singleton.1 hx]; exact .inr (by omega)))
    have HT6 := Lib.hid (HT5.out.touch t6 (by simp [Ne.symm hne]))
    have HB6 := Lib.hid (HB5.out.touch t6 (by simp; omega))
    have HA6 := Lib.hid hA6
    have HS6 := Lib.hid hs6
    clear t6 hA6 hs6 hs5 hA5'
    go_wp2_with (refine wpList_load_row rfl 223 (.tmp 5) rfl bb rfl 223 (bcells (keyB (bsOf key))).toArray (0, 0) _ HB6.out Tryz.underlying223 rfl hsz ?_)
    refine (with_any w6 (keyB (bsOf key)) 92 hbl hbb (by decide)).mono ?_
    rintro e w7 ⟨rfl, t7⟩
    go_wp2_with (fail)
    refine (sum_any w7 hb tb _ v6 part6 (HA6.out.touch t7 (by simp)) (HT6.out.touch t7 (by simp)) HS6.out (by rw [hl2]; omega)).mono ?_
    rintro e w8 ⟨rfl, t8⟩
    have z1 : (bytesOf ((keyB (bsOf key)).map fun y => y ^^^ 92)).size = 64 := by rw [bytesOf_size, List.length_map, hbl]
    have z2 : (bytesOf (shaF (((keyB (bsOf key)).map fun y => y ^^^ 54) ++ bsOf s))).size = 32 := by rw [bytesOf_size, shaF_len]
    have hno : ¬ 9223372036854775807 < (bytesOf ((keyB (bsOf key)).map fun y => y ^^^ 92)).size + (bytesOf (shaF (((keyB (bsOf key)).map fun y => y ^^^ 54) ++ bsOf s))).size := by rw [z1, z2]; decide
    have hcat : bsOf (bytesOf ((keyB (bsOf key)).map fun y => y ^^^ 92) ++ bytesOf (shaF (((keyB (bsOf key)).map fun y => y ^^^ 54) ++ bsOf s))) = ((keyB (bsOf key)).map fun y => y ^^^ 92) ++ shaF (((keyB (bsOf key)).map fun y => y ^^^ 54) ++ bsOf s) := by
      rw [bsOf_append, bsOf_bytesOf (xor_bytes hbb (by decide)), bsOf_bytesOf (shaF_bytes _)]
    have CF := of_any w8 (bytesOf ((keyB (bsOf key)).map fun y => y ^^^ 92) ++ bytesOf (shaF (((keyB (bsOf key)).map fun y => y ^^^ 54) ++ bsOf s))) (by rw [ByteArray.size_append, z1, z2]; decide)
    rw [hcat] at CF
    have T8 := Lib.hid ((T6.out.trans' t7).trans' t8)
    clear z1 z2 hcat t7 t8
    go_wp2_with (go_at_call 76; refine CF.mono ?_; clear CF; rintro e w9 ⟨rfl, t9⟩)
    go_ret
    exact ⟨rfl, T8.out.trans' t9⟩
end Go.Proofs.YtodehmognjofhaaGreat
