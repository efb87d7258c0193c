/-
  The document's tags by a key.
-/
import Derived.Test.YtodehmognjofhaaGreatQNQ4
import Derived.Test.YtodehmognjofhaaGreatQNMac
namespace Go.Proofs.YtodehmognjofhaaGreat
open Go.RowKit

/-- a key, with bytes 0 behind, each exclusive or one byte. -/
def padL (key : List Nat) (by' : Nat) : List Nat := (List.range 64).map fun i => key.getD i 0 ^^^ by'
theorem padL_len (key : List Nat) (x : Nat) : (padL key x).length = 64 := by simp [padL]
theorem padL_get (key : List Nat) (x : Nat) {i : Nat} (h : i < 64) : (padL key x).getD i 0 = key.getD i 0 ^^^ x := by
  unfold padL
  rw [List.getD_eq_getElem?_getD, List.getElem?_map, List.getElem?_range h]; rfl
theorem padL_bytes {key : List Nat} (h : Bytes key) {x : Nat} (hx : x < 256) : Bytes (padL key x) := by
  intro y hy
  obtain ⟨i, -, rfl⟩ := List.mem_map.1 hy
  exact Nat.xor_lt_two_pow (n := 8) (getD_lt h (by decide) i) hx
theorem sofar_zero_at (l : List Nat) {k : Nat} (h : k < l.length) : (bcells (sofar l k))[k]? = some (.int .u8 0) := by
  unfold bcells sofar
  rw [List.getElem?_map, List.getElem?_append_right (by rw [List.length_take]; omega), List.length_take, Nat.min_eq_left (by omega), Nat.sub_self, List.getElem?_replicate, if_pos (by omega)]
  rfl
theorem bsOf_at (s : ByteArray) {k : Nat} (h : k < s.size) : (bsOf s).getD k 0 = (s[k]).toNat := by
  unfold bsOf
  rw [List.getD_eq_getElem?_getD, List.getElem?_map, List.getElem?_eq_getElem (by simpa using h)]
  rfl
set_option maxRecDepth 100000 in
set_option maxHeartbeats 1600000 in
theorem rpad_any (w : World) (key : ByteArray) (x : Nat) (hx : x < 256) (_hk : key.size < 1099511627776) : Calls Tryz.prog 139 #[.string key, .int .u8 x] w fun e w' => e = .returned (.string (bytesOf (padL (bsOf key) x))) ∧ Touch [] w w' := by
  have hmk : (Instr.makeSlice 36 (.int .i64 64) (.int .i64 64)).run Tryz.prog w = .ok (.slice (some ⟨w.heap.size, 0, none⟩) 64 64) (w.alloc (.cells (bcells (List.replicate 64 0)).toArray 5)) := by kernel_rfl
  go_enter Tryz.func139, Tryz.ntmps139
  go_wp2
  clear hmk
  go_loopw [6] (fun i wr => ∃ k : Nat, k ≤ 64 ∧ i = .int .i64 (k : Int) ∧ Touch [] w wr ∧ Hid (At wr w.heap.size 5 (bcells (sofar (padL (bsOf key) x) k)))) (fun i _ => 64 - (intOf i).toNat)
  case atStart => exact ⟨0, by omega, rfl, (Touch.refl [] w).alloc _, Lib.hid (At.new' w _ (by rw [sofar_zero, padL_len]; rfl))⟩
  case round =>
    obtain ⟨k, hk', rfl, tr, HA⟩ := hrel
    by_cases hk64 : k < 64
    · have hki : (k : Int) < 64 := by omega
      have j0 : (0 : Int) ≤ (k : Int) := by omega
      have c0 : wr.cell? ⟨w.heap.size, k, none⟩ = some (.int .u8 0) := by rw [HA.out.cell]; exact sofar_zero_at _ (by rw [padL_len]; exact hk64)
      have fr := fun o => HA.out.frozen o
      by_cases hks : k < key.size
      · have hksi : (k : Int) < (key.size : Int) := by omega
        go_wp2
        have hg := bsOf_at key hks
        have hgl := UInt8.toNat_lt (key[k]'hks)
        generalize (key[k]'hks).toNat = y at hg hgl ⊢
        rw [u8_xor_nat y x (by simpa using hgl) hx]
        refine ⟨⟨k + 1, by omega, rfl, (tr.setCell _ (.inr (by simp)) _).setCell _ (.inr (by simp)) _, Lib.hid ?_⟩, by simp [intOf]; omega⟩
        have h := (HA.out.set k (.int .u8 (y : Int))).set k (.int .u8 ((y ^^^ x : Nat) : Int))
        rw [List.set_set, sofar_set _ _ _ (by rw [padL_len]; exact hk64) (by rw [padL_get _ _ hk64, hg])] at h
        exact h
      · have hksi : ¬ (k : Int) < (key.size : Int) := by omega
        go_wp2
        have hz : bits .xor .u8 0 (x : Int) = ((0 ^^^ x : Nat) : Int) := u8_xor_nat 0 x (by decide) hx
        rw [hz]
        refine ⟨⟨k + 1, by omega, rfl, tr.setCell _ (.inr (by simp)) _, Lib.hid ?_⟩, by simp [intOf]; omega⟩
        have h := HA.out.set k (.int .u8 ((0 ^^^ x : Nat) : Int))
        rw [sofar_set _ _ _ (by rw [padL_len]; exact hk64) (by rw [padL_get _ _ hk64, List.getD_eq_getElem?_getD, List.getElem?_eq_none (by rw [bsOf_len]; omega)]; rfl)] at h
        exact h
    · have hki : ¬ (k : Int) < 64 := by omega
      obtain rfl : k = 64 := by omega
      have h64 := HA.out
      have e8 : sofar (padL (bsOf key) x) 64 = padL (bsOf key) x := by
        have := sofar_all (padL (bsOf key) x)
        rw [padL_len] at this
        exact this
      rw [e8] at h64
      have cv := conv_at (P := Tryz.prog) (src := 36) (dst := 9) (e := 5) h64 (padL_bytes (bsOf_bytes _) hx) 64 64 (padL_len _ _) Tryz.u8sT Tryz.underlying5 Tryz.underlying9
      go_wp2
      go_ret
      exact ⟨rfl, tr⟩
theorem padL_key (key : List Nat) (x : Nat) (h : key.length ≤ 64) : padL key x = (key ++ List.replicate (64 - key.length) 0).map fun y => y ^^^ x := by
  apply List.ext_getElem?
  intro i
  by_cases hi : i < 64
  · have h1 : (padL key x)[i]? = some (key.getD i 0 ^^^ x) := by
      unfold padL
      rw [List.getElem?_map, List.getElem?_range hi]; rfl
    rw [h1, List.getElem?_map]
    by_cases hl : i < key.length
    · rw [List.getElem?_append_left hl, List.getD_eq_getElem?_getD, List.getElem?_eq_getElem hl]; rfl
    · rw [List.getElem?_append_right (by omega), List.getElem?_replicate, if_pos (by omega), List.getD_eq_getElem?_getD, List.getElem?_eq_none (by omega)]; rfl
  · rw [List.getElem?_eq_none (by rw [padL_len]; omega), List.getElem?_eq_none (by simp; omega)]
set_option maxRecDepth 100000 in
set_option maxHeartbeats 1600000 in
theorem rmac_any (w : World) (key s : ByteArray) (hk : key.size < 1099511627776) (hs : s.size < 1099511627000) : Calls Tryz.prog 101 #[.string key, .string s] w fun e w' => e = .returned (.string (bytesOf (macF (bsOf key) (bsOf s)))) ∧ Touch [] w w' := by
  obtain ⟨kk, hkk⟩ : ∃ kk, kk = if 64 < key.size then shaF (bsOf key) else bsOf key := ⟨_, rfl⟩
  have hkl : kk.length ≤ 64 := by
    rw [hkk]
    split
    · rw [shaF_len]; decide
    · rw [bsOf_len]; omega
  have hkb : Bytes kk := by
    rw [hkk]
    split
    · exact shaF_bytes _
    · exact bsOf_bytes _
  have hK : ∀ x, padL kk x = (keyB (bsOf key)).map fun y => y ^^^ x := by
    intro x
    rw [padL_key _ _ hkl, hkk]
    unfold keyB
    rw [bsOf_len]
  have CP : ∀ (w : World) (x : Nat), x < 256 → Calls Tryz.prog 139 #[.string (bytesOf kk), .int .u8 x] w fun e w' => e = .returned (.string (bytesOf (padL kk x))) ∧ Touch [] w w' := by
    intro w x hx
    have := rpad_any w (bytesOf kk) x hx (by rw [bytesOf_size]; omega)
    rw [bsOf_bytesOf hkb] at this
    exact this
  have p1 := padL_bytes hkb (x := 92) (by decide)
  have p2 := padL_bytes hkb (x := 54) (by decide)
  have CI : ∀ w, Calls Tryz.prog 138 #[.string (bytesOf (padL kk 54) ++ s)] w fun e w' => e = .returned (.string (bytesOf (shaF (padL kk 54 ++ bsOf s)))) ∧ Touch [] w w' := by
    intro w
    have := rof_any w (bytesOf (padL kk 54) ++ s) (by rw [ByteArray.size_append, bytesOf_size, padL_len]; omega)
    rw [bsOf_append, bsOf_bytesOf p2] at this
    exact this
  have CO : ∀ w, Calls Tryz.prog 138 #[.string (bytesOf (padL kk 92) ++ bytesOf (shaF (padL kk 54 ++ bsOf s)))] w fun e w' => e = .returned (.string (bytesOf (macF (bsOf key) (bsOf s)))) ∧ Touch [] w w' := by
    intro w
    have := rof_any w (bytesOf (padL kk 92) ++ bytesOf (shaF (padL kk 54 ++ bsOf s))) (by rw [ByteArray.size_append, bytesOf_size, bytesOf_size, padL_len, shaF_len]; omega)
    rw [bsOf_append, bsOf_bytesOf p1, bsOf_bytesOf (shaF_bytes _)] at this
    unfold macF
    rw [← hK 92, ← hK 54]
    exact this
  have z1 : (bytesOf (padL kk 54)).size = 64 := by rw [bytesOf_size, padL_len]
  have z2 : (bytesOf (padL kk 92)).size = 64 := by rw [bytesOf_size, padL_len]
  have z3 : (bytesOf (shaF (padL kk 54 ++ bsOf s))).size = 32 := by rw [bytesOf_size, shaF_len]
  have no1 : ¬ 9223372036854775807 < (bytesOf (padL kk 54)).size + s.size := by rw [z1]; omega
  have no2 : ¬ 9223372036854775807 < (bytesOf (padL kk 92)).size + (bytesOf (shaF (padL kk 54 ++ bsOf s))).size := by rw [z2, z3]; decide
  have CP1 := fun w => CP w 54 (by decide)
  have CP2 := fun w => CP w 92 (by decide)
  clear hK p1 p2 z1 z2 z3 CP
  obtain ⟨inn, hinn⟩ : ∃ inn, inn = bytesOf (shaF (padL kk 54 ++ bsOf s)) := ⟨_, rfl⟩
  rw [← hinn] at no2
  simp only [← hinn] at CI CO
  obtain ⟨q1, hq1⟩ : ∃ q1, q1 = bytesOf (padL kk 54) := ⟨_, rfl⟩
  rw [← hq1] at no1
  simp only [← hq1] at CI CP1
  obtain ⟨q2, hq2⟩ : ∃ q2, q2 = bytesOf (padL kk 92) := ⟨_, rfl⟩
  rw [← hq2] at no2
  simp only [← hq2] at CO CP2
  clear hinn hq1 hq2
  by_cases hl : 64 < key.size
  · have hli : (64 : Int) < (key.size : Int) := by omega
    rw [if_pos hl] at hkk
    have CK := rof_any w key hk
    rw [← hkk] at CK
    clear hkk
    obtain ⟨kt, hkt⟩ : ∃ kt, kt = bytesOf kk := ⟨_, rfl⟩
    rw [← hkt] at CK
    simp only [← hkt] at CP1 CP2
    clear hkt hkl hkb
    go_enter Tryz.func101, Tryz.ntmps101
    go_wp2_with fail
    refine CK.mono ?_
    rintro e w1 ⟨rfl, t1⟩
    go_wp2_with fail
    refine (CP2 w1).mono ?_
    rintro e w2 ⟨rfl, t2⟩
    go_wp2_with fail
    refine (CP1 w2).mono ?_
    rintro e w3 ⟨rfl, t3⟩
    go_wp2_with fail
    refine (CI w3).mono ?_
    rintro e w4 ⟨rfl, t4⟩
    go_wp2_with fail
    refine (CO w4).mono ?_
    rintro e w5 ⟨rfl, t5⟩
    go_wp2_with fail
    go_ret
    exact ⟨rfl, (((t1.trans' t2).trans' t3).trans' t4).trans' t5⟩
  · have hli : ¬ (64 : Int) < (key.size : Int) := by omega
    rw [if_neg hl] at hkk
    have hkt : bytesOf kk = key := by rw [hkk]; exact bytesOf_bsOf key
    simp only [hkt] at CP1 CP2
    clear hkt hkl hkb hkk
    go_enter Tryz.func101, Tryz.ntmps101
    go_wp2_with fail
    refine (CP2 w).mono ?_
    rintro e w2 ⟨rfl, t2⟩
    go_wp2_with fail
    refine (CP1 w2).mono ?_
    rintro e w3 ⟨rfl, t3⟩
    go_wp2_with fail
    refine (CI w3).mono ?_
    rintro e w4 ⟨rfl, t4⟩
    go_wp2_with fail
    refine (CO w4).mono ?_
    rintro e w5 ⟨rfl, t5⟩
    go_wp2_with fail
    go_ret
    exact ⟨rfl, ((t2.trans' t3).trans' t4).trans' t5⟩
end Go.Proofs.YtodehmognjofhaaGreat

namespace Go.Proofs.YtodehmognjofhaaGreat
open Go.RowKit

/-- a text with its length ahead; several. -/
def longF (l : List Nat) : List Nat := be8 l.length ++ l
def allF (xs : List (List Nat)) : List Nat := xs.flatMap longF
theorem longF_bytes {l : List Nat} (h : Bytes l) : Bytes (longF l) := by
  intro x hx
  rcases List.mem_append.1 hx with hx | hx
  · exact be8_bytes _ x hx
  · exact h x hx
theorem longF_len (l : List Nat) : (longF l).length = 8 + l.length := by unfold longF; rw [List.length_append, be8_len]
theorem allF_bytes {xs : List (List Nat)} (h : ∀ l ∈ xs, Bytes l) : Bytes (allF xs) := by
  intro x hx
  obtain ⟨l, hl, hx⟩ := List.mem_flatMap.1 hx
  exact longF_bytes (h l hl) x hx
theorem allF_take (xs : List (List Nat)) {k : Nat} (h : k < xs.length) : allF (xs.take (k + 1)) = allF (xs.take k) ++ longF xs[k] := by
  unfold allF
  rw [List.take_succ_eq_append_getElem h, List.flatMap_append]
  simp
theorem allF_le (xs : List (List Nat)) (k : Nat) : (allF (xs.take k)).length ≤ (allF xs).length := by
  have : allF xs = allF (xs.take k) ++ allF (xs.drop k) := by
    unfold allF
    rw [← List.flatMap_append, List.take_append_drop]
  rw [this, List.length_append]
  omega
set_option maxRecDepth 100000 in
set_option maxHeartbeats 1600000 in
theorem rlong_any (w : World) (s : ByteArray) (hk : s.size < 1099511627776) : Calls Tryz.prog 100 #[.string s] w fun e w' => e = .returned (.string (bytesOf (longF (bsOf s)))) ∧ Touch [] w w' := by
  have hmk : (Instr.makeSlice 36 (.int .i64 8) (.int .i64 8)).run Tryz.prog w = .ok (.slice (some ⟨w.heap.size, 0, none⟩) 8 8) (w.alloc (.cells (bcells (List.replicate 8 0)).toArray 5)) := by kernel_rfl
  go_enter Tryz.func100, Tryz.ntmps100
  go_wp2
  clear hmk
  go_loopw [4] (fun i wr => ∃ k : Nat, k ≤ 8 ∧ i = .int .i64 (k : Int) ∧ Touch [] w wr ∧ Hid (At wr w.heap.size 5 (bcells (sofar (be8 s.size) k)))) (fun i _ => 8 - (intOf i).toNat)
  case atStart => exact ⟨0, by omega, rfl, (Touch.refl [] w).alloc _, Lib.hid (At.new' w _ (by rw [sofar_zero, be8_len]; rfl))⟩
  case round =>
    obtain ⟨k, hk', rfl, tr, HA⟩ := hrel
    by_cases hk8 : k < 8
    · have hki : (k : Int) < 8 := by omega
      have j0 : (0 : Int) ≤ (k : Int) := by omega
      have j1 : IntKind.u64.wrap (s.size : Int) = (s.size : Int) := by rw [IntKind.wrap_u64]; omega
      have j2 : IntKind.i64.wrap (8 * (k : Int)) = 8 * (k : Int) := IntWalk.i64_in _ (by omega)
      have j3 : IntKind.i64.wrap (56 - 8 * (k : Int)) = ((56 - 8 * k : Nat) : Int) := by rw [IntWalk.i64_in _ (by omega)]; omega
      have j4 : IntKind.u64.wrap ((56 - 8 * k : Nat) : Int) = ((56 - 8 * k : Nat) : Int) := by rw [IntKind.wrap_u64]; omega
      obtain ⟨x0, cL⟩ := sofar_get (be8 s.size) k (by rw [be8_len]; exact hk8)
      rw [← HA.out.cell] at cL
      have fr := fun o => HA.out.frozen o
      go_wp2
      have ex : ((s.size : Int) / 2 ^ (56 - 8 * k) % 256) = (((be8 s.size).getD k 0 : Nat) : Int) := by
        have : (be8 s.size).getD k 0 = s.size / 2 ^ (56 - 8 * k) % 256 := by
          unfold be8
          rw [List.getD_eq_getElem?_getD, List.getElem?_map, List.getElem?_range hk8]; rfl
        rw [this]; simp
      rw [ex]
      refine ⟨⟨k + 1, by omega, rfl, tr.setCell _ (.inr (by simp)) _, Lib.hid ?_⟩, by simp [intOf]; omega⟩
      have h := HA.out.set k (.int .u8 (((be8 s.size).getD k 0 : Nat) : Int))
      rw [sofar_set _ _ _ (by rw [be8_len]; exact hk8) rfl] at h
      exact h
    · have hki : ¬ (k : Int) < 8 := by omega
      obtain rfl : k = 8 := by omega
      have h8 := HA.out
      have e8 : sofar (be8 s.size) 8 = be8 s.size := by
        have := sofar_all (be8 s.size)
        rw [be8_len] at this
        exact this
      rw [e8] at h8
      have cv := conv_at (P := Tryz.prog) (src := 36) (dst := 9) (e := 5) h8 (be8_bytes _) 8 8 (be8_len _) Tryz.u8sT Tryz.underlying5 Tryz.underlying9
      have no1 : ¬ 9223372036854775807 < (bytesOf (be8 s.size)).size + s.size := by rw [bytesOf_size, be8_len]; omega
      have hcat : bytesOf (longF (bsOf s)) = bytesOf (be8 s.size) ++ s := by
        unfold longF
        rw [bytesOf_append, bsOf_len, bytesOf_bsOf]
      generalize bytesOf (be8 s.size) = hd at cv no1 hcat
      have HCAT := Lib.hid hcat
      clear hcat
      go_wp2
      go_ret
      exact ⟨by rw [HCAT.out]; rfl, tr⟩
set_option maxRecDepth 100000 in
set_option maxHeartbeats 1600000 in
theorem rall_any (w : World) (key : ByteArray) (lb cap : Nat) (xs : List ByteArray) (hk : key.size < 1099511627776) (hL : At w lb 9 (xs.map Value.string)) (hs : (allF (xs.map bsOf)).length < 1099511627000) (hn : xs.length < 1099511627776) :
    Calls Tryz.prog 65 #[.string key, .slice (some ⟨lb, 0, none⟩) xs.length cap] w fun e w' => e = .returned (.string (bytesOf (macF (bsOf key) (allF (xs.map bsOf))))) ∧ Touch [] w w' := by
  have hb : ∀ k, Bytes (allF ((xs.map bsOf).take k)) := fun k => allF_bytes fun l hl => by
    obtain ⟨x, -, rfl⟩ := List.mem_map.1 (List.mem_of_mem_take hl)
    exact bsOf_bytes x
  have HL := Lib.hid hL
  go_enter Tryz.func65, Tryz.ntmps65
  go_wp2
  go_loopw [5, 6] (fun t i wr => ∃ k : Nat, k ≤ xs.length ∧ i = .int .i64 (k : Int) ∧ t = .string (bytesOf (allF ((xs.map bsOf).take k))) ∧ Touch [] w wr ∧ Hid (At wr lb 9 (xs.map Value.string))) (fun _ i _ => xs.length - (intOf i).toNat)
  case atStart => exact ⟨0, by omega, rfl, rfl, Touch.refl [] w, HL⟩
  case round =>
    obtain ⟨k, hk', rfl, rfl, tr, HA⟩ := hrel
    by_cases hkn : k < xs.length
    · have hki : (k : Int) < (xs.length : Int) := by omega
      have j0 : (0 : Int) ≤ (k : Int) := by omega
      have hkm : k < (xs.map bsOf).length := by rw [List.length_map]; exact hkn
      have h1 := allF_take (xs.map bsOf) hkm
      have h2 := allF_le (xs.map bsOf) (k + 1)
      have h3 : (xs.map bsOf)[k] = bsOf xs[k] := by rw [List.getElem_map]
      rw [h3] at h1
      have h4 : (bytesOf (allF ((xs.map bsOf).take k))).size + (bytesOf (longF (bsOf xs[k]))).size ≤ (allF (xs.map bsOf)).length := by
        rw [bytesOf_size, bytesOf_size, ← List.length_append, ← h1]; exact h2
      have no1 : ¬ 9223372036854775807 < (bytesOf (allF ((xs.map bsOf).take k))).size + (bytesOf (longF (bsOf xs[k]))).size := by omega
      have h5 : xs[k].size < 1099511627776 := by rw [bytesOf_size, bytesOf_size, longF_len, bsOf_len] at h4; omega
      have C := rlong_any wr xs[k] h5
      have c0 : wr.cell? ⟨lb, k, none⟩ = some (.string xs[k]) := by rw [HA.out.cell, List.getElem?_map, List.getElem?_eq_getElem hkn]; rfl
      have h6 : bytesOf (allF ((xs.map bsOf).take (k + 1))) = bytesOf (allF ((xs.map bsOf).take k)) ++ bytesOf (longF (bsOf xs[k])) := by rw [h1, bytesOf_append]
      have H6 := Lib.hid h6
      clear h1 h2 h3 h4 h5 h6 hb
      generalize xs[k] = xk at C c0 no1 H6
      go_wp2_with (go_at_call 100; refine C.mono ?_; clear C; rintro e w2 ⟨rfl, t2⟩)
      refine ⟨⟨k + 1, by omega, rfl, by rw [H6.out], tr.trans' t2, Lib.hid (HA.out.touch t2 (by simp))⟩, by simp [intOf]; omega⟩
    · have hki : ¬ (k : Int) < (xs.length : Int) := by omega
      obtain rfl : k = xs.length := by omega
      have ht : (xs.map bsOf).take xs.length = xs.map bsOf := List.take_of_length_le (by rw [List.length_map]; exact Nat.le_refl _)
      have hbb := hb xs.length
      rw [ht] at hbb ⊢
      have C := rmac_any wr key (bytesOf (allF (xs.map bsOf))) hk (by rw [bytesOf_size]; exact hs)
      rw [bsOf_bytesOf hbb] at C
      go_wp2_with (go_at_call 101; refine C.mono ?_; clear C; rintro e w2 ⟨rfl, t2⟩)
      go_ret
      exact ⟨rfl, tr.trans' t2⟩
end Go.Proofs.YtodehmognjofhaaGreat
