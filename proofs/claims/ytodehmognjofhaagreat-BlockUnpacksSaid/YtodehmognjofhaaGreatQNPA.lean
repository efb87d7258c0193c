/-
  The program's tags of several texts: a text with its length.
-/
import Derived.Test.YtodehmognjofhaaGreatQNQC
import Derived.Test.YtodehmognjofhaaGreatQNQ4
import Derived.Test.YtodehmognjofhaaGreatQNMac
import Derived.Lib.AppendStr
import Derived.Test.YtodehmognjofhaaGreatQJA
namespace Go.Proofs.YtodehmognjofhaaGreat
open Go.RowKit

/-- the last k bytes of a length. -/
def tlB (n k : Nat) : List Nat := (List.range 8).map fun j => if 8 ≤ j + k then n / 2 ^ (8 * (7 - j)) % 256 else 0
theorem tlB_set (n : Nat) : ∀ {k : Nat}, k < 8 → (tlB n k).set (7 - k) (n / 2 ^ (8 * k) % 256) = tlB n (k + 1)
  | 0, _ => rfl
  | 1, _ => rfl
  | 2, _ => rfl
  | 3, _ => rfl
  | 4, _ => rfl
  | 5, _ => rfl
  | 6, _ => rfl
  | 7, _ => rfl
theorem tlB_end (n : Nat) : tlB n 8 = be8 n := rfl
theorem tlB_len (n k : Nat) : (tlB n k).length = 8 := by simp [tlB]
theorem tlB_bytes (n k : Nat) : Bytes (tlB n k) := by
  intro y hy
  obtain ⟨j, -, rfl⟩ := List.mem_map.1 hy
  show (if 8 ≤ j + k then n / 2 ^ (8 * (7 - j)) % 256 else 0) < 256
  split
  · exact Nat.mod_lt _ (by decide)
  · decide
set_option maxRecDepth 100000 in
set_option maxHeartbeats 1600000 in
theorem plong_any (w : World) (s : ByteArray) (hs : s.size < 1099511627776) : Calls Tryz.prog 97 #[.string s] w fun e w' => e = .returned (.string (bytesOf (longF (bsOf s)))) ∧ Touch [] w w' := by
  have HA0 := Lib.hid (At.new w 221 (bcells (tlB s.size 0)))
  go_enter Tryz.func97, Tryz.ntmps97
  go_wp2
  go_loopw [8] (fun i wr => ∃ k : Nat, k ≤ 8 ∧ i = .int .i64 (k : Int) ∧ Touch [] w wr ∧ Hid (At wr w.heap.size 221 (bcells (tlB s.size k)))) (fun i _ => 8 - (intOf i).toNat)
  case atStart => exact ⟨0, by omega, rfl, (Touch.refl [] w).alloc _, HA0⟩
  case round =>
    obtain ⟨k, hk', rfl, tr, HA⟩ := hrel
    by_cases hk8 : k < 8
    · have hki : (k : Int) < 8 := by omega
      have j0 : (0 : Int) ≤ (k : Int) := by omega
      have j2 : IntKind.i64.wrap (8 * (k : Int)) = ((8 * k : Nat) : Int) := by rw [IntWalk.i64_in _ (by omega)]; omega
      have j4 : IntKind.u64.wrap ((8 * k : Nat) : Int) = ((8 * k : Nat) : Int) := by rw [IntKind.wrap_u64]; omega
      have j3 : IntKind.i64.wrap (7 - (k : Int)) = ((7 - k : Nat) : Int) := by rw [IntWalk.i64_in _ (by omega)]; omega
      have j5 : ((7 - k : Nat) : Int) < 8 := by omega
      have hx : 7 - k < (tlB s.size k).length := by rw [tlB_len]; omega
      obtain ⟨v0, c0⟩ : ∃ v0, wr.cell? ⟨w.heap.size, 7 - k, none⟩ = some v0 := by refine ⟨.int .u8 (((tlB s.size k).getD (7 - k) 0 : Nat) : Int), ?_⟩; rw [HA.out.cell]; exact bcells_get (getD_some hx)
      have fr : wr.frozen? ⟨w.heap.size, 7 - k, none⟩ = false := HA.out.frozen _
      have h2 := HA.out.set (7 - k) (.int .u8 ((s.size / 2 ^ (8 * k) % 256 : Nat) : Int))
      rw [bcells_set', tlB_set _ hk8] at h2
      have H2 := Lib.hid h2
      clear h2
      clear hx
      generalize 7 - k = m at c0 fr j3 j5 H2
      go_wp2
      have ex : ((s.size : Int) / 2 ^ (8 * k) % 256) = ((s.size / 2 ^ (8 * k) % 256 : Nat) : Int) := by simp
      refine ⟨⟨k + 1, by omega, rfl, ?_, Lib.hid ?_⟩, by simp [intOf]; omega⟩
      · rw [ex]; exact tr.setCell _ (.inr (Nat.le_refl _)) _
      · rw [ex]; exact H2.out
    · have hki : ¬ (k : Int) < 8 := by omega
      obtain rfl : k = 8 := by omega
      have h8 := HA.out
      rw [tlB_end] at h8
      have cv := conv_at (P := Tryz.prog) (src := 36) (dst := 9) (e := 5) h8 (by rw [← tlB_end]; exact tlB_bytes _ _) 8 8 rfl Tryz.u8sT Tryz.underlying5 Tryz.underlying9
      have hb8 : (bytesOf (be8 s.size)).size = 8 := by rw [bytesOf_size]; rfl
      have HE : Hid (bytesOf (longF (bsOf s)) = bytesOf (be8 s.size) ++ s) := Lib.hid (by unfold longF; rw [bytesOf_append, bsOf_len, bytesOf_bsOf])
      have no1 : ¬ 9223372036854775807 < (bytesOf (be8 s.size)).size + s.size := by omega
      generalize bytesOf (be8 s.size) = b8 at cv hb8 no1 HE
      go_wp2
      go_ret
      exact ⟨by rw [HE.out]; rfl, tr⟩
end Go.Proofs.YtodehmognjofhaaGreat

namespace Go.Proofs.YtodehmognjofhaaGreat
open Go.RowKit

theorem wpList_call_fn {P : Program} {w : World} {ops : Array Oper} {rest : List Oper} {o : Oper} {ac : Act} {Q : Exit → Act → World → Prop} (hgd : o.guard = none) (f : FuncId) (args : Array Value) (hrun : (execOp ac.eval o).run P w = .ok (.enter f args) w)
    (R : Value → World → Prop) (hc : Calls P f args w fun e w' => ∃ v, e = .returned v ∧ R v w') (h : ∀ v w', R v w' → wpList P ops Q rest (ac.put o.dst v) w') : wpList P ops Q (o :: rest) ac w := by
  refine wpList_plain hgd fun K hK => ?_
  unfold Oper.wp
  rw [hrun, Oper.upon_enter]
  refine hc.mono fun e w' hv => ?_
  obtain ⟨v, rfl, hR⟩ := hv
  exact hK _ _ (h v w' hR)
theorem strCells_eq (s : ByteArray) : Lib.strCells s = bcells (bsOf s) := by
  unfold Lib.strCells bcells bsOf
  simp [List.map_map]
theorem own_conv {P : Program} {w : World} {base e : Nat} {v : Value} {l : List Nat} {src dst el : TypeId} (h : w.ownsRow base e 1 v l.length (bcells l)) (hn : 0 < l.length) (hs : P.underlying src = some (.slice el)) (he : P.underlying el = some (.int .u8)) (hd : P.underlying dst = some .string) :
    (convert src dst v).run P w = .ok (.string (bytesOf l)) w := by
  obtain ⟨h1, h2⟩ := id h
  rcases h2 with ⟨-, h3⟩ | ⟨g, cap, cur, rfl, -, hg, -, -, -, ht⟩
  · omega
  · have key := run_loadCells_list (P := P) w ⟨g, 0, none⟩ (bcells l) (fun j x hj => h.cells (g := g) rfl j x hj)
    rw [bcells_len] at key
    have key2 : (loadCells ⟨g, 0, none⟩ l.length).run P w = .ok ((l.map fun (y : Nat) => (y : Int)).map (Value.int .u8)).toArray w := by
      rw [key, List.map_map]; rfl
    rw [run_convert_bytes_string w _ _ _ _ _ _ hs he hd, run_bytesToString (P := P) w ⟨g, 0, none⟩ l.length cap _ key2, push_foldl]
    simp
theorem own_touch {w w' : World} {base e : Nat} {v : Value} {n : Nat} {xs : List Value} {l : List Nat} (h : w.ownsRow base e 1 v n xs) (t : Touch l w w') (hl : ∀ b ∈ l, b < base) : w'.ownsRow base e 1 v n xs := by
  obtain ⟨h1, h2⟩ := h
  refine ⟨h1, ?_⟩
  rcases h2 with h3 | ⟨g, cap, cur, rfl, hb, hg, h4⟩
  · exact .inl h3
  · exact .inr ⟨g, cap, cur, rfl, hb, (t.block g (Array.getElem?_eq_some_iff.1 hg).1 (fun hm => by have := hl g hm; omega)).trans hg, h4⟩
theorem own_grown {w w' : World} {base e : Nat} {v : Value} {n : Nat} {xs : List Value} {l : List Nat} {w0 : World} (h : w.ownsRow base e 1 v n xs) (g : w.grownBy w' v.ownBlock) (t : Touch l w0 w) (hb : w0.heap.size ≤ base) : Touch l w0 w' := by
  obtain ⟨h1, h2⟩ := h
  rcases h2 with ⟨rfl, -⟩ | ⟨b, cap, cur, rfl, hbg, hg, h4⟩
  · exact t.trans (Touch.grown (l := []) g (fun k hk => by cases hk)) (by simp)
  · exact t.trans (Touch.grown (l := [b]) g (fun k hk => by cases hk; simp)) (fun x hx => .inr (by rw [List.mem_singleton.1 hx]; omega))
set_option maxRecDepth 100000 in
set_option maxHeartbeats 1600000 in
theorem pall_any (w : World) (key : ByteArray) (lb cap : Nat) (xs : List ByteArray) (hk : key.size < 1099511627776) (hL : At w lb 9 (xs.map Value.string)) (hs : (allF (xs.map bsOf)).length < 1099511627000) (hn : xs.length < 1099511627776) (hne : 0 < xs.length) :
    Calls Tryz.prog 61 #[.string key, .slice (some ⟨lb, 0, none⟩) xs.length cap] w fun e w' => e = .returned (.string (bytesOf (macF (bsOf key) (allF (xs.map bsOf))))) ∧ Touch [] w w' := by
  have hb : ∀ k, Bytes (allF ((xs.map bsOf).take k)) := fun k => allF_bytes fun l hl => by
    obtain ⟨x, -, rfl⟩ := List.mem_map.1 (List.mem_of_mem_take hl)
    exact bsOf_bytes x
  obtain ⟨i0, hii, hz0, hz1, hz2⟩ := info_parts Tryz.infoU8
  have hlt := hL.lt
  have HL := Lib.hid hL
  clear hL
  go_enter Tryz.func61, Tryz.ntmps61
  go_wp2
  go_loopw [10, 5] (fun i t wr => ∃ (k : Nat) (v5 : Value), k ≤ xs.length ∧ i = .int .i64 (k : Int) ∧ t = v5 ∧ Touch [] w wr ∧ Hid (At wr lb 9 (xs.map Value.string)) ∧ Hid (wr.ownsRow w.heap.size 5 1 v5 (allF ((xs.map bsOf).take k)).length (bcells (allF ((xs.map bsOf).take k))))) (fun i _ _ => xs.length - (intOf i).toNat)
  case atStart => exact ⟨0, _, by omega, rfl, rfl, Touch.refl [] w, HL, Lib.hid ⟨rfl, .inl ⟨rfl, rfl⟩⟩⟩
  case round =>
    obtain ⟨k, v5, hk', rfl, rfl, tr, HA, HO⟩ := hrel
    by_cases hkn : k < xs.length
    · have hki : (k : Int) < (xs.length : Int) := by omega
      have j0 : (0 : Int) ≤ (k : Int) := by omega
      have hkm : k < (xs.map bsOf).length := by rw [List.length_map]; exact hkn
      have h1 := allF_take (xs.map bsOf) hkm
      have h2 := allF_le (xs.map bsOf) (k + 1)
      have h3 : (xs.map bsOf)[k] = bsOf xs[k] := by rw [List.getElem_map]
      rw [h3] at h1
      have h4 : (allF ((xs.map bsOf).take k)).length + (longF (bsOf xs[k])).length ≤ (allF (xs.map bsOf)).length := by
        rw [← List.length_append, ← h1]; exact h2
      have h5 : xs[k].size < 1099511627776 := by rw [longF_len, bsOf_len] at h4; omega
      have C := plong_any wr xs[k] h5
      have c0 : wr.cell? ⟨lb, k, none⟩ = some (.string xs[k]) := by rw [HA.out.cell, List.getElem?_map, List.getElem?_eq_getElem hkn]; rfl
      have hlb : Bytes (longF (bsOf xs[k])) := longF_bytes (bsOf_bytes _)
      have H1 := Lib.hid h1
      have H4 := Lib.hid h4
      have HY : Hid (bsOf (bytesOf (longF (bsOf xs[k]))) = longF (bsOf xs[k]) ∧ (bytesOf (longF (bsOf xs[k]))).size = (longF (bsOf xs[k])).length) := Lib.hid ⟨bsOf_bytesOf hlb, bytesOf_size _⟩
      clear h1 h2 h3 h4 h5 hb hlb hkm
      generalize longF (bsOf xs[k]) = lk at C H1 H4 HY
      generalize bytesOf lk = y at C HY
      generalize xs[k] = xk at C c0
      go_wp2_with ((refine wpList_call_fn (o := ⟨some 16, _, _, _, _, _⟩) rfl 97 #[.string xk] (by kernel_rfl) (fun v w' => v = .string y ∧ Touch [] wr w') (C.mono fun e w' h => ⟨_, h.1, rfl, h.2⟩) ?_; rintro v w2 ⟨rfl, t2⟩; have T2 := Lib.hid t2; have HO2 := Lib.hid (own_touch HO.out t2 (by simp)); clear t2; go_loud (refine Lib.wpList_append_own_string _ rfl (.tmp 14) (.tmp 16) 36 9 rfl w.heap.size 5 i0 Tryz.u8sT Tryz.underlying9 hii hz0 hz1 hz2 u5 _ _ rfl HO2.out y rfl (by have := HY.out.2; have := H4.out; simp only [maxLen]; omega) (by have := HY.out.2; have := H4.out; omega) (by have := tr.size; have := T2.out.size; omega) ?_); intro v6 w7 hR7 hg7 hnil7))
      refine ⟨⟨k + 1, v6, by omega, rfl, rfl, own_grown HO2.out hg7 (tr.trans' T2.out) (Nat.le_refl _), Lib.hid ?_, Lib.hid ?_⟩, by simp [intOf]; omega⟩
      · have h2 := HA.out.touch T2.out (by simp)
        refine (hg7.block lb h2.lt ?_).trans h2
        intro e
        have := (HO2.out.lt lb e.symm).1
        omega
      · rw [H1.out, List.length_append, bcells_append, ← HY.out.2]
        rw [strCells_eq, HY.out.1] at hR7
        exact hR7
    · have hki : ¬ (k : Int) < (xs.length : Int) := by omega
      obtain rfl : k = xs.length := by omega
      have ht : (xs.map bsOf).take xs.length = xs.map bsOf := List.take_of_length_le (by rw [List.length_map]; exact Nat.le_refl _)
      have hbb := hb xs.length
      rw [ht] at hbb HO
      have hpos : 0 < (allF (xs.map bsOf)).length := by
        cases xs with
        | nil => simp at hne
        | cons x xs =>
          unfold allF
          rw [List.map_cons, List.flatMap_cons, List.length_append, longF_len]
          omega
      have hcv := own_conv (P := Tryz.prog) (src := 36) (dst := 9) (el := 5) HO.out hpos Tryz.u8sT Tryz.underlying5 Tryz.underlying9
      have C := mac_any wr key (bytesOf (allF (xs.map bsOf))) (by omega) (by rw [bytesOf_size]; omega)
      rw [bsOf_bytesOf hbb] at C
      obtain ⟨M, hM⟩ : ∃ M, M = macF (bsOf key) (allF (xs.map bsOf)) := ⟨_, rfl⟩
      rw [← hM] at C
      have HM := Lib.hid hM
      clear hM
      generalize bytesOf (allF (xs.map bsOf)) = X at C hcv
      go_wp2_with (go_at_call 98; refine C.mono ?_; clear C; rintro e w2 ⟨rfl, t2⟩)
      go_ret
      exact ⟨by rw [← HM.out]; rfl, tr.trans' t2⟩
end Go.Proofs.YtodehmognjofhaaGreat

namespace Go.Proofs.YtodehmognjofhaaGreat
open Go.RowKit

theorem bytes_ext {a b : ByteArray} (h : a.size = b.size) (he : ∀ j, j < a.size → (bsOf a).getD j 0 = (bsOf b).getD j 0) : a = b := by
  have e : bsOf a = bsOf b := by
    apply List.ext_getElem?
    intro j
    by_cases hj : j < a.size
    · have := he j hj
      rw [List.getD_eq_getElem?_getD, List.getD_eq_getElem?_getD, List.getElem?_eq_getElem (by rw [bsOf_len]; omega), List.getElem?_eq_getElem (by rw [bsOf_len]; omega)] at this
      rw [List.getElem?_eq_getElem (by rw [bsOf_len]; omega), List.getElem?_eq_getElem (by rw [bsOf_len]; omega)]
      simpa using this
    · rw [List.getElem?_eq_none (by rw [bsOf_len]; omega), List.getElem?_eq_none (by rw [bsOf_len]; omega)]
  rw [← bytesOf_bsOf a, e, bytesOf_bsOf]
theorem or_xor_zero {x p q : Nat} : (x ||| (p ^^^ q)) = 0 ↔ x = 0 ∧ p = q := by
  rw [Nat.or_eq_zero_iff]
  refine and_congr_right fun _ => ⟨fun h => ?_, fun h => by rw [h, Nat.xor_self]⟩
  have := congrArg (· ^^^ q) h
  simpa [Nat.xor_assoc] using this
set_option maxRecDepth 100000 in
set_option maxHeartbeats 1600000 in
theorem psame_any (w : World) (a b : ByteArray) (ha : a.size = 32) (hb : b.size = 32) : Calls Tryz.prog 90 #[.string a, .string b] w fun e w' => e = .returned (.bool (decide (a = b))) ∧ Touch [] w w' := by
  have hai : (a.size : Int) = 32 := by omega
  have hbi : (b.size : Int) = 32 := by omega
  go_enter Tryz.func90, Tryz.ntmps90
  go_wp2
  go_loopw [12, 5] (fun i t wr => ∃ (k x : Nat), k ≤ 32 ∧ i = .int .i64 (k : Int) ∧ t = .int .u8 (x : Int) ∧ x < 256 ∧ Touch [] w wr ∧ Hid (x = 0 ↔ ∀ j, j < k → (bsOf a).getD j 0 = (bsOf b).getD j 0)) (fun i _ _ => 32 - (intOf i).toNat)
  case atStart => exact ⟨0, 0, by omega, rfl, rfl, by decide, Touch.refl [] w, Lib.hid ⟨fun _ j hj => by omega, fun _ => rfl⟩⟩
  case round =>
    obtain ⟨k, x, hk, rfl, rfl, hx, tr, HX⟩ := hrel
    by_cases hkn : k < 32
    · have hki : (k : Int) < 32 := by omega
      have j0 : (0 : Int) ≤ (k : Int) := by omega
      have hka : k < a.size := by omega
      have hkb : k < b.size := by omega
      have h1 := bsJ_at a hka
      have h2 := bsJ_at b hkb
      have hp := getD_lt (bsOf_bytes a) (by decide) k
      have hq := getD_lt (bsOf_bytes b) (by decide) k
      obtain ⟨p, hpe⟩ : ∃ p, p = (bsOf a).getD k 0 := ⟨_, rfl⟩
      obtain ⟨q, hqe⟩ : ∃ q, q = (bsOf b).getD k 0 := ⟨_, rfl⟩
      rw [← hpe] at h1 hp
      rw [← hqe] at h2 hq
      have c1 : (a[k]'hka).toNat = p := h1.symm
      have c2 : (b[k]'hkb).toNat = q := h2.symm
      have HP := Lib.hid hpe
      have HQ := Lib.hid hqe
      have e1 := u8_xor_nat p q hp hq
      have e2 := u8_or_nat x (p ^^^ q) hx (xlt hp hq)
      clear hpe hqe h1 h2
      go_wp2
      go_quiet (fail)
      go_wp2
      have hlt : x ||| (p ^^^ q) < 256 := Nat.or_lt_two_pow (n := 8) hx (xlt hp hq)
      refine ⟨⟨k + 1, x ||| (p ^^^ q), by omega, rfl, by first | rfl | rw [e2], hlt, tr.drewN _, Lib.hid ?_⟩, by simp [intOf]; omega⟩
      rw [or_xor_zero, HX.out]
      constructor
      · rintro ⟨h3, h4⟩ j hj
        by_cases e : j = k
        · subst e; rw [← HP.out, ← HQ.out]; exact h4
        · exact h3 j (by omega)
      · intro h3
        refine ⟨fun j hj => h3 j (by omega), ?_⟩
        rw [HP.out, HQ.out]
        exact h3 k (by omega)
    · have hki : ¬ (k : Int) < 32 := by omega
      obtain rfl : k = 32 := by omega
      by_cases h0 : x = 0
      · have hab : a = b := bytes_ext (by omega) (by rw [ha]; exact HX.out.1 h0)
        subst h0
        have hd : decide (a = b) = true := decide_eq_true hab
        have HD := Lib.hid hd
        clear hd hab
        go_wp2
        go_ret
        exact ⟨by rw [HD.out]; rfl, tr⟩
      · have hab : ¬ a = b := fun h => h0 (HX.out.2 (by rw [h]; intro j _; rfl))
        have hd : decide (a = b) = false := decide_eq_false hab
        have h0i : ¬ (x : Int) = 0 := by omega
        have h0b : ((x : Int) == 0) = false := by rw [beq_eq_false_iff_ne]; exact h0i
        have HD := Lib.hid hd
        clear hd hab
        go_wp2
        go_ret
        exact ⟨by rw [HD.out]; rfl, tr⟩
end Go.Proofs.YtodehmognjofhaaGreat
