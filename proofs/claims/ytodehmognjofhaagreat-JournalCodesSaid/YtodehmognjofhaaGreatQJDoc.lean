/-
  The document's reader.
-/
import Derived.Test.YtodehmognjofhaaGreatQJGet
namespace Go.Proofs.YtodehmognjofhaaGreat
open Go.RowKit

def rdR (s : ByteArray) (a f : Int) : List Value := [.string s, .int .i64 a, .int .i64 f]
set_option maxRecDepth 100000 in
theorem rbytes_ok (w : World) (rb : Nat) (s : ByteArray) (a n : Nat) (hs : s.size < 1099511627776) (hl : a + n ≤ s.size) (hR : At w rb 103 (rdR s a 0)) :
    Calls Tryz.prog 89 #[.pointer (some ⟨rb, 0, none⟩), .int .i64 (n : Int)] w fun e w' => e = .returned (.string (s.extract a (a + n))) ∧ Touch [rb] w w' ∧ At w' rb 103 (rdR s ((a + n : Nat) : Int) 0) := by
  have c0 : w.cell? ⟨rb, 0, none⟩ = some (.string s) := hR.cell 0
  have c1 : w.cell? ⟨rb, 1, none⟩ = some (.int .i64 (a : Int)) := hR.cell 1
  have c2 : w.cell? ⟨rb, 2, none⟩ = some (.int .i64 0) := hR.cell 2
  have fr := fun o => hR.frozen o
  have j1 : IntKind.i64.wrap ((s.size : Int) - (a : Int)) = (s.size : Int) - (a : Int) := IntWalk.i64_in _ (by omega)
  have j2 : ¬ (n : Int) < 0 := by omega
  have j3 : ¬ (s.size : Int) - (a : Int) < (n : Int) := by omega
  have j4 : IntKind.i64.wrap ((a : Int) + (n : Int)) = ((a + n : Nat) : Int) := by rw [IntWalk.i64_in _ (by omega)]; omega
  have j6 : (a : Int) ≤ ((a + n : Nat) : Int) := by omega
  have j7 : ((a + n : Nat) : Int) ≤ (s.size : Int) := by omega
  have j8 : (0 : Int) ≤ (a : Int) := by omega
  have HR := Lib.hid hR
  clear hR
  go_enter Tryz.func89, Tryz.ntmps89
  go_wp2
  go_quiet (fail)
  go_wp2
  go_quiet (fail)
  go_wp2
  go_ret
  exact ⟨rfl, touch_dset w _ rb _ _, (show At (w.drewN _) _ _ _ from HR.out).set 1 (.int .i64 ((a + n : Nat) : Int))⟩
theorem leV_drop {l : List Nat} {k : Nat} (h : k < l.length) : leV (l.drop k) = l.getD k 0 + 256 * leV (l.drop (k + 1)) := by
  rw [List.drop_eq_getElem_cons h, List.getD_eq_getElem?_getD, List.getElem?_eq_getElem h]; rfl
set_option maxRecDepth 100000 in
set_option maxHeartbeats 1600000 in
theorem rrnum_any (w : World) (rb : Nat) (s : ByteArray) (a n : Nat) (hs : s.size < 1099511627776) (hl : a + n ≤ s.size) (hn : n ≤ 8) (hR : At w rb 103 (rdR s a 0)) :
    Calls Tryz.prog 54 #[.pointer (some ⟨rb, 0, none⟩), .int .i64 (n : Int)] w fun e w' => e = .returned (.int .u64 (leV (((bsOf s).drop a).take n) : Nat)) ∧ Touch [rb] w w' ∧ At w' rb 103 (rdR s ((a + n : Nat) : Int) 0) := by
  have C := rbytes_ok w rb s a n hs hl hR
  have hex := bsOf_extract s a (a + n)
  rw [Nat.add_sub_cancel_left] at hex
  have hxl : (s.extract a (a + n)).size = n := by rw [← bsOf_len, hex, List.length_take, List.length_drop, bsOf_len]; omega
  rw [← hex]
  generalize s.extract a (a + n) = y at C hxl
  clear hex hl hR
  subst hxl
  have hb := bsOf_bytes y
  have hyl := bsOf_len y
  go_enter Tryz.func54, Tryz.ntmps54
  have j0 : IntKind.i64.wrap ((y.size : Int) - 1) = (y.size : Int) - 1 := IntWalk.i64_in _ (by omega)
  go_wp2_with (go_at_call 89; refine C.mono ?_; clear C; rintro e w2 ⟨rfl, t2, hR2⟩)
  have HR2 := Lib.hid hR2
  clear hR2
  go_loopw [6, 7] (fun x i wr => wr = w2 ∧ ∃ k : Nat, k ≤ y.size ∧ i = .int .i64 ((k : Int) - 1) ∧ x = .int .u64 ((leV ((bsOf y).drop k) : Nat) : Int)) (fun _ i _ => (intOf i + 1).toNat)
  case atStart => exact ⟨rfl, y.size, Nat.le_refl _, rfl, by rw [List.drop_of_length_le (by omega)]; rfl⟩
  case round =>
    obtain ⟨rfl, k, hk, rfl, rfl⟩ := hrel
    by_cases hk0 : 0 < k
    · have hki : (0 : Int) ≤ (k : Int) - 1 := by omega
      obtain ⟨m, rfl⟩ : ∃ m, k = m + 1 := ⟨k - 1, by omega⟩
      have hm : ((m + 1 : Nat) : Int) - 1 = (m : Int) := by omega
      rw [hm] at hki ⊢
      have hms : m < y.size := by omega
      have hmi : (m : Int) < (y.size : Int) := by omega
      have h1 := leV_drop (l := bsOf y) (k := m) (by omega)
      have h2 := leV_lt ((bsOf y).drop (m + 1)) fun x hx => hb x (List.mem_of_mem_drop hx)
      have h3 : leV ((bsOf y).drop (m + 1)) < 72057594037927936 := Nat.lt_of_lt_of_le h2 (by
        rw [List.length_drop]
        exact Nat.le_trans (Nat.pow_le_pow_right (by decide) (show (bsOf y).length - (m + 1) ≤ 7 by omega)) (by decide))
      have hg := getD_lt hb (by decide) m
      have c0 : (y[m]'hms).toNat = (bsOf y).getD m 0 := (bsJ_at y hms).symm
      have st : bits .or .u64 (((leV ((bsOf y).drop (m + 1)) : Nat) : Int) * 256) (IntKind.u64.wrap (((bsOf y).getD m 0 : Nat) : Int)) = ((leV ((bsOf y).drop m) : Nat) : Int) := by
        rw [h1]
        generalize leV ((bsOf y).drop (m + 1)) = x at h3 ⊢
        generalize (bsOf y).getD m 0 = c at hg ⊢
        have e : IntKind.u64.wrap (c : Int) = (c : Int) := by rw [IntKind.wrap_u64]; omega
        have e2 : (x : Int) * 256 = ((x * 2 ^ 8 : Nat) : Int) := by omega
        rw [e, e2, bits_or_u64_nat _ _ (by omega) (by omega), Nat.or_comm, or_shl c x 8 (by omega)]
        congr 1; omega
      go_wp2
      have e3 : ∀ h, (bsOf y)[m]'h = (bsOf y).getD m 0 := fun h => by rw [List.getD_eq_getElem?_getD, List.getElem?_eq_getElem h]; rfl
      refine ⟨⟨trivial, m, by omega, rfl, ?_⟩, by simp [intOf]⟩
      rw [e3, st]
    · have hki : ¬ (0 : Int) ≤ (k : Int) - 1 := by omega
      obtain rfl : k = 0 := by omega
      go_wp2
      go_ret
      exact ⟨rfl, t2, HR2.out⟩
end Go.Proofs.YtodehmognjofhaaGreat
