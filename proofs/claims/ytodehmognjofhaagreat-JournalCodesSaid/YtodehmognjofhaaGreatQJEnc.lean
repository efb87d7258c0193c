/-
  A record's bytes: the document's.
-/
import Derived.Test.YtodehmognjofhaaGreatQJMayR
import Derived.Test.YtodehmognjofhaaGreatQJNum
namespace Go.Proofs.YtodehmognjofhaaGreat
open Go.RowKit

def encS (R : RecJ) : ByteArray := if mayR R then bytesOf (encR R) else ByteArray.empty
def encE (R : RecJ) : Int := if mayR R then 0 else 2
def headE (R : RecJ) : ByteArray := ((bytesOf (leL 8 R.ep) ++ R.root) ++ R.sum) ++ bytesOf (leL 2 R.bl.length)
theorem blE_take (l : List Int) {k : Nat} (h : k < l.length) : blE (l.take (k + 1)) = blE (l.take k) ++ leL 4 (l.getD k 0).toNat := by
  unfold blE
  rw [List.take_succ_eq_append_getElem h, List.flatMap_append, List.getD_eq_getElem?_getD, List.getElem?_eq_getElem h]
  simp
theorem headE_all (R : RecJ) : headE R ++ bytesOf (blE R.bl) = bytesOf (encR R) := by
  unfold headE encR
  simp only [bytesOf_append, bytesOf_bsOf, ByteArray.append_assoc]
theorem headE_size (R : RecJ) (h1 : R.root.size = 32) (h2 : R.sum.size = 32) : (headE R).size = 74 := by
  unfold headE
  simp only [ByteArray.size_append, bytesOf_size, leL_len, h1, h2]
theorem app_nil (H : ByteArray) : H ++ bytesOf [] = H := by
  apply ByteArray.ext
  simp [bytesOf]
set_option maxRecDepth 100000 in
set_option maxHeartbeats 1600000 in
theorem renc_any (w : World) (v : Value) (R : RecJ) (h : RecV w v R) (hep : R.ep < 18446744073709551616) : Calls Tryz.prog 14 #[v] w fun e w' => e = .returned (.tuple #[.string (encS R), .int .i64 (encE R)]) ∧ Touch [] w w' := by
  obtain ⟨a, n, cap, rfl, hN⟩ := h
  have hlen := hN.len
  have CM := fun W (t : Touch [] w W) => rmay_any W (.agg #[.int .u64 (R.ep : Int), .string R.root, .string R.sum, .slice a n cap]) R ⟨a, n, cap, rfl, hN.touch t⟩
  have HN := Lib.hid hN
  clear hN
  by_cases hm : mayR R
  · rw [decide_eq_true hm] at CM
    have e1 : Hid (encS R = bytesOf (encR R)) := Lib.hid (if_pos hm)
    have e2 : encE R = 0 := if_pos hm
    rw [e2]
    obtain ⟨m0, m1, m2, m3, m4⟩ := hm
    have hs := Lib.hid (headE_size R m1 m2)
    have ha := Lib.hid (headE_all R)
    have hh : Hid (headE R = ((bytesOf (leL 8 R.ep) ++ R.root) ++ R.sum) ++ bytesOf (leL 2 n)) := Lib.hid (by unfold headE; rw [hlen])
    have HM := Lib.hid m4
    generalize hS : encS R = S at e1 ⊢
    generalize hE : bytesOf (encR R) = E at e1 ha
    generalize hH : headE R = H at hs ha hh
    obtain ⟨ep, root, sum, bl⟩ := R
    simp only at hlen hep m1 m2 m3 HM HN CM hh ha ⊢
    rw [hlen] at m3
    clear hS hE hH m0 e2
    have n8 : (bytesOf (leL 8 ep)).size = 8 := by rw [bytesOf_size, leL_len]
    have n2 : (bytesOf (leL 2 n)).size = 2 := by rw [bytesOf_size, leL_len]
    have no1 : ¬ 9223372036854775807 < (bytesOf (leL 8 ep)).size + root.size := by omega
    have no2 : ¬ 9223372036854775807 < (bytesOf (leL 8 ep) ++ root).size + sum.size := by rw [ByteArray.size_append]; omega
    have no3 : ¬ 9223372036854775807 < ((bytesOf (leL 8 ep) ++ root) ++ sum).size + (bytesOf (leL 2 n)).size := by rw [ByteArray.size_append, ByteArray.size_append]; omega
    have jn : IntKind.u64.wrap (n : Int) = (n : Int) := by rw [IntKind.wrap_u64]; omega
    have C8 := fun W => rnum_any W ep 8 hep (.inr (.inr rfl))
    have C2 := fun W => rnum_any W n 2 (by omega) (.inl rfl)
    generalize bytesOf (leL 8 ep) = A8 at C8 n8 no1 no2 no3 hh
    generalize bytesOf (leL 2 n) = A2 at C2 n2 no3 hh
    have no4 : ¬ 9223372036854775807 < A8.size + root.size + sum.size := by omega
    have no5 : ¬ 9223372036854775807 < A8.size + root.size + sum.size + A2.size := by omega
    have C8 := Lib.hid C8
    have C2 := Lib.hid C2
    clear n8 n2 m1 m2 m4
    go_enter Tryz.func14, Tryz.ntmps14
    go_upto_region 3 with (go_at_call 46; refine (CM _ ((Touch.refl _ w).alloc _)).mono ?_; clear CM; rintro e w2 ⟨rfl, t2⟩)
    have HB := Lib.hid ((At.new w 40 [.int .u64 (ep : Int), .string root, .string sum, .slice a n cap]).touch t2 (by simp))
    have T2 := Lib.hid (((Touch.refl [] w).alloc (.cells #[.int .u64 (ep : Int), .string root, .string sum, .slice a n cap] 40)).trans' t2)
    clear t2
    generalize hrb : w.heap.size = rb at HB ⊢
    clear hrb
    have c0 : w2.cell? ⟨rb, 0, none⟩ = some (.int .u64 (ep : Int)) := HB.out.cell 0
    have c1 : w2.cell? ⟨rb, 1, none⟩ = some (.string root) := HB.out.cell 1
    have c2 : w2.cell? ⟨rb, 2, none⟩ = some (.string sum) := HB.out.cell 2
    have c3 : w2.cell? ⟨rb, 3, none⟩ = some (.slice a n cap) := HB.out.cell 3
    have hK := And.intro c0 (And.intro c1 (And.intro c2 c3))
    go_cut [4] (fun s wx => s = .string H ∧ Touch [] w wx ∧ Hid (At wx rb 40 [.int .u64 (ep : Int), .string root, .string sum, .slice a n cap]))
    case first =>
      have tok1 : True := trivial
      go_region_held3 (fun W => W.cell? ⟨rb, 0, none⟩ = some (.int .u64 (ep : Int)) ∧ W.cell? ⟨rb, 1, none⟩ = some (.string root) ∧ W.cell? ⟨rb, 2, none⟩ = some (.string sum) ∧ W.cell? ⟨rb, 3, none⟩ = some (.slice a n cap)) (first | assumption | go_keep) (first | (go_at_call 30; have _t := tok1; refine (C8.out _).mono ?_; clear _t; rintro e w5 ⟨rfl, t5⟩; clear tok1; have tok2 : True := trivial; have HB5 := Lib.hid (HB.out.drew.touch t5 (by simp)); have hK5 : w5.cell? ⟨rb, 0, none⟩ = some (.int .u64 (ep : Int)) ∧ w5.cell? ⟨rb, 1, none⟩ = some (.string root) ∧ w5.cell? ⟨rb, 2, none⟩ = some (.string sum) ∧ w5.cell? ⟨rb, 3, none⟩ = some (.slice a n cap) := ⟨HB5.out.cell 0, HB5.out.cell 1, HB5.out.cell 2, HB5.out.cell 3⟩) | (go_at_call 30; have _t := tok2; refine (C2.out _).mono ?_; clear _t tok2; rintro e w6 ⟨rfl, t6⟩; have HB6 := Lib.hid (HB5.out.touch t6 (by simp)); have hK6 : w6.cell? ⟨rb, 0, none⟩ = some (.int .u64 (ep : Int)) ∧ w6.cell? ⟨rb, 1, none⟩ = some (.string root) ∧ w6.cell? ⟨rb, 2, none⟩ = some (.string sum) ∧ w6.cell? ⟨rb, 3, none⟩ = some (.slice a n cap) := ⟨HB6.out.cell 0, HB6.out.cell 1, HB6.out.cell 2, HB6.out.cell 3⟩))
      all_goals go_wp2_with fail
      all_goals (go_meet; exact ⟨by rw [hh.out], ((T2.out.drew).trans' t5).trans' t6, HB6⟩)
    case rest =>
      obtain ⟨rfl, t7, hB7⟩ := hcut
      have T7 := Lib.hid t7
      clear t7 C8 C2 c0 c1 c2 c3 hK no1 no2 no3 no4 no5 hh HB
      go_wp2_with fail
      go_loopw [4, 5] (fun t i wr => ∃ k : Nat, k ≤ n ∧ i = .int .i64 (k : Int) ∧ t = .string (H ++ bytesOf (blE (bl.take k))) ∧ Touch [] w wr ∧ Hid (At wr rb 40 [.int .u64 (ep : Int), .string root, .string sum, .slice a n cap])) (fun _ i _ => n - (intOf i).toNat)
      case atStart => exact ⟨0, Nat.zero_le _, rfl, by rw [List.take_zero]; exact congrArg Value.string (app_nil H).symm, T7.out, hB7⟩
      case round =>
        obtain ⟨k, hk, rfl, rfl, tr, HB⟩ := hrel
        have cB : wr.cell? ⟨rb, 3, none⟩ = some (.slice a n cap) := HB.out.cell 3
        by_cases hkn : k < n
        · have hki : (k : Int) < (n : Int) := by omega
          have j0 : (0 : Int) ≤ (k : Int) := by omega
          obtain ⟨b, off, rfl, -, hc⟩ := (HN.out.touch tr).at_ (by omega)
          have ck := hc k hkn
          obtain ⟨p1, p2, -⟩ := HM.out k (by omega)
          have hbt := blE_take bl (k := k) (by omega)
          obtain ⟨q, hq⟩ : ∃ q : Nat, bl.getD k 0 = (q : Int) := ⟨(bl.getD k 0).toNat, by omega⟩
          rw [hq] at ck p2 hbt
          rw [Int.toNat_natCast] at hbt
          have jq : IntKind.u64.wrap (q : Int) = (q : Int) := by rw [IntKind.wrap_u64]; omega
          have C4 := rnum_any wr q 4 (by omega) (.inr (.inl rfl))
          have hl : (blE (bl.take k)).length ≤ 128 := by rw [blE_len, List.length_take]; omega
          have nl := leL_len 4 q
          have no4 : ¬ 9223372036854775807 < (H ++ bytesOf (blE (bl.take k))).size + (bytesOf (leL 4 q)).size := by rw [ByteArray.size_append, bytesOf_size, bytesOf_size, hs.out]; omega
          have hnx : Hid (H ++ bytesOf (blE (bl.take (k + 1))) = (H ++ bytesOf (blE (bl.take k))) ++ bytesOf (leL 4 q)) := Lib.hid (by rw [hbt, bytesOf_append, ByteArray.append_assoc])
          generalize H ++ bytesOf (blE (bl.take k)) = X at no4 hnx ⊢
          generalize bytesOf (leL 4 q) = Y at no4 hnx C4
          clear hc hl nl hbt p1 p2
          go_wp2_with (go_at_call 30; refine C4.mono ?_; clear C4; rintro e w6 ⟨rfl, t6⟩)
          exact ⟨⟨k + 1, by omega, rfl, by rw [hnx.out], tr.trans' t6, Lib.hid (HB.out.touch t6 (by simp))⟩, by simp [intOf]; omega⟩
        · have hki : ¬ (k : Int) < (n : Int) := by omega
          obtain rfl : k = n := by omega
          have ht : Hid (H ++ bytesOf (blE (bl.take k)) = S) := Lib.hid (by rw [List.take_of_length_le (by omega), ha.out, e1.out])
          generalize H ++ bytesOf (blE (bl.take k)) = X at ht ⊢
          go_wp2_with fail
          go_ret2
          exact ⟨by rw [ht.out]; rfl, tr⟩
  · rw [decide_eq_false hm] at CM
    have e1 : encS R = ByteArray.empty := if_neg hm
    have e2 : encE R = 2 := if_neg hm
    rw [e1, e2]
    clear e1 e2 hm
    go_enter Tryz.func14, Tryz.ntmps14
    go_wp2_with (go_at_call 46; refine (CM _ ((Touch.refl _ w).alloc _)).mono ?_; clear CM; rintro e w2 ⟨rfl, t2⟩)
    go_ret2
    exact ⟨rfl, ((Touch.refl [] w).alloc _).trans' t2⟩
end Go.Proofs.YtodehmognjofhaaGreat
