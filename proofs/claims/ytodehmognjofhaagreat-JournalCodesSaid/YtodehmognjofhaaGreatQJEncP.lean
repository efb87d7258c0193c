/-
  A record's bytes: the program's.
-/
import Derived.Test.YtodehmognjofhaaGreatQJEnc
import Derived.Test.YtodehmognjofhaaGreatQJPut
import Derived.Test.YtodehmognjofhaaGreatQJPutS
namespace Go.Proofs.YtodehmognjofhaaGreat
open Go.RowKit

/-- the texts that are put together. -/
def putsE (R : RecJ) (k : Nat) : List ByteArray := [bytesOf (leL 8 R.ep), R.root, R.sum, bytesOf (leL 2 R.bl.length)] ++ (R.bl.take k).map fun z => bytesOf (leL 4 z.toNat)
theorem putsE_len (R : RecJ) {k : Nat} (h : k ≤ R.bl.length) : (putsE R k).length = 4 + k := by
  unfold putsE
  rw [List.length_append, List.length_map, List.length_take, Nat.min_eq_left h]; rfl
theorem putsE_succ (R : RecJ) {k : Nat} (h : k < R.bl.length) : putsE R (k + 1) = putsE R k ++ [bytesOf (leL 4 (R.bl.getD k 0).toNat)] := by
  unfold putsE
  rw [List.take_succ_eq_append_getElem h, List.map_append, List.append_assoc, List.getD_eq_getElem?_getD, List.getElem?_eq_getElem h]; rfl
theorem putsE_all (R : RecJ) : (putsE R R.bl.length).flatMap bsOf = encR R := by
  have e : ∀ l : List Int, (l.map fun z => bytesOf (leL 4 z.toNat)).flatMap bsOf = blE l := by
    intro l
    induction l with
    | nil => rfl
    | cons z l ih =>
      rw [List.map_cons, List.flatMap_cons, ih, bsOf_bytesOf (leL_bytes _ _)]; rfl
  unfold putsE encR
  rw [List.take_length, List.flatMap_append, e]
  simp only [List.flatMap_cons, List.flatMap_nil, List.append_nil, bsOf_bytesOf (leL_bytes _ _), List.append_assoc]
theorem Tryz.strsT : Tryz.prog.underlying 81 = some (.slice 9) := by kernel_rfl
theorem Tryz.infoStr : (Tryz.prog.info? 9).map (fun i => (i.zero, i.size, i.bytes)) = some (some (.string ByteArray.empty), 1, 16) := by kernel_rfl
set_option maxRecDepth 100000 in
set_option maxHeartbeats 1600000 in
theorem jenc_any (w : World) (v : Value) (R : RecJ) (h : RecV w v R) (hep : R.ep < 18446744073709551616) : Calls Tryz.prog 13 #[v] w fun e w' => e = .returned (.tuple #[.string (encS R), .int .i64 (encE R)]) ∧ Touch [] w w' := by
  obtain ⟨a, n, cap, rfl, hN⟩ := h
  have hlen := hN.len
  have CM := fun W (t : Touch [] w W) => jmay_any W (.agg #[.int .u64 (R.ep : Int), .string R.root, .string R.sum, .slice a n cap]) R ⟨a, n, cap, rfl, hN.touch t⟩
  have HN := Lib.hid hN
  clear hN
  by_cases hm : mayR R
  · rw [decide_eq_true hm] at CM
    have e1 : Hid (encS R = bytesOf (encR R)) := Lib.hid (if_pos hm)
    have e2 : encE R = 0 := if_pos hm
    rw [e2]
    obtain ⟨m0, m1, m2, m3, m4⟩ := hm
    have HM := Lib.hid m4
    have el := encR_len R
    have pl := Lib.hid fun k (h : k ≤ R.bl.length) => putsE_len R h
    have ps := Lib.hid fun k (h : k < R.bl.length) => putsE_succ R h
    have pa := Lib.hid (putsE_all R)
    have p0 : Hid (putsE R 0 = [bytesOf (leL 8 R.ep), R.root, R.sum, bytesOf (leL 2 R.bl.length)]) := Lib.hid rfl
    have EL := Lib.hid (show (encR R).length ≤ 140737488355328 by omega)
    generalize encS R = S at e1 ⊢
    generalize encR R = E at e1 pa EL
    generalize putsE R = PK at pl ps pa p0
    obtain ⟨ep, root, sum, bl⟩ := R
    simp only at hlen hep m1 m2 m3 HM HN CM pl ps pa p0 ⊢
    rw [hlen] at m3 pl ps pa p0
    have jn : IntKind.u16.wrap (n : Int) = (n : Int) := by rw [IntKind.wrap_u16]; omega
    have C8 := Lib.hid fun W => U64_any W ep hep
    have C2 := Lib.hid fun W => U16_any W n (by omega)
    generalize bytesOf (leL 8 ep) = A8 at C8 p0
    generalize bytesOf (leL 2 n) = A2 at C2 p0
    clear m0 m1 m2 m4 e2 el
    go_enter Tryz.func13, Tryz.ntmps13
    go_upto_region 3 with (go_at_call 42; refine (CM _ ((Touch.refl _ w).alloc _)).mono ?_; clear CM; rintro e w2 ⟨rfl, t2⟩)
    have HB := Lib.hid ((At.new w 40 [.int .u64 (ep : Int), .string root, .string sum, .slice a n cap]).touch t2 (by simp))
    have T2 := Lib.hid (((Touch.refl [] w).alloc (.cells #[.int .u64 (ep : Int), .string root, .string sum, .slice a n cap] 40)).trans' t2)
    clear t2
    obtain ⟨rb, hrb⟩ : ∃ rb, rb = w.heap.size := ⟨_, rfl⟩
    have HRB := Lib.hid hrb
    rw [← hrb] at HB ⊢
    clear hrb
    have c0 : w2.cell? ⟨rb, 0, none⟩ = some (.int .u64 (ep : Int)) := HB.out.cell 0
    have c1 : w2.cell? ⟨rb, 1, none⟩ = some (.string root) := HB.out.cell 1
    have c2 : w2.cell? ⟨rb, 2, none⟩ = some (.string sum) := HB.out.cell 2
    have c3 : w2.cell? ⟨rb, 3, none⟩ = some (.slice a n cap) := HB.out.cell 3
    have hK := And.intro c0 (And.intro c1 (And.intro c2 c3))
    go_cut [4] (fun l wx => ∃ lb, l = .slice (some ⟨lb, 0, none⟩) 4 4 ∧ rb ≤ lb ∧ Touch [] w wx ∧ Hid (At wx lb 9 ([A8, root, sum, A2].map Value.string)) ∧ Hid (At wx rb 40 [.int .u64 (ep : Int), .string root, .string sum, .slice a n cap]))
    case first =>
      have tok1 : True := trivial
      go_region_held3 (fun W => W.cell? ⟨rb, 0, none⟩ = some (.int .u64 (ep : Int)) ∧ W.cell? ⟨rb, 1, none⟩ = some (.string root) ∧ W.cell? ⟨rb, 2, none⟩ = some (.string sum) ∧ W.cell? ⟨rb, 3, none⟩ = some (.slice a n cap)) (first | assumption | go_keep) (first | (go_at_call 26; have _t := tok1; refine (C8.out _).mono ?_; clear _t; rintro e w5 ⟨rfl, t5⟩; clear tok1; have tok2 : True := trivial; have HB5 := Lib.hid (HB.out.drew.touch t5 (by simp)); have hK5 : w5.cell? ⟨rb, 0, none⟩ = some (.int .u64 (ep : Int)) ∧ w5.cell? ⟨rb, 1, none⟩ = some (.string root) ∧ w5.cell? ⟨rb, 2, none⟩ = some (.string sum) ∧ w5.cell? ⟨rb, 3, none⟩ = some (.slice a n cap) := ⟨HB5.out.cell 0, HB5.out.cell 1, HB5.out.cell 2, HB5.out.cell 3⟩) | (go_at_call 43; have _t := tok2; refine (C2.out _).mono ?_; clear _t tok2; rintro e w6 ⟨rfl, t6⟩; have HB6 := Lib.hid (HB5.out.touch t6 (by simp)); have hK6 : w6.cell? ⟨rb, 0, none⟩ = some (.int .u64 (ep : Int)) ∧ w6.cell? ⟨rb, 1, none⟩ = some (.string root) ∧ w6.cell? ⟨rb, 2, none⟩ = some (.string sum) ∧ w6.cell? ⟨rb, 3, none⟩ = some (.slice a n cap) := ⟨HB6.out.cell 0, HB6.out.cell 1, HB6.out.cell 2, HB6.out.cell 3⟩))
      all_goals go_wp2_with fail
      all_goals (go_meet; exact ⟨_, rfl, by have := HB6.out.lt; omega, (((T2.out.drew).trans' t5).trans' t6).alloc _, Lib.hid (At.new _ _ _), Lib.hid (HB6.out.alloc _)⟩)
    case rest =>
      obtain ⟨lb, rfl, hge, t7, hL, hB7⟩ := hcut
      have T7 := Lib.hid t7
      have c3 : wc.cell? ⟨rb, 3, none⟩ = some (.slice a n cap) := hB7.out.cell 3
      clear t7 C8 C2 c0 c1 c2 hK HB
      have R0 : Row wc 9 1 (some ⟨lb, 0, none⟩) 4 4 [lb] ((PK 0).map Value.string) := by
        rw [p0.out]
        exact ⟨rfl, Nat.le_refl _, by decide, .inr ⟨lb, 0, _, rfl, rfl, hL.out, Nat.le_refl _, rfl⟩⟩
      have HR0 := Lib.hid R0
      clear R0
      obtain ⟨i0, hii, hz0, hz1, hz2⟩ := info_parts Tryz.infoStr
      go_wp2_with fail
      go_loopw [4, 26] (fun l i wr => ∃ (k : Nat) (a' : Option Addr) (cp : Nat) (own : List Nat), k ≤ n ∧ i = .int .i64 (k : Int) ∧ l = .slice a' (4 + k) cp ∧ Touch [] w wr ∧ Hid (Row wr 9 1 a' (4 + k) cp own ((PK k).map Value.string)) ∧ Hid (∀ x ∈ own, rb ≤ x)) (fun _ i _ => n - (intOf i).toNat)
      case atStart => exact ⟨0, _, 4, [lb], Nat.zero_le _, rfl, rfl, T7.out, HR0, Lib.hid (by intro x hx; rw [List.mem_singleton.1 hx]; exact hge)⟩
      case round =>
        obtain ⟨k, a', cp, own, hk, rfl, rfl, tr, HR, HO⟩ := hrel
        by_cases hkn : k < n
        · have hki : (k : Int) < (n : Int) := by omega
          have j0 : (0 : Int) ≤ (k : Int) := by omega
          obtain ⟨b, off, rfl, -, hc⟩ := (HN.out.touch tr).at_ (by omega)
          have ck := hc k hkn
          obtain ⟨p1, p2, -⟩ := HM.out k (by omega)
          have hps := ps.out k hkn
          obtain ⟨q, hq⟩ : ∃ q : Nat, bl.getD k 0 = (q : Int) := ⟨(bl.getD k 0).toNat, by omega⟩
          rw [hq] at ck p2 hps
          rw [Int.toNat_natCast] at hps
          have jq : IntKind.u32.wrap (q : Int) = (q : Int) := by rw [IntKind.wrap_u32]; omega
          have jq2 : (q : Int) % 4294967296 = (q : Int) := by omega
          have C4 := U32_any wr q (by omega)
          have HPS := Lib.hid hps
          generalize bytesOf (leL 4 q) = Y at HPS C4
          have HP : ∀ (W : World) (b : Nat), W.cell? ⟨b, 0, none⟩ = some (.string Y) → ∀ j u, [Value.string Y][j]? = some u → W.cell? ((⟨b, 0, none⟩ : Addr).add j) = some u := by
            intro W b y j u hj
            cases j with
            | zero => simp at hj; subst hj; rw [Addr.add_lit]; exact y
            | succ j => simp at hj
          have HP := Lib.hid HP
          have hown := HR.out.lt
          have HW := Lib.hid hown
          clear hc hps p1 p2 hown
          go_wp2_with (first | (go_at_call 44; refine C4.mono ?_; clear C4; rintro e w6 ⟨rfl, t6⟩; have T6 := Lib.hid t6; have HR6 := Lib.hid (HR.out.touch t6 (by simp)); clear t6) | (refine wpList_append_row _ rfl (.tmp 30) (.tmp 34) 81 rfl 9 i0 _ 1 16 Tryz.strsT hii hz0 hz1 hz2 rfl (by decide) a' (4 + k) cp own ((PK k).map Value.string) rfl (HR6.out.alloc _) (some ⟨w6.heap.size, 0, none⟩) 1 1 [Value.string Y] rfl rfl (.inr ⟨_, rfl, HP.out _ _ ((At.new w6 9 [Value.string Y]).cell 0)⟩) (by simp [Value.oneCell']) (by simp only [maxLen]; omega) (by omega) ?_; intro a2 cap2 own2 w7 hR7 t7 ho7 hz7 hn7))
          refine ⟨⟨k + 1, a2, cap2, own2, by omega, rfl, rfl, ?_, Lib.hid ?_, Lib.hid ?_⟩, by simp [intOf]; omega⟩
          · exact (tr.trans' (T6.out.alloc _)).trans t7 (fun x hx => .inr (by have := HO.out x hx; have := HRB.out; omega))
          · rw [HPS.out, List.map_append]
            exact hR7
          · intro x hx
            rcases ho7 with rfl | rfl
            · exact HO.out x hx
            · rw [List.mem_singleton.1 hx]
              have h1 := tr.size
              have h2 := T6.out.size
              have h3 := HRB.out
              simp only [World.size_alloc]
              omega
        · have hki : ¬ (k : Int) < (n : Int) := by omega
          obtain rfl : k = n := by omega
          obtain ⟨b, off, cur, rfl, -, -⟩ := HR.out.form (by have := HR.out.2.1; omega)
          have hpl := pl.out k (Nat.le_refl _)
          have hC : ∀ (j : Nat) x, (PK k)[j]? = some x → wr.cell? ⟨b, off + j, none⟩ = some (.string x) := fun j x hx => HR.out.cellSome j _ (by rw [List.getElem?_map, hx]; rfl)
          have hlt : b < wr.heap.size := by
            cases hx : (PK k)[0]? with
            | none => rw [List.getElem?_eq_none_iff] at hx; omega
            | some x => have := hC 0 x hx; exact World.block_lt_of_cell? wr _ this
          have C := jputs_any wr b off cp (PK k) hC hlt (by omega) (by have := HR.out.2.1; omega) (by omega) (by rw [pa.out]; exact EL.out)
          rw [hpl, pa.out, ← e1.out] at C
          clear hC hpl
          go_wp2_with (go_at_call 45; refine C.mono ?_; clear C; rintro e w6 ⟨rfl, t6⟩)
          go_ret2
          exact ⟨rfl, tr.trans' t6⟩
  · rw [decide_eq_false hm] at CM
    have e1 : encS R = ByteArray.empty := if_neg hm
    have e2 : encE R = 2 := if_neg hm
    rw [e1, e2]
    clear e1 e2 hm
    go_enter Tryz.func13, Tryz.ntmps13
    go_wp2_with (go_at_call 42; refine (CM _ ((Touch.refl _ w).alloc _)).mono ?_; clear CM; rintro e w2 ⟨rfl, t2⟩)
    go_ret2
    exact ⟨rfl, ((Touch.refl [] w).alloc _).trans' t2⟩
end Go.Proofs.YtodehmognjofhaaGreat
