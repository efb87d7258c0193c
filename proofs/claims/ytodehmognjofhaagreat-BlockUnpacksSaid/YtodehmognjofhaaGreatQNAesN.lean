/-
  The program's cipher: made of a key.
-/
import Derived.Test.YtodehmognjofhaaGreatQNAesR
namespace Go.Proofs.YtodehmognjofhaaGreat
open Go.RowKit

/-- a byte's turns, exclusive or. -/
def xq (q : Nat) : Nat → Nat
  | 0 => q
  | i + 1 => xq q i ^^^ ((q * 2 ^ (i + 1) % 256) ||| (q / 2 ^ (7 - i)))
theorem xq_lt {q : Nat} (hq : q < 256) : ∀ i, xq q i < 256
  | 0 => hq
  | i + 1 => xlt (xq_lt hq i) (Nat.or_lt_two_pow (n := 8) (Nat.mod_lt _ (by decide)) (Nat.lt_of_le_of_lt (Nat.div_le_self _ _) hq))
def pwN : Nat → Nat
  | 0 => 1
  | n + 1 => gmul (pwN n) 3
def qwN : Nat → Nat
  | 0 => 1
  | n + 1 => gmul (qwN n) 246
theorem pwN_lt : ∀ n, pwN n < 256
  | 0 => by decide
  | n + 1 => gmul_lt 3 (pwN_lt n)
theorem qwN_lt : ∀ n, qwN n < 256
  | 0 => by decide
  | n + 1 => gmul_lt 246 (qwN_lt n)
/-- the table, so far. -/
def subN : Nat → List Nat
  | 0 => List.replicate 256 0
  | n + 1 => (subN n).set (pwN (n + 1)) (xq (qwN (n + 1)) 4 ^^^ 99)
theorem subN_len : ∀ n, (subN n).length = 256
  | 0 => List.length_replicate
  | n + 1 => by simp [subN, subN_len n]
theorem subN_end : (subN 255).set 0 99 = SUBL := by decide +kernel
theorem pwN_end : pwN 255 = 1 := by decide +kernel
theorem pwN_ne : ∀ n, n < 254 → pwN (n + 1) ≠ 1 := by decide +kernel
def PIDX : List Nat := [0, 0, 25, 1, 50, 2, 26, 198, 75, 199, 27, 104, 51, 238, 223, 3, 100, 4, 224, 14, 52, 141, 129, 239, 76, 113, 8, 200, 248, 105, 28, 193, 125, 194, 29, 181, 249, 185, 39, 106, 77, 228, 166, 114, 154, 201, 9, 120, 101, 47, 138, 5, 33, 15, 225, 36, 18, 240, 130, 69, 53, 147, 218, 142, 150, 143, 219, 189, 54, 208, 206, 148, 19, 92, 210, 241, 64, 70, 131, 56, 102, 221, 253, 48, 191, 6, 139, 98, 179, 37, 226, 152, 34, 136, 145, 16, 126, 110, 72, 195, 163, 182, 30, 66, 58, 107, 40, 84, 250, 133, 61, 186, 43, 121, 10, 21, 155, 159, 94, 202, 78, 212, 172, 229, 243, 115, 167, 87, 175, 88, 168, 80, 244, 234, 214, 116, 79, 174, 233, 213, 231, 230, 173, 232, 44, 215, 117, 122, 235, 22, 11, 245, 89, 203, 95, 176, 156, 169, 81, 160, 127, 12, 246, 111, 23, 196, 73, 236, 216, 67, 31, 45, 164, 118, 123, 183, 204, 187, 62, 90, 251, 96, 177, 134, 59, 82, 161, 108, 170, 85, 41, 157, 151, 178, 135, 144, 97, 190, 220, 252, 188, 149, 207, 205, 55, 63, 91, 209, 83, 57, 132, 60, 65, 162, 109, 71, 20, 42, 158, 93, 86, 242, 211, 171, 68, 17, 146, 217, 35, 32, 46, 137, 180, 124, 184, 38, 119, 153, 227, 165, 103, 74, 237, 222, 197, 49, 254, 24, 13, 99, 140, 128, 192, 247, 112, 7]
theorem pidx_pw : ∀ n, n < 255 → PIDX.getD (pwN n) 0 = n := by decide +kernel
def unsN : Nat → List Nat
  | 0 => List.replicate 256 0
  | n + 1 => (unsN n).set (SUBL.getD n 0) n
theorem unsN_len : ∀ n, (unsN n).length = 256
  | 0 => List.length_replicate
  | n + 1 => by simp [unsN, unsN_len n]
theorem unsN_end : unsN 256 = UNSUBL := by decide +kernel
def mcells (a b : List Nat) : List Value := bcells (List.replicate 176 0) ++ (bcells a ++ (bcells b ++ [.bool true]))
theorem bcells_rlen (n : Nat) : (bcells (List.replicate n 0)).length = n := by rw [bcells_len, List.length_replicate]
theorem mcells_a {a b : List Nat} {i : Nat} (ha : a.length = 256) (hi : i < 256) : (mcells a b)[176 + i]? = some (.int .u8 ((a.getD i 0 : Nat) : Int)) := by
  unfold mcells
  rw [List.getElem?_append_right (by rw [bcells_rlen]; omega), bcells_rlen, Nat.add_sub_cancel_left, List.getElem?_append_left (by rw [bcells_len]; omega)]
  exact bcells_get (getD_some (by omega))
theorem mcells_b {a b : List Nat} {i : Nat} (ha : a.length = 256) (hb : b.length = 256) (hi : i < 256) : (mcells a b)[432 + i]? = some (.int .u8 ((b.getD i 0 : Nat) : Int)) := by
  unfold mcells
  rw [List.getElem?_append_right (by rw [bcells_rlen]; omega), bcells_rlen, show 432 + i - 176 = 256 + i by omega, List.getElem?_append_right (by rw [bcells_len]; omega), bcells_len, ha, Nat.add_sub_cancel_left, List.getElem?_append_left (by rw [bcells_len]; omega)]
  exact bcells_get (getD_some (by omega))
theorem bcells_set' (l : List Nat) (k x : Nat) : (bcells l).set k (.int .u8 x) = bcells (l.set k x) := by unfold bcells; rw [← List.map_set]
theorem mcells_seta {a b : List Nat} {i x : Nat} (ha : a.length = 256) (hi : i < 256) : (mcells a b).set (176 + i) (.int .u8 x) = mcells (a.set i x) b := by
  unfold mcells
  rw [List.set_append_right _ _ (by rw [bcells_rlen]; omega), bcells_rlen, Nat.add_sub_cancel_left, List.set_append_left _ _ (by rw [bcells_len]; omega), bcells_set']
theorem mcells_setb {a b : List Nat} {i x : Nat} (ha : a.length = 256) (hb : b.length = 256) (hi : i < 256) : (mcells a b).set (432 + i) (.int .u8 x) = mcells a (b.set i x) := by
  unfold mcells
  rw [List.set_append_right _ _ (by rw [bcells_rlen]; omega), bcells_rlen, show 432 + i - 176 = 256 + i by omega, List.set_append_right _ _ (by rw [bcells_len]; omega), bcells_len, ha, Nat.add_sub_cancel_left, List.set_append_left _ _ (by rw [bcells_len]; omega), bcells_set']
theorem u8_or_nat (a b : Nat) (ha : a < 256) (hb : b < 256) : bits .or .u8 (a : Int) (b : Int) = ((a ||| b : Nat) : Int) := by
  show IntKind.u8.wrap (((BitVec.ofInt 8 (a : Int)) ||| (BitVec.ofInt 8 (b : Int))).toNat : Int) = _
  rw [BitVec.toNat_or, bv8, bv8, Nat.mod_eq_of_lt ha, Nat.mod_eq_of_lt hb, wrapU8, Nat.mod_eq_of_lt (Nat.or_lt_two_pow (n := 8) ha hb)]
theorem load_part {P : Program} {w : World} {b : Nat} {e ty el : TypeId} {cs : List Value} {n off k : Nat} (hA : At w b e cs) (hu : P.underlying ty = some (.array n el)) (hi : (P.info? ty).map (·.size) = some k) (hk : off + k ≤ cs.length) : (loadVar ty ⟨b, off, none⟩).run P w = .ok (.agg ((cs.drop off).take k).toArray) w := by
  have hl := run_loadCells_list (P := P) w ⟨b, off, none⟩ ((cs.drop off).take k) (fun j v hj => by
    rw [Addr.add_lit, hA.cell]
    rw [List.getElem?_take] at hj
    split at hj
    · rw [List.getElem?_drop] at hj; exact hj
    · cases hj)
  have hlen : ((cs.drop off).take k).length = k := by rw [List.length_take, List.length_drop]; omega
  rw [hlen] at hl
  cases hq : P.info? ty with
  | none => simp [hq] at hi
  | some i =>
    have hs : i.size = k := by simpa [hq] using hi
    have hagg : (isAgg ty).run P w = .ok true w := by
      unfold isAgg
      rw [Sem.run_bind, run_underlying hu w]
      rfl
    simp [loadVar, Sem.run_bind, hagg, sizeOf, typeInfo, hq, hs, hl]
theorem wpList_load_part {P : Program} {w : World} {ops : Array Oper} {rest : List Oper} {o : Oper} {a : Act} {Q : Exit → Act → World → Prop} (hgd : o.guard = none) (ty : TypeId) (x : Operand) (ho : o.op = .load ty x) (b off : Nat) (hx : a.eval x = .pointer (some ⟨b, off, none⟩)) {e el : TypeId} {cs : List Value} {n k : Nat} (hA : At w b e cs) (hu : P.underlying ty = some (.array n el)) (hi : (P.info? ty).map (·.size) = some k) (hk : off + k ≤ cs.length)
    (h : wpList P ops Q rest (a.put o.dst (.agg ((cs.drop off).take k).toArray)) w) : wpList P ops Q (o :: rest) a w := by
  refine wpList_plain hgd fun K hK => ?_
  unfold Oper.wp execOp
  simp only [ho, hx, Instr.loadAt, Instr.sureAddr, Sem.run_bind, Sem.run_pure, Result.andThen_ok, load_part hA hu hi hk]
  exact hK _ _ h
theorem index_arr {P : Program} (w : World) (ty el : TypeId) (n : Nat) (hu : P.underlying ty = some (.array n el)) (he : P.underlying el = some (.int .u8)) (hs : (P.info? el).map (·.size) = some 1) (l : List Nat) (k : Nat) (hk : k < n) (hl : l.length = n) : (Instr.index ty (.agg (bcells l).toArray) (.int .i64 k)).run P w = .ok (.int .u8 ((l.getD k 0 : Nat) : Int)) w := by
  have g : (0 : Int) ≤ (k : Int) ∧ (k : Int) < (n : Int) := by omega
  have hagg : (isAgg el).run P w = .ok false w := by
    unfold isAgg
    rw [Sem.run_bind, run_underlying he w]
    rfl
  have hb : (bcells l)[k]? = some (.int .u8 ((l.getD k 0 : Nat) : Int)) := bcells_get (getD_some (by omega))
  cases hq : P.info? el with
  | none => simp [hq] at hs
  | some i =>
    have hi : i.size = 1 := by simpa [hq] using hs
    simp only [Instr.index, asIntOf, Sem.run_bind, Sem.run_pure, Result.andThen_ok, run_underlying hu w]
    rw [if_pos g]
    simp [part, hagg, sizeOf, typeInfo, hq, hi, hb]
theorem newBody_eq : graft 7 newBody newTail = newBody := by kernel_rfl
set_option maxRecDepth 100000 in
set_option maxHeartbeats 3200000 in
theorem aesnew_any (w : World) (key : ByteArray) (hk : key.size = 16) : Calls Tryz.prog 95 #[.string key] w fun e w' => ∃ cb, e = .returned (.tuple #[.pointer (some ⟨cb, 0, none⟩), .int .i64 0]) ∧ w.heap.size ≤ cb ∧ Touch [] w w' ∧ At w' cb 214 (ccells (rkF (bsOf key))) := by
  have hki : (key.size : Int) = 16 := by omega
  go_enter Tryz.func95, Tryz.ntmps95
  refine (show Code.wp _ (graft 7 newBody newTail) _ _ _ from ?_)
  obtain ⟨T, hT⟩ : ∃ T, newTail = T := ⟨_, rfl⟩
  rw [hT]
  simp only [newBody, Tryz.f95, graft]
  go_wp2
  have lw : w.heap.size < (w.alloc (.cells (mcells (subN 0) (unsN 0)).toArray 214)).heap.size := by simp
  go_loopw [5, 6, 7, 8, 26] (fun p q _ _ _ wr => ∃ n : Nat, n < 255 ∧ p = .int .u8 (pwN n : Nat) ∧ q = .int .u8 (qwN n : Nat) ∧ Touch [] w wr ∧ Hid (At wr w.heap.size 214 (mcells (subN n) (unsN 0)))) (fun p _ _ _ _ _ => 255 - PIDX.getD (intOf p).toNat 0)
  case atStart => exact ⟨0, by decide, rfl, rfl, (Touch.refl [] w).alloc _, At.new' w _ (by kernel_rfl)⟩
  case round =>
    obtain ⟨n, hn, rfl, rfl, tr, hA⟩ := hrel
    have C1 := times_any wr (pwN n) 3 (pwN_lt n) (by decide)
    have C2 := times_any wr (qwN n) 246 (qwN_lt n) (by decide)
    have hq : gmul (qwN n) 246 < 256 := gmul_lt 246 (qwN_lt n)
    go_wp2_with (first | (go_at_call 132; refine C1.mono ?_; clear C1; rintro e w1 ⟨rfl, rfl⟩) | (go_at_call 132; refine C2.mono ?_; clear C2; rintro e w1 ⟨rfl, rfl⟩))
    have hp : gmul (pwN n) 3 < 256 := gmul_lt 3 (pwN_lt n)
    have HP : Hid (pwN (n + 1) = gmul (pwN n) 3) := rfl
    have HQ : Hid (qwN (n + 1) = gmul (qwN n) 246) := rfl
    have HN := Lib.hid hn
    generalize gmul (pwN n) 3 = p1 at HP hp ⊢
    generalize gmul (qwN n) 246 = q1 at HQ hq ⊢
    go_loopw [7, 8, 26] (fun x _ i wr => ∃ k : Nat, k ≤ 4 ∧ i = .int .i64 k ∧ x = .int .u8 (xq q1 k : Nat) ∧ wr = w1) (fun _ _ i _ => 4 - (intOf i).toNat)
    case atStart => exact ⟨0, by decide, rfl, rfl, rfl⟩
    case round =>
      obtain ⟨k, hk4, rfl, rfl, rfl⟩ := hrel
      by_cases h4 : k < 4
      · have h4i : (k : Int) < 4 := by omega
        have j1 : (0 : Int) ≤ (k : Int) + 1 := by omega
        have j2 : IntKind.u64.wrap ((k : Int) + 1) = ((k + 1 : Nat) : Int) := by rw [IntKind.wrap_u64]; omega
        have j3 : IntKind.i64.wrap (7 - (k : Int)) = ((7 - k : Nat) : Int) := by rw [IntWalk.i64_in _ (by omega)]; omega
        have j4 : IntKind.u64.wrap ((7 - k : Nat) : Int) = ((7 - k : Nat) : Int) := by rw [IntKind.wrap_u64]; omega
        have e1 : ((q1 : Int) * 2 ^ (k + 1) % 256) = ((q1 * 2 ^ (k + 1) % 256 : Nat) : Int) := by simp
        have e2 : ((q1 : Int) / 2 ^ (7 - k)) = ((q1 / 2 ^ (7 - k) : Nat) : Int) := by simp
        have l2 : q1 / 2 ^ (7 - k) < 256 := Nat.lt_of_le_of_lt (Nat.div_le_self _ _) hq
        have e : bits .xor .u8 (xq q1 k : Int) (bits .or .u8 ((q1 : Int) * 2 ^ (k + 1) % 256) ((q1 : Int) / 2 ^ (7 - k))) = (xq q1 (k + 1) : Int) := by
          rw [e1, e2, u8_or_nat _ _ (Nat.mod_lt _ (by decide)) l2, u8_xor_nat _ _ (xq_lt hq k) (Nat.or_lt_two_pow (n := 8) (Nat.mod_lt _ (by decide)) l2)]; rfl
        have HE := Lib.hid e
        clear e e1 e2
        go_wp2
        exact ⟨⟨k + 1, by omega, rfl, by rw [HE.out], trivial⟩, by simp [intOf]; omega⟩
      · have h4i : ¬ (k : Int) < 4 := by omega
        obtain rfl : k = 4 := by omega
        have hx := xq_lt hq 4
        have hX := xlt hx (show 99 < 256 by decide)
        have ex : bits .xor .u8 (xq q1 4 : Int) 99 = ((xq q1 4 ^^^ 99 : Nat) : Int) := u8_xor_nat (xq q1 4) 99 hx (by decide)
        have HX : Hid (subN (n + 1) = (subN n).set p1 (xq q1 4 ^^^ 99)) := by
          have : subN (n + 1) = (subN n).set (pwN (n + 1)) (xq (qwN (n + 1)) 4 ^^^ 99) := rfl
          rw [this, HP.out, HQ.out]; exact Lib.hid rfl
        generalize xq q1 4 ^^^ 99 = X at ex HX hX
        generalize xq q1 4 = x4 at ex hx ⊢
        have cell := hA.out.cell (176 + p1)
        rw [mcells_a (subN_len n) hp] at cell
        have fr := fun o => hA.out.frozen o
        have lA := hA.out.lt
        have p0 : (0 : Int) ≤ (p1 : Int) := by omega
        have p9 : (p1 : Int) < 256 := by omega
        generalize (subN n).getD p1 0 = old at cell
        by_cases h1 : p1 = 1
        · have h1i : ((p1 : Int) == 1) = true := by rw [h1]; rfl
          have hn : n = 254 := by
            rcases Nat.lt_or_ge n 254 with h | h
            · exact absurd (HP.out.trans h1) (pwN_ne n h)
            · have := HN.out; omega
          subst hn
          subst h1
          have cell0 := hA.out.cell (176 + 0)
          rw [mcells_a (subN_len 254) (by decide)] at cell0
          generalize (subN 254).getD 0 0 = old0 at cell0
          have hA1 : At ((wr.setCell ⟨w.heap.size, 176 + 1, none⟩ (.int .u8 (X : Nat))).setCell ⟨w.heap.size, 176 + 0, none⟩ (.int .u8 ((99 : Nat) : Int))) w.heap.size 214 (mcells SUBL (unsN 0)) := by
            have h := (hA.out.set (176 + 1) (.int .u8 (X : Nat))).set (176 + 0) (.int .u8 ((99 : Nat) : Int))
            rw [mcells_seta (subN_len 254) (by decide), mcells_seta (by rw [List.length_set, subN_len]) (by decide), ← HX.out, subN_end] at h
            exact h
          have T1 : Touch [] w ((wr.setCell ⟨w.heap.size, 176 + 1, none⟩ (.int .u8 (X : Nat))).setCell ⟨w.heap.size, 176 + 0, none⟩ (.int .u8 ((99 : Nat) : Int))) := (tr.setCell _ (.inr (by simp)) _).setCell _ (.inr (by simp)) _
          have HA1 : Hid (At ((wr.setCell ⟨w.heap.size, 177, none⟩ (.int .u8 (X : Nat))).setCell ⟨w.heap.size, 176, none⟩ (.int .u8 99)) w.heap.size 214 (mcells SUBL (unsN 0))) := hA1
          have HT1 : Hid (Touch [] w ((wr.setCell ⟨w.heap.size, 177, none⟩ (.int .u8 (X : Nat))).setCell ⟨w.heap.size, 176, none⟩ (.int .u8 99))) := T1
          have hml : 176 + 256 ≤ (mcells SUBL (unsN 0)).length := by unfold mcells; simp [bcells_len, SUBL_len]; omega
          have hpart : (((mcells SUBL (unsN 0)).drop 176).take 256) = bcells SUBL := by
            unfold mcells
            rw [List.drop_append_of_le_length (by rw [bcells_rlen]; exact Nat.le_refl _), List.drop_eq_nil_of_le (by rw [bcells_rlen]; exact Nat.le_refl _), List.nil_append, List.take_append_of_le_length (by rw [bcells_len, SUBL_len]; exact Nat.le_refl _), List.take_of_length_le (by rw [bcells_len, SUBL_len]; exact Nat.le_refl _)]
          clear hA1 T1
          go_wp2_with (refine wpList_load_part rfl 212 (.tmp 58) rfl w.heap.size 176 rfl HA1.out Tryz.underlying212 (by kernel_rfl) hml ?_; rw [hpart])
          generalize (wr.setCell ⟨w.heap.size, 177, none⟩ (.int .u8 (X : Nat))).setCell ⟨w.heap.size, 176, none⟩ (.int .u8 99) = wA at HA1 HT1 ⊢
          go_loopw [9, 10, 60] (fun _ _ i wr => ∃ k : Nat, k ≤ 256 ∧ i = .int .i64 k ∧ Touch [] w wr ∧ Hid (At wr w.heap.size 214 (mcells SUBL (unsN k)))) (fun _ _ i _ => 256 - (intOf i).toNat)
          case atStart => exact ⟨0, by decide, rfl, HT1.out, HA1⟩
          case round =>
            obtain ⟨k, hk2, rfl, tr, hA⟩ := hrel
            by_cases hk6 : k < 256
            · have hk6i : (k : Int) < 256 := by omega
              have IDX := index_arr (P := Tryz.prog) wr 212 5 256 Tryz.underlying212 Tryz.underlying5 Tryz.sizeU8 SUBL k hk6 SUBL_len
              have hs := getD_lt SUBL_lt (by decide) k
              have HU : Hid (unsN (k + 1) = (unsN k).set (SUBL.getD k 0) k) := rfl
              generalize SUBL.getD k 0 = sv at IDX hs HU
              have s0 : (0 : Int) ≤ (sv : Int) := by omega
              have s9 : (sv : Int) < 256 := by omega
              have cell := hA.out.cell (432 + sv)
              rw [mcells_b SUBL_len (unsN_len k) hs] at cell
              have fr := fun o => hA.out.frozen o
              have lA := hA.out.lt
              generalize (unsN k).getD sv 0 = old at cell
              have j1 : IntKind.u8.wrap (k : Int) = (k : Int) := by rw [wrapU8, Nat.mod_eq_of_lt hk6]
              go_wp2
              refine ⟨⟨k + 1, hk6, rfl, tr.setCell _ (.inr (by simp)) _, ?_⟩, by simp [intOf]; omega⟩
              have h := hA.out.set (432 + sv) (.int .u8 (k : Nat))
              rw [mcells_setb SUBL_len (unsN_len k) hs, ← HU.out] at h
              exact h
            · have hk6i : ¬ (k : Int) < 256 := by omega
              obtain rfl : k = 256 := by omega
              go_wp2
              have hA2 : At wr w.heap.size 214 (mcells SUBL UNSUBL) := by rw [← unsN_end]; exact hA.out
              have hkl : (bsOf key).length = 16 := by rw [bsOf_len]; exact hk
              have hkb := bsOf_bytes key
              have hstr : denL (plOf [w.heap.size] (ksV (bsOf key))) ((List.range 16).map b8) = some ((bsOf key).map fun (x : Nat) => Value.int .u8 (x : Int)) := by
                have : ((bsOf key).map fun (x : Nat) => Value.int .u8 (x : Int)) = (List.range 16).map fun i => Value.int .u8 (((bsOf key).getD i 0 : Nat) : Int) := by
                  conv => lhs; rw [← map_getD hkl]
                  rw [List.map_map]; rfl
                rw [this]
                exact denL_map _ _ _ fun i hi => D.sym8 (ksV_k (List.mem_range.1 hi)) (getD_lt hkb (by decide) i)
              have hkey : den (plOf [w.heap.size] (ksV (bsOf key))) (.strs ((List.range 16).map b8)) = some (.string key) := by
                rw [den_strs_mk hstr hkb, bytesOf_bsOf]
              have hpre : ∀ ρ : Pl, denL ρ ((List.range 176).map (fun _ => SV.int .u8 (.ofNat 0)) ++ tabB) = some (mcells SUBL UNSUBL) := by
                intro ρ
                have e1 : mcells SUBL UNSUBL = bcells (List.replicate 176 0) ++ (bcells (SUBL ++ UNSUBL) ++ [.bool true]) := by unfold mcells; rw [bcells_append, List.append_assoc]
                have e2 : bcells (List.replicate 176 0) = (List.range 176).map fun _ => Value.int .u8 ((0 : Nat) : Int) := by unfold bcells; rw [List.map_replicate, List.map_const', List.length_range]
                rw [e1, e2]
                exact denL_append (denL_map _ _ _ fun i _ => D.lit ρ .u8 0) (denL_append (denL_map _ _ _ fun i _ => D.lit ρ .u8 i) (denL_cons.2 ⟨_, _, den_bool _ _, denL_nil _, rfl⟩))
              subst hT
              refine tail_run envOk (fun {_} => aesI_ok) ks_run (by decide) (ksV (bsOf key)) (fun b h1 h2 => ksV_none h1 h2) (ks_lg hkb) wr (bl := [w.heap.size]) rfl (by simp) (by decide) (fun j b x hj hx => by
                match j with
                | 0 => cases hj; cases hx; exact ⟨_, hpre _, hA2⟩
                | j + 1 => simp at hj) rfl rfl (fun x hx => by
                rcases List.mem_cons.1 hx with rfl | hx
                · exact ⟨_, rfl, hkey⟩
                · rcases List.mem_cons.1 hx with rfl | hx
                  · exact ⟨_, rfl, den_ptr_mk (x := (w.heap.size, 0)) rfl 0⟩
                  · cases hx) ?_
              intro ρ' a' w' l1 l2 l3 l4 l5
              obtain ⟨u2, r1, r2⟩ := l3 (2, .ptr 0 0) (by simp [ksR])
              obtain ⟨u3, r3, r4⟩ := l3 (3, .int .i64 0) (by simp [ksR])
              rw [den_ptr_mk (l1.le 0 _ (plOf_at (bl := [w.heap.size]) (V := ksV (bsOf key)) (i := 0) rfl)) 0] at r2
              cases r2
              rw [den_int] at r4
              cases r4
              obtain ⟨us, p1, p2⟩ := l5 0 w.heap.size _ rfl rfl
              have hend : denL ρ' (ksEnd ++ tabB) = some (ccells (rkF (bsOf key))) := by
                unfold ccells tabC
                exact denL_append (ksEnd_ok hkb l1.val hkl) (denL_append (denL_map _ _ _ fun i _ => D.lit ρ' .u8 i) (denL_cons.2 ⟨_, _, den_bool _ _, denL_nil _, rfl⟩))
              rw [show denL ρ' (ksEnd ++ tabB) = some us from p1] at hend
              cases hend
              refine bodyPost_ret (P := Tryz.prog) (results_tmp2 rfl _ _ _) l2 ?_
              have g2 : a'.tmps.getD 2 undef = .pointer (some ⟨w.heap.size, 0, none⟩) := by rw [Array.getD_eq_getD_getElem?, r1]; rfl
              have g3 : a'.tmps.getD 3 undef = .int .i64 0 := by rw [Array.getD_eq_getD_getElem?, r3]; rfl
              rw [g2, g3]
              exact ⟨w.heap.size, rfl, Nat.le_refl _, tr.trans l4 (by simp), p2⟩
        · have h1i : ((p1 : Int) == 1) = false := by rw [beq_eq_false_iff_ne]; omega
          have hn : n + 1 < 255 := by
            rcases Nat.lt_or_ge (n + 1) 255 with h | h
            · exact h
            · obtain rfl : n = 254 := by have := HN.out; omega
              exact absurd (HP.out.symm.trans pwN_end) h1
          go_wp2
          refine ⟨⟨n + 1, hn, by rw [HP.out], by rw [HQ.out], tr.setCell _ (.inr (by simp)) _, ?_⟩, ?_⟩
          · have h := hA.out.set (176 + p1) (.int .u8 (X : Nat))
            rw [mcells_seta (subN_len n) hp, ← HX.out] at h
            exact h
          · have := pidx_pw n (by omega)
            have := pidx_pw (n + 1) hn
            rw [HP.out] at this
            simp only [intOf, Int.toNat_natCast]
            omega
end Go.Proofs.YtodehmognjofhaaGreat
