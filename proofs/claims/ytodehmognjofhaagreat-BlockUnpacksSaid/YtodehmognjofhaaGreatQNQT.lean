/-
  The document's cipher: bytes multiplied.
-/
import Derived.Test.YtodehmognjofhaaGreatQNQC
import Derived.Test.YtodehmognjofhaaGreatQNTim
import Derived.Test.YtodehmognjofhaaGreatQNAesN
import Derived.Test.YtodehmognjofhaaGreatQEF
import Derived.Test.YtodehmognjofhaaGreatQNAesC
namespace Go.Proofs.YtodehmognjofhaaGreat
open Go.RowKit

theorem and128 : ∀ a, a < 256 → a &&& 128 = a / 128 * 128 := by decide +kernel
theorem u8_and128_nat (a : Nat) (ha : a < 256) : bits .and .u8 (a : Int) 128 = ((a / 128 * 128 : Nat) : Int) := by
  show IntKind.u8.wrap (((BitVec.ofInt 8 (a : Int)) &&& (BitVec.ofInt 8 (128 : Int))).toNat : Int) = _
  have e : (BitVec.ofInt 8 (128 : Int)).toNat = 128 := by decide
  rw [BitVec.toNat_and, bv8, e, Nat.mod_eq_of_lt ha, wrapU8, and128 a ha]
  congr 1
  omega
set_option maxHeartbeats 3200000 in
theorem rtimes_any (w : World) (a b : Nat) (ha : a < 256) (hb : b < 256) : Calls Tryz.prog 192 #[.int .u8 a, .int .u8 b] w fun e w' => e = .returned (.int .u8 (gmul a b)) ∧ w' = w := by
  go_enter Tryz.func192, Tryz.ntmps192
  go_wp2
  go_loopw [0, 1, 5, 6, 7] (fun x y z i _ wr => ∃ a' b' p' k : Nat, x = .int .u8 a' ∧ y = .int .u8 b' ∧ z = .int .u8 p' ∧ i = .int .i64 (k : Int) ∧ a' < 256 ∧ b' < 256 ∧ p' < 256 ∧ k ≤ 8 ∧ wr = w ∧ Hid (gm (8 - k) a' b' p' = gmul a b)) (fun _ _ _ i _ _ => 8 - (intOf i).toNat)
  case atStart => exact ⟨a, b, 0, 0, rfl, rfl, rfl, rfl, ha, hb, by decide, by decide, rfl, rfl⟩
  case round =>
    obtain ⟨a', b', p', k, rfl, rfl, rfl, rfl, ha', hb', hp', hk, rfl, hg⟩ := hrel
    by_cases hk8 : k < 8
    · have hki : (k : Int) < 8 := by omega
      have hg2 : gm (8 - (k + 1)) (xt a') (b' / 2) (if b' % 2 = 1 then p' ^^^ a' else p') = gmul a b := by
        have := hg.out
        rw [show 8 - k = (8 - (k + 1)) + 1 by omega] at this
        exact this
      have e1 := u8_and1_nat b' hb'
      have e3 := u8_xor_nat p' a' hp' ha'
      have e4 : p' ^^^ a' < 256 := Nat.xor_lt_two_pow (n := 8) hp' ha'
      have e5 := u8_and128_nat a' ha'
      have hxl := xt_lt a'
      obtain ⟨q, hq⟩ : ∃ q, q = b' / 2 := ⟨_, rfl⟩
      have hq2 : q < 256 := by omega
      have eb : (b' : Int) / 2 = (q : Int) := by omega
      rw [← hq] at hg2
      obtain ⟨d, hd⟩ : ∃ d, d = a' * 2 % 256 := ⟨_, rfl⟩
      have ed : (a' : Int) * 2 % 256 = (d : Int) := by omega
      have hd2 : d < 256 := by omega
      have hxt : xt a' = d ^^^ (a' / 128 * 27 % 256) := by rw [hd]; rfl
      obtain ⟨r, hr⟩ : ∃ r, r = b' % 2 := ⟨_, rfl⟩
      rw [← hr] at hg2 e1
      have hr2 : r = 0 ∨ r = 1 := by omega
      clear hq hd hr hg
      generalize p' ^^^ a' = p2 at e3 e4 hg2
      by_cases hh : a' < 128
      · rw [Nat.div_eq_of_lt hh] at e5 hxt
        have hx : xt a' = d := by rw [hxt]; simp
        have e6 : bits .and .u8 (a' : Int) 128 = 0 := e5
        rw [hx] at hg2 hxl
        clear e5 hxt hx hh hd2
        rcases hr2 with rfl | rfl
        · rw [if_neg (by decide)] at hg2
          have e7 : bits .and .u8 (b' : Int) 1 = 0 := e1
          have h1 := trivial
          have HG := Lib.hid hg2
          have HED := Lib.hid ed
          clear ed
          have HXL := Lib.hid hxl
          have HQ := Lib.hid hq2
          have HP4 := Lib.hid e4
          clear e1 h1 hg2 hxl hq2 e4
          go_wp2
          exact ⟨⟨d, _, _, k + 1, by rw [HED.out], rfl, rfl, rfl, HXL.out, HQ.out, hp', by omega, trivial, HG⟩, by simp [intOf]; omega⟩
        · rw [if_pos rfl] at hg2
          have e7 : bits .and .u8 (b' : Int) 1 = 1 := e1
          have h1 := trivial
          have HG := Lib.hid hg2
          have HED := Lib.hid ed
          clear ed
          have HXL := Lib.hid hxl
          have HQ := Lib.hid hq2
          have HP4 := Lib.hid e4
          clear e1 h1 hg2 hxl hq2 e4
          go_wp2
          exact ⟨⟨d, _, _, k + 1, by rw [HED.out], rfl, rfl, rfl, HXL.out, HQ.out, HP4.out, by omega, trivial, HG⟩, by simp [intOf]; omega⟩
      · have hd3 : a' / 128 = 1 := by omega
        rw [hd3] at e5 hxt
        have hx : d ^^^ 27 = xt a' := hxt.symm
        have e6 : bits .and .u8 (a' : Int) 128 = 128 := e5
        have e8 : bits .xor .u8 (d : Int) 27 = ((xt a' : Nat) : Int) := by rw [← hx]; exact u8_xor_nat d 27 hd2 (by decide)
        generalize xt a' = x2 at hg2 hxl e8 hx hxt
        clear e5 hxt hx hh hd2 hd3
        rcases hr2 with rfl | rfl
        · rw [if_neg (by decide)] at hg2
          have e7 : bits .and .u8 (b' : Int) 1 = 0 := e1
          have h1 := trivial
          have HG := Lib.hid hg2
          have HXL := Lib.hid hxl
          have HQ := Lib.hid hq2
          have HP4 := Lib.hid e4
          clear e1 h1 hg2 hxl hq2 e4
          go_wp2
          exact ⟨⟨_, _, _, k + 1, rfl, rfl, rfl, rfl, HXL.out, HQ.out, hp', by omega, trivial, HG⟩, by simp [intOf]; omega⟩
        · rw [if_pos rfl] at hg2
          have e7 : bits .and .u8 (b' : Int) 1 = 1 := e1
          have h1 := trivial
          have HG := Lib.hid hg2
          have HXL := Lib.hid hxl
          have HQ := Lib.hid hq2
          have HP4 := Lib.hid e4
          clear e1 h1 hg2 hxl hq2 e4
          go_wp2
          exact ⟨⟨_, _, _, k + 1, rfl, rfl, rfl, rfl, HXL.out, HQ.out, HP4.out, by omega, trivial, HG⟩, by simp [intOf]; omega⟩
    · have hki : ¬ (k : Int) < 8 := by omega
      obtain rfl : k = 8 := by omega
      have hz := hg.out
      go_wp2
      go_ret
      refine ⟨?_, rfl⟩
      rw [← hz]
      rfl
end Go.Proofs.YtodehmognjofhaaGreat

namespace Go.Proofs.YtodehmognjofhaaGreat
open Go.RowKit

def INVL : List Nat := [0, 1, 141, 246, 203, 82, 123, 209, 232, 79, 41, 192, 176, 225, 229, 199, 116, 180, 170, 75, 153, 43, 96, 95, 88, 63, 253, 204, 255, 64, 238, 178, 58, 110, 90, 241, 85, 77, 168, 201, 193, 10, 152, 21, 48, 68, 162, 194, 44, 69, 146, 108, 243, 57, 102, 66, 242, 53, 32, 111, 119, 187, 89, 25, 29, 254, 55, 103, 45, 49, 245, 105, 167, 100, 171, 19, 84, 37, 233, 9, 237, 92, 5, 202, 76, 36, 135, 191, 24, 62, 34, 240, 81, 236, 97, 23, 22, 94, 175, 211, 73, 166, 54, 67, 244, 71, 145, 223, 51, 147, 33, 59, 121, 183, 151, 133, 16, 181, 186, 60, 182, 112, 208, 6, 161, 250, 129, 130, 131, 126, 127, 128, 150, 115, 190, 86, 155, 158, 149, 217, 247, 2, 185, 164, 222, 106, 50, 109, 216, 138, 132, 114, 42, 20, 159, 136, 249, 220, 137, 154, 251, 124, 46, 195, 143, 184, 101, 72, 38, 200, 18, 74, 206, 231, 210, 98, 12, 224, 31, 239, 17, 117, 120, 113, 165, 142, 118, 61, 189, 188, 134, 87, 11, 40, 47, 163, 218, 212, 228, 15, 169, 39, 83, 4, 27, 252, 172, 230, 122, 7, 174, 99, 197, 219, 226, 234, 148, 139, 196, 213, 157, 248, 144, 107, 177, 13, 214, 235, 198, 14, 207, 173, 8, 78, 215, 227, 93, 80, 30, 179, 91, 35, 56, 52, 104, 70, 3, 140, 221, 156, 125, 160, 205, 26, 65, 28]
theorem inv_one : ∀ b, b < 256 → b ≠ 0 → gmul b (INVL.getD b 0) = 1 := by decide +kernel
theorem inv_lt : ∀ b, b < 256 → INVL.getD b 0 < 256 := by decide +kernel
theorem inv_min : ∀ b, b < 256 → b ≠ 0 → ∀ c, c < INVL.getD b 0 → gmul b c ≠ 1 := by decide +kernel
def sbN (c : Nat) : Nat → Nat
  | 0 => 99
  | k + 1 => sbN c k ^^^ ((c * 2 ^ k % 256) ||| (c / 2 ^ (8 - k)))
theorem sb_sub : ∀ b, b < 256 → sbN (INVL.getD b 0) 5 = SUBL.getD b 0 := by decide +kernel
theorem sbN_lt {c : Nat} (hc : c < 256) : ∀ k, k ≤ 8 → sbN c k < 256
  | 0, _ => (by decide : (99 : Nat) < 256)
  | k + 1, h => xlt (sbN_lt hc k (by omega)) (Nat.or_lt_two_pow (n := 8) (Nat.mod_lt _ (by decide)) (Nat.lt_of_le_of_lt (Nat.div_le_self _ _) hc))
end Go.Proofs.YtodehmognjofhaaGreat

namespace Go.Proofs.YtodehmognjofhaaGreat
open Go.RowKit

set_option maxHeartbeats 3200000 in
theorem rsub_any (w : World) (b : Nat) (hb : b < 256) : Calls Tryz.prog 191 #[.int .u8 b] w fun e w' => e = .returned (.int .u8 ((SUBL.getD b 0 : Nat) : Int)) ∧ w' = w := by
  by_cases h0 : b = 0
  · subst h0
    have h4 := sb_sub 0 (by decide)
    rw [show INVL.getD 0 0 = 0 from rfl] at h4
    generalize SUBL.getD 0 0 = sv at h4 ⊢
    have HSB := Lib.hid h4
    clear h4
    go_enter Tryz.func191, Tryz.ntmps191
    go_wp2
    go_loopw [4, 5] (fun x i wr => ∃ k : Nat, k ≤ 5 ∧ i = .int .u64 (k : Int) ∧ x = .int .u8 ((sbN 0 k : Nat) : Int) ∧ wr = w) (fun _ i _ => 5 - (intOf i).toNat)
    case atStart => exact ⟨0, by omega, rfl, rfl, rfl⟩
    case round =>
      obtain ⟨k, hk, rfl, rfl, rfl⟩ := hrel
      by_cases hk5 : k < 5
      · have hki : (k : Int) < 5 := by omega
        have j3 : IntKind.u64.wrap (8 - (k : Int)) = ((8 - k : Nat) : Int) := by rw [IntKind.wrap_u64]; omega
        have j0 : (0 : Int) ≤ (k : Int) := by omega
        have hsl := sbN_lt (c := 0) (by decide) k (by omega)
        go_wp2
        have z0 : bits .or .u8 0 0 = 0 := by decide
        have z1 : bits .xor .u8 ((sbN 0 k : Nat) : Int) 0 = ((sbN 0 (k + 1) : Nat) : Int) := by
          have e : sbN 0 (k + 1) = sbN 0 k := by show sbN 0 k ^^^ ((0 * 2 ^ k % 256) ||| (0 / 2 ^ (8 - k))) = _; simp
          rw [e]
          have := u8_xor_nat (sbN 0 k) 0 hsl (by decide)
          rw [Nat.xor_zero] at this
          exact this
        rw [z0, z1]
        exact ⟨⟨k + 1, by omega, rfl, rfl, trivial⟩, by simp [intOf]; omega⟩
      · have hki : ¬ (k : Int) < 5 := by omega
        obtain rfl : k = 5 := by omega
        go_wp2
        go_ret
        refine ⟨?_, rfl⟩
        rw [← HSB.out]
        rfl
  · have hbi : ((b : Int) == 0) = false := by rw [beq_eq_false_iff_ne]; omega
    have hbi2 : ((b : Int) != 0) = true := by rw [bne_iff_ne]; omega
    have h1 := inv_one b hb h0
    have h2 := inv_min b hb h0
    have h3 := inv_lt b hb
    have h4 := sb_sub b hb
    generalize INVL.getD b 0 = c0 at h1 h2 h3 h4
    generalize SUBL.getD b 0 = sv at h4 ⊢
    have HCL := Lib.hid h3
    have HSB := Lib.hid h4
    have H1 := Lib.hid h1
    have H2 := Lib.hid h2
    clear h1 h2 h4
    go_enter Tryz.func191, Tryz.ntmps191
    go_wp2
    go_loopw [3] (fun x wr => ∃ c : Nat, x = .int .u8 (c : Int) ∧ c ≤ c0 ∧ wr = w) (fun x _ => 256 - (intOf x).toNat)
    case atStart => exact ⟨0, rfl, Nat.zero_le _, rfl⟩
    case round =>
      obtain ⟨c, rfl, hc, rfl⟩ := hrel
      have C := rtimes_any wr b c hb (by omega)
      by_cases hce : c = c0
      · subst hce
        rw [H1.out] at C
        clear hc
        go_wp2_with (go_at_call 192; refine C.mono ?_; clear C; rintro e w3 ⟨rfl, rfl⟩)
        obtain ⟨wq, hwq⟩ : ∃ wq, wq = w3 := ⟨w3, rfl⟩
        subst hwq
        go_loopw [4, 5] (fun x i wr => ∃ k : Nat, k ≤ 5 ∧ i = .int .u64 (k : Int) ∧ x = .int .u8 ((sbN c k : Nat) : Int) ∧ wr = wq) (fun _ i _ => 5 - (intOf i).toNat)
        case atStart => exact ⟨0, by omega, rfl, rfl, rfl⟩
        case round =>
          obtain ⟨k, hk, rfl, rfl, rfl⟩ := hrel
          by_cases hk5 : k < 5
          · have hki : (k : Int) < 5 := by omega
            have j3 : IntKind.u64.wrap (8 - (k : Int)) = ((8 - k : Nat) : Int) := by rw [IntKind.wrap_u64]; omega
            have j0 : (0 : Int) ≤ (k : Int) := by omega
            have hsl := sbN_lt (c := c) HCL.out k (by omega)
            have ho := u8_or_nat (c * 2 ^ k % 256) (c / 2 ^ (8 - k)) (Nat.mod_lt _ (by decide)) (Nat.lt_of_le_of_lt (Nat.div_le_self _ _) HCL.out)
            have hx := u8_xor_nat (sbN c k) ((c * 2 ^ k % 256) ||| (c / 2 ^ (8 - k))) hsl (Nat.or_lt_two_pow (n := 8) (Nat.mod_lt _ (by decide)) (Nat.lt_of_le_of_lt (Nat.div_le_self _ _) HCL.out))
            have e1 : (((c * 2 ^ k % 256 : Nat)) : Int) = (c : Int) * 2 ^ k % 256 := by simp
            have e2 : (((c / 2 ^ (8 - k) : Nat)) : Int) = (c : Int) / 2 ^ (8 - k) := by simp
            rw [e1, e2] at ho
            have HO := Lib.hid ho
            have HX := Lib.hid hx
            clear ho hx e1 e2
            go_wp2
            rw [HO.out, HX.out]
            exact ⟨⟨k + 1, by omega, rfl, rfl, trivial⟩, by simp [intOf]; omega⟩
          · have hki : ¬ (k : Int) < 5 := by omega
            obtain rfl : k = 5 := by omega
            go_wp2
            go_ret
            refine ⟨?_, rfl⟩
            rw [← HSB.out]
            rfl
      · have hg := H2.out c (by omega)
        obtain ⟨g, hgg⟩ : ∃ g, g = gmul b c := ⟨_, rfl⟩
        rw [← hgg] at hg C
        have hgi : ((g : Int) == 1) = false := by rw [beq_eq_false_iff_ne]; omega
        obtain ⟨d, hd⟩ : ∃ d, d = c + 1 := ⟨_, rfl⟩
        have ed : ((c : Int) + 1) % 256 = (d : Int) := by omega
        have HD := Lib.hid (show d = c + 1 ∧ d ≤ c0 by omega)
        clear hgg hg hd hc h3
        go_wp2_with (go_at_call 192; refine C.mono ?_; clear C; rintro e w3 ⟨rfl, rfl⟩)
        rw [ed]
        exact ⟨⟨d, rfl, HD.out.2, trivial⟩, by simp [intOf]; have := HD.out; have := HCL.out; omega⟩
end Go.Proofs.YtodehmognjofhaaGreat

namespace Go.Proofs.YtodehmognjofhaaGreat
open Go.RowKit

noncomputable def subI (args : List SV) (m : T SObj) (nx : Nat) : Option Res := match args with
  | [.int .u8 (.ofNat n)] => oi (Nat.blt n 256) (ob (nth n SUBL) fun c => some (.int .u8 (.ofNat c), m, nx))
  | _ => none
theorem subI_ok [Orig] : ∀ args m nx r, subI args m nx = some r → ∀ (ρ : Pl) (us : List Value) (w0 : Base) (w : World), denL ρ args = some us → Emb Tryz.prog ρ m nx w0 w →
    Calls Tryz.prog 191 us.toArray w fun e w' => ∃ ρ' u, e = .returned u ∧ Le ρ ρ' ∧ den ρ' r.1 = some u ∧ Emb Tryz.prog ρ' r.2.1 r.2.2 w0 w' := by
  intro args m nx r he ρ us w0 w hd hm
  unfold subI at he
  split at he
  case h_2 => cases he
  rename_i n
  obtain ⟨h1, h2⟩ := oi_eq.1 he
  obtain ⟨c, h3, h4⟩ := ob_eq.1 h2
  cases h4
  obtain ⟨u1, us1, d1, d2, rfl⟩ := denL_cons.1 hd
  rw [denL_nil] at d2
  cases d2
  rw [den_int] at d1
  cases d1
  rw [nth_ok] at h3
  have hc : SUBL.getD n 0 = c := by rw [List.getD_eq_getElem?_getD, h3]; rfl
  refine (rsub_any w n (blt_true h1)).mono ?_
  rintro e w' ⟨rfl, rfl⟩
  exact ⟨ρ, _, rfl, Le.refl ρ, by rw [hc]; exact den_int _ _ _, hm⟩
noncomputable def subIs : CalF := orI 191 subI fun _ _ _ _ => none
theorem subIs_ok [Orig] : FnOk Tryz.prog subIs := orI_ok subI_ok (noI_ok _)
def tabT : Smy where
  f := 167
  args := [.bool false]
  blks := []
  nx0 := 0
  log := []
  v := .slc 0 0 256 256
set_option maxRecDepth 1000000 in
theorem tab_run : genOk2 env0 (@subIs) 100000 0 0 tabT [(0, [.chk 256 SUBL], 5)] = true := by decide +kernel
theorem u8V_bcells (l : List Nat) : u8V l = bcells l := by
  unfold u8V bcells
  simp
theorem rtable_any (w : World) : Calls Tryz.prog 167 #[.bool false] w fun e w' => ∃ b, e = .returned (.slice (some ⟨b, 0, none⟩) 256 256) ∧ w.heap.size ≤ b ∧ Touch [] w w' ∧ At w' b 5 (bcells SUBL) := by
  refine (gen_new2 envOk (fun {_} => subIs_ok) tab_run (by decide) (fun _ => none) (fun _ _ _ => rfl) (fun W n k e h => by rw [show (ofA tabT.log).get n = none from T.get_leaf n] at h; cases h) w (bl := []) rfl (by simp) (by decide) (fun j b x hj _ => by simp at hj) (us := [.bool false]) (denL_cons.2 ⟨_, _, den_bool _ _, denL_nil _, rfl⟩)).mono ?_
  rintro e w' ⟨ρ', u, rfl, l1, l2, l3, -, l5⟩
  obtain ⟨y, us, y1, y2, y3, y4⟩ := l5 (0, [.chk 256 SUBL], 5) (by simp)
  have hd : denC ρ' [.chk 256 SUBL] = some (bcells SUBL) := by
    refine denC_cons.2 ⟨bcells SUBL, [], ?_, denC_nil _, by simp⟩
    show (if SUBL.length = 256 ∧ SUBL.all (fun x => decide (x < 256)) = true then some (u8V SUBL) else none) = _
    rw [if_pos ⟨SUBL_len, by decide +kernel⟩, u8V_bcells]
  rw [show denC ρ' [.chk 256 SUBL] = some us from y2] at hd
  cases hd
  have hv : den ρ' (.slc 0 0 256 256) = some (.slice (some ⟨y.1, 0, none⟩) 256 256) := den_slc_mk y1 _ _ _
  rw [show den ρ' tabT.v = some (.slice (some ⟨y.1, 0, none⟩) 256 256) from hv] at l2
  cases l2
  exact ⟨y.1, rfl, y4.resolve_right (by decide), l3, y3⟩
end Go.Proofs.YtodehmognjofhaaGreat

namespace Go.Proofs.YtodehmognjofhaaGreat
open Go.RowKit
variable [Orig]
theorem rtimI_ok : ∀ args m nx r, timI args m nx = some r → ∀ (ρ : Pl) (us : List Value) (w0 : Base) (w : World), denL ρ args = some us → Emb Tryz.prog ρ m nx w0 w →
    Calls Tryz.prog 192 us.toArray w fun e w' => ∃ ρ' u, e = .returned u ∧ Le ρ ρ' ∧ den ρ' r.1 = some u ∧ Emb Tryz.prog ρ' r.2.1 r.2.2 w0 w' := by
  intro args m nx r he ρ us w0 w hd hm
  unfold timI at he
  split at he
  case h_2 => cases he
  rename_i a b
  obtain ⟨v, h1, h2⟩ := ob_eq.1 he
  cases h2
  obtain ⟨u1, us1, d1, d2, rfl⟩ := denL_cons.1 hd
  obtain ⟨u2, us2, d3, d4, rfl⟩ := denL_cons.1 d2
  rw [denL_nil] at d4
  cases d4
  have key : ∀ {x y : Nat}, x < 256 → y < 256 → u1 = .int .u8 (x : Int) → u2 = .int .u8 (y : Int) → den ρ v = some (.int .u8 (gmul x y : Int)) → Calls Tryz.prog 192 [u1, u2].toArray w fun e w' => ∃ ρ' u, e = .returned u ∧ Le ρ ρ' ∧ den ρ' v = some u ∧ Emb Tryz.prog ρ' m nx w0 w' := by
    intro x y hx hy e1 e2 hv
    subst e1 e2
    refine (rtimes_any w x y hx hy).mono ?_
    rintro e w' ⟨rfl, rfl⟩
    exact ⟨ρ, _, rfl, Le.refl ρ, hv, hm⟩
  unfold timV at h1
  split at h1
  · rename_i x
    rw [den_int] at d1
    cases d1
    split at h1
    · rename_i y
      obtain ⟨g1, g2⟩ := oi_eq.1 h1
      obtain ⟨g3, g4⟩ := oi_eq.1 g2
      cases g4
      rw [den_int] at d3
      cases d3
      exact key (blt_true g1) (blt_true g3) rfl rfl (den_int _ _ _)
    · obtain ⟨g1, g2⟩ := oi_eq.1 h1
      obtain ⟨y, hy, rfl⟩ := isU8V_of g1 d3
      have hx : x < 256 := by
        unfold mulS at g2
        cases e1 : Nat.beq x 1 with
        | true => obtain rfl := nbeq_iff.1 e1; decide
        | false =>
          rw [e1] at g2
          cases e2 : Nat.beq x 2 with
          | true => obtain rfl := nbeq_iff.1 e2; decide
          | false =>
            rw [e2] at g2
            obtain ⟨e3, -⟩ := oi_eq.1 (show oi (Nat.beq x 3) (some (xor8 (twS b) b)) = some v from g2)
            obtain rfl := nbeq_iff.1 e3
            decide
      exact key hx hy rfl rfl (mulS_ok g2 d3 hy)
  · cases h1
noncomputable def rtIs : CalF := orI 192 timI fun _ _ _ _ => none
theorem rtIs_ok : FnOk Tryz.prog rtIs := orI_ok rtimI_ok (noI_ok _)
end Go.Proofs.YtodehmognjofhaaGreat
