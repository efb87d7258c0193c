/-
  The document's cipher: a block.
-/
import Derived.Test.YtodehmognjofhaaGreatQNQP
import Derived.Test.YtodehmognjofhaaGreatQNQ13
import Derived.Test.YtodehmognjofhaaGreatQNTurn2
import Derived.Test.YtodehmognjofhaaGreatQJA
namespace Go.Proofs.YtodehmognjofhaaGreat
open Go.RowKit

theorem rkP_len {key : List Nat} (h : key.length = 16) : ∀ n, ((List.range n).flatMap (rkN key)).length = 16 * n
  | 0 => rfl
  | n + 1 => by
    rw [List.range_succ, List.flatMap_append, List.length_append, rkP_len h n]
    simp only [List.flatMap_cons, List.flatMap_nil, List.append_nil, rkN_len h]
    omega
theorem rkP_get {key : List Nat} (h : key.length = 16) : ∀ n r j, r < n → j < 16 → ((List.range n).flatMap (rkN key)).getD (16 * r + j) 0 = (rkN key r).getD j 0
  | 0, r, j, hr, _ => by omega
  | n + 1, r, j, hr, hj => by
    rw [List.range_succ, List.flatMap_append, List.getD_eq_getElem?_getD]
    by_cases e : r = n
    · subst e
      rw [List.getElem?_append_right (by rw [rkP_len h]; omega), rkP_len h, Nat.add_sub_cancel_left]
      simp only [List.flatMap_cons, List.flatMap_nil, List.append_nil]
      rw [← List.getD_eq_getElem?_getD]
    · rw [List.getElem?_append_left (by rw [rkP_len h]; omega), ← List.getD_eq_getElem?_getD]
      exact rkP_get h n r j (by omega) hj
theorem rkF_get {key : List Nat} (h : key.length = 16) {r j : Nat} (hr : r < 11) (hj : j < 16) : (rkF key).getD (16 * r + j) 0 = (rkN key r).getD j 0 := rkP_get h 11 r j hr hj
section
variable {key s : List Nat} {ρ : Pl} (hval : ∀ i v, qbV (rkF key) s i = some v → ρ.val i = some v)
include hval
theorem qkC_ok (hk : Bytes key) (hl : key.length = 16) : denL ρ qkC = some ((List.range 11).map fun r => Value.string (bytesOf (rkN key r))) := by
  refine denL_map _ _ _ fun r hr => ?_
  have hr := List.mem_range.1 hr
  refine den_strs_mk ?_ (rkN_bytes hk r)
  have : (rkN key r).map (fun (z : Nat) => Value.int .u8 (z : Int)) = (List.range 16).map fun i => Value.int .u8 (((rkN key r).getD i 0 : Nat) : Int) := by
    conv => lhs; rw [← map_getD (rkN_len hl r)]
    rw [List.map_map]; rfl
  rw [this]
  refine denL_map _ _ _ fun j hj => ?_
  have hj := List.mem_range.1 hj
  have hv := qbV_k (rk := rkF key) (s := s) (i := 16 * r + j) (by omega)
  rw [rkF_get hl hr hj, ← Nat.add_assoc] at hv
  exact D.sym8 (hval _ _ hv) (getD_lt (rkN_bytes hk r) (by decide) j)
theorem qbEnd_ok (hk : Bytes key) (hs : Bytes s) : den ρ (.strs qbEnd) = some (.string (bytesOf (aesF (rkF key) s))) := by
  refine den_strs_mk ?_ (aesF_bytes (rkF_bytes hk) hs)
  have : (aesF (rkF key) s).map (fun (z : Nat) => Value.int .u8 (z : Int)) = (List.range 16).map fun i => Value.int .u8 (((aesF (rkF key) s).getD i 0 : Nat) : Int) := by
    conv => lhs; rw [← map_getD (aesF_len (rkF key) s)]
    rw [List.map_map]; rfl
  rw [this]
  exact denL_map _ _ _ fun i hi => D.sym8 (hval _ _ (qbV_n (by decide) (List.mem_range.1 hi))) (getD_lt (aesF_bytes (rkF_bytes hk) hs) (by decide) i)
end
set_option maxRecDepth 100000 in
theorem rblk_any (w : World) (kb cap sb : Nat) (key : List Nat) (s : ByteArray) (hkb : Bytes key) (hkl : key.length = 16) (hs : s.size = 16) (hK : KeysAt w kb cap key) (hS : At w sb 5 (bcells SUBL)) (hne : kb ≠ sb) :
    Calls Tryz.prog 169 #[.slice (some ⟨kb, 0, none⟩) 11 cap, .slice (some ⟨sb, 0, none⟩) 256 256, .string s] w fun e w' => e = .returned (.string (bytesOf (aesF (rkF key) (bsOf s)))) ∧ Touch [kb] w w' ∧ KeysAt w' kb cap key := by
  have hsb := bsOf_bytes s
  have hsl : (bsOf s).length = 16 := by rw [bsOf_len, hs]
  have hst : s = bytesOf (bsOf s) := (bytesOf_bsOf s).symm
  generalize bsOf s = l at hsb hsl hst
  subst hst
  obtain ⟨arr, z, k1, k2, k3, k4, k5⟩ := hK
  have hin : denL (plA [(kb, cap), (sb, 256)] (qbV (rkF key) l)) ((List.range 16).map b8) = some (l.map fun (z : Nat) => Value.int .u8 (z : Int)) := by
    have : (l.map fun (z : Nat) => Value.int .u8 (z : Int)) = (List.range 16).map fun i => Value.int .u8 ((l.getD i 0 : Nat) : Int) := by
      conv => lhs; rw [← map_getD hsl]
      rw [List.map_map]; rfl
    rw [this]
    exact denL_map _ _ _ fun i hi => D.sym8 (qbV_s (List.mem_range.1 hi)) (getD_lt hsb (by decide) i)
  have h1 := any_run envOk (fun {_} => rtIs_ok) qb_run (by decide) (qbV (rkF key) l) (fun b h1 h2 => qbV_none h1 h2) (qb_lg hsb (rkF_bytes hkb)) w (bl := [(kb, cap), (sb, 256)]) rfl (by simp [hne]) ?_
    (us := [.slice (some ⟨kb, 0, none⟩) 11 cap, .slice (some ⟨sb, 0, none⟩) 256 256, .string (bytesOf l)]) (denL_cons.2 ⟨_, _, den_sluq (p := (kb, cap)) rfl k4, denL_cons.2 ⟨_, _, den_slc_mk (x := (sb, 256)) rfl _ _ _, denL_cons.2 ⟨_, _, den_strs_mk hin hsb, denL_nil _, rfl⟩, rfl⟩, rfl⟩)
  · refine h1.mono ?_
    rintro e w' ⟨ρ', u, rfl, l1, l2, l3, l4⟩
    rw [qbEnd_ok l1.val hkb hsb] at l2
    cases l2
    obtain ⟨y0, ob0, a1, a2, a3, -⟩ := l4 (0, .cells qkC 9 true) (by simp)
    obtain ⟨y1, ob1, c1, c2, c3, -⟩ := l4 (1, .cells subC 5 false) (by simp)
    have e0 : ρ' 0 = some (kb, cap) := l1.le 0 (kb, cap) rfl
    have e1 : ρ' 1 = some (sb, 256) := l1.le 1 (sb, 256) rfl
    rw [show ρ' 0 = some y0 from a1] at e0
    rw [show ρ' 1 = some y1 from c1] at e1
    cases e0
    cases e1
    have hS' := obj_sub c2 c3
    refine ⟨rfl, ⟨l3.os, l3.tape, l3.output, l3.size, fun k h1 h2 => ?_⟩, ?_⟩
    · by_cases hk : k = sb
      · subst hk; exact hS'.trans hS.symm
      · exact l3.block k h1 (by simp only [List.map_cons, List.map_nil, List.mem_cons, List.not_mem_nil, or_false, not_or]; exact ⟨by simpa using h2, hk⟩)
    · cases ob0 with
      | cells arr e' z =>
        obtain ⟨rfl, ⟨us, d1, d2⟩, d3, -⟩ := a3
        rw [denC_of_L (by decide)] at d1
        have d4 := qkC_ok l1.val hkb hkl
        rw [d1] at d4
        cases d4
        rw [if_pos rfl] at d2
        simp only [List.length_map, List.length_range] at d2
        rw [cells_string, Nat.mul_one] at d2
        exact ⟨arr, z, a2, d2.1, d2.2, k4, d3.1⟩
      | _ => exact a3.elim
  · intro j y o hj ho
    match j with
    | 0 =>
      cases hj; cases ho
      refine ⟨_, k1, rfl, ⟨_, by rw [denC_of_L (by decide)]; exact qkC_ok (fun _ _ h => h) hkb hkl, ?_⟩, ⟨k5, fun h => by cases h⟩, by decide⟩
      rw [if_pos rfl]
      simp only [List.length_map, List.length_range]
      exact ⟨k2, by rw [cells_string, Nat.mul_one]; exact k3⟩
    | 1 => cases hj; cases ho; exact subObj hS _ _
    | j + 2 => simp at hj
end Go.Proofs.YtodehmognjofhaaGreat

namespace Go.Proofs.YtodehmognjofhaaGreat
open Go.RowKit

set_option maxRecDepth 100000 in
set_option maxHeartbeats 1600000 in
theorem rnext_any (w : World) (s : ByteArray) (hs : s.size = 16) : Calls Tryz.prog 170 #[.string s] w fun e w' => e = .returned (.string (bytesOf (inc (bsOf s) 16))) ∧ Touch [] w w' := by
  have hcv := run_bytes_of_string (P := Tryz.prog) w 9 36 5 s Tryz.underlying9 Tryz.underlying36 Tryz.underlying5
  have hcap := grownCap_ge w s.size 0 5
  have HR := Lib.hid (rowZ_bytes w s (grownCap w s.size 0 5) 5 hcap)
  have hb := bsOf_bytes s
  have hl : (bsOf s).length = 16 := by rw [bsOf_len, hs]
  generalize bytesRow s (grownCap w s.size 0 5) = row at hcv HR
  generalize grownCap w s.size 0 5 = cap at hcv hcap
  rw [hs] at hcv
  generalize bsOf s = z at HR hb hl
  clear hs hcap
  generalize hr : inc z 16 = r
  go_enter Tryz.func170, Tryz.ntmps170
  go_wp2
  clear hcv
  go_loopw [4] (fun i wr => ∃ (k : Nat) (l : List Nat), k ≤ 16 ∧ i = .int .i64 ((k : Int) - 1) ∧ l.length = 16 ∧ Bytes l ∧ Hid (inc l k = r) ∧ Touch [] w wr ∧ Hid (RowZ wr w.heap.size 5 (bcells l))) (fun i _ => (intOf i + 1).toNat)
  case atStart => exact ⟨16, z, Nat.le_refl _, rfl, hl, hb, Lib.hid hr, ((Touch.refl [] w).alloc _).drew, HR⟩
  case round =>
    obtain ⟨k, l, hk, rfl, hll, hlb, HI, tr, HA⟩ := hrel
    by_cases hk0 : 0 < k
    · have hki : (0 : Int) ≤ (k : Int) - 1 := by omega
      obtain ⟨m, rfl⟩ : ∃ m, k = m + 1 := ⟨k - 1, by omega⟩
      have hm : ((m + 1 : Nat) : Int) - 1 = (m : Int) := by omega
      rw [hm] at hki ⊢
      have hm16 : m < 16 := by omega
      have hmi : (m : Int) < 16 := by omega
      have c0 := HA.out.cell (i := m) (bcells_get (getD_some (by omega)))
      have fr := HA.out.frozen (i := m) (by rw [bcells_len]; omega)
      have hg := getD_lt hlb (by decide) m
      have hst := HI.out
      unfold inc at hst
      by_cases hy : (l.getD m 0 + 1) % 256 = 0
      · rw [if_pos hy] at hst
        have HS := Lib.hid hst
        have HA2 := Lib.hid (HA.out.set (i := m) (by rw [bcells_len]; omega) (.int .u8 ((0 : Nat) : Int)))
        rw [bcells_set' l m 0] at HA2
        have hb2 := set_bytes hlb (show 0 < 256 by decide) m
        have j0 : IntKind.u8.wrap (((l.getD m 0 : Nat) : Int) + 1) = 0 := by rw [IntKind.wrap_u8]; omega
        clear hst
        generalize l.getD m 0 = x at c0 j0 hg
        go_wp2
        refine ⟨⟨m, l.set m 0, by omega, rfl, by rw [List.length_set]; exact hll, hb2, HS, tr.setCell _ (.inr (Nat.le_refl _)) _, HA2⟩, by simp [intOf]⟩
      · rw [if_neg hy] at hst
        have HA2 := HA.out.set (i := m) (by rw [bcells_len]; omega) (.int .u8 (((l.getD m 0 + 1) % 256 : Nat) : Int))
        rw [bcells_set' l m _] at HA2
        have hb2 := set_bytes hlb (Nat.mod_lt (l.getD m 0 + 1) (show 0 < 256 by decide)) m
        have hcv := RowZ.conv (P := Tryz.prog) HA2 hb2 16 cap (by rw [List.length_set]; exact hll) Tryz.underlying36 Tryz.underlying5 Tryz.underlying9
        have j0 : IntKind.u8.wrap (((l.getD m 0 : Nat) : Int) + 1) = (((l.getD m 0 + 1) % 256 : Nat) : Int) := by rw [IntKind.wrap_u8]; omega
        have j1 : ¬ (((l.getD m 0 + 1) % 256 : Nat) : Int) = 0 := by omega
        have j2 : ((((l.getD m 0 + 1) % 256 : Nat) : Int) != 0) = true := bne_iff_ne.2 j1
        rw [hst] at hcv
        clear hst HA2 hb2 hy
        generalize (l.getD m 0 + 1) % 256 = y at hcv j0 j1 j2
        generalize l.getD m 0 = x at c0 j0 hg
        go_wp2
        go_ret
        exact ⟨rfl, tr.setCell _ (.inr (Nat.le_refl _)) _⟩
    · have hki : ¬ (0 : Int) ≤ (k : Int) - 1 := by omega
      obtain rfl : k = 0 := by omega
      have hcv := RowZ.conv (P := Tryz.prog) HA.out hlb 16 cap hll Tryz.underlying36 Tryz.underlying5 Tryz.underlying9
      have e := HI.out
      unfold inc at e
      rw [e] at hcv
      go_wp2
      go_ret
      exact ⟨rfl, tr⟩
end Go.Proofs.YtodehmognjofhaaGreat

namespace Go.Proofs.YtodehmognjofhaaGreat
open Go.RowKit

/-- so many blocks of the stream. -/
def stS (rk ns : List Nat) (q : Nat) : List Nat := (List.range q).flatMap fun i => aesF rk (ctrN ns i)
theorem stS_succ (rk ns : List Nat) (q : Nat) : stS rk ns (q + 1) = stS rk ns q ++ aesF rk (ctrN ns q) := by
  unfold stS
  rw [List.range_succ, List.flatMap_append]
  simp
theorem stS_len (rk ns : List Nat) : ∀ q, (stS rk ns q).length = 16 * q
  | 0 => rfl
  | q + 1 => by rw [stS_succ, List.length_append, stS_len rk ns q, aesF_len]; omega
theorem stS_get (rk ns : List Nat) : ∀ q j, j < 16 * q → (stS rk ns q).getD j 0 = ksB rk ns j
  | 0, j, h => by omega
  | q + 1, j, h => by
    rw [stS_succ, List.getD_eq_getElem?_getD]
    by_cases e : j < 16 * q
    · rw [List.getElem?_append_left (by rw [stS_len]; exact e), ← List.getD_eq_getElem?_getD]
      exact stS_get rk ns q j e
    · rw [List.getElem?_append_right (by rw [stS_len]; omega), stS_len, ← List.getD_eq_getElem?_getD]
      unfold ksB
      rw [show j / 16 = q by omega, show j % 16 = j - 16 * q by omega]
def szOf : Value → Nat
  | .string s => s.size
  | _ => 0
/-- a text is the stream's first bytes. -/
def StOk (y : ByteArray) (n : Nat) (rk ns : List Nat) : Prop := y.size = n ∧ ∀ j, j < n → (bsOf y).getD j 0 = ksB rk ns j
set_option maxRecDepth 100000 in
set_option maxHeartbeats 1600000 in
theorem rstream_at (w : World) (key nonce : ByteArray) (ky ns : List Nat) (hky : bsOf key = ky) (hns : bsOf nonce = ns) (n : Nat) (hk : key.size = 16) (hn : nonce.size = 16) (hm : n < 1152921504606846976) : Calls Tryz.prog 137 #[.string key, .string nonce, .int .i64 (n : Int)] w fun e w' =>
    ∃ y, e = .returned (.string y) ∧ StOk y n (rkF ky) ns ∧ Touch [] w w' := by
  have hkb : Hid (Bytes ky) := Lib.hid (hky ▸ bsOf_bytes key)
  have hkl : Hid (ky.length = 16) := Lib.hid (by rw [← hky, bsOf_len, hk])
  have hnl : Hid (ns.length = 16) := Lib.hid (by rw [← hns, bsOf_len, hn])
  have hnb : Hid (Bytes ns) := Lib.hid (hns ▸ bsOf_bytes nonce)
  have CR := Lib.hid fun (W : World) (sb : Nat) (h : At W sb 5 (bcells SUBL)) => hky ▸ rrounds_any W sb key hk h
  have hN : Hid (nonce = bytesOf (ctrN ns 0)) := Lib.hid (by rw [← hns]; exact (bytesOf_bsOf nonce).symm)
  clear hky hns
  go_enter Tryz.func137, Tryz.ntmps137
  go_wp2_with fail
  refine (rtable_any _).mono ?_
  rintro e w2 ⟨sb, rfl, hge2, t2, hS2⟩
  have T2 := Lib.hid t2
  have HS2 := Lib.hid hS2
  have HG2 := Lib.hid hge2
  have hls := hS2.lt
  clear t2 hS2 hge2
  go_wp2_with fail
  refine (CR.out w2 sb HS2.out).mono ?_
  rintro e w3 ⟨kb, cap, rfl, hge3, t3, hK3⟩
  have HNE : Hid (kb ≠ sb) := Lib.hid (by omega)
  have T3 := Lib.hid (T2.out.trans' t3)
  have HS3 := Lib.hid (HS2.out.touch t3 (by simp))
  have HK3 := Lib.hid hK3
  have HKW : Hid (w.heap.size ≤ kb) := Lib.hid (by have := T2.out.size; omega)
  clear t3 hK3 hge3 HS2 T2 HG2 CR hls hk
  have HN1 := Lib.hid hn
  clear hn
  go_wp2_with fail
  go_loopw [9, 1] (fun s np wr => ∃ (q : Nat) (S : ByteArray), s = .string S ∧ np = .string (bytesOf (ctrN ns q)) ∧ S.size = 16 * q ∧ Hid (bsOf S = stS (rkF ky) ns q) ∧ 16 * q < n + 16 ∧ Touch [] w wr ∧ Hid (KeysAt wr kb cap ky) ∧ Hid (At wr sb 5 (bcells SUBL))) (fun s _ _ => n + 16 - szOf s)
  case atStart => exact ⟨0, ⟨#[]⟩, rfl, congrArg Value.string hN.out, rfl, Lib.hid rfl, by omega, T3.out, HK3, HS3⟩
  case round =>
    obtain ⟨q, S, rfl, rfl, hSz, HSl, hq, tr, HK, HS⟩ := hrel
    by_cases hlt : S.size < n
    · have hli : (S.size : Int) < (n : Int) := by omega
      have hcl := ctrN_len hnl.out q
      have hcb := ctrN_bytes hnb.out q
      have CB := rblk_any wr kb cap sb ky (bytesOf (ctrN ns q)) hkb.out hkl.out (by rw [bytesOf_size, hcl]) HK.out HS.out HNE.out
      have CN := Lib.hid fun W => rnext_any W (bytesOf (ctrN ns q)) (by rw [bytesOf_size, hcl])
      rw [bsOf_bytesOf hcb] at CB CN
      have hel : (bytesOf (aesF (rkF ky) (ctrN ns q))).size = 16 := by rw [bytesOf_size, aesF_len]
      have HE : Hid (bsOf (bytesOf (aesF (rkF ky) (ctrN ns q))) = aesF (rkF ky) (ctrN ns q)) := Lib.hid (bsOf_bytesOf (aesF_bytes (rkF_bytes hkb.out) hcb))
      generalize bytesOf (aesF (rkF ky) (ctrN ns q)) = E at CB hel HE
      generalize bytesOf (ctrN ns q) = C at CB CN ⊢
      have no1 : ¬ 9223372036854775807 < S.size + E.size := by omega
      have HEL := Lib.hid hel
      have HSZ := Lib.hid hSz
      clear hcl hcb hel hSz
      go_wp2_with fail
      refine CB.mono ?_
      clear CB
      rintro e w5 ⟨rfl, t5, hK5⟩
      have HK5 := Lib.hid hK5
      have T5 := Lib.hid t5
      have HS5 := Lib.hid (HS.out.touch t5 (by simpa using HNE.out.symm))
      clear t5 hK5
      go_wp2_with fail
      refine (CN.out _).mono ?_
      rintro e w6 ⟨rfl, t6⟩
      have T6 := Lib.hid t6
      clear t6
      go_wp2_with fail
      refine ⟨⟨q + 1, S ++ E, rfl, rfl, by rw [ByteArray.size_append, HEL.out, HSZ.out]; omega, Lib.hid (by rw [bsOf_append, HE.out, HSl.out, stS_succ]), by have := HSZ.out; omega, (tr.trans T5.out (fun x hx => .inr (by rw [List.mem_singleton.1 hx]; exact HKW.out))).trans' T6.out, Lib.hid (HK5.out.touch T6.out (by simp)), Lib.hid (HS5.out.touch T6.out (by simp))⟩, ?_⟩
      simp only [szOf, ByteArray.size_append, HEL.out]
      omega
    · have hli : ¬ (S.size : Int) < (n : Int) := by omega
      have hle : (n : Int) ≤ (S.size : Int) := by omega
      have h0 : (0 : Int) ≤ (n : Int) := by omega
      have HX : Hid (StOk (S.extract 0 n) n (rkF ky) ns) := Lib.hid (by
        refine ⟨by rw [ByteArray.size_extract]; omega, fun j hj => ?_⟩
        rw [bsOf_extract, List.drop_zero, Nat.sub_zero, HSl.out, List.getD_eq_getElem?_getD, List.getElem?_take, if_pos hj, ← List.getD_eq_getElem?_getD]
        exact stS_get _ _ _ _ (by omega))
      go_wp2_with fail
      go_ret
      exact ⟨_, rfl, HX.out, tr⟩
end Go.Proofs.YtodehmognjofhaaGreat

namespace Go.Proofs.YtodehmognjofhaaGreat
open Go.RowKit

set_option maxRecDepth 100000 in
set_option maxHeartbeats 1600000 in
theorem rturn_at (w : World) (key nonce s : ByteArray) (ky ns sl : List Nat) (hky : bsOf key = ky) (hns : bsOf nonce = ns) (hsl : bsOf s = sl) (hk : key.size = 16) (hn : nonce.size = 16) (hm : s.size < 1152921504606846976) : Calls Tryz.prog 99 #[.string key, .string nonce, .string s] w fun e w' =>
    e = .returned (.string (bytesOf (ctrF (rkF ky) ns sl))) ∧ Touch [] w w' := by
  have C := Lib.hid (rstream_at w key nonce ky ns hky hns s.size hk hn hm)
  have hkb : Bytes (rkF ky) := rkF_bytes (hky ▸ bsOf_bytes key)
  have hnb : Bytes ns := hns ▸ bsOf_bytes nonce
  have hsb : Bytes sl := hsl ▸ bsOf_bytes s
  have hll : sl.length = s.size := by rw [← hsl, bsOf_len]
  have HB := Lib.hid (And.intro hkb (And.intro hnb hsb))
  have HS := Lib.hid hsl
  have HL := Lib.hid hll
  clear hky hns hk hn hkb hnb hsb hsl hll
  go_enter Tryz.func99, Tryz.ntmps99
  go_wp2_with fail
  refine C.out.mono ?_
  clear C
  rintro e w2 ⟨y, rfl, hy, t2⟩
  have T2 := Lib.hid t2
  have HY := Lib.hid hy
  have hys := hy.1
  clear t2 hy
  have hcv := run_bytes_of_string (P := Tryz.prog) w2 9 36 5 s Tryz.underlying9 Tryz.underlying36 Tryz.underlying5
  have hcap := grownCap_ge w2 s.size 0 5
  have HR := Lib.hid (rowZ_bytes w2 s (grownCap w2 s.size 0 5) 5 hcap)
  generalize bytesRow s (grownCap w2 s.size 0 5) = row at hcv HR
  generalize grownCap w2 s.size 0 5 = cap at hcv hcap
  rw [HS.out] at HR
  clear hcap
  go_wp2
  clear hcv
  have W2 : w.heap.size ≤ w2.heap.size := T2.out.size
  go_loopw [9] (fun i wr => ∃ k : Nat, k ≤ s.size ∧ i = .int .i64 (k : Int) ∧ Touch [] w wr ∧ Hid (RowZ wr w2.heap.size 5 (bcells (ctrK (rkF ky) ns sl k)))) (fun i _ => s.size - (intOf i).toNat)
  case atStart => exact ⟨0, Nat.zero_le _, rfl, (T2.out.alloc _).drew, Lib.hid (by rw [ctrK_zero]; exact HR.out)⟩
  case round =>
    obtain ⟨k, hk, rfl, tr, HA⟩ := hrel
    by_cases hkn : k < s.size
    · have hki : (k : Int) < (s.size : Int) := by omega
      have j0 : (0 : Int) ≤ (k : Int) := by omega
      have hlk : k < sl.length := by rw [HL.out]; exact hkn
      have hky : k < y.size := by omega
      have hkyi : (k : Int) < (y.size : Int) := by omega
      go_wp2
      refine region_tail 10 (by kernel_rfl) (by kernel_rfl) (fun w3 t3 => ?_)
      have HA1 := Lib.hid (HA.out.touch t3 (by simp))
      have T3 := Lib.hid (tr.trans' t3)
      clear t3 HA
      have c0 := HA1.out.cell (i := k) (v := .int .u8 ((sl.getD k 0 : Nat) : Int)) (bcells_get (ctrK_get _ _ _ hlk))
      have fr := HA1.out.frozen (i := k) (by rw [bcells_len, ctrK_len]; exact hlk)
      have hb := bsJ_at y hky
      have hyk := HY.out.2 k hkn
      have hlt := ksB_lt HB.out.1 HB.out.2.1 k
      have hls := getD_lt HB.out.2.2 (by decide) k
      have hst := ctrK_set (rkF ky) ns sl k
      have HA2 := HA1.out.set (i := k) (by rw [bcells_len, ctrK_len]; exact hlk) (.int .u8 (((sl.getD k 0 ^^^ ksB (rkF ky) ns k : Nat)) : Int))
      rw [bcells_set', hst] at HA2
      have HA3 := Lib.hid HA2
      have cy : (y[k]'hky).toNat = ksB (rkF ky) ns k := by rw [← hb, hyk]
      clear hst HA2 hb hyk HA1
      generalize sl.getD k 0 = x at c0 hls HA3
      generalize ksB (rkF ky) ns k = z at cy hlt HA3
      have hx := u8_xor_nat x z hls hlt
      simp only [List.take_succ_cons, List.take_zero, List.drop_succ_cons, List.drop_zero]
      repeat (first | still_step | still_call (rturn_at w3))
      refine wpStill_nil ?_
      go_wp2
      refine ⟨⟨k + 1, by omega, rfl, T3.out.setCell _ (.inr W2) _, HA3⟩, by simp [intOf]; omega⟩
    · have hki : ¬ (k : Int) < (s.size : Int) := by omega
      obtain rfl : k = s.size := by omega
      have HF := HA.out
      have he : ctrK (rkF ky) ns sl s.size = ctrF (rkF ky) ns sl := by rw [← HL.out]; exact ctrK_end _ _ _
      rw [he] at HF
      have hcv := RowZ.conv (P := Tryz.prog) HF (ctrF_bytes HB.out.1 HB.out.2.1 HB.out.2.2) s.size cap (by rw [ctrF_len, HL.out]) Tryz.underlying36 Tryz.underlying5 Tryz.underlying9
      clear he HF
      go_wp2
      go_ret
      exact ⟨rfl, tr⟩
end Go.Proofs.YtodehmognjofhaaGreat
