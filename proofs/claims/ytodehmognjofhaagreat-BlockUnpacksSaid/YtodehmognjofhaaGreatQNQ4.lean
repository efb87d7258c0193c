/-
  The document's digest of a text.
-/
import Derived.Test.YtodehmognjofhaaGreatQNQB
import Derived.Test.YtodehmognjofhaaGreatQNSum
namespace Go.Proofs.YtodehmognjofhaaGreat
open Go.RowKit

theorem Tryz.infoU8 : (Tryz.prog.info? 5).map (fun i => (i.zero, i.size, i.bytes)) = some (some (.int .u8 0), 1, 1) := by kernel_rfl
theorem RowY.conv {P : Program} {w : World} {e el src dst : TypeId} {b off n cap : Nat} {own : List Nat} {l : List Nat} (hR : RowY w e 1 (some ⟨b, off, none⟩) n cap own (bcells l)) (_hl : Bytes l) (p k c : Nat) (hk : p + k ≤ l.length) (hs : P.underlying src = some (.slice el)) (he : P.underlying el = some (.int .u8)) (hd : P.underlying dst = some .string) :
    (convert src dst (.slice (some ⟨b, off + p, none⟩) k c)).run P w = .ok (.string (bytesOf ((l.drop p).take k))) w := by
  have hlen : ((l.drop p).take k).length = k := by rw [List.length_take, List.length_drop]; omega
  have key := run_loadCells_list (P := P) w ⟨b, off + p, none⟩ (bcells ((l.drop p).take k)) (fun j v hj => by
    rw [Addr.add_lit, Nat.add_assoc]
    refine hR.cellSome (p + j) v ?_
    unfold bcells at hj ⊢
    rw [List.map_take, List.map_drop, List.getElem?_take] at hj
    split at hj
    · rw [List.getElem?_drop] at hj; exact hj
    · cases hj)
  rw [bcells_len, hlen] at key
  have key2 : (loadCells ⟨b, off + p, none⟩ k).run P w = .ok ((((l.drop p).take k).map fun (y : Nat) => (y : Int)).map (Value.int .u8)).toArray w := by
    rw [key, List.map_map]; rfl
  rw [run_convert_bytes_string w _ _ _ _ _ _ hs he hd, run_bytesToString (P := P) w ⟨b, off + p, none⟩ k c _ key2, push_foldl]
  simp
def slenV : Value → Nat
  | .slice _ n _ => n
  | _ => 0
set_option maxRecDepth 100000 in
set_option maxHeartbeats 3200000 in
theorem rof_any (w : World) (s : ByteArray) (hs : s.size < 1099511627776) : Calls Tryz.prog 138 #[.string s] w fun e w' => e = .returned (.string (bytesOf (shaF (bsOf s)))) ∧ Touch [] w w' := by
  have hcv := run_bytes_of_string (P := Tryz.prog) w 9 36 5 s Tryz.underlying9 Tryz.underlying36 Tryz.underlying5
  have hcap := grownCap_ge w s.size 0 5
  have hcm := grownCap_le_maxLen w s.size 0 5 (by simp only [maxLen]; omega)
  have HR := Lib.hid (RowY.bytes w s (grownCap w s.size 0 5) 5 hcap hcm)
  generalize bytesRow s (grownCap w s.size 0 5) = row at hcv HR
  generalize grownCap w s.size 0 5 = cap at hcv hcap HR hcm
  obtain ⟨i0, hii, hz0, hz1, hz2⟩ := info_parts Tryz.infoU8
  go_enter Tryz.func138, Tryz.ntmps138
  have HP : ∀ (W : World) (b : Nat) (y : Int), W.cell? ⟨b, 0, none⟩ = some (.int .u8 y) → ∀ j u, [Value.int .u8 y][j]? = some u → W.cell? ((⟨b, 0, none⟩ : Addr).add j) = some u := by
    intro W b y h j u hj
    cases j with
    | zero => simp at hj; subst hj; rw [Addr.add_lit]; exact h
    | succ j => simp at hj
  have HN := Lib.hid (show At (((w.alloc (.cells row 5 (row.size, row.size + 1))).alloc (.cells #[.int .u8 128] 5)).drew) (w.heap.size + 1) 5 [.int .u8 128] by have := At.new (w.alloc (.cells row 5 (row.size, row.size + 1))) 5 [.int .u8 128]; rw [World.size_alloc] at this; exact this)
  have HR2 := Lib.hid (((HR.out.alloc (.cells #[.int .u8 128] 5)).drew))
  go_wp2_with ((refine wpList_append_rowY _ rfl (.tmp 14) (.tmp 15) 36 rfl 5 i0 _ 1 1 Tryz.u8sT hii hz0 hz1 hz2 rfl (by decide) (some ⟨w.heap.size, 0, none⟩) s.size cap [w.heap.size] (bcells (bsOf s)) rfl HR2.out (some ⟨w.heap.size + 1, 0, none⟩) 1 1 [.int .u8 128] rfl rfl (.inr ⟨_, rfl, HP _ _ 128 (HN.out.cell 0)⟩) (by simp [Value.oneCell']) (by simp only [maxLen]; omega) (by omega) ?_; intro a1 cap1 own1 w1 hR1 t1 ho1 hn1))
  have T1 := Lib.hid ((((Touch.refl [] w).alloc (.cells row 5 (row.size, row.size + 1))).alloc (.cells #[.int .u8 128] 5)).drew.trans t1 (by intro x hx; rw [List.mem_singleton.1 hx]; exact .inr (Nat.le_refl _)))
  have HO1 : Hid (∀ b ∈ own1, w.heap.size ≤ b) := Lib.hid (by
    intro b hb
    rcases ho1 with rfl | rfl
    · rw [List.mem_singleton.1 hb]; exact Nat.le_refl _
    · rw [List.mem_singleton.1 hb]; simp [World.drew, World.size_alloc]; omega)
  have HC1 := Lib.hid hR1
  clear hR1 t1 ho1 hn1 HN HR2 HR hcv
  go_loopw [3] (fun x wr => ∃ (z : Nat) (a : Option Addr) (cp : Nat) (own : List Nat), z ≤ padN s.size ∧ x = .slice a (s.size + 1 + z) cp ∧ Touch [] w wr ∧ Hid (RowY wr 5 1 a (s.size + 1 + z) cp own (bcells (bsOf s ++ 128 :: List.replicate z 0))) ∧ Hid (∀ b ∈ own, w.heap.size ≤ b)) (fun x _ => padN s.size + s.size + 1 - slenV x)
  case atStart => exact ⟨0, a1, cap1, own1, Nat.zero_le _, rfl, T1.out, Lib.hid (by have := HC1.out; unfold bcells at this ⊢; simpa using this), HO1⟩
  case round =>
    obtain ⟨z, a, cp, own, hz, rfl, tr, HRr, HOr⟩ := hrel
    obtain ⟨m, hm⟩ : ∃ m, m = s.size + 1 + z := ⟨_, rfl⟩
    rw [← hm] at HRr ⊢
    obtain ⟨r, hr⟩ : ∃ r, r = m % 64 := ⟨_, rfl⟩
    have e4 : (m : Int).tmod 64 = (r : Int) := by rw [Int.tmod_eq_emod_of_nonneg (by omega)]; omega
    have hmm : m < 2199023255552 := by unfold padN at hz; omega
    by_cases hq : r = 56
    · have hri : ((r : Int) == 56) = true := by rw [hq]; rfl
      have hzp : z = padN s.size := by unfold padN at hz ⊢; omega
      have hml : m = s.size + 1 + padN s.size := by rw [hm, hzp]
      subst hzp
      obtain ⟨wo, hwo⟩ : ∃ wo, wo = wr := ⟨wr, rfl⟩
      subst hwo
      have ML : (bsOf s ++ 128 :: List.replicate (padN s.size) 0).length = m := by rw [hml]; simp [bsOf_len]; omega
      obtain ⟨M, hM⟩ : ∃ M, M = bsOf s ++ 128 :: List.replicate (padN s.size) 0 := ⟨_, rfl⟩
      rw [← hM] at HRr ML
      have HQ64 := Lib.hid (show (m + 8) % 64 = 0 by omega)
      have HML := Lib.hid hml
      have HMM := Lib.hid hM
      have HML2 := Lib.hid ML
      have HQ := Lib.hid hq
      clear hml hM ML hm hr hz hq T1 HC1 HO1
      go_wp2
      have hne : ((r : Int) != 56) = false := by rw [HQ.out]; rfl
      rw [hne]
      clear hri e4 hne
      go_loopw [3, 5] (fun x i wr => ∃ (k : Nat) (a : Option Addr) (cp : Nat) (own : List Nat), k ≤ 8 ∧ i = .int .i64 k ∧ x = .slice a (m + k) cp ∧ Touch [] w wr ∧ Hid (RowY wr 5 1 a (m + k) cp own (bcells (M ++ (be8 (8 * s.size)).take k))) ∧ Hid (∀ b ∈ own, w.heap.size ≤ b)) (fun _ i _ => 8 - (intOf i).toNat)
      case atStart => exact ⟨0, a, cp, own, by omega, rfl, rfl, tr, Lib.hid (by rw [List.take_zero, List.append_nil]; exact HRr.out), HOr⟩
      case round =>
        obtain ⟨k, a, cp, own, hk, rfl, rfl, tr, HRr, HOr⟩ := hrel
        by_cases hk8 : k < 8
        · have hki : (k : Int) < 8 := by omega
          have j0 : (0 : Int) ≤ (k : Int) := by omega
          have j1 : IntKind.u64.wrap (8 * (s.size : Int)) = ((8 * s.size : Nat) : Int) := by rw [IntKind.wrap_u64]; omega
          have j2 : IntKind.i64.wrap (8 * (k : Int)) = 8 * (k : Int) := IntWalk.i64_in _ (by omega)
          have j3 : IntKind.i64.wrap (56 - 8 * (k : Int)) = ((56 - 8 * k : Nat) : Int) := by rw [IntWalk.i64_in _ (by omega)]; omega
          have j4 : IntKind.u64.wrap ((56 - 8 * k : Nat) : Int) = ((56 - 8 * k : Nat) : Int) := by rw [IntKind.wrap_u64]; omega
          go_wp2_with ((refine wpList_append_rowY _ rfl (.tmp 32) (.tmp 40) 36 rfl 5 i0 _ 1 1 Tryz.u8sT hii hz0 hz1 hz2 rfl (by decide) a (m + k) cp own (bcells (M ++ (be8 (8 * s.size)).take k)) rfl (HRr.out.alloc _) (some ⟨wr.heap.size, 0, none⟩) 1 1 _ rfl rfl (.inr ⟨_, rfl, HP _ _ _ ((At.new wr 5 [_]).cell 0)⟩) (by simp [Value.oneCell']) (by simp only [maxLen]; omega) (by omega) ?_; intro a2 cap2 own2 w2 hR2 t2 ho2 hn2))
          have hb8 : (be8 (8 * s.size)).length = 8 := be8_len _
          have hgx : (8 * (s.size : Int) / 2 ^ (56 - 8 * k) % 256) = (((be8 (8 * s.size)).getD k 0 : Nat) : Int) := by
            have : (be8 (8 * s.size)).getD k 0 = 8 * s.size / 2 ^ (56 - 8 * k) % 256 := by
              unfold be8
              rw [List.getD_eq_getElem?_getD, List.getElem?_map, List.getElem?_range hk8]; rfl
            rw [this]; simp
          refine ⟨⟨k + 1, a2, cap2, own2, by omega, rfl, rfl, (tr.alloc _).trans t2 (fun x hx => .inr (HOr.out x hx)), Lib.hid ?_, Lib.hid ?_⟩, ?_⟩
          · rw [hgx] at hR2
            have e : bcells (M ++ (be8 (8 * s.size)).take (k + 1)) = bcells (M ++ (be8 (8 * s.size)).take k) ++ [.int .u8 (((be8 (8 * s.size)).getD k 0 : Nat) : Int)] := by
              rw [List.take_succ_eq_append_getElem (by omega), List.getD_eq_getElem?_getD, List.getElem?_eq_getElem (by omega)]
              unfold bcells
              simp only [List.map_append, List.map_cons, List.map_nil, List.append_assoc, Option.getD_some]
            rw [e]
            exact hR2
          · intro b hb
            rcases ho2 with rfl | rfl
            · exact HOr.out b hb
            · rw [List.mem_singleton.1 hb]; have := tr.size; simp; omega
          · simp [intOf]; omega
        · have hki : ¬ (k : Int) < 8 := by omega
          obtain rfl : k = 8 := by omega
          obtain ⟨Pd, hPd⟩ : ∃ Pd, Pd = padF (bsOf s) := ⟨_, rfl⟩
          have hMP : M ++ (be8 (8 * s.size)).take 8 = Pd := by
            rw [hPd, HMM.out, List.take_of_length_le (by rw [be8_len]; exact Nat.le_refl _)]
            unfold padF
            rw [bsOf_len]
          have hPb : Bytes Pd := by
            rw [hPd]
            unfold padF
            intro x hx
            rcases List.mem_append.1 hx with hx | hx
            · rcases List.mem_append.1 hx with hx | hx
              · exact bsOf_bytes s x hx
              · rcases List.mem_cons.1 hx with rfl | hx
                · decide
                · rw [List.eq_of_mem_replicate hx]; decide
            · exact be8_bytes _ x hx
          have hPl : Pd.length = m + 8 := by rw [← hMP, List.length_append, HML2.out, List.length_take, be8_len]; rfl
          have HRP := HRr.out
          rw [hMP] at HRP
          have HRB := Lib.hid HRP
          have HPb := Lib.hid hPb
          have HPd := Lib.hid hPd
          have HPl := Lib.hid hPl
          obtain ⟨wp, hwp⟩ : ∃ wp, wp = wr := ⟨wr, rfl⟩
          subst hwp
          clear HRr HRP hMP hPb hPd hPl hki hk HMM HML2
          go_wp2_with (first | (go_at_call 171; refine (beg_any _).mono ?_; rintro e w2 ⟨vb, rfl, hge2, t2, hB⟩) | (go_at_call 172; refine (con_any _).mono ?_; rintro e w3 ⟨kb, rfl, hge3, t3, hK⟩))
          have HB3 := Lib.hid (hB.touch t3 (by simp))
          have HK3 := Lib.hid hK
          have hlt := hB.lt
          have hne : vb ≠ kb := by omega
          have HR3 := Lib.hid ((HRB.out.touch t2 (by simp)).touch t3 (by simp))
          have T3 := Lib.hid ((tr.trans' t2).trans' t3)
          obtain ⟨wz, hwz⟩ : ∃ wz, wz = w3 := ⟨w3, rfl⟩
          subst hwz
          clear hB hK t2 t3 hge2 hge3 hlt tr HRB
          go_loopw [6, 8] (fun x i wr => ∃ (q nb p : Nat), q ≤ (m + 8) / 64 ∧ p = 64 * q ∧ i = .int .i64 (p : Int) ∧ x = .slice (some ⟨nb, 0, none⟩) 8 8 ∧ nb ≠ kb ∧ Touch [] w wr ∧ Hid (At wr nb 92 (wcells (bf Pd q))) ∧ Hid (At wr kb 92 (wcells KS)) ∧ Hid (RowY wr 5 1 a (m + 8) cp own (bcells Pd))) (fun _ i _ => m + 8 - (intOf i).toNat)
          case atStart => exact ⟨0, vb, 0, Nat.zero_le _, rfl, rfl, rfl, hne, T3.out, HB3, HK3, HR3⟩
          case round =>
            obtain ⟨q, nb, p, hq, hp, rfl, rfl, hne2, tr, HBr, HKr, HRr⟩ := hrel
            by_cases hq8 : q < (m + 8) / 64
            · have hqi : (p : Int) < (m : Int) + 8 := by omega
              have hqi2 : (p : Int) < ((m + 8 : Nat) : Int) := by omega
              have hcp : 0 < cp := by have := HRr.out.2.1; omega
              obtain ⟨b, off, cur, zz, rfl, rfl, hg, hsz, htk, hfr⟩ := HRr.out.form hcp
              have hmc := HRr.out.2.1
              have hb0 : (0 : Int) ≤ (p : Int) := by omega
              have hb1 : (p : Int) + 64 ≤ (cp : Int) := by have := HQ64.out; omega
              have hb2 : (p : Int) ≤ (p : Int) + 64 := by omega
              have hb3 : (0 : Int) ≤ (p : Int) + 64 := by omega
              have hb4 : ((p : Int) + 64).toNat = p + 64 := by omega
              have hb5 : ¬ cp = p := by have := HQ64.out; omega
              have hle : p + 64 ≤ Pd.length := by have := HQ64.out; have := HPl.out; omega
              have cv := RowY.conv (P := Tryz.prog) (src := 36) (dst := 9) (el := 5) HRr.out HPb.out p 64 (cp - p) hle Tryz.u8sT Tryz.underlying5 Tryz.underlying9
              have C := rblock_any wr nb kb (bf Pd q) (bytesOf ((Pd.drop p).take 64)) HBr.out HKr.out hne2 (bf_len _ _) (by rw [bytesOf_size, List.length_take, List.length_drop]; omega) (bf_words _ _)
              rw [bsOf_bytesOf (fun x hx => HPb.out x (List.mem_of_mem_drop (List.mem_of_mem_take hx)))] at C
              have hbf : blockF (bf Pd q) ((Pd.drop p).take 64) = bf Pd (q + 1) := by rw [hp]; rfl
              rw [hbf] at C
              have HQ8 := Lib.hid hq8
              have HP0 := Lib.hid hp
              have HLE := Lib.hid hle
              generalize bytesOf ((Pd.drop p).take 64) = sx at cv C
              clear hq hmc hcp hg hsz htk hfr hp hq8 hle hbf
              go_wp2_with (go_at_call 173; refine C.mono ?_; clear C; rintro e w4 ⟨nb2, rfl, hge4, t4, hB4⟩)
              refine ⟨⟨q + 1, nb2, p + 64, by have := HQ8.out; omega, by have := HP0.out; omega, by simp, rfl, ?_, tr.trans' t4, Lib.hid hB4, Lib.hid (HKr.out.touch t4 (by simp)), Lib.hid (HRr.out.touch t4 (by simp))⟩, ?_⟩
              · have := HKr.out.lt; omega
              · simp [intOf]; omega
            · have hqi : ¬ (p : Int) < (m : Int) + 8 := by have := HQ64.out; omega
              have hqi2 : ¬ (p : Int) < ((m + 8 : Nat) : Int) := by have := HQ64.out; omega
              have hqe : q = (m + 8) / 64 := by omega
              obtain ⟨V, hV⟩ : ∃ V, V = bf Pd q := ⟨_, rfl⟩
              have hres : shaF (bsOf s) = outF V := by
                unfold shaF
                rw [← HPd.out, HPl.out, ← hqe, ← hV]
              have hVl : V.length = 8 := by rw [hV]; exact bf_len _ _
              rw [← hV] at HBr
              have HRES := Lib.hid hres
              have HVL := Lib.hid hVl
              have LNB := Lib.hid HBr.out.lt
              obtain ⟨wy, hwy⟩ : ∃ wy, wy = wr := ⟨wr, rfl⟩
              subst hwy
              clear hV hres hVl hqe hq8 hq hp HKr HRr HOr HB3 HK3 HR3 T3
              go_wp2
              go_loopw [9, 10] (fun x i wr => ∃ (k : Nat) (a : Option Addr) (cp : Nat) (own : List Nat), k ≤ 8 ∧ i = .int .i64 (k : Int) ∧ x = .slice a (4 * k) cp ∧ Touch [] w wr ∧ Hid (At wr nb 92 (wcells V)) ∧ Hid (RowY wr 5 1 a (4 * k) cp own (bcells ((outF V).take (4 * k)))) ∧ Hid (∀ b ∈ own, wy.heap.size ≤ b) ∧ Hid (wy.heap.size ≤ wr.heap.size)) (fun _ i _ => 8 - (intOf i).toNat)
              case atStart => exact ⟨0, none, 0, [], by omega, rfl, rfl, tr, HBr, Lib.hid (RowY.nil _ _ _ _), Lib.hid (by simp), Lib.hid (Nat.le_refl _)⟩
              case round =>
                obtain ⟨k, a3, cp3, own3, hk, rfl, rfl, tr3, HB4, HR4, HO4, HS4⟩ := hrel
                by_cases hk8 : k < 8
                · have hki : (k : Int) < 8 := by omega
                  obtain ⟨wo, hwo⟩ : ∃ wo, wo = wr := ⟨wr, rfl⟩
                  subst hwo
                  go_wp2
                  go_loopw [9, 11] (fun x i wr => ∃ (j : Nat) (a : Option Addr) (cp : Nat) (own : List Nat), j ≤ 4 ∧ i = .int .i64 (j : Int) ∧ x = .slice a (4 * k + j) cp ∧ Touch [] w wr ∧ Hid (At wr nb 92 (wcells V)) ∧ Hid (RowY wr 5 1 a (4 * k + j) cp own (bcells ((outF V).take (4 * k + j)))) ∧ Hid (∀ b ∈ own, wy.heap.size ≤ b) ∧ Hid (wy.heap.size ≤ wr.heap.size)) (fun _ i _ => 4 - (intOf i).toNat)
                  case atStart => exact ⟨0, a3, cp3, own3, by omega, rfl, rfl, tr3, HB4, HR4, HO4, HS4⟩
                  case round =>
                    obtain ⟨j, a5, cp5, own5, hj, rfl, rfl, tr5, HB5, HR5, HO5, HS5⟩ := hrel
                    by_cases hj4 : j < 4
                    · have hji : (j : Int) < 4 := by omega
                      have j0 : (0 : Int) ≤ (k : Int) := by omega
                      have j2 : IntKind.i64.wrap (8 * (j : Int)) = 8 * (j : Int) := IntWalk.i64_in _ (by omega)
                      have j3 : IntKind.i64.wrap (24 - 8 * (j : Int)) = ((24 - 8 * j : Nat) : Int) := by rw [IntWalk.i64_in _ (by omega)]; omega
                      have j4 : IntKind.u64.wrap ((24 - 8 * j : Nat) : Int) = ((24 - 8 * j : Nat) : Int) := by rw [IntKind.wrap_u64]; omega
                      have cV : wr.cell? ⟨nb, k, none⟩ = some (.int .u32 ((V.getD k 0 : Nat) : Int)) := by
                        rw [HB5.out.cell]
                        exact wcells_get (getD_some (by rw [HVL.out]; omega))
                      have hex : ((V.getD k 0 : Nat) : Int) / 2 ^ (24 - 8 * j) % 256 = (((outF V).getD (4 * k + j) 0 : Nat) : Int) := by
                        have : (outF V).getD (4 * k + j) 0 = V.getD k 0 / 2 ^ (24 - 8 * j) % 256 := by
                          unfold outF
                          rw [List.getD_eq_getElem?_getD, List.getElem?_map, List.getElem?_range (by omega)]
                          simp only [Option.map_some, Option.getD_some]
                          rw [show (4 * k + j) / 4 = k by omega, show (4 * k + j) % 4 * 8 = 8 * j by omega]
                        rw [this]; simp
                      generalize V.getD k 0 = vk at cV hex
                      have HEX := Lib.hid hex
                      clear hex
                      go_wp2_with ((refine wpList_append_rowY _ rfl (.tmp 67) (.tmp 78) 36 rfl 5 i0 _ 1 1 Tryz.u8sT hii hz0 hz1 hz2 rfl (by decide) a5 (4 * k + j) cp5 own5 (bcells ((outF V).take (4 * k + j))) rfl (HR5.out.alloc _) (some ⟨wr.heap.size, 0, none⟩) 1 1 _ rfl rfl (.inr ⟨_, rfl, HP _ _ _ ((At.new wr 5 [_]).cell 0)⟩) (by simp [Value.oneCell']) (by simp only [maxLen]; omega) (by omega) ?_; intro a6 cap6 own6 w6 hR6 t6 ho6 hn6))
                      have hnb : nb ∉ own5 := fun h => by have := HO5.out nb h; have := LNB.out; omega
                      have hs6 : wy.heap.size ≤ w6.heap.size := by have := HS5.out; have := t6.size; simp at this; omega
                      refine ⟨⟨j + 1, a6, cap6, own6, by omega, rfl, rfl, (tr5.alloc _).trans t6 (fun x hx => .inr (by have := HO5.out x hx; have := tr.size; omega)), Lib.hid ((HB5.out.alloc _).touch t6 hnb), Lib.hid ?_, Lib.hid ?_, Lib.hid hs6⟩, by simp [intOf]; omega⟩
                      · rw [HEX.out] at hR6
                        have e : bcells ((outF V).take (4 * k + (j + 1))) = bcells ((outF V).take (4 * k + j)) ++ [.int .u8 (((outF V).getD (4 * k + j) 0 : Nat) : Int)] := by
                          have hl := outF_len V
                          rw [← Nat.add_assoc, List.take_succ_eq_append_getElem (by omega), List.getD_eq_getElem?_getD, List.getElem?_eq_getElem (by omega)]
                          unfold bcells
                          simp only [List.map_append, List.map_cons, List.map_nil, Option.getD_some]
                        rw [e]
                        exact hR6
                      · intro b hb
                        rcases ho6 with rfl | rfl
                        · exact HO5.out b hb
                        · rw [List.mem_singleton.1 hb]; have := HS5.out; simp; omega
                    · have hji : ¬ (j : Int) < 4 := by omega
                      obtain rfl : j = 4 := by omega
                      go_wp2
                      exact ⟨⟨k + 1, a5, cp5, own5, by omega, rfl, rfl, tr5, HB5, HR5, HO5, HS5⟩, by simp [intOf]; omega⟩
                · have hki : ¬ (k : Int) < 8 := by omega
                  obtain rfl : k = 8 := by omega
                  have h32 := HR4.out
                  rw [List.take_of_length_le (by rw [outF_len]; decide)] at h32
                  have hc0 : 0 < cp3 := by have := h32.2.1; omega
                  obtain ⟨b, off, cur, zz, rfl, rfl, hg, hsz, htk, hfr⟩ := h32.form hc0
                  have cv : (convert 36 9 (.slice (some ⟨b, off, none⟩) 32 cp3)).run Tryz.prog wr = .ok (.string (bytesOf (outF V))) wr := by
                    have := RowY.conv (P := Tryz.prog) (src := 36) (dst := 9) (el := 5) h32 (outF_bytes _) 0 32 cp3 (by rw [outF_len]; decide) Tryz.u8sT Tryz.underlying5 Tryz.underlying9
                    rw [List.drop_zero, List.take_of_length_le (by rw [outF_len]; decide)] at this
                    exact this
                  rw [← HRES.out] at cv
                  clear hg hsz htk hfr h32 hc0
                  go_wp2
                  go_ret
                  exact ⟨rfl, tr3⟩
    · have hri : ((r : Int) == 56) = false := by rw [beq_eq_false_iff_ne]; omega
      have hzp : z + 1 ≤ padN s.size := by rw [hr, hm] at hq; unfold padN at hz ⊢; omega
      go_wp2_with ((refine wpList_append_rowY _ rfl (.tmp 21) (.tmp 22) 36 rfl 5 i0 _ 1 1 Tryz.u8sT hii hz0 hz1 hz2 rfl (by decide) a m cp own (bcells (bsOf s ++ 128 :: List.replicate z 0)) rfl (HRr.out.alloc _) (some ⟨wr.heap.size, 0, none⟩) 1 1 _ rfl rfl (.inr ⟨_, rfl, HP _ _ _ ((At.new wr 5 [_]).cell 0)⟩) (by simp [Value.oneCell']) (by simp only [maxLen]; omega) (by omega) ?_; intro a2 cap2 own2 w2 hR2 t2 ho2 hn2))
      refine ⟨⟨z + 1, a2, cap2, own2, hzp, rfl, (tr.alloc _).trans t2 (fun x hx => .inr (HOr.out x hx)), Lib.hid ?_, Lib.hid ?_⟩, ?_⟩
      · rw [hm] at hR2
        have e : bcells (bsOf s ++ 128 :: List.replicate (z + 1) 0) = bcells (bsOf s ++ 128 :: List.replicate z 0) ++ [.int .u8 0] := by
          rw [List.replicate_succ']
          unfold bcells
          simp
        rw [e]
        exact hR2
      · intro b hb
        rcases ho2 with rfl | rfl
        · exact HOr.out b hb
        · rw [List.mem_singleton.1 hb]; have := tr.size; simp [World.size_alloc]; omega
      · simp only [slenV]
        omega
end Go.Proofs.YtodehmognjofhaaGreat
