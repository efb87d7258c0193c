/-
  The program's digest: what has come is summed up.
-/
import Derived.Test.YtodehmognjofhaaGreatQNAdd
import Derived.Test.YtodehmognjofhaaGreatQBFixW
import Derived.Laws.Rows
import Derived.Deep.WholeRow
namespace Go.Proofs.YtodehmognjofhaaGreat
open Go.RowKit

/-- a number's bytes, the greatest first. -/
def be8 (n : Nat) : List Nat := (List.range 8).map fun i => n / 2 ^ (56 - 8 * i) % 256
def outF (v : List Nat) : List Nat := (List.range 32).map fun j => v.getD (j / 4) 0 / 2 ^ (24 - j % 4 * 8) % 256
def padN (n : Nat) : Nat := (119 - n % 64) % 64
def padF (m : List Nat) : List Nat := (m ++ 128 :: List.replicate (padN m.length) 0) ++ be8 (8 * m.length)
/-- the digest. -/
def shaF (m : List Nat) : List Nat := outF (bf (padF m) ((padF m).length / 64))
theorem be8_len (n : Nat) : (be8 n).length = 8 := by simp [be8]
theorem be8_bytes (n : Nat) : Bytes (be8 n) := by
  intro x hx
  obtain ⟨i, -, rfl⟩ := List.mem_map.1 hx
  exact Nat.mod_lt _ (by decide)
theorem outF_len (v : List Nat) : (outF v).length = 32 := by simp [outF]
theorem outF_bytes (v : List Nat) : Bytes (outF v) := by
  intro x hx
  obtain ⟨i, -, rfl⟩ := List.mem_map.1 hx
  exact Nat.mod_lt _ (by decide)
theorem shaF_len (m : List Nat) : (shaF m).length = 32 := outF_len _
theorem shaF_bytes (m : List Nat) : Bytes (shaF m) := outF_bytes _
/-- bytes as a text, out of a block. -/
theorem conv_at {P : Program} {w : World} {b : Nat} {t : TypeId} {l : List Nat} {src dst e : TypeId} (hA : At w b t (bcells l)) (_hl : Bytes l) (n cap : Nat) (hn : l.length = n) (hs : P.underlying src = some (.slice e)) (he : P.underlying e = some (.int .u8)) (hd : P.underlying dst = some .string) :
    (convert src dst (.slice (some ⟨b, 0, none⟩) n cap)).run P w = .ok (.string (bytesOf l)) w := by
  have key := run_loadCells_list (P := P) w ⟨b, 0, none⟩ (bcells l) (fun j v hj => by rw [Addr.add_lit, hA.cell, Nat.zero_add]; exact hj)
  rw [bcells_len, hn] at key
  have key2 : (loadCells ⟨b, 0, none⟩ n).run P w = .ok ((l.map fun (y : Nat) => (y : Int)).map (Value.int .u8)).toArray w := by
    rw [key, List.map_map]; rfl
  rw [run_convert_bytes_string w _ _ _ _ _ _ hs he hd, run_bytesToString (P := P) w ⟨b, 0, none⟩ n cap _ key2, push_foldl]
  simp
/-- so far; zeros behind. -/
def sofar (l : List Nat) (k : Nat) : List Nat := l.take k ++ List.replicate (l.length - k) 0
theorem sofar_len (l : List Nat) (k : Nat) (h : k ≤ l.length) : (sofar l k).length = l.length := by unfold sofar; simp; omega
theorem sofar_set (l : List Nat) (k x : Nat) (h : k < l.length) (hx : l.getD k 0 = x) : (bcells (sofar l k)).set k (.int .u8 x) = bcells (sofar l (k + 1)) := by
  unfold bcells
  rw [← List.map_set]
  congr 1
  unfold sofar
  rw [List.set_append_right _ _ (by simp; omega), List.length_take, Nat.min_eq_left (by omega), Nat.sub_self]
  obtain ⟨m, hm⟩ : ∃ m, l.length - k = m + 1 := ⟨l.length - k - 1, by omega⟩
  rw [hm, List.replicate_succ, List.set_cons_zero, show l.length - (k + 1) = m by omega, List.take_succ_eq_append_getElem h, ← hx, List.getD_eq_getElem?_getD, List.getElem?_eq_getElem h]
  simp only [Option.getD_some, List.append_assoc, List.cons_append, List.nil_append]
theorem sofar_all (l : List Nat) : sofar l l.length = l := by unfold sofar; simp
theorem sofar_zero (l : List Nat) : sofar l 0 = List.replicate l.length 0 := by unfold sofar; simp
theorem sofar_get (l : List Nat) (k : Nat) (h : k < l.length) : ∃ v, (bcells (sofar l k))[k]? = some v := ⟨_, List.getElem?_eq_getElem (by rw [bcells_len, sofar_len _ _ (by omega)]; exact h)⟩

theorem At.new' (w : World) {arr : Array Value} (e : TypeId) {cs : List Value} (h : arr = cs.toArray) : At (w.alloc (.cells arr e)) w.heap.size e cs := by subst h; exact At.new w e cs
theorem new_any (w : World) : Calls Tryz.prog 116 #[] w fun e w' => ∃ hb tb, e = .returned (.pointer (some ⟨hb, 0, none⟩)) ∧ Touch [] w w' ∧ hb ≠ tb ∧ w.heap.size ≤ hb ∧ At w' hb 247 (hcells tb VS (List.replicate 64 0) 0) ∧ At w' tb 245 (wcells (VS ++ KS)) := by
  have C := fixed_any w
  go_enter Tryz.func116, Tryz.ntmps116
  go_wp2_with (go_at_call 155; refine C.mono ?_; rintro e w1 ⟨tb, rfl, h1, t1, hT⟩; clear C; rw [tab_end] at hT; have lt := hT.lt; have hT := Lib.hid hT; have t1 := Lib.hid t1; have c0 : w1.cell? ⟨tb, 0, none⟩ = some (.int .u32 1779033703) := (hT.out.cell 0).trans (by rw [VS_lit]; rfl); have c1 : w1.cell? ⟨tb, 1, none⟩ = some (.int .u32 3144134277) := (hT.out.cell 1).trans (by rw [VS_lit]; rfl); have c2 : w1.cell? ⟨tb, 2, none⟩ = some (.int .u32 1013904242) := (hT.out.cell 2).trans (by rw [VS_lit]; rfl); have c3 : w1.cell? ⟨tb, 3, none⟩ = some (.int .u32 2773480762) := (hT.out.cell 3).trans (by rw [VS_lit]; rfl); have c4 : w1.cell? ⟨tb, 4, none⟩ = some (.int .u32 1359893119) := (hT.out.cell 4).trans (by rw [VS_lit]; rfl); have c5 : w1.cell? ⟨tb, 5, none⟩ = some (.int .u32 2600822924) := (hT.out.cell 5).trans (by rw [VS_lit]; rfl); have c6 : w1.cell? ⟨tb, 6, none⟩ = some (.int .u32 528734635) := (hT.out.cell 6).trans (by rw [VS_lit]; rfl); have c7 : w1.cell? ⟨tb, 7, none⟩ = some (.int .u32 1541459225) := (hT.out.cell 7).trans (by rw [VS_lit]; rfl))
  go_ret
  refine ⟨w1.heap.size, tb, rfl, t1.out.alloc _, by omega, t1.out.size, ?_, hT.out.alloc _⟩
  have e : hcells tb VS (List.replicate 64 0) 0 = hcells tb vLit (List.replicate 64 0) 0 := by rw [VS_lit]
  rw [e]
  exact At.new' w1 _ (by kernel_rfl)
theorem wpList_store_new {P : Program} {ops : Array Oper} {rest : List Oper} {o : Oper} {a : Act} {w : World} {Q : Exit → Act → World → Prop} (hgd : o.guard = none) (ty : TypeId) (x y : Operand) (ho : o.op = .store ty x y)
    (hd : o.dst = none) (old cells : Array Value) (t : TypeId) (hx : a.eval x = .pointer (some ⟨w.heap.size, 0, none⟩)) (hy : a.eval y = .agg cells) (hi : (P.info? ty).map (·.size) = some cells.size)
    (hold : old.size = cells.size) (h1 : cells.all (·.oneCell') = true)
    (h : wpList P ops Q rest a (w.alloc (.cells cells t))) : wpList P ops Q (o :: rest) a (w.alloc (.cells old t)) := by
  refine wpList_store_rowTo hgd ty x y ho hd w.heap.size cells hx hy t old (heap_alloc_new w _) hi hold h1 ?_
  rw [World.setRow_alloc_new]
  exact h
theorem Tryz.sizeHash : (Tryz.prog.info? 247).map (·.size) = some 74 := by kernel_rfl
theorem hcells_one (tb : Nat) (v part : List Nat) (n : Nat) : (hcells tb v part n).toArray.all (·.oneCell') = true := by
  unfold hcells wcells bcells
  simp [Value.oneCell']
theorem pad_one (m : List Nat) : (m ++ 128 :: List.replicate 0 0).length = m.length + 1 := by simp
set_option maxRecDepth 100000 in
set_option maxHeartbeats 1600000 in
theorem sum_any (w : World) (hb tb : Nat) (m v part : List Nat) (hH : At w hb 247 (hcells tb v part m.length)) (hT : At w tb 245 (wcells (VS ++ KS))) (hs : HS m v part) (hlen : m.length < 1152921504606846976) :
    Calls Tryz.prog 118 #[.pointer (some ⟨hb, 0, none⟩)] w fun e w' => e = .returned (.string (bytesOf (shaF m))) ∧ Touch [] w w' := by
  have lh := hH.lt
  have lt := hT.lt
  have c0 : w.cell? ⟨hb, 0, none⟩ = some (.pointer (some ⟨tb, 0, none⟩)) := hH.cell 0
  have e74 : (hcells tb v part m.length).length = 74 := hcells_len hs.vlen hs.len
  have hsz : (Tryz.prog.info? 247).map (·.size) = some (hcells tb v part m.length).toArray.size := by rw [List.size_toArray, e74]; exact Tryz.sizeHash
  have ho : (Tryz.zeroCells247).size = (hcells tb v part m.length).toArray.size := Eq.trans (by kernel_rfl) e74.symm
  have A1 := add_any (w.alloc (.cells (hcells tb v part m.length).toArray 247)) w.heap.size tb m v part ⟨#[128]⟩ (At.new w _ _) (hT.alloc _) (by omega) hs (by show m.length + 1 < _; omega)
  have HVL := Lib.hid hs.vlen
  have HPT := Lib.hid hs.len
  have HH := Lib.hid hH
  have HTB := Lib.hid hT
  have HS0 := Lib.hid hs
  clear hH hT hs
  go_enter Tryz.func118, Tryz.ntmps118
  go_wp2_with (first | (refine wpList_load_row rfl 247 (.tmp 18) rfl hb rfl 247 (hcells tb v part m.length).toArray (0, 0) _ HH.out Tryz.underlying247 rfl hsz ?_) | (refine wpList_store_new rfl 247 (.tmp 3) (.tmp 19) rfl rfl _ (hcells tb v part m.length).toArray _ rfl rfl hsz ho (hcells_one _ _ _ _) ?_) | (go_at_call 117; refine A1.mono ?_; clear A1; rintro e w2 ⟨rfl, t2, v1, part1, hs1, hA1⟩))
  have hH2 : At w2 hb 247 (hcells tb v part m.length) := (HH.out.alloc _).touch t2 (by simp; omega)
  have hT2 : At w2 tb 245 (wcells (VS ++ KS)) := (HTB.out.alloc _).touch t2 (by simp; omega)
  have T2 : Touch [] w w2 := ((Touch.refl [] w).alloc _).trans t2 (by simp)
  have e128 : bsOf ⟨#[128]⟩ = [128] := rfl
  rw [e128] at hs1
  have hA1' : Hid (At w2 w.heap.size 247 (hcells tb v1 part1 (m.length + 1))) := hA1
  have HS1 := Lib.hid hs1
  have HH2 := Lib.hid hH2
  have HT2 := Lib.hid hT2
  have HTT := Lib.hid T2
  clear hA1 hs1 hH2 hT2 T2 t2 HH HTB HS0 e74 hsz ho c0 e128
  go_loopw [] (fun wr => ∃ (z : Nat) (v' part' : List Nat), z ≤ padN m.length ∧ Touch [] w wr ∧ Hid (At wr hb 247 (hcells tb v part m.length)) ∧ Hid (At wr tb 245 (wcells (VS ++ KS))) ∧ Hid (HS (m ++ 128 :: List.replicate z 0) v' part') ∧ Hid (At wr w.heap.size 247 (hcells tb v' part' (m.length + 1 + z)))) (fun wr => match wr.cell? ⟨w.heap.size, 73, none⟩ with | some (.int _ n) => m.length + 1 + padN m.length - n.toNat | _ => 0)
  case atStart => exact ⟨0, v1, part1, Nat.zero_le _, HTT.out, HH2, HT2, HS1, hA1'⟩
  case round =>
    obtain ⟨z, v', part', hz, tr, hHr, hTr, hSr, hAr⟩ := hrel
    have hpl : (m ++ 128 :: List.replicate z 0).length = m.length + 1 + z := by simp; omega
    have lr := tr.size
    have lA := hAr.out.lt
    have cN : wr.cell? ⟨w.heap.size, 73, none⟩ = some (.int .u64 ((m.length + 1 + z : Nat) : Int)) := by rw [hAr.out.cell]; exact hcells_n hSr.out.vlen hSr.out.len
    by_cases hq : (m.length + 1 + z) % 64 = 56
    · have hzp : z = padN m.length := by unfold padN at hz ⊢; omega
      subst hzp
      obtain ⟨wo, hwo⟩ : ∃ wo, wo = wr := ⟨wr, rfl⟩
      subst hwo
      have i5 : (((m.length + 1 + padN m.length : Nat) : Int) % 64 == 56) = true := by rw [beq_iff_eq]; omega
      have HPL := Lib.hid hpl
      have HQ := Lib.hid hq
      clear hpl hq hz
      have c0 : wo.cell? ⟨hb, 73, none⟩ = some (.int .u64 ((m.length : Nat) : Int)) := by rw [hHr.out.cell]; exact hcells_n HVL.out HPT.out
      go_wp2
      go_loopw [5, 26] (fun _ i wr => ∃ k : Nat, k ≤ 8 ∧ i = .int .i64 k ∧ Touch [] w wr ∧ Hid (At wr hb 247 (hcells tb v part m.length)) ∧ Hid (At wr tb 245 (wcells (VS ++ KS))) ∧ Hid (At wr w.heap.size 247 (hcells tb v' part' (m.length + 1 + padN m.length))) ∧ Hid (At wr wo.heap.size 221 (bcells (sofar (be8 (8 * m.length)) k)))) (fun _ i _ => 8 - (intOf i).toNat)
      case atStart =>
        refine ⟨0, by omega, rfl, tr.alloc _, hHr.out.alloc _, hTr.out.alloc _, hAr.out.alloc _, ?_⟩
        exact At.new' wo _ (by rw [sofar_zero, be8_len]; kernel_rfl)
      case round =>
        obtain ⟨k, hk, rfl, tq, hHq, hTq, hAq, hLq⟩ := hrel
        have lL := hLq.out.lt
        have lq := tq.size
        have c0 : wr.cell? ⟨hb, 73, none⟩ = some (.int .u64 ((m.length : Nat) : Int)) := by rw [hHq.out.cell]; exact hcells_n HVL.out HPT.out
        have fr := fun o => hLq.out.frozen o
        by_cases hk8 : k < 8
        · have hki : (k : Int) < 8 := by omega
          have j0 : (0 : Int) ≤ (k : Int) := by omega
          have j1 : IntKind.u64.wrap (8 * (m.length : Int)) = ((8 * m.length : Nat) : Int) := by rw [IntKind.wrap_u64]; omega
          have j2 : IntKind.i64.wrap (8 * (k : Int)) = 8 * (k : Int) := IntWalk.i64_in _ (by omega)
          have j3 : IntKind.i64.wrap (56 - 8 * (k : Int)) = ((56 - 8 * k : Nat) : Int) := by rw [IntWalk.i64_in _ (by omega)]; omega
          have j4 : IntKind.u64.wrap ((56 - 8 * k : Nat) : Int) = ((56 - 8 * k : Nat) : Int) := by rw [IntKind.wrap_u64]; omega
          obtain ⟨x0, cL⟩ := sofar_get (be8 (8 * m.length)) k (by rw [be8_len]; exact hk8)
          rw [← hLq.out.cell] at cL
          go_wp2
          have ex : (8 * (m.length : Int) / 2 ^ (56 - 8 * k) % 256) = (((be8 (8 * m.length)).getD k 0 : Nat) : Int) := by
            have : (be8 (8 * m.length)).getD k 0 = 8 * m.length / 2 ^ (56 - 8 * k) % 256 := by
              unfold be8
              rw [List.getD_eq_getElem?_getD, List.getElem?_map, List.getElem?_range hk8]; rfl
            rw [this]; simp
          rw [ex]
          refine ⟨⟨k + 1, by omega, rfl, tq.setCell _ (.inr (by simp; omega)) _, hHq.out.other (by simp; omega) _, hTq.out.other (by simp; omega) _, hAq.out.other (by simp; omega) _, ?_⟩, by simp [intOf]; omega⟩
          have h := hLq.out.set k (.int .u8 (((be8 (8 * m.length)).getD k 0 : Nat) : Int))
          rw [sofar_set _ _ _ (by rw [be8_len]; exact hk8) rfl] at h
          exact h
        · have hki : ¬ (k : Int) < 8 := by omega
          obtain rfl : k = 8 := by omega
          have hL8 := hLq.out
          have e8 : sofar (be8 (8 * m.length)) 8 = be8 (8 * m.length) := by
            have := sofar_all (be8 (8 * m.length))
            rw [be8_len] at this
            exact this
          rw [e8] at hL8
          have cv := conv_at (P := Tryz.prog) (src := 36) (dst := 9) (e := 5) hL8 (be8_bytes _) 8 8 (be8_len _) Tryz.u8sT Tryz.underlying5 Tryz.underlying9
          have hA := hAq.out
          rw [← HPL.out] at hA
          have C := add_any wr w.heap.size tb _ v' part' (bytesOf (be8 (8 * m.length))) hA hTq.out (by omega) hSr.out (by rw [HPL.out, bytesOf_size, be8_len]; unfold padN; omega)
          rw [bsOf_bytesOf (be8_bytes _), bytesOf_size, be8_len, HPL.out] at C
          have hM : m ++ 128 :: List.replicate (padN m.length) 0 ++ be8 (8 * m.length) = padF m := by unfold padF; rfl
          rw [hM] at C
          clear hA e8 hL8 hM
          go_wp2_with (go_at_call 117; refine C.mono ?_; clear C; rintro e w3 ⟨rfl, t3, v3, part3, hs3, hA3⟩)
          have hq8 : (padF m).length = m.length + 1 + padN m.length + 8 := by unfold padF; rw [List.length_append, HPL.out, be8_len]
          have HS3 := Lib.hid hs3
          have HA3 := Lib.hid hA3
          have T3 := Lib.hid (tq.trans t3 (by simp))
          have l3 := Nat.le_trans lq t3.size
          have l3' := hA3.lt
          clear hs3 hA3 t3 cv c0 fr hAq hTq hHq hLq tq
          obtain ⟨wp, hwp⟩ : ∃ wp, wp = w3 := ⟨w3, rfl⟩
          subst hwp
          clear lq lL wr
          go_loopw [7, 46] (fun _ i wr => ∃ k : Nat, k ≤ 32 ∧ i = .int .i64 k ∧ Touch [] w wr ∧ Hid (At wr w.heap.size 247 (hcells tb v3 part3 (m.length + 1 + padN m.length + 8))) ∧ Hid (At wr wp.heap.size 248 (bcells (sofar (outF v3) k)))) (fun _ i _ => 32 - (intOf i).toNat)
          case atStart =>
            refine ⟨0, by omega, rfl, T3.out.alloc _, HA3.out.alloc _, ?_⟩
            exact At.new' wp _ (by rw [sofar_zero, outF_len]; kernel_rfl)
          case round =>
            obtain ⟨k, hk, rfl, tr, hAr, hLr⟩ := hrel
            have lL := hLr.out.lt
            have lq := tr.size
            have fr := fun o => hLr.out.frozen o
            by_cases hk32 : k < 32
            · have hki : (k : Int) < 32 := by omega
              have j0 : (0 : Int) ≤ (k : Int) := by omega
              obtain ⟨q, hq⟩ : ∃ q, q = k / 4 := ⟨_, rfl⟩
              obtain ⟨r, hr⟩ : ∃ r, r = k % 4 := ⟨_, rfl⟩
              have e1 : (k : Int) / 4 = (q : Int) := by omega
              have e2 : (k : Int) % 4 = (r : Int) := by omega
              have e3 : (k : Int).tdiv 4 = (q : Int) := by rw [Int.tdiv_eq_ediv_of_nonneg j0]; exact e1
              have e4 : (k : Int).tmod 4 = (r : Int) := by rw [Int.tmod_eq_emod_of_nonneg j0]; exact e2
              have q0 : (0 : Int) ≤ (q : Int) := by omega
              have q8 : (q : Int) < 8 := by omega
              have j2 : IntKind.i64.wrap ((r : Int) * 8) = (r : Int) * 8 := IntWalk.i64_in _ (by omega)
              have j3 : IntKind.i64.wrap (24 - (r : Int) * 8) = ((24 - r * 8 : Nat) : Int) := by rw [IntWalk.i64_in _ (by omega)]; omega
              have j4 : IntKind.u64.wrap ((24 - r * 8 : Nat) : Int) = ((24 - r * 8 : Nat) : Int) := by rw [IntKind.wrap_u64]; omega
              have cV : wr.cell? ⟨w.heap.size, 1 + q, none⟩ = some (.int .u32 ((v3.getD q 0 : Nat) : Int)) := by
                rw [hAr.out.cell]
                unfold hcells
                rw [Nat.add_comm 1 q, List.getElem?_cons_succ, List.getElem?_append_left (by rw [wcells_len, HS3.out.vlen]; omega)]
                exact wcells_get (getD_some (by rw [HS3.out.vlen]; omega))
              obtain ⟨x0, cL⟩ := sofar_get (outF v3) k (by rw [outF_len]; exact hk32)
              rw [← hLr.out.cell] at cL
              have ex : (((v3.getD q 0 : Nat) : Int) / 2 ^ (24 - r * 8) % 256) = (((outF v3).getD k 0 : Nat) : Int) := by
                have : (outF v3).getD k 0 = v3.getD q 0 / 2 ^ (24 - r * 8) % 256 := by
                  unfold outF
                  rw [List.getD_eq_getElem?_getD, List.getElem?_map, List.getElem?_range hk32, hq, hr]; rfl
                rw [this]; simp
              generalize v3.getD q 0 = vq at cV ex
              have HQ2 := Lib.hid hq
              have HR2 := Lib.hid hr
              clear hq hr
              go_wp2
              rw [← List.getD_eq_getElem?_getD]
              refine ⟨⟨k + 1, by omega, rfl, tr.setCell _ (.inr (by simp; omega)) _, hAr.out.other (by simp; omega) _, ?_⟩, by simp [intOf]; omega⟩
              have h := hLr.out.set k (.int .u8 (((outF v3).getD k 0 : Nat) : Int))
              rw [sofar_set _ _ _ (by rw [outF_len]; exact hk32) rfl] at h
              exact h
            · have hki : ¬ (k : Int) < 32 := by omega
              obtain rfl : k = 32 := by omega
              have hL8 := hLr.out
              have e8 : sofar (outF v3) 32 = outF v3 := by
                have := sofar_all (outF v3)
                rw [outF_len] at this
                exact this
              rw [e8] at hL8
              have cv := conv_at (P := Tryz.prog) (src := 36) (dst := 9) (e := 5) hL8 (outF_bytes _) 32 32 (outF_len _) Tryz.u8sT Tryz.underlying5 Tryz.underlying9
              have hres : outF v3 = shaF m := by unfold shaF; rw [← HS3.out.v]
              rw [hres] at cv
              go_wp2
              go_ret
              exact ⟨rfl, tr⟩
    · have i5 : (((m.length + 1 + z : Nat) : Int) % 64 == 56) = false := by rw [beq_eq_false_iff_ne]; omega
      have hzp : z + 1 ≤ padN m.length := by unfold padN at hz ⊢; omega
      have hA := hAr.out
      rw [← hpl] at hA
      have C := add_any wr w.heap.size tb _ v' part' ⟨#[0]⟩ hA hTr.out (by omega) hSr.out (by rw [hpl]; show m.length + 1 + z + 1 < _; unfold padN at hzp; omega)
      have HPL := Lib.hid hpl
      clear hpl hA
      go_wp2_with (go_at_call 117; refine C.mono ?_; clear C; rintro e w3 ⟨rfl, t3, v3, part3, hs3, hA3⟩)
      have e0 : bsOf ⟨#[0]⟩ = [0] := rfl
      have e1 : m ++ 128 :: List.replicate z 0 ++ [0] = m ++ 128 :: List.replicate (z + 1) 0 := by
        rw [List.append_assoc, List.cons_append, List.replicate_succ']
      rw [e0, e1] at hs3
      rw [HPL.out] at hA3
      have hA3' : At w3 w.heap.size 247 (hcells tb v3 part3 (m.length + 1 + (z + 1))) := hA3
      refine ⟨⟨z + 1, v3, part3, hzp, tr.trans t3 (by simp), hHr.out.touch t3 (by simp; omega), hTr.out.touch t3 (by simp; omega), hs3, hA3'⟩, ?_⟩
      have c3 : w3.cell? ⟨w.heap.size, 73, none⟩ = some (.int .u64 ((m.length + 1 + (z + 1) : Nat) : Int)) := by rw [hA3'.cell]; exact hcells_n (show HS _ v3 part3 from hs3).vlen (show HS _ v3 part3 from hs3).len
      rw [c3, cN]
      show _ - Int.toNat _ < _ - Int.toNat _
      rw [Int.toNat_natCast, Int.toNat_natCast]
      omega
set_option maxHeartbeats 1600000 in
/-- a text's digest. -/
theorem of_any (w : World) (s : ByteArray) (hs : s.size < 1152921504606846976) : Calls Tryz.prog 76 #[.string s] w fun e w' => e = .returned (.string (bytesOf (shaF (bsOf s)))) ∧ Touch [] w w' := by
  have C := new_any w
  go_enter Tryz.func76, Tryz.ntmps76
  go_wp2_with (go_at_call 116; refine C.mono ?_; clear C; rintro e w1 ⟨hb, tb, rfl, t1, hne, hge, hH, hT⟩)
  have C := add_any w1 hb tb [] VS (List.replicate 64 0) s hH hT hne (HS.start _ (by simp) (fun x hx => by rw [List.eq_of_mem_replicate hx]; decide)) (by simp; omega)
  have HT := Lib.hid hT
  have T1 := Lib.hid t1
  clear hH hT t1
  go_wp2_with (go_at_call 117; refine C.mono ?_; clear C; rintro e w2 ⟨rfl, t2, v2, part2, hs2, hA2⟩)
  rw [List.nil_append] at hs2
  have hA2' : At w2 hb 247 (hcells tb v2 part2 (bsOf s).length) := by
    rw [bsOf_len, ← Nat.zero_add s.size]
    exact hA2
  have C := sum_any w2 hb tb (bsOf s) v2 part2 hA2' (HT.out.touch t2 (by simp [Ne.symm hne])) hs2 (by rw [bsOf_len]; exact hs)
  have T2 := Lib.hid t2
  clear hA2 hA2' hs2 t2
  go_wp2_with (go_at_call 118; refine C.mono ?_; clear C; rintro e w3 ⟨rfl, t3⟩)
  go_ret
  exact ⟨rfl, (T1.out.trans T2.out (by simp; omega)).trans' t3⟩
end Go.Proofs.YtodehmognjofhaaGreat
