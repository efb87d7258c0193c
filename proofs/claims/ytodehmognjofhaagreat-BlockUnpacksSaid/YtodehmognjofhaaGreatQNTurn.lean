/-
  The program's cipher: the stream.
-/
import Derived.RangeFuncNested
import Derived.RangeFuncBound
import Derived.RangeFuncCalls
import Derived.RangeFuncLeaves
import Derived.Shelf.Abstract
import Derived.Shelf.RegionOpen
import Derived.OwnWalkIn
import Derived.TacticsInMore
import Derived.LoopNIn
import Derived.LoopIn
import Derived.Test.YtodehmognjofhaaGreatQNAesN
import Derived.Test.YtodehmognjofhaaGreatQNMac
namespace Go.Proofs.YtodehmognjofhaaGreat
open Go.RowKit Go.Shelf

/-- a counter, one on: from byte i down. -/
def inc (l : List Nat) : Nat → List Nat
  | 0 => l
  | i + 1 => if (l.getD i 0 + 1) % 256 = 0 then inc (l.set i 0) i else l.set i ((l.getD i 0 + 1) % 256)
def ctrN (nonce : List Nat) : Nat → List Nat
  | 0 => nonce
  | q + 1 => inc (ctrN nonce q) 16
/-- the stream's bytes. -/
def ksB (rk nonce : List Nat) (j : Nat) : Nat := (aesF rk (ctrN nonce (j / 16))).getD (j % 16) 0
theorem inc_len : ∀ (i : Nat) (l : List Nat), (inc l i).length = l.length
  | 0, _ => rfl
  | i + 1, l => by
    unfold inc
    split
    · rw [inc_len i, List.length_set]
    · rw [List.length_set]
theorem set_bytes {l : List Nat} (h : Bytes l) {x : Nat} (hx : x < 256) (i : Nat) : Bytes (l.set i x) := fun y hy => (List.mem_or_eq_of_mem_set hy).elim (h y) (fun e => by rw [e]; exact hx)
theorem inc_bytes : ∀ (i : Nat) {l : List Nat}, Bytes l → Bytes (inc l i)
  | 0, _, h => h
  | i + 1, l, h => by
    unfold inc
    split
    · exact inc_bytes i (set_bytes h (by decide) i)
    · exact set_bytes h (Nat.mod_lt _ (by decide)) i
theorem ctrN_len {nonce : List Nat} (h : nonce.length = 16) : ∀ q, (ctrN nonce q).length = 16
  | 0 => h
  | q + 1 => (inc_len 16 _).trans (ctrN_len h q)
theorem ctrN_bytes {nonce : List Nat} (h : Bytes nonce) : ∀ q, Bytes (ctrN nonce q)
  | 0 => h
  | q + 1 => inc_bytes 16 (ctrN_bytes h q)

theorem UNSUBL_len : UNSUBL.length = 256 := by decide +kernel
theorem not_any (w : World) (cb : Nat) (rk : List Nat) (hl : rk.length = 176) (hC : At w cb 214 (ccells rk)) : Calls Tryz.prog 134 #[.pointer (some ⟨cb, 0, none⟩)] w fun e w' => e = .returned (.bool false) ∧ w' = w := by
  have c0 : w.cell? ⟨cb, 688, none⟩ = some (.bool true) := by
    have e : (bcells (SUBL ++ UNSUBL)).length = 512 := by rw [bcells_len, List.length_append, SUBL_len, UNSUBL_len]
    rw [hC.cell]
    unfold ccells tabC
    rw [List.getElem?_append_right (by rw [bcells_len]; omega), bcells_len, hl, List.getElem?_append_right (by rw [e]; decide), e]
    rfl
  go_enter Tryz.func134, Tryz.ntmps134
  go_wp2
  go_ret
  exact ⟨rfl, rfl⟩
theorem load_cells {P : Program} {w : World} {b : Nat} {ty el : TypeId} {cs : List Value} {n off : Nat} (hc : ∀ j v, cs[j]? = some v → w.cell? ⟨b, off + j, none⟩ = some v) (hu : P.underlying ty = some (.array n el)) (hi : (P.info? ty).map (·.size) = some cs.length) : (loadVar ty ⟨b, off, none⟩).run P w = .ok (.agg cs.toArray) w := by
  have hl := run_loadCells_list (P := P) w ⟨b, off, none⟩ cs (fun j v hj => by rw [Addr.add_lit]; exact hc j v hj)
  cases hq : P.info? ty with
  | none => simp [hq] at hi
  | some i =>
    have hs : i.size = cs.length := by simpa [hq] using hi
    have hagg : (isAgg ty).run P w = .ok true w := by
      unfold isAgg
      rw [Sem.run_bind, run_underlying hu w]
      rfl
    simp [loadVar, Sem.run_bind, hagg, sizeOf, typeInfo, hq, hs, hl]
section
variable {n : Nat} {P : Program} {ops : Array Oper} {Q : Exit → Act → World → Prop} {a : Act} {w w' : World} {rest : List Oper} {o : Oper}
theorem wpListIn_val (hg : o.guard = none) {v : Value} (hrun : (execOp a.eval o).run P w = .ok (.value v) w') (h : wpListIn Fence.wide n P ops Q rest (a.put o.dst v) w') : wpListIn Fence.wide n P ops Q (o :: rest) a w := by
  refine wpListIn_plain hg fun K hK => ⟨fun _ _ => trivial, ?_⟩
  show o.uponIn _ _ _ _ _ _ ((execOp a.eval o).run P w)
  rw [hrun]
  exact hK _ _ h
theorem wpListIn_skp (hg : o.guard = none) (hrun : (execOp a.eval o).run P w = .ok .skip w') (h : wpListIn Fence.wide n P ops Q rest (a.put o.dst undef) w') : wpListIn Fence.wide n P ops Q (o :: rest) a w := by
  refine wpListIn_plain hg fun K hK => ⟨fun _ _ => trivial, ?_⟩
  show o.uponIn _ _ _ _ _ _ ((execOp a.eval o).run P w)
  rw [hrun]
  exact hK _ _ h
theorem wpListIn_load_cells (hg : o.guard = none) (ty : TypeId) (x : Operand) (ho : o.op = .load ty x) (b off : Nat) (hx : a.eval x = .pointer (some ⟨b, off, none⟩)) {el : TypeId} {cs : List Value} {m : Nat} (hc : ∀ j v, cs[j]? = some v → w.cell? ⟨b, off + j, none⟩ = some v) (hu : P.underlying ty = some (.array m el)) (hi : (P.info? ty).map (·.size) = some cs.length)
    (h : wpListIn Fence.wide n P ops Q rest (a.put o.dst (.agg cs.toArray)) w) : wpListIn Fence.wide n P ops Q (o :: rest) a w := by
  refine wpListIn_val hg (v := .agg cs.toArray) ?_ h
  unfold execOp
  simp only [ho, hx, Instr.loadAt, Instr.sureAddr, Sem.run_bind, Sem.run_pure, Result.andThen_ok, load_cells hc hu hi]
theorem setRow_at {w : World} {b : Nat} {t : TypeId} {old cs : List Value} (hA : At w b t old) : At (w.setRow b cs.toArray) b t cs := setRow_heap w b _ _ t _ hA
theorem setRow_touch (w : World) (b : Nat) (cs : Array Value) : Touch [b] w (w.setRow b cs) := ⟨rfl, rfl, rfl, by simp [World.setRow], fun k _ hk => setRow_other w b k cs (by simpa using hk)⟩
theorem wpListIn_store_at (hg : o.guard = none) (ty : TypeId) (x y : Operand) (ho : o.op = .store ty x y) (hd : o.dst = none) (b : Nat) {t : TypeId} {old cs : List Value} (hx : a.eval x = .pointer (some ⟨b, 0, none⟩)) (hy : a.eval y = .agg cs.toArray) (hA : At w b t old) (hi : (P.info? ty).map (·.size) = some cs.length) (hold : old.length = cs.length) (h1 : cs.toArray.all (·.oneCell') = true)
    (h : ∀ w', Hid (At w' b t cs) → Touch [b] w w' → wpListIn Fence.wide n P ops Q rest a w') : wpListIn Fence.wide n P ops Q (o :: rest) a w := by
  refine wpListIn_skp hg (w' := w.setRow b cs.toArray) ?_ (by rw [hd]; exact h _ (setRow_at hA) (setRow_touch w b _))
  have := run_storeVar_row (P := P) w b t ty old.toArray cs.toArray hA (by rw [hi, List.size_toArray]) (by rw [List.size_toArray, List.size_toArray, hold]) h1
  unfold execOp
  simp only [ho, hx, hy, Instr.storeAt, Instr.sureAddr, Sem.run_bind, Sem.run_pure, Result.andThen_ok, this]
end
/-- how many have come. -/
noncomputable def jOf (J : Nat → World → Prop) (W : World) : Nat := Classical.epsilon fun j => J j W
theorem jOf_eq {J : Nat → World → Prop} {W : World} {j : Nat} (hu : ∀ i j W, J i W → J j W → i = j) (h : J j W) : jOf J W = j := hu _ _ _ (Classical.epsilon_spec (p := fun j => J j W) ⟨j, h⟩) h
theorem new16 (W : World) : ∀ (arr : Array Value) (b : Nat), arr = (bcells (List.replicate 16 0)).toArray → b = W.heap.size → At (W.alloc (.cells arr 210)) b 210 (bcells (List.replicate 16 0)) := by
  intro arr b ha hb
  subst ha hb
  exact At.new W _ _
attribute [local go_sem] Oper.semAt_some
set_option maxRecDepth 100000 in
set_option maxHeartbeats 3200000 in
theorem stream_in (l : Nat) (L : List Nat) (J : Nat → World → Prop) (Jx : World → Prop) (n : Nat) (W0 : World) (cb xb nb : Nat) (rk : List Nat) (nonce : ByteArray)
    (hrl : rk.length = 176) (hrb : Bytes rk) (hnl : nonce.size = 16)
    (hC : At W0 cb 214 (ccells rk)) (hx : At W0 xb 167 [.pointer (some ⟨cb, 0, none⟩)]) (hn : At W0 nb 9 [.string nonce])
    (hcL : cb ∉ L) (hxL : xb ∉ L) (hLlt : ∀ x ∈ L, x < W0.heap.size)
    (hJu : ∀ i j W, J i W → J j W → i = j)
    (hJ : ∀ j W W' l', J j W → Touch l' W W' → (∀ x ∈ l', W0.heap.size ≤ x) → J j W')
    (hY : ∀ j W, j ≤ n → J j W → W0.heap.size ≤ W.heap.size → YieldAt Fence.wide 0 Tryz.prog l #[.int .u8 (ksB rk (bsOf nonce) j)] W fun e W' => Touch L W W' ∧ ((j < n ∧ e = .returned (.bool true) ∧ J (j + 1) W') ∨ (j = n ∧ e = .returned (.bool false) ∧ Jx W')))
    (h0 : J 0 W0) :
    CallsIn Fence.wide 0 Tryz.prog 165 #[.func (.yield l) #[] #[], .pointer (some ⟨xb, 0, none⟩), .pointer (some ⟨nb, 0, none⟩)] W0 fun e W' => (∃ v, e = .returned v) ∧ Touch L W0 W' ∧ Jx W' := by
  have c1 : W0.cell? ⟨xb, 0, none⟩ = some (.pointer (some ⟨cb, 0, none⟩)) := hx.cell 0
  have c2 : W0.cell? ⟨nb, 0, none⟩ = some (.string nonce) := hn.cell 0
  have hnli : (nonce.size : Int) = 16 := by omega
  have lC := hC.lt
  have lX := hx.lt
  have CN := not_any W0 cb rk hrl hC
  have HC := Lib.hid hC
  have HX := Lib.hid hx
  clear hC hx hn
  refine callsIn_of_wp Tryz.func165 rfl trivial ?_ rfl
  simp only [Tryz.ntmps165, List.size_toArray, List.length_cons, List.length_nil, Nat.reduceAdd, Nat.reduceSub, Array.replicate_succ, Array.replicate_zero, List.push_toArray, List.append_toArray, List.nil_append, List.cons_append]
  have hcv := run_bytes_of_string (P := Tryz.prog) W0 9 36 5 nonce Tryz.underlying9 Tryz.underlying36 Tryz.underlying5
  have hcap := grownCap_ge W0 nonce.size 0 5
  have hrow : ∀ i, i < 16 → (bytesRow nonce (grownCap W0 nonce.size 0 5))[i]? = some (.int .u8 (((bsOf nonce).getD i 0 : Nat) : Int)) := by
    intro i hi
    unfold bytesRow
    rw [Array.getElem?_append_left (by simp; omega), Array.getElem?_map]
    have : nonce.data[i]? = some (nonce.data[i]'(by have : nonce.data.size = 16 := hnl; omega)) := Array.getElem?_eq_getElem _
    rw [this]
    simp only [Option.map_some, bsOf]
    congr 3
    rw [List.getD_eq_getElem?_getD, List.getElem?_map, Array.getElem?_toList, this]
    rfl
  generalize bytesRow nonce (grownCap W0 nonce.size 0 5) = row at hcv hrow
  generalize grownCap W0 nonce.size 0 5 = cap at hcv hcap
  have hsap : ∀ (W : World) (b c : Nat), (Instr.arrayAt 210 (.slice (some ⟨b, 0, none⟩) 16 c)).run Tryz.prog W = .ok (.pointer (some ⟨b, 0, none⟩)) W := by
    intro W b c
    simp [Instr.arrayAt, run_underlying Tryz.underlying210]
  have hN16 : (bsOf nonce).length = 16 := by rw [bsOf_len]; exact hnl
  have hsz16 : (Tryz.prog.info? 210).map (·.size) = some (bcells (bsOf nonce)).length := by rw [bcells_len, hN16]; kernel_rfl
  have hsz16' : (Tryz.prog.info? 210).map (·.size) = some (bcells (bsOf nonce)).toArray.size := by rw [List.size_toArray]; exact hsz16
  have hZ0 : Hid (∀ (arr : Array Value) (b : Nat), arr = (bcells (List.replicate 16 0)).toArray → b = W0.heap.size + 1 → At (((W0.alloc (.cells row 5 (row.size, row.size + 1))).alloc (.cells arr 210)).drew) b 210 (bcells (List.replicate 16 0))) := by
    intro arr b ha hb
    subst ha hb
    have := (At.new (W0.alloc (.cells row 5 (row.size, row.size + 1))) 210 (bcells (List.replicate 16 0))).drew
    rw [World.size_alloc] at this
    exact this
  have hlen16 : (bcells (List.replicate 16 0)).length = (bcells (bsOf nonce)).length := by rw [bcells_rlen, bcells_len, hN16]
  have hcells : Hid (∀ j v, (bcells (bsOf nonce))[j]? = some v → ((W0.alloc (.cells row 5 (row.size, row.size + 1))).drew).cell? ⟨W0.heap.size, 0 + j, none⟩ = some v) := by
    intro j v hj
    have hj16 : j < 16 := by have := (List.getElem?_eq_some_iff.1 hj).1; rw [bcells_len, hN16] at this; exact this
    rw [bcells_get (getD_some (l := bsOf nonce) (k := j) (by rw [hN16]; exact hj16))] at hj
    cases hj
    rw [Nat.zero_add]
    show (W0.alloc _).cell? _ = _
    rw [cell_of_row _ W0.heap.size j row 5 _ (heap_alloc_new W0 _)]
    exact hrow j hj16
  have HROW := Lib.hid hrow
  clear hrow
  gi_wp2_with (first | (refine ⟨trivial, rfl, ?_⟩; gi_at_call 134; refine (callsIn_wide.2 CN).mono ?_; clear CN; rintro e w1 ⟨rfl, rfl⟩) | (refine wpListIn_load_cells rfl 210 (.tmp 17) rfl _ 0 rfl hcells.out Tryz.underlying210 hsz16 ?_) | (refine wpListIn_store_at rfl 210 (.tmp 4) (.tmp 18) rfl rfl _ rfl rfl (hZ0.out _ _ (by kernel_rfl) (by simp)) hsz16 hlen16 (bcells_one _) ?_; intro w2 hN2 t2))
  have T2 : Touch [] w1 w2 := by
    have h1 : Touch [] w1 (((w1.alloc (.cells row 5 (row.size, row.size + 1))).alloc (.cells (bcells (List.replicate 16 0)).toArray 210)).drew) := (((Touch.refl [] w1).alloc _).alloc _).drew
    exact h1.trans t2 (by intro x hx; rw [List.mem_singleton.1 hx]; exact .inr (by omega))
  have HT2 := Lib.hid T2
  have J2 : J 0 w2 := hJ 0 w1 w2 [] h0 T2 (by simp)
  have s2 := T2.size
  clear t2 hZ0 hcells hcv HROW T2 h0 c2
  gi_loopw [4, 6, 7, 22] (fun np _ _ _ wr => ∃ (q nbk : Nat), np = .pointer (some ⟨nbk, 0, none⟩) ∧ 16 * q ≤ n ∧ J (16 * q) wr ∧ Touch L w1 wr ∧ w1.heap.size ≤ nbk ∧ Hid (At wr nbk 210 (bcells (ctrN (bsOf nonce) q)))) (fun _ _ _ _ wr => n + 1 - jOf J wr)
  case atStart => exact ⟨0, _, rfl, Nat.zero_le _, J2, HT2.out.mono (by simp), by omega, hN2⟩
  case round =>
    obtain ⟨q, nbk, rfl, hq, hj, tr, hge, hA⟩ := hrel
    obtain ⟨wo, hwo⟩ : ∃ wo, wo = wr := ⟨wr, rfl⟩
    subst hwo
    have HCr := HC.out.touch tr hcL
    have c1r : wo.cell? ⟨xb, 0, none⟩ = some (.pointer (some ⟨cb, 0, none⟩)) := (HX.out.touch tr hxL).cell 0
    have hcn : Hid (∀ j v, (bcells (ctrN (bsOf nonce) q))[j]? = some v → wo.cell? ⟨nbk, 0 + j, none⟩ = some v) := by
      intro j v hv
      rw [Nat.zero_add, hA.out.cell]; exact hv
    have hcl := ctrN_len hN16 q
    have hcb := ctrN_bytes (bsOf_bytes nonce) q
    have hszq : (Tryz.prog.info? 210).map (·.size) = some (bcells (ctrN (bsOf nonce) q)).length := by rw [bcells_len, hcl]; kernel_rfl
    have CB := pcipher_any wo cb rk (ctrN (bsOf nonce) q) HCr hrl hrb hcl hcb
    have lo := tr.size
    have ln := hA.out.lt
    have hEl := aesF_len rk (ctrN (bsOf nonce) q)
    have hEE : Hid (∀ k, k < 16 → ksB rk (bsOf nonce) (16 * q + k) = (aesF rk (ctrN (bsOf nonce) q)).getD k 0) := by
      intro k hk
      unfold ksB
      rw [show (16 * q + k) / 16 = q by omega, show (16 * q + k) % 16 = k by omega]
    generalize hE : aesF rk (ctrN (bsOf nonce) q) = E at CB hEl hEE
    clear hE
    gi_wp2_with (first | (refine wpListIn_load_cells rfl 210 (.tmp 4) rfl _ 0 rfl hcn.out Tryz.underlying210 hszq ?_) | (refine ⟨trivial, rfl, ?_⟩; gi_at_call 166; refine (callsIn_wide.2 CB).mono ?_; clear CB; rintro e w3 ⟨rfl, t3⟩))
    have J3 := hJ _ _ _ _ hj t3 (by simp)
    have T3 := Lib.hid (tr.trans t3 (by simp))
    have hA3 := Lib.hid (hA.out.touch t3 (by simp))
    have l3 := t3.size
    have HJ0 := Lib.hid hj
    clear t3 tr hA hj hcn HCr c1r
    gi_loopw [6, 22] (fun _ i wr => ∃ k : Nat, k ≤ 16 ∧ i = .int .i64 k ∧ 16 * q + k ≤ n ∧ J (16 * q + k) wr ∧ Touch L w1 wr ∧ Hid (At wr nbk 210 (bcells (ctrN (bsOf nonce) q)))) (fun _ i _ => 16 - (intOf i).toNat)
    case atStart => exact ⟨0, by omega, rfl, hq, J3, T3.out, hA3⟩
    case round =>
      obtain ⟨k, hk, rfl, hkn, hj, tr, hA⟩ := hrel
      have lq := tr.size
      by_cases hk6 : k < 16
      · have hk6i : (k : Int) < 16 := by omega
        have IDX := index_arr (P := Tryz.prog) wr 210 5 16 Tryz.underlying210 Tryz.underlying5 Tryz.sizeU8 E k hk6 hEl
        obtain ⟨fn, tmps, assign, body, hy, hR⟩ := hY (16 * q + k) wr hkn hj lq
        rw [hEE.out k hk6] at hy
        have TR := Lib.hid tr
        have HJ := Lib.hid hj
        clear tr hj
        generalize E.getD k 0 = xx at IDX hy
        gi_wp2
        refine ⟨rfl, hR.mono ?_⟩
        rintro e w5 ⟨t5, (⟨hlt, rfl, hJ5⟩ | ⟨heq, rfl, hX⟩)⟩
        · have T5 := Lib.hid t5
          have HJ5 := Lib.hid hJ5
          clear t5 hJ5 hy hR
          gi_wp2
          refine ⟨⟨k + 1, by omega, rfl, by omega, HJ5.out, TR.out.trans' T5.out, hA.out.touch T5.out (fun hm => by have := hLlt _ hm; omega)⟩, by simp [intOf]; omega⟩
        · have T5 := Lib.hid t5
          have HX5 := Lib.hid hX
          clear t5 hX hy hR
          gi_wp2
          refine bodyPost_ret (results_none rfl _ _ _) rfl ?_
          exact ⟨⟨_, rfl⟩, TR.out.trans' T5.out, HX5.out⟩
      · have hk6i : ¬ (k : Int) < 16 := by omega
        obtain rfl : k = 16 := by omega
        have HJ := Lib.hid hj
        have TR := Lib.hid tr
        clear hj tr
        obtain ⟨w6, hw6⟩ : ∃ w6, w6 = wr := ⟨wr, rfl⟩
        subst hw6
        gi_wp2
        gi_loopw [7] (fun i wr => ∃ (k : Nat) (c : List Nat), k ≤ 16 ∧ i = .int .i64 ((k : Int) - 1) ∧ Touch [nbk] w6 wr ∧ c.length = 16 ∧ Bytes c ∧ Hid (inc c k = ctrN (bsOf nonce) (q + 1)) ∧ Hid (At wr nbk 210 (bcells c))) (fun i _ => (intOf i + 1).toNat)
        case atStart => exact ⟨16, ctrN (bsOf nonce) q, Nat.le_refl _, rfl, Touch.refl _ _, hcl, hcb, rfl, hA⟩
        case round =>
          obtain ⟨k, c, hk, rfl, tk, hcl', hcb', hinc, hA'⟩ := hrel
          cases k with
          | zero =>
            have hcf : c = ctrN (bsOf nonce) (q + 1) := hinc.out
            have hAf : At wr nbk 210 (bcells (ctrN (bsOf nonce) (q + 1))) := by rw [← hcf]; exact hA'.out
            have hcn : Hid (∀ j v, (bcells (ctrN (bsOf nonce) (q + 1)))[j]? = some v → (wr).cell? ⟨nbk, 0 + j, none⟩ = some v) := by
              intro j v hv
              rw [Nat.zero_add, hAf.cell]; exact hv
            have hszf : (Tryz.prog.info? 210).map (·.size) = some (bcells (ctrN (bsOf nonce) (q + 1))).length := by rw [bcells_len, ctrN_len hN16]; kernel_rfl
            have hlf : (bcells (List.replicate 16 0)).length = (bcells (ctrN (bsOf nonce) (q + 1))).length := by rw [bcells_rlen, bcells_len, ctrN_len hN16]
            have HZ := Lib.hid (new16 (wr))
            have TK : Hid (Touch [nbk] w6 (wr)) := tk
            clear hAf hcf
            gi_wp2_with (first | (refine wpListIn_load_cells rfl 210 (.tmp 4) rfl _ 0 rfl hcn.out Tryz.underlying210 hszf ?_) | (refine wpListIn_store_at rfl 210 (.tmp 4) (.tmp 43) rfl rfl _ rfl rfl (HZ.out _ _ (by kernel_rfl) (by simp)) hszf hlf (bcells_one _) ?_; intro w7 hN7 t7))
            have tf : Touch [nbk] w6 w7 := (TK.out.alloc _).trans t7 (fun x hx => .inr (by have h6 : w6.heap.size ≤ wr.heap.size := (by simpa using TK.out.size); simp at hx; omega))
            have JF : J (16 * (q + 1)) w7 := by
              have := hJ _ _ _ _ HJ.out tf (by intro x hx; rw [List.mem_singleton.1 hx]; exact hge)
              rw [show 16 * (q + 1) = 16 * q + 16 by omega]; exact this
            refine ⟨⟨q + 1, _, rfl, by omega, JF, TR.out.trans tf (by intro x hx; rw [List.mem_singleton.1 hx]; exact .inr hge), ?_, hN7⟩, ?_⟩
            · have := TK.out.size
              simp
              omega
            · rw [jOf_eq hJu JF, jOf_eq hJu HJ0.out]
              omega
          | succ k =>
            have lk := hA'.out.lt
            have hik : (((k + 1 : Nat) : Int) - 1) = (k : Int) := by omega
            rw [hik]
            have hk6 : k < 16 := by omega
            have hk6i : (k : Int) < 16 := by omega
            have hk0 : (0 : Int) ≤ (k : Int) := by omega
            have cell := hA'.out.cell k
            rw [bcells_get (getD_some (l := c) (k := k) (by omega))] at cell
            have fr := fun o => hA'.out.frozen o
            have hinc2 : Hid ((if (c.getD k 0 + 1) % 256 = 0 then inc (c.set k 0) k else c.set k ((c.getD k 0 + 1) % 256)) = ctrN (bsOf nonce) (q + 1)) := hinc
            have hx8 := getD_lt hcb' (by decide) k
            have hset := fun x : Nat => (hA'.out.set k (.int .u8 (x : Int)))
            have HSET : Hid (∀ x : Nat, At (wr.setCell ⟨nbk, k, none⟩ (.int .u8 (x : Int))) nbk 210 (bcells (c.set k x))) := by
              intro x
              have h := hset x
              rw [bcells_set'] at h
              exact h
            clear hset hinc
            generalize c.getD k 0 = x at cell hinc2 hx8
            have j1 : IntKind.u8.wrap ((x : Int) + 1) = (((x + 1) % 256 : Nat) : Int) := by rw [← wrapU8]; simp
            by_cases hz : (x + 1) % 256 = 0
            · rw [hz] at j1
              have hinc3 : Hid (inc (c.set k 0) k = ctrN (bsOf nonce) (q + 1)) := by
                have := hinc2.out
                rw [if_pos hz] at this
                exact this
              clear hinc2
              gi_wp2
              exact ⟨⟨k, c.set k 0, by omega, rfl, tk.setCell _ (.inl (by simp)) _, by rw [List.length_set]; exact hcl', set_bytes hcb' (by decide) k, hinc3, HSET.out 0⟩, by simp [intOf]⟩
            · generalize hy1 : (x + 1) % 256 = y at j1 hz hinc2
              have hyi : (y : Int) ≠ 0 := by omega
              have hinc3 : Hid (c.set k y = ctrN (bsOf nonce) (q + 1)) := by
                have := hinc2.out
                rw [if_neg hz] at this
                exact this
              clear hinc2
              have hcf : c.set k y = ctrN (bsOf nonce) (q + 1) := hinc3.out
              have hAf : At (wr.setCell ⟨nbk, k, none⟩ (.int .u8 (y : Int))) nbk 210 (bcells (ctrN (bsOf nonce) (q + 1))) := by rw [← hcf]; exact HSET.out y
              have hcn : Hid (∀ j v, (bcells (ctrN (bsOf nonce) (q + 1)))[j]? = some v → (wr.setCell ⟨nbk, k, none⟩ (.int .u8 (y : Int))).cell? ⟨nbk, 0 + j, none⟩ = some v) := by
                intro j v hv
                rw [Nat.zero_add, hAf.cell]; exact hv
              have hszf : (Tryz.prog.info? 210).map (·.size) = some (bcells (ctrN (bsOf nonce) (q + 1))).length := by rw [bcells_len, ctrN_len hN16]; kernel_rfl
              have hlf : (bcells (List.replicate 16 0)).length = (bcells (ctrN (bsOf nonce) (q + 1))).length := by rw [bcells_rlen, bcells_len, ctrN_len hN16]
              have HZ := Lib.hid (new16 (wr.setCell ⟨nbk, k, none⟩ (.int .u8 (y : Int))))
              have TK : Hid (Touch [nbk] w6 (wr.setCell ⟨nbk, k, none⟩ (.int .u8 (y : Int)))) := tk.setCell _ (.inl (by simp)) _
              clear hAf hcf
              gi_wp2_with (first | (refine wpListIn_load_cells rfl 210 (.tmp 4) rfl _ 0 rfl hcn.out Tryz.underlying210 hszf ?_) | (refine wpListIn_store_at rfl 210 (.tmp 4) (.tmp 43) rfl rfl _ rfl rfl (HZ.out _ _ (by kernel_rfl) (by simp)) hszf hlf (bcells_one _) ?_; intro w7 hN7 t7))
              have tf : Touch [nbk] w6 w7 := (TK.out.alloc _).trans t7 (fun x hx => .inr (by have h6 : w6.heap.size ≤ wr.heap.size := (by simpa using TK.out.size); simp at hx; omega))
              have JF : J (16 * (q + 1)) w7 := by
                have := hJ _ _ _ _ HJ.out tf (by intro x hx; rw [List.mem_singleton.1 hx]; exact hge)
                rw [show 16 * (q + 1) = 16 * q + 16 by omega]; exact this
              refine ⟨⟨q + 1, _, rfl, by omega, JF, TR.out.trans tf (by intro x hx; rw [List.mem_singleton.1 hx]; exact .inr hge), ?_, hN7⟩, ?_⟩
              · have := TK.out.size
                simp
                omega
              · rw [jOf_eq hJu JF, jOf_eq hJu HJ0.out]
                omega
end Go.Proofs.YtodehmognjofhaaGreat
