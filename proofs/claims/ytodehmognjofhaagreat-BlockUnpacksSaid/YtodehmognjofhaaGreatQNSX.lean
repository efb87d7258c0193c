/-
  Blocks: packed: the program's.
-/
import Derived.Test.YtodehmognjofhaaGreatQNSD
import Derived.Test.YtodehmognjofhaaGreatQNHash
namespace Go.Proofs.YtodehmognjofhaaGreat
open Go.RowKit

theorem step_call_f2 {P : Program} {w : World} {ops : Array Oper} {o : Oper} {ac : Act} {K : Act → World → Prop} {Q : Exit → Act → World → Prop} {E : Prop} (hgd : o.guard = none) (f : FuncId) (args : Array Value) (hrun : (execOp ac.eval o).run P w = .ok (.enter f args) w)
    (R : Value → World → Prop) (hc : Calls P f args w fun e w' => ∃ v, e = .returned v ∧ R v w') (h : ∀ v w', R v w' → K (ac.put o.dst v) w') : if Region.wanted o (yielded ops ac.tmps) = true then Oper.wp P o ac w K Q else E := by
  have hw : Region.wanted o (yielded ops ac.tmps) = true := by simp [Region.wanted, hgd]
  rw [if_pos hw]
  unfold Oper.wp
  rw [hrun, Oper.upon_enter]
  refine hc.mono fun e w' hv => ?_
  obtain ⟨v, rfl, hR⟩ := hv
  exact h v w' hR
theorem step_copy_str {P : Program} {w : World} {ops : Array Oper} {o : Oper} {a : Act} {K : Act → World → Prop} {E : Prop} {Q : Exit → Act → World → Prop} (hgd : o.guard = none) (d s : Operand) (dT sT : TypeId)
    (ho : o.op = .call { callee := .builtin .copy, args := #[d, s], argTypes := #[dT, sT] }) (elem : TypeId) (hu : P.underlying dT = some (.slice elem)) (hsz : (P.info? elem).map (·.size) = some 1)
    (g off dLen dCap : Nat) (str : ByteArray) (hd : a.eval d = .slice (some ⟨g, off, none⟩) dLen dCap) (hs : a.eval s = .string str)
    (cur : List Value) (t : TypeId) (hg : At w g t cur) (xs : List Nat) (hx : xs = (bsOf str).take dLen) (hfit : off + xs.length ≤ cur.length)
    (h : ∀ w', Hid (At w' g t (splice cur off (bcells xs))) → Touch [g] w w' → K (a.put o.dst (goInt xs.length)) w') : if Region.wanted o (yielded ops a.tmps) = true then Oper.wp P o a w K Q else E := by
  have hw : Region.wanted o (yielded ops a.tmps) = true := by simp [Region.wanted, hgd]
  rw [if_pos hw]
  have hn : Nat.min str.size dLen = xs.length := by rw [hx, List.length_take, bsOf_len]; exact Nat.min_comm _ _
  have hf : (Builtin.firstCells 1 xs.length (.string str)).run P w = .ok (bcells xs).toArray w := by
    show Result.ok ((str.extract 0 xs.length).data.map fun b => Value.int .u8 b.toNat) w = _
    congr 1
    apply Array.ext'
    have e := bsOf_extract str 0 xs.length
    rw [List.drop_zero, Nat.sub_zero] at e
    have e2 : (bsOf str).take xs.length = xs := by
      have hl := congrArg List.length hx
      rw [List.length_take] at hl
      rw [hx, List.length_take, List.take_eq_take_iff]
      omega
    rw [e2] at e
    have e3 : (bcells xs) = (bsOf (str.extract 0 xs.length)).map fun (x : Nat) => Value.int .u8 (x : Int) := by rw [e]; rfl
    rw [e3]
    simp only [bsOf, Array.toList_map, List.map_map]
    rfl
  have hc := hg.cell
  have hst := run_storeCells_cells (P := P) g off (bcells xs) 0 w (fun j hj => by
      rw [hc]
      rw [bcells_len] at hj
      rw [List.getElem?_eq_getElem (by omega)]; rfl) (fun j _ => hg.frozen _) (fun v hv => by
      obtain ⟨x, -, rfl⟩ := List.mem_map.1 hv
      rfl)
  obtain ⟨arr', c1, c2, c3, c4, c5, c6, c7, c8⟩ := setCells_heap g (bcells xs) off w cur.toArray t (0, 0) hg (by simp [bcells_len]; omega)
  have hA : At (w.setCells g off (bcells xs)) g t (splice cur off (bcells xs)) := by
    have e : arr' = (splice cur off (bcells xs)).toArray := by
      apply Array.ext'
      rw [c2]
      simp [splice]
    rw [e] at c1
    exact c1
  have hT : Touch [g] w (w.setCells g off (bcells xs)) := ⟨c6, c7, c8, by rw [c4]; exact Nat.le_refl _, fun k _ hk => c5 k (by simpa using hk)⟩
  have hrun : (Builtin.copy_ #[dT, sT] o.type #[.slice (some ⟨g, off, none⟩) dLen dCap, .string str]).run P w = .ok (goInt xs.length) (w.setCells g off (bcells xs)) := by
    cases hq : P.info? elem with
    | none => simp [hq] at hsz
    | some i =>
      have hi : i.size = 1 := by simpa [hq] using hsz
      simp only [Nat.add_zero] at hst
      simp [Builtin.copy_, run_underlying hu, Builtin.lenOf, sizeOf, typeInfo, hq, hi, hn, hf, hst]
  unfold Oper.wp
  simp [execOp, ho, resolve, invoke, builtin, hd, hs, hrun, Result.andThen]
  exact h _ hA hT
theorem sec_splice {V S : List Nat} (hV : V.length = 8) (hS : S.length = 488) : splice (splice (List.replicate 512 0) 0 V) 8 S = V ++ (S ++ List.replicate 16 0) := by
  unfold splice
  rw [List.take_zero, List.nil_append, hV, hS, List.drop_replicate, List.take_append_of_le_length (by omega), List.take_of_length_le (by omega), List.drop_append, hV, List.drop_of_length_le (by omega), List.nil_append, List.drop_replicate]
set_option maxRecDepth 100000 in
set_option maxHeartbeats 3200000 in
theorem ppack_ok (w : World) (c m : ByteArray) (nn n v : Nat) (s : ByteArray) (hk : mayK c m) (hs : s.size = 448) (hn : n < 9223372036854775808) (hv : v < 18446744073709551616) : Calls Tryz.prog 7 #[.agg #[.string c, .string m], .int .u64 (nn : Int), .int .i64 (n : Int), .int .u64 (v : Int), .string s] w fun e w' =>
    e = .returned (.tuple #[.string (secB c m nn n v s), .int .i64 0]) ∧ Touch [] w w' := by
  have CM := Lib.hid fun W => pkmay_any W c m
  rw [show mayC c m = 0 from if_pos hk] at CM
  have CL := Lib.hid fun W => plabel_any W n v hn hv
  have CS : Hid (∀ W, Calls Tryz.prog 24 #[.agg #[.string c, .string m], .int .u64 (nn : Int), .string (labB n v), .string s] W fun e w' => e = .returned (.tuple #[.string (slB c m nn n v s), .int .i64 0]) ∧ Touch [] W w') := Lib.hid fun W => pseal_any W c m nn (labB n v) s hk hs (by rw [labB_size]; omega)
  have CN := Lib.hid fun W => U64_any W v hv
  have hsz := slB_size c m nn n v s hs
  have hSl : (bsOf (slB c m nn n v s)).length = 488 := by rw [bsOf_len, hsz]
  have hSb := bsOf_bytes (slB c m nn n v s)
  have hVl : (leL 8 v).length = 8 := leL_len 8 v
  have hVb := leL_bytes 8 v
  have HVB : Hid ((leL 8 v) = (bsOf (bytesOf (leL 8 v))).take 512) := Lib.hid (by rw [bsOf_bytesOf hVb, List.take_of_length_le (by omega)])
  have HSB : Hid (bsOf (slB c m nn n v s) = (bsOf (slB c m nn n v s)).take 504) := Lib.hid (by rw [List.take_of_length_le (by omega)])
  have HX : Hid (secB c m nn n v s = bytesOf (leL 8 v ++ (bsOf (slB c m nn n v s) ++ List.replicate 16 0))) := Lib.hid (by unfold secB zB; rw [bytesOf_append, bytesOf_append, bytesOf_bsOf, ByteArray.append_assoc])
  have HSP := Lib.hid (sec_splice hVl hSl)
  have hXb : Bytes (leL 8 v ++ (bsOf (slB c m nn n v s) ++ List.replicate 16 0)) := bytes_app hVb (bytes_app hSb fun x hx => by rw [List.eq_of_mem_replicate hx]; decide)
  have hXl : (leL 8 v ++ (bsOf (slB c m nn n v s) ++ List.replicate 16 0)).length = 512 := by rw [List.length_append, List.length_append, hVl, hSl, List.length_replicate]
  generalize secB c m nn n v s = R at HX ⊢
  generalize hSS : bsOf (slB c m nn n v s) = SL at HSB HX HSP hXb hXl hSl
  generalize slB c m nn n v s = S at CS hSS
  have HSS := Lib.hid hSS
  generalize hVV : leL 8 v = VL at CN HVB HX HSP hXb hXl hVl
  generalize bytesOf VL = V at CN HVB
  generalize labB n v = L at CL CS
  generalize hXX : VL ++ (SL ++ List.replicate 16 0) = XL at HX HSP hXb hXl
  have HXb := Lib.hid hXb
  have HXl := Lib.hid hXl
  have HVl := Lib.hid hVl
  have HSl := Lib.hid hSl
  have hsi : (s.size : Int) = 448 := by omega
  have n0 : ¬ (n : Int) < 0 := by omega
  clear hsz hSb hVb hVV hSS hXX hXb hXl hk hs hVl hSl
  have HK := Lib.hid (At.new w 30 [.string c, .string m])
  go_enter Tryz.func7, Tryz.ntmps7
  go_wp2_with fail
  refine (CM.out _).mono ?_
  rintro e w2 ⟨rfl, t2⟩
  have T2 := Lib.hid (((Touch.refl [] w).alloc (.cells #[.string c, .string m] 30)).trans' t2)
  have HK2 := Lib.hid (HK.out.touch t2 (by simp))
  clear t2 HK CM
  go_upto_region 3 with (fail)
  have c0 : w2.cell? ⟨w.heap.size, 0, none⟩ = some (.string c) := HK2.out.cell 0
  have c1 : w2.cell? ⟨w.heap.size, 1, none⟩ = some (.string m) := HK2.out.cell 1
  go_region_held3 (fun W => W.cell? ⟨w.heap.size, 0, none⟩ = some (.string c) ∧ W.cell? ⟨w.heap.size, 1, none⟩ = some (.string m)) (first | assumption | go_keep) (first | (go_at_call 25; refine (CL.out _).mono ?_; rintro e w5 ⟨rfl, t5⟩; have HK5 := Lib.hid (HK2.out.drew.touch t5 (by simp)); have T5 := Lib.hid (T2.out.drew.trans' t5); clear t5; have hK5 : w5.cell? ⟨w.heap.size, 0, none⟩ = some (.string c) ∧ w5.cell? ⟨w.heap.size, 1, none⟩ = some (.string m) := ⟨HK5.out.cell 0, HK5.out.cell 1⟩) | (go_at_call 24; refine (CS.out _).mono ?_; rintro e w6 ⟨rfl, t6⟩; have HK6 := Lib.hid (HK5.out.touch t6 (by simp)); have T6 := Lib.hid (T5.out.trans' t6); clear t6; have hK6 : w6.cell? ⟨w.heap.size, 0, none⟩ = some (.string c) ∧ w6.cell? ⟨w.heap.size, 1, none⟩ = some (.string m) := ⟨HK6.out.cell 0, HK6.out.cell 1⟩))
  go_upto_region 7 with (fail)
  have hA0 : At (w6.alloc (.cells Tryz.zeroCells66 66)) w6.heap.size 66 (bcells (List.replicate 512 0)) := At.new' w6 _ (by kernel_rfl)
  have t7 := T6.out.alloc (.cells Tryz.zeroCells66 66)
  have hge : w.heap.size ≤ w6.heap.size := T6.out.size
  generalize w6.alloc (.cells Tryz.zeroCells66 66) = w7 at hA0 t7 ⊢
  generalize w6.heap.size = ab at hA0 hge ⊢
  have HGE := Lib.hid hge
  go_cut [15] (fun x wx => x = .int .i64 8 ∧ Hid (Touch [] w wx) ∧ Hid (At wx ab 66 (bcells (splice (List.replicate 512 0) 0 VL))))
  case first =>
    have HA7 := Lib.hid hA0
    have T7 := Lib.hid t7
    clear hA0 t7 hge HK6 T6 hK6 HK5 T5 hK5 c0 c1 HSB HSS HX HXb HXl HSl HSP CL CS
    go_region_law ((first | (refine step_call_f2 (by rfl) 26 #[.int .u64 (v : Int)] (by kernel_rfl) (fun v w' => v = .string V ∧ Touch [] w7.drew w') ((CN.out _).mono fun e w' h => ⟨_, h.1, rfl, h.2⟩) ?_; rintro v9 w9 ⟨rfl, t9⟩; have T9 := Lib.hid (T7.out.drew.trans' t9); have HA9 := Lib.hid (HA7.out.drew.touch t9 (by simp)); clear t9) | (refine step_copy_str (by rfl) (.tmp 41) (.tmp 43) 36 9 (by rfl) 5 Tryz.u8sT Tryz.sizeU8 ab 0 512 512 V (by rfl) (by rfl) (bcells (List.replicate 512 0)) 66 HA9.out VL HVB.out (by rw [bcells_len, List.length_replicate, HVl.out]; decide) ?_; intro w10 hB10 t10; rw [splice_bcells] at hB10; have T10 := Lib.hid (T9.out.trans t10 (fun x hx => .inr (by rw [List.mem_singleton.1 hx]; exact HGE.out))); clear t10; rw [HVl.out])))
    all_goals go_wp2_with fail
    all_goals (go_meet; exact ⟨rfl, T10, hB10⟩)
  case rest =>
    obtain ⟨rfl, T10, hB10⟩ := hcut
    clear hA0 t7
    go_wp2_with ((refine wpList_copy_str (o := ⟨some 48, _, _, _, _, _⟩) rfl (.tmp 46) (.tmp 47) 36 9 rfl 5 Tryz.u8sT Tryz.sizeU8 ab 8 504 504 S rfl rfl _ 66 hB10.out SL (by rw [HSS.out]; exact HSB.out) (by rw [bcells_len, length_splice _ _ _ (by rw [List.length_replicate, HVl.out]; decide), List.length_replicate, HSl.out]; decide) ?_; intro w11 hB11 t11; rw [splice_bcells, HSP.out] at hB11; have T11 := Lib.hid (T10.out.trans t11 (fun x hx => .inr (by rw [List.mem_singleton.1 hx]; exact HGE.out))); have hcv := conv_at (P := Tryz.prog) (src := 36) (dst := 9) (e := 5) hB11.out HXb.out 512 512 HXl.out Tryz.u8sT Tryz.underlying5 Tryz.underlying9; rw [← HX.out] at hcv; clear t11))
    go_ret2
    exact ⟨rfl, T11.out⟩
end Go.Proofs.YtodehmognjofhaaGreat

namespace Go.Proofs.YtodehmognjofhaaGreat
open Go.RowKit

set_option maxRecDepth 100000 in
set_option maxHeartbeats 1600000 in
theorem ppack_any (w : World) (c m : ByteArray) (nn : Nat) (num : Int) (v : Nat) (s : ByteArray) (hm : num < 9223372036854775808) (hv : v < 18446744073709551616) : Calls Tryz.prog 7 #[.agg #[.string c, .string m], .int .u64 (nn : Int), .int .i64 num, .int .u64 (v : Int), .string s] w fun e w' =>
    e = .returned (.tuple #[.string (packS c m nn num v s), .int .i64 (packC c m num s)]) ∧ Touch [] w w' := by
  by_cases h1 : mayK c m
  · have CM := Lib.hid fun W => pkmay_any W c m
    rw [show mayC c m = 0 from if_pos h1] at CM
    by_cases h2 : 0 ≤ num
    · by_cases h3 : s.size = 448
      · obtain ⟨n, rfl⟩ : ∃ n : Nat, num = (n : Int) := ⟨num.toNat, by omega⟩
        have ho : okP c m (n : Int) s := ⟨h1, h2, h3⟩
        rw [show packS c m nn (n : Int) v s = secB c m nn n v s from if_pos ho, show packC c m (n : Int) s = 0 from if_pos ho]
        exact ppack_ok w c m nn n v s h1 h3 (by omega) hv
      · have HR : Hid (packS c m nn num v s = ⟨#[]⟩ ∧ packC c m num s = 2) := Lib.hid ⟨if_neg fun h => h3 h.2.2, if_neg fun h => h3 h.2.2⟩
        have n0 : ¬ num < 0 := by omega
        have hsi : ¬ (s.size : Int) = 448 := by omega
        have hsb : ((s.size : Int) != 448) = true := bne_iff_ne.2 hsi
        clear h1
        go_enter Tryz.func7, Tryz.ntmps7
        go_wp2_with (go_at_call 23; refine (CM.out _).mono ?_; rintro e w2 ⟨rfl, t2⟩)
        go_ret2
        exact ⟨by rw [HR.out.1, HR.out.2]; rfl, ((Touch.refl [] w).alloc _).trans' t2⟩
    · have HR : Hid (packS c m nn num v s = ⟨#[]⟩ ∧ packC c m num s = 2) := Lib.hid ⟨if_neg fun h => h2 h.2.1, if_neg fun h => h2 h.2.1⟩
      have n0 : num < 0 := by omega
      clear h1
      go_enter Tryz.func7, Tryz.ntmps7
      go_wp2_with (go_at_call 23; refine (CM.out _).mono ?_; rintro e w2 ⟨rfl, t2⟩)
      go_ret2
      exact ⟨by rw [HR.out.1, HR.out.2]; rfl, ((Touch.refl [] w).alloc _).trans' t2⟩
  · have CM := Lib.hid fun W => pkmay_any W c m
    rw [show mayC c m = 2 from if_neg h1] at CM
    have HR : Hid (packS c m nn num v s = ⟨#[]⟩ ∧ packC c m num s = 2) := Lib.hid ⟨if_neg fun h => h1 h.1, if_neg fun h => h1 h.1⟩
    clear h1
    go_enter Tryz.func7, Tryz.ntmps7
    go_wp2_with (go_at_call 23; refine (CM.out _).mono ?_; rintro e w2 ⟨rfl, t2⟩)
    go_ret2
    exact ⟨by rw [HR.out.1, HR.out.2]; rfl, ((Touch.refl [] w).alloc _).trans' t2⟩
end Go.Proofs.YtodehmognjofhaaGreat
