/-
  The program's cipher: a text turned: the walk.
-/
import Derived.Test.YtodehmognjofhaaGreatQNTurn2
namespace Go.Proofs.YtodehmognjofhaaGreat
open Go.RowKit Go.Shelf
theorem range_law {P : Program} {g : Operand} {ps : Array Tmp} {assign body : Code} {Q : Exit → Act → World → Prop} {a : Act} {w : World} {gf : Nat} {lb : Array Value} (hg : a.eval g = .func (.func gf) #[] lb) (eg : ∀ args w, (callFunc gf args).run P w = .ok (.enter gf args) w)
    (h : ∀ rec : Loop, rec.state = .ready → rec.pending = none → rec.tmps = a.tmps → rec.params = ps → rec.assign = assign → rec.body = body → rec.defers = w.heap.size →
      CallsIn Fence.wide 0 P gf (#[.func (.yield (w.heap.size + 1)) #[] #[]] ++ lb) ((w.alloc (.deferred (some []))).alloc (.loop rec)) (rangePost Fence.wide 0 P (w.heap.size + 1) Q { a with defers := { target := .collected w.heap.size, args := #[] } :: a.defers })) :
    (Code.rangeFunc g ps assign body).wpIn Fence.wide 0 P Q a w := by
  refine wpIn_rangeFunc fun fn _ => ?_
  have h' := h { state := .ready, pending := none, fn, tmps := a.tmps, params := ps, assign, body, defers := w.heap.size } rfl rfl rfl rfl rfl rfl rfl
  refine ⟨w.heap.size + 1, [{ target := .collected w.heap.size, args := #[] }], (w.alloc (.deferred (some []))).alloc (.loop { state := .ready, pending := none, fn, tmps := a.tmps, params := ps, assign, body, defers := w.heap.size }), { target := .fn (.func gf) lb, args := #[.func (.yield (w.heap.size + 1)) #[] #[]] }, (w.alloc (.deferred (some []))).alloc (.loop { state := .ready, pending := none, fn, tmps := a.tmps, params := ps, assign, body, defers := w.heap.size }), gf, #[.func (.yield (w.heap.size + 1)) #[] #[]] ++ lb, (w.alloc (.deferred (some []))).alloc (.loop { state := .ready, pending := none, fn, tmps := a.tmps, params := ps, assign, body, defers := w.heap.size }), run_enterLoop_outer _ _ _ _ _, ?_, fun _ _ => trivial, ?_, fun hd => (by cases hd), ?_⟩
  · simp only [resolve, hg, Deferred.ofValue]
    simp [Act.eval]
  · simp only [invoke]
    exact eg _ _
  · rw [Nat.zero_sub, List.singleton_append]; exact h'
theorem putObj_touch (W : World) (l : Nat) (o : Obj) : Touch [l] W (W.putObj l o) := ⟨rfl, rfl, rfl, by simp [World.putObj], fun k _ hk => World.putObj_heap_other (by simpa using hk)⟩
structure CJ (rk ns ss : List Nat) (bb sb ib l D : Nat) (rec : Loop) (sl : Value) (w1 : World) (j : Nat) (W : World) : Prop where
  le : j ≤ ss.length
  L : ∃ r, W.heap[l]? = some (.loop r) ∧ r.state = .ready ∧ r.pending = none ∧ r.tmps = rec.tmps ∧ r.params = rec.params ∧ r.assign = rec.assign ∧ r.body = rec.body
  D : W.heap[D]? = some (.deferred (some []))
  R : RowZ W bb 5 (bcells (ctrK rk ns ss j))
  S : At W sb 36 [sl]
  I : At W ib 3 [.int .i64 (j : Int)]
  T : Touch [] w1 W
structure CX (rk ns ss : List Nat) (bb sb l D : Nat) (sl : Value) (w1 : World) (W : World) : Prop where
  L : ∃ r, W.heap[l]? = some (.loop r) ∧ r.state = .done ∧ r.pending = some (.exit 1)
  D : W.heap[D]? = some (.deferred (some []))
  R : RowZ W bb 5 (bcells (ctrF rk ns ss))
  S : At W sb 36 [sl]
  T : Touch [] w1 W
theorem obj_touch {W W' : World} {l : List Nat} {b : Nat} {o : Obj} (h : W.heap[b]? = some o) (t : Touch l W W') (hn : b ∉ l) : W'.heap[b]? = some o := (t.block b (Array.getElem?_eq_some_iff.1 h).1 hn).trans h
theorem CJ.touch {rk ns ss : List Nat} {bb sb ib l D : Nat} {rec : Loop} {sl : Value} {w1 : World} {j : Nat} {W W' : World} {N : Nat} {l' : List Nat} (h : CJ rk ns ss bb sb ib l D rec sl w1 j W) (hN : bb < N ∧ sb < N ∧ ib < N ∧ l < N ∧ D < N) (h1 : w1.heap.size ≤ N) (t : Touch l' W W') (hl : ∀ x ∈ l', N ≤ x) : CJ rk ns ss bb sb ib l D rec sl w1 j W' := by
  have hn : ∀ b, b < N → b ∉ l' := fun b hb hm => by have := hl b hm; omega
  obtain ⟨r, k1, k2⟩ := h.L
  refine ⟨h.le, ⟨r, obj_touch k1 t (hn _ hN.2.2.2.1), k2⟩, obj_touch h.D t (hn _ hN.2.2.2.2), h.R.touch t (hn _ hN.1), h.S.touch t (hn _ hN.2.1), h.I.touch t (hn _ hN.2.2.1), h.T.trans t fun x hx => ?_⟩
  right; have := hl x hx; omega
attribute [local go_sem] Oper.semAt_some
set_option maxRecDepth 100000 in
set_option maxHeartbeats 3200000 in
theorem cturn_any (w : World) (cb : Nat) (rk : List Nat) (nonce s : ByteArray) (hrl : rk.length = 176) (hrb : Bytes rk) (hnl : nonce.size = 16) (hsl : s.size < 1152921504606846976) (hC : At w cb 214 (ccells rk)) :
    Calls Tryz.prog 96 #[.pointer (some ⟨cb, 0, none⟩), .string nonce, .string s] w fun e w' => e = .returned (.tuple #[.string (bytesOf (ctrF rk (bsOf nonce) (bsOf s))), .int .i64 0]) ∧ Touch [] w w' := by
  have hnli : (nonce.size : Int) = 16 := by omega
  have CN := not_any w cb rk hrl hC
  have lC := hC.lt
  have hcv := run_bytes_of_string (P := Tryz.prog) w 9 36 5 s Tryz.underlying9 Tryz.underlying36 Tryz.underlying5
  have hcap := grownCap_ge w s.size 0 5
  have HR := Lib.hid (rowZ_bytes w s (grownCap w s.size 0 5) 5 hcap)
  have HCC := Lib.hid (hC.alloc (.cells (bytesRow s (grownCap w s.size 0 5)) 5 ((bytesRow s (grownCap w s.size 0 5)).size, (bytesRow s (grownCap w s.size 0 5)).size + 1)))
  clear hC
  generalize bytesRow s (grownCap w s.size 0 5) = row at hcv HR HCC
  generalize grownCap w s.size 0 5 = cap at hcv hcap
  refine (callsIn_wide (n := 0)).1 ?_
  refine callsIn_of_wp_marks Tryz.func96 rfl trivial ?_ rfl
  simp only [Tryz.ntmps96, List.size_toArray, List.length_cons, List.length_nil, Nat.reduceAdd, Nat.reduceSub, Array.replicate_succ, Array.replicate_zero, List.push_toArray, List.append_toArray, List.nil_append, List.cons_append]
  gi_wp2_with (refine ⟨trivial, rfl, ?_⟩; gi_at_call 134; refine (callsIn_wide.2 CN).mono ?_; clear CN; rintro e w1 ⟨rfl, hw1⟩; subst hw1)
  refine ⟨trivial, rfl, (callsIn_wide.2 (stream_mk _ cb nonce)).mono ?_⟩
  rintro e w2 ⟨xb, nb, rfl, t2, gx, gn, hx, hn⟩
  have bB : At w2 (w1.heap.size + 1) 36 [.slice (some ⟨w1.heap.size, 0, none⟩) s.size cap] := by
    have h := ((At.new (w1.alloc (.cells row 5 (row.size, row.size + 1))) 36 [.slice (some ⟨w1.heap.size, 0, none⟩) s.size cap]).alloc (.cells #[.int .i64 0] 3)).drew
    rw [World.size_alloc] at h
    exact h.touch t2 (by simp)
  have bI : At w2 (w1.heap.size + 1 + 1) 3 [.int .i64 ((0 : Nat) : Int)] := by
    have h := (At.new ((w1.alloc (.cells row 5 (row.size, row.size + 1))).alloc (.cells #[.slice (some ⟨w1.heap.size, 0, none⟩) s.size cap] 36)) 3 [.int .i64 ((0 : Nat) : Int)]).drew
    rw [World.size_alloc, World.size_alloc] at h
    exact h.touch t2 (by simp)
  have T0 : Touch [] (w1.alloc (.cells row 5 (row.size, row.size + 1))) ((((w1.alloc (.cells row 5 (row.size, row.size + 1))).alloc (.cells #[.slice (some ⟨w1.heap.size, 0, none⟩) s.size cap] 36)).alloc (.cells #[.int .i64 0] 3)).drew) := (((Touch.refl [] _).alloc _).alloc _).drew
  have hR2 := (HR.out.touch T0 (by simp)).touch t2 (by simp)
  have hC2 := (HCC.out.touch T0 (by simp)).touch t2 (by simp)
  have T2 : Touch [] w1 w2 := (((Touch.refl [] w1).alloc _).trans' T0).trans' t2
  have s2 := t2.size
  simp only [World.size_alloc, World.size_drew] at s2 gx gn
  clear t2 T0 HR HCC hcv
  have HX := Lib.hid hx
  have HN := Lib.hid hn
  have HB := Lib.hid bB
  have HI := Lib.hid bI
  have HR2 := Lib.hid hR2
  have HC2 := Lib.hid hC2
  have HT2 := Lib.hid T2
  clear hx hn bB bI hR2 hC2 T2
  gi_wp2
  refine range_law (gf := 165) (lb := #[.pointer (some ⟨xb, 0, none⟩), .pointer (some ⟨nb, 0, none⟩)]) rfl (enters_of Tryz.func165 (by kernel_rfl) rfl) ?_
  intro rec r1 r2 r3 r4 r5 r6 r7
  have lX := HX.out.lt
  have lN := HN.out.lt
  have g1 : ∀ (b : Nat) (t : TypeId) (c : List Value), At w2 b t c → At ((w2.alloc (.deferred (some []))).alloc (.loop rec)) b t c := fun b t c h => (h.alloc _).alloc _
  have tW : Touch [] w2 ((w2.alloc (.deferred (some []))).alloc (.loop rec)) := ((Touch.refl [] w2).alloc _).alloc _
  have hD0 : ((w2.alloc (.deferred (some []))).alloc (.loop rec)).heap[w2.heap.size]? = some (.deferred (some [])) := obj_touch (World.alloc_heap_new w2 _) ((Touch.refl [] _).alloc _) (by simp)
  have hL0 : ((w2.alloc (.deferred (some []))).alloc (.loop rec)).heap[w2.heap.size + 1]? = some (.loop rec) := by
    have := World.alloc_heap_new (w2.alloc (.deferred (some []))) (.loop rec); rwa [World.size_alloc] at this
  have sW : ((w2.alloc (.deferred (some []))).alloc (.loop rec)).heap.size = w2.heap.size + 1 + 1 := by rw [World.size_alloc, World.size_alloc]
  have TW := HT2.out.trans' tW
  have HJ0 : CJ rk (bsOf nonce) (bsOf s) w1.heap.size (w1.heap.size + 1) (w1.heap.size + 1 + 1) (w2.heap.size + 1) w2.heap.size rec (.slice (some ⟨w1.heap.size, 0, none⟩) s.size cap) w1 0 ((w2.alloc (.deferred (some []))).alloc (.loop rec)) :=
    ⟨Nat.zero_le _, ⟨rec, hL0, r1, r2, rfl, rfl, rfl, rfl⟩, hD0, by rw [ctrK_zero]; exact HR2.out.touch tW (by simp), g1 _ _ _ HB.out, g1 _ _ _ HI.out, TW⟩
  refine (stream_in (l := w2.heap.size + 1) (L := [w2.heap.size + 1, w1.heap.size, w1.heap.size + 1 + 1]) (J := CJ rk (bsOf nonce) (bsOf s) w1.heap.size (w1.heap.size + 1) (w1.heap.size + 1 + 1) (w2.heap.size + 1) w2.heap.size rec (.slice (some ⟨w1.heap.size, 0, none⟩) s.size cap) w1) (Jx := CX rk (bsOf nonce) (bsOf s) w1.heap.size (w1.heap.size + 1) (w2.heap.size + 1) w2.heap.size (.slice (some ⟨w1.heap.size, 0, none⟩) s.size cap) w1) (n := s.size) _ cb xb nb rk nonce hrl hrb hnl (g1 _ _ _ HC2.out) (g1 _ _ _ HX.out) (g1 _ _ _ HN.out) ?_ ?_ ?_ ?_ ?_ ?_ HJ0).mono ?_
  · simp; omega
  · simp; omega
  · intro x hx
    rw [sW]
    simp at hx
    omega
  · intro i j W hi hj
    have h1 : W.cell? ⟨w1.heap.size + 1 + 1, 0, none⟩ = _ := hi.I.cell 0
    have h2 : W.cell? ⟨w1.heap.size + 1 + 1, 0, none⟩ = _ := hj.I.cell 0
    rw [h1] at h2
    have : (i : Int) = (j : Int) := by simpa using h2
    omega
  · intro j W W' l' h t hl
    rw [sW] at hl
    exact h.touch (N := w2.heap.size + 1 + 1) (by omega) (by omega) t hl
  · intro j W hjn hJ hW
    clear hD0 hL0 TW HJ0 tW g1
    rw [sW] at hW
    clear sW
    obtain ⟨hle, ⟨r, k1, k2, k3, k4, k5, k6, k7⟩, hD, hR, hS, hI, hT⟩ := hJ
    have kk := ksB_lt hrb (bsOf_bytes nonce) j
    generalize hks : ksB rk (bsOf nonce) j = ks at kk
    have hset := ctrK_set rk (bsOf nonce) (bsOf s) j
    have hget := ctrK_get rk (bsOf nonce) (bsOf s) (k := j)
    rw [hks] at hset
    refine ⟨r.fn, _, _, _, run_yield k1 (by rw [k5, r4]; rfl), roundIn_of_wpIn trivial ?_⟩
    rw [k4, k5, k6, k7, r3, r4, r5, r6]
    rw [show ∀ (t0 : Array Value) (x : Value), ((#[23] : Array Tmp).zip #[x]).foldl (fun tmps p => tmps.setIfInBounds p.1 p.2) t0 = t0.setIfInBounds 23 x from fun _ _ => by simp]
    have hbw : w2.heap.size + 1 < W.heap.size := by omega
    gi_wp2
    refine ⟨_, run_beginRound k1 k2, ?_⟩
    obtain ⟨Wb, hWb⟩ : ∃ Wb, Wb = W.putObj (w2.heap.size + 1) (.loop { r with state := .busy }) := ⟨_, rfl⟩
    rw [← hWb]
    have tB : Touch [w2.heap.size + 1] W Wb := by rw [hWb]; exact putObj_touch _ _ _
    have lB : Wb.heap[w2.heap.size + 1]? = some (.loop { r with state := .busy }) := by
      rw [hWb]; exact World.putObj_heap_same hbw
    have hRb := Lib.hid (hR.touch tB (by simp; omega))
    have hSb := Lib.hid (hS.touch tB (by simp; omega))
    have hIb := Lib.hid (hI.touch tB (by simp; omega))
    have hDb := Lib.hid (obj_touch hD tB (by simp))
    have hTb := Lib.hid (hT.trans tB (fun x hx => by right; simp at hx; omega))
    have HtB := Lib.hid tB
    have c8 : Wb.cell? ⟨w1.heap.size + 1, 0, none⟩ = _ := hSb.out.cell 0
    have c9 : Wb.cell? ⟨w1.heap.size + 1 + 1, 0, none⟩ = _ := hIb.out.cell 0
    have sB := tB.size
    clear tB hR hS hI hD hT hWb k1 k2
    by_cases hjn' : j < s.size
    · have hji : ¬ (j : Int) = (s.size : Int) := by omega
      have hget := hget (by rw [bsOf_len]; exact hjn')
      have cell := hRb.out.cell (bcells_get hget)
      have fr := hRb.out.frozen (i := j) (by rw [bcells_len, ctrK_len, bsOf_len]; exact hjn')
      have fr2 : Wb.frozen? ⟨w1.heap.size + 1 + 1, 0, none⟩ = false := hIb.out.frozen 0
      have hxx := getD_lt (bsOf_bytes s) (by decide) j
      have HSET := Lib.hid hset
      clear hset hget
      have HSTEP : Hid (∀ act W', W' = (Wb.setCell ⟨w1.heap.size, j, none⟩ (.int .u8 (((bsOf s).getD j 0 ^^^ ks : Nat) : Int))).setCell ⟨w1.heap.size + 1 + 1, 0, none⟩ (.int .i64 ((j + 1 : Nat) : Int)) → roundPost Tryz.prog (w2.heap.size + 1) (fun e W' => Touch [w2.heap.size + 1, w1.heap.size, w1.heap.size + 1 + 1] W W' ∧ (j < s.size ∧ e = .returned (.bool true) ∧ CJ rk (bsOf nonce) (bsOf s) w1.heap.size (w1.heap.size + 1) (w1.heap.size + 1 + 1) (w2.heap.size + 1) w2.heap.size rec (.slice (some ⟨w1.heap.size, 0, none⟩) s.size cap) w1 (j + 1) W' ∨ j = s.size ∧ e = .returned (.bool false) ∧ CX rk (bsOf nonce) (bsOf s) w1.heap.size (w1.heap.size + 1) (w2.heap.size + 1) w2.heap.size (.slice (some ⟨w1.heap.size, 0, none⟩) s.size cap) w1 W')) .normal act W') := by
        intro act W' hW'
        have ta : Touch [w1.heap.size] Wb (Wb.setCell ⟨w1.heap.size, j, none⟩ (.int .u8 (((bsOf s).getD j 0 ^^^ ks : Nat) : Int))) := (Touch.refl _ Wb).setCell _ (.inl (by simp <;> omega)) _
        have hRa := hRb.out.set (i := j) (by rw [bcells_len, ctrK_len, bsOf_len]; exact hjn') (.int .u8 (((bsOf s).getD j 0 ^^^ ks : Nat) : Int))
        rw [bcells_set', HSET.out] at hRa
        have hIa := (hIb.out.touch ta (by simp <;> omega)).set 0 (.int .i64 ((j + 1 : Nat) : Int))
        have tb : Touch [w1.heap.size + 1 + 1] (Wb.setCell ⟨w1.heap.size, j, none⟩ (.int .u8 (((bsOf s).getD j 0 ^^^ ks : Nat) : Int))) W' := by rw [hW']; exact (Touch.refl _ _).setCell _ (.inl (by simp <;> omega)) _
        rw [← hW'] at hIa
        have tab : Touch [w1.heap.size, w1.heap.size + 1 + 1] Wb W' := (ta.mono (by simp <;> omega)).trans' (tb.mono (by simp <;> omega))
        have lW := obj_touch lB tab (by simp <;> omega)
        have sW' := tab.size
        have tc : Touch [w2.heap.size + 1] W' (W'.putObj (w2.heap.size + 1) (.loop { r with state := .ready, pending := none })) := putObj_touch _ _ _
        refine ⟨_, _, run_endRound none lW, ?_, .inl ⟨hjn', rfl, ?_⟩⟩
        · exact ((HtB.out.mono (by simp <;> omega)).trans' (tab.mono (by simp <;> omega))).trans' (tc.mono (by simp <;> omega))
        · refine ⟨by rw [bsOf_len]; omega, ⟨_, World.putObj_heap_same (by omega), rfl, rfl, k4, k5, k6, k7⟩, obj_touch (obj_touch hDb.out tab (by simp <;> omega)) tc (by simp <;> omega), (hRa.touch tb (by simp <;> omega)).touch tc (by simp <;> omega), (hSb.out.touch tab (by simp <;> omega)).touch tc (by simp <;> omega), hIa.touch tc (by simp <;> omega), ?_⟩
          refine (hTb.out.trans tab ?_).trans tc ?_
          · intro x hx; right; simp at hx; omega
          · intro x hx; right; simp at hx; omega
      generalize (bsOf s).getD j 0 = x at cell hxx HSTEP HSET
      have ex := u8_xor_nat x ks hxx kk
      have lx : x ^^^ ks < 256 := xlt hxx kk
      generalize x ^^^ ks = y at ex HSTEP HSET lx
      have hj0 : (0 : Int) ≤ (j : Int) := by omega
      have hjs : (j : Int) < (s.size : Int) := by omega
      gi_wp2
      exact HSTEP.out _ _ (by simp)
    · obtain rfl : j = s.size := by omega
      gi_wp2
      have tc : Touch [w2.heap.size + 1] Wb (Wb.putObj (w2.heap.size + 1) (.loop { r with state := .done, pending := some (.exit 1) })) := putObj_touch _ _ _
      refine ⟨_, _, run_endRound (some (.exit 1)) lB, ?_, rfl, ?_⟩
      · exact (HtB.out.mono (by simp <;> omega)).trans' (tc.mono (by simp <;> omega))
      · refine ⟨⟨_, World.putObj_heap_same (by omega), rfl, rfl⟩, obj_touch hDb.out tc (by simp <;> omega), ?_, hSb.out.touch tc (by simp <;> omega), hTb.out.trans tc (fun x hx => by right; simp at hx; omega)⟩
        rw [← ctrK_end, bsOf_len]
        exact hRb.out.touch tc (by simp <;> omega)
  · rintro e W' ⟨⟨v, rfl⟩, tL, hX⟩
    obtain ⟨⟨r, k1, k2, k3⟩, hD, hR, hS, hT⟩ := hX
    have sW' := tL.size
    rw [sW] at sW'
    obtain ⟨We, hWe⟩ : ∃ We, We = W'.putObj (w2.heap.size + 1) (.loop { r with state := .exhausted }) := ⟨_, rfl⟩
    have tE : Touch [w2.heap.size + 1] W' We := by rw [hWe]; exact putObj_touch _ _ _
    have hRe := Lib.hid (hR.touch tE (by simp <;> omega))
    have hDe := Lib.hid (obj_touch hD tE (by simp <;> omega))
    have c8 : We.cell? ⟨w1.heap.size + 1, 0, none⟩ = _ := (hS.touch tE (by simp <;> omega)).cell 0
    have hTe := Lib.hid (hT.trans tE (fun x hx => by right; simp at hx; omega))
    have hFb := ctrF_bytes hrb (bsOf_bytes nonce) (bsOf_bytes s)
    have hcv := RowZ.conv (P := Tryz.prog) hRe.out hFb s.size cap (by rw [ctrF_len, bsOf_len]) Tryz.underlying36 Tryz.underlying5 Tryz.underlying9
    have HF := Lib.hid hFb
    have s2e : w2.heap.size < We.heap.size := by have := tE.size; omega
    refine ⟨some (.exit 1), We, by rw [hWe, ← k3]; exact run_endLoop k1 (by rw [k2]; intro h; cases h), ?_⟩
    clear hFb hD hR hS hT tE hWe k1 k2 k3 tL TW HJ0 tW g1 hD0 hL0 sW r3 r4 r5 r6
    generalize hF : ctrF rk (bsOf nonce) (bsOf s) = F at hcv
    have hFF := Lib.hid hF
    clear hF
    simp only []
    gi_wp2
    refine ⟨by simp, .inl ⟨_, _, rfl, run_takeDeferred hDe.out, ?_⟩⟩
    refine ⟨_, results_tmp2 rfl _ _ _, ?_, ?_⟩
    · rw [hFF.out]; rfl
    · exact hTe.out.trans (putObj_touch _ _ _) (fun x hx => by right; simp at hx; omega)
end Go.Proofs.YtodehmognjofhaaGreat
