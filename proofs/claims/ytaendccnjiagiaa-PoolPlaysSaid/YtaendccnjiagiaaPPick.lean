/-
  (*Pool).Pick: what it does to a pool.
-/
import Derived.Test.YtaendccnjiagiaaPWhich
namespace Go.Proofs.Ytaendccnjiagiaa
open Go.RowKit

theorem Try.infoPtr : (Try.prog.info? 64).map (fun i => (i.zero, i.size, i.bytes)) = some (some (.pointer none), 1, 8) := by kernel_rfl
theorem Try.ptrsT : Try.prog.underlying 63 = some (.slice 64) := by kernel_rfl

theorem pick_nil (w : World) (x : Nat) : Calls Try.prog 11 #[.pointer none, .float .f64 x] w fun e w' => e = .returned (.tuple #[.int .u64 0, .int .i64 1]) ∧ w = w' := by
  go_enter Try.func11, Try.ntmps11
  go_wp2_with (go_at_call 24; refine (none_nil _).mono ?_; rintro e w' ⟨rfl, rfl⟩)
  go_ret2
  exact ⟨rfl, rfl⟩

theorem pick_bad (w : World) (bp : Nat) (n : Int) (x : Nat) (hx : okX x = false) (hw1 : 1 ≤ n) (c0 : w.cell? ⟨bp, 0, none⟩ = some (.int .i64 n)) :
    Calls Try.prog 11 #[.pointer (some ⟨bp, 0, none⟩), .float .f64 x] w fun e w' => e = .returned (.tuple #[.int .u64 0, .int .i64 2]) ∧ w = w' := by
  unfold okX at hx
  cases h0 : fromZero x
  · have h1 : (FloatKind.f64.format.order x 0 == some .gt || FloatKind.f64.format.order x 0 == some .eq) = false := h0
    clear h0 hx
    go_enter Try.func11, Try.ntmps11
    go_wp2_with (go_at_call 24; refine (none_no _ _ _ hw1 c0).mono ?_; rintro e w' ⟨rfl, rfl⟩)
    go_ret2
    exact ⟨rfl, rfl⟩
  · rw [h0] at hx
    have h1 : (FloatKind.f64.format.order x 0 == some .gt || FloatKind.f64.format.order x 0 == some .eq) = true := h0
    have h2 : (FloatKind.f64.format.order x 4607182418800017408 == some .lt) = false := hx
    clear h0 hx
    go_enter Try.func11, Try.ntmps11
    go_wp2_with (go_at_call 24; refine (none_no _ _ _ hw1 c0).mono ?_; rintro e w' ⟨rfl, rfl⟩)
    go_ret2
    exact ⟨rfl, rfl⟩

def ptrsOf (b off : Nat) (is : List Nat) : List Value := is.map fun i => .pointer (some ⟨b, off + i * 4, none⟩)
theorem runTo_succ (l : List Task) (k : Nat) : runTo l (k + 1) = if (tk l k).blk then runTo l k else runTo l k ++ [k] := by
  unfold runTo tk
  rw [List.range_succ, List.filter_append]
  cases h : (l.getD k default).blk
  · simp only [List.filter_cons, h, Bool.not_false, if_true, List.filter_nil]; rfl
  · simp only [List.filter_cons, h, Bool.not_true, if_true, List.filter_nil, List.append_nil, if_neg (show ¬ (false = true) by decide)]
theorem runTo_lt (l : List Task) (k : Nat) : ∀ i ∈ runTo l k, i < k := by
  intro i hi; unfold runTo at hi; exact List.mem_range.1 (List.mem_filter.1 hi).1
theorem runTo_len (l : List Task) (k : Nat) : (runTo l k).length ≤ k := by
  unfold runTo; have := List.length_filter_le (fun i => !(l.getD i default).blk) (List.range k); simpa using this

theorem whichOf_lt (pat : Int) (x : Nat) (ts : List Task) (h : 0 < ts.length) : whichOf pat x ts < ts.length := by
  unfold whichOf
  split
  · exact oldTo_le ts _ _ (Nat.le_refl _) h
  · unfold firstAbove
    cases hf : (List.range ts.length).find? _ with
    | none => simp only [Option.getD_none]; omega
    | some k => exact List.mem_range.1 (List.mem_of_find?_eq_some hf)

def TaskOk (t : Task) : Prop := okW t.wt = true ∧ 0 ≤ t.id ∧ t.id < 18446744073709551616 ∧ -9223372036854775808 ≤ t.age ∧ t.age ≤ 9223372036854775807
theorem tk_some {l : List Task} {i : Nat} (h : i < l.length) : l[i]? = some (tk l i) := by
  unfold tk; simp [List.getD, List.getElem?_eq_getElem h]
theorem wrap64_range (a : Int) : -9223372036854775808 ≤ wrap64 a ∧ wrap64 a ≤ 9223372036854775807 := by
  unfold wrap64; omega
structure Aged (l l' : List Task) : Prop where
  len : l'.length = l.length
  ids : idsOf l' = idsOf l
  ok : (∀ t ∈ l, TaskOk t) → ∀ t ∈ l', TaskOk t
  wt : ∀ i, (tk l' i).wt = (tk l i).wt
  blk : ∀ i, (tk l' i).blk = (tk l i).blk
theorem Aged.refl (l : List Task) : Aged l l := ⟨rfl, rfl, fun h => h, fun _ => rfl, fun _ => rfl⟩
theorem Aged.set {l l' : List Task} (h : Aged l l') (i : Nat) (g : Int) (hg : -9223372036854775808 ≤ g ∧ g ≤ 9223372036854775807) : Aged l (l'.set i { tk l' i with age := g }) := by
  rcases Nat.lt_or_ge i l'.length with hi | hi
  · have ht := tk_some hi
    have hat : ∀ k, tk (l'.set i { tk l' i with age := g }) k = if k = i then { tk l' i with age := g } else tk l' k := by
      intro k
      unfold tk
      by_cases e : k = i
      · subst e; simp [List.getD, hi]
      · simp [List.getD, e, List.getElem?_set, Ne.symm e]
    refine ⟨by rw [List.length_set]; exact h.len, (idsOf_set (t' := { tk l' i with age := g }) ht rfl).trans h.ids, fun hl t ht' => ?_, fun k => ?_, fun k => ?_⟩
    · rcases List.mem_or_eq_of_mem_set ht' with h' | rfl
      · exact h.ok hl t h'
      · have := h.ok hl _ (List.mem_iff_getElem?.2 ⟨i, ht⟩)
        exact ⟨this.1, this.2.1, this.2.2.1, hg.1, hg.2⟩
    · rw [hat]; split
      · subst i; exact h.wt k
      · exact h.wt k
    · rw [hat]; split
      · subst i; exact h.blk k
      · exact h.blk k
  · rw [List.set_eq_of_length_le hi]; exact h
theorem aged_to (l : List Task) (is : List Nat) : Aged l (agedTo l is) := by
  unfold agedTo
  suffices ∀ (is : List Nat) (l' : List Task), Aged l l' → Aged l (is.foldl agedAt l') from this is l (Aged.refl l)
  intro is
  induction is with
  | nil => intro l' h; exact h
  | cons i is ih => intro l' h; exact ih _ (h.set i _ (wrap64_range _))
theorem agedTo_snoc (l : List Task) (is : List Nat) (k : Nat) (hk : k < is.length) : agedTo l (is.take (k + 1)) = agedAt (agedTo l (is.take k)) (is.getD k 0) := by
  unfold agedTo
  rw [List.take_succ_eq_append_getElem hk, List.foldl_append]
  simp [List.getD, hk]

theorem ptrsOf_at {b off : Nat} {is : List Nat} {j : Nat} (h : j < is.length) : (ptrsOf b off is)[j]? = some (.pointer (some ⟨b, off + is.getD j 0 * 4, none⟩)) := by
  unfold ptrsOf; simp [List.getD, h]
theorem getD_mem {is : List Nat} {j : Nat} (h : j < is.length) : is.getD j 0 ∈ is := by
  simp [List.getD, h]
theorem tk_map {is : List Nat} {l : List Task} {j : Nat} (h : j < is.length) : tk (is.map (tk l)) j = tk l (is.getD j 0) := by
  rw [tk]; simp [List.getD, h]

/-- what a pick that tells one leaves: the tasks at work with their ages. -/
def Picked (w : World) (b off n cap : Nat) (l : List Task) (pat : Int) (x : Nat) (e : Ending) (w' : World) : Prop :=
  if runIdx l = [] then e = .returned (.tuple #[.int .u64 0, .int .i64 5]) ∧ Touch [] w w'
  else
    e = .returned (.tuple #[.int .u64 (tk l ((runIdx l).getD (whichOf pat x ((runIdx l).map (tk l))) 0)).id, .int .i64 0]) ∧ Touch [b] w w' ∧
    Row w' 62 4 (some ⟨b, off, none⟩) n cap [b] (cellsOf ((agedTo l (runIdx l)).set ((runIdx l).getD (whichOf pat x ((runIdx l).map (tk l))) 0) { tk (agedTo l (runIdx l)) ((runIdx l).getD (whichOf pat x ((runIdx l).map (tk l))) 0) with age := 0 }))

theorem Aged.id {l l' : List Task} (h : Aged l l') (i : Nat) (hi : i < l.length) : (tk l' i).id = (tk l i).id := by
  have h1 : (idsOf l')[i]? = (idsOf l)[i]? := by rw [h.ids]
  unfold idsOf at h1
  rw [List.getElem?_map, List.getElem?_map, tk_some hi, tk_some (by rw [h.len]; exact hi)] at h1
  simpa using h1

set_option maxRecDepth 100000 in
set_option maxHeartbeats 1600000 in
theorem pick_walk (w : World) (bp : Nat) (x0 pat : Int) (l : List Task) (b off n cap x : Nat) (hx : okX x = true) (hw1 : 1 ≤ x0) (hn : n = l.length) (hn0 : 0 < n) (hn64 : n ≤ 64) (hok : ∀ t ∈ l, TaskOk t) (hbb : bp ≠ b)
    (c0 : w.cell? ⟨bp, 0, none⟩ = some (.int .i64 x0)) (c2 : w.cell? ⟨bp, 2, none⟩ = some (.int .i64 pat)) (c3 : w.cell? ⟨bp, 3, none⟩ = some (.slice (some ⟨b, off, none⟩) n cap)) (hrow : Row w 62 4 (some ⟨b, off, none⟩) n cap [b] (cellsOf l)) :
    Calls Try.prog 11 #[.pointer (some ⟨bp, 0, none⟩), .float .f64 x] w (Picked w b off n cap l pat x) := by
  have h1 : (FloatKind.f64.format.order x 0 == some .gt || FloatKind.f64.format.order x 0 == some .eq) = true := (Bool.and_eq_true_iff.1 hx).1
  have h2 : (FloatKind.f64.format.order x 4607182418800017408 == some .lt) = true := (Bool.and_eq_true_iff.1 hx).2
  have lbp := World.block_lt_of_cell? w _ c0
  have lb := hrow.lt b (by simp)
  have hcap : 0 < cap := by have := hrow.2.1; omega
  have HN := Lib.hid hn
  clear hx hn
  go_enter Try.func11, Try.ntmps11
  go_wp2_with (go_at_call 24; refine (none_no _ _ _ hw1 c0).mono ?_; rintro e w' ⟨rfl, rfl⟩)
  go_loopw [27, 6] (fun i s wr => ∃ k nl cl al ol, k ≤ n ∧ i = .int .i64 (k : Nat) ∧ s = .slice al nl cl ∧ Touch [] w wr ∧ Hid (Row wr 64 1 al nl cl ol (ptrsOf b off (runTo l k)) ∧ ∀ c ∈ ol, w.heap.size ≤ c)) (fun i _ _ => n - (intOf i).toNat)
  case atStart => exact ⟨0, 0, 0, none, [], by omega, rfl, rfl, Touch.refl _ _, Row.nil _ _ _ _, by simp⟩
  case round =>
    obtain ⟨k, nl, cl, al, ol, hk, rfl, rfl, t, HR⟩ := hrel
    have k3 := (t.cell (p := ⟨bp, 3, none⟩) lbp (by simp)).trans c3
    by_cases hlt : k < n
    · have ht := tk_some (l := l) (i := k) (by rw [← HN.out]; exact hlt)
      obtain ⟨-, -, -, t3⟩ := (hrow.touch t (by simp)).task ht
      have T := Lib.hid t
      have hki : (k : Int) < (n : Int) := by omega
      clear ht t
      cases hb : (tk l k).blk
      · have hnl : nl ≤ k := by
          have h1 := HR.1.1
          have := runTo_len l k
          unfold ptrsOf at h1
          simp at h1; omega
        obtain ⟨i0, hi, hz0, hz1, hz2⟩ := info_parts Try.infoPtr
        rw [hb] at t3
        go_wp2_with (at_builtin; refine wpList_append_row _ rfl (.tmp 39) (.tmp 46) 63 rfl 64 i0 _ 1 8 Try.ptrsT hi hz0 hz1 hz2 rfl (by decide) al nl cl ol _ rfl (HR.1.alloc _) (some ⟨wr.heap.size, 0, none⟩) 1 1 [.pointer (some ⟨b, off + k * 4, none⟩)] rfl rfl (.inr ⟨_, rfl, World.news_of_block (cs := #[.pointer (some ⟨b, off + k * 4, none⟩)]) (t := 64) (fr := (0, 0)) (heap_alloc_new wr _)⟩) (by simp [Value.oneCell']) (by unfold maxLen; omega) (by omega) ?_; intro a' cap' own' w3 hrow3 ht3 hown3 _ _)
        go_roundw
        case rel =>
          refine ⟨k + 1, nl + 1, cap', a', own', by omega, by go_num, rfl, (T.out.alloc _).trans ht3 (fun b hb => .inr (HR.2 b hb)), ?_, ?_⟩
          · rw [runTo_succ, hb]
            simpa [ptrsOf] using hrow3
          · intro c hc
            rcases hown3 with rfl | rfl
            · exact HR.2 c hc
            · simp at hc; subst hc; have := T.out.size; omega
        case measure => simp [intOf]; omega
      · rw [hb] at t3
        go_wp2
        go_roundw
        case rel => exact ⟨k + 1, nl, cl, al, ol, by omega, by go_num, rfl, T.out, by rw [runTo_succ, hb]; exact HR.1, HR.2⟩
        case measure => simp [intOf]; omega
    · obtain rfl : k = n := by omega
      clear hlt hk
      obtain ⟨hr, hfr⟩ := HR
      have hnl : (runTo l k).length = nl := by have := hr.1; simpa [ptrsOf] using this
      have HNL := Lib.hid hnl
      have HR2 := Lib.hid hr
      have HF := Lib.hid hfr
      by_cases h0 : nl = 0
      · subst h0
        clear hnl hr hfr
        go_wp2
        go_ret2
        have hri : runIdx l = [] := by unfold runIdx; rw [← HN.out]; exact List.eq_nil_of_length_eq_zero HNL.out
        unfold Picked
        rw [if_pos hri]
        exact ⟨rfl, t⟩
      · have h00 : ((nl : Int) == 0) = false := beq_eq_false_iff_ne.2 (by omega)
        have hne : Hid (runIdx l ≠ []) := fun e => h0 (by have := HNL.out; unfold runIdx at e; rw [← HN.out] at e; rw [e] at this; simpa using this.symm)
        have hnl64 : nl ≤ 64 := by rw [← hnl]; have := runTo_len l k; omega
        have hcl : nl ≤ cl := hr.2.1
        obtain ⟨g, goff, cur, rfl, rfl, -⟩ := hr.form (by omega)
        obtain ⟨is, his⟩ : ∃ is, runIdx l = is := ⟨_, rfl⟩
        have hisl : is.length = nl := by rw [← his]; unfold runIdx; rw [← HN.out]; exact hnl
        have hrk : runTo l k = is := by rw [← his]; unfold runIdx; rw [← HN.out]
        have hil : ∀ j, j < nl → is.getD j 0 < k := fun j hj => runTo_lt l k _ (by rw [hrk]; exact getD_mem (by omega))
        obtain ⟨pl, hpl⟩ : ∃ pl : Nat → Nat, pl = fun j => is.getD j 0 := ⟨_, rfl⟩
        have hpk : ∀ j, j < nl → pl j < k := fun j hj => by rw [hpl]; exact hil j hj
        have lg := hfr g (by simp)
        have hgb : g ≠ b := by omega
        have hlk := HN.out
        have hP : Ptrs wr g goff nl b (fun j => off + pl j * 4) (is.map (tk l)) := by
          rw [hrk] at hr
          refine ⟨fun j hj => ?_, fun j hj => ?_, fun j hj => ?_⟩
          · rw [hpl]; exact hr.cellSome j _ (ptrsOf_at (by omega))
          · rw [tk_map (by omega), hpl]
            exact ((hrow.touch t (by simp)).task (tk_some (by rw [← hlk]; exact hil j hj))).2.1
          · rw [tk_map (by omega), hpl]
            exact ((hrow.touch t (by simp)).task (tk_some (by rw [← hlk]; exact hil j hj))).2.2.1
        have hwt : ∀ j, j < nl → Fl.Pos (tk (is.map (tk l)) j).wt := by
          intro j hj
          rw [tk_map (by omega)]
          have := (hok _ (List.mem_iff_getElem?.2 ⟨_, tk_some (l := l) (by rw [← hlk]; exact hil j hj)⟩)).1
          unfold okW at this
          rw [Bool.and_eq_true, decide_eq_true_iff, decide_eq_true_iff] at this
          unfold Fl.Pos; omega
        have hmap : (is.map (tk l)).length = nl := by simp [hisl]
        have k2 := (t.cell (p := ⟨bp, 2, none⟩) lbp (by simp)).trans c2
        obtain ⟨wi, hwi⟩ : ∃ wi, whichOf pat x (is.map (tk l)) = wi := ⟨_, rfl⟩
        have hwin : wi < nl := by rw [← hwi]; have := whichOf_lt pat x (is.map (tk l)) (by omega); omega
        have hwh := which_any wr bp pat g goff nl cl b _ _ x hP (by omega) hnl64 hmap hwt k2
        rw [hwi] at hwh
        have WH := Lib.hid hwh
        have HPL := Lib.hid hpl
        have HPK := Lib.hid hpk
        have HWI := Lib.hid hwi
        have HIS := Lib.hid his
        have HISL := Lib.hid hisl
        have HPP := Lib.hid hP
        have HM := Lib.hid (hrow.touch t (by simp))
        have T := Lib.hid t
        have lgr : g < wr.heap.size := (hP.lt (by omega)).1
        clear hnl hr hfr his hisl hrk hil hpl hpk hlk hP hwt hmap k2 hwi hwh HR2 HF t
        go_wp2_with (go_at_call 26; refine WH.out.mono ?_; rintro e w5 ⟨rfl, t5⟩)
        have T5 := Lib.hid t5
        have lg5 : g < w5.heap.size := Nat.lt_of_lt_of_le lgr t5.size
        clear t5
        go_loopw [58] (fun i w6 => ∃ j : Nat, j ≤ nl ∧ i = .int .i64 j ∧ Touch [b] w5 w6 ∧ Hid (Row w6 62 4 (some ⟨b, off, none⟩) k cap [b] (cellsOf (agedTo l (is.take j))))) (fun i _ => nl - (intOf i).toNat)
        case atStart => exact ⟨0, by omega, rfl, Touch.refl _ _, (HM.out.touch T5.out (by simp))⟩
        case round =>
          obtain ⟨j, hj, rfl, t6, HR6⟩ := hrel
          by_cases hlt : j < nl
          · have q1 := (t6.cell (p := ⟨g, goff + j, none⟩) lg5 (by simpa using hgb)).trans ((HPP.out.touch T5.out).ptr j hlt)
            have hjk := HPK.out j hlt
            have hA := aged_to l (is.take j)
            have hAl : pl j < (agedTo l (is.take j)).length := by rw [hA.len, ← HN.out]; exact hjk
            obtain ⟨-, -, q3, -⟩ := Row.task HR6 (tk_some hAl)
            have f3 := Row.frozen HR6 (by omega) (off + pl j * 4 + 2)
            have HA := Lib.hid hAl
            have T6 := Lib.hid t6
            obtain ⟨old, hold⟩ : ∃ old, tk (agedTo l (is.take j)) (pl j) = old := ⟨_, rfl⟩
            rw [hold] at q3
            have HO := Lib.hid hold
            clear hA hAl t6 hold
            go_wp2
            go_roundw
            case rel =>
              refine ⟨j + 1, by omega, by go_num, T6.out.setCell _ (by simp) _, ?_⟩
              have hjk : pl j < k := HPK.out j hlt
              have h5 := Row.set HR6 (pl j * 4 + 2) (by omega) (.int .i64 (wrap64 (old.age + 1)))
              rw [cellsOf_set_age _ _ _ _ (tk_some HA.out), ← Nat.add_assoc, HO.out] at h5
              have e2 : is.getD j 0 = pl j := by rw [HPL.out]
              rw [agedTo_snoc l is j (by rw [HISL.out]; exact hlt), e2]
              unfold agedAt
              rw [HO.out]
              exact h5
            case measure => simp [intOf]; omega
          · obtain rfl : j = nl := by omega
            have hA := aged_to l (is.take j)
            have hjk := HPK.out wi hwin
            have hAl : pl wi < (agedTo l (is.take j)).length := by rw [hA.len, ← HN.out]; exact hjk
            obtain ⟨q0, -, -, -⟩ := Row.task HR6 (tk_some hAl)
            have q2 := (Row.task HR6 (tk_some hAl)).2.2.1
            have f2 := Row.frozen HR6 (by omega) (off + pl wi * 4 + 2)
            have hid := hA.id (pl wi) (by rw [← HN.out]; exact hjk)
            rw [hid] at q0
            have HA := Lib.hid hAl
            have T6 := Lib.hid t6
            clear hA hAl t6 hid
            go_wp2
            go_ret2
            have e2 : is.getD wi 0 = pl wi := by rw [HPL.out]
            have e3 : is.take j = is := by rw [List.take_of_length_le]; rw [HISL.out]; exact Nat.le_refl _
            have h5 := Row.set HR6 (pl wi * 4 + 2) (by omega) (.int .i64 0)
            rw [cellsOf_set_age _ _ _ _ (tk_some HA.out), ← Nat.add_assoc, e3] at h5
            unfold Picked
            rw [if_neg hne, HIS.out, HWI.out, e2]
            exact ⟨rfl, (T.out.trans' T5.out |>.mono (by simp)).trans' (T6.out.setCell _ (by simp) _), h5⟩

theorem pick_empty (w : World) (bp : Nat) (x0 : Int) (a : Option Addr) (cap x : Nat) (hx : okX x = true) (hw1 : 1 ≤ x0) (c0 : w.cell? ⟨bp, 0, none⟩ = some (.int .i64 x0)) (c3 : w.cell? ⟨bp, 3, none⟩ = some (.slice a 0 cap)) :
    Calls Try.prog 11 #[.pointer (some ⟨bp, 0, none⟩), .float .f64 x] w fun e w' => e = .returned (.tuple #[.int .u64 0, .int .i64 5]) ∧ w = w' := by
  have h1 : (FloatKind.f64.format.order x 0 == some .gt || FloatKind.f64.format.order x 0 == some .eq) = true := (Bool.and_eq_true_iff.1 hx).1
  have h2 : (FloatKind.f64.format.order x 4607182418800017408 == some .lt) = true := (Bool.and_eq_true_iff.1 hx).2
  clear hx
  go_enter Try.func11, Try.ntmps11
  go_wp2_with (go_at_call 24; refine (none_no _ _ _ hw1 c0).mono ?_; rintro e w' ⟨rfl, rfl⟩)
  go_loop [27, 6] (fun i s => i = .int .i64 0 ∧ s = .slice none 0 0) (fun _ _ => 0)
  case atStart => exact ⟨rfl, rfl⟩
  case round =>
    obtain ⟨rfl, rfl⟩ := hrel
    go_wp2
    go_ret2
    exact ⟨rfl, rfl⟩

theorem pick_any (w : World) (bp : Nat) (S : Pool) (own : List Nat) (hR : Rep w bp S own) (x : Nat) :
    Calls Try.prog 11 #[.pointer (some ⟨bp, 0, none⟩), .float .f64 x] w (After own w (.tuple #[.int .u64 (S.pick x).1, .int .i64 (S.pick x).2.1]) fun w' o => Rep w' bp (S.pick x).2.2 o) := by
  obtain ⟨hok, aw, nw, cw, ow, aq, nq, cq, oq, bm, kv, hp, rfl⟩ := (fun h => h : Rep w bp S own → Rep w bp S own) hR
  obtain ⟨hnw, hnq⟩ := hp.nw
  have hlw := hok.lw
  have hw2 := hok.w2
  have c0 := hp.at_.cell 0
  have c2 := hp.at_.cell 2
  have c3 := hp.at_.cell 3
  simp at c0 c2 c3
  unfold Pool.pick
  by_cases hx : okX x = true
  case neg =>
    have hx' : okX x = false := by simpa using hx
    rw [if_pos hx']
    exact (pick_bad w bp _ x hx' hok.w1 c0).mono fun e w' ⟨he, hw⟩ => by
      subst hw; exact ⟨_, he, hR, Touch.refl _ _, fun b hb => .inl hb⟩
  rw [if_neg (by rw [hx]; decide)]
  by_cases h0 : nw = 0
  · subst h0
    have hri : runIdx S.work = [] := by unfold runIdx; rw [← hnw]; rfl
    rw [if_pos hri]
    exact (pick_empty w bp _ aw cw x hx hok.w1 c0 c3).mono fun e w' ⟨he, hw⟩ => by
      subst hw; exact ⟨_, he, hR, Touch.refl _ _, fun b hb => .inl hb⟩
  · obtain ⟨b, off, cur, rfl, rfl, -⟩ := hp.work.form (by have := hp.work.2.1; omega)
    have hbb : bp ≠ b := by have := hp.ow_bp; simpa using this
    refine (pick_walk w bp _ _ S.work b off nw cw x hx hok.w1 hnw (by omega) (by omega) hok.wt hbb c0 c2 c3 hp.work).mono fun e w' h => ?_
    unfold Picked at h
    by_cases hri : runIdx S.work = []
    · rw [if_pos hri] at h ⊢
      exact ⟨_, h.1, hR.touch h.2 (by simp), h.2.mono (by simp), fun b hb => .inl hb⟩
    · rw [if_neg hri] at h ⊢
      obtain ⟨he, ht, hrow⟩ := h
      have hA := (aged_to S.work (runIdx S.work)).set ((runIdx S.work).getD (whichOf S.patience x ((runIdx S.work).map (tk S.work))) 0) 0 (by decide)
      have hg := (aged_to S.work (runIdx S.work)).id ((runIdx S.work).getD (whichOf S.patience x ((runIdx S.work).map (tk S.work))) 0) (runTo_lt S.work _ _ (getD_mem (by
        have := whichOf_lt S.patience x ((runIdx S.work).map (tk S.work)) (by rw [List.length_map]; exact List.length_pos_iff.2 hri)
        rwa [List.length_map] at this)))
      refine ⟨_, ?_, hR.setWork hp hrow hA.ids hA.len (hA.ok hok.wt) ht, ht.mono (by simp), fun b hb => .inl hb⟩
      simp only [hg]
      exact he
end Go.Proofs.Ytaendccnjiagiaa
