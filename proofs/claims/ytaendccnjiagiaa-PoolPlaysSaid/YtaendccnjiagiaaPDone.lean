/-
  (*Pool).Done: what it does to a pool.
-/
import Derived.Test.YtaendccnjiagiaaPFind
namespace Go.Proofs.Ytaendccnjiagiaa
open Go.RowKit

theorem isId (w : World) (t : Task) (c : Nat) (id : Int) (hc : w.cell? ⟨c, 0, none⟩ = some (.int .u64 id)) :
    Calls Try.prog 29 #[.agg #[.int .u64 t.id, .float .f64 t.wt, .int .i64 t.age, .bool t.blk], .pointer (some ⟨c, 0, none⟩)] w fun e w' => e = .returned (.bool (t.id == id)) ∧ Touch [] w w' := by
  have hlt := World.block_lt_of_cell? w _ hc
  go_enter Try.func29, Try.ntmps29
  go_wp2
  go_ret
  exact ⟨rfl, (Touch.refl [] w).alloc _⟩

def idxOf (l : List Task) (id : Int) : Int := match placeOf l id with | some j => (j : Int) | none => -1

set_option maxRecDepth 100000 in
theorem index_any (w : World) (l : List Task) (id : Int) (a : Option Addr) (n cap : Nat) (ow : List Nat) (c : Nat) (hrow : Row w 62 4 a n cap ow (cellsOf l)) (hn : n = l.length) (hn64 : n ≤ 1024) (hc : w.cell? ⟨c, 0, none⟩ = some (.int .u64 id)) :
    Calls Try.prog 30 #[.slice a n cap, .func (.func 29) #[] #[.pointer (some ⟨c, 0, none⟩)]] w fun e w' => e = .returned (.int .i64 (idxOf l id)) ∧ Touch [] w w' := by
  have HN := Lib.hid hn
  have hlt := World.block_lt_of_cell? w _ hc
  clear hn
  go_enter Try.func30, Try.ntmps30
  go_wp2
  go_loopw [8] (fun i wr => ∃ k : Nat, k ≤ n ∧ i = .int .i64 k ∧ Touch [] w wr ∧ Hid (∀ i t, i < k → l[i]? = some t → t.id ≠ id)) (fun i _ => n - (intOf i).toNat)
  case atStart => exact ⟨0, by omega, rfl, Touch.refl _ _, fun i t h => by omega⟩
  case round =>
    obtain ⟨k, hk, rfl, ht, HB⟩ := hrel
    by_cases hlt' : k < n
    · obtain ⟨b, off, _, rfl, -⟩ := hrow.form (by have := hrow.2.1; omega)
      obtain ⟨t, htk⟩ : ∃ t, l[k]? = some t := ⟨_, List.getElem?_eq_getElem (by rw [← HN.out]; exact hlt')⟩
      obtain ⟨t0, t1, t2, t3⟩ := (hrow.touch ht (by simp)).task htk
      have hc' := (ht.cell (p := ⟨c, 0, none⟩) hlt (by simp)).trans hc
      have HT := Lib.hid htk
      clear htk
      cases hne : t.id == id
      · go_wp2_with (go_at_call 29; refine (isId _ t c id hc').mono ?_; rw [hne]; rintro e w' ⟨rfl, ht'⟩)
        go_roundw
        case rel =>
          refine ⟨k + 1, by omega, by go_num, ht.trans' ht', fun i t' hi h => ?_⟩
          by_cases e : i = k
          · subst e; rw [HT.out] at h; cases h; simpa using hne
          · exact HB i t' (by omega) h
        case measure => simp [intOf]; omega
      · go_wp2_with (go_at_call 29; refine (isId _ t c id hc').mono ?_; rw [hne]; rintro e w' ⟨rfl, ht'⟩)
        go_ret
        have hp : placeOf l id = some k := by
          unfold placeOf
          rw [List.findIdx?_eq_some_iff_getElem]
          refine ⟨by rw [← HN.out]; exact hlt', ?_, ?_⟩
          · have h2 := HT.out
            rw [List.getElem?_eq_getElem (by rw [← HN.out]; exact hlt')] at h2
            cases h2
            simpa using hne
          · intro j hj
            have hjl : j < l.length := by rw [← HN.out]; omega
            have := HB j l[j] hj (List.getElem?_eq_getElem hjl)
            simpa using this
        exact ⟨by simp [idxOf, hp], ht.trans' ht'⟩
    · obtain rfl : k = n := by omega
      have hp : placeOf l id = none := by
        unfold placeOf
        rw [List.findIdx?_eq_none_iff]
        intro t ht'
        obtain ⟨i, hi⟩ := List.mem_iff_getElem?.1 ht'
        have := HB i t (by rw [HN.out]; exact (List.getElem?_eq_some_iff.1 hi).1) hi
        simpa using this
      have e : idxOf l id = -1 := by simp [idxOf, hp]
      have E := Lib.hid e
      clear hp e HB
      go_wp2
      go_ret
      exact ⟨by rw [E.out]; rfl, ht⟩

theorem done_nil (w : World) (id : Int) : Calls Try.prog 16 #[.pointer none, .int .u64 id] w fun e w' => e = .returned (.int .i64 1) ∧ Touch [] w w' := by
  go_enter Try.func16, Try.ntmps16
  go_wp2_with (go_at_call 24; refine (none_nil _).mono ?_; rintro e w' ⟨rfl, rfl⟩)
  go_ret
  exact ⟨rfl, (Touch.refl [] w).alloc _⟩

theorem done_none (w : World) (bp : Nat) (x0 x1 x2 : Int) (v3 v4 : Value) (bm : Nat) (kv : List (Int × Value)) (id : Int) (hw1 : 1 ≤ x0)
    (hat : At w bp 59 [.int .i64 x0, .int .i64 x1, .int .i64 x2, v3, v4, .map (some bm)]) (hm : IMap w KU.f bm kv) (hk : (atKey kv id).getD (.bool false) = .bool false) :
    Calls Try.prog 16 #[.pointer (some ⟨bp, 0, none⟩), .int .u64 id] w fun e w' => e = .returned (.int .i64 5) ∧ Touch [] w w' := by
  have hat1 := hat.alloc (.cells #[.int .u64 id] 30)
  have hm1 := hm.alloc (.cells #[.int .u64 id] 30)
  have c0 := hat1.cell 0
  simp at c0
  go_enter Try.func16, Try.ntmps16
  go_wp2_with (go_at_call 24; refine (none_no _ _ _ hw1 c0).mono ?_; rintro e w' ⟨rfl, rfl⟩)
  refine region_tail 5 (by kernel_rfl) (by kernel_rfl) (fun w2 t2 => ?_)
  have hat2 := hat1.touch t2 (by simp)
  have hm2 := hm1.touch t2 (by simp)
  have k5 := hat2.cell 5
  have k := (At.new w 30 [.int .u64 id]).touch t2 (by simp)
  have k0 := k.cell 0
  simp at k5 k0
  have T2 := Lib.hid t2
  clear t2 hat1 hm1
  simp only [List.take_succ_cons, List.take_zero, List.drop_succ_cons, List.drop_zero]
  repeat still_step
  refine wpStill_nil ?_
  go_wp2_with (at_lookup; refine wpList_lookup_imap KU rfl _ _ false rfl Try.mapT (zeroBool _) rfl hm2 id rfl ?_; simp only [hk])
  go_ret
  exact ⟨rfl, ((Touch.refl [] w).alloc _).trans' T2.out⟩
end Go.Proofs.Ytaendccnjiagiaa
