/-
  The reference's pool: how it lies in memory; find, finite, Turn.
-/
import Derived.Test.YtaendccnjiagiaaPAdd
import Derived.Test.YtaendccnjiagiaaPFind
import Derived.Test.YtaendccnjiagiaaPDone
import Derived.Test.YtaendccnjiagiaaPIds
namespace Go.Proofs.Ytaendccnjiagiaa
open Go.RowKit
attribute [local go_sem] run_store_float

theorem Try.infoRTask : (Try.prog.info? 82).map (fun i => (i.zero, i.size, i.bytes)) = some (some (.agg #[.int .u64 0, .float .f64 0, .int .i64 0, .bool false]), 4, 32) := by kernel_rfl
theorem Try.rtasksT : Try.prog.underlying 45 = some (.slice 82) := by kernel_rfl

/-- The parts of the reference's pool. -/
structure RParts (w : World) (bp : Nat) (S : Pool) (aw : Option Addr) (nw cw : Nat) (ow : List Nat) (aq : Option Addr) (nq cq : Nat) (oq : List Nat) : Prop where
  at_ : At w bp 47 [.int .i64 S.workers, .int .i64 S.room, .int .i64 S.patience, .slice aw nw cw, .slice aq nq cq]
  work : Row w 82 4 aw nw cw ow (cellsOf S.work)
  queue : Row w 82 4 aq nq cq oq (cellsOf S.queue)
  ow_bp : bp ∉ ow
  oq_bp : bp ∉ oq
  ow_oq : ∀ b ∈ ow, b ∉ oq
def RRep (w : World) (bp : Nat) (S : Pool) (own : List Nat) : Prop :=
  ∃ aw nw cw ow aq nq cq oq, RParts w bp S aw nw cw ow aq nq cq oq ∧ own = bp :: (ow ++ oq)

theorem RParts.nw {w : World} {bp : Nat} {S : Pool} {aw : Option Addr} {nw cw : Nat} {ow : List Nat} {aq : Option Addr} {nq cq : Nat} {oq : List Nat} (h : RParts w bp S aw nw cw ow aq nq cq oq) : nw = S.work.length ∧ nq = S.queue.length := by
  have h1 := h.work.1
  have h2 := h.queue.1
  rw [length_cellsOf] at h1 h2
  omega
theorem RParts.touch {w w' : World} {bp : Nat} {S : Pool} {aw : Option Addr} {nw cw : Nat} {ow : List Nat} {aq : Option Addr} {nq cq : Nat} {oq : List Nat} {l : List Nat} (h : RParts w bp S aw nw cw ow aq nq cq oq) (t : Touch l w w') (hl : ∀ b ∈ bp :: (ow ++ oq), b ∉ l) : RParts w' bp S aw nw cw ow aq nq cq oq :=
  ⟨h.at_.touch t (hl _ (by simp)), h.work.touch t (fun b hb => hl _ (by simp [hb])), h.queue.touch t (fun b hb => hl _ (by simp [hb])), h.ow_bp, h.oq_bp, h.ow_oq⟩
theorem RRep.touch {w w' : World} {bp : Nat} {S : Pool} {own l : List Nat} (h : RRep w bp S own) (t : Touch l w w') (hl : ∀ b ∈ own, b ∉ l) : RRep w' bp S own := by
  obtain ⟨aw, nw, cw, ow, aq, nq, cq, oq, hp, rfl⟩ := h
  exact ⟨aw, nw, cw, ow, aq, nq, cq, oq, hp.touch t hl, rfl⟩
theorem RRep.lt {w : World} {bp : Nat} {S : Pool} {own : List Nat} (h : RRep w bp S own) : ∀ b ∈ own, b < w.heap.size := by
  obtain ⟨aw, nw, cw, ow, aq, nq, cq, oq, hp, rfl⟩ := h
  intro b hb
  simp only [List.mem_cons, List.mem_append] at hb
  rcases hb with rfl | hb | hb
  · exact hp.at_.lt
  · exact hp.work.lt b hb
  · exact hp.queue.lt b hb

theorem finite_any (w : World) (x : Nat) (hx : x < 18446744073709551616) : Calls Try.prog 40 #[.float .f64 x] w fun e w' => e = .returned (.bool (okW x)) ∧ Touch [] w w' := by
  cases h : okW x
  · rcases okW_not h hx with hgt | ⟨hi, hgt⟩
    · clear h
      go_enter Try.func40, Try.ntmps40
      go_wp2
      go_ret
      exact ⟨rfl, Touch.refl _ _⟩
    · have hnone : FloatKind.f64.format.sub x x = none := by
        have := Fl.sub_self (a := x) (by unfold Fl.Pos; omega)
        rw [if_neg (by omega)] at this
        exact this
      obtain ⟨av, hav⟩ : ∃ av, (Question.nanBits .f64 x x).cut (w.tape w.drawn (.nanBits .f64 x x)) = av := ⟨_, rfl⟩
      have hrun : (binOp .sub 24 (.float .f64 x) (.float .f64 x)).run Try.prog w = .ok (.float .f64 av) w.drew := by
        simp [binOp, Op.floatArith, hnone, choose, Sem.run, Question.forced, hav]
      have heq : FloatKind.f64.format.order av 0 = none := by
        rw [← hav]
        unfold FloatKind.format Ieee.Format.order
        have h2 := Fl.order_nan 0 x x (w.tape w.drawn (.nanBits .f64 x x))
        unfold Ieee.Format.order at h2
        revert h2
        show Ieee.Datum.order _ _ = none → Ieee.Datum.order _ _ = none
        cases Ieee.double.read ((Question.nanBits .f64 x x).cut (w.tape w.drawn (.nanBits .f64 x x))) <;> rw [show Ieee.double.read 0 = .number false 0 Ieee.double.leastPlace by decide +kernel] <;> simp [Ieee.Datum.order]
      clear h hav hi
      go_enter Try.func40, Try.ntmps40
      go_wp2
      go_ret
      exact ⟨rfl, (Touch.refl [] w).drew⟩
  · obtain ⟨hp, hgt, hinf⟩ := okW_pos h
    have hsub : Ieee.double.sub x x = some 0 := by
      have h1 := Fl.sub_self hp
      rw [if_pos (by rw [decide_eq_false_iff_not] at hinf; unfold Fl.Pos at hp; omega)] at h1
      exact h1
    have hrun := fun W => run_float_arith (P := Try.prog) W .sub 24 .f64 _ _ _ hsub
    have h00 : FloatKind.f64.format.order 0 0 = some .eq := by decide +kernel
    clear h
    go_enter Try.func40, Try.ntmps40
    go_wp2
    go_ret
    exact ⟨rfl, Touch.refl _ _⟩

set_option maxRecDepth 100000 in
theorem rfind_any (w : World) (l : List Task) (id : Int) (a : Option Addr) (n cap : Nat) (ow : List Nat) (hrow : Row w 82 4 a n cap ow (cellsOf l)) (hn : n = l.length) (hn64 : n ≤ 1024) :
    Calls Try.prog 41 #[.slice a n cap, .int .u64 id] w fun e w' => e = .returned (.int .i64 (idxOf l id)) ∧ w = w' := by
  have HN := Lib.hid hn
  clear hn
  go_enter Try.func41, Try.ntmps41
  go_wp2
  go_loop [5] (fun i => ∃ k : Nat, k ≤ n ∧ i = .int .i64 k ∧ Hid (∀ i t, i < k → l[i]? = some t → t.id ≠ id)) (fun i => n - (intOf i).toNat)
  case atStart => exact ⟨0, by omega, rfl, fun i t h => by omega⟩
  case round =>
    obtain ⟨k, hk, rfl, HB⟩ := hrel
    by_cases hlt' : k < n
    · obtain ⟨b, off, _, rfl, -⟩ := hrow.form (by have := hrow.2.1; omega)
      obtain ⟨t, htk⟩ : ∃ t, l[k]? = some t := ⟨_, List.getElem?_eq_getElem (by rw [← HN.out]; exact hlt')⟩
      obtain ⟨t0, t1, t2, t3⟩ := hrow.task htk
      have HT := Lib.hid htk
      clear htk
      cases hne : t.id == id
      · go_wp2
        go_round
        case rel =>
          refine ⟨k + 1, by omega, by go_num, fun i t' hi h => ?_⟩
          by_cases e : i = k
          · subst e; rw [HT.out] at h; cases h; simpa using hne
          · exact HB i t' (by omega) h
        case measure => simp [intOf]; omega
      · go_wp2
        go_ret
        have hp : placeOf l id = some k := by
          unfold placeOf
          rw [List.findIdx?_eq_some_iff_getElem]
          refine ⟨by rw [← HN.out]; exact hlt', ?_, ?_⟩
          · have h2 := HT.out
            rw [List.getElem?_eq_getElem (by rw [← HN.out]; exact hlt')] at h2
            cases h2
            simpa using hne
          · intro j hj
            have hjl : j < l.length := by rw [← HN.out]; omega
            have := HB j l[j] hj (List.getElem?_eq_getElem hjl)
            simpa using this
        exact ⟨by simp [idxOf, hp], rfl⟩
    · obtain rfl : k = n := by omega
      have hp : placeOf l id = none := by
        unfold placeOf
        rw [List.findIdx?_eq_none_iff]
        intro t ht'
        obtain ⟨i, hi⟩ := List.mem_iff_getElem?.1 ht'
        have := HB i t (by rw [HN.out]; exact (List.getElem?_eq_some_iff.1 hi).1) hi
        simpa using this
      have e : idxOf l id = -1 := by simp [idxOf, hp]
      have E := Lib.hid e
      clear hp e HB
      go_wp2
      go_ret
      exact ⟨by rw [E.out]; rfl, rfl⟩
end Go.Proofs.Ytaendccnjiagiaa
