/-
  The reference's Turn.
-/
import Derived.Test.YtaendccnjiagiaaRAdd
namespace Go.Proofs.Ytaendccnjiagiaa
open Go.RowKit
attribute [local go_sem] run_store_float

theorem RRep.setWork {w w' : World} {bp : Nat} {S : Pool} {aw : Option Addr} {nw cw : Nat} {ow : List Nat} {aq : Option Addr} {nq cq : Nat} {oq : List Nat} (hp : RParts w bp S aw nw cw ow aq nq cq oq)
    {l : List Task} (hrow : Row w' 82 4 aw nw cw ow (cellsOf l)) (t : Touch ow w w') : RRep w' bp { S with work := l } (bp :: (ow ++ oq)) :=
  ⟨aw, nw, cw, ow, aq, nq, cq, oq, ⟨hp.at_.touch t hp.ow_bp, hrow, hp.queue.touch t (fun b hb hb' => hp.ow_oq b hb' hb), hp.ow_bp, hp.oq_bp, hp.ow_oq⟩, rfl⟩

theorem rturn_any (w : World) (bp : Nat) (S : Pool) (own : List Nat) (hok : S.Ok) (hR : RRep w bp S own) (id : Int) (q : Bool) :
    Calls Try.prog 33 #[.pointer (some ⟨bp, 0, none⟩), .int .u64 id, .bool q] w (After own w (.int .i64 (S.turn id q).1) fun w' o => RRep w' bp (S.turn id q).2 o) := by
  obtain ⟨aw, nw, cw, ow, aq, nq, cq, oq, hp, rfl⟩ := (fun h => h : RRep w bp S own → RRep w bp S own) hR
  obtain ⟨hnw, hnq⟩ := hp.nw
  have hlw := hok.lw
  have hw2 := hok.w2
  have c3 := hp.at_.cell 3
  simp at c3
  have hn64 : nw ≤ 64 := by omega
  have F := Lib.hid (rfind_any w S.work id _ _ _ _ hp.work hnw (by omega))
  have HN := Lib.hid hnw
  clear hnw hnq hlw hw2
  cases hj : placeOf S.work id with
  | none =>
    have e : S.turn id q = (5, S) := by simp [Pool.turn, hj]
    rw [e]
    rw [show idxOf S.work id = -1 by simp [idxOf, hj]] at F
    clear e hj
    go_enter Try.func33, Try.ntmps33
    go_wp2_with (go_at_call 41; refine F.out.mono ?_; rintro e w' ⟨rfl, rfl⟩)
    go_ret
    exact ⟨_, rfl, hR, Touch.refl _ _, fun b hb => .inl hb⟩
  | some j =>
    obtain ⟨t, ht, hti, hjl, -⟩ := placeOf_some hj
    rw [show idxOf S.work id = (j : Int) by simp [idxOf, hj]] at F
    have hjn : j < nw := by rw [HN.out]; exact hjl
    have hji : (j : Int) < (nw : Int) := by omega
    have hj0 : (0 : Int) ≤ (j : Int) := by omega
    obtain ⟨b, off, cur, rfl, rfl, hcur, -⟩ := hp.work.form (by have := hp.work.2.1; omega)
    obtain ⟨-, -, t2, t3⟩ := hp.work.task ht
    have f2 := hp.work.frozen (by have := hp.work.2.1; omega) (off + j * 4 + 2)
    have f3 := hp.work.frozen (by have := hp.work.2.1; omega) (off + j * 4 + 3)
    have hne : b ≠ bp := fun e => hp.ow_bp (by simp [e])
    have HT := Lib.hid ht
    have HJ := Lib.hid hj
    clear ht hti hj hcur
    by_cases hb : t.blk = q
    · have e : S.turn id q = (3, S) := by simp [Pool.turn, HJ.out, HT.out, hb]
      rw [e]
      have hb' : (t.blk == q) = true := by rw [hb]; simp
      clear hb e
      go_enter Try.func33, Try.ntmps33
      go_wp2_with (go_at_call 41; refine F.out.mono ?_; rintro e w' ⟨rfl, rfl⟩)
      go_ret
      exact ⟨_, rfl, hR, Touch.refl _ _, fun b hb => .inl hb⟩
    · have e : S.turn id q = (0, { S with work := S.work.set j { t with blk := q, age := 0 } }) := by simp [Pool.turn, HJ.out, HT.out, hb]
      rw [e]
      have hb' : (t.blk == q) = false := by simpa using hb
      clear hb e
      go_enter Try.func33, Try.ntmps33
      go_wp2_with (go_at_call 41; refine F.out.mono ?_; rintro e w' ⟨rfl, rfl⟩)
      go_ret
      have hr1 := hp.work.set (j * 4 + 3) (by omega) (.bool q)
      have hr2 := hr1.set (j * 4 + 2) (by omega) (.int .i64 0)
      rw [cellsOf_set_blk _ _ _ _ HT.out, cellsOf_set_age _ _ { t with blk := q } _ (by simp [HN.out ▸ hjn]), List.set_set, ← Nat.add_assoc, ← Nat.add_assoc] at hr2
      exact ⟨_, rfl, RRep.setWork hp hr2 (((Touch.refl _ w).setCell _ (by simp) _).setCell _ (by simp) _), (((Touch.refl _ w).setCell _ (by simp) _).setCell _ (by simp) _), fun b hb => .inl hb⟩
end Go.Proofs.Ytaendccnjiagiaa
