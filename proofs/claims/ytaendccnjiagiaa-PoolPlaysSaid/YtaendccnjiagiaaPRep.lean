/-
  How a pool lies in memory; what its small calls (none, New, math.IsInf) do.
-/
import Derived.Test.YtaendccnjiagiaaProg
import Derived.Test.YtaendccnjiagiaaPSpec
import Derived.WalkLawsBesides
namespace Go.Proofs.Ytaendccnjiagiaa
open Go.RowKit

theorem Try.infoTask : (Try.prog.info? 62).map (fun i => (i.zero, i.size, i.bytes)) = some (some (.agg #[.int .u64 0, .float .f64 0, .int .i64 0, .bool false]), 4, 32) := by kernel_rfl
theorem Try.mapT : Try.prog.underlying 56 = some (.map 30 4) := by kernel_rfl
theorem Try.u64T : Try.prog.underlying 30 = some (.int .u64) := by kernel_rfl
theorem Try.tasksT : Try.prog.underlying 57 = some (.slice 62) := by kernel_rfl
noncomputable def KU : KK Try.prog 30 Int := KK.int Try.u64T
theorem zeroBool (w : World) : (zeroValue 4).run Try.prog w = .ok (.bool false) w := by kernel_rfl

structure Keys (kv : List (Int × Value)) (ids : List Int) : Prop where
  val : ∀ p ∈ kv, p.2 = .bool true
  perm : (kv.map (·.1)).Perm ids

/-- What a call leaves: it gives v; what it had for itself may have turned; I holds of what it has now. -/
def After (own : List Nat) (w : World) (v : Value) (I : World → List Nat → Prop) (e : Ending) (w' : World) : Prop :=
  ∃ own', e = .returned v ∧ I w' own' ∧ Touch own w w' ∧ ∀ b ∈ own', b ∈ own ∨ w.heap.size ≤ b

/-- The parts of a pool. -/
structure Parts (w : World) (bp : Nat) (S : Pool) (aw : Option Addr) (nw cw : Nat) (ow : List Nat) (aq : Option Addr) (nq cq : Nat) (oq : List Nat) (bm : Nat) (kv : List (Int × Value)) : Prop where
  at_ : At w bp 59 [.int .i64 S.workers, .int .i64 S.room, .int .i64 S.patience, .slice aw nw cw, .slice aq nq cq, .map (some bm)]
  work : Row w 62 4 aw nw cw ow (cellsOf S.work)
  queue : Row w 62 4 aq nq cq oq (cellsOf S.queue)
  map : IMap w KU.f bm kv
  keys : Keys kv S.ids
  bm_bp : bm ≠ bp
  ow_bp : bp ∉ ow
  ow_bm : bm ∉ ow
  oq_bp : bp ∉ oq
  oq_bm : bm ∉ oq
  ow_oq : ∀ b ∈ ow, b ∉ oq

def Rep (w : World) (bp : Nat) (S : Pool) (own : List Nat) : Prop :=
  S.Ok ∧ ∃ aw nw cw ow aq nq cq oq bm kv, Parts w bp S aw nw cw ow aq nq cq oq bm kv ∧ own = bp :: bm :: (ow ++ oq)

theorem Parts.nw {w : World} {bp : Nat} {S : Pool} {aw : Option Addr} {nw cw : Nat} {ow : List Nat} {aq : Option Addr} {nq cq : Nat} {oq : List Nat} {bm : Nat} {kv : List (Int × Value)} (h : Parts w bp S aw nw cw ow aq nq cq oq bm kv) : nw = S.work.length ∧ nq = S.queue.length := by
  have h1 := h.work.1
  have h2 := h.queue.1
  rw [length_cellsOf] at h1 h2
  omega
theorem Parts.touch {w w' : World} {bp : Nat} {S : Pool} {aw : Option Addr} {nw cw : Nat} {ow : List Nat} {aq : Option Addr} {nq cq : Nat} {oq : List Nat} {bm : Nat} {kv : List (Int × Value)} {l : List Nat} (h : Parts w bp S aw nw cw ow aq nq cq oq bm kv) (t : Touch l w w') (hl : ∀ b ∈ bp :: bm :: (ow ++ oq), b ∉ l) : Parts w' bp S aw nw cw ow aq nq cq oq bm kv :=
  ⟨h.at_.touch t (hl _ (by simp)), h.work.touch t (fun b hb => hl _ (by simp [hb])), h.queue.touch t (fun b hb => hl _ (by simp [hb])), h.map.touch t (hl _ (by simp)), h.keys, h.bm_bp, h.ow_bp, h.ow_bm, h.oq_bp, h.oq_bm, h.ow_oq⟩
theorem Rep.touch {w w' : World} {bp : Nat} {S : Pool} {own l : List Nat} (h : Rep w bp S own) (t : Touch l w w') (hl : ∀ b ∈ own, b ∉ l) : Rep w' bp S own := by
  obtain ⟨hok, aw, nw, cw, ow, aq, nq, cq, oq, bm, kv, hp, rfl⟩ := h
  exact ⟨hok, aw, nw, cw, ow, aq, nq, cq, oq, bm, kv, hp.touch t hl, rfl⟩
theorem Rep.lt {w : World} {bp : Nat} {S : Pool} {own : List Nat} (h : Rep w bp S own) : ∀ b ∈ own, b < w.heap.size := by
  obtain ⟨hok, aw, nw, cw, ow, aq, nq, cq, oq, bm, kv, hp, rfl⟩ := h
  intro b hb
  simp only [List.mem_cons, List.mem_append] at hb
  rcases hb with rfl | rfl | hb | hb
  · exact hp.at_.lt
  · exact hp.map.lt
  · exact hp.work.lt b hb
  · exact hp.queue.lt b hb
theorem Keys.mem {kv : List (Int × Value)} {ids : List Int} (h : Keys kv ids) {id : Int} (hm : id ∈ ids) : atKey kv id = some (.bool true) := by
  cases hk : keyAt kv id with
  | none =>
    obtain ⟨p, hp, rfl⟩ := List.mem_map.1 (h.perm.mem_iff.2 hm)
    exact absurd rfl ((keyAt_none hk).1 p hp)
  | some j =>
    obtain ⟨v, h1, h2⟩ := keyAt_some hk
    rw [h2, ← h.val (id, v) (List.mem_iff_getElem?.2 ⟨j, h1⟩)]
theorem Keys.not_mem {kv : List (Int × Value)} {ids : List Int} (h : Keys kv ids) {id : Int} (hm : id ∉ ids) : ∀ p ∈ kv, p.1 ≠ id := by
  intro p hp e
  exact hm (h.perm.mem_iff.1 (List.mem_map.2 ⟨p, hp, e⟩))

theorem none_nil (w : World) : Calls Try.prog 24 #[.pointer none] w fun e w' => e = .returned (.bool true) ∧ w = w' := by
  go_enter Try.func24, Try.ntmps24
  go_wp2
  go_ret
  exact ⟨rfl, rfl⟩
theorem none_no (w : World) (b : Nat) (n : Int) (hn : 1 ≤ n) (hc : w.cell? ⟨b, 0, none⟩ = some (.int .i64 n)) :
    Calls Try.prog 24 #[.pointer (some ⟨b, 0, none⟩)] w fun e w' => e = .returned (.bool false) ∧ w = w' := by
  have h0 : (n == 0) = false := by rw [beq_eq_false_iff_ne]; omega
  go_enter Try.func24, Try.ntmps24
  go_wp2
  go_ret
  exact ⟨rfl, rfl⟩

theorem new_bad (w : World) (a b c : Int) (h : a < 1 ∨ 64 < a ∨ b < 0 ∨ 1024 < b ∨ c < 1) :
    Calls Try.prog 9 #[.int .i64 a, .int .i64 b, .int .i64 c] w fun e w' => e = .returned (.tuple #[.pointer none, .int .i64 2]) ∧ w = w' := by
  go_enter Try.func9, Try.ntmps9
  go_wp2
  all_goals (go_ret2; exact ⟨rfl, rfl⟩)
theorem new_ok (w : World) (a b c : Int) (h1 : 1 ≤ a) (h2 : a ≤ 64) (h3 : 0 ≤ b) (h4 : b ≤ 1024) (h5 : 1 ≤ c) (h6 : c ≤ 9223372036854775807) :
    Calls Try.prog 9 #[.int .i64 a, .int .i64 b, .int .i64 c] w
      (After [] w (.tuple #[.pointer (some ⟨w.heap.size + 1, 0, none⟩), .int .i64 0]) (fun w' o => Rep w' (w.heap.size + 1) ⟨a, b, c, [], []⟩ o)) := by
  have hmm := @run_makeMap Try.prog
  go_enter Try.func9, Try.ntmps9
  go_wp2
  go_ret2
  have hs : w.heap.size + 1 = (w.alloc (.map #[] 0)).heap.size := by simp
  refine ⟨[w.heap.size + 1, w.heap.size], rfl, ⟨⟨h1, h2, h3, h4, h5, h6, by simp; omega, by simp; omega, by simp, by simp, by simp [Pool.ids, idsOf]⟩, none, 0, 0, [], none, 0, 0, [], w.heap.size, [], ⟨?_, Row.nil _ _ _ _, Row.nil _ _ _ _, (IMap.new w _).alloc _, ⟨by simp, by simp [Pool.ids, idsOf]⟩, by simp, by simp, by simp, by simp, by simp, by simp⟩, by simp⟩, ((Touch.refl [] w).alloc _).alloc _, by simp⟩
  rw [hs]
  exact At.new _ _ _

theorem bits64 (x : Nat) (w : World) : (callFunc 47 #[.float .f64 x]).run Try.prog w = .ok (.value (.int .u64 x)) w := by
  rw [run_callFunc_extern (P := Try.prog) (f := 47) (fn := Try.f47) (e := Extern.MathFloatBits.float64bits) (by kernel_rfl) (by kernel_rfl) (by kernel_rfl) (by kernel_rfl) (by kernel_rfl)]
  rfl
theorem frombits64 (x : Int) (w : World) : (callFunc 46 #[.int .u64 x]).run Try.prog w = .ok (.value (.float .f64 x.toNat)) w := by
  rw [run_callFunc_extern (P := Try.prog) (f := 46) (fn := Try.f46) (e := Extern.MathFloatBits.float64frombits) (by kernel_rfl) (by kernel_rfl) (by kernel_rfl) (by kernel_rfl) (by kernel_rfl)]
  rfl

theorem and_abs (x : Nat) (hx : x < 9223372036854775808) : (bits .andNot .u64 (x : Int) 9223372036854775808).toNat = x := by
  have h := u64_andNot_nat x 9223372036854775808 (by omega) (by omega)
  have e : x &&& (18446744073709551615 - 9223372036854775808) = x := by
    rw [show 18446744073709551615 - 9223372036854775808 = 2 ^ 63 - 1 from rfl, Nat.and_two_pow_sub_one_eq_mod]
    exact Nat.mod_eq_of_lt hx
  rw [e] at h
  have h' : bits .andNot .u64 (x : Int) 9223372036854775808 = (x : Int) := h
  rw [h', Int.toNat_natCast]
theorem abs_any (w : World) (x : Nat) (hx : x < 9223372036854775808) : Calls Try.prog 38 #[.float .f64 x] w fun e w' => e = .returned (.float .f64 x) ∧ w = w' := by
  have h1 := bits64 x
  have h2 := frombits64
  have h3 := Lib.hid (and_abs x hx)
  go_enter Try.func38, Try.ntmps38
  go_wp2
  go_ret
  refine ⟨?_, rfl⟩
  have h4 := h3.out
  show Ending.returned (.float .f64 _) = _
  rw [h4]
/-- math.IsInf(w, 0) of what is not below nought. -/
theorem isInf_any (w : World) (x : Nat) (hx : Fl.Pos x) : Calls Try.prog 25 #[.float .f64 x, .int .i64 0] w fun e w' => e = .returned (.bool (decide (x = Fl.inf))) ∧ w = w' := by
  have hx' : x < 9223372036854775808 := by unfold Fl.Pos Fl.inf at hx; omega
  have hg : (FloatKind.f64.format.order x 9218868437227405311 == some .gt) = decide (x = Fl.inf) := by
    have := Fl.gt_pos (a := x) (b := 9218868437227405311) hx (by unfold Fl.Pos Fl.inf; omega)
    unfold Fl.gt at this
    refine Eq.trans this ?_
    unfold Fl.Pos at hx
    rw [Bool.eq_iff_iff, decide_eq_true_iff, decide_eq_true_iff]
    unfold Fl.inf at hx ⊢
    omega
  generalize decide (x = Fl.inf) = q at hg ⊢
  clear hx
  go_enter Try.func25, Try.ntmps25
  go_wp2_with (go_at_call 38; refine (abs_any _ _ hx').mono ?_; rintro e w' ⟨rfl, rfl⟩)
  go_ret
  exact ⟨rfl, rfl⟩
end Go.Proofs.Ytaendccnjiagiaa
