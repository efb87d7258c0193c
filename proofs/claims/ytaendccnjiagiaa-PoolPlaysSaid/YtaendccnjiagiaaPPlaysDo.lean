/-
  PoolPlays: one step of both pools; how both look.
-/
import Derived.Test.YtaendccnjiagiaaRCopy
import Derived.Test.YtaendccnjiagiaaPLive
import Derived.Test.YtaendccnjiagiaaPRead
import Derived.Deep.RegionHeld3
namespace Go.Proofs.Ytaendccnjiagiaa.PoolPlays
open Go.RowKit
attribute [local go_sem] run_store_float

/-- Both pools, made since w0, stand alike. -/
structure Two (w0 w : World) (bp rp : Nat) (S : Pool) (o r : List Nat) : Prop where
  p : Rep w bp S o
  q : RRep w rp S r
  touch : Touch [] w0 w
  po : ∀ b ∈ o, w0.heap.size ≤ b
  qo : ∀ b ∈ r, w0.heap.size ≤ b
  apart : ∀ b ∈ o, b ∉ r
theorem Two.ok {w0 w : World} {bp rp : Nat} {S : Pool} {o r : List Nat} (h : Two w0 w bp rp S o r) : S.Ok := by obtain ⟨h, -⟩ := h.p; exact h
theorem Two.step {w0 w w' : World} {bp rp : Nat} {S : Pool} {o r : List Nat} (h : Two w0 w bp rp S o r) (t : Touch [] w w') : Two w0 w' bp rp S o r :=
  ⟨h.p.touch t (by simp), h.q.touch t (by simp), h.touch.trans' t, h.po, h.qo, h.apart⟩
/-- the program's pool has had its call; the reference's has it yet to come. -/
structure Half (w0 w : World) (bp rp : Nat) (S S' : Pool) (o r : List Nat) : Prop where
  p : Rep w bp S' o
  q : RRep w rp S r
  ok : S.Ok
  touch : Touch [] w0 w
  po : ∀ b ∈ o, w0.heap.size ≤ b
  qo : ∀ b ∈ r, w0.heap.size ≤ b
  apart : ∀ b ∈ o, b ∉ r
theorem Two.half {w0 w w' : World} {bp rp : Nat} {S S' : Pool} {o o' r : List Nat} (h : Two w0 w bp rp S o r) (hr : Rep w' bp S' o') (t : Touch o w w') (ho : ∀ b ∈ o', b ∈ o ∨ w.heap.size ≤ b) : Half w0 w' bp rp S S' o' r := by
  have hlt := h.q.lt
  refine ⟨hr, h.q.touch t (fun b hb hb' => h.apart b hb' hb), h.ok, h.touch.trans t (fun b hb => .inr (h.po b hb)), fun b hb => ?_, h.qo, fun b hb hb' => ?_⟩
  · rcases ho b hb with h' | h'
    · exact h.po b h'
    · exact Nat.le_trans h.touch.size h'
  · rcases ho b hb with h' | h'
    · exact h.apart b h' hb'
    · have := hlt b hb'; omega
theorem Half.step {w0 w w' : World} {bp rp : Nat} {S S' : Pool} {o r : List Nat} (h : Half w0 w bp rp S S' o r) (t : Touch [] w w') : Half w0 w' bp rp S S' o r :=
  ⟨h.p.touch t (by simp), h.q.touch t (by simp), h.ok, h.touch.trans' t, h.po, h.qo, h.apart⟩
theorem Half.two {w0 w w' : World} {bp rp : Nat} {S S' : Pool} {o r r' : List Nat} (h : Half w0 w bp rp S S' o r) (hr : RRep w' rp S' r') (t : Touch r w w') (ho : ∀ b ∈ r', b ∈ r ∨ w.heap.size ≤ b) : Two w0 w' bp rp S' o r' := by
  have hlt := h.p.lt
  refine ⟨h.p.touch t (fun b hb hb' => h.apart b hb hb'), hr, h.touch.trans t (fun b hb => .inr (h.qo b hb)), h.po, fun b hb => ?_, fun b hb hb' => ?_⟩
  · rcases ho b hb with h' | h'
    · exact h.qo b h'
    · exact Nat.le_trans h.touch.size h'
  · rcases ho b hb' with h' | h'
    · exact h.apart b hb h'
    · have := hlt b hb; omega

def DoesPost (w0 : World) (bp rp : Nat) (e : Ending) (w' : World) : Prop := e = .returned (.bool true) ∧ ∃ S o r, Two w0 w' bp rp S o r

set_option maxRecDepth 100000 in
set_option maxHeartbeats 1600000 in
theorem does_add (w0 w : World) (bp rp : Nat) (S : Pool) (o r : List Nat) (h : Two w0 w bp rp S o r) (id : Int) (x : Nat) (h0 : 0 ≤ id) (h1 : id < 18446744073709551616) (h64 : x < 18446744073709551616) :
    Calls Try.prog 20 #[.pointer (some ⟨bp, 0, none⟩), .pointer (some ⟨rp, 0, none⟩), .agg #[.int .i64 0, .int .u64 id, .float .f64 x]] w (DoesPost w0 bp rp) := by
  go_enter Try.func20, Try.ntmps20
  go_wp2_with fail
  have hA := At.new w 49 [.int .i64 0, .int .u64 id, .float .f64 x]
  have h2 := h.step ((Touch.refl [] w).alloc (.cells #[.int .i64 0, .int .u64 id, .float .f64 x] 49))
  have hno : w.heap.size ∉ o ∧ w.heap.size ∉ r := ⟨fun hm => by have := h.p.lt _ hm; omega, fun hm => by have := h.q.lt _ hm; omega⟩
  generalize hw2 : w.alloc _ = w2 at hA h2 ⊢
  generalize hsb : w.heap.size = sb at hA hno ⊢
  clear hw2 hsb h
  have b1 := hA.cell 1
  have b2 := hA.cell 2
  simp at b1 b2
  have HA := Lib.hid hA
  have H2 := Lib.hid h2
  clear hA h2
  go_region_held3 (fun w' => w'.cell? ⟨sb, 1, none⟩ = some (.int .u64 id) ∧ w'.cell? ⟨sb, 2, none⟩ = some (.float .f64 x)) (first | assumption | go_keep) (first | (go_at_call 10; refine (add_any _ bp S o (H2.out.step (Touch.refl [] w2).drew).p id x h0 h1 h64).mono ?_; rintro e w5 ⟨o5, rfl, r5, t5, f5⟩; have hK5 : w5.cell? ⟨sb, 1, none⟩ = some (.int .u64 id) ∧ w5.cell? ⟨sb, 2, none⟩ = some (.float .f64 x) := by { have := HA.out.drew.touch t5 hno.1; exact ⟨by simpa using this.cell 1, by simpa using this.cell 2⟩ }; have HA5 := Lib.hid (HA.out.drew.touch t5 hno.1); have H5 := Lib.hid ((H2.out.step (Touch.refl [] w2).drew).half r5 t5 f5); clear r5 t5 f5) | (go_at_call 32; refine (radd_any w5 rp S r H5.out.ok H5.out.q id x h64).mono ?_; rintro e w6 ⟨r6, rfl, r6', t6, f6⟩; have hK6 : w6.cell? ⟨sb, 1, none⟩ = some (.int .u64 id) ∧ w6.cell? ⟨sb, 2, none⟩ = some (.float .f64 x) := by { have := HA5.out.touch t6 hno.2; exact ⟨by simpa using this.cell 1, by simpa using this.cell 2⟩ }; have H6 := Lib.hid (H5.out.two r6' t6 f6); clear r6' t6 f6))
  go_wp2_with fail
  go_ret
  exact ⟨by simp, _, _, _, H6.out⟩
set_option maxRecDepth 100000 in
set_option maxHeartbeats 1600000 in
theorem does_block (w0 w : World) (bp rp : Nat) (S : Pool) (o r : List Nat) (h : Two w0 w bp rp S o r) (id : Int) (x : Nat) :
    Calls Try.prog 20 #[.pointer (some ⟨bp, 0, none⟩), .pointer (some ⟨rp, 0, none⟩), .agg #[.int .i64 2, .int .u64 id, .float .f64 x]] w (DoesPost w0 bp rp) := by
  go_enter Try.func20, Try.ntmps20
  go_wp2_with fail
  have hA := At.new w 49 [.int .i64 2, .int .u64 id, .float .f64 x]
  have h2 := h.step ((Touch.refl [] w).alloc (.cells #[.int .i64 2, .int .u64 id, .float .f64 x] 49))
  have hno : w.heap.size ∉ o ∧ w.heap.size ∉ r := ⟨fun hm => by have := h.p.lt _ hm; omega, fun hm => by have := h.q.lt _ hm; omega⟩
  generalize hw2 : w.alloc _ = w2 at hA h2 ⊢
  generalize hsb : w.heap.size = sb at hA hno ⊢
  clear hw2 hsb h
  have b1 := hA.cell 1
  have b2 := hA.cell 2
  simp at b1 b2
  have HA := Lib.hid hA
  have H2 := Lib.hid h2
  clear hA h2
  go_region_held3 (fun w' => w'.cell? ⟨sb, 1, none⟩ = some (.int .u64 id) ∧ w'.cell? ⟨sb, 2, none⟩ = some (.float .f64 x)) (first | assumption | go_keep) (first | (go_at_call 22; refine (block_any _ bp S o (H2.out.step (Touch.refl [] w2).drew).p id).mono ?_; rintro e w5 ⟨o5, rfl, r5, t5, f5⟩; have hK5 : w5.cell? ⟨sb, 1, none⟩ = some (.int .u64 id) ∧ w5.cell? ⟨sb, 2, none⟩ = some (.float .f64 x) := by { have := HA.out.drew.touch t5 hno.1; exact ⟨by simpa using this.cell 1, by simpa using this.cell 2⟩ }; have HA5 := Lib.hid (HA.out.drew.touch t5 hno.1); have H5 := Lib.hid ((H2.out.step (Touch.refl [] w2).drew).half r5 t5 f5); clear r5 t5 f5) | (go_at_call 33; refine (rturn_any w5 rp S r H5.out.ok H5.out.q id true).mono ?_; rintro e w6 ⟨r6, rfl, r6', t6, f6⟩; have hK6 : w6.cell? ⟨sb, 1, none⟩ = some (.int .u64 id) ∧ w6.cell? ⟨sb, 2, none⟩ = some (.float .f64 x) := by { have := HA5.out.touch t6 hno.2; exact ⟨by simpa using this.cell 1, by simpa using this.cell 2⟩ }; have H6 := Lib.hid (H5.out.two r6' t6 f6); clear r6' t6 f6))
  go_wp2_with fail
  go_ret
  exact ⟨by simp, _, _, _, H6.out⟩
set_option maxRecDepth 100000 in
set_option maxHeartbeats 1600000 in
theorem does_wake (w0 w : World) (bp rp : Nat) (S : Pool) (o r : List Nat) (h : Two w0 w bp rp S o r) (id : Int) (x : Nat) :
    Calls Try.prog 20 #[.pointer (some ⟨bp, 0, none⟩), .pointer (some ⟨rp, 0, none⟩), .agg #[.int .i64 3, .int .u64 id, .float .f64 x]] w (DoesPost w0 bp rp) := by
  go_enter Try.func20, Try.ntmps20
  go_wp2_with fail
  have hA := At.new w 49 [.int .i64 3, .int .u64 id, .float .f64 x]
  have h2 := h.step ((Touch.refl [] w).alloc (.cells #[.int .i64 3, .int .u64 id, .float .f64 x] 49))
  have hno : w.heap.size ∉ o ∧ w.heap.size ∉ r := ⟨fun hm => by have := h.p.lt _ hm; omega, fun hm => by have := h.q.lt _ hm; omega⟩
  generalize hw2 : w.alloc _ = w2 at hA h2 ⊢
  generalize hsb : w.heap.size = sb at hA hno ⊢
  clear hw2 hsb h
  have b1 := hA.cell 1
  have b2 := hA.cell 2
  simp at b1 b2
  have HA := Lib.hid hA
  have H2 := Lib.hid h2
  clear hA h2
  go_region_held3 (fun w' => w'.cell? ⟨sb, 1, none⟩ = some (.int .u64 id) ∧ w'.cell? ⟨sb, 2, none⟩ = some (.float .f64 x)) (first | assumption | go_keep) (first | (go_at_call 23; refine (wake_any _ bp S o (H2.out.step (Touch.refl [] w2).drew).p id).mono ?_; rintro e w5 ⟨o5, rfl, r5, t5, f5⟩; have hK5 : w5.cell? ⟨sb, 1, none⟩ = some (.int .u64 id) ∧ w5.cell? ⟨sb, 2, none⟩ = some (.float .f64 x) := by { have := HA.out.drew.touch t5 hno.1; exact ⟨by simpa using this.cell 1, by simpa using this.cell 2⟩ }; have HA5 := Lib.hid (HA.out.drew.touch t5 hno.1); have H5 := Lib.hid ((H2.out.step (Touch.refl [] w2).drew).half r5 t5 f5); clear r5 t5 f5) | (go_at_call 33; refine (rturn_any w5 rp S r H5.out.ok H5.out.q id false).mono ?_; rintro e w6 ⟨r6, rfl, r6', t6, f6⟩; have hK6 : w6.cell? ⟨sb, 1, none⟩ = some (.int .u64 id) ∧ w6.cell? ⟨sb, 2, none⟩ = some (.float .f64 x) := by { have := HA5.out.touch t6 hno.2; exact ⟨by simpa using this.cell 1, by simpa using this.cell 2⟩ }; have H6 := Lib.hid (H5.out.two r6' t6 f6); clear r6' t6 f6))
  go_wp2_with fail
  go_ret
  exact ⟨by simp, _, _, _, H6.out⟩
set_option maxRecDepth 100000 in
set_option maxHeartbeats 1600000 in
theorem does_done (w0 w : World) (bp rp : Nat) (S : Pool) (o r : List Nat) (h : Two w0 w bp rp S o r) (id : Int) (x : Nat) :
    Calls Try.prog 20 #[.pointer (some ⟨bp, 0, none⟩), .pointer (some ⟨rp, 0, none⟩), .agg #[.int .i64 4, .int .u64 id, .float .f64 x]] w (DoesPost w0 bp rp) := by
  go_enter Try.func20, Try.ntmps20
  go_wp2_with fail
  have hA := At.new w 49 [.int .i64 4, .int .u64 id, .float .f64 x]
  have h2 := h.step ((Touch.refl [] w).alloc (.cells #[.int .i64 4, .int .u64 id, .float .f64 x] 49))
  have hno : w.heap.size ∉ o ∧ w.heap.size ∉ r := ⟨fun hm => by have := h.p.lt _ hm; omega, fun hm => by have := h.q.lt _ hm; omega⟩
  generalize hw2 : w.alloc _ = w2 at hA h2 ⊢
  generalize hsb : w.heap.size = sb at hA hno ⊢
  clear hw2 hsb h
  have b1 := hA.cell 1
  have b2 := hA.cell 2
  simp at b1 b2
  have HA := Lib.hid hA
  have H2 := Lib.hid h2
  clear hA h2
  go_region_held3 (fun w' => w'.cell? ⟨sb, 1, none⟩ = some (.int .u64 id) ∧ w'.cell? ⟨sb, 2, none⟩ = some (.float .f64 x)) (first | assumption | go_keep) (first | (go_at_call 16; refine (done_any _ bp S o (H2.out.step (Touch.refl [] w2).drew).p id).mono ?_; rintro e w5 ⟨o5, rfl, r5, t5, f5⟩; have hK5 : w5.cell? ⟨sb, 1, none⟩ = some (.int .u64 id) ∧ w5.cell? ⟨sb, 2, none⟩ = some (.float .f64 x) := by { have := HA.out.drew.touch t5 hno.1; exact ⟨by simpa using this.cell 1, by simpa using this.cell 2⟩ }; have HA5 := Lib.hid (HA.out.drew.touch t5 hno.1); have H5 := Lib.hid ((H2.out.step (Touch.refl [] w2).drew).half r5 t5 f5); clear r5 t5 f5) | (go_at_call 34; refine (rdone_any w5 rp S r H5.out.ok H5.out.q id).mono ?_; rintro e w6 ⟨r6, rfl, r6', t6, f6⟩; have hK6 : w6.cell? ⟨sb, 1, none⟩ = some (.int .u64 id) ∧ w6.cell? ⟨sb, 2, none⟩ = some (.float .f64 x) := by { have := HA5.out.touch t6 hno.2; exact ⟨by simpa using this.cell 1, by simpa using this.cell 2⟩ }; have H6 := Lib.hid (H5.out.two r6' t6 f6); clear r6' t6 f6))
  go_wp2_with fail
  go_ret
  exact ⟨by simp, _, _, _, H6.out⟩

set_option maxRecDepth 100000 in
set_option maxHeartbeats 1600000 in
theorem does_pick (w0 w : World) (bp rp : Nat) (S : Pool) (o r : List Nat) (h : Two w0 w bp rp S o r) (d id : Int) (x : Nat) (d0 : (d == 0) = false) (d2 : (d == 2) = false) (d3 : (d == 3) = false) (d4 : (d == 4) = false) :
    Calls Try.prog 20 #[.pointer (some ⟨bp, 0, none⟩), .pointer (some ⟨rp, 0, none⟩), .agg #[.int .i64 d, .int .u64 id, .float .f64 x]] w (DoesPost w0 bp rp) := by
  go_enter Try.func20, Try.ntmps20
  have hA := At.new w 49 [.int .i64 d, .int .u64 id, .float .f64 x]
  have h2 := h.step ((Touch.refl [] w).alloc (.cells #[.int .i64 d, .int .u64 id, .float .f64 x] 49))
  have hno : w.heap.size ∉ o ∧ w.heap.size ∉ r := ⟨fun hm => by have := h.p.lt _ hm; omega, fun hm => by have := h.q.lt _ hm; omega⟩
  have HA := Lib.hid hA
  have H2 := Lib.hid h2
  clear hA h2 h
  go_wp2_with fail
  refine (pick_any _ bp S o H2.out.p x).mono ?_
  rintro e w5 ⟨o5, rfl, r5, t5, f5⟩
  have hA5 := HA.out.touch t5 hno.1
  have b2 := hA5.cell 2
  simp at b2
  have H5 := Lib.hid (H2.out.half r5 t5 f5)
  clear r5 t5 f5 hA5
  go_wp2_with fail
  refine (rpick_any w5 rp S r H5.out.ok H5.out.q x).mono ?_
  rintro e w6 ⟨r6, rfl, r6', t6, f6⟩
  have H6 := Lib.hid (H5.out.two r6' t6 f6)
  clear r6' t6 f6
  go_wp2_with fail
  go_ret
  exact ⟨by simp, _, _, _, H6.out⟩

theorem does_any (w0 w : World) (bp rp : Nat) (S : Pool) (o r : List Nat) (h : Two w0 w bp rp S o r) (d id : Int) (x : Nat) (h0 : 0 ≤ id) (h1 : id < 18446744073709551616) (h64 : x < 18446744073709551616) :
    Calls Try.prog 20 #[.pointer (some ⟨bp, 0, none⟩), .pointer (some ⟨rp, 0, none⟩), .agg #[.int .i64 d, .int .u64 id, .float .f64 x]] w (DoesPost w0 bp rp) := by
  by_cases d0 : d = 0
  · subst d0; exact does_add w0 w bp rp S o r h id x h0 h1 h64
  by_cases d2 : d = 2
  · subst d2; exact does_block w0 w bp rp S o r h id x
  by_cases d3 : d = 3
  · subst d3; exact does_wake w0 w bp rp S o r h id x
  by_cases d4 : d = 4
  · subst d4; exact does_done w0 w bp rp S o r h id x
  exact does_pick w0 w bp rp S o r h d id x (beq_eq_false_iff_ne.2 d0) (beq_eq_false_iff_ne.2 d2) (beq_eq_false_iff_ne.2 d3) (beq_eq_false_iff_ne.2 d4)

/-- a list that IDs tells. -/
theorem nums_ids {w : World} {ids : List Int} {a : Option Addr} {n c : Nat} {own : List Nat} (h : Row w 30 1 a n c own (u64s ids)) : Nums w .u64 a n c ids := Nums.ofRow h

set_option maxRecDepth 100000 in
set_option maxHeartbeats 1600000 in
theorem stands_any (w0 w : World) (bp rp : Nat) (S : Pool) (o r : List Nat) (h : Two w0 w bp rp S o r) :
    Calls Try.prog 21 #[.pointer (some ⟨bp, 0, none⟩), .pointer (some ⟨rp, 0, none⟩)] w fun e w' => e = .returned (.bool true) ∧ Touch [] w w' := by
  have H := Lib.hid h
  clear h
  go_enter Try.func21, Try.ntmps21
  go_wp2_with fail
  refine (runnable_any w bp S o H.out.p).mono ?_
  rintro e w1 ⟨a1, n1, o1, rfl, hr1, t1, ho1⟩
  have H1 := Lib.hid (H.out.step t1)
  have HR1 := Lib.hid (nums_ids hr1)
  have T1 := Lib.hid t1
  clear t1 hr1
  go_wp2_with fail
  refine (rids_list w1 rp S r H1.out.ok H1.out.q true).mono ?_
  rintro e w2 ⟨a2, n2, c2, o2, rfl, hr2, t2, ho2⟩
  have hk : (fun t : Task => !t.blk) = kept true := kept_true.symm
  rw [kept_true] at hr2
  have H2 := Lib.hid (H1.out.step t2)
  have HR2 := Lib.hid (nums_ids hr2)
  have T2 := Lib.hid (T1.out.trans' t2)
  have HR1 := Lib.hid (HR1.out.touch t2)
  clear t2 hr2 hk
  go_wp2_with fail
  refine (idsEq_any w2 a1 a2 n1 n1 n2 c2 _ _ HR1.out HR2.out).mono ?_
  simp only [decide_true]
  rintro e w3 ⟨rfl, t3⟩
  have H3 := Lib.hid (H2.out.step t3)
  have T3 := Lib.hid (T2.out.trans' t3)
  clear t3 HR1 HR2
  go_wp2_with fail
  refine (working_any w3 bp S o H3.out.p).mono ?_
  rintro e w1 ⟨a1, n1, o1, rfl, hr1, t1, ho1⟩
  have H1 := Lib.hid (H3.out.step t1)
  have HR1 := Lib.hid (nums_ids hr1)
  have T1 := Lib.hid (T3.out.trans' t1)
  clear t1 hr1
  go_wp2_with fail
  refine (rids_list w1 rp S r H1.out.ok H1.out.q false).mono ?_
  rintro e w2 ⟨a2, n2, c2, o2, rfl, hr2, t2, ho2⟩
  rw [kept_false] at hr2
  have H2 := Lib.hid (H1.out.step t2)
  have HR2 := Lib.hid (nums_ids hr2)
  have T2 := Lib.hid (T1.out.trans' t2)
  have HR1 := Lib.hid (HR1.out.touch t2)
  clear t2 hr2
  go_wp2_with fail
  refine (idsEq_any w2 a1 a2 n1 n1 n2 c2 _ _ HR1.out HR2.out).mono ?_
  simp only [decide_true]
  rintro e w3 ⟨rfl, t3⟩
  have H3 := Lib.hid (H2.out.step t3)
  have T3 := Lib.hid (T2.out.trans' t3)
  clear t3 HR1 HR2
  go_wp2_with fail
  refine (waiting_any w3 bp S o H3.out.p).mono ?_
  rintro e w1 ⟨a1, n1, o1, rfl, hr1, t1, ho1⟩
  have H1 := Lib.hid (H3.out.step t1)
  have HR1 := Lib.hid (nums_ids hr1)
  have T1 := Lib.hid (T3.out.trans' t1)
  clear t1 hr1
  go_wp2_with fail
  refine (rids_queue w1 rp S r H1.out.ok H1.out.q).mono ?_
  rintro e w2 ⟨a2, n2, c2, o2, rfl, hr2, t2, ho2⟩
  have HR2 := Lib.hid (nums_ids hr2)
  have T2 := Lib.hid (T1.out.trans' t2)
  have HR1 := Lib.hid (HR1.out.touch t2)
  clear t2 hr2
  go_wp2_with fail
  refine (idsEq_any w2 a1 a2 n1 n1 n2 c2 _ _ HR1.out HR2.out).mono ?_
  simp only [decide_true]
  rintro e w3 ⟨rfl, t3⟩
  go_wp2_with fail
  go_ret
  exact ⟨rfl, T2.out.trans' t3⟩
end Go.Proofs.Ytaendccnjiagiaa.PoolPlays
