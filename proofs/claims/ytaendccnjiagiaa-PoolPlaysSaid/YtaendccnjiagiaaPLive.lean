/-
  A pool that a call has made for itself; the known run 'alive'.
-/
import Derived.Test.YtaendccnjiagiaaPAdd
import Derived.Test.YtaendccnjiagiaaPDone3
import Derived.Test.YtaendccnjiagiaaPPick
import Derived.Test.YtaendccnjiagiaaPIds
namespace Go.Proofs.Ytaendccnjiagiaa
open Go.RowKit

/-- A pool that has been made since w0; of what was there in w0 nothing has turned. -/
structure Live (w0 w : World) (bp : Nat) (S : Pool) (own : List Nat) : Prop where
  rep : Rep w bp S own
  touch : Touch [] w0 w
  fresh : ∀ b ∈ own, w0.heap.size ≤ b

def LivePost (w0 : World) (bp : Nat) (v : Value) (S : Pool) (e : Ending) (w' : World) : Prop := ∃ own', e = .returned v ∧ Live w0 w' bp S own'
theorem Live.after {w0 w : World} {bp : Nat} {S S' : Pool} {own : List Nat} {v : Value} (h : Live w0 w bp S own) {e : Ending} {w' : World} (ha : After own w v (fun w' o => Rep w' bp S' o) e w') : LivePost w0 bp v S' e w' := by
  obtain ⟨own', he, hr, ht, ho⟩ := ha
  refine ⟨own', he, hr, h.touch.trans ht (fun b hb => .inr (h.fresh b hb)), fun b hb => ?_⟩
  rcases ho b hb with h' | h'
  · exact h.fresh b h'
  · exact Nat.le_trans h.touch.size h'
theorem Live.ids {w0 w w' : World} {bp : Nat} {S : Pool} {own : List Nat} (h : Live w0 w bp S own) (t : Touch [] w w') : Live w0 w' bp S own := ⟨h.rep.touch t (by simp), h.touch.trans' t, h.fresh⟩

theorem new_live (w0 w : World) (h0 : Touch [] w0 w) (a b c : Int) (h1 : 1 ≤ a) (h2 : a ≤ 64) (h3 : 0 ≤ b) (h4 : b ≤ 1024) (h5 : 1 ≤ c) (h6 : c ≤ 9223372036854775807) :
    Calls Try.prog 9 #[.int .i64 a, .int .i64 b, .int .i64 c] w (fun e w' => ∃ bp own, e = .returned (.tuple #[.pointer (some ⟨bp, 0, none⟩), .int .i64 0]) ∧ Live w0 w' bp ⟨a, b, c, [], []⟩ own) :=
  (new_ok w a b c h1 h2 h3 h4 h5 h6).mono fun e w' ⟨own', he, hr, ht, ho⟩ => ⟨_, own', he, hr, h0.trans' ht, fun b hb => by
    rcases ho b hb with h' | h'
    · simp at h'
    · exact Nat.le_trans h0.size h'⟩
theorem add_live {w0 w : World} {bp : Nat} {S : Pool} {own : List Nat} (h : Live w0 w bp S own) (id : Int) (x : Nat) (h0 : 0 ≤ id) (h1 : id < 18446744073709551616) (h64 : x < 18446744073709551616) :
    Calls Try.prog 10 #[.pointer (some ⟨bp, 0, none⟩), .int .u64 id, .float .f64 x] w (LivePost w0 bp (.int .i64 (S.add id x).1) (S.add id x).2) :=
  (add_any w bp S own h.rep id x h0 h1 h64).mono fun _ _ ha => h.after ha
theorem done_live {w0 w : World} {bp : Nat} {S : Pool} {own : List Nat} (h : Live w0 w bp S own) (id : Int) :
    Calls Try.prog 16 #[.pointer (some ⟨bp, 0, none⟩), .int .u64 id] w (LivePost w0 bp (.int .i64 (S.done id).1) (S.done id).2) :=
  (done_any w bp S own h.rep id).mono fun _ _ ha => h.after ha
theorem pick_live {w0 w : World} {bp : Nat} {S : Pool} {own : List Nat} (h : Live w0 w bp S own) (x : Nat) :
    Calls Try.prog 11 #[.pointer (some ⟨bp, 0, none⟩), .float .f64 x] w (LivePost w0 bp (.tuple #[.int .u64 (S.pick x).1, .int .i64 (S.pick x).2.1]) (S.pick x).2.2) :=
  (pick_any w bp S own h.rep x).mono fun _ _ ha => h.after ha

def A0 : Pool := ⟨2, 1, 3, [], []⟩
def A1 : Pool := (A0.add 7 4607182418800017408).2
def A2 : Pool := (A1.add 8 4613937818241073152).2
def A3 : Pool := (A2.add 9 4607182418800017408).2
def A4 : Pool := (A3.pick 4596373779694328218).2.2
def A5 : Pool := (A4.pick 4598175219545276416).2.2
def A6 : Pool := (A5.pick 4606281698874543309).2.2
def A7 : Pool := (A6.pick 4606281698874543309).2.2
def A8 : Pool := (A7.pick 4606281698874543309).2.2
def A9 : Pool := (A8.done 7).2
theorem a1 : A0.add 7 4607182418800017408 = (0, A1) := by decide +kernel
theorem a2 : A1.add 8 4613937818241073152 = (0, A2) := by decide +kernel
theorem a3 : A2.add 9 4607182418800017408 = (0, A3) := by decide +kernel
theorem a3' : A3.add 5 4607182418800017408 = (6, A3) := by decide +kernel
theorem a3'' : A3.add 7 4607182418800017408 = (184, A3) := by decide +kernel
theorem a4 : A3.pick 4596373779694328218 = (7, 0, A4) := by decide +kernel
theorem a5 : A4.pick 4598175219545276416 = (8, 0, A5) := by decide +kernel
theorem a6 : A5.pick 4606281698874543309 = (8, 0, A6) := by decide +kernel
theorem a7 : A6.pick 4606281698874543309 = (8, 0, A7) := by decide +kernel
theorem a8 : A7.pick 4606281698874543309 = (7, 0, A8) := by decide +kernel
theorem a8' : A8.pick 4607182418800017408 = (0, 2, A8) := by decide +kernel
theorem a9 : A8.done 7 = (0, A9) := by decide +kernel
theorem a9' : (idsOf A9.work).length = 2 := by decide +kernel

theorem add_to {w0 w : World} {bp : Nat} {S S' : Pool} {own : List Nat} {id r : Int} {x : Nat} (h : Live w0 w bp S own) (he : S.add id x = (r, S')) (h0 : 0 ≤ id) (h1 : id < 18446744073709551616) (h64 : x < 18446744073709551616) :
    Calls Try.prog 10 #[.pointer (some ⟨bp, 0, none⟩), .int .u64 id, .float .f64 x] w (LivePost w0 bp (.int .i64 r) S') := by
  have := add_live h id x h0 h1 h64; rwa [he] at this
theorem pick_to {w0 w : World} {bp : Nat} {S S' : Pool} {own : List Nat} {x : Nat} {r r' : Int} (h : Live w0 w bp S own) (he : S.pick x = (r, r', S')) :
    Calls Try.prog 11 #[.pointer (some ⟨bp, 0, none⟩), .float .f64 x] w (LivePost w0 bp (.tuple #[.int .u64 r, .int .i64 r']) S') := by
  have := pick_live h x; rwa [he] at this
theorem done_to {w0 w : World} {bp : Nat} {S S' : Pool} {own : List Nat} {id r : Int} (h : Live w0 w bp S own) (he : S.done id = (r, S')) :
    Calls Try.prog 16 #[.pointer (some ⟨bp, 0, none⟩), .int .u64 id] w (LivePost w0 bp (.int .i64 r) S') := by
  have := done_live h id; rwa [he] at this

set_option maxRecDepth 100000 in
set_option maxHeartbeats 1600000 in
theorem alive_any (w : World) : Calls Try.prog 8 #[] w fun e w' => e = .returned (.bool true) ∧ Touch [] w w' := by
  go_enter Try.func8, Try.ntmps8
  go_wp2_with fail
  refine (new_live w w (Touch.refl _ _) 2 1 3 (by decide) (by decide) (by decide) (by decide) (by decide) (by decide)).mono ?_
  rintro e w1 ⟨bp, o1, rfl, L1⟩
  go_wp2_with fail
  refine (add_to (S := A0) L1 a1 (by decide) (by decide) (by decide)).mono ?_
  rintro e w2 ⟨o2, rfl, L2⟩
  go_wp2_with fail
  refine (add_to L2 a2 (by decide) (by decide) (by decide)).mono ?_
  rintro e w3 ⟨o3, rfl, L3⟩
  go_wp2_with fail
  refine (add_to L3 a3 (by decide) (by decide) (by decide)).mono ?_
  rintro e w4 ⟨o4, rfl, L4⟩
  go_wp2_with fail
  refine (add_to L4 a3' (by decide) (by decide) (by decide)).mono ?_
  rintro e w5 ⟨o5, rfl, L5⟩
  go_wp2_with fail
  refine (add_to L5 a3'' (by decide) (by decide) (by decide)).mono ?_
  rintro e w6 ⟨o6, rfl, L6⟩
  go_wp2_with fail
  refine (pick_to L6 a4).mono ?_
  rintro e w7 ⟨o7, rfl, L7⟩
  go_wp2_with fail
  refine (pick_to L7 a5).mono ?_
  rintro e w8 ⟨o8, rfl, L8⟩
  go_wp2_with fail
  refine (pick_to L8 a6).mono ?_
  rintro e w9 ⟨o9, rfl, L9⟩
  go_wp2_with fail
  refine (pick_to L9 a7).mono ?_
  rintro e w10 ⟨o10, rfl, L10⟩
  go_wp2_with fail
  refine (pick_to L10 a8).mono ?_
  rintro e w11 ⟨o11, rfl, L11⟩
  go_wp2_with fail
  refine (pick_to L11 a8').mono ?_
  rintro e w12 ⟨o12, rfl, L12⟩
  go_wp2_with fail
  refine (done_to L12 a9).mono ?_
  rintro e w13 ⟨o13, rfl, L13⟩
  go_wp2_with fail
  refine (working_any _ _ _ _ L13.rep).mono ?_
  rintro e w14 ⟨a, n, o, rfl, hr, ht, ho⟩
  have hn : n = 2 := by have h1 := hr.1; have h2 := a9'; simp [u64s] at h1; omega
  subst hn
  go_wp2
  go_ret
  exact ⟨rfl, L13.touch.trans' ht⟩
end Go.Proofs.Ytaendccnjiagiaa
