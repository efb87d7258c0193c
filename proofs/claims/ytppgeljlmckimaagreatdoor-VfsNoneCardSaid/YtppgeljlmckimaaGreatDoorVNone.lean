/-
  What no files and no locks answer: each call of a nil receiver.
-/
import Derived.Test.YtppgeljlmckimaaGreatDoorLWorks
namespace Go.Proofs.YtppgeljlmckimaaGreatDoor
open Go.RowKit

def qidZ : Value := .agg #[.int .u8 0, .int .u32 0, .int .u64 0]
set_option maxRecDepth 100000
theorem nil_stat (w : World) (p : Int) : Calls Tryz.prog 14 #[.pointer none, .int .u64 p] w fun e w' => e = .returned (.tuple #[.agg statZ.toArray, .int .i64 1]) ∧ Touch [] w w' := by
  go_enter Tryz.func14, Tryz.ntmps14
  go_wp2
  refine bodyPost_ret (v := .tuple #[.agg statZ.toArray, .int .i64 1]) ?_ rfl ⟨rfl, ?_⟩
  · simp [results, Tryz.results14, go_sem, statZ]
  · exact (Touch.refl _ _).alloc _
theorem nil_walk (w : World) (p : Int) (a b : ByteArray) : Calls Tryz.prog 15 #[.pointer none, .int .u64 p, .string a, .string b] w fun e w' => e = .returned (.tuple #[qidZ, .int .i64 1]) ∧ Touch [] w w' := by
  go_enter Tryz.func15, Tryz.ntmps15
  go_wp2
  refine bodyPost_ret (v := .tuple #[qidZ, .int .i64 1]) ?_ rfl ⟨rfl, ?_⟩
  · simp [results, Tryz.results15, go_sem, qidZ]
  · exact (Touch.refl _ _).alloc _
theorem nil_open (w : World) (p m n : Int) (a : ByteArray) : Calls Tryz.prog 16 #[.pointer none, .int .u64 p, .int .u8 m, .string a, .int .u32 n] w fun e w' => e = .returned (.tuple #[qidZ, .int .i64 1]) ∧ Touch [] w w' := by
  go_enter Tryz.func16, Tryz.ntmps16
  go_wp2
  refine bodyPost_ret (v := .tuple #[qidZ, .int .i64 1]) ?_ rfl ⟨rfl, ?_⟩
  · simp [results, Tryz.results16, go_sem, qidZ]
  · exact (Touch.refl _ _).alloc _
theorem nil_create (w : World) (p r m n : Int) (a b : ByteArray) : Calls Tryz.prog 17 #[.pointer none, .int .u64 p, .string a, .int .u32 r, .int .u8 m, .string b, .int .u32 n] w fun e w' => e = .returned (.tuple #[qidZ, .int .i64 1]) ∧ Touch [] w w' := by
  go_enter Tryz.func17, Tryz.ntmps17
  go_wp2
  refine bodyPost_ret (v := .tuple #[qidZ, .int .i64 1]) ?_ rfl ⟨rfl, ?_⟩
  · simp [results, Tryz.results17, go_sem, qidZ]
  · exact (Touch.refl _ _).alloc _
theorem nil_read (w : World) (p o c : Int) : Calls Tryz.prog 18 #[.pointer none, .int .u64 p, .int .u64 o, .int .u32 c] w fun e w' => e = .returned (.tuple #[.string ⟨#[]⟩, .int .i64 1]) ∧ Touch [] w w' := by
  go_enter Tryz.func18, Tryz.ntmps18
  go_wp2
  go_ret2
  exact ⟨rfl, Touch.refl _ _⟩
theorem nil_list (w : World) (p : Int) : Calls Tryz.prog 19 #[.pointer none, .int .u64 p] w fun e w' => e = .returned (.tuple #[.slice none 0 0, .int .i64 1]) ∧ Touch [] w w' := by
  go_enter Tryz.func19, Tryz.ntmps19
  go_wp2
  go_ret2
  exact ⟨rfl, Touch.refl _ _⟩
theorem nil_write (w : World) (p o n : Int) (a b : ByteArray) : Calls Tryz.prog 20 #[.pointer none, .int .u64 p, .int .u64 o, .string a, .string b, .int .u32 n] w fun e w' => e = .returned (.tuple #[.int .u32 0, .int .i64 1]) ∧ Touch [] w w' := by
  go_enter Tryz.func20, Tryz.ntmps20
  go_wp2
  go_ret2
  exact ⟨rfl, Touch.refl _ _⟩
theorem nil_parent (w : World) (p : Int) : Calls Tryz.prog 21 #[.pointer none, .int .u64 p] w fun e w' => e = .returned (.tuple #[.int .u64 0, .int .i64 1]) ∧ Touch [] w w' := by
  go_enter Tryz.func21, Tryz.ntmps21
  go_wp2
  go_ret2
  exact ⟨rfl, Touch.refl _ _⟩
theorem nil_ask (w : World) (i : Int) : Calls Tryz.prog 22 #[.pointer none, .int .i64 i, .slice none 0 0] w fun e w' => e = .returned (.tuple #[.bool false, .int .i64 1]) ∧ Touch [] w w' := by
  go_enter Tryz.func22, Tryz.ntmps22
  go_wp2
  go_ret2
  exact ⟨rfl, Touch.refl _ _⟩
theorem nil_let (w : World) (i : Int) : Calls Tryz.prog 23 #[.pointer none, .int .i64 i] w fun e w' => e = .returned (.tuple #[.slice none 0 0, .int .i64 1]) ∧ Touch [] w w' := by
  go_enter Tryz.func23, Tryz.ntmps23
  go_wp2
  go_ret2
  exact ⟨rfl, (Touch.refl _ _).alloc _⟩
theorem nil_new (w : World) : Calls Tryz.prog 8 #[.nilIface, .int .i64 3] w fun e w' => e = .returned (.tuple #[.pointer none, .int .i64 1]) ∧ Touch [] w w' := by
  go_enter Tryz.func8, Tryz.ntmps8
  go_wp2
  go_ret2
  exact ⟨rfl, Touch.refl _ _⟩
theorem nil_hits (w : World) : Calls Tryz.prog 13 #[.pointer none] w fun e w' => e = .returned (.tuple #[.int .i64 0, .int .i64 0]) ∧ Touch [] w w' := by
  go_enter Tryz.func13, Tryz.ntmps13
  go_wp2
  go_ret2
  exact ⟨rfl, Touch.refl _ _⟩
theorem nil_waits (w : World) (i : Int) : Calls Tryz.prog 24 #[.pointer none, .int .i64 i] w fun e w' => e = .returned (.tuple #[.int .u64 0, .bool false]) ∧ Touch [] w w' := by
  go_enter Tryz.func24, Tryz.ntmps24
  go_wp2
  go_ret2
  exact ⟨rfl, Touch.refl _ _⟩
theorem nil_holder (w : World) (i : Int) : Calls Tryz.prog 25 #[.pointer none, .int .u64 i] w fun e w' => e = .returned (.tuple #[.int .i64 0, .bool false]) ∧ Touch [] w w' := by
  go_enter Tryz.func25, Tryz.ntmps25
  go_wp2
  go_ret2
  exact ⟨rfl, Touch.refl _ _⟩
theorem nil_both (w : World) (p : Int) (f : Fn) (x y : Array Value) : Calls Tryz.prog 51 #[.pointer none, .int .u64 p, .func f x y] w fun e w' => e = .returned (.int .i64 1) ∧ Touch [] w w' := by
  go_enter Tryz.func51, Tryz.ntmps51
  go_wp2
  go_ret
  exact ⟨rfl, Touch.refl _ _⟩
theorem nil_remove (w : World) (p n : Int) (a : ByteArray) : Calls Tryz.prog 26 #[.pointer none, .int .u64 p, .string a, .int .u32 n] w fun e w' => e = .returned (.int .i64 1) ∧ Touch [] w w' := by
  have hmf : ∀ (fn : Fn) (first cap : Array Value) (w : World), (Instr.makeFunc fn first cap).run Tryz.prog w = .ok (.func fn first cap) w := fun _ _ _ _ => rfl
  go_enter Tryz.func26, Tryz.ntmps26
  go_wp2_with (go_at_call 51; refine (nil_both _ _ _ _ _).mono ?_; rintro e w1 ⟨rfl, t1⟩)
  go_ret
  exact ⟨rfl, ((((Touch.refl _ _).alloc _).alloc _).alloc _).alloc _ |>.trans' t1⟩
theorem nil_wstat (w : World) (p n : Int) (a : ByteArray) (c0 c1 c2 c3 c4 c5 c6 c7 c8 : Int) (s0 s1 s2 s3 : ByteArray) :
    Calls Tryz.prog 27 #[.pointer none, .int .u64 p, .agg #[.int .u16 c0, .int .u32 c1, .int .u8 c2, .int .u32 c3, .int .u64 c4, .int .u32 c5, .int .u32 c6, .int .u32 c7, .int .u64 c8, .string s0, .string s1, .string s2, .string s3], .string a, .int .u32 n] w fun e w' => e = .returned (.int .i64 1) ∧ Touch [] w w' := by
  have hmf : ∀ (fn : Fn) (first cap : Array Value) (w : World), (Instr.makeFunc fn first cap).run Tryz.prog w = .ok (.func fn first cap) w := fun _ _ _ _ => rfl
  go_enter Tryz.func27, Tryz.ntmps27
  go_wp2_with (go_at_call 51; refine (nil_both _ _ _ _ _).mono ?_; rintro e w1 ⟨rfl, t1⟩)
  go_ret
  exact ⟨rfl, (((((Touch.refl _ _).alloc _).alloc _).alloc _).alloc _).alloc _ |>.trans' t1⟩
theorem nil_keep (w : World) (p : Int) : Calls Tryz.prog 28 #[.pointer none, .int .u64 p] w fun e w' => e = .returned (.int .i64 1) ∧ Touch [] w w' := by
  go_enter Tryz.func28, Tryz.ntmps28
  go_wp2_with (go_at_call 14; refine (nil_stat _ _).mono ?_; rintro e w1 ⟨rfl, t1⟩; unfold statZ)
  go_ret
  exact ⟨rfl, t1.alloc _⟩
theorem nil_vlet (w : World) (p : Int) : Calls Tryz.prog 29 #[.pointer none, .int .u64 p] w fun e w' => e = .returned (.int .i64 1) ∧ Touch [] w w' := by
  go_enter Tryz.func29, Tryz.ntmps29
  go_wp2
  go_ret
  exact ⟨rfl, Touch.refl _ _⟩
theorem nil_cached (w : World) : Calls Tryz.prog 12 #[.pointer none] w fun e w' => e = .returned (.slice none 0 0) ∧ Touch [] w w' := by
  go_enter Tryz.func12, Tryz.ntmps12
  go_wp2
  go_ret
  exact ⟨rfl, Touch.refl _ _⟩
theorem nil_has (w : World) (i : Int) : Calls Tryz.prog 30 #[.pointer none, .int .i64 i] w fun e w' => e = .returned (.bool false) ∧ Touch [] w w' := by
  go_enter Tryz.func30, Tryz.ntmps30
  go_wp2
  go_ret
  exact ⟨rfl, Touch.refl _ _⟩
theorem nil_all (w : World) : Calls Tryz.prog 31 #[.pointer none] w fun e w' => e = .returned (.slice none 0 0) ∧ Touch [] w w' := by
  go_enter Tryz.func31, Tryz.ntmps31
  go_wp2
  go_ret
  exact ⟨rfl, Touch.refl _ _⟩
end Go.Proofs.YtppgeljlmckimaaGreatDoor
