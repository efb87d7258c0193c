/-
  The known name 'ann': it may be a user's.
-/
import Derived.Test.YtppgeljlmckimaaGreatDoorProg
import Derived.Test.YtppgeljlmckimaaGreatDoorKit
import Derived.WalkLawsBesides
namespace Go.Proofs.YtppgeljlmckimaaGreatDoor
open Go.RowKit

set_option maxRecDepth 100000 in
theorem valid_ann (w : World) : Calls Tryz.prog 82 #[.string ⟨#[97, 110, 110]⟩] w fun e w' => e = .returned (.bool true) ∧ w = w' := by
  go_enter Tryz.func82, Tryz.ntmps82
  go_wp2
  refine wp_loop_rounds 4 ?_
  rw [rounds_succ]
  go_wp2
  rw [rounds_succ]
  go_wp2
  rw [rounds_succ]
  go_wp2
  rw [rounds_succ]
  go_wp2
  go_ret
  exact ⟨rfl, rfl⟩

theorem bad_a (w : World) (x : Int) (h0 : decide (x < 32) = false) (h1 : (x == 127) = false) (h2 : (x == 47) = false) : Calls Tryz.prog 81 #[.int .i32 x] w fun e w' => e = .returned (.bool false) ∧ w = w' := by
  go_enter Tryz.func81, Tryz.ntmps81
  go_wp2
  go_ret
  exact ⟨rfl, rfl⟩

set_option maxRecDepth 100000 in
theorem index_ann (w : World) : Calls Tryz.prog 87 #[.string ⟨#[97, 110, 110]⟩, .func (.func 81) #[] #[], .bool true] w fun e w' => e = .returned (.int .i64 (-1)) ∧ Touch [] w w' := by
  have n0 : ∀ ty, (Instr.next (.pointer (some ⟨w.heap.size, 0, none⟩)) true ty).run Tryz.prog (w.iter ⟨#[97, 110, 110]⟩ 0) = .ok (.tuple #[.bool true, .int .i64 0, .int .i32 97]) (w.iter ⟨#[97, 110, 110]⟩ 1) := fun ty => run_next_ascii w _ 0 ty (by decide) (by decide)
  have n1 : ∀ ty, (Instr.next (.pointer (some ⟨w.heap.size, 0, none⟩)) true ty).run Tryz.prog (w.iter ⟨#[97, 110, 110]⟩ 1) = .ok (.tuple #[.bool true, .int .i64 1, .int .i32 110]) (w.iter ⟨#[97, 110, 110]⟩ 2) := fun ty => run_next_ascii w _ 1 ty (by decide) (by decide)
  have n2 : ∀ ty, (Instr.next (.pointer (some ⟨w.heap.size, 0, none⟩)) true ty).run Tryz.prog (w.iter ⟨#[97, 110, 110]⟩ 2) = .ok (.tuple #[.bool true, .int .i64 2, .int .i32 110]) (w.iter ⟨#[97, 110, 110]⟩ 3) := fun ty => run_next_ascii w _ 2 ty (by decide) (by decide)
  have n3 : ∀ ty, (Instr.next (.pointer (some ⟨w.heap.size, 0, none⟩)) true ty).run Tryz.prog (w.iter ⟨#[97, 110, 110]⟩ 3) = .ok (.tuple #[.bool false]) (w.iter ⟨#[97, 110, 110]⟩ 3) := fun ty => run_next_end w _ 3 ty (by decide)
  have t3 : Touch [] w (w.iter ⟨#[97, 110, 110]⟩ 3) := (Touch.refl [] w).alloc _
  have T3 := Lib.hid t3
  clear t3
  go_enter Tryz.func87, Tryz.ntmps87
  go_wp2
  refine wp_loop_rounds 4 ?_
  rw [rounds_succ]
  go_wp2_with (go_at_call 81; refine (bad_a _ _ (by decide) (by decide) (by decide)).mono ?_; rintro e w' ⟨rfl, rfl⟩)
  rw [rounds_succ]
  go_wp2_with (go_at_call 81; refine (bad_a _ _ (by decide) (by decide) (by decide)).mono ?_; rintro e w' ⟨rfl, rfl⟩)
  rw [rounds_succ]
  go_wp2_with (go_at_call 81; refine (bad_a _ _ (by decide) (by decide) (by decide)).mono ?_; rintro e w' ⟨rfl, rfl⟩)
  rw [rounds_succ]
  go_wp2_with fail
  go_ret
  exact ⟨rfl, T3.out⟩
theorem contains_ann (w : World) : Calls Tryz.prog 83 #[.string ⟨#[97, 110, 110]⟩, .func (.func 81) #[] #[]] w fun e w' => e = .returned (.bool false) ∧ Touch [] w w' := by
  have h : Calls Tryz.prog 86 #[.string ⟨#[97, 110, 110]⟩, .func (.func 81) #[] #[]] w fun e w' => e = .returned (.int .i64 (-1)) ∧ Touch [] w w' := by
    go_enter Tryz.func86, Tryz.ntmps86
    go_wp2_with (go_at_call 87; refine (index_ann _).mono ?_; rintro e w' ⟨rfl, t⟩)
    go_ret
    exact ⟨rfl, t⟩
  have H := Lib.hid h
  clear h
  go_enter Tryz.func83, Tryz.ntmps83
  go_wp2_with (go_at_call 86; refine H.out.mono ?_; rintro e w' ⟨rfl, t⟩)
  go_ret
  exact ⟨rfl, t⟩
theorem name_ann (w : World) : Calls Tryz.prog 55 #[.string ⟨#[97, 110, 110]⟩] w fun e w' => e = .returned (.int .i64 0) ∧ Touch [] w w' := by
  have h1 : ((⟨#[97, 110, 110]⟩ : ByteArray) == ⟨#[]⟩) = false := by decide
  have h2 : ((⟨#[97, 110, 110]⟩ : ByteArray) == ⟨#[46]⟩) = false := by decide
  have h3 : ((⟨#[97, 110, 110]⟩ : ByteArray) == ⟨#[46, 46]⟩) = false := by decide
  go_enter Tryz.func55, Tryz.ntmps55
  go_wp2_with (first | (go_at_call 82; refine (valid_ann _).mono ?_; rintro e w' ⟨rfl, rfl⟩) | (go_at_call 83; refine (contains_ann _).mono ?_; rintro e w2 ⟨rfl, t2⟩))
  go_ret
  exact ⟨rfl, t2⟩
theorem user_ann (w : World) : Calls Tryz.prog 33 #[.string ⟨#[97, 110, 110]⟩] w fun e w' => e = .returned (.int .i64 0) ∧ Touch [] w w' := by
  go_enter Tryz.func33, Tryz.ntmps33
  go_wp2_with (go_at_call 55; refine (name_ann _).mono ?_; rintro e w2 ⟨rfl, t2⟩)
  go_ret
  exact ⟨rfl, t2⟩
end Go.Proofs.YtppgeljlmckimaaGreatDoor
