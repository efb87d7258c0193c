/-
  The known name 'ann': it may be a user's.
-/
import Derived.Test.YtppgeljlmckimaaDoorProg
import Derived.Test.YtppgeljlmckimaaDoorKit
import Derived.WalkLawsBesides
namespace Go.Proofs.YtppgeljlmckimaaDoor
open Go.RowKit

set_option maxRecDepth 100000 in
theorem valid_ann (w : World) : Calls Tryd.prog 39 #[.string ⟨#[97, 110, 110]⟩] w fun e w' => e = .returned (.bool true) ∧ w = w' := by
  go_enter Tryd.func39, Tryd.ntmps39
  go_wp2
  refine wp_loop_rounds 4 ?_
  rw [rounds_succ]
  go_wp2
  rw [rounds_succ]
  go_wp2
  rw [rounds_succ]
  go_wp2
  rw [rounds_succ]
  go_wp2
  go_ret
  exact ⟨rfl, rfl⟩

theorem bad_a (w : World) (x : Int) (h0 : decide (x < 32) = false) (h1 : (x == 127) = false) (h2 : (x == 47) = false) : Calls Tryd.prog 38 #[.int .i32 x] w fun e w' => e = .returned (.bool false) ∧ w = w' := by
  go_enter Tryd.func38, Tryd.ntmps38
  go_wp2
  go_ret
  exact ⟨rfl, rfl⟩

set_option maxRecDepth 100000 in
theorem index_ann (w : World) : Calls Tryd.prog 43 #[.string ⟨#[97, 110, 110]⟩, .func (.func 38) #[] #[], .bool true] w fun e w' => e = .returned (.int .i64 (-1)) ∧ Touch [] w w' := by
  have n0 : ∀ ty, (Instr.next (.pointer (some ⟨w.heap.size, 0, none⟩)) true ty).run Tryd.prog (w.iter ⟨#[97, 110, 110]⟩ 0) = .ok (.tuple #[.bool true, .int .i64 0, .int .i32 97]) (w.iter ⟨#[97, 110, 110]⟩ 1) := fun ty => run_next_ascii w _ 0 ty (by decide) (by decide)
  have n1 : ∀ ty, (Instr.next (.pointer (some ⟨w.heap.size, 0, none⟩)) true ty).run Tryd.prog (w.iter ⟨#[97, 110, 110]⟩ 1) = .ok (.tuple #[.bool true, .int .i64 1, .int .i32 110]) (w.iter ⟨#[97, 110, 110]⟩ 2) := fun ty => run_next_ascii w _ 1 ty (by decide) (by decide)
  have n2 : ∀ ty, (Instr.next (.pointer (some ⟨w.heap.size, 0, none⟩)) true ty).run Tryd.prog (w.iter ⟨#[97, 110, 110]⟩ 2) = .ok (.tuple #[.bool true, .int .i64 2, .int .i32 110]) (w.iter ⟨#[97, 110, 110]⟩ 3) := fun ty => run_next_ascii w _ 2 ty (by decide) (by decide)
  have n3 : ∀ ty, (Instr.next (.pointer (some ⟨w.heap.size, 0, none⟩)) true ty).run Tryd.prog (w.iter ⟨#[97, 110, 110]⟩ 3) = .ok (.tuple #[.bool false]) (w.iter ⟨#[97, 110, 110]⟩ 3) := fun ty => run_next_end w _ 3 ty (by decide)
  have t3 : Touch [] w (w.iter ⟨#[97, 110, 110]⟩ 3) := (Touch.refl [] w).alloc _
  have T3 := Lib.hid t3
  clear t3
  go_enter Tryd.func43, Tryd.ntmps43
  go_wp2
  refine wp_loop_rounds 4 ?_
  rw [rounds_succ]
  go_wp2_with (go_at_call 38; refine (bad_a _ _ (by decide) (by decide) (by decide)).mono ?_; rintro e w' ⟨rfl, rfl⟩)
  rw [rounds_succ]
  go_wp2_with (go_at_call 38; refine (bad_a _ _ (by decide) (by decide) (by decide)).mono ?_; rintro e w' ⟨rfl, rfl⟩)
  rw [rounds_succ]
  go_wp2_with (go_at_call 38; refine (bad_a _ _ (by decide) (by decide) (by decide)).mono ?_; rintro e w' ⟨rfl, rfl⟩)
  rw [rounds_succ]
  go_wp2_with fail
  go_ret
  exact ⟨rfl, T3.out⟩
theorem contains_ann (w : World) : Calls Tryd.prog 40 #[.string ⟨#[97, 110, 110]⟩, .func (.func 38) #[] #[]] w fun e w' => e = .returned (.bool false) ∧ Touch [] w w' := by
  have h : Calls Tryd.prog 42 #[.string ⟨#[97, 110, 110]⟩, .func (.func 38) #[] #[]] w fun e w' => e = .returned (.int .i64 (-1)) ∧ Touch [] w w' := by
    go_enter Tryd.func42, Tryd.ntmps42
    go_wp2_with (go_at_call 43; refine (index_ann _).mono ?_; rintro e w' ⟨rfl, t⟩)
    go_ret
    exact ⟨rfl, t⟩
  have H := Lib.hid h
  clear h
  go_enter Tryd.func40, Tryd.ntmps40
  go_wp2_with (go_at_call 42; refine H.out.mono ?_; rintro e w' ⟨rfl, t⟩)
  go_ret
  exact ⟨rfl, t⟩
theorem name_ann (w : World) : Calls Tryd.prog 37 #[.string ⟨#[97, 110, 110]⟩] w fun e w' => e = .returned (.int .i64 0) ∧ Touch [] w w' := by
  have h1 : ((⟨#[97, 110, 110]⟩ : ByteArray) == ⟨#[]⟩) = false := by decide
  have h2 : ((⟨#[97, 110, 110]⟩ : ByteArray) == ⟨#[46]⟩) = false := by decide
  have h3 : ((⟨#[97, 110, 110]⟩ : ByteArray) == ⟨#[46, 46]⟩) = false := by decide
  go_enter Tryd.func37, Tryd.ntmps37
  go_wp2_with (first | (go_at_call 39; refine (valid_ann _).mono ?_; rintro e w' ⟨rfl, rfl⟩) | (go_at_call 40; refine (contains_ann _).mono ?_; rintro e w2 ⟨rfl, t2⟩))
  go_ret
  exact ⟨rfl, t2⟩
theorem user_ann (w : World) : Calls Tryd.prog 32 #[.string ⟨#[97, 110, 110]⟩] w fun e w' => e = .returned (.int .i64 0) ∧ Touch [] w w' := by
  go_enter Tryd.func32, Tryd.ntmps32
  go_wp2_with (go_at_call 37; refine (name_ann _).mono ?_; rintro e w2 ⟨rfl, t2⟩)
  go_ret
  exact ⟨rfl, t2⟩
end Go.Proofs.YtppgeljlmckimaaDoor
