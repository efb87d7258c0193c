/-
  No function of the program starts a goroutine.
-/
import Derived.Test.YtpbikmlfhipckaaGreatDoorChecked
import Derived.KernelRfl
import GoSem.ClaimGoes
namespace Go.Proofs.YtpbikmlfhipckaaGreatDoor

theorem goes_none {P : Program} (h : P.funcs.toList.any Func.goes = false) (c : OpenClaim) (hs : c.start = .entering) : false = c.goesBy P := by
  have h0 : ∀ fn ∈ P.funcs.toList, fn.goes = false := fun fn hf => by
    have := List.any_eq_false.1 h fn hf
    simpa using this
  have h1 : P.funcs.any Func.goes = false := by
    rw [← Array.any_toList]; exact h
  have h2 : ∀ f, P.goes f = false := by
    intro f
    unfold Program.goes
    rw [h1, Bool.and_false, Bool.or_false]
    have h3 : ∀ g : Nat, ((P.funcs[g]?).any Func.goes) = false := by
      intro g
      cases hg : P.funcs[g]? with
      | none => rfl
      | some fn =>
        have hm : fn ∈ P.funcs.toList := by
          rw [← Array.getElem?_toList] at hg
          exact List.mem_of_getElem? hg
        exact h0 fn hm
    simp [h3]
  unfold OpenClaim.goesBy Program.goesAt Program.goesFrom
  rw [hs]
  cases P.funcNamed c.func with
  | none => rfl
  | some f => simp [h2]
set_option maxRecDepth 1000000 in
theorem goes_all : Tryz.prog.funcs.toList.any Func.goes = false := by kernel_rfl
end Go.Proofs.YtpbikmlfhipckaaGreatDoor
