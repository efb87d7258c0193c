/-
  No cell of these rows narrows 'for every input' (looked for: loops, veiled, ifaces, maps, wideKeys, modest, calm, conditions, laid).
  DERIVED. THE GIVEN ROWS OF THIS SEAT. 3 by the template 'for every input the law returns true; each argument reads behind the call as it read before'; 0 by the template 'total and deterministic' (their statements: YtodehmognjofhaaGreatTotals.lean).
  GIVEN WITH THE SEED: the statements are not yours to turn. If you find one false, say at which input.
  Laid BY PROGRAM, IN A SANDBOX (cutbox-rows.mjs): the forced cells as the released guide's own fill.sh prints them over the translation 8ac9d9d76f041f64… (all of the seat's roots in one cut). By AI agents, Wed Nov 11 2026. No macro, syntax, notation, axiom, sorry.
-/
import Derived.Test.YtodehmognjofhaaGreatChecked
import GoSem.Claim
import GoSem.ClaimJoined
import GoSem.ClaimMapViews
import Derived.JoinedTies
import Derived.KernelRfl
namespace Go.Proofs.YtodehmognjofhaaGreat
/- THE CELL 'sum', in the pinned program and in every row, IS THE sha256 OF THE DUMP (.gsa) THAT YtodehmognjofhaaGreatProg.lean LOADS. Nothing in Lean hashes anything: it is a label: what it is worth is what the hold of that sum in a sandbox is worth. -/
noncomputable def Tryz.pinned : Pinned := { name := "ytodehmognjofhaagreat", sum := "8ac9d9d76f041f640e87611327d44ffc8a35c965a7e6ce6f0f0667439cf2003f", checked := Tryz.checked }
namespace Rows
def none {H : Type} : Left H := { results := [], args := [] }

/-- 'cofferlaw09.BlockPacks': WHATEVER THE INPUT: true; the input reads as it did. -/
def blockPacksSpec : ChangeSpec := { name := "blockPacks", fn := fun _ => fun
  | [d1, d2] => { results := [.lit (.bool true)], args := [d1, d2] }
  | _ => none }
def blockPacksRow : OpenClaim := { program := "ytodehmognjofhaagreat", sum := "8ac9d9d76f041f640e87611327d44ffc8a35c965a7e6ce6f0f0667439cf2003f", func := "coffer/cofferlaw09.BlockPacks", spec := "blockPacks", inPlace := ["internal/abi.NoEscape", "internal/bytealg.MakeNoZero"], unfollowed := true, recurses := true, apart := false }
def BlockPacksSaid : Prop := blockPacksRow.holds Tryz.pinned (OpenSpec.ofChange blockPacksSpec)

/-- ITS FALSE NEIGHBOUR: 'it returns false'. Refute it at one input. -/
def blockPacksWrong : ChangeSpec := { name := "blockPacks", fn := fun _ => fun
  | [d1, d2] => { results := [.lit (.bool false)], args := [d1, d2] }
  | _ => none }
def BlockPacksWrongFalsely : Prop := blockPacksRow.holds Tryz.pinned (OpenSpec.ofChange blockPacksWrong)

/-- 'cofferlaw09.BlockUnpacks': WHATEVER THE INPUT: true; the input reads as it did. -/
def blockUnpacksSpec : ChangeSpec := { name := "blockUnpacks", fn := fun _ => fun
  | [d1, d2, d3, d4] => { results := [.lit (.bool true)], args := [d1, d2, d3, d4] }
  | _ => none }
def blockUnpacksRow : OpenClaim := { program := "ytodehmognjofhaagreat", sum := "8ac9d9d76f041f640e87611327d44ffc8a35c965a7e6ce6f0f0667439cf2003f", func := "coffer/cofferlaw09.BlockUnpacks", spec := "blockUnpacks", inPlace := ["internal/abi.NoEscape", "internal/bytealg.MakeNoZero"], unfollowed := true, recurses := true, apart := false }
def BlockUnpacksSaid : Prop := blockUnpacksRow.holds Tryz.pinned (OpenSpec.ofChange blockUnpacksSpec)

/-- ITS FALSE NEIGHBOUR: 'it returns false'. Refute it at one input. -/
def blockUnpacksWrong : ChangeSpec := { name := "blockUnpacks", fn := fun _ => fun
  | [d1, d2, d3, d4] => { results := [.lit (.bool false)], args := [d1, d2, d3, d4] }
  | _ => none }
def BlockUnpacksWrongFalsely : Prop := blockUnpacksRow.holds Tryz.pinned (OpenSpec.ofChange blockUnpacksWrong)

/-- 'cofferlaw11.JournalCodes': WHATEVER THE INPUT: true; the input reads as it did. -/
def journalCodesSpec : ChangeSpec := { name := "journalCodes", fn := fun _ => fun
  | [d1, d2] => { results := [.lit (.bool true)], args := [d1, d2] }
  | _ => none }
def journalCodesRow : OpenClaim := { program := "ytodehmognjofhaagreat", sum := "8ac9d9d76f041f640e87611327d44ffc8a35c965a7e6ce6f0f0667439cf2003f", func := "coffer/cofferlaw11.JournalCodes", spec := "journalCodes", inPlace := ["internal/abi.NoEscape", "internal/bytealg.MakeNoZero"], unfollowed := true, recurses := true, apart := false }
def JournalCodesSaid : Prop := journalCodesRow.holds Tryz.pinned (OpenSpec.ofChange journalCodesSpec)

/-- ITS FALSE NEIGHBOUR: 'it returns false'. Refute it at one input. -/
def journalCodesWrong : ChangeSpec := { name := "journalCodes", fn := fun _ => fun
  | [d1, d2] => { results := [.lit (.bool false)], args := [d1, d2] }
  | _ => none }
def JournalCodesWrongFalsely : Prop := journalCodesRow.holds Tryz.pinned (OpenSpec.ofChange journalCodesWrong)

/- THE SECOND FORM. 'bulk': how many values and letters a reading holds, each counted each time it is reached (what is shared counts as often as it is met; a slice's spare places count too). A statement '..UptoSaid' is the law's where the arguments, and the package variables that the reading takes, are together of bulk at most 1048576: NARROWER than '..Said'. Prove '..Said' where nothing that the law and all that it calls make is longer than what came in: it says more and counts as full. Else prove '..UptoSaid'. A law counts once. -/
mutual
def uptoBulk {H : Type} : DataW H → Nat
  | .lit (.string bytes) => bytes.length + 1
  | .lit _ => 1
  | .nil => 1
  | .ptr d => uptoBulk d + 1
  | .slice elems spare => uptoBulkAll elems + uptoBulkAll spare + 1
  | .agg parts => uptoBulkAll parts + 1
  | .iface _ d => uptoBulk d + 1
  | .map entries => uptoBulkEntries entries + 1
  | .held _ => 1
def uptoBulkAll {H : Type} : List (DataW H) → Nat
  | [] => 0
  | d :: r => uptoBulk d + uptoBulkAll r
def uptoBulkEntries {H : Type} : List (Lit × DataW H) → Nat
  | [] => 0
  | x :: r => uptoBulkEntry x + uptoBulkEntries r
def uptoBulkEntry {H : Type} : Lit × DataW H → Nat
  | (.string bytes, d) => bytes.length + uptoBulk d + 1
  | (_, d) => uptoBulk d + 1
 end
def uptoSmall : (H : Type) → List (DataW H) → Bool := fun _ ds => decide (uptoBulkAll ds ≤ 1048576)
def OpenSpec.upto (s : _root_.Go.ChangeSpec) : _root_.Go.OpenSpec := { _root_.Go.OpenSpec.ofChange s with cond := some uptoSmall }

/-- 'cofferlaw09.BlockPacks', WHERE WHAT IT READS IS OF BULK AT MOST 1048576: true; the input reads as it did. -/
def blockPacksUptoRow : OpenClaim := { program := "ytodehmognjofhaagreat", sum := "8ac9d9d76f041f640e87611327d44ffc8a35c965a7e6ce6f0f0667439cf2003f", func := "coffer/cofferlaw09.BlockPacks", spec := "blockPacks", inPlace := ["internal/abi.NoEscape", "internal/bytealg.MakeNoZero"], unfollowed := true, recurses := true, apart := false, narrowed := true }
def BlockPacksUptoSaid : Prop := blockPacksUptoRow.holds Tryz.pinned (OpenSpec.upto blockPacksSpec)

/-- 'cofferlaw09.BlockUnpacks', WHERE WHAT IT READS IS OF BULK AT MOST 1048576: true; the input reads as it did. -/
def blockUnpacksUptoRow : OpenClaim := { program := "ytodehmognjofhaagreat", sum := "8ac9d9d76f041f640e87611327d44ffc8a35c965a7e6ce6f0f0667439cf2003f", func := "coffer/cofferlaw09.BlockUnpacks", spec := "blockUnpacks", inPlace := ["internal/abi.NoEscape", "internal/bytealg.MakeNoZero"], unfollowed := true, recurses := true, apart := false, narrowed := true }
def BlockUnpacksUptoSaid : Prop := blockUnpacksUptoRow.holds Tryz.pinned (OpenSpec.upto blockUnpacksSpec)

/-- 'cofferlaw11.JournalCodes', WHERE WHAT IT READS IS OF BULK AT MOST 1048576: true; the input reads as it did. -/
def journalCodesUptoRow : OpenClaim := { program := "ytodehmognjofhaagreat", sum := "8ac9d9d76f041f640e87611327d44ffc8a35c965a7e6ce6f0f0667439cf2003f", func := "coffer/cofferlaw11.JournalCodes", spec := "journalCodes", inPlace := ["internal/abi.NoEscape", "internal/bytealg.MakeNoZero"], unfollowed := true, recurses := true, apart := false, narrowed := true }
def JournalCodesUptoSaid : Prop := journalCodesUptoRow.holds Tryz.pinned (OpenSpec.upto journalCodesSpec)

end Rows
end Go.Proofs.YtodehmognjofhaaGreat
