/-
  No cell of these rows narrows 'for every input' (looked for: loops, veiled, ifaces, maps, wideKeys, modest, calm, conditions, laid).
  DERIVED. THE GIVEN ROWS OF THIS SEAT. 7 by the template 'for every input the law returns true; each argument reads behind the call as it read before'; 0 by the template 'total and deterministic' (their statements: YtbeeeafjjkghgaaGreatTotals.lean).
  GIVEN WITH THE SEED: the statements are not yours to turn. If you find one false, say at which input.
  Laid BY PROGRAM, IN A SANDBOX (cutbox-rows.mjs): the forced cells as the released guide's own fill.sh prints them over the translation 21dfc842abe1f0a2… (all of the seat's roots in one cut). By AI agents, Wed Nov 11 2026. No macro, syntax, notation, axiom, sorry.
-/
import Derived.Test.YtbeeeafjjkghgaaGreatChecked
import GoSem.Claim
import GoSem.ClaimJoined
import GoSem.ClaimMapViews
import Derived.JoinedTies
import Derived.KernelRfl
namespace Go.Proofs.YtbeeeafjjkghgaaGreat
/- THE CELL 'sum', in the pinned program and in every row, IS THE sha256 OF THE DUMP (.gsa) THAT YtbeeeafjjkghgaaGreatProg.lean LOADS. Nothing in Lean hashes anything: it is a label: what it is worth is what the hold of that sum in a sandbox is worth. -/
noncomputable def Tryz.pinned : Pinned := { name := "ytbeeeafjjkghgaagreat", sum := "21dfc842abe1f0a21e2eced4630ee5dbbb21ffc57f2e4d4b445cdc1f7167ceb2", checked := Tryz.checked }
namespace Rows
def none {H : Type} : Left H := { results := [], args := [] }

/-- 'cofferlaw15.InodeNil': WHATEVER THE INPUT: true; the input reads as it did. -/
def inodeNilSpec : ChangeSpec := { name := "inodeNil", fn := fun _ => fun
  | [d1, d2] => { results := [.lit (.bool true)], args := [d1, d2] }
  | _ => none }
def inodeNilRow : OpenClaim := { program := "ytbeeeafjjkghgaagreat", sum := "21dfc842abe1f0a21e2eced4630ee5dbbb21ffc57f2e4d4b445cdc1f7167ceb2", func := "coffer/cofferlaw15.InodeNil", spec := "inodeNil", inPlace := ["internal/abi.NoEscape", "internal/bytealg.MakeNoZero"], unfollowed := true, recurses := true, apart := false }
def InodeNilSaid : Prop := inodeNilRow.holds Tryz.pinned (OpenSpec.ofChange inodeNilSpec)

/-- ITS FALSE NEIGHBOUR: 'it returns false'. Refute it at one input. -/
def inodeNilWrong : ChangeSpec := { name := "inodeNil", fn := fun _ => fun
  | [d1, d2] => { results := [.lit (.bool false)], args := [d1, d2] }
  | _ => none }
def InodeNilWrongFalsely : Prop := inodeNilRow.holds Tryz.pinned (OpenSpec.ofChange inodeNilWrong)

/-- 'cofferlaw16.FileNil': WHATEVER THE INPUT: true; the input reads as it did. -/
def fileNilSpec : ChangeSpec := { name := "fileNil", fn := fun _ => fun
  | [d1, d2] => { results := [.lit (.bool true)], args := [d1, d2] }
  | _ => none }
def fileNilRow : OpenClaim := { program := "ytbeeeafjjkghgaagreat", sum := "21dfc842abe1f0a21e2eced4630ee5dbbb21ffc57f2e4d4b445cdc1f7167ceb2", func := "coffer/cofferlaw16.FileNil", spec := "fileNil", inPlace := ["internal/abi.NoEscape", "internal/bytealg.MakeNoZero"], unfollowed := true, recurses := true, apart := false }
def FileNilSaid : Prop := fileNilRow.holds Tryz.pinned (OpenSpec.ofChange fileNilSpec)

/-- ITS FALSE NEIGHBOUR: 'it returns false'. Refute it at one input. -/
def fileNilWrong : ChangeSpec := { name := "fileNil", fn := fun _ => fun
  | [d1, d2] => { results := [.lit (.bool false)], args := [d1, d2] }
  | _ => none }
def FileNilWrongFalsely : Prop := fileNilRow.holds Tryz.pinned (OpenSpec.ofChange fileNilWrong)

/-- 'cofferlaw12.StoreNil': WHATEVER THE INPUT: true; the input reads as it did. -/
def storeNilSpec : ChangeSpec := { name := "storeNil", fn := fun _ => fun
  | [d1, d2] => { results := [.lit (.bool true)], args := [d1, d2] }
  | _ => none }
def storeNilRow : OpenClaim := { program := "ytbeeeafjjkghgaagreat", sum := "21dfc842abe1f0a21e2eced4630ee5dbbb21ffc57f2e4d4b445cdc1f7167ceb2", func := "coffer/cofferlaw12.StoreNil", spec := "storeNil", inPlace := ["internal/abi.NoEscape", "internal/bytealg.MakeNoZero", "maps.clone"], unfollowed := true, recurses := true, apart := false }
def StoreNilSaid : Prop := storeNilRow.holds Tryz.pinned (OpenSpec.ofChange storeNilSpec)

/-- ITS FALSE NEIGHBOUR: 'it returns false'. Refute it at one input. -/
def storeNilWrong : ChangeSpec := { name := "storeNil", fn := fun _ => fun
  | [d1, d2] => { results := [.lit (.bool false)], args := [d1, d2] }
  | _ => none }
def StoreNilWrongFalsely : Prop := storeNilRow.holds Tryz.pinned (OpenSpec.ofChange storeNilWrong)

/-- 'cofferlaw09.BlockPacks': WHATEVER THE INPUT: true; the input reads as it did. -/
def blockPacksSpec : ChangeSpec := { name := "blockPacks", fn := fun _ => fun
  | [d1, d2] => { results := [.lit (.bool true)], args := [d1, d2] }
  | _ => none }
def blockPacksRow : OpenClaim := { program := "ytbeeeafjjkghgaagreat", sum := "21dfc842abe1f0a21e2eced4630ee5dbbb21ffc57f2e4d4b445cdc1f7167ceb2", func := "coffer/cofferlaw09.BlockPacks", spec := "blockPacks", inPlace := ["internal/abi.NoEscape", "internal/bytealg.MakeNoZero"], unfollowed := true, recurses := true, apart := false }
def BlockPacksSaid : Prop := blockPacksRow.holds Tryz.pinned (OpenSpec.ofChange blockPacksSpec)

/-- ITS FALSE NEIGHBOUR: 'it returns false'. Refute it at one input. -/
def blockPacksWrong : ChangeSpec := { name := "blockPacks", fn := fun _ => fun
  | [d1, d2] => { results := [.lit (.bool false)], args := [d1, d2] }
  | _ => none }
def BlockPacksWrongFalsely : Prop := blockPacksRow.holds Tryz.pinned (OpenSpec.ofChange blockPacksWrong)

/-- 'cofferlaw09.BlockUnpacks': WHATEVER THE INPUT: true; the input reads as it did. -/
def blockUnpacksSpec : ChangeSpec := { name := "blockUnpacks", fn := fun _ => fun
  | [d1, d2, d3, d4] => { results := [.lit (.bool true)], args := [d1, d2, d3, d4] }
  | _ => none }
def blockUnpacksRow : OpenClaim := { program := "ytbeeeafjjkghgaagreat", sum := "21dfc842abe1f0a21e2eced4630ee5dbbb21ffc57f2e4d4b445cdc1f7167ceb2", func := "coffer/cofferlaw09.BlockUnpacks", spec := "blockUnpacks", inPlace := ["internal/abi.NoEscape", "internal/bytealg.MakeNoZero"], unfollowed := true, recurses := true, apart := false }
def BlockUnpacksSaid : Prop := blockUnpacksRow.holds Tryz.pinned (OpenSpec.ofChange blockUnpacksSpec)

/-- ITS FALSE NEIGHBOUR: 'it returns false'. Refute it at one input. -/
def blockUnpacksWrong : ChangeSpec := { name := "blockUnpacks", fn := fun _ => fun
  | [d1, d2, d3, d4] => { results := [.lit (.bool false)], args := [d1, d2, d3, d4] }
  | _ => none }
def BlockUnpacksWrongFalsely : Prop := blockUnpacksRow.holds Tryz.pinned (OpenSpec.ofChange blockUnpacksWrong)

/-- 'cofferlaw09.BlockBack': WHATEVER THE INPUT: true; the input reads as it did. -/
def blockBackSpec : ChangeSpec := { name := "blockBack", fn := fun _ => fun
  | [d1, d2, d3] => { results := [.lit (.bool true)], args := [d1, d2, d3] }
  | _ => none }
def blockBackRow : OpenClaim := { program := "ytbeeeafjjkghgaagreat", sum := "21dfc842abe1f0a21e2eced4630ee5dbbb21ffc57f2e4d4b445cdc1f7167ceb2", func := "coffer/cofferlaw09.BlockBack", spec := "blockBack", inPlace := ["internal/abi.NoEscape", "internal/bytealg.MakeNoZero"], unfollowed := true, recurses := true, apart := false }
def BlockBackSaid : Prop := blockBackRow.holds Tryz.pinned (OpenSpec.ofChange blockBackSpec)

/-- ITS FALSE NEIGHBOUR: 'it returns false'. Refute it at one input. -/
def blockBackWrong : ChangeSpec := { name := "blockBack", fn := fun _ => fun
  | [d1, d2, d3] => { results := [.lit (.bool false)], args := [d1, d2, d3] }
  | _ => none }
def BlockBackWrongFalsely : Prop := blockBackRow.holds Tryz.pinned (OpenSpec.ofChange blockBackWrong)

/-- 'cofferlaw11.JournalCodes': WHATEVER THE INPUT: true; the input reads as it did. -/
def journalCodesSpec : ChangeSpec := { name := "journalCodes", fn := fun _ => fun
  | [d1, d2] => { results := [.lit (.bool true)], args := [d1, d2] }
  | _ => none }
def journalCodesRow : OpenClaim := { program := "ytbeeeafjjkghgaagreat", sum := "21dfc842abe1f0a21e2eced4630ee5dbbb21ffc57f2e4d4b445cdc1f7167ceb2", func := "coffer/cofferlaw11.JournalCodes", spec := "journalCodes", inPlace := ["internal/abi.NoEscape", "internal/bytealg.MakeNoZero"], unfollowed := true, recurses := true, apart := false }
def JournalCodesSaid : Prop := journalCodesRow.holds Tryz.pinned (OpenSpec.ofChange journalCodesSpec)

/-- ITS FALSE NEIGHBOUR: 'it returns false'. Refute it at one input. -/
def journalCodesWrong : ChangeSpec := { name := "journalCodes", fn := fun _ => fun
  | [d1, d2] => { results := [.lit (.bool false)], args := [d1, d2] }
  | _ => none }
def JournalCodesWrongFalsely : Prop := journalCodesRow.holds Tryz.pinned (OpenSpec.ofChange journalCodesWrong)

/- THE SECOND FORM. 'bulk': how many values and letters a reading holds, each counted each time it is reached (what is shared counts as often as it is met; a slice's spare places count too). A statement '..UptoSaid' is the law's where the arguments, and the package variables that the reading takes, are together of bulk at most 1048576: NARROWER than '..Said'. Prove '..Said' where nothing that the law and all that it calls make is longer than what came in: it says more and counts as full. Else prove '..UptoSaid'. A law counts once. -/
mutual
def uptoBulk {H : Type} : DataW H → Nat
  | .lit (.string bytes) => bytes.length + 1
  | .lit _ => 1
  | .nil => 1
  | .ptr d => uptoBulk d + 1
  | .slice elems spare => uptoBulkAll elems + uptoBulkAll spare + 1
  | .agg parts => uptoBulkAll parts + 1
  | .iface _ d => uptoBulk d + 1
  | .map entries => uptoBulkEntries entries + 1
  | .held _ => 1
def uptoBulkAll {H : Type} : List (DataW H) → Nat
  | [] => 0
  | d :: r => uptoBulk d + uptoBulkAll r
def uptoBulkEntries {H : Type} : List (Lit × DataW H) → Nat
  | [] => 0
  | x :: r => uptoBulkEntry x + uptoBulkEntries r
def uptoBulkEntry {H : Type} : Lit × DataW H → Nat
  | (.string bytes, d) => bytes.length + uptoBulk d + 1
  | (_, d) => uptoBulk d + 1
 end
def uptoSmall : (H : Type) → List (DataW H) → Bool := fun _ ds => decide (uptoBulkAll ds ≤ 1048576)
def OpenSpec.upto (s : _root_.Go.ChangeSpec) : _root_.Go.OpenSpec := { _root_.Go.OpenSpec.ofChange s with cond := some uptoSmall }

/-- 'cofferlaw15.InodeNil', WHERE WHAT IT READS IS OF BULK AT MOST 1048576: true; the input reads as it did. -/
def inodeNilUptoRow : OpenClaim := { program := "ytbeeeafjjkghgaagreat", sum := "21dfc842abe1f0a21e2eced4630ee5dbbb21ffc57f2e4d4b445cdc1f7167ceb2", func := "coffer/cofferlaw15.InodeNil", spec := "inodeNil", inPlace := ["internal/abi.NoEscape", "internal/bytealg.MakeNoZero"], unfollowed := true, recurses := true, apart := false, narrowed := true }
def InodeNilUptoSaid : Prop := inodeNilUptoRow.holds Tryz.pinned (OpenSpec.upto inodeNilSpec)

/-- 'cofferlaw16.FileNil', WHERE WHAT IT READS IS OF BULK AT MOST 1048576: true; the input reads as it did. -/
def fileNilUptoRow : OpenClaim := { program := "ytbeeeafjjkghgaagreat", sum := "21dfc842abe1f0a21e2eced4630ee5dbbb21ffc57f2e4d4b445cdc1f7167ceb2", func := "coffer/cofferlaw16.FileNil", spec := "fileNil", inPlace := ["internal/abi.NoEscape", "internal/bytealg.MakeNoZero"], unfollowed := true, recurses := true, apart := false, narrowed := true }
def FileNilUptoSaid : Prop := fileNilUptoRow.holds Tryz.pinned (OpenSpec.upto fileNilSpec)

/-- 'cofferlaw12.StoreNil', WHERE WHAT IT READS IS OF BULK AT MOST 1048576: true; the input reads as it did. -/
def storeNilUptoRow : OpenClaim := { program := "ytbeeeafjjkghgaagreat", sum := "21dfc842abe1f0a21e2eced4630ee5dbbb21ffc57f2e4d4b445cdc1f7167ceb2", func := "coffer/cofferlaw12.StoreNil", spec := "storeNil", inPlace := ["internal/abi.NoEscape", "internal/bytealg.MakeNoZero", "maps.clone"], unfollowed := true, recurses := true, apart := false, narrowed := true }
def StoreNilUptoSaid : Prop := storeNilUptoRow.holds Tryz.pinned (OpenSpec.upto storeNilSpec)

/-- 'cofferlaw09.BlockPacks', WHERE WHAT IT READS IS OF BULK AT MOST 1048576: true; the input reads as it did. -/
def blockPacksUptoRow : OpenClaim := { program := "ytbeeeafjjkghgaagreat", sum := "21dfc842abe1f0a21e2eced4630ee5dbbb21ffc57f2e4d4b445cdc1f7167ceb2", func := "coffer/cofferlaw09.BlockPacks", spec := "blockPacks", inPlace := ["internal/abi.NoEscape", "internal/bytealg.MakeNoZero"], unfollowed := true, recurses := true, apart := false, narrowed := true }
def BlockPacksUptoSaid : Prop := blockPacksUptoRow.holds Tryz.pinned (OpenSpec.upto blockPacksSpec)

/-- 'cofferlaw09.BlockUnpacks', WHERE WHAT IT READS IS OF BULK AT MOST 1048576: true; the input reads as it did. -/
def blockUnpacksUptoRow : OpenClaim := { program := "ytbeeeafjjkghgaagreat", sum := "21dfc842abe1f0a21e2eced4630ee5dbbb21ffc57f2e4d4b445cdc1f7167ceb2", func := "coffer/cofferlaw09.BlockUnpacks", spec := "blockUnpacks", inPlace := ["internal/abi.NoEscape", "internal/bytealg.MakeNoZero"], unfollowed := true, recurses := true, apart := false, narrowed := true }
def BlockUnpacksUptoSaid : Prop := blockUnpacksUptoRow.holds Tryz.pinned (OpenSpec.upto blockUnpacksSpec)

/-- 'cofferlaw09.BlockBack', WHERE WHAT IT READS IS OF BULK AT MOST 1048576: true; the input reads as it did. -/
def blockBackUptoRow : OpenClaim := { program := "ytbeeeafjjkghgaagreat", sum := "21dfc842abe1f0a21e2eced4630ee5dbbb21ffc57f2e4d4b445cdc1f7167ceb2", func := "coffer/cofferlaw09.BlockBack", spec := "blockBack", inPlace := ["internal/abi.NoEscape", "internal/bytealg.MakeNoZero"], unfollowed := true, recurses := true, apart := false, narrowed := true }
def BlockBackUptoSaid : Prop := blockBackUptoRow.holds Tryz.pinned (OpenSpec.upto blockBackSpec)

/-- 'cofferlaw11.JournalCodes', WHERE WHAT IT READS IS OF BULK AT MOST 1048576: true; the input reads as it did. -/
def journalCodesUptoRow : OpenClaim := { program := "ytbeeeafjjkghgaagreat", sum := "21dfc842abe1f0a21e2eced4630ee5dbbb21ffc57f2e4d4b445cdc1f7167ceb2", func := "coffer/cofferlaw11.JournalCodes", spec := "journalCodes", inPlace := ["internal/abi.NoEscape", "internal/bytealg.MakeNoZero"], unfollowed := true, recurses := true, apart := false, narrowed := true }
def JournalCodesUptoSaid : Prop := journalCodesUptoRow.holds Tryz.pinned (OpenSpec.upto journalCodesSpec)

end Rows
end Go.Proofs.YtbeeeafjjkghgaaGreat
