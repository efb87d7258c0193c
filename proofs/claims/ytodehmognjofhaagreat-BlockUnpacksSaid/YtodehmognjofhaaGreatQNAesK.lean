/-
  The program's cipher: a key's rounds: the run.
-/
import Derived.Test.YtodehmognjofhaaGreatQNAesC
import Derived.Test.YtodehmognjofhaaGreatQEE
namespace Go.Proofs.YtodehmognjofhaaGreat
open Go.RowKit

noncomputable def newBody : Code := match Tryz.f95.body with
  | some c => c
  | none => .skip
noncomputable def newTail : Code := tail 7 newBody
def nR (r i : Nat) : Nat := 35 + 275 * r + (if i < 4 then 21 * i else 15 + 16 * i)
def Wr (r j : Nat) : SV := match r with
  | 0 => b8 j
  | r + 1 => nm8 (nR r j)
def POW : List Nat := [1, 2, 4, 8, 16, 32, 64, 128, 27, 54]
def ksT (r i : Nat) : SV := if i = 0 then xor8 (xor8 (Wr r 0) (.tab SUBL (Wr r 13))) (.int .u8 (.ofNat (POW.getD r 0))) else if i < 4 then xor8 (Wr r i) (.tab SUBL (Wr r (12 + (i + 1) % 4))) else xor8 (Wr r i) (nm8 (nR r (i - 4)))
def ksLog : Log := (List.range 10).flatMap fun r => (List.range 16).map fun i => (nR r i, .u8, ksT r i)
def ksEnd : List SV := (List.range 11).flatMap fun r => (List.range 16).map (Wr r)
def ksS : Smy where
  f := 0
  args := []
  blks := [⟨(List.range 176).map (fun _ => SV.int .u8 (.ofNat 0)) ++ tabB, 214, ksEnd ++ tabB⟩]
  nx0 := 16
  log := ksLog
  v := .tup []
def ksF : List (Nat × SV) := [(0, .strs ((List.range 16).map b8)), (4, .ptr 0 0)]
def ksR : List (Nat × SV) := [(2, .ptr 0 0), (3, .int .i64 0)]
set_option maxRecDepth 1000000 in
theorem ks_run : tailOk env0 (@aesI) 100000 158 16 ksS newTail ksF ksR = true := by decide +kernel
end Go.Proofs.YtodehmognjofhaaGreat
