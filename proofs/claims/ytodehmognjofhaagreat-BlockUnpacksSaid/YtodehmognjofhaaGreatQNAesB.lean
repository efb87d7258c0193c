/-
  The program's cipher: a block: the run.
-/
import Derived.Test.YtodehmognjofhaaGreatQNAesD
namespace Go.Proofs.YtodehmognjofhaaGreat
open Go.RowKit

def b8 (i : Nat) : SV := .sym (.int .u8) i
def nm8 (i : Nat) : SV := .sym (.int .u8) (big + i)
/-- where the names stand. -/
def nT (r i : Nat) : Nat := 366 + 1857 * r + 17 * i
def nS (r j : Nat) : Nat := if r < 9 then 2190 + 1857 * r + j else 17491 + j
def Pn (r j : Nat) : SV := match r with
  | 0 => xor8 (b8 j) (b8 (16 + j))
  | r + 1 => nm8 (nS r j)
def Tn (r i : Nat) : SV := nm8 (nT r i)
def fac (i : Nat) (y : SV) : SV := if i = 0 then twS y else if i = 1 then xor8 (twS y) y else y
def mixed (r i : Nat) : SV := (List.range 4).foldl (fun e k => xor8 e (fac ((k + 4 - i % 4) % 4) (Tn r (i / 4 * 4 + k)))) (.int .u8 0)
def sEnd (r j : Nat) : SV := xor8 (if r < 9 then mixed r j else Tn r j) (b8 (16 + 16 * (r + 1) + j))
def aesLog : Log := (List.range 10).flatMap fun r => (List.range 16).map (fun i => (nT r i, .u8, .tab SUBL (Pn r ((i + i % 4 * 4) % 16)))) ++ (List.range 16).map (fun j => (nS r j, .u8, sEnd r j))
def tabB : List SV := (SUBL ++ UNSUBL).map (fun n => SV.int .u8 (.ofNat n)) ++ [.bool true]
def cSV : List SV := (List.range 176).map (fun i => b8 (16 + i)) ++ tabB
def aesS : Smy where
  f := 166
  args := [.ptr 0 0, .agg ((List.range 16).map b8)]
  blks := [⟨cSV, 214, cSV⟩]
  nx0 := 192
  log := aesLog
  v := .agg ((List.range 16).map fun j => nm8 (nS 9 j))
set_option maxRecDepth 1000000 in
theorem aes_run : genOk env0 (@aesI) 100000 52 8 aesS [] = true := by decide +kernel
end Go.Proofs.YtodehmognjofhaaGreat
