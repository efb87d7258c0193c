/-
  The document's digest of a block: terms and names.
-/
import Derived.Test.YtodehmognjofhaaGreatQNShaC
namespace Go.Proofs.YtodehmognjofhaaGreat
open Go.RowKit

/-- where the words' names, and the rounds', stand. -/
def qW (i : Nat) : Nat := if i < 16 then 114 + 34 * i else 670 + 46 * (i - 16)
def qA (r : Nat) : Nat := 2892 + 59 * r
def Qn (i : Nat) : SV := nmS (qW i)
def orS (x y : SV) : SV := .ar .or .u32 x y
def qrot (x : SV) (n : Nat) : SV := orS (.sh .shr .u32 x n) (.sh .shl .u32 x (32 - n))
def qbyte (i k : Nat) : SV := .cv .u32 (.sym (.int .u8) (8 + 4 * i + k))
def qraw (i : Nat) : SV := orS (orS (orS (.sh .shl .u32 (qbyte i 0) 24) (.sh .shl .u32 (qbyte i 1) 16)) (.sh .shl .u32 (qbyte i 2) 8)) (qbyte i 3)
def qnext (w16 w7 x y : SV) : SV := addS (addS (addS w16 (xorS (xorS (qrot x 7) (qrot x 18)) (.sh .shr .u32 x 3))) w7) (xorS (xorS (qrot y 17) (qrot y 19)) (.sh .shr .u32 y 10))
def qtS (s : S8) (k : Nat) (x : SV) : SV := addS (addS (addS (addS s.h (xorS (xorS (qrot s.e 6) (qrot s.e 11)) (qrot s.e 25))) (xorS (andS s.e s.f) (andS (xorS (U32 4294967295) s.e) s.g))) (U32 k)) x
def quS (s : S8) : SV := addS (xorS (xorS (qrot s.a 2) (qrot s.a 13)) (qrot s.a 22)) (xorS (xorS (andS s.a s.b) (andS s.a s.c)) (andS s.b s.c))
/-- the rounds from r on: their names, and what stands there at the end. -/
def qrounds : List Nat → Nat → S8 → Log × S8
  | [], _, s => ([], s)
  | k :: ks, r, s =>
    let q := qrounds ks (r + 1) ⟨nmS (qA r), s.a, s.b, s.c, nmS (qA r + 1), s.e, s.f, s.g⟩
    ((qA r, .u32, addS (qtS s k (Qn r)) (quS s)) :: (qA r + 1, .u32, addS s.d (qtS s k (Qn r))) :: q.1, q.2)
def qLog : Log := (List.range 16).map (fun i => (qW i, .u32, qraw i)) ++ (List.range 48).map (fun j => (qW (16 + j), .u32, qnext (Qn j) (Qn (j + 9)) (Qn (j + 1)) (Qn (j + 14)))) ++ (qrounds kLit 0 s0S).1
def qEnd : List SV := let s := (qrounds kLit 0 s0S).2; [addS s.a (vS 0), addS s.b (vS 1), addS s.c (vS 2), addS s.d (vS 3), addS s.e (vS 4), addS s.f (vS 5), addS s.g (vS 6), addS s.h (vS 7)]
def qS : Smy where
  f := 173
  args := [.slc 0 0 8 8, .slc 1 0 64 64, .strs partS]
  blks := [⟨(List.range 8).map vS, 92, (List.range 8).map vS⟩, ⟨kLit.map U32, 92, kLit.map U32⟩]
  nx0 := 80
  log := qLog
  v := .slc 6608 0 8 8
end Go.Proofs.YtodehmognjofhaaGreat
