/-
  The document's cipher: a key's rounds: the terms.
-/
import Derived.Test.YtodehmognjofhaaGreatQNQT
import Derived.Test.YtodehmognjofhaaGreatQNAesR
import Derived.Test.YtodehmognjofhaaGreatQEF
import Derived.Test.YtodehmognjofhaaGreatQNAesB
namespace Go.Proofs.YtodehmognjofhaaGreat
open Go.RowKit

def qksA : List SV := [.strs ((List.range 16).map b8), .slc 0 0 256 256]
def subC : List SV := [.chk 256 SUBL]
noncomputable def qksM : T SObj := memS [.cells subC 5 false] 0 .leaf
end Go.Proofs.YtodehmognjofhaaGreat

namespace Go.Proofs.YtodehmognjofhaaGreat
open Go.RowKit

/-- where the names stand. -/
def nQ (r i : Nat) : Nat := 67 + 357 * r + 82 * (i / 4) + 20 * (i % 4)
def QW (r j : Nat) : SV := match r with
  | 0 => b8 j
  | r + 1 => nm8 (nQ r j)
def qksT (r i : Nat) : SV := if i = 0 then xor8 (QW r 0) (xor8 (.tab SUBL (QW r 13)) (.int .u8 (.ofNat (POW.getD r 0)))) else if i < 4 then xor8 (QW r i) (.tab SUBL (QW r (12 + (i + 1) % 4))) else xor8 (QW r i) (nm8 (nQ r (i - 4)))
def qksLog : Log := (List.range 10).flatMap fun r => (List.range 16).map fun i => (nQ r i, .u8, qksT r i)
def qksEnd : List SV := (List.range 11).map fun r => .strs ((List.range 16).map (QW r))
set_option maxRecDepth 1000000 in
theorem qks_run : anyOk env0 rtIs 100000 93 10 qksLog 168 qksA [.cells subC 5 false] 16 (.slu 3608 0 11 0) [(0, .cells subC 5 false), (3608, .cells qksEnd 9 true)] = true := by decide +kernel
end Go.Proofs.YtodehmognjofhaaGreat

namespace Go.Proofs.YtodehmognjofhaaGreat
open Go.RowKit

def qkV (key : List Nat) (i : Nat) : Option Value :=
  if i < big then (if i < 16 then some (.int .u8 ((key.getD i 0 : Nat) : Int)) else none)
  else some (.int .u8 (((rkN key ((i - big - 67) / 357 + 1)).getD (4 * ((i - big - 67) % 357 / 82) + (i - big - 67) % 357 % 82 / 20) 0 : Nat) : Int))
section
variable {key : List Nat}
theorem qkV_k {i : Nat} (h : i < 16) : qkV key i = some (.int .u8 ((key.getD i 0 : Nat) : Int)) := by
  unfold qkV
  rw [if_pos (by unfold big; omega), if_pos h]
theorem qkV_none {i : Nat} (h : 16 ≤ i) (h2 : i < big) : qkV key i = none := by
  unfold qkV
  rw [if_pos h2, if_neg (by omega)]
theorem qkV_n {r i : Nat} (hi : i < 16) : qkV key (big + nQ r i) = some (.int .u8 (((rkN key (r + 1)).getD i 0 : Nat) : Int)) := by
  unfold qkV nQ
  rw [if_neg (by omega), Nat.add_sub_cancel_left, show 67 + 357 * r + 82 * (i / 4) + 20 * (i % 4) - 67 = 357 * r + (82 * (i / 4) + 20 * (i % 4)) by omega, show (357 * r + (82 * (i / 4) + 20 * (i % 4))) % 357 = 82 * (i / 4) + 20 * (i % 4) by omega, show (357 * r + (82 * (i / 4) + 20 * (i % 4))) / 357 = r by omega, show (82 * (i / 4) + 20 * (i % 4)) / 82 = i / 4 by omega, show (82 * (i / 4) + 20 * (i % 4)) % 82 = 20 * (i % 4) by omega, show 4 * (i / 4) + 20 * (i % 4) / 20 = i by omega]
variable (hk : Bytes key) {ρ : Pl} (hval : ∀ i v, qkV key i = some v → ρ.val i = some v)
include hk hval
theorem QW_ok {r j : Nat} (hj : j < 16) : B ρ (QW r j) ((rkN key r).getD j 0) := by
  cases r with
  | zero => exact ⟨D.sym8 (hval _ _ (qkV_k hj)) (getD_lt hk (by decide) _), getD_lt hk (by decide) _⟩
  | succ r => exact ⟨D.sym8 (hval _ _ (qkV_n hj)) (getD_lt (rkN_bytes hk _) (by decide) _), getD_lt (rkN_bytes hk _) (by decide) _⟩
theorem QWtab_ok {r j : Nat} (hj : j < 16) : B ρ (.tab SUBL (QW r j)) (SUBL.getD ((rkN key r).getD j 0) 0) := by
  have h := QW_ok hk hval (r := r) hj
  exact ⟨h.1.tab8 (by rw [SUBL_len]; exact h.2) SUBL_lt, getD_lt SUBL_lt (by decide) _⟩
theorem qksT_ok {r i : Nat} (hi : i < 16) : B ρ (qksT r i) ((rkN key (r + 1)).getD i 0) := by
  show B ρ _ ((l16 _).getD i 0)
  rw [l16_get hi]
  unfold qksT
  by_cases h0 : i = 0
  · subst h0
    rw [if_pos rfl]
    show B ρ _ (baseF (rkN key r) (POW.getD r 0) 0)
    unfold baseF
    rw [if_pos rfl]
    rw [Nat.xor_assoc]
    exact (QW_ok hk hval (by decide)).xor ((QWtab_ok hk hval (by decide)).xor ⟨D.lit ρ .u8 _, getD_lt POW_lt (by decide) _⟩)
  · rw [if_neg h0]
    by_cases h4 : i < 4
    · rw [if_pos h4, show i / 4 = 0 by omega, show i % 4 = i by omega]
      show B ρ _ (baseF (rkN key r) (POW.getD r 0) i)
      unfold baseF
      rw [if_neg h0]
      exact (QW_ok hk hval hi).xor (QWtab_ok hk hval (by omega))
    · rw [if_neg h4, show i / 4 = (i - 4) / 4 + 1 by omega]
      show B ρ _ ((rkN key r).getD (4 * ((i - 4) / 4 + 1) + i % 4) 0 ^^^ nwF (rkN key r) (POW.getD r 0) ((i - 4) / 4) (i % 4))
      rw [show 4 * ((i - 4) / 4 + 1) + i % 4 = i by omega]
      have h2 : B ρ (nm8 (nQ r (i - 4))) ((rkN key (r + 1)).getD (i - 4) 0) := ⟨D.sym8 (hval _ _ (qkV_n (by omega))) (getD_lt (rkN_bytes hk _) (by decide) _), getD_lt (rkN_bytes hk _) (by decide) _⟩
      have e : (rkN key (r + 1)).getD (i - 4) 0 = nwF (rkN key r) (POW.getD r 0) ((i - 4) / 4) (i % 4) := by
        show (l16 _).getD (i - 4) 0 = _
        rw [l16_get (by omega), show (i - 4) % 4 = i % 4 by omega]
      rw [e] at h2
      exact (QW_ok hk hval hi).xor h2
omit hval in
theorem qks_lg (W0 : World) : @LgOk ⟨W0, qkV key⟩ (ofA qksLog).get := by
  intro m k e hm
  have hmem := ofA_mem hm
  unfold qksLog at hmem
  obtain ⟨r, hr, hmem⟩ := List.mem_flatMap.1 hmem
  obtain ⟨i, hi, he⟩ := List.mem_map.1 hmem
  cases he
  have hi := List.mem_range.1 hi
  have h := qksT_ok hk (ρ := ⟨fun _ => none, qkV key⟩) (fun _ _ h => h) (r := r) hi
  exact ⟨_, h.1, qkV_n hi, is8 h.2⟩
theorem qkRow (hl : key.length = 16) (r : Nat) : den ρ (.strs ((List.range 16).map (QW r))) = some (.string (bytesOf (rkN key r))) := by
  refine den_strs_mk ?_ (rkN_bytes hk r)
  have : (rkN key r).map (fun (z : Nat) => Value.int .u8 (z : Int)) = (List.range 16).map fun i => Value.int .u8 (((rkN key r).getD i 0 : Nat) : Int) := by
    conv => lhs; rw [← map_getD (rkN_len hl r)]
    rw [List.map_map]; rfl
  rw [this]
  exact denL_map _ _ _ fun i hi => (QW_ok hk hval (List.mem_range.1 hi)).1
theorem qkEnd (hl : key.length = 16) : denL ρ qksEnd = some ((List.range 11).map fun r => Value.string (bytesOf (rkN key r))) := denL_map _ _ _ fun r _ => qkRow hk hval hl r
end
/-- the round keys in memory. -/
def KeysAt (w : World) (kb cap : Nat) (key : List Nat) : Prop := ∃ (arr : Array Value) (z : Nat × Nat), w.heap[kb]? = some (.cells arr 9 z) ∧ arr.toList.take 11 = ((List.range 11).map fun r => Value.string (bytesOf (rkN key r))) ∧ arr.size = cap ∧ 11 ≤ cap ∧ ∀ i, i < arr.size → ¬ (z.1 ≤ i ∧ i < z.2)
theorem KeysAt.lt {w : World} {kb cap : Nat} {key : List Nat} (h : KeysAt w kb cap key) : kb < w.heap.size := by
  obtain ⟨arr, z, h1, -⟩ := h
  exact (Array.getElem?_eq_some_iff.1 h1).1
theorem KeysAt.touch {w w' : World} {kb cap : Nat} {key : List Nat} {l : List Nat} (h : KeysAt w kb cap key) (t : Touch l w w') (hn : kb ∉ l) : KeysAt w' kb cap key := by
  have hl := h.lt
  obtain ⟨arr, z, h1, h2⟩ := h
  exact ⟨arr, z, (t.block kb hl hn).trans h1, h2⟩
theorem subObj {w : World} {sb : Nat} (hS : At w sb 5 (bcells SUBL)) (ρ : Pl) (x : Nat) : ∃ ob, w.heap[sb]? = some ob ∧ ObjRel Tryz.prog ρ (sb, x) (.cells subC 5 false) ob := by
  refine ⟨_, hS, rfl, ⟨bcells SUBL, ?_, by simp⟩, ⟨fun i _ => by simp, fun _ => rfl⟩, rfl⟩
  refine denC_cons.2 ⟨bcells SUBL, [], ?_, denC_nil _, by simp⟩
  show (if SUBL.length = 256 ∧ SUBL.all (fun x => decide (x < 256)) = true then some (u8V SUBL) else none) = _
  rw [if_pos ⟨SUBL_len, by decide +kernel⟩, u8V_bcells]
theorem obj_sub {w : World} {x : Nat × Nat} {ρ : Pl} {ob : Obj} (hw : w.heap[x.1]? = some ob) (h : ObjRel Tryz.prog ρ x (.cells subC 5 false) ob) : At w x.1 5 (bcells SUBL) := by
  obtain ⟨us, h1, h2⟩ := obj_atC hw h
  have hd : denC ρ subC = some (bcells SUBL) := by
    refine denC_cons.2 ⟨bcells SUBL, [], ?_, denC_nil _, by simp⟩
    show (if SUBL.length = 256 ∧ SUBL.all (fun x => decide (x < 256)) = true then some (u8V SUBL) else none) = _
    rw [if_pos ⟨SUBL_len, by decide +kernel⟩, u8V_bcells]
  rw [hd] at h1
  cases h1
  exact h2
theorem cells_string : Tryz.prog.cellsOf 9 = 1 := by kernel_rfl
theorem den_slu_some {ρ : Pl} {b o n k : Nat} {u : Value} {p : Nat × Nat} (h : den ρ (.slu b o n k) = some u) (hb : ρ b = some p) : n + k ≤ p.2 ∧ u = .slice (some ⟨p.1, o, none⟩) n (p.2 - k) := by
  unfold den at h
  rw [hb, Option.bind_some] at h
  split at h
  · cases h; exact ⟨by assumption, rfl⟩
  · cases h
theorem den_sluq {ρ : Pl} {b n : Nat} {p : Nat × Nat} (hb : ρ b = some p) (h : n ≤ p.2) : den ρ (.slu b 0 n 0) = some (.slice (some ⟨p.1, 0, none⟩) n p.2) := by
  unfold den
  rw [hb, Option.bind_some, if_pos (by omega)]; rfl
theorem touch_same {w w' : World} {b : Nat} (h : Touch [b] w w') (e : w'.heap[b]? = w.heap[b]?) : Touch [] w w' := by
  refine ⟨h.os, h.tape, h.output, h.size, fun k h1 _ => ?_⟩
  by_cases hk : k = b
  · subst hk; exact e
  · exact h.block k h1 (by simpa using hk)
set_option maxRecDepth 100000 in
theorem rrounds_any (w : World) (sb : Nat) (key : ByteArray) (hk : key.size = 16) (hS : At w sb 5 (bcells SUBL)) :
    Calls Tryz.prog 168 #[.string key, .slice (some ⟨sb, 0, none⟩) 256 256] w fun e w' => ∃ kb cap, e = .returned (.slice (some ⟨kb, 0, none⟩) 11 cap) ∧ w.heap.size ≤ kb ∧ Touch [] w w' ∧ KeysAt w' kb cap (bsOf key) := by
  have hkb := bsOf_bytes key
  have hkl : (bsOf key).length = 16 := by rw [bsOf_len, hk]
  have hst : key = bytesOf (bsOf key) := (bytesOf_bsOf key).symm
  generalize bsOf key = k at hkb hkl hst
  subst hst
  have hin : denL (plA [(sb, 256)] (qkV k)) ((List.range 16).map b8) = some (k.map fun (z : Nat) => Value.int .u8 (z : Int)) := by
    have : (k.map fun (z : Nat) => Value.int .u8 (z : Int)) = (List.range 16).map fun i => Value.int .u8 ((k.getD i 0 : Nat) : Int) := by
      conv => lhs; rw [← map_getD hkl]
      rw [List.map_map]; rfl
    rw [this]
    exact denL_map _ _ _ fun i hi => D.sym8 (qkV_k (List.mem_range.1 hi)) (getD_lt hkb (by decide) i)
  have h1 := any_run envOk (fun {_} => rtIs_ok) qks_run (by decide) (qkV k) (fun b h1 h2 => qkV_none h1 h2) (qks_lg hkb) w (bl := [(sb, 256)]) rfl (by simp) ?_
    (us := [.string (bytesOf k), .slice (some ⟨sb, 0, none⟩) 256 256]) (denL_cons.2 ⟨_, _, den_strs_mk hin hkb, denL_cons.2 ⟨_, _, den_slc_mk (x := (sb, 256)) rfl _ _ _, denL_nil _, rfl⟩, rfl⟩)
  · refine h1.mono ?_
    rintro e w' ⟨ρ', u, rfl, l1, l2, l3, l4⟩
    obtain ⟨y0, ob0, a1, a2, a3, -⟩ := l4 (0, .cells subC 5 false) (by simp)
    obtain ⟨y1, ob1, c1, c2, c3, c4⟩ := l4 (3608, .cells qksEnd 9 true) (by simp)
    have e0 : ρ' 0 = some (sb, 256) := l1.le 0 (sb, 256) rfl
    rw [show ρ' 0 = some y0 from a1] at e0
    cases e0
    have hS' := obj_sub a2 a3
    cases ob1 with
    | cells arr e' z =>
      obtain ⟨rfl, ⟨us, d1, d2⟩, d3, -⟩ := c3
      rw [denC_of_L (by decide)] at d1
      have d4 := qkEnd hkb l1.val hkl
      rw [d1] at d4
      cases d4
      rw [if_pos rfl] at d2
      simp only [List.length_map, List.length_range] at d2
      rw [cells_string, Nat.mul_one] at d2
      obtain ⟨q1, q2⟩ := den_slu_some l2 c1
      obtain rfl := q2
      exact ⟨y1.1, y1.2, rfl, c4.resolve_right (by simp), touch_same l3 (hS'.trans hS.symm), arr, z, c2, d2.1, d2.2, by omega, d3.1⟩
    | _ => exact c3.elim
  · intro j y o hj ho
    match j with
    | 0 => cases hj; cases ho; exact subObj hS _ _
    | j + 1 => simp at hj
end Go.Proofs.YtodehmognjofhaaGreat

namespace Go.Proofs.YtodehmognjofhaaGreat
open Go.RowKit

def qkC : List SV := (List.range 11).map fun r => .strs ((List.range 16).map fun j => b8 (16 + 16 * r + j))
def qbA : List SV := [.slu 0 0 11 0, .slc 1 0 256 256, .strs ((List.range 16).map b8)]
noncomputable def qbM : T SObj := memS [.cells qkC 9 true, .cells subC 5 false] 0 .leaf
end Go.Proofs.YtodehmognjofhaaGreat
