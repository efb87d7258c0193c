/-
  The program's cipher: a key's rounds: what they come to.
-/
import Derived.Test.YtodehmognjofhaaGreatQNAesK
namespace Go.Proofs.YtodehmognjofhaaGreat
open Go.RowKit

def baseF (was : List Nat) (p j : Nat) : Nat := if j = 0 then (was.getD 0 0 ^^^ SUBL.getD (was.getD 13 0) 0) ^^^ p else was.getD j 0 ^^^ SUBL.getD (was.getD (12 + (j + 1) % 4) 0) 0
def nwF (was : List Nat) (p : Nat) : Nat → Nat → Nat
  | 0, j => baseF was p j
  | c + 1, j => was.getD (4 * (c + 1) + j) 0 ^^^ nwF was p c j
def rkN (key : List Nat) : Nat → List Nat
  | 0 => key
  | r + 1 => l16 fun i => nwF (rkN key r) (POW.getD r 0) (i / 4) (i % 4)
/-- a key's rounds. -/
def rkF (key : List Nat) : List Nat := (List.range 11).flatMap (rkN key)
theorem POW_lt : ∀ x ∈ POW, x < 256 := by decide
theorem nwF_lt {was : List Nat} (hw : Bytes was) {p : Nat} (hp : p < 256) : ∀ c j, nwF was p c j < 256
  | 0, j => by
    show baseF was p j < 256
    unfold baseF
    split
    · exact xlt (xlt (getD_lt hw (by decide) _) (getD_lt SUBL_lt (by decide) _)) hp
    · exact xlt (getD_lt hw (by decide) _) (getD_lt SUBL_lt (by decide) _)
  | c + 1, j => xlt (getD_lt hw (by decide) _) (nwF_lt hw hp c j)
theorem rkN_bytes {key : List Nat} (h : Bytes key) : ∀ r, Bytes (rkN key r)
  | 0 => h
  | r + 1 => l16_bytes fun i _ => nwF_lt (rkN_bytes h r) (getD_lt POW_lt (by decide) _) _ _
theorem rkN_len {key : List Nat} (h : key.length = 16) (r : Nat) : (rkN key r).length = 16 := by
  cases r with
  | zero => exact h
  | succ r => exact l16_len _
theorem rkF_bytes {key : List Nat} (h : Bytes key) : Bytes (rkF key) := by
  intro x hx
  obtain ⟨r, -, hx⟩ := List.mem_flatMap.1 hx
  exact rkN_bytes h r x hx
theorem rkF_len {key : List Nat} (h : key.length = 16) : (rkF key).length = 176 := by
  unfold rkF
  rw [List.length_flatMap]
  simp only [rkN_len h]
  rfl
def ksV (key : List Nat) (i : Nat) : Option Value :=
  if i < big then (if i < 16 then some (.int .u8 ((key.getD i 0 : Nat) : Int)) else none)
  else some (.int .u8 (((rkN key ((i - big - 35) / 275 + 1)).getD (if (i - big - 35) % 275 < 64 then (i - big - 35) % 275 / 21 else ((i - big - 35) % 275 - 15) / 16) 0 : Nat) : Int))
section
variable {key : List Nat}
theorem ksV_k {i : Nat} (h : i < 16) : ksV key i = some (.int .u8 ((key.getD i 0 : Nat) : Int)) := by
  unfold ksV
  rw [if_pos (by unfold big; omega), if_pos h]
theorem ksV_none {i : Nat} (h : 16 ≤ i) (h2 : i < big) : ksV key i = none := by
  unfold ksV
  rw [if_pos h2, if_neg (by omega)]
theorem ksV_n {r i : Nat} (hi : i < 16) : ksV key (big + nR r i) = some (.int .u8 (((rkN key (r + 1)).getD i 0 : Nat) : Int)) := by
  unfold ksV nR
  rw [if_neg (by omega), Nat.add_sub_cancel_left]
  by_cases h : i < 4
  · rw [if_pos h, show 35 + 275 * r + 21 * i - 35 = 275 * r + 21 * i by omega, show (275 * r + 21 * i) % 275 = 21 * i by omega, show (275 * r + 21 * i) / 275 = r by omega, if_pos (by omega), show 21 * i / 21 = i by omega]
  · rw [if_neg h, show 35 + 275 * r + (15 + 16 * i) - 35 = 275 * r + (15 + 16 * i) by omega, show (275 * r + (15 + 16 * i)) % 275 = 15 + 16 * i by omega, show (275 * r + (15 + 16 * i)) / 275 = r by omega, if_neg (by omega), show (15 + 16 * i - 15) / 16 = i by omega]
variable (hk : Bytes key) {ρ : Pl} (hval : ∀ i v, ksV key i = some v → ρ.val i = some v)
include hk hval
theorem Wr_ok {r j : Nat} (hj : j < 16) : B ρ (Wr r j) ((rkN key r).getD j 0) := by
  cases r with
  | zero => exact ⟨D.sym8 (hval _ _ (ksV_k hj)) (getD_lt hk (by decide) _), getD_lt hk (by decide) _⟩
  | succ r => exact ⟨D.sym8 (hval _ _ (ksV_n hj)) (getD_lt (rkN_bytes hk _) (by decide) _), getD_lt (rkN_bytes hk _) (by decide) _⟩
theorem Wtab_ok {r j : Nat} (hj : j < 16) : B ρ (.tab SUBL (Wr r j)) (SUBL.getD ((rkN key r).getD j 0) 0) := by
  have h := Wr_ok hk hval (r := r) hj
  exact ⟨h.1.tab8 (by rw [SUBL_len]; exact h.2) SUBL_lt, getD_lt SUBL_lt (by decide) _⟩
theorem ksT_ok {r i : Nat} (hi : i < 16) : B ρ (ksT r i) ((rkN key (r + 1)).getD i 0) := by
  show B ρ _ ((l16 _).getD i 0)
  rw [l16_get hi]
  unfold ksT
  by_cases h0 : i = 0
  · subst h0
    rw [if_pos rfl]
    show B ρ _ (baseF (rkN key r) (POW.getD r 0) 0)
    unfold baseF
    rw [if_pos rfl]
    exact ((Wr_ok hk hval (by decide)).xor (Wtab_ok hk hval (by decide))).xor ⟨D.lit ρ .u8 _, getD_lt POW_lt (by decide) _⟩
  · rw [if_neg h0]
    by_cases h4 : i < 4
    · rw [if_pos h4, show i / 4 = 0 by omega, show i % 4 = i by omega]
      show B ρ _ (baseF (rkN key r) (POW.getD r 0) i)
      unfold baseF
      rw [if_neg h0]
      exact (Wr_ok hk hval hi).xor (Wtab_ok hk hval (by omega))
    · rw [if_neg h4, show i / 4 = (i - 4) / 4 + 1 by omega]
      show B ρ _ ((rkN key r).getD (4 * ((i - 4) / 4 + 1) + i % 4) 0 ^^^ nwF (rkN key r) (POW.getD r 0) ((i - 4) / 4) (i % 4))
      rw [show 4 * ((i - 4) / 4 + 1) + i % 4 = i by omega]
      have h2 : B ρ (nm8 (nR r (i - 4))) ((rkN key (r + 1)).getD (i - 4) 0) := ⟨D.sym8 (hval _ _ (ksV_n (by omega))) (getD_lt (rkN_bytes hk _) (by decide) _), getD_lt (rkN_bytes hk _) (by decide) _⟩
      have e : (rkN key (r + 1)).getD (i - 4) 0 = nwF (rkN key r) (POW.getD r 0) ((i - 4) / 4) (i % 4) := by
        show (l16 _).getD (i - 4) 0 = _
        rw [l16_get (by omega), show (i - 4) % 4 = i % 4 by omega]
      rw [e] at h2
      exact (Wr_ok hk hval hi).xor h2
omit hval in
theorem ks_lg (W0 : World) : @LgOk ⟨W0, ksV key⟩ (ofA ksLog).get := by
  intro m k e hm
  have hmem := ofA_mem hm
  unfold ksLog at hmem
  obtain ⟨r, hr, hmem⟩ := List.mem_flatMap.1 hmem
  obtain ⟨i, hi, he⟩ := List.mem_map.1 hmem
  cases he
  have hi := List.mem_range.1 hi
  have h := ksT_ok hk (ρ := ⟨fun _ => none, ksV key⟩) (fun _ _ h => h) (r := r) hi
  exact ⟨_, h.1, ksV_n hi, is8 h.2⟩
theorem ksEnd_ok (hl : key.length = 16) : denL ρ ksEnd = some (bcells (rkF key)) := by
  have row : ∀ r, denL ρ ((List.range 16).map (Wr r)) = some (bcells (rkN key r)) := by
    intro r
    have : bcells (rkN key r) = (List.range 16).map fun i => Value.int .u8 (((rkN key r).getD i 0 : Nat) : Int) := by
      conv => lhs; rw [← map_getD (rkN_len hl r)]
      unfold bcells
      rw [List.map_map]; rfl
    rw [this]
    exact denL_map _ _ _ fun i hi => (Wr_ok hk hval (List.mem_range.1 hi)).1
  unfold ksEnd rkF
  generalize List.range 11 = L
  induction L with
  | nil => exact denL_nil _
  | cons r L ih =>
    rw [List.flatMap_cons, List.flatMap_cons, bcells_append]
    exact denL_append (row r) ih
end
end Go.Proofs.YtodehmognjofhaaGreat
