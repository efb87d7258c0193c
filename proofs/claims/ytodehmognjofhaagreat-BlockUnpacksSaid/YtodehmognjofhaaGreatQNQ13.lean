/-
  The document's cipher: a block: the run.
-/
import Derived.Test.YtodehmognjofhaaGreatQNQP
import Derived.Test.YtodehmognjofhaaGreatQNAesC
namespace Go.Proofs.YtodehmognjofhaaGreat
open Go.RowKit

/-- where the names stand. -/
def qTt (r i : Nat) : Nat := 387 + 2212 * r + i
def qSt (r j : Nat) : Nat := if r < 9 then 2582 + 2212 * r + j else 20504 + j
def qPn (r j : Nat) : SV := match r with
  | 0 => xor8 (b8 j) (b8 (16 + j))
  | r + 1 => nm8 (qSt r j)
def qTn (r i : Nat) : SV := nm8 (qTt r i)
def qMx (r i : Nat) : SV := (List.range 4).foldl (fun e k => xor8 e (fac ((k + 4 - i % 4) % 4) (qTn r (i / 4 * 4 + k)))) (.int .u8 0)
def qEn (r j : Nat) : SV := xor8 (if r < 9 then qMx r j else qTn r j) (b8 (16 + 16 * (r + 1) + j))
def qbLog : Log := (List.range 10).flatMap fun r => (List.range 16).map (fun i => (qTt r i, .u8, .tab SUBL (qPn r ((i + i % 4 * 4) % 16)))) ++ (List.range 16).map (fun j => (qSt r j, .u8, qEn r j))
def qbEnd : List SV := (List.range 16).map fun j => nm8 (qSt 9 j)
set_option maxRecDepth 1000000 in
theorem qb_run : anyOk env0 rtIs 100000 61 13 qbLog 169 qbA [.cells qkC 9 true, .cells subC 5 false] 192 (.strs qbEnd) [(0, .cells qkC 9 true), (1, .cells subC 5 false)] = true := by decide +kernel
def qbV (rk s : List Nat) (i : Nat) : Option Value :=
  if i < big then (if i < 16 then some (.int .u8 ((s.getD i 0 : Nat) : Int)) else if i < 192 then some (.int .u8 ((rk.getD (i - 16) 0 : Nat) : Int)) else none)
  else if (i - big - 387) % 2212 < 16 then some (.int .u8 (((tF (stN rk s ((i - big - 387) / 2212))).getD ((i - big - 387) % 2212) 0 : Nat) : Int))
  else if (i - big - 387) % 2212 < 1000 then some (.int .u8 (((stN rk s ((i - big - 387) / 2212 + 1)).getD ((i - big - 387) % 2212 - 209) 0 : Nat) : Int))
  else some (.int .u8 (((stN rk s ((i - big - 387) / 2212 + 1)).getD ((i - big - 387) % 2212 - 2195) 0 : Nat) : Int))
section
variable {rk s : List Nat}
theorem qbV_s {i : Nat} (h : i < 16) : qbV rk s i = some (.int .u8 ((s.getD i 0 : Nat) : Int)) := by
  unfold qbV
  rw [if_pos (by unfold big; omega), if_pos h]
theorem qbV_k {i : Nat} (h : i < 176) : qbV rk s (16 + i) = some (.int .u8 ((rk.getD i 0 : Nat) : Int)) := by
  unfold qbV
  rw [if_pos (by unfold big; omega), if_neg (by omega), if_pos (by omega), Nat.add_sub_cancel_left]
theorem qbV_none {i : Nat} (h : 192 ≤ i) (h2 : i < big) : qbV rk s i = none := by
  unfold qbV
  rw [if_pos h2, if_neg (by omega), if_neg (by omega)]
theorem qbV_t {r i : Nat} (hr : r < 10) (hi : i < 16) : qbV rk s (big + qTt r i) = some (.int .u8 (((tF (stN rk s r)).getD i 0 : Nat) : Int)) := by
  unfold qbV qTt
  rw [if_neg (by omega), Nat.add_sub_cancel_left, show 387 + 2212 * r + i - 387 = 2212 * r + i by omega, show (2212 * r + i) % 2212 = i by omega, show (2212 * r + i) / 2212 = r by omega, if_pos (by omega)]
theorem qbV_n {r j : Nat} (hr : r < 10) (hj : j < 16) : qbV rk s (big + qSt r j) = some (.int .u8 (((stN rk s (r + 1)).getD j 0 : Nat) : Int)) := by
  unfold qbV qSt
  rw [if_neg (by omega), Nat.add_sub_cancel_left]
  by_cases h : r < 9
  · rw [if_pos h, show 2582 + 2212 * r + j - 387 = 2212 * r + (2195 + j) by omega, show (2212 * r + (2195 + j)) % 2212 = 2195 + j by omega, show (2212 * r + (2195 + j)) / 2212 = r by omega, if_neg (by omega), if_neg (by omega), Nat.add_sub_cancel_left]
  · obtain rfl : r = 9 := by omega
    rw [if_neg h, show 20504 + j - 387 = 2212 * 9 + (209 + j) by omega, show (2212 * 9 + (209 + j)) % 2212 = 209 + j by omega, show (2212 * 9 + (209 + j)) / 2212 = 9 by omega, if_neg (by omega), if_pos (by omega), Nat.add_sub_cancel_left]
variable (hs : Bytes s) (hk : Bytes rk) {ρ : Pl} (hval : ∀ i v, qbV rk s i = some v → ρ.val i = some v)
include hs hk hval
theorem qPn_ok {r j : Nat} (hr : r < 10) (hj : j < 16) : B ρ (qPn r j) ((stN rk s r).getD j 0) := by
  cases r with
  | zero =>
    have h1 : B ρ (b8 j) (s.getD j 0) := ⟨D.sym8 (hval _ _ (qbV_s hj)) (getD_lt hs (by decide) _), getD_lt hs (by decide) _⟩
    have h2 : B ρ (b8 (16 + j)) (rk.getD j 0) := ⟨D.sym8 (hval _ _ (qbV_k (by omega))) (getD_lt hk (by decide) _), getD_lt hk (by decide) _⟩
    show B ρ _ ((l16 _).getD j 0)
    rw [l16_get hj]
    exact h1.xor h2
  | succ r => exact ⟨D.sym8 (hval _ _ (qbV_n (by omega) hj)) (getD_lt (stN_bytes hk hs _) (by decide) _), getD_lt (stN_bytes hk hs _) (by decide) _⟩
omit hs hk in
theorem qTn_ok {r i : Nat} (hr : r < 10) (hi : i < 16) : B ρ (qTn r i) ((tF (stN rk s r)).getD i 0) := ⟨D.sym8 (hval _ _ (qbV_t hr hi)) (getD_lt (tF_bytes _) (by decide) _), getD_lt (tF_bytes _) (by decide) _⟩
theorem qtab_ok {r i : Nat} (hr : r < 10) (hi : i < 16) : B ρ (.tab SUBL (qPn r ((i + i % 4 * 4) % 16))) ((tF (stN rk s r)).getD i 0) := by
  have h := qPn_ok hs hk hval hr (j := (i + i % 4 * 4) % 16) (Nat.mod_lt _ (by decide))
  unfold tF
  rw [l16_get hi]
  exact ⟨h.1.tab8 (by rw [SUBL_len]; exact h.2) SUBL_lt, getD_lt SUBL_lt (by decide) _⟩
omit hs hk in
theorem qMx_ok {r i : Nat} (hr : r < 10) (hi : i < 16) : B ρ (qMx r i) ((mixF (tF (stN rk s r))).getD i 0) := by
  unfold mixF
  rw [l16_get hi]
  have h := fun k (hk : k < 4) => (qTn_ok (ρ := ρ) hval hr (i := i / 4 * 4 + k) (by omega)).fac ((k + 4 - i % 4) % 4)
  have h0 : B ρ (.int .u8 0) 0 := ⟨D.lit ρ .u8 0, by decide⟩
  exact (((h0.xor (h 0 (by decide))).xor (h 1 (by decide))).xor (h 2 (by decide))).xor (h 3 (by decide))
omit hs in
theorem qEn_ok {r j : Nat} (hr : r < 10) (hj : j < 16) : B ρ (qEn r j) ((stN rk s (r + 1)).getD j 0) := by
  have h2 : B ρ (b8 (16 + 16 * (r + 1) + j)) (rk.getD (16 * (r + 1) + j) 0) := by
    have e : 16 + 16 * (r + 1) + j = 16 + (16 * (r + 1) + j) := by omega
    rw [e]
    exact ⟨D.sym8 (hval _ _ (qbV_k (by omega))) (getD_lt hk (by decide) _), getD_lt hk (by decide) _⟩
  show B ρ _ ((l16 _).getD j 0)
  rw [l16_get hj]
  unfold qEn
  by_cases h : r < 9
  · rw [if_pos h, if_pos h]; exact (qMx_ok hval hr hj).xor h2
  · rw [if_neg h, if_neg h]; exact (qTn_ok hval hr hj).xor h2
omit hval in
theorem qb_lg (W0 : World) : @LgOk ⟨W0, qbV rk s⟩ (ofA qbLog).get := by
  intro m k e hm
  have hmem := ofA_mem hm
  unfold qbLog at hmem
  obtain ⟨r, hr, hmem⟩ := List.mem_flatMap.1 hmem
  have hr := List.mem_range.1 hr
  rcases List.mem_append.1 hmem with hmem | hmem
  · obtain ⟨i, hi, he⟩ := List.mem_map.1 hmem
    cases he
    have hi := List.mem_range.1 hi
    have h := qtab_ok hs hk (ρ := ⟨fun _ => none, qbV rk s⟩) (fun _ _ h => h) hr hi
    exact ⟨_, h.1, qbV_t hr hi, is8 h.2⟩
  · obtain ⟨j, hj, he⟩ := List.mem_map.1 hmem
    cases he
    have hj := List.mem_range.1 hj
    have h := qEn_ok hk (ρ := ⟨fun _ => none, qbV rk s⟩) (fun _ _ h => h) hr hj
    exact ⟨_, h.1, qbV_n hr hj, is8 h.2⟩
end
end Go.Proofs.YtodehmognjofhaaGreat
