/-
  The program's cipher: a block: what it comes to.
-/
import Derived.Test.YtodehmognjofhaaGreatQNAesB
namespace Go.Proofs.YtodehmognjofhaaGreat
open Go.RowKit

def l16 (f : Nat → Nat) : List Nat := (List.range 16).map f
theorem l16_get {f : Nat → Nat} {i : Nat} (h : i < 16) : (l16 f).getD i 0 = f i := by
  unfold l16
  rw [List.getD_eq_getElem?_getD, List.getElem?_map, List.getElem?_range h]; rfl
theorem l16_len (f : Nat → Nat) : (l16 f).length = 16 := by simp [l16]
def facN (i y : Nat) : Nat := if i = 0 then xt y else if i = 1 then xt y ^^^ y else y
def tF (s : List Nat) : List Nat := l16 fun i => SUBL.getD (s.getD ((i + i % 4 * 4) % 16) 0) 0
def mixF (t : List Nat) : List Nat := l16 fun i => (((0 ^^^ facN ((0 + 4 - i % 4) % 4) (t.getD (i / 4 * 4 + 0) 0)) ^^^ facN ((1 + 4 - i % 4) % 4) (t.getD (i / 4 * 4 + 1) 0)) ^^^ facN ((2 + 4 - i % 4) % 4) (t.getD (i / 4 * 4 + 2) 0)) ^^^ facN ((3 + 4 - i % 4) % 4) (t.getD (i / 4 * 4 + 3) 0)
def stN (rk s : List Nat) : Nat → List Nat
  | 0 => l16 fun j => s.getD j 0 ^^^ rk.getD j 0
  | r + 1 => l16 fun j => (if r < 9 then mixF (tF (stN rk s r)) else tF (stN rk s r)).getD j 0 ^^^ rk.getD (16 * (r + 1) + j) 0
/-- a block enciphered, by the rounds' keys. -/
def aesF (rk s : List Nat) : List Nat := stN rk s 10
theorem SUBL_lt : ∀ x ∈ SUBL, x < 256 := by decide +kernel
theorem SUBL_len : SUBL.length = 256 := by decide +kernel
theorem UNSUBL_lt : ∀ x ∈ UNSUBL, x < 256 := by decide +kernel
theorem l16_bytes {f : Nat → Nat} (h : ∀ i, i < 16 → f i < 256) : Bytes (l16 f) := by
  intro x hx
  obtain ⟨i, hi, rfl⟩ := List.mem_map.1 hx
  exact h i (List.mem_range.1 hi)
theorem xlt {a b : Nat} (ha : a < 256) (hb : b < 256) : a ^^^ b < 256 := Nat.xor_lt_two_pow (n := 8) ha hb
theorem facN_lt (i : Nat) {y : Nat} (hy : y < 256) : facN i y < 256 := by
  unfold facN
  split
  · exact xt_lt y
  · split
    · exact xlt (xt_lt y) hy
    · exact hy
theorem tF_bytes (s : List Nat) : Bytes (tF s) := l16_bytes fun i _ => getD_lt SUBL_lt (by decide) _
theorem mixF_bytes {t : List Nat} (h : Bytes t) : Bytes (mixF t) := by
  have g := fun j => getD_lt h (by decide) j
  exact l16_bytes fun i _ => xlt (xlt (xlt (xlt (by decide) (facN_lt _ (g _))) (facN_lt _ (g _))) (facN_lt _ (g _))) (facN_lt _ (g _))
theorem stN_bytes {rk s : List Nat} (hr : Bytes rk) (hs : Bytes s) : ∀ r, Bytes (stN rk s r)
  | 0 => l16_bytes fun j _ => xlt (getD_lt hs (by decide) _) (getD_lt hr (by decide) _)
  | r + 1 => l16_bytes fun j _ => xlt (by split; exact getD_lt (mixF_bytes (tF_bytes _)) (by decide) _; exact getD_lt (tF_bytes _) (by decide) _) (getD_lt hr (by decide) _)
theorem stN_len (rk s : List Nat) (r : Nat) : (stN rk s r).length = 16 := by cases r <;> exact l16_len _
theorem aesF_len (rk s : List Nat) : (aesF rk s).length = 16 := stN_len rk s 10
theorem aesF_bytes {rk s : List Nat} (hr : Bytes rk) (hs : Bytes s) : Bytes (aesF rk s) := stN_bytes hr hs 10

def aesV (rk s : List Nat) (i : Nat) : Option Value :=
  if i < big then (if i < 16 then some (.int .u8 ((s.getD i 0 : Nat) : Int)) else if i < 192 then some (.int .u8 ((rk.getD (i - 16) 0 : Nat) : Int)) else none)
  else if (i - big - 366) % 1857 < 272 then some (.int .u8 (((tF (stN rk s ((i - big - 366) / 1857))).getD ((i - big - 366) % 1857 / 17) 0 : Nat) : Int))
  else if (i - big - 366) % 1857 < 1000 then some (.int .u8 (((stN rk s ((i - big - 366) / 1857 + 1)).getD ((i - big - 366) % 1857 - 412) 0 : Nat) : Int))
  else some (.int .u8 (((stN rk s ((i - big - 366) / 1857 + 1)).getD ((i - big - 366) % 1857 - 1824) 0 : Nat) : Int))
/-- a term's byte. -/
def B (ρ : Pl) (x : SV) (a : Nat) : Prop := D ρ .u8 x a ∧ a < 256
theorem B.xor {ρ : Pl} {x y : SV} {a b : Nat} (hx : B ρ x a) (hy : B ρ y b) : B ρ (xor8 x y) (a ^^^ b) := ⟨hx.1.xor8 hy.1 hx.2 hy.2, xlt hx.2 hy.2⟩
theorem B.tw {ρ : Pl} {x : SV} {a : Nat} (hx : B ρ x a) : B ρ (twS x) (xt a) := ⟨hx.1.tw, xt_lt a⟩
theorem B.fac {ρ : Pl} {x : SV} {a : Nat} (hx : B ρ x a) (i : Nat) : B ρ (fac i x) (facN i a) := by
  unfold Go.Proofs.YtodehmognjofhaaGreat.fac facN
  by_cases h0 : i = 0
  · rw [if_pos h0, if_pos h0]; exact hx.tw
  · rw [if_neg h0, if_neg h0]
    by_cases h1 : i = 1
    · rw [if_pos h1, if_pos h1]; exact hx.tw.xor hx
    · rw [if_neg h1, if_neg h1]; exact hx
section
variable {rk s : List Nat}
theorem aesV_s {i : Nat} (h : i < 16) : aesV rk s i = some (.int .u8 ((s.getD i 0 : Nat) : Int)) := by
  unfold aesV
  rw [if_pos (by unfold big; omega), if_pos h]
theorem aesV_k {i : Nat} (h : i < 176) : aesV rk s (16 + i) = some (.int .u8 ((rk.getD i 0 : Nat) : Int)) := by
  unfold aesV
  rw [if_pos (by unfold big; omega), if_neg (by omega), if_pos (by omega), Nat.add_sub_cancel_left]
theorem aesV_none {i : Nat} (h : 192 ≤ i) (h2 : i < big) : aesV rk s i = none := by
  unfold aesV
  rw [if_pos h2, if_neg (by omega), if_neg (by omega)]
theorem aesV_t {r i : Nat} (hr : r < 10) (hi : i < 16) : aesV rk s (big + nT r i) = some (.int .u8 (((tF (stN rk s r)).getD i 0 : Nat) : Int)) := by
  unfold aesV nT
  rw [if_neg (by omega), Nat.add_sub_cancel_left, show 366 + 1857 * r + 17 * i - 366 = 1857 * r + 17 * i by omega, show (1857 * r + 17 * i) % 1857 = 17 * i by omega, show (1857 * r + 17 * i) / 1857 = r by omega, if_pos (by omega), show 17 * i / 17 = i by omega]
theorem aesV_n {r j : Nat} (hr : r < 10) (hj : j < 16) : aesV rk s (big + nS r j) = some (.int .u8 (((stN rk s (r + 1)).getD j 0 : Nat) : Int)) := by
  unfold aesV nS
  rw [if_neg (by omega), Nat.add_sub_cancel_left]
  by_cases h : r < 9
  · rw [if_pos h, show 2190 + 1857 * r + j - 366 = 1857 * r + (1824 + j) by omega, show (1857 * r + (1824 + j)) % 1857 = 1824 + j by omega, show (1857 * r + (1824 + j)) / 1857 = r by omega, if_neg (by omega), if_neg (by omega), Nat.add_sub_cancel_left]
  · obtain rfl : r = 9 := by omega
    rw [if_neg h, show 17491 + j - 366 = 1857 * 9 + (412 + j) by omega, show (1857 * 9 + (412 + j)) % 1857 = 412 + j by omega, show (1857 * 9 + (412 + j)) / 1857 = 9 by omega, if_neg (by omega), if_pos (by omega), Nat.add_sub_cancel_left]
variable (hs : Bytes s) (hk : Bytes rk) {ρ : Pl} (hval : ∀ i v, aesV rk s i = some v → ρ.val i = some v)
include hs hk hval
theorem Pn_ok {r j : Nat} (hr : r < 10) (hj : j < 16) : B ρ (Pn r j) ((stN rk s r).getD j 0) := by
  cases r with
  | zero =>
    have h1 : B ρ (b8 j) (s.getD j 0) := ⟨D.sym8 (hval _ _ (aesV_s hj)) (getD_lt hs (by decide) _), getD_lt hs (by decide) _⟩
    have h2 : B ρ (b8 (16 + j)) (rk.getD j 0) := ⟨D.sym8 (hval _ _ (aesV_k (by omega))) (getD_lt hk (by decide) _), getD_lt hk (by decide) _⟩
    show B ρ _ ((l16 _).getD j 0)
    rw [l16_get hj]
    exact h1.xor h2
  | succ r => exact ⟨D.sym8 (hval _ _ (aesV_n (by omega) hj)) (getD_lt (stN_bytes hk hs _) (by decide) _), getD_lt (stN_bytes hk hs _) (by decide) _⟩
omit hs hk in
theorem Tn_ok {r i : Nat} (hr : r < 10) (hi : i < 16) : B ρ (Tn r i) ((tF (stN rk s r)).getD i 0) := ⟨D.sym8 (hval _ _ (aesV_t hr hi)) (getD_lt (tF_bytes _) (by decide) _), getD_lt (tF_bytes _) (by decide) _⟩
theorem tab_ok {r i : Nat} (hr : r < 10) (hi : i < 16) : B ρ (.tab SUBL (Pn r ((i + i % 4 * 4) % 16))) ((tF (stN rk s r)).getD i 0) := by
  have h := Pn_ok hs hk hval hr (j := (i + i % 4 * 4) % 16) (Nat.mod_lt _ (by decide))
  unfold tF
  rw [l16_get hi]
  exact ⟨h.1.tab8 (by rw [SUBL_len]; exact h.2) SUBL_lt, getD_lt SUBL_lt (by decide) _⟩
omit hs hk in
theorem mixed_ok {r i : Nat} (hr : r < 10) (hi : i < 16) : B ρ (mixed r i) ((mixF (tF (stN rk s r))).getD i 0) := by
  unfold mixF
  rw [l16_get hi]
  have h := fun k (hk : k < 4) => (Tn_ok (ρ := ρ) hval hr (i := i / 4 * 4 + k) (by omega)).fac ((k + 4 - i % 4) % 4)
  have h0 : B ρ (.int .u8 0) 0 := ⟨D.lit ρ .u8 0, by decide⟩
  exact (((h0.xor (h 0 (by decide))).xor (h 1 (by decide))).xor (h 2 (by decide))).xor (h 3 (by decide))
omit hs in
theorem sEnd_ok {r j : Nat} (hr : r < 10) (hj : j < 16) : B ρ (sEnd r j) ((stN rk s (r + 1)).getD j 0) := by
  have h2 : B ρ (b8 (16 + 16 * (r + 1) + j)) (rk.getD (16 * (r + 1) + j) 0) := by
    have e : 16 + 16 * (r + 1) + j = 16 + (16 * (r + 1) + j) := by omega
    rw [e]
    exact ⟨D.sym8 (hval _ _ (aesV_k (by omega))) (getD_lt hk (by decide) _), getD_lt hk (by decide) _⟩
  show B ρ _ ((l16 _).getD j 0)
  rw [l16_get hj]
  unfold sEnd
  by_cases h : r < 9
  · rw [if_pos h, if_pos h]; exact (mixed_ok hval hr hj).xor h2
  · rw [if_neg h, if_neg h]; exact (Tn_ok hval hr hj).xor h2
omit hval in
theorem aes_lg (W0 : World) : @LgOk ⟨W0, aesV rk s⟩ (ofA aesLog).get := by
  intro m k e hm
  have hmem := ofA_mem hm
  unfold aesLog at hmem
  obtain ⟨r, hr, hmem⟩ := List.mem_flatMap.1 hmem
  have hr := List.mem_range.1 hr
  rcases List.mem_append.1 hmem with hmem | hmem
  · obtain ⟨i, hi, he⟩ := List.mem_map.1 hmem
    cases he
    have hi := List.mem_range.1 hi
    have h := tab_ok hs hk (ρ := ⟨fun _ => none, aesV rk s⟩) (fun _ _ h => h) hr hi
    exact ⟨_, h.1, aesV_t hr hi, is8 h.2⟩
  · obtain ⟨j, hj, he⟩ := List.mem_map.1 hmem
    cases he
    have hj := List.mem_range.1 hj
    have h := sEnd_ok hk (ρ := ⟨fun _ => none, aesV rk s⟩) (fun _ _ h => h) hr hj
    exact ⟨_, h.1, aesV_n hr hj, is8 h.2⟩
end
def tabC : List Value := bcells (SUBL ++ UNSUBL) ++ [.bool true]
/-- a cipher's cells. -/
def ccells (rk : List Nat) : List Value := bcells rk ++ tabC
set_option maxRecDepth 100000 in
theorem pcipher_any (w : World) (cb : Nat) (rk s : List Nat) (hA : At w cb 214 (ccells rk)) (hl : rk.length = 176) (hk : Bytes rk) (hsl : s.length = 16) (hs : Bytes s) :
    Calls Tryz.prog 166 #[.pointer (some ⟨cb, 0, none⟩), .agg (bcells s).toArray] w fun e w' => e = .returned (.agg (bcells (aesF rk s)).toArray) ∧ Touch [] w w' := by
  have hcs : ∀ ρ : Pl, (∀ i v, aesV rk s i = some v → ρ.val i = some v) → denL ρ cSV = some (ccells rk) := by
    intro ρ hval
    unfold cSV ccells tabC
    refine denL_append ?_ (denL_append ?_ (denL_cons.2 ⟨_, _, den_bool _ _, denL_nil _, rfl⟩))
    · have : bcells rk = (List.range 176).map fun i => Value.int .u8 ((rk.getD i 0 : Nat) : Int) := by
        conv => lhs; rw [← map_getD hl]
        unfold bcells
        rw [List.map_map]; rfl
      rw [this]
      exact denL_map _ _ _ fun i hi => D.sym8 (hval _ _ (aesV_k (List.mem_range.1 hi))) (getD_lt hk (by decide) i)
    · exact denL_map _ _ _ fun i _ => D.lit ρ .u8 i
  have hin : denL (plOf [cb] (aesV rk s)) ((List.range 16).map b8) = some (bcells s) := by
    have : bcells s = (List.range 16).map fun i => Value.int .u8 ((s.getD i 0 : Nat) : Int) := by
      conv => lhs; rw [← map_getD hsl]
      unfold bcells
      rw [List.map_map]; rfl
    rw [this]
    exact denL_map _ _ _ fun i hi => D.sym8 (aesV_s (List.mem_range.1 hi)) (getD_lt hs (by decide) i)
  have h1 := gen_run envOk (fun {_} => aesI_ok) aes_run (by decide) (aesV rk s) (fun b h1 h2 => aesV_none h1 h2) (aes_lg hs hk) w (bl := [cb]) rfl (by simp) (by decide) (fun j b x hj hx => by
    match j with
    | 0 => cases hj; cases hx; exact ⟨_, hcs _ (fun _ _ h => h), hA⟩
    | j + 1 => simp at hj) (us := [.pointer (some ⟨cb, 0, none⟩), .agg (bcells s).toArray]) (denL_cons.2 ⟨_, _, den_ptr_mk (x := (cb, 0)) rfl 0, denL_cons.2 ⟨_, _, den_agg_mk (by rw [denC_of_L (one_of_bytes hin)]; exact hin) (onc_of_one (one_of_bytes hin)), denL_nil _, rfl⟩, rfl⟩)
  refine h1.mono ?_
  rintro e w' ⟨ρ', u, rfl, l1, l2, l3, l4, -⟩
  obtain ⟨us0, a1, a2⟩ := l4 0 cb _ rfl rfl
  have hout : denL ρ' ((List.range 16).map fun j => nm8 (nS 9 j)) = some (bcells (aesF rk s)) := by
    have : bcells (aesF rk s) = (List.range 16).map fun i => Value.int .u8 (((aesF rk s).getD i 0 : Nat) : Int) := by
      conv => lhs; rw [← map_getD (aesF_len rk s)]
      unfold bcells
      rw [List.map_map]; rfl
    rw [this]
    exact denL_map _ _ _ fun i hi => D.sym8 (l1.val _ _ (aesV_n (by decide) (List.mem_range.1 hi))) (getD_lt (aesF_bytes hk hs) (by decide) i)
  have hv := den_agg_mk (by rw [denC_of_L (one_of_bytes hout)]; exact hout) (onc_of_one (one_of_bytes hout))
  rw [show den ρ' aesS.v = some (.agg (bcells (aesF rk s)).toArray) from hv] at l2
  cases l2
  refine ⟨rfl, ⟨l3.os, l3.tape, l3.output, l3.size, fun k h1 _ => ?_⟩⟩
  by_cases hkc : k = cb
  · subst hkc
    have c0 := hcs ρ' l1.val
    rw [show denL ρ' cSV = some us0 from a1] at c0
    cases c0
    exact a2.trans hA.symm
  · exact l3.block k h1 (by simpa using hkc)
end Go.Proofs.YtodehmognjofhaaGreat
