/-
  The program's digest of a block: what it comes to, for any words and bytes.
-/
import Derived.Test.YtodehmognjofhaaGreatQNSha
namespace Go.Proofs.YtodehmognjofhaaGreat
open Go.RowKit

theorem KS_lit : KS = kLit := by decide +kernel
theorem VS_lit : VS = vLit := by decide +kernel
def shaV (v part : List Nat) (n i : Nat) : Option Value :=
  if i < big then (if i < 8 then some (.int .u32 ((v.getD i 0 : Nat) : Int)) else if i < 72 then some (.int .u8 ((part.getD (i - 8) 0 : Nat) : Int)) else if i = 72 then some (.int .u64 ((n : Nat) : Int)) else none)
  else if i - big < 1249 then some (.int .u32 (((ws part 48).getD ((i - big - 153) / 73) 0 : Nat) : Int))
  else if i - big < 3492 then some (.int .u32 (((ws part 48).getD (16 + (i - big - 1293) / 45) 0 : Nat) : Int))
  else if (i - big - 3492) % 37 = 0 then some (.int .u32 (((rnds KS (ws part 48) ((i - big - 3492) / 37 + 1) (W8.of v)).a : Nat) : Int))
  else some (.int .u32 (((rnds KS (ws part 48) ((i - big - 3492) / 37 + 1) (W8.of v)).e : Nat) : Int))
section
variable {v part : List Nat} {n : Nat}
theorem shaV_v {i : Nat} (h : i < 8) : shaV v part n i = some (.int .u32 ((v.getD i 0 : Nat) : Int)) := by
  unfold shaV
  rw [if_pos (by unfold big; omega), if_pos h]
theorem shaV_p {i : Nat} (h : i < 64) : shaV v part n (8 + i) = some (.int .u8 ((part.getD i 0 : Nat) : Int)) := by
  unfold shaV
  rw [if_pos (by unfold big; omega), if_neg (by omega), if_pos (by omega), Nat.add_sub_cancel_left]
theorem shaV_n : shaV v part n 72 = some (.int .u64 ((n : Nat) : Int)) := by
  unfold shaV
  rw [if_pos (by decide), if_neg (by decide), if_neg (by decide), if_pos rfl]
theorem shaV_none {i : Nat} (h : 80 ≤ i) (h2 : i < big) : shaV v part n i = none := by
  unfold shaV
  rw [if_pos h2, if_neg (by omega), if_neg (by omega), if_neg (by omega)]
theorem shaV_w {i : Nat} (h : i < 64) : shaV v part n (big + nW i) = some (.int .u32 (((ws part 48).getD i 0 : Nat) : Int)) := by
  unfold shaV
  rw [if_neg (by omega), Nat.add_sub_cancel_left]
  unfold nW
  by_cases h1 : i < 16
  · rw [if_pos h1, if_pos (by omega), show (153 + 73 * i - 153) / 73 = i by omega]
  · rw [if_neg h1, if_neg (by omega), if_pos (by omega), show 16 + (1293 + 45 * (i - 16) - 1293) / 45 = i by omega]
theorem shaV_a {r : Nat} : shaV v part n (big + nA r) = some (.int .u32 (((rnds KS (ws part 48) (r + 1) (W8.of v)).a : Nat) : Int)) := by
  unfold shaV nA
  rw [if_neg (by omega), Nat.add_sub_cancel_left, if_neg (by omega), if_neg (by omega), if_pos (by omega), show (3492 + 37 * r - 3492) / 37 = r by omega]
theorem shaV_e {r : Nat} : shaV v part n (big + (nA r + 1)) = some (.int .u32 (((rnds KS (ws part 48) (r + 1) (W8.of v)).e : Nat) : Int)) := by
  unfold shaV nA
  rw [if_neg (by omega), Nat.add_sub_cancel_left, if_neg (by omega), if_neg (by omega), if_neg (by omega), show (3492 + 37 * r + 1 - 3492) / 37 = r by omega]
end
/-- a term's word. -/
def W (ρ : Pl) (x : SV) (a : Nat) : Prop := D ρ .u32 x a ∧ a < 4294967296
section
variable {ρ : Pl} {x y : SV} {a b : Nat}
theorem W.add (hx : W ρ x a) (hy : W ρ y b) : W ρ (addS x y) ((a + b) % 4294967296) := ⟨hx.1.add32 hy.1, Nat.mod_lt _ (by decide)⟩
theorem W.xor (hx : W ρ x a) (hy : W ρ y b) : W ρ (xorS x y) (a ^^^ b) := ⟨hx.1.xor32 hy.1 hx.2 hy.2, Nat.xor_lt_two_pow (n := 32) hx.2 hy.2⟩
theorem W.and (hx : W ρ x a) (hy : W ρ y b) : W ρ (andS x y) (a &&& b) := ⟨hx.1.and32 hy.1 hx.2 hy.2, Nat.and_lt_two_pow (n := 32) a hy.2⟩
theorem W.shr (hx : W ρ x a) {n : Nat} (hn : n ≤ 32) : W ρ (.sh .shr .u32 x n) (a / 2 ^ n) := ⟨hx.1.shr32 hn, Nat.lt_of_le_of_lt (Nat.div_le_self _ _) hx.2⟩
theorem W.rot (hx : W ρ x a) {n : Nat} (hn : n ≤ 32) : W ρ (rotS x n) (rot a n) := by
  refine ⟨?_, rot_lt a n hx.2⟩
  have h := (hx.1.shl32 (n := 32 - n) (by omega)).or32 (hx.1.shr32 hn) (Nat.mod_lt _ (by decide)) (Nat.lt_of_le_of_lt (Nat.div_le_self _ _) hx.2)
  rw [Nat.or_comm] at h
  exact h
theorem W.lit (ρ : Pl) {n : Nat} (h : n < 4294967296) : W ρ (U32 n) n := ⟨D.lit _ _ _, h⟩
end
/-- eight terms' words. -/
structure R8 (ρ : Pl) (s : S8) (t : W8) : Prop where
  a : W ρ s.a t.a
  b : W ρ s.b t.b
  c : W ρ s.c t.c
  d : W ρ s.d t.d
  e : W ρ s.e t.e
  f : W ρ s.f t.f
  g : W ρ s.g t.g
  h : W ρ s.h t.h
theorem R8.t {ρ : Pl} {s : S8} {t : W8} (r : R8 ρ s t) {k : Nat} (hk : k < 4294967296) {x : SV} {a : Nat} (hx : W ρ x a) : W ρ (tS s k x) (t.t k a) := by
  have h := ((((r.h.add (((r.e.rot (n := 6) (by decide)).xor (r.e.rot (n := 11) (by decide))).xor (r.e.rot (n := 25) (by decide)))).add ((r.e.and r.f).xor (((W.lit ρ (n := 4294967295) (by decide)).xor r.e).and r.g))).add (W.lit ρ hk)).add hx)
  rw [compl32 _ r.e.2] at h
  refine ⟨?_, Nat.mod_lt _ (by decide)⟩
  have e : t.t k a = ((((t.h + S1 t.e) % 4294967296 + chF t.e t.f t.g) % 4294967296 + k) % 4294967296 + a) % 4294967296 := by
    unfold W8.t
    omega
  rw [e]
  exact h.1
theorem R8.u {ρ : Pl} {s : S8} {t : W8} (r : R8 ρ s t) : W ρ (uS s) t.u :=
  (((r.a.rot (n := 2) (by decide)).xor (r.a.rot (n := 13) (by decide))).xor (r.a.rot (n := 22) (by decide))).add (((r.a.and r.b).xor (r.a.and r.c)).xor (r.b.and r.c))
section
variable {v part : List Nat} {n : Nat} (hv : Words v) (hp : Bytes part)
include hv hp
/-- the rounds' names. -/
theorem rounds_ok {f : Nat → Option (Nat × Nat)} : ∀ (ks : List Nat) (r : Nat) (s : S8), KS.drop r = ks → r + ks.length = 64 → R8 ⟨f, shaV v part n⟩ s (rnds KS (ws part 48) r (W8.of v)) →
    (∀ x ∈ (rounds ks r s).1, ∃ a, W ⟨f, shaV v part n⟩ x.2.2 a ∧ x.2.1 = .u32 ∧ shaV v part n (big + x.1) = some (.int .u32 (a : Int))) ∧ R8 ⟨f, shaV v part n⟩ (rounds ks r s).2 (rnds KS (ws part 48) 64 (W8.of v))
  | [], r, s, _, hr, h => by
    have : r = 64 := by simpa using hr
    subst this
    exact ⟨by simp [rounds], h⟩
  | k :: ks, r, s, hk, hr, h => by
    have hr' : r < 64 := by simp at hr; omega
    have hkk : KS.getD r 0 = k := by
      have e : (KS.drop r)[0]? = some k := by rw [hk]; rfl
      rw [List.getElem?_drop] at e
      rw [List.getD_eq_getElem?_getD, show r = r + 0 by omega, e]; rfl
    have hkl : k < 4294967296 := by rw [← hkk]; exact getD_lt KS_lt (by decide) r
    have hx : W ⟨f, shaV v part n⟩ (Wn r) ((ws part 48).getD r 0) := ⟨D.sym32 (shaV_w hr') (getD_lt (ws_lt hp 48) (by decide) r), getD_lt (ws_lt hp 48) (by decide) r⟩
    have ok := rnds_ok KS (ws part 48) (r + 1) (W8.ok_of hv)
    have hstep : rnds KS (ws part 48) (r + 1) (W8.of v) = (rnds KS (ws part 48) r (W8.of v)).step k ((ws part 48).getD r 0) := by
      show (rnds KS (ws part 48) r (W8.of v)).step (KS.getD r 0) _ = _
      rw [hkk]
    have ht := h.t hkl hx
    have hA : W ⟨f, shaV v part n⟩ (addS (tS s k (Wn r)) (uS s)) (rnds KS (ws part 48) (r + 1) (W8.of v)).a := by
      rw [hstep]; exact ht.add h.u
    have hE : W ⟨f, shaV v part n⟩ (addS s.d (tS s k (Wn r))) (rnds KS (ws part 48) (r + 1) (W8.of v)).e := by
      rw [hstep]; exact h.d.add ht
    have h' : R8 ⟨f, shaV v part n⟩ ⟨nmS (nA r), s.a, s.b, s.c, nmS (nA r + 1), s.e, s.f, s.g⟩ (rnds KS (ws part 48) (r + 1) (W8.of v)) := by
      refine ⟨⟨D.sym32 shaV_a ok.a, ok.a⟩, ?_, ?_, ?_, ⟨D.sym32 shaV_e ok.e, ok.e⟩, ?_, ?_, ?_⟩
      all_goals rw [hstep]
      · exact h.a
      · exact h.b
      · exact h.c
      · exact h.e
      · exact h.f
      · exact h.g
    obtain ⟨g1, g2⟩ := rounds_ok ks (r + 1) _ (by rw [← List.drop_drop, hk]; rfl) (by simp at hr; omega) h'
    refine ⟨?_, g2⟩
    intro x hx
    have hx' : x ∈ (nA r, IntKind.u32, addS (tS s k (Wn r)) (uS s)) :: (nA r + 1, IntKind.u32, addS s.d (tS s k (Wn r))) :: (rounds ks (r + 1) ⟨nmS (nA r), s.a, s.b, s.c, nmS (nA r + 1), s.e, s.f, s.g⟩).1 := hx
    rcases List.mem_cons.1 hx' with rfl | hx'
    · exact ⟨_, hA, rfl, shaV_a⟩
    rcases List.mem_cons.1 hx' with rfl | hx'
    · exact ⟨_, hE, rfl, shaV_e⟩
    exact g1 x hx'
omit hp in
theorem vS_ok {f : Nat → Option (Nat × Nat)} {i : Nat} (hi : i < 8) : W ⟨f, shaV v part n⟩ (vS i) (v.getD i 0) := ⟨D.sym32 (shaV_v hi) (getD_lt hv (by decide) i), getD_lt hv (by decide) i⟩
omit hp in
theorem s0_ok {f : Nat → Option (Nat × Nat)} : R8 ⟨f, shaV v part n⟩ s0S (W8.of v) :=
  ⟨vS_ok hv (by decide), vS_ok hv (by decide), vS_ok hv (by decide), vS_ok hv (by decide), vS_ok hv (by decide), vS_ok hv (by decide), vS_ok hv (by decide), vS_ok hv (by decide)⟩
omit hv in
theorem rawW_ok {f : Nat → Option (Nat × Nat)} {i : Nat} (hi : i < 16) : W ⟨f, shaV v part n⟩ (rawW i) ((ws part 48).getD i 0) := by
  have hb : ∀ k, k < 4 → W ⟨f, shaV v part n⟩ (.cv .u32 (.sym (.int .u8) (8 + 4 * i + k))) (part.getD (4 * i + k) 0) := by
    intro k hk
    have h1 := getD_lt hp (by decide) (4 * i + k)
    have h2 : shaV v part n (8 + 4 * i + k) = some (.int .u8 ((part.getD (4 * i + k) 0 : Nat) : Int)) := by
      rw [show 8 + 4 * i + k = 8 + (4 * i + k) by omega]
      exact shaV_p (by omega)
    exact ⟨D.cv32 (D.sym8 h2 h1) (by omega), by omega⟩
  have hw : (ws part 48).getD i 0 = wordAt part i := by
    have key : ∀ m, (ws part m)[i]? = some (wordAt part i) := by
      intro m
      induction m with
      | zero => show (w16 part 16)[i]? = _; unfold w16; rw [List.getElem?_map, List.getElem?_range hi]; rfl
      | succ m ih =>
        show (ws part m ++ [nextW (ws part m)])[i]? = _
        rw [List.getElem?_append_left (by rw [ws_len]; omega)]
        exact ih
    rw [List.getD_eq_getElem?_getD, key]; rfl
  rw [hw]
  refine ⟨?_, wordAt_lt hp i⟩
  have b0 := getD_lt hp (by decide) (4 * i)
  have b1 := getD_lt hp (by decide) (4 * i + 1)
  have b2 := getD_lt hp (by decide) (4 * i + 2)
  have b3 := getD_lt hp (by decide) (4 * i + 3)
  have step : ∀ {e c : SV} {a b : Nat}, W ⟨f, shaV v part n⟩ e a → W ⟨f, shaV v part n⟩ c b → a < 16777216 → b < 256 → W ⟨f, shaV v part n⟩ (.ar .or .u32 (.sh .shl .u32 e 8) c) (a * 256 + b) := by
    intro e c a b he hc ha hb
    have h := (he.1.shl32 (n := 8) (by decide)).or32 hc.1 (Nat.mod_lt _ (by decide)) hc.2
    rw [show a * 2 ^ 8 % 4294967296 = a * 256 by omega, shl8_or a b hb] at h
    exact ⟨h, by omega⟩
  have s0 : W ⟨f, shaV v part n⟩ (.ar .or .u32 (U32 0) (.cv .u32 (.sym (.int .u8) (8 + 4 * i + 0)))) (part.getD (4 * i) 0) := by
    have h := (W.lit ⟨f, shaV v part n⟩ (n := 0) (by decide)).1.or32 (hb 0 (by decide)).1 (by decide) (hb 0 (by decide)).2
    rw [Nat.zero_or] at h
    exact ⟨h, by omega⟩
  have s1 := step s0 (hb 1 (by decide)) (by omega) b1
  have s2 := step s1 (hb 2 (by decide)) (by omega) b2
  have s3 := step s2 (hb 3 (by decide)) (by omega) b3
  have e : wordAt part i = ((part.getD (4 * i) 0 * 256 + part.getD (4 * i + 1) 0) * 256 + part.getD (4 * i + 2) 0) * 256 + part.getD (4 * i + 3) 0 := by
    unfold wordAt wd; omega
  rw [e]
  exact s3.1
omit hv in
theorem nextS_ok {f : Nat → Option (Nat × Nat)} {j : Nat} (hj : j < 48) : W ⟨f, shaV v part n⟩ (nextS (Wn j) (Wn (j + 9)) (Wn (j + 1)) (Wn (j + 14))) ((ws part 48).getD (16 + j) 0) := by
  have hw : ∀ i, i < 64 → W ⟨f, shaV v part n⟩ (Wn i) ((ws part 48).getD i 0) := fun i hi => ⟨D.sym32 (shaV_w hi) (getD_lt (ws_lt hp 48) (by decide) i), getD_lt (ws_lt hp 48) (by decide) i⟩
  have pre : ∀ m, ∀ i, i < 16 + m → m ≤ 48 → (ws part 48).getD i 0 = (ws part m).getD i 0 := by
    intro m i hi hm
    have key : ∀ d, (ws part (m + d))[i]? = (ws part m)[i]? := by
      intro d
      induction d with
      | zero => rfl
      | succ d ih =>
        show (ws part (m + d) ++ [nextW (ws part (m + d))])[i]? = _
        rw [List.getElem?_append_left (by rw [ws_len]; omega)]
        exact ih
    have := key (48 - m)
    rw [show m + (48 - m) = 48 by omega] at this
    rw [List.getD_eq_getElem?_getD, List.getD_eq_getElem?_getD, this]
  have e1 : (ws part 48).getD (16 + j) 0 = nextW (ws part j) := by
    rw [pre (j + 1) (16 + j) (by omega) (by omega)]
    show (ws part j ++ [nextW (ws part j)]).getD (16 + j) 0 = _
    rw [List.getD_eq_getElem?_getD, List.getElem?_append_right (by rw [ws_len]; omega), ws_len, Nat.sub_self]; rfl
  rw [e1]
  unfold nextW
  rw [ws_len, show 16 + j - 16 = j by omega, show 16 + j - 15 = j + 1 by omega, show 16 + j - 7 = j + 9 by omega, show 16 + j - 2 = j + 14 by omega]
  rw [← pre j j (by omega) (by omega), ← pre j (j + 1) (by omega) (by omega), ← pre j (j + 9) (by omega) (by omega), ← pre j (j + 14) (by omega) (by omega)]
  have h0 := hw j (by omega)
  have h1 := hw (j + 1) (by omega)
  have h9 := hw (j + 9) (by omega)
  have h14 := hw (j + 14) (by omega)
  have h := ((h0.add h9).add (((h1.rot (n := 7) (by decide)).xor (h1.rot (n := 18) (by decide))).xor (h1.shr (n := 3) (by decide)))).add (((h14.rot (n := 17) (by decide)).xor (h14.rot (n := 19) (by decide))).xor (h14.shr (n := 10) (by decide)))
  refine ⟨?_, Nat.mod_lt _ (by decide)⟩
  have e2 : ∀ a b c d : Nat, (a + b + c + d) % 4294967296 = (((a + c) % 4294967296 + b) % 4294967296 + d) % 4294967296 := by intro a b c d; omega
  rw [e2]
  exact h.1
theorem sha_lg (W0 : World) : @LgOk ⟨W0, shaV v part n⟩ (ofA shaLog).get := by
  intro m k e hm
  have hmem := ofA_mem hm
  have fin : ∀ {a : Nat}, W ⟨fun _ => none, shaV v part n⟩ e a → k = .u32 → shaV v part n (big + m) = some (.int .u32 (a : Int)) → ∃ u, den ⟨fun _ => none, shaV v part n⟩ e = some u ∧ shaV v part n (big + m) = some u ∧ (SK.int k).is u = true := by
    intro a h1 h2 h3
    subst h2
    exact ⟨_, h1.1, h3, is32 h1.2⟩
  unfold shaLog at hmem
  rcases List.mem_append.1 hmem with hmem | hmem
  · rcases List.mem_append.1 hmem with hmem | hmem
    · obtain ⟨i, hi, he⟩ := List.mem_map.1 hmem
      cases he
      have hi := List.mem_range.1 hi
      exact fin (rawW_ok hp hi) rfl (shaV_w (by omega))
    · obtain ⟨j, hj, he⟩ := List.mem_map.1 hmem
      cases he
      have hj := List.mem_range.1 hj
      exact fin (nextS_ok hp hj) rfl (shaV_w (by omega))
  · obtain ⟨a, h1, h2, h3⟩ := (rounds_ok (n := n) hv hp (f := fun _ => none) kLit 0 s0S (by rw [KS_lit]; rfl) (by decide) (s0_ok hv)).1 _ hmem
    exact fin h1 h2 h3
end
/-- a digest's cells. -/
def hcells (tb : Nat) (v part : List Nat) (n : Nat) : List Value := .pointer (some ⟨tb, 0, none⟩) :: (wcells v ++ (bcells part ++ [.int .u64 n]))
theorem denL_map {ρ : Pl} {α : Type} (l : List α) (f : α → SV) (g : α → Value) (h : ∀ x ∈ l, den ρ (f x) = some (g x)) : denL ρ (l.map f) = some (l.map g) := by
  induction l with
  | nil => exact denL_nil _
  | cons x l ih => exact denL_cons.2 ⟨_, _, h x (by simp), ih fun y hy => h y (by simp [hy]), rfl⟩
theorem map_getD {l : List Nat} {k : Nat} (hl : l.length = k) : (List.range k).map (fun i => l.getD i 0) = l := by
  apply List.ext_getElem?
  intro i
  rw [List.getElem?_map]
  by_cases h : i < k
  · rw [List.getElem?_range h, List.getElem?_eq_getElem (by omega)]
    simp [List.getD_eq_getElem?_getD, List.getElem?_eq_getElem (show i < l.length by omega)]
  · rw [List.getElem?_eq_none (by simpa using Nat.le_of_not_lt h), List.getElem?_eq_none (by omega)]; rfl
set_option maxRecDepth 100000 in
theorem pblock_any (w : World) (hb tb : Nat) (v part : List Nat) (n : Nat) (hH : At w hb 247 (hcells tb v part n)) (hT : At w tb 245 (wcells (VS ++ KS))) (hne : hb ≠ tb) (hv : v.length = 8) (hp : part.length = 64) (hvw : Words v) (hpb : Bytes part) (hn : n < 18446744073709551616) :
    Calls Tryz.prog 156 #[.pointer (some ⟨hb, 0, none⟩)] w fun e w' => e = .returned (.tuple #[]) ∧ Touch [hb] w w' ∧ At w' hb 247 (hcells tb (blockF v part) part n) := by
  have fit : ∀ (ρ : Pl) (x : List SV) (xs : List Nat), (∀ i u, shaV v part n i = some u → ρ.val i = some u) → ρ.f 1 = some (tb, 0) → denL ρ x = some (wcells xs) → denL ρ (.ptr 1 0 :: (x ++ (partS ++ [.sym (.int .u64) 72]))) = some (hcells tb xs part n) := by
    intro ρ x xs hval h1 hx
    refine denL_cons.2 ⟨_, _, den_ptr_mk (x := (tb, 0)) h1 0, denL_append hx (denL_append ?_ (denL_cons.2 ⟨_, _, ?_, denL_nil _, rfl⟩)), rfl⟩
    · have : bcells part = (List.range 64).map fun i => Value.int .u8 ((part.getD i 0 : Nat) : Int) := by
        conv => lhs; rw [← map_getD hp]
        unfold bcells
        rw [List.map_map]; rfl
      rw [this]
      exact denL_map _ _ _ fun i hi => D.sym8 (hval _ _ (shaV_p (List.mem_range.1 hi))) (getD_lt hpb (by decide) i)
    · exact D.sym (hval _ _ shaV_n) (by rw [IntKind.wrap_u64]; omega)
  have hcon : ∀ ρ : Pl, denL ρ tabS = some (wcells (VS ++ KS)) := by
    intro ρ
    rw [VS_lit, KS_lit]
    exact denL_map _ _ _ fun i _ => D.lit ρ .u32 i
  have hvs : ∀ ρ : Pl, (∀ i u, shaV v part n i = some u → ρ.val i = some u) → denL ρ ((List.range 8).map vS) = some (wcells v) := by
    intro ρ hval
    have : wcells v = (List.range 8).map fun i => Value.int .u32 ((v.getD i 0 : Nat) : Int) := by
      conv => lhs; rw [← map_getD hv]
      unfold wcells
      rw [List.map_map]; rfl
    rw [this]
    exact denL_map _ _ _ fun i hi => D.sym32 (hval _ _ (shaV_v (List.mem_range.1 hi))) (getD_lt hvw (by decide) i)
  have h1 := gen_run envOk (fun {_} => noI_ok _) sha_run (by decide) (shaV v part n) (fun b h1 h2 => shaV_none h1 h2) (sha_lg hvw hpb) w (bl := [hb, tb]) rfl (by simp [hne]) (by decide) ?_ (us := [.pointer (some ⟨hb, 0, none⟩)]) (denL_cons.2 ⟨_, _, den_ptr_mk (x := (hb, 0)) rfl 0, denL_nil _, rfl⟩)
  · refine h1.mono ?_
    rintro e w' ⟨ρ', u, rfl, l1, l2, l3, l4, -⟩
    have p0 := l1.le 0 _ (plOf_at (bl := [hb, tb]) (V := shaV v part n) (i := 0) rfl)
    have p1 := l1.le 1 _ (plOf_at (bl := [hb, tb]) (V := shaV v part n) (i := 1) rfl)
    obtain ⟨us0, a1, a2⟩ := l4 0 hb _ rfl rfl
    obtain ⟨us1, b1, b2⟩ := l4 1 tb _ rfl rfl
    have hR := (rounds_ok (n := n) hvw hpb (f := ρ'.f) kLit 0 s0S (by rw [KS_lit]; rfl) (by decide) (s0_ok hvw)).2
    have up : ∀ {x : SV} {a : Nat}, W ⟨fun _ => none, shaV v part n⟩ x a → W ρ' x a := fun h => ⟨den_mono (ρ := ⟨fun _ => none, shaV v part n⟩) ⟨l1.val, fun _ _ h => by cases h⟩ _ h.1, h.2⟩
    have hR := (rounds_ok (n := n) hvw hpb (f := fun _ => none) kLit 0 s0S (by rw [KS_lit]; rfl) (by decide) (s0_ok hvw)).2
    have q : ∀ {i : Nat} (hi : i < 8) {x : SV} {a : Nat}, W ⟨fun _ => none, shaV v part n⟩ x a → den ρ' (addS (vS i) x) = some (.int .u32 (((v.getD i 0 + a) % 4294967296 : Nat) : Int)) := fun hi _ _ h => (up ((vS_ok hvw hi).add h)).1
    have hend : denL ρ' shaEnd = some (wcells (blockF v part)) := by
      have hv8 : v = [v.getD 0 0, v.getD 1 0, v.getD 2 0, v.getD 3 0, v.getD 4 0, v.getD 5 0, v.getD 6 0, v.getD 7 0] := (map_getD hv).symm
      have e : blockF v part = [(v.getD 0 0 + (rnds KS (ws part 48) 64 (W8.of v)).a) % 4294967296, (v.getD 1 0 + (rnds KS (ws part 48) 64 (W8.of v)).b) % 4294967296, (v.getD 2 0 + (rnds KS (ws part 48) 64 (W8.of v)).c) % 4294967296, (v.getD 3 0 + (rnds KS (ws part 48) 64 (W8.of v)).d) % 4294967296, (v.getD 4 0 + (rnds KS (ws part 48) 64 (W8.of v)).e) % 4294967296, (v.getD 5 0 + (rnds KS (ws part 48) 64 (W8.of v)).f) % 4294967296, (v.getD 6 0 + (rnds KS (ws part 48) 64 (W8.of v)).g) % 4294967296, (v.getD 7 0 + (rnds KS (ws part 48) 64 (W8.of v)).h) % 4294967296] := by
        unfold blockF
        generalize rnds KS (ws part 48) 64 (W8.of v) = R
        conv => lhs; rw [hv8]
        rfl
      rw [e]
      exact denL_cons.2 ⟨_, _, q (by decide) hR.a, denL_cons.2 ⟨_, _, q (by decide) hR.b, denL_cons.2 ⟨_, _, q (by decide) hR.c, denL_cons.2 ⟨_, _, q (by decide) hR.d, denL_cons.2 ⟨_, _, q (by decide) hR.e, denL_cons.2 ⟨_, _, q (by decide) hR.f, denL_cons.2 ⟨_, _, q (by decide) hR.g, denL_cons.2 ⟨_, _, q (by decide) hR.h, denL_nil _, rfl⟩, rfl⟩, rfl⟩, rfl⟩, rfl⟩, rfl⟩, rfl⟩, rfl⟩
    have c0 := fit ρ' shaEnd _ l1.val p1 hend
    rw [show denL ρ' (.ptr 1 0 :: (shaEnd ++ (partS ++ [.sym (.int .u64) 72]))) = some us0 from a1] at c0
    cases c0
    have c1 := hcon ρ'
    rw [show denL ρ' tabS = some us1 from b1] at c1
    cases c1
    refine ⟨?_, ⟨l3.os, l3.tape, l3.output, l3.size, fun k h1 h2 => ?_⟩, a2⟩
    · have : den ρ' (.tup []) = some (.tuple #[]) := den_tup_mk (denL_nil _)
      rw [show den ρ' shaS.v = some (.tuple #[]) from this] at l2
      cases l2; rfl
    · by_cases hk : k = tb
      · subst hk; exact b2.trans hT.symm
      · exact l3.block k h1 (by simp at h2; simp [h2, hk])
  · intro j b x hj hx
    match j with
    | 0 =>
      cases hj; cases hx
      exact ⟨_, fit _ _ _ (fun _ _ h => h) rfl (hvs _ fun _ _ h => h), hH⟩
    | 1 =>
      cases hj; cases hx
      exact ⟨_, hcon _, hT⟩
    | j + 2 => simp at hj
end Go.Proofs.YtodehmognjofhaaGreat
