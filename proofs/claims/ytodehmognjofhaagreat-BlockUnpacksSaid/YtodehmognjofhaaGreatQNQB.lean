/-
  The document's digest of a block: what it comes to, for any words and bytes.
-/
import Derived.Test.YtodehmognjofhaaGreatQNQ1
import Derived.Test.YtodehmognjofhaaGreatQEF
import Derived.Test.YtodehmognjofhaaGreatQNHash
import Derived.Test.YtodehmognjofhaaGreatQNRowY
namespace Go.Proofs.YtodehmognjofhaaGreat
open Go.RowKit

def qV (v part : List Nat) (i : Nat) : Option Value :=
  if i < big then (if i < 8 then some (.int .u32 ((v.getD i 0 : Nat) : Int)) else if i < 72 then some (.int .u8 ((part.getD (i - 8) 0 : Nat) : Int)) else none)
  else if i - big < 670 then some (.int .u32 (((ws part 48).getD ((i - big - 114) / 34) 0 : Nat) : Int))
  else if i - big < 2892 then some (.int .u32 (((ws part 48).getD (16 + (i - big - 670) / 46) 0 : Nat) : Int))
  else if (i - big - 2892) % 59 = 0 then some (.int .u32 (((rnds KS (ws part 48) ((i - big - 2892) / 59 + 1) (W8.of v)).a : Nat) : Int))
  else some (.int .u32 (((rnds KS (ws part 48) ((i - big - 2892) / 59 + 1) (W8.of v)).e : Nat) : Int))
section
variable {v part : List Nat}
theorem qV_v {i : Nat} (h : i < 8) : qV v part i = some (.int .u32 ((v.getD i 0 : Nat) : Int)) := by
  unfold qV
  rw [if_pos (by unfold big; omega), if_pos h]
theorem qV_p {i : Nat} (h : i < 64) : qV v part (8 + i) = some (.int .u8 ((part.getD i 0 : Nat) : Int)) := by
  unfold qV
  rw [if_pos (by unfold big; omega), if_neg (by omega), if_pos (by omega), Nat.add_sub_cancel_left]
theorem qV_none {i : Nat} (h : 80 ≤ i) (h2 : i < big) : qV v part i = none := by
  unfold qV
  rw [if_pos h2, if_neg (by omega), if_neg (by omega)]
theorem qV_w {i : Nat} (h : i < 64) : qV v part (big + qW i) = some (.int .u32 (((ws part 48).getD i 0 : Nat) : Int)) := by
  unfold qV
  rw [if_neg (by omega), Nat.add_sub_cancel_left]
  unfold qW
  by_cases h1 : i < 16
  · rw [if_pos h1, if_pos (by omega), show (114 + 34 * i - 114) / 34 = i by omega]
  · rw [if_neg h1, if_neg (by omega), if_pos (by omega), show 16 + (670 + 46 * (i - 16) - 670) / 46 = i by omega]
theorem qV_a {r : Nat} : qV v part (big + qA r) = some (.int .u32 (((rnds KS (ws part 48) (r + 1) (W8.of v)).a : Nat) : Int)) := by
  unfold qV qA
  rw [if_neg (by omega), Nat.add_sub_cancel_left, if_neg (by omega), if_neg (by omega), if_pos (by omega), show (2892 + 59 * r - 2892) / 59 = r by omega]
theorem qV_e {r : Nat} : qV v part (big + (qA r + 1)) = some (.int .u32 (((rnds KS (ws part 48) (r + 1) (W8.of v)).e : Nat) : Int)) := by
  unfold qV qA
  rw [if_neg (by omega), Nat.add_sub_cancel_left, if_neg (by omega), if_neg (by omega), if_neg (by omega), show (2892 + 59 * r + 1 - 2892) / 59 = r by omega]
end
section
variable {ρ : Pl} {x y : SV} {a b : Nat}
theorem W.or (hx : W ρ x a) (hy : W ρ y b) : W ρ (orS x y) (a ||| b) := ⟨hx.1.or32 hy.1 hx.2 hy.2, Nat.or_lt_two_pow (n := 32) hx.2 hy.2⟩
theorem W.shl (hx : W ρ x a) {n : Nat} (hn : n ≤ 32) : W ρ (.sh .shl .u32 x n) (a * 2 ^ n % 4294967296) := ⟨hx.1.shl32 hn, Nat.mod_lt _ (by decide)⟩
theorem W.qrot (hx : W ρ x a) {n : Nat} (hn : n ≤ 32) : W ρ (qrot x n) (Go.Proofs.YtodehmognjofhaaGreat.rot a n) := (hx.shr hn).or (hx.shl (n := 32 - n) (by omega))
end
theorem R8.qt {ρ : Pl} {s : S8} {t : W8} (r : R8 ρ s t) {k : Nat} (hk : k < 4294967296) {x : SV} {a : Nat} (hx : W ρ x a) : W ρ (qtS s k x) (t.t k a) := by
  have h := ((((r.h.add (((r.e.qrot (n := 6) (by decide)).xor (r.e.qrot (n := 11) (by decide))).xor (r.e.qrot (n := 25) (by decide)))).add ((r.e.and r.f).xor (((W.lit ρ (n := 4294967295) (by decide)).xor r.e).and r.g))).add (W.lit ρ hk)).add hx)
  rw [compl32 _ r.e.2] at h
  refine ⟨?_, Nat.mod_lt _ (by decide)⟩
  have e : t.t k a = ((((t.h + S1 t.e) % 4294967296 + chF t.e t.f t.g) % 4294967296 + k) % 4294967296 + a) % 4294967296 := by
    unfold W8.t
    omega
  rw [e]
  exact h.1
theorem R8.qu {ρ : Pl} {s : S8} {t : W8} (r : R8 ρ s t) : W ρ (quS s) t.u :=
  (((r.a.qrot (n := 2) (by decide)).xor (r.a.qrot (n := 13) (by decide))).xor (r.a.qrot (n := 22) (by decide))).add (((r.a.and r.b).xor (r.a.and r.c)).xor (r.b.and r.c))
section
variable {v part : List Nat} (hv : Words v) (hp : Bytes part)
include hv hp
/-- the rounds' names. -/
theorem qrounds_ok {f : Nat → Option (Nat × Nat)} : ∀ (ks : List Nat) (r : Nat) (s : S8), KS.drop r = ks → r + ks.length = 64 → R8 ⟨f, qV v part⟩ s (rnds KS (ws part 48) r (W8.of v)) →
    (∀ x ∈ (qrounds ks r s).1, ∃ a, W ⟨f, qV v part⟩ x.2.2 a ∧ x.2.1 = .u32 ∧ qV v part (big + x.1) = some (.int .u32 (a : Int))) ∧ R8 ⟨f, qV v part⟩ (qrounds ks r s).2 (rnds KS (ws part 48) 64 (W8.of v))
  | [], r, s, _, hr, h => by
    have : r = 64 := by simpa using hr
    subst this
    exact ⟨by simp [qrounds], h⟩
  | k :: ks, r, s, hk, hr, h => by
    have hr' : r < 64 := by simp at hr; omega
    have hkk : KS.getD r 0 = k := by
      have e : (KS.drop r)[0]? = some k := by rw [hk]; rfl
      rw [List.getElem?_drop] at e
      rw [List.getD_eq_getElem?_getD, show r = r + 0 by omega, e]; rfl
    have hkl : k < 4294967296 := by rw [← hkk]; exact getD_lt KS_lt (by decide) r
    have hx : W ⟨f, qV v part⟩ (Qn r) ((ws part 48).getD r 0) := ⟨D.sym32 (qV_w hr') (getD_lt (ws_lt hp 48) (by decide) r), getD_lt (ws_lt hp 48) (by decide) r⟩
    have ok := rnds_ok KS (ws part 48) (r + 1) (W8.ok_of hv)
    have hstep : rnds KS (ws part 48) (r + 1) (W8.of v) = (rnds KS (ws part 48) r (W8.of v)).step k ((ws part 48).getD r 0) := by
      show (rnds KS (ws part 48) r (W8.of v)).step (KS.getD r 0) _ = _
      rw [hkk]
    have ht := h.qt hkl hx
    have hA : W ⟨f, qV v part⟩ (addS (qtS s k (Qn r)) (quS s)) (rnds KS (ws part 48) (r + 1) (W8.of v)).a := by
      rw [hstep]; exact ht.add h.qu
    have hE : W ⟨f, qV v part⟩ (addS s.d (qtS s k (Qn r))) (rnds KS (ws part 48) (r + 1) (W8.of v)).e := by
      rw [hstep]; exact h.d.add ht
    have h' : R8 ⟨f, qV v part⟩ ⟨nmS (qA r), s.a, s.b, s.c, nmS (qA r + 1), s.e, s.f, s.g⟩ (rnds KS (ws part 48) (r + 1) (W8.of v)) := by
      refine ⟨⟨D.sym32 qV_a ok.a, ok.a⟩, ?_, ?_, ?_, ⟨D.sym32 qV_e ok.e, ok.e⟩, ?_, ?_, ?_⟩
      all_goals rw [hstep]
      · exact h.a
      · exact h.b
      · exact h.c
      · exact h.e
      · exact h.f
      · exact h.g
    obtain ⟨g1, g2⟩ := qrounds_ok ks (r + 1) _ (by rw [← List.drop_drop, hk]; rfl) (by simp at hr; omega) h'
    refine ⟨?_, g2⟩
    intro x hx
    have hx' : x ∈ (qA r, IntKind.u32, addS (qtS s k (Qn r)) (quS s)) :: (qA r + 1, IntKind.u32, addS s.d (qtS s k (Qn r))) :: (qrounds ks (r + 1) ⟨nmS (qA r), s.a, s.b, s.c, nmS (qA r + 1), s.e, s.f, s.g⟩).1 := hx
    rcases List.mem_cons.1 hx' with rfl | hx'
    · exact ⟨_, hA, rfl, qV_a⟩
    rcases List.mem_cons.1 hx' with rfl | hx'
    · exact ⟨_, hE, rfl, qV_e⟩
    exact g1 x hx'
omit hp in
theorem qs0_ok {f : Nat → Option (Nat × Nat)} : R8 ⟨f, qV v part⟩ s0S (W8.of v) := by
  have q : ∀ {i : Nat}, i < 8 → W ⟨f, qV v part⟩ (vS i) (v.getD i 0) := fun hi => ⟨D.sym32 (qV_v hi) (getD_lt hv (by decide) _), getD_lt hv (by decide) _⟩
  exact ⟨q (by decide), q (by decide), q (by decide), q (by decide), q (by decide), q (by decide), q (by decide), q (by decide)⟩
omit hv in
theorem qraw_ok {f : Nat → Option (Nat × Nat)} {i : Nat} (hi : i < 16) : W ⟨f, qV v part⟩ (qraw i) ((ws part 48).getD i 0) := by
  have hb : ∀ k, k < 4 → W ⟨f, qV v part⟩ (qbyte i k) (part.getD (4 * i + k) 0) := by
    intro k hk
    have h1 := getD_lt hp (by decide) (4 * i + k)
    have h2 : qV v part (8 + 4 * i + k) = some (.int .u8 ((part.getD (4 * i + k) 0 : Nat) : Int)) := by
      rw [show 8 + 4 * i + k = 8 + (4 * i + k) by omega]
      exact qV_p (by omega)
    exact ⟨D.cv32 (D.sym8 h2 h1) (by omega), by omega⟩
  have hw : (ws part 48).getD i 0 = wordAt part i := by
    have key : ∀ m, (ws part m)[i]? = some (wordAt part i) := by
      intro m
      induction m with
      | zero => show (w16 part 16)[i]? = _; unfold w16; rw [List.getElem?_map, List.getElem?_range hi]; rfl
      | succ m ih =>
        show (ws part m ++ [nextW (ws part m)])[i]? = _
        rw [List.getElem?_append_left (by rw [ws_len]; omega)]
        exact ih
    rw [List.getD_eq_getElem?_getD, key]; rfl
  rw [hw]
  have b0 := getD_lt hp (by decide) (4 * i)
  have b1 := getD_lt hp (by decide) (4 * i + 1)
  have b2 := getD_lt hp (by decide) (4 * i + 2)
  have b3 := getD_lt hp (by decide) (4 * i + 3)
  have h := ((((hb 0 (by decide)).shl (n := 24) (by decide)).or ((hb 1 (by decide)).shl (n := 16) (by decide))).or ((hb 2 (by decide)).shl (n := 8) (by decide))).or (hb 3 (by decide))
  refine ⟨?_, wordAt_lt hp i⟩
  have e : wordAt part i = part.getD (4 * i + 0) 0 * 2 ^ 24 % 4294967296 ||| part.getD (4 * i + 1) 0 * 2 ^ 16 % 4294967296 ||| part.getD (4 * i + 2) 0 * 2 ^ 8 % 4294967296 ||| part.getD (4 * i + 3) 0 := by
    unfold wordAt wd
    rw [Nat.add_zero]
    generalize part.getD (4 * i) 0 = x0 at b0 ⊢
    generalize part.getD (4 * i + 1) 0 = x1 at b1 ⊢
    generalize part.getD (4 * i + 2) 0 = x2 at b2 ⊢
    generalize part.getD (4 * i + 3) 0 = x3 at b3 ⊢
    rw [Nat.mod_eq_of_lt (show x0 * 2 ^ 24 < 4294967296 by omega), Nat.mod_eq_of_lt (show x1 * 2 ^ 16 < 4294967296 by omega), Nat.mod_eq_of_lt (show x2 * 2 ^ 8 < 4294967296 by omega)]
    have e1 := Nat.two_pow_add_eq_or_of_lt (i := 24) (b := x1 * 2 ^ 16) (by omega) x0
    have e2 := Nat.two_pow_add_eq_or_of_lt (i := 16) (b := x2 * 2 ^ 8) (by omega) (x0 * 256 + x1)
    have e3 := Nat.two_pow_add_eq_or_of_lt (i := 8) (b := x3) (by omega) (x0 * 65536 + x1 * 256 + x2)
    have f1 : x0 * 2 ^ 24 ||| x1 * 2 ^ 16 = 2 ^ 16 * (x0 * 256 + x1) := by rw [Nat.mul_comm x0, ← e1]; omega
    have f2 : 2 ^ 16 * (x0 * 256 + x1) ||| x2 * 2 ^ 8 = 2 ^ 8 * (x0 * 65536 + x1 * 256 + x2) := by rw [← e2]; omega
    rw [f1, f2, ← e3]
    omega
  rw [e]
  exact h.1
omit hv in
theorem qnext_ok {f : Nat → Option (Nat × Nat)} {j : Nat} (hj : j < 48) : W ⟨f, qV v part⟩ (qnext (Qn j) (Qn (j + 9)) (Qn (j + 1)) (Qn (j + 14))) ((ws part 48).getD (16 + j) 0) := by
  have hw : ∀ i, i < 64 → W ⟨f, qV v part⟩ (Qn i) ((ws part 48).getD i 0) := fun i hi => ⟨D.sym32 (qV_w hi) (getD_lt (ws_lt hp 48) (by decide) i), getD_lt (ws_lt hp 48) (by decide) i⟩
  have pre : ∀ m, ∀ i, i < 16 + m → m ≤ 48 → (ws part 48).getD i 0 = (ws part m).getD i 0 := by
    intro m i hi hm
    have key : ∀ d, (ws part (m + d))[i]? = (ws part m)[i]? := by
      intro d
      induction d with
      | zero => rfl
      | succ d ih =>
        show (ws part (m + d) ++ [nextW (ws part (m + d))])[i]? = _
        rw [List.getElem?_append_left (by rw [ws_len]; omega)]
        exact ih
    have := key (48 - m)
    rw [show m + (48 - m) = 48 by omega] at this
    rw [List.getD_eq_getElem?_getD, List.getD_eq_getElem?_getD, this]
  have e1 : (ws part 48).getD (16 + j) 0 = nextW (ws part j) := by
    rw [pre (j + 1) (16 + j) (by omega) (by omega)]
    show (ws part j ++ [nextW (ws part j)]).getD (16 + j) 0 = _
    rw [List.getD_eq_getElem?_getD, List.getElem?_append_right (by rw [ws_len]; omega), ws_len, Nat.sub_self]; rfl
  rw [e1]
  unfold nextW
  rw [ws_len, show 16 + j - 16 = j by omega, show 16 + j - 15 = j + 1 by omega, show 16 + j - 7 = j + 9 by omega, show 16 + j - 2 = j + 14 by omega]
  rw [← pre j j (by omega) (by omega), ← pre j (j + 1) (by omega) (by omega), ← pre j (j + 9) (by omega) (by omega), ← pre j (j + 14) (by omega) (by omega)]
  have h0 := hw j (by omega)
  have h1 := hw (j + 1) (by omega)
  have h9 := hw (j + 9) (by omega)
  have h14 := hw (j + 14) (by omega)
  have h := ((h0.add (((h1.qrot (n := 7) (by decide)).xor (h1.qrot (n := 18) (by decide))).xor (h1.shr (n := 3) (by decide)))).add h9).add (((h14.qrot (n := 17) (by decide)).xor (h14.qrot (n := 19) (by decide))).xor (h14.shr (n := 10) (by decide)))
  refine ⟨?_, Nat.mod_lt _ (by decide)⟩
  have e2 : ∀ a b c d : Nat, (a + b + c + d) % 4294967296 = (((a + b) % 4294967296 + c) % 4294967296 + d) % 4294967296 := by intro a b c d; omega
  rw [e2]
  exact h.1
theorem q_lg (W0 : World) : @LgOk ⟨W0, qV v part⟩ (ofA qLog).get := by
  intro m k e hm
  have hmem := ofA_mem hm
  have fin : ∀ {a : Nat}, W ⟨fun _ => none, qV v part⟩ e a → k = .u32 → qV v part (big + m) = some (.int .u32 (a : Int)) → ∃ u, den ⟨fun _ => none, qV v part⟩ e = some u ∧ qV v part (big + m) = some u ∧ (SK.int k).is u = true := by
    intro a h1 h2 h3
    subst h2
    exact ⟨_, h1.1, h3, is32 h1.2⟩
  unfold qLog at hmem
  rcases List.mem_append.1 hmem with hmem | hmem
  · rcases List.mem_append.1 hmem with hmem | hmem
    · obtain ⟨i, hi, he⟩ := List.mem_map.1 hmem
      cases he
      have hi := List.mem_range.1 hi
      exact fin (qraw_ok hp hi) rfl (qV_w (by omega))
    · obtain ⟨j, hj, he⟩ := List.mem_map.1 hmem
      cases he
      have hj := List.mem_range.1 hj
      exact fin (qnext_ok hp hj) rfl (qV_w (by omega))
  · obtain ⟨a, h1, h2, h3⟩ := (qrounds_ok hv hp (f := fun _ => none) kLit 0 s0S (by rw [KS_lit]; rfl) (by decide) (qs0_ok hv)).1 _ hmem
    exact fin h1 h2 h3
end
set_option maxRecDepth 100000 in
theorem rblock_any (w : World) (vb kb : Nat) (v : List Nat) (s : ByteArray) (hH : At w vb 92 (wcells v)) (hK : At w kb 92 (wcells KS)) (hne : vb ≠ kb) (hv : v.length = 8) (hs : s.size = 64) (hvw : Words v) :
    Calls Tryz.prog 173 #[.slice (some ⟨vb, 0, none⟩) 8 8, .slice (some ⟨kb, 0, none⟩) 64 64, .string s] w fun e w' => ∃ nb, e = .returned (.slice (some ⟨nb, 0, none⟩) 8 8) ∧ w.heap.size ≤ nb ∧ Touch [] w w' ∧ At w' nb 92 (wcells (blockF v (bsOf s))) := by
  have hpb := bsOf_bytes s
  have hp : (bsOf s).length = 64 := by rw [bsOf_len, hs]
  have hst : s = bytesOf (bsOf s) := (bytesOf_bsOf s).symm
  generalize bsOf s = part at hpb hp hst
  subst hst
  have hcon : ∀ ρ : Pl, denL ρ (kLit.map U32) = some (wcells KS) := by
    intro ρ
    rw [KS_lit]
    exact denL_map _ _ _ fun i _ => D.lit ρ .u32 i
  have hvs : ∀ ρ : Pl, (∀ i u, qV v part i = some u → ρ.val i = some u) → denL ρ ((List.range 8).map vS) = some (wcells v) := by
    intro ρ hval
    have : wcells v = (List.range 8).map fun i => Value.int .u32 ((v.getD i 0 : Nat) : Int) := by
      conv => lhs; rw [← map_getD hv]
      unfold wcells
      rw [List.map_map]; rfl
    rw [this]
    exact denL_map _ _ _ fun i hi => D.sym32 (hval _ _ (qV_v (List.mem_range.1 hi))) (getD_lt hvw (by decide) i)
  have hps : denL (plOf [vb, kb] (qV v part)) partS = some (part.map fun (z : Nat) => Value.int .u8 (z : Int)) := by
    have : (part.map fun (z : Nat) => Value.int .u8 (z : Int)) = (List.range 64).map fun i => Value.int .u8 ((part.getD i 0 : Nat) : Int) := by
      conv => lhs; rw [← map_getD hp]
      rw [List.map_map]; rfl
    rw [this]
    exact denL_map _ _ _ fun i hi => D.sym8 (qV_p (List.mem_range.1 hi)) (getD_lt hpb (by decide) i)
  have h1 := gen_new envOk (fun {_} => noI_ok _) q_run (by decide) (qV v part) (fun b h1 h2 => qV_none h1 h2) (q_lg hvw hpb) w (bl := [vb, kb]) rfl (by simp [hne]) (by decide) ?_
    (us := [.slice (some ⟨vb, 0, none⟩) 8 8, .slice (some ⟨kb, 0, none⟩) 64 64, .string (bytesOf part)]) (denL_cons.2 ⟨_, _, den_slc_mk (x := (vb, 0)) rfl _ _ _, denL_cons.2 ⟨_, _, den_slc_mk (x := (kb, 0)) rfl _ _ _, denL_cons.2 ⟨_, _, den_strs_mk hps hpb, denL_nil _, rfl⟩, rfl⟩, rfl⟩)
  · refine h1.mono ?_
    rintro e w' ⟨ρ', u, rfl, l1, l2, l3, l4, l5⟩
    obtain ⟨us0, a1, a2⟩ := l4 0 vb _ rfl rfl
    obtain ⟨us1, b1, b2⟩ := l4 1 kb _ rfl rfl
    obtain ⟨y, us, y1, y2, y3, y4⟩ := l5 (6608, qEnd, 92) (by simp)
    have hR := (qrounds_ok hvw hpb (f := fun _ => none) kLit 0 s0S (by rw [KS_lit]; rfl) (by decide) (qs0_ok hvw)).2
    have up : ∀ {x : SV} {a : Nat}, W ⟨fun _ => none, qV v part⟩ x a → W ρ' x a := fun h => ⟨den_mono (ρ := ⟨fun _ => none, qV v part⟩) ⟨l1.val, fun _ _ h => by cases h⟩ _ h.1, h.2⟩
    have q : ∀ {i : Nat} (hi : i < 8) {x : SV} {a : Nat}, W ⟨fun _ => none, qV v part⟩ x a → den ρ' (addS x (vS i)) = some (.int .u32 (((v.getD i 0 + a) % 4294967296 : Nat) : Int)) := fun hi x a h => by
      rw [Nat.add_comm]
      exact (up (h.add ⟨D.sym32 (qV_v hi) (getD_lt hvw (by decide) _), getD_lt hvw (by decide) _⟩)).1
    have hend : denL ρ' qEnd = some (wcells (blockF v part)) := by
      have hv8 : v = [v.getD 0 0, v.getD 1 0, v.getD 2 0, v.getD 3 0, v.getD 4 0, v.getD 5 0, v.getD 6 0, v.getD 7 0] := (map_getD hv).symm
      have e : blockF v part = [(v.getD 0 0 + (rnds KS (ws part 48) 64 (W8.of v)).a) % 4294967296, (v.getD 1 0 + (rnds KS (ws part 48) 64 (W8.of v)).b) % 4294967296, (v.getD 2 0 + (rnds KS (ws part 48) 64 (W8.of v)).c) % 4294967296, (v.getD 3 0 + (rnds KS (ws part 48) 64 (W8.of v)).d) % 4294967296, (v.getD 4 0 + (rnds KS (ws part 48) 64 (W8.of v)).e) % 4294967296, (v.getD 5 0 + (rnds KS (ws part 48) 64 (W8.of v)).f) % 4294967296, (v.getD 6 0 + (rnds KS (ws part 48) 64 (W8.of v)).g) % 4294967296, (v.getD 7 0 + (rnds KS (ws part 48) 64 (W8.of v)).h) % 4294967296] := by
        unfold blockF
        generalize rnds KS (ws part 48) 64 (W8.of v) = R
        conv => lhs; rw [hv8]
        rfl
      rw [e]
      exact denL_cons.2 ⟨_, _, q (by decide) hR.a, denL_cons.2 ⟨_, _, q (by decide) hR.b, denL_cons.2 ⟨_, _, q (by decide) hR.c, denL_cons.2 ⟨_, _, q (by decide) hR.d, denL_cons.2 ⟨_, _, q (by decide) hR.e, denL_cons.2 ⟨_, _, q (by decide) hR.f, denL_cons.2 ⟨_, _, q (by decide) hR.g, denL_cons.2 ⟨_, _, q (by decide) hR.h, denL_nil _, rfl⟩, rfl⟩, rfl⟩, rfl⟩, rfl⟩, rfl⟩, rfl⟩, rfl⟩
    rw [show denL ρ' qEnd = some us from y2] at hend
    cases hend
    have c0 := hvs ρ' l1.val
    rw [show denL ρ' ((List.range 8).map vS) = some us0 from a1] at c0
    cases c0
    have c1 := hcon ρ'
    rw [show denL ρ' (kLit.map U32) = some us1 from b1] at c1
    cases c1
    have hy := y4.resolve_right (by decide)
    refine ⟨y.1, ?_, hy, ⟨l3.os, l3.tape, l3.output, l3.size, fun k h1 h2 => ?_⟩, y3⟩
    · have : den ρ' (.slc 6608 0 8 8) = some (.slice (some ⟨y.1, 0, none⟩) 8 8) := den_slc_mk y1 _ _ _
      rw [show den ρ' qS.v = some (.slice (some ⟨y.1, 0, none⟩) 8 8) from this] at l2
      cases l2; rfl
    · by_cases hk : k = vb
      · subst hk; exact a2.trans hH.symm
      · by_cases hk2 : k = kb
        · subst hk2; exact b2.trans hK.symm
        · exact l3.block k h1 (by simp [hk, hk2])
  · intro j b x hj hx
    match j with
    | 0 =>
      cases hj; cases hx
      exact ⟨_, hvs _ fun _ _ h => h, hH⟩
    | 1 =>
      cases hj; cases hx
      exact ⟨_, hcon _, hK⟩
    | j + 2 => simp at hj
end Go.Proofs.YtodehmognjofhaaGreat

namespace Go.Proofs.YtodehmognjofhaaGreat
open Go.RowKit

def begS : Smy where
  f := 171
  args := []
  blks := []
  nx0 := 0
  log := []
  v := .slc 0 0 8 8
def conS : Smy where
  f := 172
  args := []
  blks := []
  nx0 := 0
  log := []
  v := .slc 0 0 64 64
set_option maxRecDepth 1000000 in
theorem beg_run : genOk env0 (fun _ _ _ _ => none) 100000 0 0 begS [(0, vLit.map U32, 92)] = true := by decide +kernel
set_option maxRecDepth 1000000 in
theorem con_run : genOk env0 (fun _ _ _ _ => none) 100000 0 0 conS [(0, kLit.map U32, 92)] = true := by decide +kernel
theorem beg_any (w : World) : Calls Tryz.prog 171 #[] w fun e w' => ∃ b, e = .returned (.slice (some ⟨b, 0, none⟩) 8 8) ∧ w.heap.size ≤ b ∧ Touch [] w w' ∧ At w' b 92 (wcells VS) := by
  refine (gen_new envOk (fun {_} => noI_ok _) beg_run (by decide) (fun _ => none) (fun _ _ _ => rfl) (fun W n k e h => by rw [show (ofA begS.log).get n = none from T.get_leaf n] at h; cases h) w (bl := []) rfl (by simp) (by decide) (fun j b x hj _ => by simp at hj) (us := []) (denL_nil _)).mono ?_
  rintro e w' ⟨ρ', u, rfl, l1, l2, l3, -, l5⟩
  obtain ⟨y, us, y1, y2, y3, y4⟩ := l5 (0, vLit.map U32, 92) (by simp)
  have hd : denL ρ' (vLit.map U32) = some (wcells VS) := by
    rw [VS_lit]
    exact denL_map _ _ _ fun i _ => D.lit ρ' .u32 i
  rw [show denL ρ' (vLit.map U32) = some us from y2] at hd
  cases hd
  have hv : den ρ' (.slc 0 0 8 8) = some (.slice (some ⟨y.1, 0, none⟩) 8 8) := den_slc_mk y1 _ _ _
  rw [show den ρ' begS.v = some (.slice (some ⟨y.1, 0, none⟩) 8 8) from hv] at l2
  cases l2
  exact ⟨y.1, rfl, y4.resolve_right (by decide), l3, y3⟩
theorem con_any (w : World) : Calls Tryz.prog 172 #[] w fun e w' => ∃ b, e = .returned (.slice (some ⟨b, 0, none⟩) 64 64) ∧ w.heap.size ≤ b ∧ Touch [] w w' ∧ At w' b 92 (wcells KS) := by
  refine (gen_new envOk (fun {_} => noI_ok _) con_run (by decide) (fun _ => none) (fun _ _ _ => rfl) (fun W n k e h => by rw [show (ofA conS.log).get n = none from T.get_leaf n] at h; cases h) w (bl := []) rfl (by simp) (by decide) (fun j b x hj _ => by simp at hj) (us := []) (denL_nil _)).mono ?_
  rintro e w' ⟨ρ', u, rfl, l1, l2, l3, -, l5⟩
  obtain ⟨y, us, y1, y2, y3, y4⟩ := l5 (0, kLit.map U32, 92) (by simp)
  have hd : denL ρ' (kLit.map U32) = some (wcells KS) := by
    rw [KS_lit]
    exact denL_map _ _ _ fun i _ => D.lit ρ' .u32 i
  rw [show denL ρ' (kLit.map U32) = some us from y2] at hd
  cases hd
  have hv : den ρ' (.slc 0 0 64 64) = some (.slice (some ⟨y.1, 0, none⟩) 64 64) := den_slc_mk y1 _ _ _
  rw [show den ρ' conS.v = some (.slice (some ⟨y.1, 0, none⟩) 64 64) from hv] at l2
  cases l2
  exact ⟨y.1, rfl, y4.resolve_right (by decide), l3, y3⟩
end Go.Proofs.YtodehmognjofhaaGreat
