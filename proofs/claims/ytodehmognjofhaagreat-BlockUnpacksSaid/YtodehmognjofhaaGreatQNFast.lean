/-
  The program's digest: as the kernel runs it fast (printed by genfast.py).
-/
import Derived.Test.YtodehmognjofhaaGreatQNTurn3
namespace Go.Proofs.YtodehmognjofhaaGreat
open Go.RowKit

noncomputable def uncons {α : Sort 1} (b : α) (l : List Nat) (K : Nat → List Nat → α) : α := List.rec (motive := fun _ => α) b (fun x t _ => K x t) l

noncomputable def S0X (x : Nat) : Nat := Nat.xor (Nat.xor (Nat.lor (Nat.div x 4) (Nat.mod (Nat.mul x 1073741824) 4294967296)) (Nat.lor (Nat.div x 8192) (Nat.mod (Nat.mul x 524288) 4294967296))) (Nat.lor (Nat.div x 4194304) (Nat.mod (Nat.mul x 1024) 4294967296))
noncomputable def S1X (x : Nat) : Nat := Nat.xor (Nat.xor (Nat.lor (Nat.div x 64) (Nat.mod (Nat.mul x 67108864) 4294967296)) (Nat.lor (Nat.div x 2048) (Nat.mod (Nat.mul x 2097152) 4294967296))) (Nat.lor (Nat.div x 33554432) (Nat.mod (Nat.mul x 128) 4294967296))
noncomputable def s0X (x : Nat) : Nat := Nat.xor (Nat.xor (Nat.lor (Nat.div x 128) (Nat.mod (Nat.mul x 33554432) 4294967296)) (Nat.lor (Nat.div x 262144) (Nat.mod (Nat.mul x 16384) 4294967296))) (Nat.div x 8)
noncomputable def s1X (x : Nat) : Nat := Nat.xor (Nat.xor (Nat.lor (Nat.div x 131072) (Nat.mod (Nat.mul x 32768) 4294967296)) (Nat.lor (Nat.div x 524288) (Nat.mod (Nat.mul x 8192) 4294967296))) (Nat.div x 1024)
noncomputable def T1X (e f g h k w : Nat) : Nat := Nat.mod (Nat.add (Nat.add (Nat.add (Nat.add h (S1X e)) (Nat.xor (Nat.land e f) (Nat.land (Nat.sub 4294967295 e) g))) k) w) 4294967296
noncomputable def T2X (a b c : Nat) : Nat := Nat.mod (Nat.add (S0X a) (Nat.xor (Nat.xor (Nat.land a b) (Nat.land a c)) (Nat.land b c))) 4294967296
noncomputable def nxX (x y z u : Nat) : Nat := Nat.mod (Nat.add (Nat.add (Nat.add x (s0X y)) z) (s1X u)) 4294967296
theorem S0X_eq (x : Nat) : S0X x = S0 x := rfl
theorem S1X_eq (x : Nat) : S1X x = S1 x := rfl
theorem s0X_eq (x : Nat) : s0X x = sig0 x := rfl
theorem s1X_eq (x : Nat) : s1X x = sig1 x := rfl
noncomputable def rndX (ks : List Nat) : Nat → Nat → Nat → Nat → Nat → Nat → Nat → Nat → Nat → Nat → Nat → Nat → Nat → Nat → Nat → Nat → Nat → Nat → Nat → Nat → Nat → Nat → Nat → Nat → List Nat := List.rec (motive := fun _ => Nat → Nat → Nat → Nat → Nat → Nat → Nat → Nat → Nat → Nat → Nat → Nat → Nat → Nat → Nat → Nat → Nat → Nat → Nat → Nat → Nat → Nat → Nat → Nat → List Nat) (fun a b c d e f g h _ _ _ _ _ _ _ _ _ _ _ _ _ _ _ _ => [a, b, c, d, e, f, g, h]) (fun k _ ih a b c d e f g h w0 w1 w2 w3 w4 w5 w6 w7 w8 w9 w10 w11 w12 w13 w14 w15 => (fun t => ih (Nat.mod (Nat.add t (T2X a b c)) 4294967296) a b c (Nat.mod (Nat.add d t) 4294967296) e f g w1 w2 w3 w4 w5 w6 w7 w8 w9 w10 w11 w12 w13 w14 w15 (nxX w0 w1 w9 w14)) (T1X e f g h k w0)) ks

theorem ws_more (l : List Nat) (m : Nat) : ∀ n i, i < 16 + m → (ws l (m + n)).getD i 0 = (ws l m).getD i 0
  | 0, _, _ => rfl
  | n + 1, i, h => by
    rw [← Nat.add_assoc]
    show (ws l (m + n) ++ [nextW (ws l (m + n))]).getD i 0 = _
    rw [List.getD_eq_getElem?_getD, List.getElem?_append_left (by rw [ws_len]; omega), ← List.getD_eq_getElem?_getD]
    exact ws_more l m n i h
theorem ws_next (l : List Nat) (n m : Nat) (h : n < m) : (ws l m).getD (n + 16) 0 = nxX ((ws l m).getD n 0) ((ws l m).getD (n + 1) 0) ((ws l m).getD (n + 9) 0) ((ws l m).getD (n + 14) 0) := by
  obtain ⟨d, rfl⟩ : ∃ d, m = (n + 1) + d := ⟨m - (n + 1), by omega⟩
  have e : ∀ i, i < 16 + n → (ws l (n + 1 + d)).getD i 0 = (ws l n).getD i 0 := fun i hi => by rw [show n + 1 + d = n + (1 + d) by omega]; exact ws_more l n (1 + d) i hi
  rw [ws_more l (n + 1) d (n + 16) (by omega), e n (by omega), e (n + 1) (by omega), e (n + 9) (by omega), e (n + 14) (by omega)]
  show (ws l n ++ [nextW (ws l n)]).getD (n + 16) 0 = _
  rw [List.getD_eq_getElem?_getD, List.getElem?_append_right (by rw [ws_len]; omega), ws_len, show n + 16 - (16 + n) = 0 by omega]
  show nextW (ws l n) = _
  unfold nextW
  rw [ws_len, show 16 + n - 16 = n by omega, show 16 + n - 15 = n + 1 by omega, show 16 + n - 7 = n + 9 by omega, show 16 + n - 2 = n + 14 by omega]
  rfl
theorem rnds_congr (ks : List Nat) {xs ys : List Nat} : ∀ n s, (∀ i, i < n → xs.getD i 0 = ys.getD i 0) → rnds ks xs n s = rnds ks ys n s
  | 0, _, _ => rfl
  | n + 1, s, h => by
    unfold rnds
    rw [rnds_congr ks n s (fun i hi => h i (by omega)), h n (by omega)]

theorem rndX_eq (xs : List Nat) (hx : ∀ n, n < 64 → xs.getD (n + 16) 0 = nxX (xs.getD n 0) (xs.getD (n + 1) 0) (xs.getD (n + 9) 0) (xs.getD (n + 14) 0)) (s : W8) (ks : List Nat) : ∀ (j : Nat), ks = kLit.drop j → j + ks.length = 64 → rndX ks (rnds kLit xs j s).a (rnds kLit xs j s).b (rnds kLit xs j s).c (rnds kLit xs j s).d (rnds kLit xs j s).e (rnds kLit xs j s).f (rnds kLit xs j s).g (rnds kLit xs j s).h (xs.getD j 0) (xs.getD (j + 1) 0) (xs.getD (j + 2) 0) (xs.getD (j + 3) 0) (xs.getD (j + 4) 0) (xs.getD (j + 5) 0) (xs.getD (j + 6) 0) (xs.getD (j + 7) 0) (xs.getD (j + 8) 0) (xs.getD (j + 9) 0) (xs.getD (j + 10) 0) (xs.getD (j + 11) 0) (xs.getD (j + 12) 0) (xs.getD (j + 13) 0) (xs.getD (j + 14) 0) (xs.getD (j + 15) 0) = (rnds kLit xs 64 s).list := by
  induction ks with
  | nil =>
    intro j hk hj
    obtain rfl : j = 64 := by simpa using hj
    rfl
  | cons k t ih =>
    intro j hk hj
    have hlt : j < 64 := by simp at hj; omega
    have h1 : kLit.getD j 0 = k := by
      have := congrArg (fun l => l[0]?) hk
      simp only [List.getElem?_cons_zero, List.getElem?_drop, Nat.add_zero] at this
      rw [List.getD_eq_getElem?_getD, ← this]; rfl
    have h2 : t = kLit.drop (j + 1) := by
      have := congrArg List.tail hk
      simpa using this
    have ih := ih (j + 1) h2 (by simp at hj; omega)
    have hs : rnds kLit xs (j + 1) s = (rnds kLit xs j s).step k (xs.getD j 0) := by
      show (rnds kLit xs j s).step (kLit.getD j 0) _ = _
      rw [h1]
    rw [hs] at ih
    have hn := hx j hlt
    rw [← ih]
    simp only [Nat.add_assoc, Nat.reduceAdd] at hn ⊢
    rw [hn]
    generalize rnds kLit xs j s = r
    rfl
/-- the words of 64 bytes. -/
noncomputable def takeW (l : List Nat) (K : Nat → List Nat → List Nat) : List Nat := uncons [] l fun a l => uncons [] l fun b l => uncons [] l fun c l => uncons [] l fun d l => K (Nat.add (Nat.add (Nat.add (Nat.mul a 16777216) (Nat.mul b 65536)) (Nat.mul c 256)) d) l
theorem takeW_eq {l : List Nat} (h : 4 ≤ l.length) (K : Nat → List Nat → List Nat) : takeW l K = K (wordAt l 0) (l.drop 4) := by
  match l, h with
  | a :: b :: c :: d :: l, _ => rfl
theorem wordAt_drop (l : List Nat) (k : Nat) : wordAt (l.drop (4 * k)) 0 = wordAt l k := by
  unfold wordAt
  simp only [List.getD_eq_getElem?_getD, List.getElem?_drop]
  rfl

noncomputable def take16 (l : List Nat) (K : Nat → Nat → Nat → Nat → Nat → Nat → Nat → Nat → Nat → Nat → Nat → Nat → Nat → Nat → Nat → Nat → List Nat → List Nat) : List Nat := takeW l fun w0 l => takeW l fun w1 l => takeW l fun w2 l => takeW l fun w3 l => takeW l fun w4 l => takeW l fun w5 l => takeW l fun w6 l => takeW l fun w7 l => takeW l fun w8 l => takeW l fun w9 l => takeW l fun w10 l => takeW l fun w11 l => takeW l fun w12 l => takeW l fun w13 l => takeW l fun w14 l => takeW l fun w15 l => K w0 w1 w2 w3 w4 w5 w6 w7 w8 w9 w10 w11 w12 w13 w14 w15 l
theorem take16_eq {l : List Nat} (h : 64 ≤ l.length) (K : Nat → Nat → Nat → Nat → Nat → Nat → Nat → Nat → Nat → Nat → Nat → Nat → Nat → Nat → Nat → Nat → List Nat → List Nat) : take16 l K = K (wordAt l 0) (wordAt l 1) (wordAt l 2) (wordAt l 3) (wordAt l 4) (wordAt l 5) (wordAt l 6) (wordAt l 7) (wordAt l 8) (wordAt l 9) (wordAt l 10) (wordAt l 11) (wordAt l 12) (wordAt l 13) (wordAt l 14) (wordAt l 15) (l.drop 64) := by
  have e : ∀ k, (l.drop (4 * k)).drop 4 = l.drop (4 * (k + 1)) := fun k => by rw [List.drop_drop]; congr 1
  have hl : ∀ k, k < 16 → 4 ≤ (l.drop (4 * k)).length := fun k hk => by rw [List.length_drop]; omega
  have st : ∀ k, k < 16 → ∀ (K : Nat → List Nat → List Nat), takeW (l.drop (4 * k)) K = K (wordAt l k) (l.drop (4 * (k + 1))) := fun k hk K => by rw [takeW_eq (hl k hk), wordAt_drop, e]
  have h0 : l = l.drop (4 * 0) := rfl
  unfold take16
  conv => lhs; rw [h0]
  rw [st 0 (by decide), st 1 (by decide), st 2 (by decide), st 3 (by decide), st 4 (by decide), st 5 (by decide), st 6 (by decide), st 7 (by decide), st 8 (by decide), st 9 (by decide), st 10 (by decide), st 11 (by decide), st 12 (by decide), st 13 (by decide), st 14 (by decide), st 15 (by decide)]

noncomputable def un8 (l : List Nat) (K : Nat → Nat → Nat → Nat → Nat → Nat → Nat → Nat → List Nat) : List Nat := uncons [] l fun v0 l => uncons [] l fun v1 l => uncons [] l fun v2 l => uncons [] l fun v3 l => uncons [] l fun v4 l => uncons [] l fun v5 l => uncons [] l fun v6 l => uncons [] l fun v7 _ => K v0 v1 v2 v3 v4 v5 v6 v7
theorem un8_eq {l : List Nat} (h : l.length = 8) (K : Nat → Nat → Nat → Nat → Nat → Nat → Nat → Nat → List Nat) : un8 l K = K (l.getD 0 0) (l.getD 1 0) (l.getD 2 0) (l.getD 3 0) (l.getD 4 0) (l.getD 5 0) (l.getD 6 0) (l.getD 7 0) := by
  match l, h with
  | [v0, v1, v2, v3, v4, v5, v6, v7], _ => rfl
noncomputable def adX (a b : Nat) : Nat := Nat.mod (Nat.add a b) 4294967296
theorem adX_eq (a b : Nat) : adX a b = (a + b) % 4294967296 := rfl
noncomputable def blkX (v : List Nat) (w0 : Nat) (w1 : Nat) (w2 : Nat) (w3 : Nat) (w4 : Nat) (w5 : Nat) (w6 : Nat) (w7 : Nat) (w8 : Nat) (w9 : Nat) (w10 : Nat) (w11 : Nat) (w12 : Nat) (w13 : Nat) (w14 : Nat) (w15 : Nat) : List Nat := un8 v fun v0 v1 v2 v3 v4 v5 v6 v7 => un8 (rndX kLit v0 v1 v2 v3 v4 v5 v6 v7 w0 w1 w2 w3 w4 w5 w6 w7 w8 w9 w10 w11 w12 w13 w14 w15) fun a b c d e f g h => [adX v0 a, adX v1 b, adX v2 c, adX v3 d, adX v4 e, adX v5 f, adX v6 g, adX v7 h]
theorem blkX_eq {v : List Nat} (l : List Nat) (hv : v.length = 8) : blkX v (wordAt l 0) (wordAt l 1) (wordAt l 2) (wordAt l 3) (wordAt l 4) (wordAt l 5) (wordAt l 6) (wordAt l 7) (wordAt l 8) (wordAt l 9) (wordAt l 10) (wordAt l 11) (wordAt l 12) (wordAt l 13) (wordAt l 14) (wordAt l 15) = blockF v l := by
  match v, hv with
  | [v0, v1, v2, v3, v4, v5, v6, v7], _ =>
  have hu : ∀ K : Nat → Nat → Nat → Nat → Nat → Nat → Nat → Nat → List Nat, un8 [v0, v1, v2, v3, v4, v5, v6, v7] K = K v0 v1 v2 v3 v4 v5 v6 v7 := fun _ => rfl
  unfold blkX
  rw [hu]
  have h := rndX_eq (ws l 64) (fun n hn => ws_next l n 64 hn) (W8.of [v0, v1, v2, v3, v4, v5, v6, v7]) kLit 0 rfl rfl
  have e : ∀ i, i < 16 → (ws l 64).getD i 0 = wordAt l i := fun i hi => by
    have h1 := ws_more l 0 64 i (by omega)
    rw [Nat.zero_add] at h1
    rw [h1]
    show (w16 l 16).getD i 0 = _
    unfold w16
    rw [List.getD_eq_getElem?_getD, List.getElem?_map, List.getElem?_range hi]; rfl
  have e' : ∀ i, i < 16 → (ws l 64).getD (0 + i) 0 = wordAt l i := fun i hi => by rw [Nat.zero_add]; exact e i hi
  rw [e 0 (by decide), e' 1 (by decide), e' 2 (by decide), e' 3 (by decide), e' 4 (by decide), e' 5 (by decide), e' 6 (by decide), e' 7 (by decide), e' 8 (by decide), e' 9 (by decide), e' 10 (by decide), e' 11 (by decide), e' 12 (by decide), e' 13 (by decide), e' 14 (by decide), e' 15 (by decide)] at h
  generalize hr : rnds kLit (ws l 64) 64 (W8.of [v0, v1, v2, v3, v4, v5, v6, v7]) = r at h
  have h' : rndX kLit v0 v1 v2 v3 v4 v5 v6 v7 (wordAt l 0) (wordAt l 1) (wordAt l 2) (wordAt l 3) (wordAt l 4) (wordAt l 5) (wordAt l 6) (wordAt l 7) (wordAt l 8) (wordAt l 9) (wordAt l 10) (wordAt l 11) (wordAt l 12) (wordAt l 13) (wordAt l 14) (wordAt l 15) = r.list := h
  have hu2 : ∀ K : Nat → Nat → Nat → Nat → Nat → Nat → Nat → Nat → List Nat, un8 r.list K = K r.a r.b r.c r.d r.e r.f r.g r.h := fun _ => rfl
  rw [h', hu2]
  unfold blockF
  rw [KS_lit, rnds_congr kLit (xs := ws l 48) (ys := ws l 64) 64 _ (fun i hi => by have := ws_more l 48 16 i (by omega); exact this.symm), hr]
  clear h h' hr e e' hu hu2
  simp only [adX_eq, addW, W8.list, List.zipWith_cons_cons, List.zipWith_nil_left]

/-- so many blocks. -/
noncomputable def blksX (n : Nat) (v l : List Nat) : List Nat := Nat.rec (motive := fun _ => List Nat → List Nat → List Nat) (fun v _ => v) (fun _ ih v l => take16 l fun w0 w1 w2 w3 w4 w5 w6 w7 w8 w9 w10 w11 w12 w13 w14 w15 l => ih (blkX v w0 w1 w2 w3 w4 w5 w6 w7 w8 w9 w10 w11 w12 w13 w14 w15) l) n v l
def bg (v l : List Nat) : Nat → List Nat
  | 0 => v
  | k + 1 => blockF (bg v l k) ((l.drop (64 * k)).take 64)
theorem bg_front (v l : List Nat) : ∀ n, bg v l (n + 1) = bg (blockF v (l.take 64)) (l.drop 64) n
  | 0 => rfl
  | n + 1 => by
    show blockF (bg v l (n + 1)) _ = blockF (bg _ _ n) _
    rw [bg_front v l n, List.drop_drop, show 64 + 64 * n = 64 * (n + 1) by omega]
theorem bg_bf (l : List Nat) : ∀ n, bg VS l n = bf l n
  | 0 => rfl
  | n + 1 => by
    show blockF (bg VS l n) _ = blockF (bf l n) _
    rw [bg_bf l n]
theorem wordAt_take {l : List Nat} (i : Nat) (hi : i < 16) : wordAt (l.take 64) i = wordAt l i := by
  have e : ∀ j, j < 64 → (l.take 64).getD j 0 = l.getD j 0 := fun j hj => by rw [List.getD_eq_getElem?_getD, List.getElem?_take, if_pos hj, ← List.getD_eq_getElem?_getD]
  unfold wordAt
  rw [e _ (by omega), e _ (by omega), e _ (by omega), e _ (by omega)]
theorem blksX_eq : ∀ (n : Nat) (v l : List Nat), v.length = 8 → 64 * n ≤ l.length → blksX n v l = bg v l n
  | 0, _, _, _, _ => rfl
  | n + 1, v, l, hv, hl => by
    show (take16 l fun w0 w1 w2 w3 w4 w5 w6 w7 w8 w9 w10 w11 w12 w13 w14 w15 l => blksX n (blkX v w0 w1 w2 w3 w4 w5 w6 w7 w8 w9 w10 w11 w12 w13 w14 w15) l) = _
    rw [take16_eq (by omega), bg_front]
    have h := blkX_eq (v := v) (l.take 64) hv
    simp only [wordAt_take _ (by decide : 0 < 16), wordAt_take _ (by decide : 1 < 16), wordAt_take _ (by decide : 2 < 16), wordAt_take _ (by decide : 3 < 16), wordAt_take _ (by decide : 4 < 16), wordAt_take _ (by decide : 5 < 16), wordAt_take _ (by decide : 6 < 16), wordAt_take _ (by decide : 7 < 16), wordAt_take _ (by decide : 8 < 16), wordAt_take _ (by decide : 9 < 16), wordAt_take _ (by decide : 10 < 16), wordAt_take _ (by decide : 11 < 16), wordAt_take _ (by decide : 12 < 16), wordAt_take _ (by decide : 13 < 16), wordAt_take _ (by decide : 14 < 16), wordAt_take _ (by decide : 15 < 16)] at h
    rw [h]
    exact blksX_eq n _ _ (blockF_len _ _ hv) (by rw [List.length_drop]; omega)

noncomputable def outX (v : List Nat) : List Nat := un8 v fun a b c d e f g h => [Nat.mod (Nat.div a 16777216) 256, Nat.mod (Nat.div a 65536) 256, Nat.mod (Nat.div a 256) 256, Nat.mod (Nat.div a 1) 256, Nat.mod (Nat.div b 16777216) 256, Nat.mod (Nat.div b 65536) 256, Nat.mod (Nat.div b 256) 256, Nat.mod (Nat.div b 1) 256, Nat.mod (Nat.div c 16777216) 256, Nat.mod (Nat.div c 65536) 256, Nat.mod (Nat.div c 256) 256, Nat.mod (Nat.div c 1) 256, Nat.mod (Nat.div d 16777216) 256, Nat.mod (Nat.div d 65536) 256, Nat.mod (Nat.div d 256) 256, Nat.mod (Nat.div d 1) 256, Nat.mod (Nat.div e 16777216) 256, Nat.mod (Nat.div e 65536) 256, Nat.mod (Nat.div e 256) 256, Nat.mod (Nat.div e 1) 256, Nat.mod (Nat.div f 16777216) 256, Nat.mod (Nat.div f 65536) 256, Nat.mod (Nat.div f 256) 256, Nat.mod (Nat.div f 1) 256, Nat.mod (Nat.div g 16777216) 256, Nat.mod (Nat.div g 65536) 256, Nat.mod (Nat.div g 256) 256, Nat.mod (Nat.div g 1) 256, Nat.mod (Nat.div h 16777216) 256, Nat.mod (Nat.div h 65536) 256, Nat.mod (Nat.div h 256) 256, Nat.mod (Nat.div h 1) 256]
theorem outX_eq {v : List Nat} (h : v.length = 8) : outX v = outF v := by
  match v, h with
  | [v0, v1, v2, v3, v4, v5, v6, v7], _ => rfl
noncomputable def repX (n : Nat) : List Nat := Nat.rec (motive := fun _ => List Nat) [] (fun _ ih => 0 :: ih) n
theorem repX_eq : ∀ n, repX n = List.replicate n 0
  | 0 => rfl
  | n + 1 => by show 0 :: repX n = _; rw [repX_eq n]; rfl
noncomputable def be8X (n : Nat) : List Nat := [Nat.mod (Nat.div n 72057594037927936) 256, Nat.mod (Nat.div n 281474976710656) 256, Nat.mod (Nat.div n 1099511627776) 256, Nat.mod (Nat.div n 4294967296) 256, Nat.mod (Nat.div n 16777216) 256, Nat.mod (Nat.div n 65536) 256, Nat.mod (Nat.div n 256) 256, Nat.mod (Nat.div n 1) 256]
theorem be8X_eq (n : Nat) : be8X n = be8 n := rfl
noncomputable def padX (m : List Nat) (n : Nat) : List Nat := app m (128 :: app (repX (Nat.mod (Nat.sub 119 (Nat.mod n 64)) 64)) (be8X (Nat.mul 8 n)))
theorem padX_eq (m : List Nat) : padX m m.length = padF m := by
  unfold padX padF
  rw [app_ok, app_ok, repX_eq, be8X_eq]
  simp only [List.append_assoc, List.cons_append]
  rfl
/-- the digest, fast. -/
noncomputable def shaX (m : List Nat) : List Nat := (fun n => outX (blksX (Nat.div (Nat.add n 72) 64) vLit (padX m n))) (len m)
theorem shaX_eq (m : List Nat) : shaX m = shaF m := by
  have hl : (padF m).length = m.length + 1 + (119 - m.length % 64) % 64 + 8 := by
    unfold padF padN
    simp only [List.length_append, List.length_cons, List.length_replicate, be8_len]
    omega
  have hd : (m.length + 72) / 64 = (padF m).length / 64 := by rw [hl]; omega
  show outX (blksX ((len m + 72) / 64) vLit (padX m (len m))) = _
  rw [len_ok, padX_eq, hd, blksX_eq _ _ _ rfl (by omega), ← VS_lit, bg_bf, outX_eq (bf_len _ _)]
  rfl
end Go.Proofs.YtodehmognjofhaaGreat
