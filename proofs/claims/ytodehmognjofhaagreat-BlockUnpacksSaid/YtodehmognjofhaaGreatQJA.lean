/-
  A record in plain words: its bytes, and what bytes say.
-/
import Derived.Test.YtodehmognjofhaaGreatQNMac
namespace Go.Proofs.YtodehmognjofhaaGreat
open Go.RowKit

/-- so many bytes of a number, the lowest first; the number that bytes say so. -/
def leL (n x : Nat) : List Nat := (List.range n).map fun i => x / 2 ^ (8 * i) % 256
def leV : List Nat → Nat
  | [] => 0
  | a :: l => a + 256 * leV l
theorem leL_len (n x : Nat) : (leL n x).length = n := by simp [leL]
theorem leL_bytes (n x : Nat) : Bytes (leL n x) := by
  intro y hy
  obtain ⟨i, -, rfl⟩ := List.mem_map.1 hy
  exact Nat.mod_lt _ (by decide)
theorem leL_get {n : Nat} (x : Nat) {k : Nat} (h : k < n) : (leL n x).getD k 0 = x / 2 ^ (8 * k) % 256 := by
  unfold leL
  rw [List.getD_eq_getElem?_getD, List.getElem?_map, List.getElem?_range h]; rfl
theorem leL_succ (n x : Nat) : leL (n + 1) x = x % 256 :: leL n (x / 256) := by
  unfold leL
  rw [List.range_succ_eq_map, List.map_cons, List.map_map]
  congr 1
  · simp
  · refine List.map_congr_left fun i _ => ?_
    show x / 2 ^ (8 * (i + 1)) % 256 = _
    rw [Nat.div_div_eq_div_mul, show 8 * (i + 1) = 8 + 8 * i by omega, Nat.pow_add]
theorem leV_lt : ∀ (l : List Nat), Bytes l → leV l < 256 ^ l.length
  | [], _ => by simp [leV]
  | a :: l, h => by
    have h1 := leV_lt l fun x hx => h x (List.mem_cons_of_mem _ hx)
    have h2 : a < 256 := h a List.mem_cons_self
    rw [List.length_cons, Nat.pow_succ]
    unfold leV
    omega
theorem leV_leL : ∀ (n x : Nat), x < 256 ^ n → leV (leL n x) = x
  | 0, x, h => by
    have : x = 0 := by simpa using h
    subst this; rfl
  | n + 1, x, h => by
    rw [leL_succ]
    unfold leV
    rw [leV_leL n (x / 256) (by rw [Nat.pow_succ] at h; omega)]
    omega
theorem leL_leV : ∀ (l : List Nat), Bytes l → leL l.length (leV l) = l
  | [], _ => rfl
  | a :: l, h => by
    have h2 : a < 256 := h a List.mem_cons_self
    rw [List.length_cons, leL_succ]
    unfold leV
    rw [show (a + 256 * leV l) % 256 = a by omega, show (a + 256 * leV l) / 256 = leV l by omega, leL_leV l fun x hx => h x (List.mem_cons_of_mem _ hx)]

theorem bsJ_at (s : ByteArray) {k : Nat} (h : k < s.size) : (bsOf s).getD k 0 = (s[k]).toNat := by
  unfold bsOf
  rw [List.getD_eq_getElem?_getD, List.getElem?_map, List.getElem?_eq_getElem (by simpa using h)]
  rfl
/-- a record. -/
structure RecJ where
  ep : Nat
  root : ByteArray
  sum : ByteArray
  bl : List Int
/-- the first k blocks are in order. -/
def okTo (l : List Int) (k : Nat) : Prop := ∀ i, i < k → 0 ≤ l.getD i 0 ∧ l.getD i 0 < 16384 ∧ (0 < i → l.getD (i - 1) 0 < l.getD i 0)
instance (l : List Int) (k : Nat) : Decidable (okTo l k) := by unfold okTo; infer_instance
theorem okTo_zero (l : List Int) : okTo l 0 := fun i h => by omega
theorem okTo_succ (l : List Int) (k : Nat) : okTo l (k + 1) ↔ okTo l k ∧ 0 ≤ l.getD k 0 ∧ l.getD k 0 < 16384 ∧ (0 < k → l.getD (k - 1) 0 < l.getD k 0) := by
  constructor
  · exact fun h => ⟨fun i hi => h i (by omega), h k (by omega)⟩
  · rintro ⟨h1, h2⟩ i hi
    by_cases e : i = k
    · subst e; exact h2
    · exact h1 i (by omega)
theorem okTo_mono {l : List Int} {j k : Nat} (h : okTo l k) (hj : j ≤ k) : okTo l j := fun i hi => h i (by omega)
def mayR (r : RecJ) : Prop := r.ep ≠ 0 ∧ r.root.size = 32 ∧ r.sum.size = 32 ∧ r.bl.length ≤ 32 ∧ okTo r.bl r.bl.length
instance (r : RecJ) : Decidable (mayR r) := by unfold mayR; infer_instance
def blE (l : List Int) : List Nat := l.flatMap fun b => leL 4 b.toNat
def encR (r : RecJ) : List Nat := leL 8 r.ep ++ (bsOf r.root ++ (bsOf r.sum ++ (leL 2 r.bl.length ++ blE r.bl)))
def nJ (s : List Nat) : Nat := leV ((s.drop 72).take 2)
def blD (s : List Nat) (n : Nat) : List Int := (List.range n).map fun i => ((leV ((s.drop (74 + 4 * i)).take 4) : Nat) : Int)
def recD (s : ByteArray) : RecJ := ⟨leV ((bsOf s).take 8), s.extract 8 40, s.extract 40 72, blD (bsOf s) (nJ (bsOf s))⟩
def codeD (s : ByteArray) : Nat := if s.size < 74 ∨ s.size < 74 + 4 * nJ (bsOf s) then 50 else if s.size = 74 + 4 * nJ (bsOf s) ∧ mayR (recD s) then 0 else 51
def noR : RecJ := ⟨0, ByteArray.empty, ByteArray.empty, []⟩
def decD (s : ByteArray) : RecJ := if codeD s = 0 then recD s else noR

theorem blE_len (l : List Int) : (blE l).length = 4 * l.length := by
  induction l with
  | nil => rfl
  | cons a l ih =>
    have : blE (a :: l) = leL 4 a.toNat ++ blE l := rfl
    rw [this, List.length_append, leL_len, ih, List.length_cons]; omega
theorem encR_len (r : RecJ) : (encR r).length = 10 + r.root.size + r.sum.size + 4 * r.bl.length := by
  unfold encR
  simp only [List.length_append, leL_len, bsOf_len, blE_len]
  omega
theorem blE_bytes (l : List Int) : Bytes (blE l) := by
  intro x hx
  obtain ⟨b, -, hx⟩ := List.mem_flatMap.1 hx
  exact leL_bytes _ _ x hx
theorem bytes_app {l m : List Nat} (h : Bytes l) (k : Bytes m) : Bytes (l ++ m) := fun x hx => (List.mem_append.1 hx).elim (h x) (k x)
theorem encR_bytes (r : RecJ) : Bytes (encR r) :=
  bytes_app (leL_bytes _ _) (bytes_app (bsOf_bytes _) (bytes_app (bsOf_bytes _) (bytes_app (leL_bytes _ _) (blE_bytes _))))
theorem blE_drop : ∀ (l : List Int) (i : Nat), i < l.length → ((blE l).drop (4 * i)).take 4 = leL 4 (l.getD i 0).toNat
  | [], i, h => by simp at h
  | a :: l, 0, _ => by
    have : blE (a :: l) = leL 4 a.toNat ++ blE l := rfl
    rw [this, Nat.mul_zero, List.drop_zero, List.take_append_of_le_length (by rw [leL_len]; exact Nat.le_refl _), List.take_of_length_le (by rw [leL_len]; exact Nat.le_refl _)]; rfl
  | a :: l, i + 1, h => by
    have e : blE (a :: l) = leL 4 a.toNat ++ blE l := rfl
    have hd : (blE (a :: l)).drop (4 * (i + 1)) = (blE l).drop (4 * i) := by
      rw [e, List.drop_append, leL_len, List.drop_of_length_le (by rw [leL_len]; omega), List.nil_append]
      congr 1
    rw [hd, blE_drop l i (by simpa using h)]; rfl
theorem drop_app {l m : List Nat} {n : Nat} (h : l.length = n) (k : Nat) : (l ++ m).drop (n + k) = m.drop k := by
  rw [List.drop_append, List.drop_of_length_le (by omega), List.nil_append, h, Nat.add_sub_cancel_left]
theorem take_app {l m : List Nat} {n : Nat} (h : l.length = n) : (l ++ m).take n = l := by rw [← h, List.take_left]
theorem enc_drop {r : RecJ} (h1 : r.root.size = 32) (h2 : r.sum.size = 32) :
    (encR r).take 8 = leL 8 r.ep ∧ ((encR r).drop 8).take 32 = bsOf r.root ∧ ((encR r).drop 40).take 32 = bsOf r.sum ∧ ((encR r).drop 72).take 2 = leL 2 r.bl.length ∧ ∀ k, (encR r).drop (74 + k) = (blE r.bl).drop k := by
  have a1 : (bsOf r.root).length = 32 := by rw [bsOf_len, h1]
  have a2 : (bsOf r.sum).length = 32 := by rw [bsOf_len, h2]
  have d1 : ∀ k, (encR r).drop (8 + k) = _ := fun k => drop_app (leL_len 8 r.ep) k
  have d2 : ∀ k, (encR r).drop (40 + k) = _ := fun k => (show 40 + k = 8 + (32 + k) by omega) ▸ (d1 (32 + k)).trans (drop_app a1 k)
  have d3 : ∀ k, (encR r).drop (72 + k) = _ := fun k => (show 72 + k = 40 + (32 + k) by omega) ▸ (d2 (32 + k)).trans (drop_app a2 k)
  have d4 : ∀ k, (encR r).drop (74 + k) = _ := fun k => (show 74 + k = 72 + (2 + k) by omega) ▸ (d3 (2 + k)).trans (drop_app (leL_len 2 r.bl.length) k)
  refine ⟨take_app (leL_len 8 r.ep), ?_, ?_, ?_, d4⟩
  · rw [show 8 = 8 + 0 from rfl, d1 0, List.drop_zero, take_app a1]
  · rw [show 40 = 40 + 0 from rfl, d2 0, List.drop_zero, take_app a2]
  · rw [show 72 = 72 + 0 from rfl, d3 0, List.drop_zero, take_app (leL_len 2 _)]
theorem dec_enc {r : RecJ} (h : mayR r) (he : r.ep < 18446744073709551616) : codeD (bytesOf (encR r)) = 0 ∧ recD (bytesOf (encR r)) = r := by
  obtain ⟨m0, m1, m2, m3, m4⟩ := h
  obtain ⟨e1, e2, e3, e4, e5⟩ := enc_drop m1 m2
  have hb := bsOf_bytesOf (encR_bytes r)
  have hn : nJ (encR r) = r.bl.length := by unfold nJ; rw [e4, leV_leL 2 _ (by omega)]
  have hr : recD (bytesOf (encR r)) = r := by
    unfold recD
    rw [hb, e1, leV_leL 8 _ (by simpa using he), bytesOf_extract, bytesOf_extract, e2, e3, bytesOf_bsOf, bytesOf_bsOf, hn]
    have : blD (encR r) r.bl.length = r.bl := by
      apply List.ext_getElem?
      intro i
      unfold blD
      by_cases hi : i < r.bl.length
      · rw [List.getElem?_map, List.getElem?_range hi, Option.map_some, e5, blE_drop _ _ hi]
        obtain ⟨p1, p2, -⟩ := m4 i hi
        rw [leV_leL 4 _ (by omega), Int.toNat_of_nonneg p1, List.getD_eq_getElem?_getD, List.getElem?_eq_getElem hi]; rfl
      · rw [List.getElem?_eq_none (by simp; omega), List.getElem?_eq_none (by omega)]
    rw [this]
  refine ⟨?_, hr⟩
  unfold codeD
  rw [hr, hb, hn, bytesOf_size, encR_len, m1, m2, if_neg (by omega), if_pos ⟨by omega, m0, m1, m2, m3, m4⟩]
theorem chunks : ∀ (n : Nat) (l : List Nat), l.length = 4 * n → Bytes l → blE ((List.range n).map fun i => ((leV ((l.drop (4 * i)).take 4) : Nat) : Int)) = l
  | 0, l, h, _ => by
    have : l = [] := List.eq_nil_of_length_eq_zero (by omega)
    subst this; rfl
  | n + 1, l, h, hb => by
    have ih := chunks n (l.drop 4) (by rw [List.length_drop]; omega) fun x hx => hb x (List.mem_of_mem_drop hx)
    rw [List.range_succ_eq_map, List.map_cons, List.map_map]
    have e : ∀ (a : Int) (m : List Int), blE (a :: m) = leL 4 a.toNat ++ blE m := fun _ _ => rfl
    rw [e]
    have h2 : ((fun i : Nat => ((leV ((l.drop (4 * i)).take 4) : Nat) : Int)) ∘ Nat.succ) = fun i : Nat => ((leV (((l.drop 4).drop (4 * i)).take 4) : Nat) : Int) := by
      funext i
      simp only [Function.comp, List.drop_drop]
      rw [show 4 * Nat.succ i = 4 + 4 * i by omega]
    rw [h2, ih, Nat.mul_zero, List.drop_zero, Int.toNat_natCast]
    have h3 := leL_leV (l.take 4) fun x hx => hb x (List.mem_of_mem_take hx)
    rw [List.length_take, Nat.min_eq_left (by omega)] at h3
    rw [h3, List.take_append_drop]
theorem enc_dec {s : ByteArray} (h : codeD s = 0) : mayR (recD s) ∧ bytesOf (encR (recD s)) = s := by
  unfold codeD at h
  split at h
  · cases h
  · rename_i h1
    split at h
    · rename_i h2
      refine ⟨h2.2, ?_⟩
      have hb := bsOf_bytes s
      have hl : (bsOf s).length = s.size := bsOf_len s
      have hn : (recD s).bl.length = nJ (bsOf s) := by simp [recD, blD]
      have f1 : leL 8 (recD s).ep = (bsOf s).take 8 := by
        have := leL_leV ((bsOf s).take 8) fun x hx => hb x (List.mem_of_mem_take hx)
        rwa [List.length_take, Nat.min_eq_left (by omega)] at this
      have f2 : bsOf (recD s).root = ((bsOf s).drop 8).take 32 := bsOf_extract s 8 40
      have f3 : bsOf (recD s).sum = ((bsOf s).drop 40).take 32 := bsOf_extract s 40 72
      have f4 : leL 2 (recD s).bl.length = ((bsOf s).drop 72).take 2 := by
        have := leL_leV (((bsOf s).drop 72).take 2) fun x hx => hb x (List.mem_of_mem_drop (List.mem_of_mem_take hx))
        rw [List.length_take, List.length_drop, Nat.min_eq_left (by omega)] at this
        rw [hn]; exact this
      have f5 : blE (recD s).bl = (bsOf s).drop 74 := by
        have := chunks (nJ (bsOf s)) ((bsOf s).drop 74) (by rw [List.length_drop]; omega) fun x hx => hb x (List.mem_of_mem_drop hx)
        simp only [List.drop_drop] at this
        exact this
      have : encR (recD s) = bsOf s := by
        unfold encR
        rw [f1, f2, f3, f4, f5]
        have g1 : (bsOf s).drop 72 = ((bsOf s).drop 72).take 2 ++ (bsOf s).drop 74 := by
          conv => lhs; rw [← List.take_append_drop 2 ((bsOf s).drop 72)]
          rw [List.drop_drop]
        have g2 : (bsOf s).drop 40 = ((bsOf s).drop 40).take 32 ++ (bsOf s).drop 72 := by
          conv => lhs; rw [← List.take_append_drop 32 ((bsOf s).drop 40)]
          rw [List.drop_drop]
        have g3 : (bsOf s).drop 8 = ((bsOf s).drop 8).take 32 ++ (bsOf s).drop 40 := by
          conv => lhs; rw [← List.take_append_drop 32 ((bsOf s).drop 8)]
          rw [List.drop_drop]
        rw [← g1, ← g2, ← g3, List.take_append_drop]
      rw [this, bytesOf_bsOf]
    · cases h
end Go.Proofs.YtodehmognjofhaaGreat

namespace Go.Proofs.YtodehmognjofhaaGreat
open Go.RowKit

set_option maxRecDepth 100000 in
set_option maxHeartbeats 1600000 in
theorem rnum_any (w : World) (x n : Nat) (_hx : x < 18446744073709551616) (hn : n = 2 ∨ n = 4 ∨ n = 8) : Calls Tryz.prog 30 #[.int .u64 (x : Int), .int .i64 (n : Int)] w fun e w' => e = .returned (.string (bytesOf (leL n x))) ∧ Touch [] w w' := by
  have hmk : (Instr.makeSlice 36 (.int .i64 (n : Int)) (.int .i64 (n : Int))).run Tryz.prog w = .ok (.slice (some ⟨w.heap.size, 0, none⟩) n n) (w.alloc (.cells (bcells (List.replicate n 0)).toArray 5)) := by rcases hn with rfl | rfl | rfl <;> kernel_rfl
  have hn8 : n ≤ 8 := by omega
  clear hn
  go_enter Tryz.func30, Tryz.ntmps30
  go_wp2
  clear hmk
  go_loopw [6] (fun i wr => ∃ k : Nat, k ≤ n ∧ i = .int .i64 (k : Int) ∧ Touch [] w wr ∧ Hid (At wr w.heap.size 5 (bcells (sofar (leL n x) k)))) (fun i _ => n - (intOf i).toNat)
  case atStart => exact ⟨0, by omega, rfl, (Touch.refl [] w).alloc _, Lib.hid (At.new' w _ (by rw [sofar_zero, leL_len]))⟩
  case round =>
    obtain ⟨k, hk', rfl, tr, HA⟩ := hrel
    by_cases hk8 : k < n
    · have hki : (k : Int) < (n : Int) := by omega
      have j0 : (0 : Int) ≤ (k : Int) := by omega
      have j2 : IntKind.i64.wrap (8 * (k : Int)) = ((8 * k : Nat) : Int) := by rw [IntWalk.i64_in _ (by omega)]; omega
      have j4 : IntKind.u64.wrap ((8 * k : Nat) : Int) = ((8 * k : Nat) : Int) := by rw [IntKind.wrap_u64]; omega
      obtain ⟨x0, cL⟩ := sofar_get (leL n x) k (by rw [leL_len]; exact hk8)
      rw [← HA.out.cell] at cL
      have fr := fun o => HA.out.frozen o
      go_wp2
      have ex : ((x : Int) / 2 ^ (8 * k) % 256) = (((leL n x).getD k 0 : Nat) : Int) := by rw [leL_get x hk8]; simp
      rw [ex]
      refine ⟨⟨k + 1, by omega, rfl, tr.setCell _ (.inr (by simp)) _, Lib.hid ?_⟩, by simp [intOf]; omega⟩
      have h := HA.out.set k (.int .u8 (((leL n x).getD k 0 : Nat) : Int))
      rw [sofar_set _ _ _ (by rw [leL_len]; exact hk8) rfl] at h
      exact h
    · have hki : ¬ (k : Int) < (n : Int) := by omega
      obtain rfl : k = n := by omega
      have h8 := HA.out
      have e8 : sofar (leL k x) k = leL k x := by
        have := sofar_all (leL k x)
        rw [leL_len] at this
        exact this
      rw [e8] at h8
      have cv := conv_at (P := Tryz.prog) (src := 36) (dst := 9) (e := 5) h8 (leL_bytes _ _) k k (leL_len _ _) Tryz.u8sT Tryz.underlying5 Tryz.underlying9
      go_wp2
      go_ret
      exact ⟨rfl, tr⟩
end Go.Proofs.YtodehmognjofhaaGreat

namespace Go.Proofs.YtodehmognjofhaaGreat
open Go.RowKit

set_option maxRecDepth 100000 in
set_option maxHeartbeats 1600000 in
theorem put64_any (w : World) (x : Nat) (hx : x < 18446744073709551616) : Calls Tryz.prog 62 #[.int .u64 (x : Int), .int .i64 8] w fun e w' => e = .returned (.string (bytesOf (leL 8 x))) ∧ Touch [] w w' := by
  have hmk : (Instr.makeSlice 36 (.int .i64 8) (.int .i64 8)).run Tryz.prog w = .ok (.slice (some ⟨w.heap.size, 0, none⟩) 8 8) (w.alloc (.cells (bcells (List.replicate 8 0)).toArray 5)) := by kernel_rfl
  have jx : IntKind.u64.wrap (x : Int) = (x : Int) := by rw [IntKind.wrap_u64]; omega
  go_enter Tryz.func62, Tryz.ntmps62
  go_wp2
  clear hmk
  go_loopw [11] (fun i wr => ∃ k : Nat, k ≤ 8 ∧ i = .int .i64 (k : Int) ∧ Touch [] w wr ∧ Hid (At wr w.heap.size 5 (bcells (sofar (leL 8 x) k)))) (fun i _ => 8 - (intOf i).toNat)
  case atStart => exact ⟨0, by omega, rfl, (Touch.refl [] w).alloc _, Lib.hid (At.new' w _ (by rw [sofar_zero, leL_len]; rfl))⟩
  case round =>
    obtain ⟨k, hk', rfl, tr, HA⟩ := hrel
    by_cases hk8 : k < 8
    · have hki : (k : Int) < 8 := by omega
      have j0 : (0 : Int) ≤ (k : Int) := by omega
      have j2 : IntKind.i64.wrap (8 * (k : Int)) = ((8 * k : Nat) : Int) := by rw [IntWalk.i64_in _ (by omega)]; omega
      have j4 : IntKind.u64.wrap ((8 * k : Nat) : Int) = ((8 * k : Nat) : Int) := by rw [IntKind.wrap_u64]; omega
      obtain ⟨x0, cL⟩ := sofar_get (leL 8 x) k (by rw [leL_len]; exact hk8)
      rw [← HA.out.cell] at cL
      have fr := fun o => HA.out.frozen o
      go_wp2
      have ex : ((x : Int) / 2 ^ (8 * k) % 256) = (((leL 8 x).getD k 0 : Nat) : Int) := by rw [leL_get x hk8]; simp
      rw [ex]
      refine ⟨⟨k + 1, by omega, rfl, tr.setCell _ (.inr (by simp)) _, Lib.hid ?_⟩, by simp [intOf]; omega⟩
      have h := HA.out.set k (.int .u8 (((leL 8 x).getD k 0 : Nat) : Int))
      rw [sofar_set _ _ _ (by rw [leL_len]; exact hk8) rfl] at h
      exact h
    · have hki : ¬ (k : Int) < 8 := by omega
      obtain rfl : k = 8 := by omega
      have h8 := HA.out
      have e8 : sofar (leL 8 x) 8 = leL 8 x := by
        have := sofar_all (leL 8 x)
        rw [leL_len] at this
        exact this
      rw [e8] at h8
      have cv := conv_at (P := Tryz.prog) (src := 36) (dst := 9) (e := 5) h8 (leL_bytes _ _) 8 8 (leL_len _ _) Tryz.u8sT Tryz.underlying5 Tryz.underlying9
      go_wp2
      go_ret
      exact ⟨rfl, tr⟩
theorem U64_any (w : World) (x : Nat) (hx : x < 18446744073709551616) : Calls Tryz.prog 26 #[.int .u64 (x : Int)] w fun e w' => e = .returned (.string (bytesOf (leL 8 x))) ∧ Touch [] w w' := by
  have C := put64_any w x hx
  go_enter Tryz.func26, Tryz.ntmps26
  go_wp2_with (go_at_call 62; refine C.mono ?_; clear C; rintro e w2 ⟨rfl, t2⟩)
  go_ret
  exact ⟨rfl, t2⟩
set_option maxRecDepth 100000 in
set_option maxHeartbeats 1600000 in
theorem put32_any (w : World) (x : Nat) (hx : x < 4294967296) : Calls Tryz.prog 84 #[.int .u32 (x : Int), .int .i64 4] w fun e w' => e = .returned (.string (bytesOf (leL 4 x))) ∧ Touch [] w w' := by
  have hmk : (Instr.makeSlice 36 (.int .i64 4) (.int .i64 4)).run Tryz.prog w = .ok (.slice (some ⟨w.heap.size, 0, none⟩) 4 4) (w.alloc (.cells (bcells (List.replicate 4 0)).toArray 5)) := by kernel_rfl
  have jx : IntKind.u64.wrap (x : Int) = (x : Int) := by rw [IntKind.wrap_u64]; omega
  go_enter Tryz.func84, Tryz.ntmps84
  go_wp2
  clear hmk
  go_loopw [11] (fun i wr => ∃ k : Nat, k ≤ 4 ∧ i = .int .i64 (k : Int) ∧ Touch [] w wr ∧ Hid (At wr w.heap.size 5 (bcells (sofar (leL 4 x) k)))) (fun i _ => 4 - (intOf i).toNat)
  case atStart => exact ⟨0, by omega, rfl, (Touch.refl [] w).alloc _, Lib.hid (At.new' w _ (by rw [sofar_zero, leL_len]; rfl))⟩
  case round =>
    obtain ⟨k, hk', rfl, tr, HA⟩ := hrel
    by_cases hk8 : k < 4
    · have hki : (k : Int) < 4 := by omega
      have j0 : (0 : Int) ≤ (k : Int) := by omega
      have j2 : IntKind.i64.wrap (8 * (k : Int)) = ((8 * k : Nat) : Int) := by rw [IntWalk.i64_in _ (by omega)]; omega
      have j4 : IntKind.u64.wrap ((8 * k : Nat) : Int) = ((8 * k : Nat) : Int) := by rw [IntKind.wrap_u64]; omega
      obtain ⟨x0, cL⟩ := sofar_get (leL 4 x) k (by rw [leL_len]; exact hk8)
      rw [← HA.out.cell] at cL
      have fr := fun o => HA.out.frozen o
      go_wp2
      have ex : ((x : Int) / 2 ^ (8 * k) % 256) = (((leL 4 x).getD k 0 : Nat) : Int) := by rw [leL_get x hk8]; simp
      rw [ex]
      refine ⟨⟨k + 1, by omega, rfl, tr.setCell _ (.inr (by simp)) _, Lib.hid ?_⟩, by simp [intOf]; omega⟩
      have h := HA.out.set k (.int .u8 (((leL 4 x).getD k 0 : Nat) : Int))
      rw [sofar_set _ _ _ (by rw [leL_len]; exact hk8) rfl] at h
      exact h
    · have hki : ¬ (k : Int) < 4 := by omega
      obtain rfl : k = 4 := by omega
      have h8 := HA.out
      have e8 : sofar (leL 4 x) 4 = leL 4 x := by
        have := sofar_all (leL 4 x)
        rw [leL_len] at this
        exact this
      rw [e8] at h8
      have cv := conv_at (P := Tryz.prog) (src := 36) (dst := 9) (e := 5) h8 (leL_bytes _ _) 4 4 (leL_len _ _) Tryz.u8sT Tryz.underlying5 Tryz.underlying9
      go_wp2
      go_ret
      exact ⟨rfl, tr⟩
theorem U32_any (w : World) (x : Nat) (hx : x < 4294967296) : Calls Tryz.prog 44 #[.int .u32 (x : Int)] w fun e w' => e = .returned (.string (bytesOf (leL 4 x))) ∧ Touch [] w w' := by
  have C := put32_any w x hx
  go_enter Tryz.func44, Tryz.ntmps44
  go_wp2_with (go_at_call 84; refine C.mono ?_; clear C; rintro e w2 ⟨rfl, t2⟩)
  go_ret
  exact ⟨rfl, t2⟩
set_option maxRecDepth 100000 in
set_option maxHeartbeats 1600000 in
theorem put16_any (w : World) (x : Nat) (hx : x < 65536) : Calls Tryz.prog 83 #[.int .u16 (x : Int), .int .i64 2] w fun e w' => e = .returned (.string (bytesOf (leL 2 x))) ∧ Touch [] w w' := by
  have hmk : (Instr.makeSlice 36 (.int .i64 2) (.int .i64 2)).run Tryz.prog w = .ok (.slice (some ⟨w.heap.size, 0, none⟩) 2 2) (w.alloc (.cells (bcells (List.replicate 2 0)).toArray 5)) := by kernel_rfl
  have jx : IntKind.u64.wrap (x : Int) = (x : Int) := by rw [IntKind.wrap_u64]; omega
  go_enter Tryz.func83, Tryz.ntmps83
  go_wp2
  clear hmk
  go_loopw [11] (fun i wr => ∃ k : Nat, k ≤ 2 ∧ i = .int .i64 (k : Int) ∧ Touch [] w wr ∧ Hid (At wr w.heap.size 5 (bcells (sofar (leL 2 x) k)))) (fun i _ => 2 - (intOf i).toNat)
  case atStart => exact ⟨0, by omega, rfl, (Touch.refl [] w).alloc _, Lib.hid (At.new' w _ (by rw [sofar_zero, leL_len]; rfl))⟩
  case round =>
    obtain ⟨k, hk', rfl, tr, HA⟩ := hrel
    by_cases hk8 : k < 2
    · have hki : (k : Int) < 2 := by omega
      have j0 : (0 : Int) ≤ (k : Int) := by omega
      have j2 : IntKind.i64.wrap (8 * (k : Int)) = ((8 * k : Nat) : Int) := by rw [IntWalk.i64_in _ (by omega)]; omega
      have j4 : IntKind.u64.wrap ((8 * k : Nat) : Int) = ((8 * k : Nat) : Int) := by rw [IntKind.wrap_u64]; omega
      obtain ⟨x0, cL⟩ := sofar_get (leL 2 x) k (by rw [leL_len]; exact hk8)
      rw [← HA.out.cell] at cL
      have fr := fun o => HA.out.frozen o
      go_wp2
      have ex : ((x : Int) / 2 ^ (8 * k) % 256) = (((leL 2 x).getD k 0 : Nat) : Int) := by rw [leL_get x hk8]; simp
      rw [ex]
      refine ⟨⟨k + 1, by omega, rfl, tr.setCell _ (.inr (by simp)) _, Lib.hid ?_⟩, by simp [intOf]; omega⟩
      have h := HA.out.set k (.int .u8 (((leL 2 x).getD k 0 : Nat) : Int))
      rw [sofar_set _ _ _ (by rw [leL_len]; exact hk8) rfl] at h
      exact h
    · have hki : ¬ (k : Int) < 2 := by omega
      obtain rfl : k = 2 := by omega
      have h8 := HA.out
      have e8 : sofar (leL 2 x) 2 = leL 2 x := by
        have := sofar_all (leL 2 x)
        rw [leL_len] at this
        exact this
      rw [e8] at h8
      have cv := conv_at (P := Tryz.prog) (src := 36) (dst := 9) (e := 5) h8 (leL_bytes _ _) 2 2 (leL_len _ _) Tryz.u8sT Tryz.underlying5 Tryz.underlying9
      go_wp2
      go_ret
      exact ⟨rfl, tr⟩
theorem U16_any (w : World) (x : Nat) (hx : x < 65536) : Calls Tryz.prog 43 #[.int .u16 (x : Int)] w fun e w' => e = .returned (.string (bytesOf (leL 2 x))) ∧ Touch [] w w' := by
  have C := put16_any w x hx
  go_enter Tryz.func43, Tryz.ntmps43
  go_wp2_with (go_at_call 83; refine C.mono ?_; clear C; rintro e w2 ⟨rfl, t2⟩)
  go_ret
  exact ⟨rfl, t2⟩
end Go.Proofs.YtodehmognjofhaaGreat
