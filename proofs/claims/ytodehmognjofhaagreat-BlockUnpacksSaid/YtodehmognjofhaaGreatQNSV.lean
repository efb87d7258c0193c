/-
  Seals: plain words; keys that may be; the document's nonce and turned text.
-/
import Derived.Test.YtodehmognjofhaaGreatQNQV
import Derived.Test.YtodehmognjofhaaGreatQNPA
import Derived.Test.YtodehmognjofhaaGreatQJA
import Derived.Test.YtodehmognjofhaaGreatQNTurn3
import Derived.Test.YtodehmognjofhaaGreatQNQC
import Derived.Test.YtodehmognjofhaaGreatQED
namespace Go.Proofs.YtodehmognjofhaaGreat
open Go.RowKit

def mayK (c m : ByteArray) : Prop := c.size = 16 ∧ m.size = 32
instance (c m : ByteArray) : Decidable (mayK c m) := by unfold mayK; infer_instance
def mayC (c m : ByteArray) : Int := if mayK c m then 0 else 2
def z8 : List Nat := List.replicate 8 0
/-- a text turned by a nonce's eight bytes. -/
def encF (c n8 s : List Nat) : List Nat := ctrF (rkF c) (n8 ++ z8) s
def bodyF (c : List Nat) (nn : Nat) (s : List Nat) : List Nat := be8 nn ++ encF c (be8 nn) s
def tagF (m label b : List Nat) : List Nat := macF m (allF [label, b])
def sealF (c m : List Nat) (nn : Nat) (label s : List Nat) : List Nat := bodyF c nn s ++ tagF m label (bodyF c nn s)
theorem be8_get (n : Nat) {k : Nat} (h : k < 8) : (be8 n).getD k 0 = n / 2 ^ (56 - 8 * k) % 256 := by
  unfold be8
  rw [List.getD_eq_getElem?_getD, List.getElem?_map, List.getElem?_range h]; rfl
theorem encF_len (c n8 s : List Nat) : (encF c n8 s).length = s.length := ctrF_len _ _ _
theorem z8_bytes : Bytes z8 := fun x hx => by rw [List.eq_of_mem_replicate hx]; decide
theorem encF_bytes {c n8 s : List Nat} (hc : Bytes c) (hn : Bytes n8) (hs : Bytes s) : Bytes (encF c n8 s) := ctrF_bytes (rkF_bytes hc) (bytes_app hn z8_bytes) hs
theorem bodyF_bytes {c s : List Nat} (hc : Bytes c) (nn : Nat) (hs : Bytes s) : Bytes (bodyF c nn s) := bytes_app (be8_bytes nn) (encF_bytes hc (be8_bytes nn) hs)
theorem bodyF_len (c : List Nat) (nn : Nat) (s : List Nat) : (bodyF c nn s).length = 8 + s.length := by unfold bodyF; rw [List.length_append, be8_len, encF_len]
theorem tagF_len (m label b : List Nat) : (tagF m label b).length = 32 := macF_len _ _
theorem tagF_bytes (m label b : List Nat) : Bytes (tagF m label b) := macF_bytes _ _
set_option maxRecDepth 100000 in
theorem rkmay_any (w : World) (c m : ByteArray) : Calls Tryz.prog 27 #[.agg #[.string c, .string m]] w fun e w' => e = .returned (.bool (decide (mayK c m))) ∧ Touch [] w w' := by
  by_cases h1 : c.size = 16
  · by_cases h2 : m.size = 32
    · have HD : Hid (decide (mayK c m) = true) := Lib.hid (decide_eq_true ⟨h1, h2⟩)
      have i1 : (c.size : Int) = 16 := by omega
      have i2 : (m.size : Int) = 32 := by omega
      go_enter Tryz.func27, Tryz.ntmps27
      go_wp2
      go_ret
      exact ⟨by rw [HD.out]; rfl, (Touch.refl [] w).alloc _⟩
    · have HD : Hid (decide (mayK c m) = false) := Lib.hid (decide_eq_false fun h => h2 h.2)
      have i1 : (c.size : Int) = 16 := by omega
      have i2 : ¬ (m.size : Int) = 32 := by omega
      have i3 : ((m.size : Int) == 32) = false := by rw [beq_eq_false_iff_ne]; exact i2
      go_enter Tryz.func27, Tryz.ntmps27
      go_wp2
      go_ret
      exact ⟨by rw [HD.out]; rfl, (Touch.refl [] w).alloc _⟩
  · have HD : Hid (decide (mayK c m) = false) := Lib.hid (decide_eq_false fun h => h1 h.1)
    have i2 : ¬ (c.size : Int) = 16 := by omega
    have i3 : ((c.size : Int) == 16) = false := by rw [beq_eq_false_iff_ne]; exact i2
    go_enter Tryz.func27, Tryz.ntmps27
    go_wp2
    go_ret
    exact ⟨by rw [HD.out]; rfl, (Touch.refl [] w).alloc _⟩
set_option maxRecDepth 100000 in
theorem pkmay_any (w : World) (c m : ByteArray) : Calls Tryz.prog 23 #[.agg #[.string c, .string m]] w fun e w' => e = .returned (.int .i64 (mayC c m)) ∧ Touch [] w w' := by
  by_cases h1 : c.size = 16
  · have i1 : (c.size : Int) = 16 := by omega
    by_cases h2 : m.size = 32
    · have HD : Hid (mayC c m = 0) := Lib.hid (if_pos ⟨h1, h2⟩)
      have i2 : (m.size : Int) = 32 := by omega
      go_enter Tryz.func23, Tryz.ntmps23
      go_wp2
      go_ret
      exact ⟨by rw [HD.out]; rfl, (Touch.refl [] w).alloc _⟩
    · have HD : Hid (mayC c m = 2) := Lib.hid (if_neg fun h => h2 h.2)
      have i2 : ¬ (m.size : Int) = 32 := by omega
      have i3 : ((m.size : Int) != 32) = true := by rw [bne_iff_ne]; exact i2
      go_enter Tryz.func23, Tryz.ntmps23
      go_wp2
      go_ret
      exact ⟨by rw [HD.out]; rfl, (Touch.refl [] w).alloc _⟩
  · have HD : Hid (mayC c m = 2) := Lib.hid (if_neg fun h => h1 h.1)
    have i2 : ¬ (c.size : Int) = 16 := by omega
    have i3 : ((c.size : Int) != 16) = true := by rw [bne_iff_ne]; exact i2
    go_enter Tryz.func23, Tryz.ntmps23
    go_wp2
    go_ret
    exact ⟨by rw [HD.out]; rfl, (Touch.refl [] w).alloc _⟩
set_option maxRecDepth 100000 in
set_option maxHeartbeats 1600000 in
theorem reight_any (w : World) (x : Nat) : Calls Tryz.prog 63 #[.int .u64 (x : Int)] w fun e w' => e = .returned (.string (bytesOf (be8 x))) ∧ Touch [] w w' := by
  have hmk : (Instr.makeSlice 36 (.int .i64 8) (.int .i64 8)).run Tryz.prog w = .ok (.slice (some ⟨w.heap.size, 0, none⟩) 8 8) (w.alloc (.cells (bcells (List.replicate 8 0)).toArray 5)) := by kernel_rfl
  go_enter Tryz.func63, Tryz.ntmps63
  go_wp2
  clear hmk
  go_loopw [4] (fun i wr => ∃ k : Nat, k ≤ 8 ∧ i = .int .i64 (k : Int) ∧ Touch [] w wr ∧ Hid (At wr w.heap.size 5 (bcells (sofar (be8 x) k)))) (fun i _ => 8 - (intOf i).toNat)
  case atStart => exact ⟨0, by omega, rfl, (Touch.refl [] w).alloc _, Lib.hid (by have h := At.new w 5 (bcells (sofar (be8 x) 0)); rw [sofar_zero, be8_len] at h ⊢; exact h)⟩
  case round =>
    obtain ⟨k, hk', rfl, tr, HA⟩ := hrel
    by_cases hk8 : k < 8
    · have hki : (k : Int) < 8 := by omega
      have j0 : (0 : Int) ≤ (k : Int) := by omega
      obtain ⟨m, hm⟩ : ∃ m, m = 56 - 8 * k := ⟨_, rfl⟩
      have j2 : IntKind.i64.wrap (8 * (k : Int)) = ((8 * k : Nat) : Int) := by rw [IntWalk.i64_in _ (by omega)]; omega
      have j3 : IntKind.i64.wrap (56 - ((8 * k : Nat) : Int)) = (m : Int) := by rw [IntWalk.i64_in _ (by omega)]; omega
      have j4 : IntKind.u64.wrap (m : Int) = (m : Int) := by rw [IntKind.wrap_u64]; omega
      obtain ⟨x0, cL⟩ := sofar_get (be8 x) k (by rw [be8_len]; exact hk8)
      rw [← HA.out.cell] at cL
      have fr := fun o => HA.out.frozen o
      have HM := Lib.hid hm
      clear hm
      go_wp2
      have ex : ((x : Int) / 2 ^ (56 - 8 * k) % 256) = (((be8 x).getD k 0 : Nat) : Int) := by rw [be8_get x hk8]; simp
      rw [ex]
      refine ⟨⟨k + 1, by omega, rfl, tr.setCell _ (.inr (by simp)) _, Lib.hid ?_⟩, by simp [intOf]; omega⟩
      have h := HA.out.set k (.int .u8 (((be8 x).getD k 0 : Nat) : Int))
      rw [sofar_set _ _ _ (by rw [be8_len]; exact hk8) rfl] at h
      exact h
    · have hki : ¬ (k : Int) < 8 := by omega
      obtain rfl : k = 8 := by omega
      have h8 := HA.out
      have e8 : sofar (be8 x) 8 = be8 x := sofar_all (be8 x)
      rw [e8] at h8
      have cv := conv_at (P := Tryz.prog) (src := 36) (dst := 9) (e := 5) h8 (be8_bytes _) 8 8 (be8_len _) Tryz.u8sT Tryz.underlying5 Tryz.underlying9
      have HE : Hid (∃ Y, Y = bytesOf (be8 x)) := Lib.hid ⟨_, rfl⟩
      go_wp2
      go_ret
      exact ⟨rfl, tr⟩
end Go.Proofs.YtodehmognjofhaaGreat

namespace Go.Proofs.YtodehmognjofhaaGreat
open Go.RowKit

def z8B : ByteArray := ⟨#[0, 0, 0, 0, 0, 0, 0, 0]⟩
theorem z8B_bs : bsOf z8B = z8 := rfl
set_option maxRecDepth 100000 in
theorem rturned_any (w : World) (c m n8 s : ByteArray) (hc : c.size = 16) (hn : n8.size = 8) (hs : s.size < 1152921504606846976) : Calls Tryz.prog 64 #[.agg #[.string c, .string m], .string n8, .string s] w fun e w' => e = .returned (.string (bytesOf (encF (bsOf c) (bsOf n8) (bsOf s)))) ∧ Touch [] w w' := by
  have C := Lib.hid fun W => rturn_at W c (n8 ++ z8B) s (bsOf c) (bsOf n8 ++ z8) (bsOf s) rfl (by rw [bsOf_append, z8B_bs]) rfl hc (by rw [ByteArray.size_append, hn]; rfl) hs
  have no1 : ¬ 9223372036854775807 < n8.size + 8 := by omega
  have hz : Hid (z8B.size = 8) := Lib.hid rfl
  go_enter Tryz.func64, Tryz.ntmps64
  go_wp2_with fail
  refine (C.out _).mono ?_
  rintro e w2 ⟨rfl, t2⟩
  go_wp2_with fail
  go_ret
  exact ⟨rfl, ((Touch.refl [] w).alloc _).trans' t2⟩
end Go.Proofs.YtodehmognjofhaaGreat

namespace Go.Proofs.YtodehmognjofhaaGreat
open Go.RowKit

theorem allF_two (a b : List Nat) : (allF [a, b]).length = 16 + a.length + b.length := by
  unfold allF
  simp only [List.flatMap_cons, List.flatMap_nil, List.append_nil, List.length_append, longF_len]
  omega
set_option maxRecDepth 100000 in
set_option maxHeartbeats 1600000 in
theorem rseal_any (w : World) (c m : ByteArray) (nn : Nat) (label s : ByteArray) (hk : mayK c m) (hs : s.size ≤ 1048576) (hlab : label.size ≤ 1048576) : Calls Tryz.prog 28 #[.agg #[.string c, .string m], .int .u64 (nn : Int), .string label, .string s] w fun e w' =>
    e = .returned (.tuple #[.string (bytesOf (sealF (bsOf c) (bsOf m) nn (bsOf label) (bsOf s))), .int .i64 0]) ∧ Touch [] w w' := by
  have CM := Lib.hid fun W => rkmay_any W c m
  rw [decide_eq_true hk] at CM
  have hsi : ¬ (1048576 : Int) < (s.size : Int) := by omega
  have C8 := Lib.hid fun W => reight_any W nn
  have CT := Lib.hid fun W => rturned_any W c m (bytesOf (be8 nn)) s hk.1 (by rw [bytesOf_size, be8_len]) (by omega)
  rw [bsOf_bytesOf (be8_bytes nn)] at CT
  have hcb := bsOf_bytes c
  have hsb := bsOf_bytes s
  have hel : (encF (bsOf c) (be8 nn) (bsOf s)).length = s.size := by rw [encF_len, bsOf_len]
  have heb := encF_bytes hcb (be8_bytes nn) hsb
  have HB : Hid (bsOf (bytesOf (be8 nn) ++ bytesOf (encF (bsOf c) (be8 nn) (bsOf s))) = bodyF (bsOf c) nn (bsOf s)) := Lib.hid (by rw [← bytesOf_append]; exact bsOf_bytesOf (bodyF_bytes hcb nn hsb))
  have HE : Hid ((bytesOf (encF (bsOf c) (be8 nn) (bsOf s))).size = s.size) := Lib.hid (by rw [bytesOf_size, hel])
  have H8 : Hid ((bytesOf (be8 nn)).size = 8) := Lib.hid (by rw [bytesOf_size, be8_len])
  have HF : Hid (bytesOf (sealF (bsOf c) (bsOf m) nn (bsOf label) (bsOf s)) = (bytesOf (be8 nn) ++ bytesOf (encF (bsOf c) (be8 nn) (bsOf s))) ++ bytesOf (tagF (bsOf m) (bsOf label) (bodyF (bsOf c) nn (bsOf s)))) := Lib.hid (by unfold sealF bodyF; rw [bytesOf_append, bytesOf_append])
  generalize bytesOf (sealF (bsOf c) (bsOf m) nn (bsOf label) (bsOf s)) = R at HF ⊢
  generalize bytesOf (encF (bsOf c) (be8 nn) (bsOf s)) = E at CT HB HE HF
  generalize bytesOf (be8 nn) = n8 at C8 CT HB H8 HF
  generalize bodyF (bsOf c) nn (bsOf s) = body at HB HF
  have HT : Hid ((bytesOf (tagF (bsOf m) (bsOf label) body)).size = 32) := Lib.hid (by rw [bytesOf_size, tagF_len])
  have hm := hk.2
  have CA := Lib.hid fun (W : World) (lb cap : Nat) (hL : At W lb 9 ([label, n8 ++ E].map Value.string)) => rall_any W m lb cap [label, n8 ++ E] (by omega) hL (by
    have h1 := HE.out
    have h2 := H8.out
    rw [List.map_cons, List.map_cons, List.map_nil, allF_two, bsOf_len, bsOf_len, ByteArray.size_append]
    omega) (by simp)
  simp only [List.map_cons, List.map_nil, HB.out] at CA
  generalize hTT : bytesOf (tagF (bsOf m) (bsOf label) body) = T at HF HT
  have CA2 := Lib.hid fun (W : World) (lb cap : Nat) (hL : At W lb 9 [.string label, .string (n8 ++ E)]) => (CA.out W lb cap hL).mono fun e w' h => (show e = .returned (.string T) ∧ Touch [] W w' from ⟨by rw [h.1, ← hTT]; rfl, h.2⟩)
  have no1 : ¬ 9223372036854775807 < n8.size + E.size := by have := HE.out; have := H8.out; omega
  have no2 : ¬ 9223372036854775807 < n8.size + E.size + T.size := by have := HE.out; have := H8.out; have := HT.out; omega
  have no3 : ¬ 9223372036854775807 < (n8 ++ E).size + T.size := by rw [ByteArray.size_append]; exact no2
  clear CA hTT hcb hsb hel heb hm
  have HK := Lib.hid (At.new w 30 [.string c, .string m])
  go_enter Tryz.func28, Tryz.ntmps28
  go_wp2_with fail
  refine (CM.out _).mono ?_
  rintro e w2 ⟨rfl, t2⟩
  have T2 := Lib.hid (((Touch.refl [] w).alloc (.cells #[.string c, .string m] 30)).trans' t2)
  have HK2 := Lib.hid (HK.out.touch t2 (by simp))
  clear t2 HK CM
  go_wp2_with fail
  refine (C8.out _).mono ?_
  rintro e w3 ⟨rfl, t3⟩
  have T3 := Lib.hid (T2.out.trans' t3)
  have HK3 := Lib.hid (HK2.out.touch t3 (by simp))
  have c0 : w3.cell? ⟨w.heap.size, 0, none⟩ = some (.string c) := HK3.out.cell 0
  have c1 : w3.cell? ⟨w.heap.size, 1, none⟩ = some (.string m) := HK3.out.cell 1
  clear t3 HK2 T2 C8
  go_wp2_with fail
  refine (CT.out _).mono ?_
  rintro e w4 ⟨rfl, t4⟩
  have T4 := Lib.hid (T3.out.trans' t4)
  have HK4 := Lib.hid (HK3.out.touch t4 (by simp))
  clear t4 HK3 T3 c0 c1 CT
  have c0 : w4.cell? ⟨w.heap.size, 0, none⟩ = some (.string c) := HK4.out.cell 0
  have c1 : w4.cell? ⟨w.heap.size, 1, none⟩ = some (.string m) := HK4.out.cell 1
  go_wp2_with fail
  refine (CA2.out _ _ _ (At.new w4 9 [.string label, .string (n8 ++ E)])).mono ?_
  rintro e w5 ⟨rfl, t5⟩
  go_wp2_with fail
  go_ret2
  exact ⟨by rw [HF.out]; rfl, (T4.out.alloc _).trans' t5⟩
end Go.Proofs.YtodehmognjofhaaGreat

namespace Go.Proofs.YtodehmognjofhaaGreat
open Go.RowKit

theorem bytes_toList {a b : ByteArray} : a.toList = b.toList ↔ a = b := by
  obtain ⟨a⟩ := a
  obtain ⟨b⟩ := b
  rw [ByteArray.toList_mk, ByteArray.toList_mk, Array.toList_inj, ByteArray.mk.injEq]
theorem beq_bytes (a b : ByteArray) : (a.toList == b.toList) = decide (a = b) := by
  by_cases h : a = b
  · subst h; simp
  · rw [decide_eq_false h, beq_eq_false_iff_ne]
    exact fun e => h (bytes_toList.1 e)
/-- the tag is right. -/
def openB (m label x : ByteArray) : Bool := decide (bytesOf (tagF (bsOf m) (bsOf label) (bsOf (x.extract 0 (x.size - 32)))) = x.extract (x.size - 32) x.size)
/-- what was sealed. -/
def openS (c x : ByteArray) : ByteArray := bytesOf (encF (bsOf c) (bsOf (x.extract 0 8)) (bsOf (x.extract 8 (x.size - 32))))
def opS (c m label x : ByteArray) : ByteArray := if openB m label x = true then openS c x else ⟨#[]⟩
def opC (m label x : ByteArray) : Int := if openB m label x = true then 0 else 7
set_option maxRecDepth 100000 in
set_option maxHeartbeats 1600000 in
theorem ropen_any (w : World) (c m label x : ByteArray) (hk : mayK c m) (h40 : 40 ≤ x.size) (hx : x.size ≤ 1048616) (hlab : label.size ≤ 1048576) : Calls Tryz.prog 66 #[.agg #[.string c, .string m], .string label, .string x] w fun e w' =>
    e = .returned (.tuple #[.string (opS c m label x), .int .i64 (opC m label x)]) ∧ Touch [] w w' := by
  have CM := Lib.hid fun W => rkmay_any W c m
  rw [decide_eq_true hk] at CM
  obtain ⟨n, hn⟩ : ∃ n, n = x.size - 32 := ⟨_, rfl⟩
  have x1 : (x.extract 0 n).extract 0 8 = x.extract 0 8 := by rw [ByteArray.extract_extract]; congr 1; omega
  have x2 : (x.extract 0 n).extract 8 n = x.extract 8 n := by rw [ByteArray.extract_extract]; congr 1; omega
  have hds : (x.extract 0 n).size = n := by rw [ByteArray.size_extract]; omega
  have hts : (x.extract n x.size).size = 32 := by rw [ByteArray.size_extract]; omega
  have h8s : (x.extract 0 8).size = 8 := by rw [ByteArray.size_extract]; omega
  have CT := Lib.hid fun W => rturned_any W c m (x.extract 0 8) (x.extract 8 n) hk.1 h8s (by rw [ByteArray.size_extract]; omega)
  have hm := hk.2
  have CA := Lib.hid fun (W : World) (lb cap : Nat) (hL : At W lb 9 ([label, x.extract 0 n].map Value.string)) => rall_any W m lb cap [label, x.extract 0 n] (by omega) hL (by
    rw [List.map_cons, List.map_cons, List.map_nil, allF_two, bsOf_len, bsOf_len, hds]
    omega) (by simp)
  simp only [List.map_cons, List.map_nil] at CA
  have HOB : Hid (openB m label x = decide (bytesOf (macF (bsOf m) (allF [bsOf label, bsOf (x.extract 0 n)])) = x.extract n x.size)) := Lib.hid (by unfold openB tagF; rw [← hn])
  have HOS : Hid (openS c x = bytesOf (encF (bsOf c) (bsOf (x.extract 0 8)) (bsOf (x.extract 8 n)))) := Lib.hid (by unfold openS; rw [← hn])
  generalize bytesOf (macF (bsOf m) (allF [bsOf label, bsOf (x.extract 0 n)])) = T at CA HOB
  generalize bytesOf (encF (bsOf c) (bsOf (x.extract 0 8)) (bsOf (x.extract 8 n))) = O at CT HOS
  have i40 : ¬ (x.size : Int) < 40 := by omega
  have imx : ¬ (1048616 : Int) < (x.size : Int) := by omega
  have jn : IntKind.i64.wrap ((x.size : Int) - 32) = (n : Int) := by rw [IntWalk.i64_in _ (by omega)]; omega
  have n0 : (0 : Int) ≤ (n : Int) := by omega
  have n1 : (n : Int) ≤ (x.size : Int) := by omega
  have n2 : n ≤ x.size := by omega
  have n8 : (8 : Int) ≤ (n : Int) := by omega
  have n9 : 8 ≤ n := by omega
  have HK := Lib.hid (At.new w 30 [.string c, .string m])
  have HX := Lib.hid (And.intro x1 x2)
  generalize hd : x.extract 0 n = d at CA hds HX
  generalize ht : x.extract n x.size = t at HOB hts
  clear hn x1 x2 hm hk h40 hx
  go_enter Tryz.func66, Tryz.ntmps66
  go_wp2_with fail
  refine (CM.out _).mono ?_
  rintro e w2 ⟨rfl, t2⟩
  have T2 := Lib.hid (((Touch.refl [] w).alloc (.cells #[.string c, .string m] 30)).trans' t2)
  have HK2 := Lib.hid (HK.out.touch t2 (by simp))
  clear t2 HK CM
  go_upto_region 7 with (fail)
  generalize hkb : w.heap.size = kb at HK2 ⊢
  clear hkb
  go_cut [35] (fun b wx => b = .bool (!(openB m label x)) ∧ Hid (Touch [] w wx) ∧ Hid (At wx kb 30 [.string c, .string m]))
  case first =>
    have c0 : w2.cell? ⟨kb, 1, none⟩ = some (.string m) := HK2.out.cell 1
    go_region_held3 (fun W => W.cell? ⟨kb, 1, none⟩ = some (.string m)) (first | assumption | go_keep) (first | (go_at_call 65; refine (CA.out _ _ _ (At.new w2 9 [.string label, .string d]).drew).mono ?_; rintro e w5 ⟨rfl, t5⟩; have HK5 := Lib.hid (((HK2.out.alloc (.cells #[.string label, .string d] 9)).drew).touch t5 (by simp)); have hK5 : w5.cell? ⟨kb, 1, none⟩ = some (.string m) := HK5.out.cell 1))
    all_goals go_wp2_with fail
    all_goals (go_meet; exact ⟨by rw [HOB.out]; rw [beq_bytes], Lib.hid (((T2.out.alloc _).drew).trans' t5), HK5⟩)
  case rest =>
    obtain ⟨rfl, T7, HK7⟩ := hcut
    clear T2 HK2 CA
    have c0 : wc.cell? ⟨kb, 0, none⟩ = some (.string c) := HK7.out.cell 0
    have c1 : wc.cell? ⟨kb, 1, none⟩ = some (.string m) := HK7.out.cell 1
    cases hob : openB m label x with
    | false =>
      have HR : Hid (opS c m label x = ⟨#[]⟩ ∧ opC m label x = 7) := Lib.hid ⟨by unfold opS; rw [hob]; rfl, by unfold opC; rw [hob]; rfl⟩
      go_wp2_with fail
      go_ret2
      exact ⟨by rw [HR.out.1, HR.out.2]; rfl, T7.out⟩
    | true =>
      have HR : Hid (opS c m label x = O ∧ opC m label x = 0) := Lib.hid ⟨by unfold opS; rw [hob, ← HOS.out]; rfl, by unfold opC; rw [hob]; rfl⟩
      have CT2 : Hid (∀ W, Calls Tryz.prog 64 #[.agg #[.string c, .string m], .string (d.extract 0 8), .string (d.extract 8 d.size)] W fun e w' => e = .returned (.string O) ∧ Touch [] W w') := Lib.hid (by rw [hds, HX.out.1, HX.out.2]; exact CT.out)
      have d8 : (8 : Int) ≤ (d.size : Int) := by omega
      clear CT HX hob HOB hds hts ht hd jn n0 n1 n2 n8 n9 h8s i40 imx
      go_upto_region 9 with (fail)
      go_region_held3 (fun W => W.cell? ⟨kb, 0, none⟩ = some (.string c) ∧ W.cell? ⟨kb, 1, none⟩ = some (.string m)) (first | assumption | go_keep) (first | (go_at_call 64; refine (CT2.out _).mono ?_; rintro e w5 ⟨rfl, t5⟩; have HK5 := Lib.hid (HK7.out.drew.touch t5 (by simp)); have hK5 : w5.cell? ⟨kb, 0, none⟩ = some (.string c) ∧ w5.cell? ⟨kb, 1, none⟩ = some (.string m) := ⟨HK5.out.cell 0, HK5.out.cell 1⟩))
      all_goals go_wp2_with fail
      all_goals go_ret2
      all_goals exact ⟨by rw [HR.out.1, HR.out.2]; rfl, T7.out.drew.trans' t5⟩
end Go.Proofs.YtodehmognjofhaaGreat

namespace Go.Proofs.YtodehmognjofhaaGreat
open Go.RowKit

theorem wpList_append_zeros {w : World} {ops : Array Oper} {rest : List Oper} {o : Oper} {ac : Act} {Q : Exit → Act → World → Prop} (hgd : o.guard = none) (sl : Operand)
    (ho : o.op = .call { callee := .builtin .append, args := #[sl, .const (.int .i64 8)], argTypes := #[36, 3] })
    (nb : Nat) (l : List Nat) (hl : l.length = 8) (hs : ac.eval sl = .slice (some ⟨nb, 0, none⟩) 8 8) (hc : ∀ j v, (bcells l)[j]? = some v → w.cell? ⟨nb, j, none⟩ = some v)
    (h : ∀ cap w', RowZ w' w.heap.size 5 (bcells (l ++ z8)) → Touch [] w w' → wpList Tryz.prog ops Q rest (ac.put o.dst (.slice (some ⟨w.heap.size, 0, none⟩) 16 cap)) w') : wpList Tryz.prog ops Q (o :: rest) ac w := by
  obtain ⟨i0, hii, hz0, hz1, hz2⟩ := info_parts Tryz.infoU8
  refine wpList_plain hgd fun K hK => ?_
  have hzs : (zrs 8).size = 8 := rfl
  have hr := Lib.run_append_grow_string (P := Tryz.prog) w 36 9 o.type 5 i0 _ Tryz.u8sT Tryz.underlying9 hii hz0 ⟨nb, 0, none⟩ 8 8 (bcells l) (by rw [bcells_len, hl, hz1]) (fun j v hj => by rw [Addr.add_lit, Nat.zero_add]; exact hc j v hj) (zrs 8) (by rw [hzs]; decide) (by rw [hzs]; decide) (by rw [hz2, hzs]; exact growslice_fits (by omega) (by omega))
  rw [← app_zero (P := Tryz.prog) (w := w) (t := 36) (t2 := 3) (t3 := 9) (ty := o.type) Tryz.u8sT Tryz.underlying3 Tryz.underlying9 hii hz1 hz2 hz0 (by decide)] at hr
  have hgc := grownCap_ge w (8 + (zrs 8).size) 8 5
  rw [hzs] at hr hgc
  generalize grownCap w (8 + 8) 8 5 = gc at hr hgc
  have hrow : RowZ (w.drew.alloc (.cells ((bcells l).toArray ++ (Lib.strCells (zrs 8)).toArray ++ Builtin.zeroCells (Value.int .u8 0).cells (gc - (8 + 8))) 5)) w.heap.size 5 (bcells (l ++ z8)) := by
    refine ⟨_, (0, 0), heap_alloc_new w.drew _, ?_, ?_, fun i _ => by simp⟩
    · have e : (Lib.strCells (zrs 8)) = bcells z8 := rfl
      rw [e, bcells_append]
      simp only [Array.toList_append, List.append_assoc]
      rw [← List.append_assoc, List.take_left]
    · rw [bcells_len, List.length_append, hl]
      simp only [Array.size_append, List.size_toArray, bcells_len, hl]
      rw [Lib.strCells_length, hzs]
      simp [z8]
  have hce : ac.eval (.const (.int .i64 8)) = .int .i64 8 := rfl
  unfold Oper.wp execOp
  simp only [ho, resolve, invoke, builtin, Sem.run_bind, Sem.run_pure, Result.andThen_ok, List.map_toArray, List.map_cons, List.map_nil, hs, hce]
  rw [show (Value.int .i64 8) = Value.int .i64 ((8 : Nat) : Int) from rfl, hr]
  exact hK _ _ (h gc _ hrow (((Touch.refl [] w).drew).alloc _))
set_option maxRecDepth 100000 in
set_option maxHeartbeats 1600000 in
theorem pturned_any (w : World) (c m s : ByteArray) (l : List Nat) (nb cp : Nat) (hc : c.size = 16) (hl : l.length = 8) (hlb : Bytes l) (hcp : 8 ≤ cp) (hs : s.size < 1152921504606846976) (hN : ∀ j v, (bcells l)[j]? = some v → w.cell? ⟨nb, j, none⟩ = some v) (hnb : nb < w.heap.size) :
    Calls Tryz.prog 60 #[.agg #[.string c, .string m], .slice (some ⟨nb, 0, none⟩) 8 cp, .string s] w fun e w' => e = .returned (.string (bytesOf (encF (bsOf c) l (bsOf s)))) ∧ Touch [] w w' := by
  have hcpi : (8 : Int) ≤ (cp : Int) := by omega
  have HN := Lib.hid hN
  clear hN
  have HL : Hid (bsOf (bytesOf (l ++ z8)) = l ++ z8) := Lib.hid (bsOf_bytesOf (bytes_app hlb z8_bytes))
  have HLS : Hid ((bytesOf (l ++ z8)).size = 16) := Lib.hid (by rw [bytesOf_size, List.length_append, hl]; rfl)
  go_enter Tryz.func60, Tryz.ntmps60
  go_wp2_with fail
  refine (aesnew_any _ c hc).mono ?_
  rintro e w2 ⟨cb, rfl, hge, t2, hC2⟩
  have T2 := Lib.hid (((Touch.refl [] w).alloc (.cells #[.string c, .string m] 30)).trans' t2)
  have HC2 := Lib.hid hC2
  have HN2 := Lib.hid fun j v h => (T2.out.cell (p := ⟨nb, j, none⟩) hnb (by simp)).trans (HN.out j v h)
  clear t2 hC2 hge HN
  go_wp2_with ((refine wpList_append_zeros rfl (.tmp 20) rfl nb l hl rfl HN2.out ?_; intro cap3 w3 hR3 t3; have T3 := Lib.hid t3; have hcv := RowZ.conv (P := Tryz.prog) hR3 (bytes_app hlb z8_bytes) 16 cap3 (by rw [List.length_append, hl]; rfl) Tryz.underlying36 Tryz.underlying5 Tryz.underlying9; clear t3 hR3))
  have C := cturn_any w3 cb (rkF (bsOf c)) (bytesOf (l ++ z8)) s (rkF_len (by rw [bsOf_len, hc])) (rkF_bytes (bsOf_bytes c)) HLS.out hs (HC2.out.touch T3.out (by simp))
  rw [HL.out] at C
  refine C.mono ?_
  clear C
  rintro e w4 ⟨rfl, t4⟩
  go_wp2_with fail
  go_ret
  exact ⟨rfl, (T2.out.trans' T3.out).trans' t4⟩
end Go.Proofs.YtodehmognjofhaaGreat
