/-
  Lists of numbers that came in, or that a call has told; cofferlaw27.ids.
-/
import Derived.Test.YtaendccnjiagiaaPLive
import Derived.ProofKit
import Derived.OpenShut
import Derived.ChangeOld
namespace Go.Proofs.Ytaendccnjiagiaa
open Go.RowKit

/-- A slice of numbers, for reading. -/
structure Nums (w : World) (k : IntKind) (a : Option Addr) (n cap : Nat) (zs : List Int) : Prop where
  len : zs.length = n
  cap_ : n ≤ cap
  max : cap ≤ 9223372036854775807
  at_ : 0 < n → ∃ b off, a = some ⟨b, off, none⟩ ∧ b < w.heap.size ∧ ∀ i, i < n → w.cell? ⟨b, off + i, none⟩ = some (.int k (zs.getD i 0))
theorem Nums.touch {w w' : World} {k : IntKind} {a : Option Addr} {n cap : Nat} {zs : List Int} (h : Nums w k a n cap zs) (t : Touch [] w w') : Nums w' k a n cap zs := by
  refine ⟨h.len, h.cap_, h.max, fun hn => ?_⟩
  obtain ⟨b, off, h1, h2, h3⟩ := h.at_ hn
  exact ⟨b, off, h1, Nat.lt_of_lt_of_le h2 t.size, fun i hi => (t.cell (p := ⟨b, off + i, none⟩) h2 (by simp)).trans (h3 i hi)⟩
theorem Nums.ofRow {w : World} {e : TypeId} {k : IntKind} {a : Option Addr} {n cap : Nat} {own : List Nat} {zs : List Int} (h : Row w e 1 a n cap own (zs.map (Value.int k))) : Nums w k a n cap zs := by
  have hl : zs.length = n := by have := h.1; simpa using this
  refine ⟨hl, h.2.1, by have := h.2.2.1; unfold maxLen at this; omega, fun hn => ?_⟩
  obtain ⟨b, off, cur, rfl, rfl, hg, -⟩ := h.form (by have := h.2.1; omega)
  refine ⟨b, off, rfl, h.lt b (by simp), fun i hi => h.cellSome i _ ?_⟩
  rw [List.getElem?_map, List.getElem?_eq_getElem (by omega)]
  simp [List.getD, List.getElem?_eq_getElem (show i < zs.length by omega)]

theorem ids_eq_iff {l l' : List Int} (h : l.length = l'.length) : l = l' ↔ ∀ i, i < l.length → l.getD i 0 = l'.getD i 0 := by
  constructor
  · rintro rfl; simp
  · intro hi
    apply List.ext_getElem h
    intro i h1 h2
    have := hi i h1
    simpa [List.getD, h1, h2] using this

set_option maxRecDepth 100000 in
theorem idsEq_any (w : World) (a a' : Option Addr) (n c n' c' : Nat) (l l' : List Int) (h : Nums w .u64 a n c l) (h' : Nums w .u64 a' n' c' l') :
    Calls Try.prog 13 #[.slice a n c, .slice a' n' c'] w fun e w' => e = .returned (.bool (decide (l = l'))) ∧ Touch [] w w' := by
  have hn := h.len
  have hn' := h'.len
  have hm := h.max
  have hc := h.cap_
  have hc' := h'.cap_
  have hm' := h'.max
  by_cases hnn : n = n'
  · subst hnn
    have HL := Lib.hid hn
    have HL' := Lib.hid hn'
    clear hn hn'
    go_enter Try.func13, Try.ntmps13
    go_wp2
    go_loopw [5] (fun i wr => ∃ k : Nat, k ≤ n ∧ i = .int .i64 k ∧ Touch [] w wr ∧ Hid (∀ j, j < k → l.getD j 0 = l'.getD j 0)) (fun i _ => n - (intOf i).toNat)
    case atStart => exact ⟨0, by omega, rfl, Touch.refl _ _, fun j hj => by omega⟩
    case round =>
      obtain ⟨k, hk, rfl, t, HB⟩ := hrel
      by_cases hlt : k < n
      · obtain ⟨b, off, rfl, -, hb⟩ := (h.touch t).at_ (by omega)
        obtain ⟨b', off', rfl, -, hb'⟩ := (h'.touch t).at_ (by omega)
        have q1 := hb k hlt
        have q2 := hb' k hlt
        have hki : (k : Int) < (n : Int) := by omega
        obtain ⟨x, hx⟩ : ∃ x, l.getD k 0 = x := ⟨_, rfl⟩
        obtain ⟨y, hy⟩ : ∃ y, l'.getD k 0 = y := ⟨_, rfl⟩
        rw [hx] at q1
        rw [hy] at q2
        have HX := Lib.hid hx
        have HY := Lib.hid hy
        have T := Lib.hid t
        clear hb hb' t hx hy
        cases he : x == y
        · have hne : (x != y) = true := by simp [bne, he]
          have hd : Hid (decide (l = l') = false) := by
            show decide (l = l') = false
            rw [decide_eq_false_iff_not]
            rintro rfl
            have := HX.out.symm.trans HY.out
            rw [this] at he
            simp at he
          go_wp2
          go_quiet (fail)
          go_wp2
          go_ret
          exact ⟨by rw [hd.out]; rfl, T.out.drewN _⟩
        · have hne : (x != y) = false := by simp [bne, he]
          have HE := Lib.hid he
          go_wp2
          go_quiet (fail)
          go_wp2
          go_roundw
          case rel =>
            refine ⟨k + 1, by omega, by go_num, T.out.drewN _, fun j hj => ?_⟩
            by_cases e : j = k
            · subst e; rw [HX.out, HY.out]; simpa using HE.out
            · exact HB j (by omega)
          case measure => simp [intOf]; omega
      · obtain rfl : k = n := by omega
        have hd : Hid (decide (l = l') = true) := by
          show decide (l = l') = true
          rw [decide_eq_true_iff]
          exact (ids_eq_iff (by rw [HL.out, HL'.out])).2 (fun i hi => HB i (by rw [← HL.out]; exact hi))
        go_wp2
        go_ret
        exact ⟨by rw [hd.out]; rfl, t⟩
  · have hne : ((n : Int) == (n' : Int)) = false := beq_eq_false_iff_ne.2 (by omega)
    have hd : Hid (decide (l = l') = false) := by
      show decide (l = l') = false
      rw [decide_eq_false_iff_not]; rintro rfl; omega
    clear hnn hn hn'
    go_enter Try.func13, Try.ntmps13
    go_wp2
    go_ret
    exact ⟨by rw [hd.out]; rfl, Touch.refl _ _⟩

theorem Row.one {w : World} {e : TypeId} {k : IntKind} {b off n cap : Nat} {own : List Nat} {zs : List Int} (h : Row w e 1 (some ⟨b, off, none⟩) n cap own (zs.map (Value.int k))) (i : Nat) (hi : i < n) : w.cell? ⟨b, off + i, none⟩ = some (.int k (zs.getD i 0)) := by
  have hl : zs.length = n := by have := h.1; simpa using this
  refine h.cellSome i _ ?_
  rw [List.getElem?_map, List.getElem?_eq_getElem (by omega)]
  simp [List.getD, List.getElem?_eq_getElem (show i < zs.length by omega)]

/-- the tail of a list of numbers. -/
theorem Nums.drop {w : World} {k : IntKind} {b off n cap : Nat} {zs : List Int} (h : Nums w k (some ⟨b, off, none⟩) n cap zs) (j : Nat) (hj : j ≤ n) : Nums w k (if cap = j then some ⟨b, off, none⟩ else some ⟨b, off + j, none⟩) (n - j) (cap - j) (zs.drop j) := by
  refine ⟨by rw [List.length_drop, h.len], by have := h.cap_; omega, by have := h.max; omega, fun hn => ?_⟩
  rw [if_neg (by have := h.cap_; omega)]
  obtain ⟨b', off', h1, h2, h3⟩ := h.at_ (by omega)
  cases h1
  refine ⟨b, off + j, rfl, h2, fun i hi => ?_⟩
  rw [Nat.add_assoc, h3 (j + i) (by omega)]
  have hl := h.len
  simp [List.getD, List.getElem?_drop]
end Go.Proofs.Ytaendccnjiagiaa
