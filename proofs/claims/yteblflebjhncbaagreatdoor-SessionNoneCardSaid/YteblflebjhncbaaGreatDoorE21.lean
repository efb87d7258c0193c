/-
  A run by the kernel: a region that draws its order, by one order.
-/
import Derived.Test.YteblflebjhncbaaGreatDoorE20
import Derived.OrdersIn
namespace Go.Proofs.YteblflebjhncbaaGreatDoor
open Go.RowKit

/-- blocks that float: laid by an 'alloc' whenever it is, taken up by memory later. -/
noncomputable def adM (L : List (Nat × SObj)) (m : T SObj) : T SObj := List.rec (motive := fun _ => T SObj) m (fun p _ ih => ih.put (some p.2) p.1) L
variable [Orig]
def AllocOk (P : Program) (o : Oper) (z : SObj) : Prop := (∀ c, o.op ≠ .defer c) ∧ ∀ (a : Act) (w : World), ∃ ob, (execOp a.eval o).run P w = .ok (.value (.pointer (some ⟨w.heap.size, 0, none⟩))) (w.alloc ob) ∧ ∀ ρ, ObjRel P ρ (w.heap.size, 0) z ob
theorem adM_ok {P : Program} {ρ : Pl} {m : T SObj} {nx : Nat} {w0 : Base} {w : World} (h : Emb P ρ m nx w0 w) : ∀ {L : List (Nat × SObj)}, (∀ p ∈ L, ∃ x ob, ρ p.1 = some x ∧ w.heap[x.1]? = some ob ∧ ObjRel P ρ x p.2 ob ∧ ¬ w0.pr x.1 ∧ ∀ b' x', (m.get b').isSome = true → ρ b' = some x' → x'.1 ≠ x.1) →
    (L.Pairwise fun p q => ∀ x y, ρ p.1 = some x → ρ q.1 = some y → x.1 ≠ y.1) → Emb P ρ (adM L m) nx w0 w ∧ ∀ b', ((adM L m).get b').isSome = true → (m.get b').isSome = true ∨ ∃ p ∈ L, b' = p.1
  | [], _, _ => ⟨h, fun _ hb => .inl hb⟩
  | p :: L, hL, hd => by
    obtain ⟨k1, k2⟩ := adM_ok h (fun q hq => hL q (by simp [hq])) (List.pairwise_cons.1 hd).2
    obtain ⟨x, ob, a1, a2, a3, a4, a5⟩ := hL p (by simp)
    refine ⟨k1.adopt a1 a2 a4 (fun b' x' hb' hx' => ?_) a3, fun b' hb' => ?_⟩
    · rcases k2 b' hb' with h1 | ⟨q, hq, rfl⟩
      · exact a5 b' x' h1 hx'
      · exact fun e => (List.pairwise_cons.1 hd).1 q hq x x' a1 hx' e.symm
    · have hb2 : (T.get ((adM L m).put (some p.2) p.1) b').isSome = true := hb'
      rw [T.get_put] at hb2
      by_cases e : b' = p.1
      · exact .inr ⟨p, by simp, e⟩
      · rw [if_neg e] at hb2
        rcases k2 b' hb2 with h1 | ⟨q, hq, h2⟩
        · exact .inl h1
        · exact .inr ⟨q, by simp [hq], h2⟩
structure Canon (P : Program) (E : Env) (cal : Cal) (N : Nat) (all : List Oper) (pre : Nat → Nat) (act : Nat → Bool) (Fl : Nat → Option (Nat × SObj)) (A : Nat → List (Nat × SObj)) (AL : List (Nat × SObj)) (F : Nat → T SV) (M : Nat → T SObj) (X : Nat → Nat) (v : Nat → SV) (want : Nat → Bool) (G : Nat → T SV) : Prop where
  s1 : ∀ k o, all[k]? = some o → ∀ e ∈ o.after.toList, Region.binds .any e = true → e.on < k
  s2 : ∀ k o j, all[k]? = some o → (pre k).testBit j = true → ∃ e ∈ o.after.toList, Region.binds .any e = true ∧ (e.on = j ∨ (pre e.on).testBit j = true)
  s3 : ∀ i j oi oj, i < j → all[i]? = some oi → all[j]? = some oj → (pre j).testBit i = true ∨ (oi.apart all.toArray oj = true ∧ ¬ (act i = true ∧ act j = true))
  d1 : ∀ k o, all[k]? = some o → fput N (F k) o.dst (v k) = some (F (k + 1))
  d2 : ∀ k o d x, all[k]? = some o → (G k).get d = some x → d ∈ o.looksAt all.toArray ∧ (F k).get d = some x
  d3 : ∀ k o, all[k]? = some o → wantE all (G k) o.guard = some (want k)
  d4 : ∀ k o, all[k]? = some o → want k = false → v k = .tup [] ∧ M (k + 1) = M k ∧ X (k + 1) = X k
  d5 : ∀ k o, all[k]? = some o → want k = true → act k = true → valE E cal o ⟨G k, adM (A k) (M k), X k⟩ = some (v k, M (k + 1), X (k + 1))
  d6 : ∀ k o, all[k]? = some o → act k = false → M (k + 1) = M k ∧ X (k + 1) = X k
  d7 : ∀ k o c, all[k]? = some o → want k = true → act k = false → c ≤ all.length → (c = 0 ∨ act (c - 1) = true) → (∀ j, j < all.length → act j = true → j < c → (pre j).testBit k = false) → (∀ j, j < all.length → act j = true → c ≤ j → (pre k).testBit j = false) →
    Fl k = none → evP E (M c) (G k) o = some (v k)
  f1 : ∀ k o b z, all[k]? = some o → Fl k = some (b, z) → v k = .ptr b 0 ∧ act k = false ∧ want k = true ∧ AllocOk P o z
  f2 : ∀ k k' b z z', Fl k = some (b, z) → Fl k' = some (b, z') → k = k'
  f3 : ∀ k q, Fl k = some q → k < all.length
  a1 : ∀ i q, q ∈ A i → act i = true ∧ want i = true ∧ ∃ j, Fl j = some q ∧ (pre i).testBit j = true
  a2 : ∀ i i' q, q ∈ A i → q ∈ A i' → i = i'
  a3 : ∀ i, ((A i).map (·.1)).Nodup
  l1 : ∀ q, q ∈ AL → (∃ j, Fl j = some q) ∧ ∀ i, q ∉ A i
  l2 : (AL.map (·.1)).Nodup

section
variable {P : Program} {E : Env} {cal : Cal} {N : Nat} {all : List Oper} {pre : Nat → Nat} {act : Nat → Bool} {Fl : Nat → Option (Nat × SObj)} {A : Nat → List (Nat × SObj)} {AL : List (Nat × SObj)} {F : Nat → T SV} {M : Nat → T SObj} {X : Nat → Nat} {v : Nat → SV} {want : Nat → Bool} {G : Nat → T SV}
def dstAt (all : List Oper) (k : Nat) : Option Tmp := (all[k]?).bind (·.dst)
omit [Orig] in
theorem Canon.fget (C : Canon P E cal N all pre act Fl A AL F M X v want G) : ∀ (k : Nat), k ≤ all.length → ∀ d x, (F k).get d = some x →
    (∃ j, j < k ∧ dstAt all j = some d ∧ (∀ j', j < j' → j' < k → dstAt all j' ≠ some d) ∧ x = v j) ∨ ((∀ j, j < k → dstAt all j ≠ some d) ∧ (F 0).get d = some x)
  | 0, _, d, x, h => .inr ⟨fun j hj => by omega, h⟩
  | k + 1, hk, d, x, h => by
    have ho : all[k]? = some (all[k]'(by omega)) := List.getElem?_eq_getElem (by omega)
    have hf := C.d1 k _ ho
    have hd : dstAt all k = (all[k]'(by omega)).dst := by unfold dstAt; rw [ho]; rfl
    generalize all[k]'(by omega) = o at ho hf hd
    have step : dstAt all k ≠ some d → (F k).get d = some x → (∃ j, j < k + 1 ∧ dstAt all j = some d ∧ (∀ j', j < j' → j' < k + 1 → dstAt all j' ≠ some d) ∧ x = v j) ∨ ((∀ j, j < k + 1 → dstAt all j ≠ some d) ∧ (F 0).get d = some x) := by
      intro hne hg
      rcases C.fget k (by omega) d x hg with ⟨j, h1, h2, h3, h4⟩ | ⟨h1, h2⟩
      · refine .inl ⟨j, by omega, h2, fun j' a1 a2 => ?_, h4⟩
        rcases Nat.lt_or_ge j' k with h5 | h5
        · exact h3 j' a1 h5
        · obtain rfl : j' = k := by omega
          exact hne
      · refine .inr ⟨fun j hj => ?_, h2⟩
        rcases Nat.lt_or_ge j k with h5 | h5
        · exact h1 j h5
        · obtain rfl : j = k := by omega
          exact hne
    cases hdst : o.dst with
    | none =>
      rw [hdst] at hf hd
      have hF : F k = F (k + 1) := Option.some.inj hf
      refine step (by rw [hd]; simp) ?_
      rw [hF]
      exact h
    | some t =>
      rw [hdst] at hf hd
      obtain ⟨h1, h2⟩ := oi_eq.1 hf
      have h2 := Option.some.inj h2
      rw [← h2, T.get_put] at h
      by_cases ht : d = t
      · subst ht
        rw [if_pos rfl] at h
        cases h
        exact .inl ⟨k, by omega, hd, fun j' a1 a2 => by omega, rfl⟩
      · rw [if_neg ht] at h
        exact step (by rw [hd]; intro e; exact ht (Option.some.inj e).symm) h
omit [Orig] in
/-- a predecessor of what is listed, or ready, is listed. -/
theorem Canon.closed (C : Canon P E cal N all pre act Fl A AL F M X v want G) {L : Nat → Prop} (down : ∀ k o, L k → all[k]? = some o → ∀ e ∈ o.after.toList, Region.binds .any e = true → L e.on) (lt : ∀ k, L k → k < all.length) :
    ∀ (b k : Nat) (o : Oper), k < b → all[k]? = some o → (∀ e ∈ o.after.toList, Region.binds .any e = true → L e.on) → ∀ j, (pre k).testBit j = true → L j
  | 0, k, o, hb, _, _, _, _ => by omega
  | b + 1, k, o, hb, ho, hall, j, hj => by
    obtain ⟨e, h1, h2, h3⟩ := C.s2 k o j ho hj
    have hL := hall e h1 h2
    rcases h3 with rfl | h3
    · exact hL
    · have hlt := C.s1 k o ho e h1 h2
      have ho' : all[e.on]? = some (all[e.on]'(lt _ hL)) := List.getElem?_eq_getElem _
      exact C.closed down lt b e.on _ (by omega) ho' (fun e' he' hb' => down e.on _ hL ho' e' he' hb') j h3
structure PInv (P : Program) (Fl : Nat → Option (Nat × SObj)) (A : Nat → List (Nat × SObj)) (M : Nat → T SObj) (X : Nat → Nat) (w0 : Base) (ρ : Pl) (c : Nat) (listed : Array Bool) (w : World) : Prop where
  fv : ∀ k b z, Fl k = some (b, z) → ¬ w0.rv b
  pd0 : ∀ k b z, Fl k = some (b, z) → listed.getD k false = false → ρ b = none ∧ b < X c
  pd1 : ∀ k b z, Fl k = some (b, z) → listed.getD k false = true → ∃ x, ρ b = some x
  pd2 : ∀ k b z, Fl k = some (b, z) → listed.getD k false = true → (∀ i, i < c → (b, z) ∉ A i) → ∀ x, ρ b = some x → ∃ ob, w.heap[x.1]? = some ob ∧ ObjRel P ρ x z ob ∧ ¬ w0.pr x.1 ∧ ∀ b' x', ((M c).get b').isSome = true → ρ b' = some x' → x'.1 ≠ x.1
  dist : ∀ k k' b z b' z' x x', Fl k = some (b, z) → Fl k' = some (b', z') → ρ b = some x → ρ b' = some x' → x.1 = x'.1 → k = k'
structure RInv (P : Program) (N : Nat) (all : List Oper) (act : Nat → Bool) (Fl : Nat → Option (Nat × SObj)) (A : Nat → List (Nat × SObj)) (F : Nat → T SV) (M : Nat → T SObj) (X : Nat → Nat) (v : Nat → SV) (w0 : Base) (D : List Deferred) (ρ : Pl) (c : Nat) (listed : Array Bool) (a : Act) (w : World) : Prop where
  size : listed.size = all.length
  down : ∀ k o, listed.getD k false = true → all[k]? = some o → ∀ e ∈ o.after.toList, Region.binds .any e = true → listed.getD e.on false = true
  cn : c ≤ all.length
  nrm : c = 0 ∨ act (c - 1) = true
  split_ : ∀ j, j < all.length → act j = true → (listed.getD j false = true ↔ j < c)
  emb : Emb P ρ (M c) (X c) w0 w
  t1 : ∀ k d, listed.getD k false = true → dstAt all k = some d → (∀ k', listed.getD k' false = true → k < k' → dstAt all k' ≠ some d) → ∃ u, a.tmps[d]? = some u ∧ den ρ (v k) = some u
  t2 : ∀ d x, (∀ k, listed.getD k false = true → dstAt all k ≠ some d) → (F 0).get d = some x → ∃ u, a.tmps[d]? = some u ∧ den ρ x = some u
  sz : a.tmps.size = N
  d : a.defers = D
  p : PInv P Fl A M X w0 ρ c listed w
omit [Orig] in
theorem getD_lt {listed : Array Bool} {k : Nat} (h : listed.getD k false = true) : k < listed.size := by
  rcases Nat.lt_or_ge k listed.size with h' | h'
  · exact h'
  · simp [Array.getElem?_eq_none h'] at h
omit [Orig] in
theorem getD_two {listed : Array Bool} {k : Nat} (h : listed.getD k true = false) : k < listed.size ∧ listed.getD k false = false := by
  rcases Nat.lt_or_ge k listed.size with h' | h'
  · refine ⟨h', ?_⟩
    simp [h'] at h ⊢
    exact h
  · simp [Array.getElem?_eq_none h'] at h
omit [Orig] in
theorem apart3 {ops : Array Oper} {x y : Oper} (h : x.apart ops y = true) : (∀ d, x.dst = some d → d ∉ y.looksAt ops) ∧ (∀ d, x.dst = some d → y.dst ≠ some d) ∧ (∀ d, y.dst = some d → d ∉ x.looksAt ops) := Oper.apart_spec h
/-- the frame that an operation sees. -/
theorem Canon.sees (C : Canon P E cal N all pre act Fl A AL F M X v want G) {w0 : Base} {w : World} {D : List Deferred} {ρ : Pl} {c : Nat} {listed : Array Bool} {a : Act} (I : RInv P N all act Fl A F M X v w0 D ρ c listed a w) {k : Nat} {o : Oper} (ho : all[k]? = some o) (hk : listed.getD k true = false)
    (hall : ∀ e ∈ o.after.toList, Region.binds .any e = true → listed.getD e.on false = true) : FRel ρ N (G k) a := by
  obtain ⟨hk1, hk2⟩ := getD_two hk
  rw [I.size] at hk1
  have lt : ∀ j, listed.getD j false = true → j < all.length := fun j hj => by rw [← I.size]; exact getD_lt hj
  have cl := C.closed (L := fun j => listed.getD j false = true) I.down lt
  refine ⟨I.sz, fun d x hd => ?_⟩
  obtain ⟨h1, h2⟩ := C.d2 k o d x ho hd
  have late : ∀ k', listed.getD k' false = true → k < k' → dstAt all k' ≠ some d := by
    intro k' hl hlt hd'
    have hk' := lt k' hl
    have ho' : all[k']? = some (all[k']'hk') := List.getElem?_eq_getElem _
    have hd2 : (all[k']'hk').dst = some d := by unfold dstAt at hd'; rw [ho'] at hd'; exact hd'
    rcases C.s3 k k' o _ hlt ho ho' with hp | ⟨hp, -⟩
    · have := cl (k' + 1) k' _ (by omega) ho' (I.down k' _ hl ho') k hp
      rw [hk2] at this; cases this
    · exact (apart3 hp).2.2 d hd2 h1
  rcases C.fget k (by omega) d x h2 with ⟨j, a1, a2, a3, rfl⟩ | ⟨a1, a2⟩
  · have hj : j < all.length := by omega
    have hoj : all[j]? = some (all[j]'hj) := List.getElem?_eq_getElem _
    have hdj : (all[j]'hj).dst = some d := by unfold dstAt at a2; rw [hoj] at a2; exact a2
    have hL : listed.getD j false = true := by
      rcases C.s3 j k _ o a1 hoj ho with hp | ⟨hp, -⟩
      · exact cl (k + 1) k o (by omega) ho hall j hp
      · exact absurd h1 ((apart3 hp).1 d hdj)
    refine I.t1 j d hL a2 fun k' hl hlt => ?_
    rcases Nat.lt_trichotomy k' k with h | h | h
    · exact a3 k' hlt h
    · subst h; rw [hk2] at hl; cases hl
    · exact late k' hl h
  · refine I.t2 d x (fun k' hl => ?_) a2
    rcases Nat.lt_trichotomy k' k with h | h | h
    · exact a1 k' h
    · subst h; rw [hk2] at hl; cases hl
    · exact late k' hl h
/-- behind an operation. -/
theorem Canon.next (C : Canon P E cal N all pre act Fl A AL F M X v want G) {w0 : Base} {w w' : World} {D : List Deferred} {ρ ρ' : Pl} {c c' : Nat} {listed : Array Bool} {a : Act} (I : RInv P N all act Fl A F M X v w0 D ρ c listed a w) {k : Nat} {o : Oper} (ho : all[k]? = some o) (hk : listed.getD k true = false)
    (hall : ∀ e ∈ o.after.toList, Region.binds .any e = true → listed.getD e.on false = true) (hle : Le ρ ρ') {u : Value} (hu : den ρ' (v k) = some u) (hem : Emb P ρ' (M c') (X c') w0 w') (hc' : (act k = true → c' = k + 1) ∧ (act k = false → c' = c)) (hp : PInv P Fl A M X w0 ρ' c' (listed.setIfInBounds k true) w') :
    RInv P N all act Fl A F M X v w0 D ρ' c' (listed.setIfInBounds k true) (a.put o.dst u) w' := by
  obtain ⟨hk1, hk2⟩ := getD_two hk
  rw [I.size] at hk1
  have lt : ∀ j, listed.getD j false = true → j < all.length := fun j hj => by rw [← I.size]; exact getD_lt hj
  have cl := C.closed (L := fun j => listed.getD j false = true) I.down lt
  have hset : ∀ j, (listed.setIfInBounds k true).getD j false = true ↔ (j = k ∨ listed.getD j false = true) := by
    intro j
    by_cases e : k = j
    · subst e
      have : k < listed.size := by rw [I.size]; exact hk1
      simp [this]
    · rw [getD_set_ne false e]
      constructor
      · exact fun h => .inr h
      · rintro (h | h)
        · exact absurd h.symm e
        · exact h
  have hdk : dstAt all k = o.dst := by unfold dstAt; rw [ho]; rfl
  have uni : ∀ j, listed.getD j false = true → k < j → ∀ d, o.dst = some d → dstAt all j ≠ some d := by
    intro j hl hlt d hd hdj
    have hj := lt j hl
    have hoj : all[j]? = some (all[j]'hj) := List.getElem?_eq_getElem _
    rcases C.s3 k j o _ hlt ho hoj with hp | ⟨hp, -⟩
    · have := cl (j + 1) j _ (by omega) hoj (I.down j _ hl hoj) k hp
      rw [hk2] at this; cases this
    · have := (apart3 hp).2.1 d hd
      unfold dstAt at hdj
      rw [hoj] at hdj
      exact this hdj
  refine ⟨by simp [I.size], ?_, ?_, ?_, ?_, hem, ?_, ?_, ?_, ?_, hp⟩
  · intro j oj hj hoj e he hb
    rcases (hset j).1 hj with rfl | hj
    · rw [ho] at hoj
      cases hoj
      exact (hset _).2 (.inr (hall e he hb))
    · exact (hset _).2 (.inr (I.down j oj hj hoj e he hb))
  · cases ha : act k with
    | true => rw [hc'.1 ha]; omega
    | false => rw [hc'.2 ha]; exact I.cn
  · cases ha : act k with
    | true => right; rw [hc'.1 ha]; simpa using ha
    | false => rw [hc'.2 ha]; exact I.nrm
  · intro j hj hact
    rw [hset]
    cases ha : act k with
    | false =>
      rw [hc'.2 ha, ← I.split_ j hj hact]
      constructor
      · rintro (rfl | h)
        · rw [ha] at hact; cases hact
        · exact h
      · exact fun h => .inr h
    | true =>
      rw [hc'.1 ha]
      constructor
      · rintro (rfl | h)
        · omega
        · rcases Nat.lt_or_ge k j with hlt | hge
          · have hoj : all[j]? = some (all[j]'hj) := List.getElem?_eq_getElem _
            rcases C.s3 k j o _ hlt ho hoj with hp | ⟨-, hp⟩
            · have := cl (j + 1) j _ (by omega) hoj (I.down j _ h hoj) k hp
              rw [hk2] at this; cases this
            · exact absurd ⟨ha, hact⟩ hp
          · omega
      · intro h
        by_cases e : j = k
        · exact .inl e
        · have hlt : j < k := by omega
          have hoj : all[j]? = some (all[j]'hj) := List.getElem?_eq_getElem _
          rcases C.s3 j k _ o hlt hoj ho with hp | ⟨-, hp⟩
          · exact .inr (cl (k + 1) k o (by omega) ho hall j hp)
          · exact absurd ⟨hact, ha⟩ hp
  · intro j d hj hd hlast
    rcases (hset j).1 hj with rfl | hj2
    · rw [hdk] at hd
      have : o.dst = some d := hd
      have hi : d < a.tmps.size := by
        have := C.d1 j o ho
        rw [hd] at this
        obtain ⟨h1, -⟩ := oi_eq.1 this
        rw [I.sz]
        exact blt_true h1
      exact ⟨u, by rw [hd]; simp [Act.put, hi], hu⟩
    · by_cases e : o.dst = some d
      · exfalso
        rcases Nat.lt_trichotomy j k with h | h | h
        · exact hlast k ((hset k).2 (.inl rfl)) h (by rw [hdk]; exact e)
        · subst h; rw [hk2] at hj2; cases hj2
        · exact uni j hj2 h d e hd
      · obtain ⟨u', g1, g2⟩ := I.t1 j d hj2 hd (fun k' hl hlt => hlast k' ((hset k').2 (.inr hl)) hlt)
        refine ⟨u', ?_, den_mono hle _ g2⟩
        cases hdst : o.dst with
        | none => simpa [Act.put] using g1
        | some t =>
          have hne : t ≠ d := fun h => e (by rw [hdst, h])
          simp only [Act.put]
          rw [Array.getElem?_setIfInBounds_ne hne]
          exact g1
  · intro d x hnone hx
    have e : o.dst ≠ some d := by
      have := hnone k ((hset k).2 (.inl rfl))
      rwa [hdk] at this
    obtain ⟨u', g1, g2⟩ := I.t2 d x (fun k' hl => hnone k' ((hset k').2 (.inr hl))) hx
    refine ⟨u', ?_, den_mono hle _ g2⟩
    cases hdst : o.dst with
    | none => simpa [Act.put] using g1
    | some t =>
      have hne : t ≠ d := fun h => e (by rw [hdst, h])
      simp only [Act.put]
      rw [Array.getElem?_setIfInBounds_ne hne]
      exact g1
  · cases o.dst <;> simp [Act.put, I.sz]
  · rw [put_defers]; exact I.d
omit [Orig] in
theorem getD_set {listed : Array Bool} {k j : Nat} (hk : k < listed.size) : (listed.setIfInBounds k true).getD j false = true ↔ (j = k ∨ listed.getD j false = true) := by
  by_cases e : k = j
  · subst e
    simp [hk]
  · rw [getD_set_ne false e]
    constructor
    · exact fun h => .inr h
    · rintro (h | h)
      · exact absurd h.symm e
      · exact h
omit [Orig] in
theorem PInv.same {w0 : Base} {w : World} {ρ : Pl} {c c' : Nat} {listed : Array Bool} (I : PInv P Fl A M X w0 ρ c listed w) {k : Nat} (hk : k < listed.size) (hF : Fl k = none) (hc : c ≤ c') (hM : M c' = M c) (hX : X c' = X c) : PInv P Fl A M X w0 ρ c' (listed.setIfInBounds k true) w := by
  have un : ∀ k1 q, Fl k1 = some q → (listed.setIfInBounds k true).getD k1 false = listed.getD k1 false := by
    intro k1 q h
    have hne : k ≠ k1 := fun e => by subst e; rw [hF] at h; cases h
    exact getD_set_ne false hne
  refine ⟨I.fv, fun k1 b z h1 h2 => ?_, fun k1 b z h1 h2 => ?_, fun k1 b z h1 h2 h3 x hx => ?_, I.dist⟩
  · rw [un k1 _ h1] at h2
    rw [hX]
    exact I.pd0 k1 b z h1 h2
  · rw [un k1 _ h1] at h2
    exact I.pd1 k1 b z h1 h2
  · rw [un k1 _ h1] at h2
    rw [hM]
    exact I.pd2 k1 b z h1 h2 (fun i hi => h3 i (by omega)) x hx
theorem PInv.float {w0 : Base} {w : World} {ρ : Pl} {c : Nat} {listed : Array Bool} (I : PInv P Fl A M X w0 ρ c listed w) (hem : Emb P ρ (M c) (X c) w0 w) (f2 : ∀ k k' b z z', Fl k = some (b, z) → Fl k' = some (b, z') → k = k') {k : Nat} (hk : k < listed.size) (hun : listed.getD k false = false) {b : Nat} {z : SObj} (hF : Fl k = some (b, z)) {ob : Obj} (hob : ∀ ρ, ObjRel P ρ (w.heap.size, 0) z ob) :
    Emb P (pset ρ b (w.heap.size, 0)) (M c) (X c) w0 (w.alloc ob) ∧ Le ρ (pset ρ b (w.heap.size, 0)) ∧ PInv P Fl A M X w0 (pset ρ b (w.heap.size, 0)) c (listed.setIfInBounds k true) (w.alloc ob) := by
  obtain ⟨h1, h2⟩ := I.pd0 k b z hF hun
  have hle : Le ρ (pset ρ b (w.heap.size, 0)) := pset_le _ h1
  have hsz : (w.alloc ob).heap.size = w.heap.size + 1 := by simp
  have same : ∀ c, c ≠ b → pset ρ b (w.heap.size, 0) c = ρ c := fun c hc => by rw [pset_at, if_neg hc]
  have other : ∀ k1 b1 z1, Fl k1 = some (b1, z1) → k1 ≠ k → b1 ≠ b := fun k1 b1 z1 g hne e => by subst e; exact hne (f2 k1 k _ _ _ g hF)
  have rep : ∀ b', ((M c).get b').isSome = true → b' ≠ b := by
    intro b' hb' e
    subst e
    obtain ⟨o, ho⟩ := Option.isSome_iff_exists.1 hb'
    obtain ⟨x, _, g1, _⟩ := hem.obj b' o ho
    rw [h1] at g1
    cases g1
  refine ⟨hem.floats h1 h2 (I.fv k b z hF) 0 ob, hle, I.fv, ?_, ?_, ?_, ?_⟩
  · intro k1 b1 z1 g1 g2
    have hne : k1 ≠ k := fun e => by
      have : (listed.setIfInBounds k true).getD k1 false = true := (getD_set hk).2 (.inl e)
      rw [this] at g2; cases g2
    rw [getD_set_ne false (Ne.symm hne)] at g2
    rw [same b1 (other k1 b1 z1 g1 hne)]
    exact I.pd0 k1 b1 z1 g1 g2
  · intro k1 b1 z1 g1 g2
    by_cases e : k1 = k
    · subst e
      rw [hF] at g1
      cases g1
      exact ⟨_, pset_same _ _ _⟩
    · rw [getD_set_ne false (Ne.symm e)] at g2
      obtain ⟨x, hx⟩ := I.pd1 k1 b1 z1 g1 g2
      exact ⟨x, hle _ _ hx⟩
  · intro k1 b1 z1 g1 g2 g3 x hx
    by_cases e : k1 = k
    · subst e
      rw [hF] at g1
      cases g1
      rw [pset_same] at hx
      cases hx
      refine ⟨ob, heap_alloc_new w ob, hob _, hem.touch.fresh, fun b' x' hb' hx' => ?_⟩
      rw [same b' (rep b' hb')] at hx'
      have := hem.old b' x' hx'
      show x'.1 ≠ w.heap.size
      omega
    · rw [getD_set_ne false (Ne.symm e)] at g2
      rw [same b1 (other k1 b1 z1 g1 e)] at hx
      obtain ⟨ob1, c1, c2, c3, c4⟩ := I.pd2 k1 b1 z1 g1 g2 g3 x hx
      refine ⟨ob1, (Below.heap_alloc w ob x.1 (hem.old _ x hx)).trans c1, c2.mono hle, c3, fun b' x' hb' hx' => ?_⟩
      rw [same b' (rep b' hb')] at hx'
      exact c4 b' x' hb' hx'
  · intro k1 k2 b1 z1 b2 z2 x1 x2 g1 g2 g3 g4 ge
    have key : ∀ k1 b1 z1 x1, Fl k1 = some (b1, z1) → pset ρ b (w.heap.size, 0) b1 = some x1 → (k1 = k ∧ x1.1 = w.heap.size) ∨ (ρ b1 = some x1 ∧ x1.1 < w.heap.size) := by
      intro k1 b1 z1 x1 g1 g3
      by_cases e : b1 = b
      · subst e
        rw [pset_same] at g3
        cases g3
        exact .inl ⟨f2 _ _ _ _ _ g1 hF, rfl⟩
      · rw [same b1 e] at g3
        exact .inr ⟨g3, hem.old _ _ g3⟩
    rcases key k1 b1 z1 x1 g1 g3 with ⟨a1, a2⟩ | ⟨a1, a2⟩ <;> rcases key k2 b2 z2 x2 g2 g4 with ⟨b1', b2'⟩ | ⟨b1', b2'⟩
    · rw [a1, b1']
    · omega
    · omega
    · exact I.dist _ _ _ _ _ _ _ _ g1 g2 a1 b1' ge
/-- the blocks that one list takes up. -/
theorem PInv.take {w0 : Base} {w : World} {ρ : Pl} {c : Nat} {listed : Array Bool} (I : PInv P Fl A M X w0 ρ c listed w) (hem : Emb P ρ (M c) (X c) w0 w) {L : List (Nat × SObj)} (h1 : ∀ q ∈ L, ∃ j, Fl j = some q ∧ listed.getD j false = true ∧ ∀ i, i < c → q ∉ A i) (h2 : (L.map (·.1)).Nodup) :
    Emb P ρ (adM L (M c)) (X c) w0 w ∧ ∀ b', ((adM L (M c)).get b').isSome = true → ((M c).get b').isSome = true ∨ ∃ q ∈ L, b' = q.1 := by
  refine adM_ok hem ?_ ?_
  · intro q hq
    obtain ⟨j, g1, g2, g3⟩ := h1 q hq
    obtain ⟨x, hx⟩ := I.pd1 j q.1 q.2 g1 g2
    obtain ⟨ob, c1, c2, c3, c4⟩ := I.pd2 j q.1 q.2 g1 g2 g3 x hx
    exact ⟨x, ob, hx, c1, c2, c3, c4⟩
  · have h2' : L.Pairwise fun p q => p.1 ≠ q.1 := by
      have := h2
      unfold List.Nodup at this
      rw [List.pairwise_map] at this
      exact this
    refine List.Pairwise.imp_of_mem ?_ h2'
    intro p q hp hq hne x y hx hy e
    obtain ⟨j, g1, -, -⟩ := h1 p hp
    obtain ⟨j', g1', -, -⟩ := h1 q hq
    have := I.dist j j' p.1 p.2 q.1 q.2 x y g1 g1' hx hy e
    subst this
    rw [g1] at g1'
    cases g1'
    exact hne rfl
/-- an operation that turns memory, while blocks float. -/
theorem PInv.acts {w0 : Base} {w : World} {ρ : Pl} {c : Nat} {listed : Array Bool} (I : PInv P Fl A M X w0 ρ c listed w) (hem : Emb P ρ (M c) (X c) w0 w) {k : Nat} (hk : k < listed.size) (hF : Fl k = none) (hck : c ≤ k)
    (h1 : ∀ q ∈ A k, ∃ j, Fl j = some q ∧ listed.getD j false = true ∧ ∀ i, i < c → q ∉ A i) (h2 : ((A k).map (·.1)).Nodup) :
    ∃ pr rv, Emb P ρ (adM (A k) (M c)) (X c) ⟨w, pr, rv⟩ w ∧ ∀ ρ' w', Le ρ ρ' → Emb P ρ' (M (k + 1)) (X (k + 1)) ⟨w, pr, rv⟩ w' → Emb P ρ' (M (k + 1)) (X (k + 1)) w0 w' ∧ PInv P Fl A M X w0 ρ' (k + 1) (listed.setIfInBounds k true) w' := by
  obtain ⟨t1, t2⟩ := I.take hem h1 h2
  have un : ∀ k1 q, Fl k1 = some q → (listed.setIfInBounds k true).getD k1 false = listed.getD k1 false := by
    intro k1 q h
    have hne : k ≠ k1 := fun e => by subst e; rw [hF] at h; cases h
    exact getD_set_ne false hne
  have pend : ∀ q : Nat × SObj, (∀ i, i < k + 1 → q ∉ A i) → ∀ i, i < c → q ∉ A i := fun q h i hi => h i (by omega)
  let pr : Nat → Prop := fun h => w0.pr h ∨ ∃ k1 b z x, Fl k1 = some (b, z) ∧ listed.getD k1 false = true ∧ (∀ i, i < k + 1 → (b, z) ∉ A i) ∧ ρ b = some x ∧ x.1 = h
  let rv : Nat → Prop := fun b => w0.rv b ∨ ∃ k1 z, Fl k1 = some (b, z) ∧ listed.getD k1 false = false
  refine ⟨pr, rv, t1.rebase pr rv ?_ ?_ ?_ (fun j hj => .inl hj), ?_⟩
  · rintro h (h | ⟨k1, b, z, x, -, -, -, hx, rfl⟩)
    · have := (hem.touch.block _ h).1
      have := hem.touch.size
      omega
    · exact hem.old b x hx
  · rintro b x hb hx (h | ⟨k1, b1, z1, x1, g1, g2, g3, g4, g5⟩)
    · obtain ⟨o, ho⟩ := Option.isSome_iff_exists.1 hb
      obtain ⟨x', _, e1, e2, -, -⟩ := t1.obj b o ho
      rw [hx] at e1
      cases e1
      exact e2 h
    · rcases t2 b hb with h3 | ⟨q, hq, rfl⟩
      · obtain ⟨ob, -, -, -, c4⟩ := I.pd2 k1 b1 z1 g1 g2 (pend _ g3) x1 g4
        exact c4 b x h3 hx g5.symm
      · obtain ⟨j, j1, j2, j3⟩ := h1 q hq
        have := I.dist j k1 q.1 q.2 b1 z1 x x1 j1 g1 hx g4 g5.symm
        subst this
        rw [j1] at g1
        cases g1
        exact g3 k (by omega) hq
  · rintro b (h | ⟨k1, z, g1, g2⟩)
    · exact hem.hole b h
    · exact (I.pd0 k1 b z g1 g2).symm
  · intro ρ' w' hle hem'
    have hem0 := hem'.unbase hem.touch (fun j hj => .inl hj) (fun j hj => .inl hj) hem.x.org
    have back : ∀ k1 b z x, Fl k1 = some (b, z) → ρ' b = some x → listed.getD k1 false = true ∧ ρ b = some x := by
      intro k1 b z x g1 g2
      cases hl : listed.getD k1 false with
      | false =>
        have := (hem'.hole b (.inr ⟨k1, z, g1, hl⟩)).2
        rw [this] at g2; cases g2
      | true =>
        obtain ⟨y, hy⟩ := I.pd1 k1 b z g1 hl
        have := hle _ _ hy
        rw [this] at g2
        cases g2
        exact ⟨rfl, hy⟩
    refine ⟨hem0, I.fv, ?_, ?_, ?_, ?_⟩
    · intro k1 b z g1 g2
      rw [un k1 _ g1] at g2
      exact (hem'.hole b (.inr ⟨k1, z, g1, g2⟩)).symm
    · intro k1 b z g1 g2
      rw [un k1 _ g1] at g2
      obtain ⟨x, hx⟩ := I.pd1 k1 b z g1 g2
      exact ⟨x, hle _ _ hx⟩
    · intro k1 b z g1 g2 g3 x hx
      obtain ⟨b1, b2⟩ := back k1 b z x g1 hx
      obtain ⟨ob, c1, c2, c3, c4⟩ := I.pd2 k1 b z g1 b1 (pend _ g3) x b2
      have hpr : pr x.1 := .inr ⟨k1, b, z, x, g1, b1, g3, b2, rfl⟩
      refine ⟨ob, (hem'.touch.block x.1 hpr).2.trans c1, c2.mono hle, c3, fun b' x' hb' hx' e => ?_⟩
      obtain ⟨o, ho⟩ := Option.isSome_iff_exists.1 hb'
      obtain ⟨x2, _, e1, e2, -, -⟩ := hem'.obj b' o ho
      rw [hx'] at e1
      cases e1
      exact e2 (e ▸ hpr)
    · intro k1 k2 b1 z1 b2 z2 x1 x2 g1 g2 g3 g4 ge
      exact I.dist k1 k2 b1 z1 b2 z2 x1 x2 g1 g2 (back _ _ _ _ g1 g3).2 (back _ _ _ _ g2 g4).2 ge
end
end Go.Proofs.YteblflebjhncbaaGreatDoor
