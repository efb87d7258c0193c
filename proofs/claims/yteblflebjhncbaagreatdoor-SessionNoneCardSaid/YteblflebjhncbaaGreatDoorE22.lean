/-
  A run by the kernel: a region that draws its order, by one order (2).
-/
import Derived.Test.YteblflebjhncbaaGreatDoorE21
namespace Go.Proofs.YteblflebjhncbaaGreatDoor
open Go.RowKit

variable [Orig]
section
variable {P : Program} {E : Env} {cal : Cal} {N : Nat} {all : List Oper} {pre : Nat → Nat} {act : Nat → Bool} {Fl : Nat → Option (Nat × SObj)} {A : Nat → List (Nat × SObj)} {AL : List (Nat × SObj)} {F : Nat → T SV} {M : Nat → T SObj} {X : Nat → Nat} {v : Nat → SV} {want : Nat → Bool} {G : Nat → T SV}
omit [Orig] in
theorem Canon.const (C : Canon P E cal N all pre act Fl A AL F M X v want G) (a : Nat) : ∀ b, a ≤ b → b ≤ all.length → (∀ j, a ≤ j → j < b → act j = false) → M b = M a ∧ X b = X a
  | 0, h, _, _ => by obtain rfl : a = 0 := by omega
                     exact ⟨rfl, rfl⟩
  | b + 1, h, hb, hn => by
    rcases Nat.lt_or_ge b a with h1 | h1
    · obtain rfl : a = b + 1 := by omega
      exact ⟨rfl, rfl⟩
    · obtain ⟨h2, h3⟩ := C.const a b h1 (by omega) (fun j x y => hn j x (by omega))
      obtain ⟨h4, h5⟩ := C.d6 b _ (List.getElem?_eq_getElem (by omega)) (hn b h1 (by omega))
      exact ⟨h4.trans h2, h5.trans h3⟩
def cnt (n : Nat) (listed : Array Bool) : Nat := ((List.range n).filter fun j => !listed.getD j false).length
omit [Orig] in
theorem cnt_set {n k : Nat} {listed : Array Bool} (hk : k < n) (h : listed.getD k false = false) (hs : k < listed.size) : cnt n (listed.setIfInBounds k true) < cnt n listed := by
  unfold cnt
  have e : ((List.range n).filter fun j => !(listed.setIfInBounds k true).getD j false) = ((List.range n).filter fun j => !listed.getD j false).filter fun j => decide (j ≠ k) := by
    rw [List.filter_filter]
    apply List.filter_congr
    intro j _
    by_cases e : k = j
    · subst e
      simp [hs]
    · rw [getD_set_ne false e]
      have : j ≠ k := fun h => e h.symm
      simp [this]
  rw [e, List.length_filter_lt_length_iff_exists]
  refine ⟨k, ?_, by simp⟩
  rw [List.mem_filter]
  exact ⟨List.mem_range.2 hk, by rw [h]; rfl⟩
omit [Orig] in
theorem cnt_zero {n : Nat} {listed : Array Bool} (h : cnt n listed = 0) : ∀ k, k < n → listed.getD k false = true := by
  intro k hk
  have h1 := List.eq_nil_of_length_eq_zero h
  rw [List.filter_eq_nil_iff] at h1
  have := h1 k (List.mem_range.2 hk)
  simpa using this
theorem Canon.ends (C : Canon P E cal N all pre act Fl A AL F M X v want G) {w0 : Base} {w : World} {D : List Deferred} {ρ : Pl} {c : Nat} {listed : Array Bool} {a : Act} (I : RInv P N all act Fl A F M X v w0 D ρ c listed a w) (h : ∀ k, k < all.length → listed.getD k false = true) :
    Rel P ρ N ⟨F all.length, adM AL (M all.length), X all.length⟩ D a w0 w := by
  refine ⟨⟨I.sz, fun d x hd => ?_⟩, ?_, I.d⟩
  · rcases C.fget all.length (Nat.le_refl _) d x hd with ⟨j, a1, a2, a3, rfl⟩ | ⟨a1, a2⟩
    · exact I.t1 j d (h j a1) a2 fun k' hl hlt => a3 k' hlt (by rw [← I.size]; exact getD_lt hl)
    · exact I.t2 d x (fun k' hl => a1 k' (by rw [← I.size]; exact getD_lt hl)) a2
  · obtain ⟨h1, h2⟩ := C.const c all.length I.cn (Nat.le_refl _) (fun j x y => by
      cases ha : act j with
      | false => rfl
      | true => exact absurd ((I.split_ j y ha).1 (h j y)) (by omega))
    have := (I.p.take I.emb (L := AL) (fun q hq => by
      obtain ⟨⟨j, g1⟩, g2⟩ := C.l1 q hq
      exact ⟨j, g1, h j (C.f3 j q g1), fun i _ => g2 i⟩) C.l2).1
    show Emb P ρ (adM AL (M all.length)) (X all.length) w0 w
    rw [h1, h2]
    exact this
theorem Canon.any (C : Canon P E cal N all pre act Fl A AL F M X v want G) (hE : EnvOk P E) (hcal : CalOk P cal) {r : Option Nat} {w0 : Base} {D : List Deferred} {ρ0 : Pl} {Q : Exit → Act → World → Prop} (hQ : ∀ ρ' a' w', Le ρ0 ρ' → Rel P ρ' N ⟨F all.length, adM AL (M all.length), X all.length⟩ D a' w0 w' → Q .normal a' w') :
    ∀ (fuel : Nat) (listed : Array Bool) (ρ : Pl) (c : Nat) (a : Act) (w : World), RInv P N all act Fl A F M X v w0 D ρ c listed a w → Le ρ0 ρ → cnt all.length listed ≤ fuel → wpAnyIn (FW r) 0 P .any all.toArray Q fuel listed a w := by
  have done : ∀ (listed : Array Bool) (ρ : Pl) (c : Nat) (a : Act) (w : World), RInv P N all act Fl A F M X v w0 D ρ c listed a w → Le ρ0 ρ → (∀ k, k < all.length → listed.getD k false = true) → Q .normal a w := fun listed ρ c a w I hle h => hQ ρ a w hle (C.ends I h)
  intro fuel
  induction fuel with
  | zero =>
    intro listed ρ c a w I hle hc
    have hall := cnt_zero (Nat.le_zero.1 hc)
    refine ⟨?_, done listed ρ c a w I hle hall⟩
    rw [List.eq_nil_iff_forall_not_mem]
    intro k hk
    obtain ⟨h0, o, ho, -⟩ := mem_ready.1 hk
    obtain ⟨h1, h2⟩ := getD_two h0
    rw [hall k (by rw [← I.size]; exact h1)] at h2
    cases h2
  | succ fuel ih =>
    intro listed ρ c a w I hle hc
    refine ⟨fun hr => done listed ρ c a w I hle ?_, fun k hk => ?_⟩
    · have : ∀ b k, k < b → k < all.length → listed.getD k false = true := by
        intro b
        induction b with
        | zero => intro k hk; omega
        | succ b ihb =>
          intro k hkb hkn
          cases hl : listed.getD k false with
          | true => rfl
          | false =>
            exfalso
            have hks : k < listed.size := by rw [I.size]; exact hkn
            have hm : k ∈ Region.ready .any all.toArray listed := by
              refine mem_ready.2 ⟨by simp [hks] at hl ⊢; exact hl, all[k]'hkn, by simp [hkn], fun e he hb => ?_⟩
              have hlt := C.s1 k _ (List.getElem?_eq_getElem hkn) e (by simpa using he) hb
              exact ihb e.on (by omega) (by omega)
            rw [hr] at hm
            cases hm
      exact fun k hk => this (k + 1) k (by omega) hk
    · obtain ⟨h0, o, ho', hall'⟩ := mem_ready.1 hk
      have ho : all[k]? = some o := by simpa using ho'
      have hall : ∀ e ∈ o.after.toList, Region.binds .any e = true → listed.getD e.on false = true := fun e he hb => hall' e (by simpa using he) hb
      obtain ⟨hk1, hk2⟩ := getD_two h0
      have hkn : k < all.length := by rw [← I.size]; exact hk1
      have lt : ∀ j, listed.getD j false = true → j < all.length := fun j hj => by rw [← I.size]; exact getD_lt hj
      have cl := C.closed (L := fun j => listed.getD j false = true) I.down lt
      have see := C.sees I ho h0 hall
      have hw := wantE_ok see (C.d3 k o ho)
      have hcn : cnt all.length (listed.setIfInBounds k true) ≤ fuel := by have := cnt_set hkn hk2 hk1; omega
      -- the memory at an active operation is the canonical one
      have mact : act k = true → c ≤ k ∧ M k = M c ∧ X k = X c := by
        intro ha
        have above : ∀ j, k ≤ j → j < all.length → act j = true → ¬ j < c := by
          intro j hj hjn haj hjc
          have hl := (I.split_ j hjn haj).2 hjc
          by_cases e : j = k
          · subst e; rw [hk2] at hl; cases hl
          · have hoj : all[j]? = some (all[j]'hjn) := List.getElem?_eq_getElem _
            rcases C.s3 k j o _ (by omega) ho hoj with hp | ⟨-, hp⟩
            · have := cl (j + 1) j _ (by omega) hoj (I.down j _ hl hoj) k hp
              rw [hk2] at this; cases this
            · exact absurd ⟨ha, haj⟩ hp
        have below : ∀ j, j < k → act j = true → j < c := by
          intro j hj haj
          have hoj : all[j]? = some (all[j]'(by omega)) := List.getElem?_eq_getElem _
          rcases C.s3 j k _ o hj hoj ho with hp | ⟨-, hp⟩
          · exact (I.split_ j (by omega) haj).1 (cl (k + 1) k o (by omega) ho hall j hp)
          · exact absurd ⟨haj, ha⟩ hp
        have hck : c ≤ k := by
          rcases Nat.lt_or_ge k c with h | h
          · rcases I.nrm with h0 | h0
            · omega
            · exact absurd (by omega) (above (c - 1) (by omega) (by have := I.cn; omega) h0)
          · exact h
        refine ⟨hck, C.const c k hck (by omega) (fun j x y => by
          cases haj : act j with
          | false => rfl
          | true => have := below j y haj; omega)⟩
      unfold wpOpIn
      simp only [ho']
      rw [hw]
      cases hwk : want k with
      | false =>
        rw [if_neg (by simp)]
        obtain ⟨d1, d2, d3⟩ := C.d4 k o ho hwk
        have hFk : Fl k = none := by
          cases hf : Fl k with
          | none => rfl
          | some q => have := (C.f1 k o q.1 q.2 ho hf).2.2.1; rw [hwk] at this; cases this
        cases ha : act k with
        | true =>
          obtain ⟨m0, m1, m2⟩ := mact ha
          refine ⟨fun _ _ => trivial, ih _ ρ (k + 1) _ w (C.next I ho h0 hall (Le.refl ρ) (by rw [d1]; exact den_undef ρ) (c' := k + 1) ?_ ⟨fun _ => rfl, fun h => (by rw [ha] at h; cases h)⟩ (I.p.same hk1 hFk (by omega) (d2.trans m1) (d3.trans m2))) hle hcn⟩
          rw [d2, d3, m1, m2]
          exact I.emb
        | false =>
          exact ⟨fun _ _ => trivial, ih _ ρ c _ w (C.next I ho h0 hall (Le.refl ρ) (by rw [d1]; exact den_undef ρ) I.emb ⟨fun h => (by rw [ha] at h; cases h), fun _ => rfl⟩ (I.p.same hk1 hFk (Nat.le_refl c) rfl rfl)) hle hcn⟩
      | true =>
        rw [if_pos rfl]
        cases ha : act k with
        | true =>
          obtain ⟨m0, m1, m2⟩ := mact ha
          have hv := C.d5 k o ho hwk ha
          rw [m1, m2] at hv
          have hFk : Fl k = none := by
            cases hf : Fl k with
            | none => rfl
            | some q => have := (C.f1 k o q.1 q.2 ho hf).2.1; rw [ha] at this; cases this
          obtain ⟨pr, rv, e1, e2⟩ := I.p.acts I.emb hk1 hFk m0 (fun q hq => by
            obtain ⟨-, -, j, g1, g2⟩ := C.a1 k q hq
            refine ⟨j, g1, cl (k + 1) k o (by omega) ho hall j g2, fun i hi hq2 => ?_⟩
            have := C.a2 i k q hq2 hq
            omega) (C.a3 k)
          refine valE_ok hE hcal (s := ⟨G k, adM (A k) (M c), X c⟩) (D := D) ⟨see, e1, I.d⟩ hv ?_
          intro ρ' u w' k1 k2 k3
          obtain ⟨e3, e4⟩ := e2 ρ' w' k1 k3
          exact ih _ ρ' (k + 1) _ w' (C.next I ho h0 hall k1 k2 e3 ⟨fun _ => rfl, fun h => (by rw [ha] at h; cases h)⟩ e4) (hle.trans k1) hcn
        | false =>
          cases hf : Fl k with
          | none =>
            have hv := C.d7 k o c ho hwk ha I.cn I.nrm (fun j hj haj hjc => by
              cases hb : (pre j).testBit k with
              | false => rfl
              | true =>
                have hoj : all[j]? = some (all[j]'hj) := List.getElem?_eq_getElem _
                have hl := (I.split_ j hj haj).2 hjc
                have := cl (j + 1) j _ (by omega) hoj (I.down j _ hl hoj) k hb
                rw [hk2] at this; cases this) (fun j hj haj hjc => by
              cases hb : (pre k).testBit j with
              | false => rfl
              | true =>
                have := (I.split_ j hj haj).1 (cl (k + 1) k o (by omega) ho hall j hb)
                omega) hf
            obtain ⟨u, h1, h2⟩ := evP_ok hE I.emb see hv
            refine ⟨fun _ _ => trivial, ?_⟩
            rw [Oper.semAt_eq _ _ _ (nd_P hv), h1]
            exact ih _ ρ c _ w (C.next I ho h0 hall (Le.refl ρ) h2 I.emb ⟨fun h => (by rw [ha] at h; cases h), fun _ => rfl⟩ (I.p.same hk1 hf (Nat.le_refl c) rfl rfl)) hle hcn
          | some q =>
            obtain ⟨b, z⟩ := q
            obtain ⟨v1, -, -, nd, al⟩ := C.f1 k o b z ho hf
            obtain ⟨ob, r1, r2⟩ := al a w
            obtain ⟨e1, e2, e3⟩ := I.p.float I.emb C.f2 hk1 hk2 hf r2
            refine ⟨fun _ _ => trivial, ?_⟩
            rw [Oper.semAt_eq _ _ _ nd, r1]
            exact ih _ _ c _ _ (C.next I ho h0 hall e2 (by rw [v1]; exact den_ptr_mk (pset_same _ _ _) 0) e1 ⟨fun h => (by rw [ha] at h; cases h), fun _ => rfl⟩ e3) (hle.trans e2) hcn
omit [Orig] in
theorem rep_false (m j : Nat) : (Array.replicate m false).getD j false = false := by
  rcases Nat.lt_or_ge j m with h | h
  · simp [h]
  · simp [h]
theorem Canon.wp (C : Canon P E cal N all pre act Fl A AL F M X v want G) (hE : EnvOk P E) (hcal : CalOk P cal) {r : Option Nat} {w0 : Base} {w : World} {D : List Deferred} {ρ : Pl} {a : Act} {id : Nat} (h : Rel P ρ N ⟨F 0, M 0, X 0⟩ D a w0 w) (hfl : ∀ k b z, Fl k = some (b, z) → ρ b = none ∧ b < X 0 ∧ ¬ w0.rv b) {Q : Exit → Act → World → Prop} (hQ : ∀ ρ' a' w', Le ρ ρ' → Rel P ρ' N ⟨F all.length, adM AL (M all.length), X all.length⟩ D a' w0 w' → Q .normal a' w') :
    (Code.region id all.toArray true).wpIn (FW r) 0 P Q a w := by
  refine wpIn_region_any hE.mixed ?_
  refine C.any hE hcal hQ _ _ ρ 0 a _ ⟨by simp, fun k o hk => ?_, Nat.zero_le _, .inl rfl, fun j hj _ => ?_, h.m.drew', fun k d hk => ?_, fun d x _ hx => h.F.at_ d x hx, h.F.size, h.d,
    ⟨fun k b z hk => (hfl k b z hk).2.2, fun k b z hk _ => ⟨(hfl k b z hk).1, (hfl k b z hk).2.1⟩, fun k b z _ hl => (by rw [rep_false] at hl; cases hl), fun k b z _ hl => (by rw [rep_false] at hl; cases hl), fun k k' b z b' z' x x' hk _ hx => (by rw [(hfl k b z hk).1] at hx; cases hx)⟩⟩ (Le.refl ρ) ?_
  · rw [rep_false] at hk; cases hk
  · rw [rep_false]; simp
  · rw [rep_false] at hk; cases hk
  · unfold cnt
    refine Nat.le_trans (List.length_filter_le _ _) ?_
    simp
end
end Go.Proofs.YteblflebjhncbaaGreatDoor
