/-
  A run by the kernel: values and memory by numbers of our own, and what they stand for in a world.
-/
import Derived.Test.YteblflebjhncbaaGreatDoorKit
namespace Go.Proofs.YteblflebjhncbaaGreatDoor
open Go.RowKit

theorem nbeq {a b : Nat} (h : a ≠ b) : Nat.beq a b = false := by
  cases e : Nat.beq a b with
  | false => rfl
  | true => exact absurd (Nat.eq_of_beq_eq_true e) h
/-- A table by numbers. -/
inductive T (α : Type) where
  | leaf : T α
  | node (v : Option α) (l r : T α) : T α
namespace T
variable {α : Type}
noncomputable def get (t : T α) : Nat → Option α :=
  T.rec (motive := fun _ => Nat → Option α) (fun _ => none) (fun v _ _ gl gr k =>
    Bool.rec (motive := fun _ => Option α) (Bool.rec (motive := fun _ => Option α) (gr (Nat.div k 2)) (gl (Nat.div k 2)) (Nat.beq (Nat.mod k 2) 0)) v (Nat.beq k 0)) t
noncomputable def sing (x : Option α) (d : Nat) : Nat → T α :=
  Nat.rec (motive := fun _ => Nat → T α) (fun _ => .node x .leaf .leaf) (fun _ ih k =>
    Bool.rec (motive := fun _ => T α) (Bool.rec (motive := fun _ => T α) (.node none .leaf (ih (Nat.div k 2))) (.node none (ih (Nat.div k 2)) .leaf) (Nat.beq (Nat.mod k 2) 0)) (.node x .leaf .leaf) (Nat.beq k 0)) d
noncomputable def put (t : T α) (x : Option α) : Nat → T α :=
  T.rec (motive := fun _ => Nat → T α) (fun k => T.sing x k k) (fun v l r gl gr k =>
    Bool.rec (motive := fun _ => T α) (Bool.rec (motive := fun _ => T α) (.node v l (gr (Nat.div k 2))) (.node v (gl (Nat.div k 2)) r) (Nat.beq (Nat.mod k 2) 0)) (.node x l r) (Nat.beq k 0)) t
theorem get_leaf (k : Nat) : (leaf : T α).get k = none := rfl
theorem get_node (v : Option α) (l r : T α) (k : Nat) : (node v l r).get k = if k = 0 then v else if k % 2 = 0 then l.get (k / 2) else r.get (k / 2) := by
  show Bool.rec (motive := fun _ => Option α) (Bool.rec (motive := fun _ => Option α) (r.get (k / 2)) (l.get (k / 2)) (Nat.beq (k % 2) 0)) v (Nat.beq k 0) = _
  by_cases h0 : k = 0
  · subst h0; rfl
  · have e0 : Nat.beq k 0 = false := nbeq h0
    rw [e0, if_neg h0]
    by_cases h1 : k % 2 = 0
    · rw [h1, if_pos rfl]; rfl
    · have e1 : Nat.beq (k % 2) 0 = false := nbeq h1
      rw [e1, if_neg h1]
theorem put_node (v x : Option α) (l r : T α) (k : Nat) : (node v l r).put x k = if k = 0 then .node x l r else if k % 2 = 0 then .node v (l.put x (k / 2)) r else .node v l (r.put x (k / 2)) := by
  show Bool.rec (motive := fun _ => T α) (Bool.rec (motive := fun _ => T α) (.node v l (r.put x (k / 2))) (.node v (l.put x (k / 2)) r) (Nat.beq (k % 2) 0)) (.node x l r) (Nat.beq k 0) = _
  by_cases h0 : k = 0
  · subst h0; rfl
  · have e0 : Nat.beq k 0 = false := nbeq h0
    rw [e0, if_neg h0]
    by_cases h1 : k % 2 = 0
    · rw [h1, if_pos rfl]; rfl
    · have e1 : Nat.beq (k % 2) 0 = false := nbeq h1
      rw [e1, if_neg h1]
theorem sing_succ (x : Option α) (d k : Nat) : sing x (d + 1) k = if k = 0 then .node x .leaf .leaf else if k % 2 = 0 then .node none (sing x d (k / 2)) .leaf else .node none .leaf (sing x d (k / 2)) := by
  show Bool.rec (motive := fun _ => T α) (Bool.rec (motive := fun _ => T α) (.node none .leaf (sing x d (k / 2))) (.node none (sing x d (k / 2)) .leaf) (Nat.beq (k % 2) 0)) (.node x .leaf .leaf) (Nat.beq k 0) = _
  by_cases h0 : k = 0
  · subst h0; rfl
  · have e0 : Nat.beq k 0 = false := nbeq h0
    rw [e0, if_neg h0]
    by_cases h1 : k % 2 = 0
    · rw [h1, if_pos rfl]; rfl
    · have e1 : Nat.beq (k % 2) 0 = false := nbeq h1
      rw [e1, if_neg h1]
theorem get_sing (x : Option α) : ∀ (d k j : Nat), k ≤ d → (sing x d k).get j = if j = k then x else none
  | 0, k, j, h => by
    obtain rfl : k = 0 := by omega
    show (node x leaf leaf).get j = _
    rw [get_node]
    simp only [get_leaf]
    split
    · rfl
    · split <;> rfl
  | d + 1, k, j, h => by
    rw [sing_succ]
    by_cases h0 : k = 0
    · subst h0
      rw [if_pos rfl, get_node]
      simp only [get_leaf]
      split
      · rfl
      · split <;> rfl
    · rw [if_neg h0]
      by_cases h1 : k % 2 = 0
      · rw [if_pos h1, get_node, get_leaf, get_sing x d (k / 2) (j / 2) (by omega)]
        by_cases hj : j = 0
        · rw [if_pos hj, if_neg (by omega)]
        · rw [if_neg hj]
          by_cases hj1 : j % 2 = 0
          · rw [if_pos hj1]
            by_cases e : j = k
            · subst e; simp
            · rw [if_neg e, if_neg (by omega)]
          · rw [if_neg hj1, if_neg (by omega)]
      · rw [if_neg h1, get_node, get_leaf, get_sing x d (k / 2) (j / 2) (by omega)]
        by_cases hj : j = 0
        · rw [if_pos hj, if_neg (by omega)]
        · rw [if_neg hj]
          by_cases hj1 : j % 2 = 0
          · rw [if_pos hj1, if_neg (by omega)]
          · rw [if_neg hj1]
            by_cases e : j = k
            · subst e; simp
            · rw [if_neg e, if_neg (by omega)]
theorem get_put (t : T α) (x : Option α) : ∀ (k j : Nat), (t.put x k).get j = if j = k then x else t.get j := by
  induction t with
  | leaf => intro k j; exact get_sing x k k j (Nat.le_refl _)
  | node v l r il ir =>
    intro k j
    rw [put_node, get_node v l r]
    by_cases h0 : k = 0
    · subst h0
      rw [if_pos rfl, get_node]
      split <;> rfl
    · rw [if_neg h0]
      by_cases h1 : k % 2 = 0
      · rw [if_pos h1, get_node, il]
        by_cases hj : j = 0
        · rw [if_pos hj, if_neg (by omega), if_pos hj]
        · rw [if_neg hj, if_neg hj]
          by_cases hj1 : j % 2 = 0
          · rw [if_pos hj1, if_pos hj1]
            by_cases e : j = k
            · subst e; simp
            · rw [if_neg e, if_neg (by omega)]
          · rw [if_neg hj1, if_neg hj1, if_neg (by omega)]
      · rw [if_neg h1, get_node, ir]
        by_cases hj : j = 0
        · rw [if_pos hj, if_neg (by omega), if_pos hj]
        · rw [if_neg hj, if_neg hj]
          by_cases hj1 : j % 2 = 0
          · rw [if_pos hj1, if_pos hj1, if_neg (by omega)]
          · rw [if_neg hj1, if_neg hj1]
            by_cases e : j = k
            · subst e; simp
            · rw [if_neg e, if_neg (by omega)]
theorem get_put_same (t : T α) (x : Option α) (k : Nat) : (t.put x k).get k = x := by rw [get_put, if_pos rfl]
theorem get_put_ne (t : T α) (x : Option α) {k j : Nat} (h : j ≠ k) : (t.put x k).get j = t.get j := by rw [get_put, if_neg h]
/-- a list as a table. -/
noncomputable def ofL (l : List α) : Nat → T α → T α := List.rec (motive := fun _ => Nat → T α → T α) (fun _ t => t) (fun x _ ih i t => ih (Nat.succ i) (t.put (some x) i)) l
theorem ofL_cons (x : α) (l : List α) (i : Nat) (t : T α) : ofL (x :: l) i t = ofL l (i + 1) (t.put (some x) i) := rfl
theorem get_ofL : ∀ (l : List α) (i : Nat) (t : T α) (k : Nat), (ofL l i t).get k = if i ≤ k ∧ k < i + l.length then l[k - i]? else t.get k
  | [], i, t, k => by rw [if_neg (by simp)]; rfl
  | x :: l, i, t, k => by
    rw [ofL_cons, get_ofL l (i + 1), List.length_cons]
    by_cases h : i = k
    · subst h
      rw [if_neg (by omega), get_put_same, if_pos (by omega), Nat.sub_self]; rfl
    · by_cases h2 : i + 1 ≤ k ∧ k < i + 1 + l.length
      · rw [if_pos h2, if_pos (by omega), show k - i = (k - (i + 1)) + 1 by omega, List.getElem?_cons_succ]
      · rw [if_neg h2, get_put_ne _ _ (by omega), if_neg (by omega)]
theorem get_ofL0 (l : List α) (k : Nat) : (ofL l 0 leaf).get k = l[k]? := by
  rw [get_ofL]
  by_cases h : k < l.length
  · rw [if_pos (by omega), Nat.sub_zero]
  · rw [if_neg (by omega), get_leaf, List.getElem?_eq_none (by omega)]
end T

/-- what comes behind. -/
noncomputable def ob {α β : Type} (o : Option α) (f : α → Option β) : Option β := Option.rec (motive := fun _ => Option β) none f o
theorem ob_none {α β : Type} (f : α → Option β) : ob none f = none := rfl
theorem ob_some {α β : Type} (a : α) (f : α → Option β) : ob (some a) f = f a := rfl
theorem ob_eq {α β : Type} {o : Option α} {f : α → Option β} {b : β} : ob o f = some b ↔ ∃ a, o = some a ∧ f a = some b := by
  cases o with
  | none => simp [ob_none]
  | some a => simp [ob_some]
/-- if. -/
noncomputable def oi {β : Type} (c : Bool) (x : Option β) : Option β := Bool.rec (motive := fun _ => Option β) none x c
theorem oi_eq {β : Type} {c : Bool} {x : Option β} {b : β} : oi c x = some b ↔ c = true ∧ x = some b := by cases c <;> simp [oi]

/-- of what kind a value is that is not known. -/
inductive SK where
  | any
  | int (k : IntKind)
  | str
  | bool
inductive SV where
  | bool (b : Bool)
  | int (k : IntKind) (n : Int)
  | flt (k : FloatKind) (b : Nat)
  | str (s : List Nat)
  | ptr (b o : Nat)
  | nptr
  | slc (b o n c : Nat)
  | slu (b o n k : Nat)
  | nslc
  | map (r : Nat)
  | nmap
  | fn (f : Fn) (a c : List SV)
  | yld (l : Nat)
  | nfn
  | ifc (t : TypeId) (v : SV)
  | nifc
  | agg (l : List SV)
  | tup (l : List SV)
  | sym (k : SK) (i : Nat)
  | ar (o : BinOp) (k : IntKind) (x y : SV)
  | lenS (i : Nat)
  | sh (o : BinOp) (k : IntKind) (x : SV) (n : Nat)
  | cv (k : IntKind) (x : SV)
  | tab (l : List Nat) (x : SV)
  | pix (b o n : Nat) (x : SV)

/-- a value of one cell. -/
def SV.one : SV → Bool
  | .agg _ | .tup _ => false
  | _ => true
def isYield : Fn → Bool
  | .yield _ => true
  | _ => false
/-- where the blocks lie: their numbers, and how many elements those that may grow have room for. -/
structure Pl where
  f : Nat → Option (Nat × Nat)
  val : Nat → Option Value
instance : CoeFun Pl fun _ => Nat → Option (Nat × Nat) := ⟨Pl.f⟩
def SK.is : SK → Value → Bool
  | .any, v => v.oneCell'
  | .int k, .int k' n => decide (k' = k ∧ k.wrap n = n)
  | .str, .string s => decide (s.size ≤ 140737488351232)
  | .bool, .bool _ => true
  | _, _ => false
def arV (o : BinOp) (k : IntKind) (x y : Int) : Option Value := match o with
  | .add => some (.int k (k.wrap (x + y)))
  | .sub => some (.int k (k.wrap (x - y)))
  | .mul => some (.int k (k.wrap (x * y)))
  | .and => some (.int k (k.wrap (((BitVec.ofInt k.bits x) &&& (BitVec.ofInt k.bits y)).toNat : Int)))
  | .or => some (.int k (k.wrap (((BitVec.ofInt k.bits x) ||| (BitVec.ofInt k.bits y)).toNat : Int)))
  | .xor => some (.int k (k.wrap (((BitVec.ofInt k.bits x) ^^^ (BitVec.ofInt k.bits y)).toNat : Int)))
  | .eql => some (.bool (decide (x = y)))
  | .neq => some (.bool (!decide (x = y)))
  | .lss => some (.bool (decide (x < y)))
  | .leq => some (.bool (decide (x ≤ y)))
  | .gtr => some (.bool (decide (y < x)))
  | .geq => some (.bool (decide (y ≤ x)))
  | _ => none
def cmpO : BinOp → Bool
  | .eql | .neq | .lss | .leq | .gtr | .geq => true
  | _ => false
def ar2 (o : BinOp) (k : IntKind) : Option Value → Option Value → Option Value
  | some (.int k1 x), some (.int k2 y) => if k1 = k ∧ k2 = k then arV o k x y else none
  | _, _ => none
def shV (o : BinOp) (k : IntKind) (a : Int) (n : Nat) : Option Value := match o with
  | .shl => some (.int k (k.wrap (Int.mul a (.ofNat (Nat.pow 2 (min n k.bits))))))
  | .shr => some (.int k (Int.fdiv a (.ofNat (Nat.pow 2 (min n k.bits)))))
  | _ => none
def shD (o : BinOp) (k : IntKind) (n : Nat) : Option Value → Option Value
  | some (.int k1 a) => if k1 = k then shV o k a n else none
  | _ => none
def cvD (k : IntKind) : Option Value → Option Value
  | some (.int _ a) => some (.int k (k.wrap a))
  | _ => none
def tabD (l : List Nat) : Option Value → Option Value
  | some (.int _ a) => if 0 ≤ a ∧ a.toNat < l.length then some (.int .u8 ((l.getD a.toNat 0 % 256 : Nat) : Int)) else none
  | _ => none
def pixD (p : Option (Nat × Nat)) (o n : Nat) : Option Value → Option Value
  | some (.int _ a) => if 0 ≤ a ∧ a.toNat < n then p.map fun q => .pointer (some ⟨q.1, o + a.toNat, none⟩) else none
  | _ => none
def symD (k : SK) : Option Value → Option Value
  | some v => if k.is v then some v else none
  | none => none
def lenV : Option Value → Option Value
  | some (.string s) => if s.size ≤ 140737488351232 then some (.int .i64 s.size) else none
  | _ => none
def bytesOf (l : List Nat) : ByteArray := ⟨(l.map UInt8.ofNat).toArray⟩
mutual
def den (ρ : Pl) : SV → Option Value
  | .bool b => some (.bool b)
  | .int k n => some (.int k n)
  | .flt k b => some (.float k b)
  | .str s => if s.all (fun x => decide (x < 256)) then some (.string (bytesOf s)) else none
  | .ptr b o => (ρ b).map fun p => .pointer (some ⟨p.1, o, none⟩)
  | .nptr => some (.pointer none)
  | .slc b o n c => (ρ b).map fun p => .slice (some ⟨p.1, o, none⟩) n c
  | .slu b o n k => (ρ b).bind fun p => if n + k ≤ p.2 then some (.slice (some ⟨p.1, o, none⟩) n (p.2 - k)) else none
  | .nslc => some (.slice none 0 0)
  | .map r => (ρ r).map fun p => .map (some p.1)
  | .nmap => some (.map none)
  | .fn f a c => if isYield f then none else match denL ρ a, denL ρ c with
    | some x, some y => some (.func f x.toArray y.toArray)
    | _, _ => none
  | .yld l => (ρ l).map fun p => .func (.yield p.1) #[] #[]
  | .nfn => some .nilFunc
  | .ifc t v => (den ρ v).map fun u => .iface t u
  | .nifc => some .nilIface
  | .agg l => if l.all SV.one then (denL ρ l).map fun us => .agg us.toArray else none
  | .tup l => (denL ρ l).map fun us => .tuple us.toArray
  | .sym k i => symD k (ρ.val i)
  | .ar o k x y => ar2 o k (den ρ x) (den ρ y)
  | .lenS i => lenV (ρ.val i)
  | .sh o k x n => shD o k n (den ρ x)
  | .cv k x => cvD k (den ρ x)
  | .tab l x => tabD l (den ρ x)
  | .pix b o n x => pixD (ρ b) o n (den ρ x)
def denL (ρ : Pl) : List SV → Option (List Value)
  | [] => some []
  | v :: l => match den ρ v, denL ρ l with
    | some u, some us => some (u :: us)
    | _, _ => none
end
structure Le (ρ ρ' : Pl) : Prop where
  val : ∀ i v, ρ.val i = some v → ρ'.val i = some v
  le : ∀ b p, ρ b = some p → ρ' b = some p
instance {ρ ρ' : Pl} : CoeFun (Le ρ ρ') fun _ => ∀ b p, ρ b = some p → ρ' b = some p := ⟨Le.le⟩
theorem Le.refl (ρ : Pl) : Le ρ ρ := ⟨fun _ _ h => h, fun _ _ h => h⟩
theorem Le.trans {a b c : Pl} (h : Le a b) (k : Le b c) : Le a c := ⟨fun i v e => k.val i v (h.val i v e), fun x p hp => k x p (h x p hp)⟩
theorem ar2_some {o : BinOp} {k : IntKind} {a b : Option Value} {u : Value} (e : ar2 o k a b = some u) : ∃ x y, a = some (.int k x) ∧ b = some (.int k y) ∧ arV o k x y = some u := by
  unfold ar2 at e
  split at e
  · split at e
    · rename_i h
      obtain ⟨rfl, rfl⟩ := h
      exact ⟨_, _, rfl, rfl, e⟩
    · cases e
  · cases e
theorem ar2_mk {o : BinOp} {k : IntKind} {x y : Int} : ar2 o k (some (.int k x)) (some (.int k y)) = arV o k x y := by
  unfold ar2
  exact if_pos ⟨rfl, rfl⟩
theorem arV_one {o : BinOp} {k : IntKind} {x y : Int} {u : Value} (e : arV o k x y = some u) : u.oneCell' = true := by
  unfold arV at e
  split at e <;> cases e <;> rfl
theorem arV_bool {o : BinOp} {k : IntKind} {x y : Int} {u : Value} (e : arV o k x y = some u) (h : cmpO o = true) : ∃ b, u = .bool b := by
  unfold arV at e
  split at e <;> cases e <;> first | exact ⟨_, rfl⟩ | cases h
theorem shD_some {o : BinOp} {k : IntKind} {n : Nat} {a : Option Value} {u : Value} (e : shD o k n a = some u) : ∃ x, a = some (.int k x) ∧ shV o k x n = some u := by
  unfold shD at e
  split at e
  · split at e
    · rename_i h
      subst h
      exact ⟨_, rfl, e⟩
    · cases e
  · cases e
theorem shD_mk {o : BinOp} {k : IntKind} {n : Nat} {x : Int} : shD o k n (some (.int k x)) = shV o k x n := by
  unfold shD
  exact if_pos rfl
theorem shV_int {o : BinOp} {k : IntKind} {n : Nat} {x : Int} {u : Value} (e : shV o k x n = some u) : ∃ z, u = .int k z := by
  unfold shV at e
  split at e <;> cases e <;> exact ⟨_, rfl⟩
theorem cvD_some {k : IntKind} {a : Option Value} {u : Value} (e : cvD k a = some u) : ∃ k1 x, a = some (.int k1 x) ∧ u = .int k (k.wrap x) := by
  unfold cvD at e
  split at e <;> cases e
  exact ⟨_, _, rfl, rfl⟩
theorem tabD_some {l : List Nat} {a : Option Value} {u : Value} (e : tabD l a = some u) : ∃ k1 x, a = some (.int k1 x) ∧ 0 ≤ x ∧ x.toNat < l.length ∧ u = .int .u8 ((l.getD x.toNat 0 % 256 : Nat) : Int) := by
  unfold tabD at e
  split at e
  · split at e
    · rename_i h
      cases e
      exact ⟨_, _, rfl, h.1, h.2, rfl⟩
    · cases e
  · cases e
theorem tabD_mk {l : List Nat} {k1 : IntKind} {x : Int} (h0 : 0 ≤ x) (h1 : x.toNat < l.length) : tabD l (some (.int k1 x)) = some (.int .u8 ((l.getD x.toNat 0 % 256 : Nat) : Int)) := by
  unfold tabD
  exact if_pos ⟨h0, h1⟩
theorem pixD_some {p : Option (Nat × Nat)} {o n : Nat} {a : Option Value} {u : Value} (e : pixD p o n a = some u) : ∃ k1 x q, a = some (.int k1 x) ∧ 0 ≤ x ∧ x.toNat < n ∧ p = some q ∧ u = .pointer (some ⟨q.1, o + x.toNat, none⟩) := by
  unfold pixD at e
  split at e
  · split at e
    · rename_i h
      obtain ⟨q, rfl, rfl⟩ := Option.map_eq_some_iff.1 e
      exact ⟨_, _, q, rfl, h.1, h.2, rfl, rfl⟩
    · cases e
  · cases e
theorem pixD_mk {o n : Nat} {k1 : IntKind} {x : Int} {q : Nat × Nat} (h0 : 0 ≤ x) (h1 : x.toNat < n) : pixD (some q) o n (some (.int k1 x)) = some (.pointer (some ⟨q.1, o + x.toNat, none⟩)) := by
  show (if 0 ≤ x ∧ x.toNat < n then _ else _) = _
  rw [if_pos ⟨h0, h1⟩]; rfl
theorem symD_some {k : SK} {o : Option Value} {u : Value} (e : symD k o = some u) : o = some u ∧ k.is u = true := by
  unfold symD at e
  split at e
  · split at e
    · rename_i h
      cases e
      exact ⟨rfl, h⟩
    · cases e
  · cases e
theorem symD_mk {k : SK} {u : Value} (h : k.is u = true) : symD k (some u) = some u := if_pos h
theorem lenV_int {v : Option Value} {u : Value} (e : lenV v = some u) : ∃ s : ByteArray, v = some (.string s) ∧ s.size ≤ 140737488351232 ∧ u = .int .i64 s.size := by
  unfold lenV at e
  split at e
  · split at e
    · cases e
      exact ⟨_, rfl, by assumption, rfl⟩
    · cases e
  · cases e
theorem Le.map {ρ ρ' : Pl} (h : Le ρ ρ') {β : Type} {b : Nat} {f : Nat × Nat → β} {u : β} (e : (ρ b).map f = some u) : (ρ' b).map f = some u := by
  obtain ⟨p, hp, rfl⟩ := Option.map_eq_some_iff.1 e
  rw [h b p hp]; rfl
mutual
theorem den_mono {ρ ρ' : Pl} (h : Le ρ ρ') : ∀ (v : SV) {u : Value}, den ρ v = some u → den ρ' v = some u
  | .bool b, u, e => by simpa [den] using e
  | .int k n, u, e => by simpa [den] using e
  | .flt k b, u, e => by simpa [den] using e
  | .str s, u, e => by simpa [den] using e
  | .ptr b o, u, e => by unfold den at e ⊢; exact h.map e
  | .nptr, u, e => by simpa [den] using e
  | .slc b o n c, u, e => by unfold den at e ⊢; exact h.map e
  | .slu b o n k, u, e => by
    unfold den at e ⊢
    obtain ⟨p, hp, hq⟩ := Option.bind_eq_some_iff.1 e
    rw [h b p hp]; exact hq
  | .nslc, u, e => by simpa [den] using e
  | .map r, u, e => by unfold den at e ⊢; exact h.map e
  | .nmap, u, e => by simpa [den] using e
  | .fn f a c, u, e => by
    unfold den at e ⊢
    split at e
    · cases e
    · rename_i hy
      rw [if_neg hy]
      split at e
      · rename_i x y hx hy2
        rw [denL_mono h a hx, denL_mono h c hy2]
        exact e
      · cases e
  | .yld l, u, e => by unfold den at e ⊢; exact h.map e
  | .nfn, u, e => by simpa [den] using e
  | .ifc t v, u, e => by
    unfold den at e ⊢
    obtain ⟨x, hx, rfl⟩ := Option.map_eq_some_iff.1 e
    rw [den_mono h v hx]; rfl
  | .nifc, u, e => by simpa [den] using e
  | .agg l, u, e => by
    unfold den at e ⊢
    split at e
    · rename_i hl
      rw [if_pos hl]
      obtain ⟨x, hx, rfl⟩ := Option.map_eq_some_iff.1 e
      rw [denL_mono h l hx]; rfl
    · cases e
  | .tup l, u, e => by
    unfold den at e ⊢
    obtain ⟨x, hx, rfl⟩ := Option.map_eq_some_iff.1 e
    rw [denL_mono h l hx]; rfl
  | .sym k i, u, e => by
    unfold den at e ⊢
    obtain ⟨h1, h2⟩ := symD_some e
    rw [h.val i u h1, symD_mk h2]
  | .ar o k a b, u, e => by
    unfold den at e ⊢
    obtain ⟨x, y, hx, hy, hu⟩ := ar2_some e
    rw [den_mono h a hx, den_mono h b hy, ar2_mk]; exact hu
  | .lenS i, u, e => by
    unfold den at e ⊢
    obtain ⟨s, h1, h2, rfl⟩ := lenV_int e
    rw [h.val i _ h1]
    exact if_pos h2
  | .sh o k x n, u, e => by
    unfold den at e ⊢
    obtain ⟨y, hx, hu⟩ := shD_some e
    rw [den_mono h x hx, shD_mk]; exact hu
  | .cv k x, u, e => by
    unfold den at e ⊢
    obtain ⟨k1, y, hx, rfl⟩ := cvD_some e
    rw [den_mono h x hx]; rfl
  | .tab l x, u, e => by
    unfold den at e ⊢
    obtain ⟨k1, y, hx, h0, h1, rfl⟩ := tabD_some e
    rw [den_mono h x hx, tabD_mk h0 h1]
  | .pix b o n x, u, e => by
    unfold den at e ⊢
    obtain ⟨k1, y, q, hx, h0, h1, hq, rfl⟩ := pixD_some e
    rw [den_mono h x hx, h b q hq, pixD_mk h0 h1]
theorem denL_mono {ρ ρ' : Pl} (h : Le ρ ρ') : ∀ (l : List SV) {us : List Value}, denL ρ l = some us → denL ρ' l = some us
  | [], us, e => by simpa [denL] using e
  | v :: l, us, e => by
    unfold denL at e ⊢
    split at e
    · rename_i u us' h1 h2
      rw [den_mono h v h1, denL_mono h l h2]
      exact e
    · cases e
end
theorem denL_nil (ρ : Pl) : denL ρ [] = some [] := by simp [denL]
theorem denL_cons {ρ : Pl} {v : SV} {l : List SV} {us : List Value} : denL ρ (v :: l) = some us ↔ ∃ u us', den ρ v = some u ∧ denL ρ l = some us' ∧ us = u :: us' := by
  constructor
  · intro e
    unfold denL at e
    split at e
    · rename_i u us' h1 h2
      cases e
      exact ⟨u, us', h1, h2, rfl⟩
    · cases e
  · rintro ⟨u, us', h1, h2, rfl⟩
    unfold denL
    rw [h1, h2]
theorem denL_len {ρ : Pl} : ∀ {l : List SV} {us : List Value}, denL ρ l = some us → us.length = l.length
  | [], us, e => by rw [denL_nil] at e; cases e; rfl
  | v :: l, us, e => by
    obtain ⟨u, us', -, h2, rfl⟩ := denL_cons.1 e
    simp [denL_len h2]
theorem denL_get {ρ : Pl} : ∀ {l : List SV} {us : List Value} (i : Nat) {v : SV}, denL ρ l = some us → l[i]? = some v → ∃ u, den ρ v = some u ∧ us[i]? = some u
  | [], us, i, v, e, h => by simp at h
  | x :: l, us, i, v, e, h => by
    obtain ⟨u, us', h1, h2, rfl⟩ := denL_cons.1 e
    cases i with
    | zero => simp at h; subst h; exact ⟨u, h1, rfl⟩
    | succ i => rw [List.getElem?_cons_succ] at h ⊢; exact denL_get i h2 h
theorem denL_append {ρ : Pl} : ∀ {l m : List SV} {us vs : List Value}, denL ρ l = some us → denL ρ m = some vs → denL ρ (l ++ m) = some (us ++ vs)
  | [], m, us, vs, h, k => by rw [denL_nil] at h; cases h; exact k
  | x :: l, m, us, vs, h, k => by
    obtain ⟨u, us', h1, h2, rfl⟩ := denL_cons.1 h
    exact denL_cons.2 ⟨u, _, h1, denL_append h2 k, rfl⟩
theorem denL_take {ρ : Pl} : ∀ {l : List SV} {us : List Value} (n : Nat), denL ρ l = some us → denL ρ (l.take n) = some (us.take n)
  | [], us, n, h => by rw [denL_nil] at h; cases h; simp [denL_nil]
  | x :: l, us, 0, h => by simp [denL_nil]
  | x :: l, us, n + 1, h => by
    obtain ⟨u, us', h1, h2, rfl⟩ := denL_cons.1 h
    exact denL_cons.2 ⟨u, _, h1, denL_take n h2, rfl⟩
theorem denL_drop {ρ : Pl} : ∀ {l : List SV} {us : List Value} (n : Nat), denL ρ l = some us → denL ρ (l.drop n) = some (us.drop n)
  | [], us, n, h => by rw [denL_nil] at h; cases h; simp [denL_nil]
  | x :: l, us, 0, h => by simpa using h
  | x :: l, us, n + 1, h => by
    obtain ⟨u, us', h1, h2, rfl⟩ := denL_cons.1 h
    simpa using denL_drop n h2
theorem denL_set {ρ : Pl} : ∀ {l : List SV} {us : List Value} (i : Nat) {v : SV} {u : Value}, denL ρ l = some us → den ρ v = some u → denL ρ (l.set i v) = some (us.set i u)
  | [], us, i, v, u, h, k => by rw [denL_nil] at h; cases h; simp [denL_nil]
  | x :: l, us, 0, v, u, h, k => by
    obtain ⟨u', us', h1, h2, rfl⟩ := denL_cons.1 h
    exact denL_cons.2 ⟨u, _, k, h2, rfl⟩
  | x :: l, us, i + 1, v, u, h, k => by
    obtain ⟨u', us', h1, h2, rfl⟩ := denL_cons.1 h
    exact denL_cons.2 ⟨u', _, h1, denL_set i h2 k, rfl⟩
theorem den_one {ρ : Pl} {v : SV} {u : Value} (h : den ρ v = some u) (ho : v.one = true) : u.oneCell' = true := by
  cases v <;> simp [SV.one] at ho <;> unfold den at h
  case str s => split at h <;> cases h; rfl
  case fn f a c => split at h <;> try cases h
                   split at h <;> cases h; rfl
  case ptr => obtain ⟨p, -, rfl⟩ := Option.map_eq_some_iff.1 h; rfl
  case slc => obtain ⟨p, -, rfl⟩ := Option.map_eq_some_iff.1 h; rfl
  case slu => obtain ⟨p, -, h2⟩ := Option.bind_eq_some_iff.1 h; split at h2 <;> cases h2; rfl
  case map => obtain ⟨p, -, rfl⟩ := Option.map_eq_some_iff.1 h; rfl
  case yld => obtain ⟨p, -, rfl⟩ := Option.map_eq_some_iff.1 h; rfl
  case ifc => obtain ⟨p, -, rfl⟩ := Option.map_eq_some_iff.1 h; rfl
  case sym k i =>
    obtain ⟨-, hk⟩ := symD_some h
    cases k <;> cases u <;> simp_all [SK.is, Value.oneCell']
  case ar o k a b =>
    obtain ⟨x, y, -, -, h3⟩ := ar2_some h
    exact arV_one h3
  case lenS i =>
    obtain ⟨s, -, -, rfl⟩ := lenV_int h
    rfl
  case sh o k x n => obtain ⟨y, -, h3⟩ := shD_some h; obtain ⟨z, rfl⟩ := shV_int h3; rfl
  case cv k x => obtain ⟨k1, y, -, rfl⟩ := cvD_some h; rfl
  case tab l x => obtain ⟨k1, y, -, -, -, rfl⟩ := tabD_some h; rfl
  case pix b o n x => obtain ⟨k1, y, q, -, -, -, -, rfl⟩ := pixD_some h; rfl
  all_goals (cases h; rfl)
end Go.Proofs.YteblflebjhncbaaGreatDoor
