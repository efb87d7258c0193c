/-
  A run by the kernel: numbers, constants, types.
-/
import Derived.Test.YteblflebjhncbaaGreatDoorE2
import Derived.ChangeKeysEq
import Derived.Laws.Build
namespace Go.Proofs.YteblflebjhncbaaGreatDoor
open Go.RowKit

structure Env where
  ty : T TypeInfo
  fn : T Func
  eq : TypeId → Bool
structure EnvOk (P : Program) (E : Env) : Prop where
  ty : ∀ t i, E.ty.get t = some i → P.info? t = some i
  fn : ∀ f g, E.fn.get f = some g → P.funcs[f]? = some g ∧ (g.name == "runtime.NumGoroutine") = false
  mixed : P.follows .mixedOrders = true
  eq : ∀ t, E.eq t = true → P.stoodInHeld t = false ∧ P.eqGuardType P.depth t = false

/-- constants. -/
def c1 : Value → Option SV
  | .bool b => some (.bool b)
  | .int k n => some (.int k n)
  | .float k b => some (.flt k b)
  | .string s => some (.str (s.data.toList.map UInt8.toNat))
  | .pointer none => some .nptr
  | .slice none 0 0 => some .nslc
  | .map none => some .nmap
  | .nilFunc => some .nfn
  | .nilIface => some .nifc
  | .func (.func f) ⟨[]⟩ ⟨[]⟩ => some (.fn (.func f) [] [])
  | _ => none
noncomputable def c1L (l : List Value) : Option (List SV) := List.rec (motive := fun _ => Option (List SV)) (some []) (fun v _ ih => ob (c1 v) fun x => ob ih fun y => some (x :: y)) l
noncomputable def ofV : Value → Option SV
  | .agg cs => ob (c1L cs.toList) fun l => some (.agg l)
  | .tuple cs => ob (c1L cs.toList) fun l => some (.tup l)
  | v => c1 v
theorem bytes_back (s : ByteArray) : bytesOf (s.data.toList.map UInt8.toNat) = s := by
  unfold bytesOf
  rw [List.map_map]
  have : (UInt8.ofNat ∘ UInt8.toNat) = id := by funext x; simp
  rw [this, List.map_id]
theorem c1_den {v : Value} {s : SV} (h : c1 v = some s) (ρ : Pl) : den ρ s = some v ∧ s.one = true := by
  unfold c1 at h
  split at h <;> try cases h
  all_goals (first | (refine ⟨?_, rfl⟩) | skip)
  case h_4 s =>
    unfold den
    have e : ((s.data.toList.map UInt8.toNat).all fun x => decide (x < 256)) = true := by
      rw [List.all_eq_true]
      intro x hx
      obtain ⟨y, -, rfl⟩ := List.mem_map.1 hx
      exact decide_eq_true (UInt8.toNat_lt y)
    rw [if_pos e, bytes_back]
  case h_10 f => simp [den, denL, isYield]
  all_goals simp [den]
theorem c1L_den {ρ : Pl} : ∀ {l : List Value} {s : List SV}, c1L l = some s → denL ρ s = some l ∧ s.all SV.one = true
  | [], s, h => by cases h; exact ⟨denL_nil ρ, rfl⟩
  | v :: l, s, h => by
    have h' : (ob (c1 v) fun x => ob (c1L l) fun y => some (x :: y)) = some s := h
    obtain ⟨x, h1, h2⟩ := ob_eq.1 h'
    obtain ⟨y, h3, h4⟩ := ob_eq.1 h2
    cases h4
    obtain ⟨a1, a2⟩ := c1_den h1 ρ
    obtain ⟨b1, b2⟩ := c1L_den (ρ := ρ) h3
    exact ⟨denL_cons.2 ⟨_, _, a1, b1, rfl⟩, by simp only [List.all_cons, a2, b2, Bool.and_self]⟩
theorem ofV_den {v : Value} {s : SV} (h : ofV v = some s) (ρ : Pl) : den ρ s = some v := by
  unfold ofV at h
  split at h
  · obtain ⟨l, h1, h2⟩ := ob_eq.1 h
    cases h2
    obtain ⟨a, b⟩ := c1L_den (ρ := ρ) h1
    unfold den
    rw [if_pos b, a]; rfl
  · obtain ⟨l, h1, h2⟩ := ob_eq.1 h
    cases h2
    obtain ⟨a, b⟩ := c1L_den (ρ := ρ) h1
    unfold den
    rw [a]; rfl
  · exact (c1_den h ρ).1
noncomputable def ev (F : T SV) : Operand → Option SV
  | .tmp t => F.get t
  | .const v => ofV v
  | .global _ => none
  | .func f => some (.fn (.func f) [] [])
theorem ev_den {ρ : Pl} {N : Nat} {F : T SV} {a : Act} (hF : FRel ρ N F a) {x : Operand} {v : SV} (h : ev F x = some v) : den ρ v = some (a.eval x) := by
  cases x with
  | tmp t =>
    obtain ⟨u, h1, h2⟩ := hF.at_ t v h
    rw [h2]
    simp only [Act.eval, Array.getD_eq_getD_getElem?, h1, Option.getD_some]
  | const u => exact ofV_den h ρ
  | global g => cases h
  | func f => cases h; simp [den, denL, isYield, Act.eval]
noncomputable def evL (F : T SV) (l : List Operand) : Option (List SV) := List.rec (motive := fun _ => Option (List SV)) (some []) (fun x _ ih => ob (ev F x) fun v => ob ih fun vs => some (v :: vs)) l
theorem evL_den {ρ : Pl} {N : Nat} {F : T SV} {a : Act} (hF : FRel ρ N F a) : ∀ {l : List Operand} {vs : List SV}, evL F l = some vs → denL ρ vs = some (l.map a.eval)
  | [], vs, h => by cases h; exact denL_nil ρ
  | x :: l, vs, h => by
    have h' : (ob (ev F x) fun v => ob (evL F l) fun vs => some (v :: vs)) = some vs := h
    obtain ⟨v, h1, h2⟩ := ob_eq.1 h'
    obtain ⟨ws, h3, h4⟩ := ob_eq.1 h2
    cases h4
    exact denL_cons.2 ⟨_, _, ev_den hF h1, evL_den hF h3, rfl⟩

/-- types. -/
noncomputable def und (E : Env) (t : TypeId) : Option TypeDesc := ob (E.ty.get t) fun i => match i.desc with
  | .named _ u => ob (E.ty.get u) fun j => some j.desc
  | d => some d
theorem und_ok {P : Program} {E : Env} (hE : EnvOk P E) {t : TypeId} {d : TypeDesc} (h : und E t = some d) : P.underlying t = some d := by
  obtain ⟨i, h1, h2⟩ := ob_eq.1 h
  have hi := hE.ty t i h1
  unfold Program.underlying
  rw [hi]
  obtain ⟨desc, str, size, bytes, hp, al, fa, zero, cmp, ms⟩ := i
  cases desc <;> simp only at h2 ⊢
  case named n u =>
    obtain ⟨j, h3, h4⟩ := ob_eq.1 h2
    rw [hE.ty u j h3]
    exact h4
  all_goals exact h2
noncomputable def szE (E : Env) (t : TypeId) : Option Nat := ob (E.ty.get t) fun i => some i.size
theorem szE_ok {P : Program} {E : Env} (hE : EnvOk P E) {t : TypeId} {n : Nat} (h : szE E t = some n) (w : World) : (sizeOf t).run P w = .ok n w ∧ P.cellsOf t = n := by
  obtain ⟨i, h1, h2⟩ := ob_eq.1 h
  cases h2
  have hi := hE.ty t i h1
  refine ⟨?_, by simp [Program.cellsOf, hi]⟩
  rw [run_sizeOf w hi]
  simp [Program.cellsOf, hi]
def TypeDesc.isAg : TypeDesc → Bool
  | .struct _ | .array _ _ => true
  | _ => false
noncomputable def agE (E : Env) (t : TypeId) : Option Bool := ob (und E t) fun d => some (TypeDesc.isAg d)
theorem agE_ok {P : Program} {E : Env} (hE : EnvOk P E) {t : TypeId} {b : Bool} (h : agE E t = some b) (w : World) : (isAgg t).run P w = .ok b w := by
  obtain ⟨d, h1, h2⟩ := ob_eq.1 h
  cases h2
  unfold isAgg
  simp only [Sem.run_bind, run_underlying (und_ok hE h1) w, Result.andThen_ok]
  cases d <;> rfl
noncomputable def zrE (E : Env) (t : TypeId) : Option SV := ob (E.ty.get t) fun i => ob i.zero fun z => ofV z
theorem zrE_ok {P : Program} {E : Env} (hE : EnvOk P E) {t : TypeId} {v : SV} (h : zrE E t = some v) (ρ : Pl) (w : World) : ∃ u, (zeroValue t).run P w = .ok u w ∧ den ρ v = some u ∧ ∃ i, P.info? t = some i ∧ i.zero = some u := by
  obtain ⟨i, h1, h2⟩ := ob_eq.1 h
  obtain ⟨z, h3, h4⟩ := ob_eq.1 h2
  have hi := hE.ty t i h1
  refine ⟨z, ?_, ofV_den h4 ρ, i, hi, h3⟩
  unfold zeroValue
  simp only [Sem.run_bind, run_typeInfo w hi, Result.andThen_ok, h3, Sem.run_pure]

/-- numbers. -/
def half : IntKind → Nat
  | .i8 | .u8 => 128
  | .i16 | .u16 => 32768
  | .i32 | .u32 => 2147483648
  | .i64 | .u64 => 9223372036854775808
def wrN (k : IntKind) (m : Nat) : Int :=
  match Nat.blt m (half k) with
  | true => .ofNat m
  | false => match k.signed with
    | false => .ofNat (Nat.mod m (Nat.mul 2 (half k)))
    | true => match Nat.blt (Nat.mod m (Nat.mul 2 (half k))) (half k) with
      | true => .ofNat (Nat.mod m (Nat.mul 2 (half k)))
      | false => Int.sub (.ofNat (Nat.mod m (Nat.mul 2 (half k)))) (.ofNat (Nat.mul 2 (half k)))
def wr (k : IntKind) (n : Int) : Int :=
  match n with
  | .ofNat m => wrN k m
  | .negSucc m => match Int.emod (.negSucc m) (.ofNat (Nat.mul 2 (half k))) with
    | .ofNat r => wrN k r
    | .negSucc r => .negSucc r
theorem blt_true {a b : Nat} (h : Nat.blt a b = true) : a < b := Nat.le_of_ble_eq_true h
theorem blt_false {a b : Nat} (h : Nat.blt a b = false) : b ≤ a := by
  rcases Nat.lt_or_ge a b with g | g
  · have : Nat.blt a b = true := Nat.ble_eq_true_of_le g
    rw [this] at h; cases h
  · exact g
theorem nmod (a b : Nat) : Nat.mod a b = a % b := rfl
theorem nmul (a b : Nat) : Nat.mul a b = a * b := rfl
theorem isub (a b : Int) : Int.sub a b = a - b := rfl
theorem iemod (a b : Int) : Int.emod a b = a % b := rfl
theorem wrN_ok (k : IntKind) (m : Nat) : wrN k m = k.wrap (m : Int) := by
  unfold wrN IntKind.wrap
  simp only [nmod, nmul, isub, iemod, Int.ofNat_eq_natCast]
  split
  · rename_i h1
    have h1 := blt_true h1
    cases k <;> simp [IntKind.bits, IntKind.signed, half] at h1 ⊢ <;> (try split) <;> omega
  · rename_i h1
    have h1 := blt_false h1
    split
    · rename_i h2
      cases k <;> simp [IntKind.bits, IntKind.signed, half] at h1 h2 ⊢ <;> omega
    · rename_i h2
      split
      · rename_i h3
        have h3 := blt_true h3
        cases k <;> simp [IntKind.bits, IntKind.signed, half] at h1 h2 h3 ⊢ <;> (try split) <;> omega
      · rename_i h3
        have h3 := blt_false h3
        cases k <;> simp [IntKind.bits, IntKind.signed, half] at h1 h2 h3 ⊢ <;> (try split) <;> omega
theorem wrap_mod (k : IntKind) (n : Int) : k.wrap (n % (2 * half k : Nat)) = k.wrap n := by
  unfold IntKind.wrap
  cases k <;> simp [IntKind.bits, IntKind.signed, half]
theorem wr_ok (k : IntKind) (n : Int) : wr k n = k.wrap n := by
  unfold wr
  cases n with
  | ofNat m => exact wrN_ok k m
  | negSucc m =>
    have hp : (0 : Int) < ((2 * half k : Nat) : Int) := by cases k <;> simp [half]
    have h0 := Int.emod_nonneg (Int.negSucc m) (Int.ne_of_gt hp)
    rw [← wrap_mod]
    simp only [nmul, iemod, Int.ofNat_eq_natCast]
    cases hr : (Int.negSucc m) % ((2 * half k : Nat) : Int) with
    | ofNat r => exact wrN_ok k r
    | negSucc r => rw [hr] at h0; cases h0
end Go.Proofs.YteblflebjhncbaaGreatDoor
