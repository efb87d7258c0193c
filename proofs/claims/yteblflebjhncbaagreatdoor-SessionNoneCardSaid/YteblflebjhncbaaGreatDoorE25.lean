/-
  A run by the kernel: functions met by their contracts.
-/
import Derived.Test.YteblflebjhncbaaGreatDoorE24
import Derived.Lib.Repeat
import Derived.Below
namespace Go.Proofs.YteblflebjhncbaaGreatDoor
open Go.RowKit

variable [Orig]
theorem Emb.below {P : Program} {ρ : Pl} {m : T SObj} {nx : Nat} {w0 : Base} {w w' : World} (h : Emb P ρ m nx w0 w) (k : Below w.heap.size w w') : Emb P ρ m nx w0 w' := by
  refine ⟨⟨k.os.trans h.touch.os, k.tape.trans h.touch.tape, k.output.trans h.touch.output, Nat.le_trans h.touch.size k.size, fun j hj => ?_⟩, ?_, h.inj, h.fresh, fun b x hb => Nat.lt_of_lt_of_le (h.old b x hb) k.size, h.hole, h.x⟩
  · obtain ⟨h1, h2⟩ := h.touch.block j hj
    exact ⟨h1, (k.block j (Nat.lt_of_lt_of_le h1 h.touch.size)).trans h2⟩
  · intro b o hb
    obtain ⟨x, ob, a1, a2, a3, a4⟩ := h.obj b o hb
    exact ⟨x, ob, a1, a2, (k.block x.1 (h.old b x a1)).trans a3, a4⟩
/-- one contract more. -/
noncomputable def orI (g : FuncId) (one : List SV → T SObj → Nat → Option Res) (I : CalF) : CalF := fun f args m nx => Bool.rec (motive := fun _ => Option Res) (I f args m nx) (one args m nx) (Nat.beq f g)
theorem orI_ok {P : Program} {g : FuncId} {one : List SV → T SObj → Nat → Option Res} {I : CalF} (h1 : ∀ args m nx r, one args m nx = some r → ∀ (ρ : Pl) (us : List Value) (w0 : Base) (w : World), denL ρ args = some us → Emb P ρ m nx w0 w →
    Calls P g us.toArray w fun e w' => ∃ ρ' u, e = .returned u ∧ Le ρ ρ' ∧ den ρ' r.1 = some u ∧ Emb P ρ' r.2.1 r.2.2 w0 w') (hI : FnOk P I) : FnOk P (orI g one I) := by
  intro f args m nx r e ρ us w0 w hd hm
  have e' : Bool.rec (motive := fun _ => Option Res) (I f args m nx) (one args m nx) (Nat.beq f g) = some r := e
  cases hb : Nat.beq f g with
  | true =>
    rw [hb] at e'
    obtain rfl := nbeq_iff.1 hb
    exact h1 args m nx r e' ρ us w0 w hd hm
  | false =>
    rw [hb] at e'
    exact hI f args m nx r e' ρ us w0 w hd hm
/-- strings.Repeat. -/
noncomputable def repN (s : List Nat) (n : Nat) : List Nat := Nat.rec (motive := fun _ => List Nat) [] (fun _ ih => app s ih) n
noncomputable def repI (args : List SV) (m : T SObj) (nx : Nat) : Option Res := match args with
  | [.str s, .int .i64 (.ofNat n)] => oi (Nat.ble (Nat.mul (len s) n) 1048576) (oi (Nat.ble n 1048576) (some (.str (repN s n), m, nx)))
  | _ => none
omit [Orig] in
theorem repN_bytes (s : List Nat) : ∀ n, bytesOf (repN s n) = ⟨(Lib.repeatL (bytesOf s).data.toList n).toArray⟩
  | 0 => rfl
  | n + 1 => by
    show bytesOf (app s (repN s n)) = _
    rw [app_ok, bytesOf_append, repN_bytes s n]
    apply ByteArray.ext
    simp [Lib.repeatL]
omit [Orig] in
theorem repN_lt {s : List Nat} (h : ∀ x ∈ s, x < 256) : ∀ n, ∀ x ∈ repN s n, x < 256
  | 0, x, hx => by cases hx
  | n + 1, x, hx => by
    have hx' : x ∈ app s (repN s n) := hx
    rw [app_ok] at hx'
    exact (List.mem_append.1 hx').elim (h x) (repN_lt h n x)
theorem repI_ok {P : Program} {g : FuncId} (hg : ∀ (s : ByteArray) (c : Nat) (w : World), c ≤ 9223372036854775807 → s.size * c ≤ 140737488355328 →
    Calls P g #[.string s, .int .i64 c] w fun e w' => e = .returned (.string ⟨(Lib.repeatL s.data.toList c).toArray⟩) ∧ Below w.heap.size w w') :
    ∀ args m nx r, repI args m nx = some r → ∀ (ρ : Pl) (us : List Value) (w0 : Base) (w : World), denL ρ args = some us → Emb P ρ m nx w0 w →
    Calls P g us.toArray w fun e w' => ∃ ρ' u, e = .returned u ∧ Le ρ ρ' ∧ den ρ' r.1 = some u ∧ Emb P ρ' r.2.1 r.2.2 w0 w' := by
  intro args m nx r e ρ us w0 w hd hm
  unfold repI at e
  split at e
  case h_2 => cases e
  rename_i s n
  obtain ⟨h1, h2⟩ := oi_eq.1 e
  obtain ⟨h3, h4⟩ := oi_eq.1 h2
  cases h4
  rw [nble_iff, len_ok] at h1
  rw [nble_iff] at h3
  obtain ⟨u1, us1, d1, d2, rfl⟩ := denL_cons.1 hd
  obtain ⟨u2, us2, d3, d4, rfl⟩ := denL_cons.1 d2
  rw [denL_nil] at d4
  cases d4
  obtain ⟨rfl, hs⟩ := den_str d1
  rw [den_int] at d3
  cases d3
  refine (hg (bytesOf s) n w (by omega) (by rw [bytesOf_size]; have : s.length * n ≤ 1048576 := h1; omega)).mono ?_
  rintro e w' ⟨rfl, h5⟩
  refine ⟨ρ, _, rfl, Le.refl ρ, ?_, hm.below h5⟩
  rw [← repN_bytes, den_str_mk ρ (repN_lt hs n)]
end Go.Proofs.YteblflebjhncbaaGreatDoor
