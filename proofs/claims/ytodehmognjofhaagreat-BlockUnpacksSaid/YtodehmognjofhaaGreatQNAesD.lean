/-
  The program's cipher: its tables, its run over unknown bytes.
-/
import Derived.Test.YtodehmognjofhaaGreatQNTim
namespace Go.Proofs.YtodehmognjofhaaGreat
open Go.RowKit

def SUBL : List Nat := [99, 124, 119, 123, 242, 107, 111, 197, 48, 1, 103, 43, 254, 215, 171, 118, 202, 130, 201, 125, 250, 89, 71, 240, 173, 212, 162, 175, 156, 164, 114, 192, 183, 253, 147, 38, 54, 63, 247, 204, 52, 165, 229, 241, 113, 216, 49, 21, 4, 199, 35, 195, 24, 150, 5, 154, 7, 18, 128, 226, 235, 39, 178, 117, 9, 131, 44, 26, 27, 110, 90, 160, 82, 59, 214, 179, 41, 227, 47, 132, 83, 209, 0, 237, 32, 252, 177, 91, 106, 203, 190, 57, 74, 76, 88, 207, 208, 239, 170, 251, 67, 77, 51, 133, 69, 249, 2, 127, 80, 60, 159, 168, 81, 163, 64, 143, 146, 157, 56, 245, 188, 182, 218, 33, 16, 255, 243, 210, 205, 12, 19, 236, 95, 151, 68, 23, 196, 167, 126, 61, 100, 93, 25, 115, 96, 129, 79, 220, 34, 42, 144, 136, 70, 238, 184, 20, 222, 94, 11, 219, 224, 50, 58, 10, 73, 6, 36, 92, 194, 211, 172, 98, 145, 149, 228, 121, 231, 200, 55, 109, 141, 213, 78, 169, 108, 86, 244, 234, 101, 122, 174, 8, 186, 120, 37, 46, 28, 166, 180, 198, 232, 221, 116, 31, 75, 189, 139, 138, 112, 62, 181, 102, 72, 3, 246, 14, 97, 53, 87, 185, 134, 193, 29, 158, 225, 248, 152, 17, 105, 217, 142, 148, 155, 30, 135, 233, 206, 85, 40, 223, 140, 161, 137, 13, 191, 230, 66, 104, 65, 153, 45, 15, 176, 84, 187, 22]
def UNSUBL : List Nat := [82, 9, 106, 213, 48, 54, 165, 56, 191, 64, 163, 158, 129, 243, 215, 251, 124, 227, 57, 130, 155, 47, 255, 135, 52, 142, 67, 68, 196, 222, 233, 203, 84, 123, 148, 50, 166, 194, 35, 61, 238, 76, 149, 11, 66, 250, 195, 78, 8, 46, 161, 102, 40, 217, 36, 178, 118, 91, 162, 73, 109, 139, 209, 37, 114, 248, 246, 100, 134, 104, 152, 22, 212, 164, 92, 204, 93, 101, 182, 146, 108, 112, 72, 80, 253, 237, 185, 218, 94, 21, 70, 87, 167, 141, 157, 132, 144, 216, 171, 0, 140, 188, 211, 10, 247, 228, 88, 5, 184, 179, 69, 6, 208, 44, 30, 143, 202, 63, 15, 2, 193, 175, 189, 3, 1, 19, 138, 107, 58, 145, 17, 65, 79, 103, 220, 234, 151, 242, 207, 206, 240, 180, 230, 115, 150, 172, 116, 34, 231, 173, 53, 133, 226, 249, 55, 232, 28, 117, 223, 110, 71, 241, 26, 113, 29, 41, 197, 137, 111, 183, 98, 14, 170, 24, 190, 27, 252, 86, 62, 75, 198, 210, 121, 32, 154, 219, 192, 254, 120, 205, 90, 244, 31, 221, 168, 51, 136, 7, 199, 49, 177, 18, 16, 89, 39, 128, 236, 95, 96, 81, 127, 169, 25, 181, 74, 13, 45, 229, 122, 159, 147, 201, 156, 239, 160, 224, 59, 77, 174, 42, 245, 176, 200, 235, 187, 60, 131, 83, 153, 97, 23, 43, 4, 126, 186, 119, 214, 38, 225, 105, 20, 99, 85, 33, 12, 125]
def xor8 (x y : SV) : SV := .ar .xor .u8 x y
def twS (y : SV) : SV := xor8 (.sh .shl .u8 y 1) (.ar .mul .u8 (.sh .shr .u8 y 7) (.int .u8 27))
/-- so many times a byte that is not known. -/
noncomputable def mulS (x : Nat) (y : SV) : Option SV := Bool.rec (motive := fun _ => Option SV) (Bool.rec (motive := fun _ => Option SV) (oi (Nat.beq x 3) (some (xor8 (twS y) y))) (some (twS y)) (Nat.beq x 2)) (some y) (Nat.beq x 1)
noncomputable def timV (a b : SV) : Option SV := match a with
  | .int .u8 (.ofNat x) => match b with
    | .int .u8 (.ofNat y) => oi (Nat.blt x 256) (oi (Nat.blt y 256) (some (.int .u8 (.ofNat (gmul x y)))))
    | b => oi (u8q b) (mulS x b)
  | _ => none
noncomputable def timI (args : List SV) (m : T SObj) (nx : Nat) : Option Res := match args with
  | [a, b] => ob (timV a b) fun v => some (v, m, nx)
  | _ => none
theorem gmul_one : ∀ b, b < 256 → gmul 1 b = b := by decide +kernel
theorem gmul_two : ∀ b, b < 256 → gmul 2 b = xt b := by decide +kernel
theorem gmul_three : ∀ b, b < 256 → gmul 3 b = xt b ^^^ b := by decide +kernel
theorem gm_lt : ∀ n a b p, a < 256 → p < 256 → gm n a b p < 256
  | 0, _, _, _, _, h => h
  | n + 1, a, b, p, ha, hp => gm_lt n (xt a) (b / 2) _ (xt_lt a) (by split; exact Nat.xor_lt_two_pow (n := 8) hp ha; exact hp)
theorem gmul_lt {a : Nat} (b : Nat) (ha : a < 256) : gmul a b < 256 := gm_lt 8 a b 0 ha (by decide)
theorem D.tw {ρ : Pl} {y : SV} {b : Nat} (h : D ρ .u8 y b) : D ρ .u8 (twS y) (xt b) := by
  have h1 := (h.shl8 (n := 1) (by decide)).xor8 ((h.shr8 (n := 7) (by decide)).mul8 (D.lit ρ .u8 27)) (Nat.mod_lt _ (by decide)) (Nat.mod_lt _ (by decide))
  exact h1
theorem mulS_ok {ρ : Pl} {x : Nat} {y r : SV} {b : Nat} (h : mulS x y = some r) (hy : D ρ .u8 y b) (hb : b < 256) : D ρ .u8 r (gmul x b) := by
  unfold mulS at h
  cases h1 : Nat.beq x 1 with
  | true =>
    rw [h1] at h
    cases h
    obtain rfl := nbeq_iff.1 h1
    rw [gmul_one b hb]; exact hy
  | false =>
    rw [h1] at h
    cases h2 : Nat.beq x 2 with
    | true =>
      rw [h2] at h
      cases h
      obtain rfl := nbeq_iff.1 h2
      rw [gmul_two b hb]; exact hy.tw
    | false =>
      rw [h2] at h
      obtain ⟨h3, h4⟩ := oi_eq.1 (show oi (Nat.beq x 3) (some (xor8 (twS y) y)) = some r from h)
      cases h4
      obtain rfl := nbeq_iff.1 h3
      rw [gmul_three b hb]
      exact hy.tw.xor8 hy (xt_lt b) hb
theorem isU8V_of {ρ : Pl} {v : SV} {u : Value} (h : u8q v = true) (hv : den ρ v = some u) : ∃ b : Nat, b < 256 ∧ u = .int .u8 (b : Int) := by
  have := u8q_ok h hv
  obtain ⟨h1, h2⟩ := isU8V_some this
  exact ⟨natV u, h2, h1⟩
variable [Orig]
theorem timI_ok : ∀ args m nx r, timI args m nx = some r → ∀ (ρ : Pl) (us : List Value) (w0 : Base) (w : World), denL ρ args = some us → Emb Tryz.prog ρ m nx w0 w →
    Calls Tryz.prog 132 us.toArray w fun e w' => ∃ ρ' u, e = .returned u ∧ Le ρ ρ' ∧ den ρ' r.1 = some u ∧ Emb Tryz.prog ρ' r.2.1 r.2.2 w0 w' := by
  intro args m nx r he ρ us w0 w hd hm
  unfold timI at he
  split at he
  case h_2 => cases he
  rename_i a b
  obtain ⟨v, h1, h2⟩ := ob_eq.1 he
  cases h2
  obtain ⟨u1, us1, d1, d2, rfl⟩ := denL_cons.1 hd
  obtain ⟨u2, us2, d3, d4, rfl⟩ := denL_cons.1 d2
  rw [denL_nil] at d4
  cases d4
  have key : ∀ {x y : Nat}, x < 256 → y < 256 → u1 = .int .u8 (x : Int) → u2 = .int .u8 (y : Int) → den ρ v = some (.int .u8 (gmul x y : Int)) → Calls Tryz.prog 132 [u1, u2].toArray w fun e w' => ∃ ρ' u, e = .returned u ∧ Le ρ ρ' ∧ den ρ' v = some u ∧ Emb Tryz.prog ρ' m nx w0 w' := by
    intro x y hx hy e1 e2 hv
    subst e1 e2
    refine (times_any w x y hx hy).mono ?_
    rintro e w' ⟨rfl, rfl⟩
    exact ⟨ρ, _, rfl, Le.refl ρ, hv, hm⟩
  unfold timV at h1
  split at h1
  · rename_i x
    rw [den_int] at d1
    cases d1
    split at h1
    · rename_i y
      obtain ⟨g1, g2⟩ := oi_eq.1 h1
      obtain ⟨g3, g4⟩ := oi_eq.1 g2
      cases g4
      rw [den_int] at d3
      cases d3
      exact key (blt_true g1) (blt_true g3) rfl rfl (den_int _ _ _)
    · obtain ⟨g1, g2⟩ := oi_eq.1 h1
      obtain ⟨y, hy, rfl⟩ := isU8V_of g1 d3
      have hx : x < 256 := by
        unfold mulS at g2
        cases e1 : Nat.beq x 1 with
        | true => obtain rfl := nbeq_iff.1 e1; decide
        | false =>
          rw [e1] at g2
          cases e2 : Nat.beq x 2 with
          | true => obtain rfl := nbeq_iff.1 e2; decide
          | false =>
            rw [e2] at g2
            obtain ⟨e3, -⟩ := oi_eq.1 (show oi (Nat.beq x 3) (some (xor8 (twS b) b)) = some v from g2)
            obtain rfl := nbeq_iff.1 e3
            decide
      exact key hx hy rfl rfl (mulS_ok g2 d3 hy)
  · cases h1
noncomputable def aesI : CalF := orI 132 timI fun _ _ _ _ => none
theorem aesI_ok : FnOk Tryz.prog aesI := orI_ok timI_ok (noI_ok _)
end Go.Proofs.YtodehmognjofhaaGreat
