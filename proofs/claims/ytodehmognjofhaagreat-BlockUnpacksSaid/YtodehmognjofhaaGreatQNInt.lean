/-
  The digest, the cipher and the tags as contracts of a run.
-/
import Derived.Test.YtodehmognjofhaaGreatQNFastA
namespace Go.Proofs.YtodehmognjofhaaGreat
open Go.RowKit

noncomputable def shaI (args : List SV) (m : T SObj) (nx : Nat) : Option Res := match args with
  | [.str s] => oi (Nat.ble (len s) 1048576) (some (.str (shaX s), m, nx))
  | _ => none
noncomputable def macI (args : List SV) (m : T SObj) (nx : Nat) : Option Res := match args with
  | [.str k, .str s] => oi (Nat.ble (len k) 1048576) (oi (Nat.ble (len s) 1048576) (some (.str (macX k s), m, nx)))
  | _ => none
noncomputable def u8X (l : List Nat) : List SV := List.rec (motive := fun _ => List SV) [] (fun x _ ih => .int .u8 (.ofNat x) :: ih) l
theorem u8X_eq : ∀ l, u8X l = l.map fun n => SV.int .u8 (.ofNat n)
  | [] => rfl
  | x :: l => by
    show SV.int .u8 (.ofNat x) :: u8X l = _
    rw [u8X_eq l]; rfl
noncomputable def cipI (args : List SV) (m : T SObj) (nx : Nat) : Option Res := match args with
  | [.str k] => oi (Nat.beq (len k) 16) (some (.tup [.ptr nx 0, .int .i64 0], m.put (some (.cells (app (u8X (rkX k)) tabB) 214 false)) nx, Nat.succ nx))
  | _ => none
/-- a byte that is known. -/
noncomputable def u8N (v : SV) : Option Nat := match v with
  | .int .u8 (.ofNat n) => oi (Nat.ble n 255) (some n)
  | _ => none
noncomputable def rdC {β : Type} (n : Nat) (l : List SV) (K : List Nat → List SV → Option β) : Option β := Nat.rec (motive := fun _ => List SV → (List Nat → List SV → Option β) → Option β) (fun l K => K [] l) (fun _ ih l K => List.rec (motive := fun _ => Option β) none (fun x t _ => ob (u8N x) fun a => ih t fun r u => K (a :: r) u) l) n l K
theorem u8N_some {v : SV} {n : Nat} (h : u8N v = some n) : v = .int .u8 (.ofNat n) ∧ n < 256 := by
  unfold u8N at h
  split at h
  · obtain ⟨h1, h2⟩ := oi_eq.1 h
    cases h2
    rw [nble_iff] at h1
    exact ⟨rfl, by omega⟩
  · cases h
theorem rdC_some {β : Type} {r : β} (n : Nat) : ∀ {l : List SV} {K : List Nat → List SV → Option β}, rdC n l K = some r → ∃ rk rest, l = (rk.map fun n => SV.int .u8 (.ofNat n)) ++ rest ∧ rk.length = n ∧ Bytes rk ∧ K rk rest = some r := by
  induction n with
  | zero => intro l K h; exact ⟨[], l, rfl, rfl, (fun _ h => by cases h), h⟩
  | succ n ih =>
    intro l K h
    cases l with
    | nil => cases h
    | cons x t =>
      obtain ⟨a, h1, h2⟩ := ob_eq.1 (show ob (u8N x) (fun a => rdC n t fun r u => K (a :: r) u) = some r from h)
      obtain ⟨rk, rest, e1, e2, e3, e4⟩ := ih h2
      obtain ⟨rfl, h3⟩ := u8N_some h1
      refine ⟨a :: rk, rest, by rw [e1]; rfl, by rw [List.length_cons, e2], ?_, e4⟩
      intro y hy
      rcases List.mem_cons.1 hy with rfl | hy
      · exact h3
      · exact e3 y hy
noncomputable def turI (args : List SV) (m : T SObj) (nx : Nat) : Option Res := match args with
  | [.ptr b 0, .str nonce, .str s] => ob (m.get b) fun o => match o with
    | .cells cs e false => oi (Nat.beq e 214) (rdC 176 cs fun rk rest => oi (svEqL rest tabB) (oi (Nat.beq (len nonce) 16) (oi (Nat.ble (len s) 1048576) (some (.tup [.str (ctrX rk nonce s), .int .i64 0], m, nx)))))
    | _ => none
  | _ => none
theorem cells_den {rk : List Nat} (ρ : Pl) : denL ρ ((rk.map fun n => SV.int .u8 (.ofNat n)) ++ tabB) = some (ccells rk) := by
  unfold ccells tabC
  refine denL_append (denL_map _ _ _ fun i _ => D.lit ρ .u8 i) ?_
  exact denL_append (denL_map _ _ _ fun i _ => D.lit ρ .u8 i) (denL_cons.2 ⟨_, _, den_bool _ _, denL_nil _, rfl⟩)
theorem cells_one (rk : List Nat) : ((rk.map fun n => SV.int .u8 (.ofNat n)) ++ tabB).all SV.one = true := by
  rw [List.all_append, Bool.and_eq_true]
  exact ⟨List.all_eq_true.2 fun x hx => by obtain ⟨n, -, rfl⟩ := List.mem_map.1 hx; rfl, by decide +kernel⟩
theorem bsOf_lt (s : ByteArray) : Bytes (bsOf s) := bsOf_bytes s
variable [Orig]
theorem shaI_ok : ∀ args m nx r, shaI args m nx = some r → ∀ (ρ : Pl) (us : List Value) (w0 : Base) (w : World), denL ρ args = some us → Emb Tryz.prog ρ m nx w0 w →
    Calls Tryz.prog 76 us.toArray w fun e w' => ∃ ρ' u, e = .returned u ∧ Le ρ ρ' ∧ den ρ' r.1 = some u ∧ Emb Tryz.prog ρ' r.2.1 r.2.2 w0 w' := by
  intro args m nx r he ρ us w0 w hd hm
  unfold shaI at he
  split at he
  case h_2 => cases he
  rename_i s
  obtain ⟨h1, h2⟩ := oi_eq.1 he
  cases h2
  rw [nble_iff, len_ok] at h1
  obtain ⟨u1, us1, d1, d2, rfl⟩ := denL_cons.1 hd
  rw [denL_nil] at d2
  cases d2
  obtain ⟨rfl, hs⟩ := den_str d1
  refine (of_any w (bytesOf s) (by rw [bytesOf_size]; omega)).mono ?_
  rintro e w' ⟨rfl, t⟩
  refine ⟨ρ, _, rfl, Le.refl ρ, ?_, hm.below (t.toBelow (Nat.le_refl _) (by simp))⟩
  rw [bsOf_bytesOf hs, shaX_eq, den_str_mk ρ (shaF_bytes s)]
theorem macI_ok : ∀ args m nx r, macI args m nx = some r → ∀ (ρ : Pl) (us : List Value) (w0 : Base) (w : World), denL ρ args = some us → Emb Tryz.prog ρ m nx w0 w →
    Calls Tryz.prog 98 us.toArray w fun e w' => ∃ ρ' u, e = .returned u ∧ Le ρ ρ' ∧ den ρ' r.1 = some u ∧ Emb Tryz.prog ρ' r.2.1 r.2.2 w0 w' := by
  intro args m nx r he ρ us w0 w hd hm
  unfold macI at he
  split at he
  case h_2 => cases he
  rename_i k s
  obtain ⟨h0, he⟩ := oi_eq.1 he
  obtain ⟨h1, h2⟩ := oi_eq.1 he
  cases h2
  rw [nble_iff, len_ok] at h0 h1
  obtain ⟨u1, us1, d1, d2, rfl⟩ := denL_cons.1 hd
  obtain ⟨u2, us2, d3, d4, rfl⟩ := denL_cons.1 d2
  rw [denL_nil] at d4
  cases d4
  obtain ⟨rfl, hk⟩ := den_str d1
  obtain ⟨rfl, hs⟩ := den_str d3
  refine (mac_any w (bytesOf k) (bytesOf s) (by rw [bytesOf_size]; omega) (by rw [bytesOf_size]; omega)).mono ?_
  rintro e w' ⟨rfl, t⟩
  refine ⟨ρ, _, rfl, Le.refl ρ, ?_, hm.below (t.toBelow (Nat.le_refl _) (by simp))⟩
  rw [bsOf_bytesOf hs, bsOf_bytesOf hk, macX_eq]
  exact den_str_mk ρ (s := macF k s) (shaF_bytes _)
theorem cipI_ok : ∀ args m nx r, cipI args m nx = some r → ∀ (ρ : Pl) (us : List Value) (w0 : Base) (w : World), denL ρ args = some us → Emb Tryz.prog ρ m nx w0 w →
    Calls Tryz.prog 95 us.toArray w fun e w' => ∃ ρ' u, e = .returned u ∧ Le ρ ρ' ∧ den ρ' r.1 = some u ∧ Emb Tryz.prog ρ' r.2.1 r.2.2 w0 w' := by
  intro args m nx r he ρ us w0 w hd hm
  unfold cipI at he
  split at he
  case h_2 => cases he
  rename_i k
  obtain ⟨h1, h2⟩ := oi_eq.1 he
  cases h2
  rw [nbeq_iff, len_ok] at h1
  obtain ⟨u1, us1, d1, d2, rfl⟩ := denL_cons.1 hd
  rw [denL_nil] at d2
  cases d2
  obtain ⟨rfl, hk⟩ := den_str d1
  refine (aesnew_any w (bytesOf k) (by rw [bytesOf_size]; exact h1)).mono ?_
  rintro e w' ⟨cb, rfl, hge, t, hA⟩
  rw [bsOf_bytesOf hk] at hA
  have hcs : app (u8X (rkX k)) tabB = ((rkF k).map fun n => SV.int .u8 (.ofNat n)) ++ tabB := by rw [app_ok, u8X_eq, rkX_eq h1]
  obtain ⟨q1, q2⟩ := hm.took t hge hA (o := .cells (app (u8X (rkX k)) tabB) 214 false) ⟨rfl, ⟨ccells (rkF k), by rw [hcs, denC_of_L (cells_one _)]; exact cells_den _, by simp⟩, ⟨fun i hi => by simp, fun _ => rfl⟩, by rw [hcs]; exact onc_of_one (cells_one _)⟩
  refine ⟨_, _, rfl, q2, den_tup_mk (denL_cons.2 ⟨_, _, den_ptr_mk (pset_same _ _ _) 0, denL_cons.2 ⟨_, _, den_int _ _ _, denL_nil _, rfl⟩, rfl⟩), q1⟩
theorem turI_ok : ∀ args m nx r, turI args m nx = some r → ∀ (ρ : Pl) (us : List Value) (w0 : Base) (w : World), denL ρ args = some us → Emb Tryz.prog ρ m nx w0 w →
    Calls Tryz.prog 96 us.toArray w fun e w' => ∃ ρ' u, e = .returned u ∧ Le ρ ρ' ∧ den ρ' r.1 = some u ∧ Emb Tryz.prog ρ' r.2.1 r.2.2 w0 w' := by
  intro args m nx r he ρ us w0 w hd hm
  unfold turI at he
  split at he
  case h_2 => cases he
  rename_i b nonce s
  obtain ⟨o, ho, he⟩ := ob_eq.1 he
  split at he
  case h_2 => cases he
  rename_i cs e
  obtain ⟨h0, he⟩ := oi_eq.1 he
  obtain ⟨rk, rest, rfl, h2, h3, he⟩ := rdC_some 176 he
  obtain ⟨h4, he⟩ := oi_eq.1 he
  obtain ⟨h5, he⟩ := oi_eq.1 he
  obtain ⟨h6, he⟩ := oi_eq.1 he
  cases he
  rw [nbeq_iff] at h0
  subst h0
  rw [nbeq_iff, len_ok] at h5
  rw [nble_iff, len_ok] at h6
  have h4 := svEqL_ok h4
  subst h4
  obtain ⟨u1, us1, d1, d2, rfl⟩ := denL_cons.1 hd
  obtain ⟨u2, us2, d3, d4, rfl⟩ := denL_cons.1 d2
  obtain ⟨u3, us3, d5, d6, rfl⟩ := denL_cons.1 d4
  rw [denL_nil] at d6
  cases d6
  obtain ⟨x, hx, rfl⟩ := den_ptr d1
  obtain ⟨rfl, hn⟩ := den_str d3
  obtain ⟨rfl, hs⟩ := den_str d5
  obtain ⟨x', obj, a1, a2, a3, a4⟩ := hm.obj b _ ho
  rw [hx] at a1
  cases a1
  cases obj <;> try exact a4.elim
  rename_i arr e' z
  obtain ⟨rfl, ⟨us, b1, b2⟩, ⟨-, b3⟩, -⟩ := a4
  obtain rfl := b3 rfl
  rw [denC_of_L (cells_one rk), cells_den ρ] at b1
  cases b1
  have hA : At w x.1 214 (ccells rk) := by
    have : arr = (ccells rk).toArray := by
      have b2 : arr.toList = ccells rk := b2
      rw [← b2]
    rw [this] at a3
    exact a3
  refine (cturn_any w x.1 rk (bytesOf nonce) (bytesOf s) h2 h3 (by rw [bytesOf_size]; exact h5) (by rw [bytesOf_size]; omega) hA).mono ?_
  rintro e w' ⟨rfl, t⟩
  refine ⟨ρ, _, rfl, Le.refl ρ, ?_, hm.below (t.toBelow (Nat.le_refl _) (by simp))⟩
  rw [bsOf_bytesOf hn, bsOf_bytesOf hs, ctrX_eq h2 h5]
  exact den_tup_mk (denL_cons.2 ⟨_, _, den_str_mk ρ (ctrF_bytes h3 hn hs), denL_cons.2 ⟨_, _, den_int _ _ _, denL_nil _, rfl⟩, rfl⟩)
/-- all of them. -/
noncomputable def cryI : CalF := orI 98 macI (orI 96 turI (orI 95 cipI (orI 76 shaI fun _ _ _ _ => none)))
theorem cryI_ok : FnOk Tryz.prog cryI := orI_ok macI_ok (orI_ok turI_ok (orI_ok cipI_ok (orI_ok shaI_ok (noI_ok _))))
end Go.Proofs.YtodehmognjofhaaGreat
