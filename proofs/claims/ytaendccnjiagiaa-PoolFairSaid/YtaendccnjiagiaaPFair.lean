/-
  PoolFair: the walk.
-/
import Derived.Test.YtaendccnjiagiaaPLive
import Derived.Test.YtaendccnjiagiaaPFairLaw
import Derived.Test.YtaendccnjiagiaaPTurnsLaw
import Derived.Test.YtaendccnjiagiaaPRead
import Derived.Deep.DeepCutAuto
namespace Go.Proofs.Ytaendccnjiagiaa.PoolFair
open Go.RowKit

theorem Try.infoInt : (Try.prog.info? 3).map (fun i => (i.zero, i.size, i.bytes)) = some (some (.int .i64 0), 1, 8) := by kernel_rfl

/-- while the tasks are added. -/
structure Adds (S : Pool) (K pat : Int) (k : Nat) : Prop where
  wk : S.workers = K
  pt : S.patience = pat
  rm : S.room = 0
  q : S.queue = []
  run : ∀ t ∈ S.work, t.blk = false ∧ t.age = 0 ∧ 1 ≤ t.id ∧ t.id ≤ k
theorem Adds.add {S : Pool} {K pat : Int} {k : Nat} (h : Adds S K pat k) (x : Nat) : Adds (S.add ((k : Int) + 1) x).2 K pat (k + 1) := by
  have hm : ∀ t ∈ S.work, t.blk = false ∧ t.age = 0 ∧ 1 ≤ t.id ∧ t.id ≤ (k + 1 : Nat) := fun t ht => by
    obtain ⟨h1, h2, h3, h4⟩ := h.run t ht
    exact ⟨h1, h2, h3, by omega⟩
  unfold Pool.add
  split
  · exact ⟨h.wk, h.pt, h.rm, h.q, hm⟩
  · split
    · exact ⟨h.wk, h.pt, h.rm, h.q, hm⟩
    · split
      · refine ⟨h.wk, h.pt, h.rm, h.q, fun t ht => ?_⟩
        simp only [List.mem_append, List.mem_singleton] at ht
        rcases ht with ht | rfl
        · exact hm t ht
        · exact ⟨rfl, rfl, by simp only; omega, by simp⟩
      · rw [if_pos (by rw [h.rm]; omega)]
        exact ⟨h.wk, h.pt, h.rm, h.q, hm⟩
theorem Adds.fine {S : Pool} {K pat : Int} {k : Nat} (h : Adds S K pat k) (hk : k ≤ 8) (hp : 1 ≤ pat) (hok : S.Ok) : Fine S K pat (idsOf S.work) ∧ (idsOf S.work).Nodup ∧ (∀ i ∈ idsOf S.work, 1 ≤ i ∧ i ≤ 8) ∧ (S.work.filter fun t => !t.blk) = S.work := by
  refine ⟨⟨h.wk, h.pt, rfl, fun t ht => (h.run t ht).1, fun t ht => by rw [(h.run t ht).2.1]; exact Int.le_refl _, Fair.zero hp ?_, by rw [← h.wk]; exact hok.lw⟩, ?_, ?_, ?_⟩
  · intro a ha
    obtain ⟨t, ht, rfl⟩ := List.mem_map.1 ha
    exact (h.run t ht).2.1
  · have := hok.nd
    unfold Pool.ids at this
    exact (List.nodup_append.1 this).1
  · intro i hi
    obtain ⟨t, ht, rfl⟩ := List.mem_map.1 hi
    obtain ⟨-, -, h3, h4⟩ := h.run t ht
    exact ⟨h3, by omega⟩
  · rw [List.filter_eq_self]
    intro t ht
    rw [(h.run t ht).1]; rfl

def ints (l : List Int) : List Value := l.map (Value.int .i64)

/-- the pool, the list that was told, and since, side by side. -/
structure Play (w0 w : World) (bp : Nat) (S : Pool) (own : List Nat) (g : Nat) (σ : List Int) (al : Option Addr) (nl : Nat) (ol : List Nat) (ids : List Int) : Prop where
  live : Live w0 w bp S own
  since : Row w 3 1 (some ⟨g, 0, none⟩) 9 9 [g] (ints σ)
  list : Row w 30 1 al nl nl ol (u64s ids)
  g_new : w0.heap.size ≤ g
  ol_new : ∀ b ∈ ol, w0.heap.size ≤ b
  g_own : g ∉ own
  ol_own : ∀ b ∈ ol, b ∉ own
  g_ol : g ∉ ol
theorem Play.step {w0 w w' : World} {bp : Nat} {S : Pool} {own : List Nat} {g : Nat} {σ : List Int} {al : Option Addr} {nl : Nat} {ol : List Nat} {ids : List Int} (h : Play w0 w bp S own g σ al nl ol ids) (t : Touch [] w w') : Play w0 w' bp S own g σ al nl ol ids :=
  ⟨h.live.ids t, h.since.touch t (by simp), h.list.touch t (by simp), h.g_new, h.ol_new, h.g_own, h.ol_own, h.g_ol⟩
theorem Play.after {w0 w w' : World} {bp : Nat} {S S' : Pool} {own own' : List Nat} {g : Nat} {σ : List Int} {al : Option Addr} {nl : Nat} {ol : List Nat} {ids : List Int} (h : Play w0 w bp S own g σ al nl ol ids) (hr : Rep w' bp S' own') (t : Touch own w w') (ho : ∀ b ∈ own', b ∈ own ∨ w.heap.size ≤ b) : Play w0 w' bp S' own' g σ al nl ol ids := by
  obtain ⟨o, -, h1⟩ := h.live.after (v := .nilIface) ⟨own', rfl, hr, t, ho⟩
  refine ⟨⟨hr, h1.touch, fun b hb => ?_⟩, h.since.touch t (by simpa using h.g_own), h.list.touch t h.ol_own, h.g_new, h.ol_new, fun hb' => ?_, fun b hb hb' => ?_, h.g_ol⟩
  · rcases ho b hb with h' | h'
    · exact h.live.fresh b h'
    · exact Nat.le_trans h.live.touch.size h'
  · rcases ho g hb' with h' | h'
    · exact h.g_own h'
    · have := h.since.lt g (by simp); omega
  · rcases ho b hb' with h' | h'
    · exact h.ol_own b hb h'
    · have := h.list.lt b hb; omega
theorem Play.set {w0 w : World} {bp : Nat} {S : Pool} {own : List Nat} {g : Nat} {σ : List Int} {al : Option Addr} {nl : Nat} {ol : List Nat} {ids : List Int} (h : Play w0 w bp S own g σ al nl ol ids) (i : Nat) (hi : i < 9) (x : Int) : Play w0 (w.setCell ⟨g, i, none⟩ (.int .i64 x)) bp S own g (σ.set i x) al nl ol ids := by
  have t : Touch [g] w (w.setCell ⟨g, i, none⟩ (.int .i64 x)) := (Touch.refl _ _).setCell _ (by simp) _
  have h0 := h.since.set i (by omega) (.int .i64 x)
  rw [Nat.zero_add] at h0
  refine ⟨⟨h.live.rep.touch t (fun b hb => by simp; rintro rfl; exact h.g_own hb), h.live.touch.trans t (by simpa using h.g_new), h.live.fresh⟩, ?_, h.list.touch t (fun b hb => by simp; rintro rfl; exact h.g_ol hb), h.g_new, h.ol_new, h.g_own, h.ol_own, h.g_ol⟩
  unfold ints at h0 ⊢
  rwa [List.map_set]

set_option maxRecDepth 100000 in
set_option maxHeartbeats 3200000 in
theorem walk0 (w : World) (a0 a1 : Int) (aW : Option Addr) (nW cW : Nat) (zW : List Nat) (aP : Option Addr) (nP cP : Nat) (zP : List Nat) (hW : Floats w aW nW cW zW) (hP2 : Floats w aP nP cP zP) :
    Calls Try.prog 4 #[.int .i64 a0, .int .i64 a1, .slice aW nW cW, .slice aP nP cP] w fun e w' => e = .returned (.bool true) ∧ Touch [] w w' := by
  obtain ⟨m0, m1⟩ := PoolTurns.and_mask a0
  obtain ⟨m2, m3⟩ := PoolTurns.and_mask a1
  by_cases hb : 8 < nW ∨ 200 < nP
  · go_enter Try.func4, Try.ntmps4
    go_wp2_with (go_at_call 8; refine (alive_any _).mono ?_; rintro e w2 ⟨rfl, t2⟩)
    all_goals (go_ret; exact ⟨rfl, t2⟩)
  · have h1 : nW ≤ 8 := by omega
    have h2 : nP ≤ 200 := by omega
    clear hb
    go_enter Try.func4, Try.ntmps4
    go_wp2_with fail
    generalize hK : 1 + bits BinOp.and IntKind.i64 a0 65535 % 8 = K
    generalize hpt : 1 + bits BinOp.and IntKind.i64 a1 65535 % 20 = pat
    have k1 : 1 ≤ K := by omega
    have k2 : K ≤ 8 := by omega
    have k3 : 1 ≤ pat := by omega
    have k4 : pat ≤ 20 := by omega
    clear hK hpt m0 m1 m2 m3
    refine (new_live w w (Touch.refl _ _) K 0 pat k1 (by omega) (by decide) (by decide) k3 (by omega)).mono ?_
    rintro e w1 ⟨bp, o1, rfl, L1⟩
    go_wp2_with fail
    go_loopw [11] (fun i wr => ∃ k : Nat, k ≤ nW ∧ i = .int .i64 k ∧ Touch [] w wr ∧ Hid (∃ S own, Live w wr bp S own ∧ Adds S K pat k)) (fun i _ => nW - (intOf i).toNat)
    case atStart => exact ⟨0, by omega, rfl, L1.touch, _, _, L1, ⟨rfl, rfl, rfl, rfl, by simp⟩⟩
    case round =>
      obtain ⟨k, hk, rfl, t, S, own, hL, hS⟩ := hrel
      by_cases hlt : k < nW
      · obtain ⟨b, off, rfl, -, hb⟩ := (hW.touch t).at_ (by omega)
        have q1 := hb k hlt
        have hki : (k : Int) < (nW : Int) := by omega
        obtain ⟨x, hx⟩ : ∃ x, zW.getD k 0 = x := ⟨_, rfl⟩
        have hx64 : x < 18446744073709551616 := hW.wf x (by rw [← hx]; have := hW.len; simp [List.getD, show k < zW.length by omega])
        rw [hx] at q1
        have C := add_live hL ((k : Int) + 1) x (by omega) (by omega) hx64
        have CC := Lib.hid C
        have HS := Lib.hid (hS.add x)
        have HX := Lib.hid hx64
        clear C hb hx hx64 hL hS t
        go_wp2_with fail
        refine CC.out.mono ?_
        rintro e w2 ⟨own', rfl, hL2⟩
        have T2 := Lib.hid hL2.touch
        go_wp2_with fail
        go_roundw
        case rel => exact ⟨k + 1, by omega, by go_num, T2.out, _, own', hL2, HS.out⟩
        case measure => simp [intOf]; omega
      · obtain rfl : k = nW := by omega
        obtain ⟨hF, hnd, hrg, hfl⟩ := hS.fine h1 k3 hL.rep.1
        have C := runnable_any wr bp S own hL.rep
        rw [hfl] at C
        obtain ⟨ids, hids⟩ : ∃ ids, idsOf S.work = ids := ⟨_, rfl⟩
        rw [hids] at C hF hnd hrg
        have CC := Lib.hid C
        have hage : ∀ a ∈ agesOf S.work, a = 0 := by
          intro a ha
          obtain ⟨t, ht, rfl⟩ := List.mem_map.1 ha
          exact (hS.run t ht).2.1
        have HG := Lib.hid hage
        clear C hfl hS hids hage
        go_wp2_with fail
        refine CC.out.mono ?_
        rintro e w2 ⟨al, nl, ol, rfl, hrl, t2, hol⟩
        have hnl : nl ≤ 8 := by
          have h1 := hrl.1
          have h2 := hF.len
          have h3 := congrArg List.length hF.ids
          simp [u64s, idsOf] at h1 h3
          omega
        have hL2 := hL.ids t2
        have T2 := Lib.hid t2
        clear t2 t
        have hmk : ∀ w : World, (Instr.makeSlice 36 (.int .i64 9) (.int .i64 9)).run Try.prog w = .ok (.slice (some ⟨w.heap.size, 0, none⟩) 9 9) (w.alloc (.cells #[.int .i64 0, .int .i64 0, .int .i64 0, .int .i64 0, .int .i64 0, .int .i64 0, .int .i64 0, .int .i64 0, .int .i64 0] 3)) := fun _ => by kernel_rfl
        go_wp2_with fail
        clear hmk
        have hlt2 := hL2.rep.lt
        have hrow0 := Row.lit w2 3 1 (ints [0, 0, 0, 0, 0, 0, 0, 0, 0]) 9 rfl (by decide)
        have hP0 : Play w _ bp S own w2.heap.size [0, 0, 0, 0, 0, 0, 0, 0, 0] al nl ol ids := ⟨hL2.ids ((Touch.refl [] w2).alloc _), hrow0, hrl.alloc _, hL2.touch.size, fun b hb => Nat.le_trans hL.touch.size (hol b hb), fun h => by have := hlt2 _ h; omega, fun b hb h => by have := hL.rep.lt b h; have := hol b hb; omega, fun h => by have := hrl.lt _ h; omega⟩
        have hSi : Since [0, 0, 0, 0, 0, 0, 0, 0, 0] ids (agesOf S.work) := by
          refine ⟨rfl, fun k hk => ?_⟩
          have e : ([0, 0, 0, 0, 0, 0, 0, 0, 0] : List Int).getD k 0 = 0 := by
            match k, hk with
            | 0, _ | 1, _ | 2, _ | 3, _ | 4, _ | 5, _ | 6, _ | 7, _ | 8, _ => rfl
          rw [e]
          split
          · rename_i j _
            have := HG.out
            simp only [List.getD]
            cases hg : (agesOf S.work)[j]? with
            | none => rfl
            | some a => exact (this a (List.mem_iff_getElem?.2 ⟨j, hg⟩)).symm
          · rfl
        go_loopw [14] (fun i wr => ∃ k : Nat, k ≤ nP ∧ i = .int .i64 k ∧ Touch [] w wr ∧ Hid (∃ S own σ, Play w wr bp S own w2.heap.size σ al nl ol ids ∧ Fine S K pat ids ∧ Since σ ids (agesOf S.work))) (fun i _ => nP - (intOf i).toNat)
        case atStart => exact ⟨0, by omega, rfl, hP0.live.touch, S, own, _, hP0, hF, hSi⟩
        case round =>
          generalize hgg : w2.heap.size = g at hrel ⊢
          clear hgg
          clear hP0 hSi hF hL hL2 hrow0 hlt2 HG hrl hol CC
          obtain ⟨k, hk, rfl, t, S, own, σ, hP, hF, hSi⟩ := hrel
          by_cases hlt : k < nP
          · obtain ⟨b, off, rfl, -, hb⟩ := (hP2.touch t).at_ (by omega)
            have q1 := hb k hlt
            have hki : (k : Int) < (nP : Int) := by omega
            obtain ⟨x, hx⟩ : ∃ x, zP.getD k 0 = x := ⟨_, rfl⟩
            rw [hx] at q1
            have C := pick_any wr bp S own hP.live.rep x
            have HP := Lib.hid hP
            have HF := Lib.hid hF
            have HSi := Lib.hid hSi
            have hidl := hF.ids
            clear hb hx
            by_cases hok : okX x = true
            case neg =>
              have e : S.pick x = (0, 2, S) := by unfold Pool.pick; rw [if_pos (by simpa using hok)]
              rw [e] at C
              have CC := Lib.hid C
              clear C e hok hP hF hSi t hidl
              go_wp2_with fail
              refine CC.out.mono ?_
              rintro e w3 ⟨own', rfl, hr, ht, ho⟩
              have hP3 := HP.out.after hr ht ho
              clear hr ht ho
              go_wp2_with fail
              go_roundw
              case rel => exact ⟨k + 1, by omega, by go_num, hP3.live.touch, S, own', σ, hP3, HF.out, HSi.out⟩
              case measure => simp [intOf]; omega
            by_cases hw0 : S.work = []
            · have e : S.pick x = (0, 5, S) := by
                unfold Pool.pick
                rw [if_neg (by rw [hok]; decide), if_pos (by unfold runIdx runTo; rw [hw0]; rfl)]
              have hn0 : nl = 0 := by
                have h1 := hP.list.1
                rw [← hidl, hw0] at h1
                simpa [u64s, idsOf] using h1.symm
              rw [e] at C
              have CC := Lib.hid C
              clear C e hok hP hF hSi t hidl hw0
              subst hn0
              go_wp2_with fail
              refine CC.out.mono ?_
              rintro e w3 ⟨own', rfl, hr, ht, ho⟩
              have hP3 := HP.out.after hr ht ho
              clear hr ht ho
              go_wp2_with fail
              go_roundw
              case rel => exact ⟨k + 1, by omega, by go_num, hP3.live.touch, S, own', σ, hP3, HF.out, HSi.out⟩
              case measure => simp [intOf]; omega
            · obtain ⟨j, hj, f1, f2, f3, f4⟩ := hF.pick k3 k2 k4 x hok hw0
              rw [f1, f2] at C
              obtain ⟨S', hS'⟩ : ∃ S', (S.pick x).2.2 = S' := ⟨_, rfl⟩
              rw [hS'] at C f3 f4
              obtain ⟨id, hid⟩ : ∃ id, ids.getD j 0 = id := ⟨_, rfl⟩
              rw [hid] at C
              have hmem : id ∈ ids := by rw [← hid]; simp [List.getD, hj]
              obtain ⟨id1, id8⟩ := hrg id hmem
              have hlen : ids.length = nl := by have := hP.list.1; simpa [u64s] using this
              have hal : (agesOf S.work).length = ids.length := by rw [← hidl]; simp [agesOf, idsOf]
              have hS2 := hSi.step hnd hrg hal j hj
              rw [← f4, hid] at hS2
              have hal' : (agesOf S'.work).length = ids.length := by rw [f4]; simp [hal]
              have hbd := hS2.bound hal' (b := pat + K) (by omega) (by
                intro a ha
                have h1 := f3.fair.bound a ha
                have h2 : (agesOf S'.work).length = S'.work.length := by simp [agesOf]
                have h3 := f3.len
                omega)
              have hsb := fun m : Nat => (sinceTo_get (ids.take m) (hnd.sublist (List.take_sublist _ _)) (fun i hi => hrg i (List.mem_of_mem_take hi)) σ hSi.1)
              have hs40 : ∀ m i : Nat, i < 9 → -100 ≤ (sinceTo σ (ids.take m)).getD i 0 ∧ (sinceTo σ (ids.take m)).getD i 0 ≤ 100 := by
                intro m i hi
                have h0 := (hsb m).2 i hi
                have h1 := hSi.bound hal (b := 40) (by decide) (by
                  intro a ha
                  have h1 := hF.fair.bound a ha
                  have h2 : (agesOf S.work).length = S.work.length := by simp [agesOf]
                  have h3 := hF.len
                  omega) i hi
                have h2 : 0 ≤ σ.getD i 0 := by
                  rw [hSi.2 i hi]
                  split
                  · rename_i j' hj'
                    simp only [List.getD]
                    cases hg : (agesOf S.work)[j']? with
                    | none => exact Int.le_refl _
                    | some a =>
                      obtain ⟨u, hu, rfl⟩ := List.mem_map.1 (List.mem_iff_getElem?.2 ⟨j', hg⟩)
                      exact hF.age u hu
                  · exact Int.le_refl _
                rw [h0]
                split <;> omega
              have CC := Lib.hid C
              have HB := Lib.hid hbd
              have HS2 := Lib.hid hS2
              have HF3 := Lib.hid f3
              have H40 := Lib.hid hs40
              have HLEN := Lib.hid hlen
              have HSB := Lib.hid hsb
              have HMEM := Lib.hid hmem
              have hid9 : id.toNat < 9 := by omega
              have hnid : (id == 0) = false := beq_eq_false_iff_ne.2 (by omega)
              clear C hok hP hF hSi t hidl hw0 f1 f2 f3 f4 hS' hbd hS2 hs40 hlen hsb hal hal' hmem hj hid
              go_wp2_with fail
              refine CC.out.mono ?_
              rintro e w3 ⟨own', rfl, hr, ht, ho⟩
              have hP3 := HP.out.after hr ht ho
              clear hr ht ho
              go_wp2_with fail
              go_loopw [18, 17] (fun i b wr => ∃ m : Nat, m ≤ nl ∧ i = .int .i64 m ∧ b = .bool (decide (id ∈ ids.take m)) ∧ Hid (Play w wr bp S' own' g (sinceTo σ (ids.take m)) al nl ol ids)) (fun i _ _ => nl - (intOf i).toNat)
              case atStart => exact ⟨0, by omega, rfl, by simp, hP3⟩
              case round =>
                obtain ⟨m, hm, rfl, rfl, hP4⟩ := hrel
                by_cases hlt2 : m < nl
                · obtain ⟨ba, offa, cur, rfl, rfl, -⟩ := (Play.list hP4).form (by omega)
                  have q2 := (Play.list hP4).one m hlt2
                  obtain ⟨y, hy⟩ : ∃ y, ids.getD m 0 = y := ⟨_, rfl⟩
                  rw [hy] at q2
                  have hmi : (m : Int) < (nl : Int) := by omega
                  have hml : m < ids.length := by rw [HLEN.out]; exact hlt2
                  obtain ⟨y1, y8⟩ := hrg y (by rw [← hy]; simp [List.getD, hml])
                  have y9 : y.toNat < 9 := by omega
                  obtain ⟨v, hv⟩ : ∃ v, (sinceTo σ (ids.take m)).getD y.toNat 0 = v := ⟨_, rfl⟩
                  obtain ⟨v1, v2⟩ := H40.out m y.toNat y9
                  rw [hv] at v1 v2
                  have q3 := (Play.since hP4).one y.toNat y9
                  rw [hv, Nat.zero_add] at q3
                  have q4 := (Play.since hP4).frozen (by decide) y.toNat
                  have hstep : sinceTo σ (ids.take (m + 1)) = (sinceTo σ (ids.take m)).set y.toNat (v + 1) := by
                    unfold sinceTo at hv ⊢
                    rw [List.take_add_one, List.foldl_append, List.getElem?_eq_getElem hml]
                    have e : ids[m] = y := by simpa [List.getD, hml] using hy
                    simp only [Option.toList_some, List.foldl_cons, List.foldl_nil, sinceStep, e, hv]
                  have hin : decide (id ∈ ids.take (m + 1)) = (decide (id ∈ ids.take m) || (y == id)) := by
                    rw [List.take_add_one, List.getElem?_eq_getElem hml]
                    have e : ids[m] = y := by simpa [List.getD, hml] using hy
                    rw [Bool.eq_iff_iff]
                    simp only [Option.toList_some, List.mem_append, List.mem_singleton, decide_eq_true_eq, Bool.or_eq_true, beq_iff_eq, e]
                    constructor <;> rintro (h | h) <;> first | exact .inl h | exact .inr h.symm
                  have HST := Lib.hid hstep
                  have HIN := Lib.hid hin
                  have HP4 := Lib.hid hP4
                  have yl : y ≤ 8 := y8
                  have q5 : ∀ X, (wr.setCell ⟨g, y.toNat, none⟩ X).cell? ⟨ba, offa + m, none⟩ = some (.int .u64 y) := fun X => (((Touch.refl [g] wr).setCell ⟨g, y.toNat, none⟩ (by simp) X).cell (p := ⟨ba, offa + m, none⟩) ((Play.list hP4).lt ba (by simp)) (by have := Play.g_ol hP4; simp at this ⊢; exact fun e => this e.symm)).trans q2
                  clear hy hv hstep hin hP4 hml
                  cases hd : decide (id ∈ ids.take m)
                  · go_wp2
                    go_roundw
                    case rel => exact ⟨m + 1, by omega, by go_num, by rw [HIN.out, hd]; rfl, by rw [HST.out]; exact HP4.out.set _ y9 _⟩
                    case measure => simp [intOf]; omega
                  · clear q5
                    go_wp2
                    go_roundw
                    case rel => exact ⟨m + 1, by omega, by go_num, by rw [HIN.out, hd]; rfl, by rw [HST.out]; exact HP4.out.set _ y9 _⟩
                    case measure => simp [intOf]; omega
                · obtain rfl : m = nl := by omega
                  have htk : ids.take m = ids := List.take_of_length_le (by rw [HLEN.out]; exact Nat.le_refl _)
                  rw [htk] at hP4
                  have hd : decide (id ∈ ids.take m) = true := by rw [htk]; exact decide_eq_true HMEM.out
                  have q4 := (Play.since hP4).frozen (by decide) id.toNat
                  have q3 := (Play.since hP4).one id.toNat hid9
                  rw [Nat.zero_add] at q3
                  obtain ⟨v, hv⟩ : ∃ v, (sinceTo σ ids).getD id.toNat 0 = v := ⟨_, rfl⟩
                  rw [hv] at q3
                  have hid8 : id ≤ 8 := id8
                  have HP4 := Lib.hid hP4
                  clear htk hP4 hv hlt2
                  go_wp2_with fail
                  have hP5 := HP4.out.set id.toNat hid9 0
                  generalize hw5 : wr.setCell ⟨g, id.toNat, none⟩ (.int .i64 0) = w5 at hP5 ⊢
                  have HP5 := Lib.hid hP5
                  clear hw5 hP5 q3 q4
                  go_loop [19] (fun i => ∃ q : Nat, q ≤ 9 ∧ i = .int .i64 q) (fun i => 9 - (intOf i).toNat)
                  case atStart => exact ⟨0, by omega, rfl⟩
                  case round =>
                    obtain ⟨q, hq, rfl⟩ := hrel
                    by_cases hlt3 : q < 9
                    · have q3 := HP5.out.since.one q hlt3
                      rw [Nat.zero_add] at q3
                      obtain ⟨v, hv⟩ : ∃ v, ((sinceTo σ ids).set id.toNat 0).getD q 0 = v := ⟨_, rfl⟩
                      have hvb := HB.out q hlt3
                      rw [hv] at q3 hvb
                      have hqi : (q : Int) < 9 := by omega
                      have hno : ¬ (pat + K < v) := by omega
                      clear hv
                      go_wp2
                      go_round
                      case rel => exact ⟨q + 1, by omega, by go_num⟩
                      case measure => simp [intOf]; omega
                    · obtain rfl : q = 9 := by omega
                      go_wp2_with fail
                      go_roundw
                      case rel => exact ⟨k + 1, by omega, by go_num, HP5.out.live.touch, S', own', _, HP5.out, HF3.out, HS2.out⟩
                      case measure => simp [intOf]; omega
          · obtain rfl : k = nP := by omega
            have C := Lib.hid (runnable_any wr bp S own hP.live.rep)
            have HF := Lib.hid hF
            have HP := Lib.hid hP
            have T := Lib.hid t
            clear hP hF hSi t
            go_wp2_with fail
            refine C.out.mono ?_
            rintro e w3 ⟨a3, n3, o3, rfl, hr3, t3, ho3⟩
            have hf : (S.work.filter fun t => !t.blk) = S.work := by
              rw [List.filter_eq_self]
              intro t ht
              rw [HF.out.run t ht]; rfl
            rw [hf, HF.out.ids] at hr3
            have N1 := Lib.hid (Nums.ofRow hr3)
            have N2 := Lib.hid (Nums.ofRow (HP.out.list.touch t3 (by simp)))
            have T3 := Lib.hid (T.out.trans' t3)
            clear hr3 t3 ho3 hf
            go_wp2_with fail
            refine (idsEq_any _ _ _ _ _ _ _ _ _ N1.out N2.out).mono ?_
            rw [show decide (ids = ids) = true from decide_eq_true rfl]
            rintro e w4 ⟨rfl, t4⟩
            go_wp2_with (go_at_call 8; refine (alive_any _).mono ?_; rintro e w5 ⟨rfl, t5⟩)
            go_ret
            exact ⟨rfl, (T3.out.trans' t4).trans' t5⟩

theorem walk (a0 a1 : Int) (aW : Option Addr) (nW cW : Nat) (zW : List Nat) (aP : Option Addr) (nP cP : Nat) (zP : List Nat) (w : World) (_ : (Lit.int .i64 a0).wf = true) (_ : (Lit.int .i64 a1).wf = true) (hW : Floats w aW nW cW zW) (hP : Floats w aP nP cP zP) :
    Calls Try.prog 4 #[.int .i64 a0, .int .i64 a1, .slice aW nW cW, .slice aP nP cP] w fun e w' => e = .returned (.bool true) ∧ Below w.heap.size w w' :=
  (walk0 w a0 a1 aW nW cW zW aP nP cP zP hW hP).mono fun _ _ ⟨he, ht⟩ => ⟨he, ht.toBelow (Nat.le_refl _) (by simp)⟩
end Go.Proofs.Ytaendccnjiagiaa.PoolFair
