/-
  The digest in plain words: lists of numbers.
-/
import Derived.Test.YtodehmognjofhaaGreatQNA
import Derived.Test.YtodehmognjofhaaGreatQEE
namespace Go.Proofs.YtodehmognjofhaaGreat
open Go.RowKit

def Bytes (l : List Nat) : Prop := ∀ x ∈ l, x < 256
def Words (l : List Nat) : Prop := ∀ x ∈ l, x < 4294967296
theorem getD_lt {l : List Nat} {B : Nat} (h : ∀ x ∈ l, x < B) (hB : 0 < B) (k : Nat) : l.getD k 0 < B := by
  rcases Nat.lt_or_ge k l.length with g | g
  · exact h _ (getD_mem g)
  · rw [List.getD_eq_getElem?_getD, List.getElem?_eq_none g]
    exact hB
/-- the word of four bytes. -/
def wd (a b c d : Nat) : Nat := a * 16777216 + b * 65536 + c * 256 + d
def wordAt (l : List Nat) (i : Nat) : Nat := wd (l.getD (4 * i) 0) (l.getD (4 * i + 1) 0) (l.getD (4 * i + 2) 0) (l.getD (4 * i + 3) 0)
theorem wordAt_lt {l : List Nat} (h : Bytes l) (i : Nat) : wordAt l i < 4294967296 := by
  unfold wordAt wd
  have h1 := getD_lt h (by decide) (4 * i)
  have h2 := getD_lt h (by decide) (4 * i + 1)
  have h3 := getD_lt h (by decide) (4 * i + 2)
  have h4 := getD_lt h (by decide) (4 * i + 3)
  omega
def w16 (l : List Nat) (k : Nat) : List Nat := (List.range k).map (wordAt l)
theorem w16_len (l : List Nat) (k : Nat) : (w16 l k).length = k := by simp [w16]
theorem w16_succ (l : List Nat) (k : Nat) : w16 l (k + 1) = w16 l k ++ [wordAt l k] := by unfold w16; rw [List.range_succ, List.map_append]; rfl
def ws (l : List Nat) : Nat → List Nat
  | 0 => w16 l 16
  | n + 1 => ws l n ++ [nextW (ws l n)]
theorem ws_len (l : List Nat) : ∀ n, (ws l n).length = 16 + n
  | 0 => w16_len l 16
  | n + 1 => by simp [ws, ws_len l n]; omega
theorem ws_lt {l : List Nat} (h : Bytes l) : ∀ n, Words (ws l n)
  | 0, x, hx => by
    unfold ws w16 at hx
    obtain ⟨k, -, rfl⟩ := List.mem_map.1 hx
    exact wordAt_lt h k
  | n + 1, x, hx => by
    unfold ws at hx
    rcases List.mem_append.1 hx with g | g
    · exact ws_lt h n x g
    · simp at g
      subst g
      exact Nat.mod_lt _ (by decide)

/-- the eight words within a block. -/
structure W8 where
  a : Nat
  b : Nat
  c : Nat
  d : Nat
  e : Nat
  f : Nat
  g : Nat
  h : Nat
def S0 (x : Nat) : Nat := (rot x 2 ^^^ rot x 13) ^^^ rot x 22
def S1 (x : Nat) : Nat := (rot x 6 ^^^ rot x 11) ^^^ rot x 25
def chF (e f g : Nat) : Nat := (e &&& f) ^^^ ((4294967295 - e) &&& g)
def majF (a b c : Nat) : Nat := ((a &&& b) ^^^ (a &&& c)) ^^^ (b &&& c)
def W8.t (s : W8) (k x : Nat) : Nat := (s.h + S1 s.e + chF s.e s.f s.g + k + x) % 4294967296
def W8.u (s : W8) : Nat := (S0 s.a + majF s.a s.b s.c) % 4294967296
def W8.step (s : W8) (k x : Nat) : W8 := ⟨(s.t k x + s.u) % 4294967296, s.a, s.b, s.c, (s.d + s.t k x) % 4294967296, s.e, s.f, s.g⟩
structure W8.Ok (s : W8) : Prop where
  a : s.a < 4294967296
  b : s.b < 4294967296
  c : s.c < 4294967296
  d : s.d < 4294967296
  e : s.e < 4294967296
  f : s.f < 4294967296
  g : s.g < 4294967296
  h : s.h < 4294967296
theorem W8.Ok.step {s : W8} (o : s.Ok) (k x : Nat) : (s.step k x).Ok := ⟨Nat.mod_lt _ (by decide), o.a, o.b, o.c, Nat.mod_lt _ (by decide), o.e, o.f, o.g⟩
def W8.of (l : List Nat) : W8 := ⟨l.getD 0 0, l.getD 1 0, l.getD 2 0, l.getD 3 0, l.getD 4 0, l.getD 5 0, l.getD 6 0, l.getD 7 0⟩
def W8.list (s : W8) : List Nat := [s.a, s.b, s.c, s.d, s.e, s.f, s.g, s.h]
theorem W8.ok_of {l : List Nat} (h : Words l) : (W8.of l).Ok := ⟨getD_lt h (by decide) _, getD_lt h (by decide) _, getD_lt h (by decide) _, getD_lt h (by decide) _, getD_lt h (by decide) _, getD_lt h (by decide) _, getD_lt h (by decide) _, getD_lt h (by decide) _⟩
def rnds (ks xs : List Nat) : Nat → W8 → W8
  | 0, s => s
  | n + 1, s => (rnds ks xs n s).step (ks.getD n 0) (xs.getD n 0)
theorem rnds_ok (ks xs : List Nat) : ∀ n {s : W8}, s.Ok → (rnds ks xs n s).Ok
  | 0, _, o => o
  | n + 1, _, o => (rnds_ok ks xs n o).step _ _
def addW (v x : List Nat) : List Nat := List.zipWith (fun a b => (a + b) % 4294967296) v x
/-- the constants. -/
def KS : List Nat := (ps 312).map cuR
def VS : List Nat := ((ps 312).take 8).map sqR
/-- a block's words: v behind a part of 64 bytes. -/
def blockF (v l : List Nat) : List Nat := addW v (rnds KS (ws l 48) 64 (W8.of v)).list
theorem addW_lt (v x : List Nat) : Words (addW v x) := by
  intro y hy
  unfold addW at hy
  rw [List.mem_iff_getElem?] at hy
  obtain ⟨i, hi⟩ := hy
  rw [List.getElem?_zipWith] at hi
  split at hi
  · cases hi; exact Nat.mod_lt _ (by decide)
  · cases hi
theorem blockF_len (v l : List Nat) (h : v.length = 8) : (blockF v l).length = 8 := by unfold blockF addW; rw [List.length_zipWith, h]; rfl
theorem cuR_lt (p : Nat) : cuR p < 4294967296 := Nat.mod_lt _ (by decide)
theorem sqR_lt (p : Nat) : sqR p < 4294967296 := Nat.mod_lt _ (by decide)
theorem KS_lt : Words KS := by intro x hx; obtain ⟨p, -, rfl⟩ := List.mem_map.1 hx; exact cuR_lt p
theorem VS_lt : Words VS := by intro x hx; obtain ⟨p, -, rfl⟩ := List.mem_map.1 hx; exact sqR_lt p
theorem KS_len : KS.length = 64 := by unfold KS; rw [List.length_map, ps_312]
theorem VS_len : VS.length = 8 := by unfold VS; rw [List.length_map, List.length_take, ps_312]; rfl
theorem tab_end : tabW (ps 312) = VS ++ KS := by
  unfold tabW
  have h1 : padn 8 (((ps 312).take 8).map sqR) = VS := by
    show padn 8 VS = VS
    unfold padn
    rw [VS_len]
    simp
  have h2 : padn 64 ((ps 312).map cuR) = KS := by
    show padn 64 KS = KS
    unfold padn
    rw [KS_len]
    simp
  rw [h1, h2]

/-- bytes as cells. -/
def bcells (l : List Nat) : List Value := l.map fun (x : Nat) => Value.int .u8 x
theorem bcells_len (l : List Nat) : (bcells l).length = l.length := List.length_map _
theorem bcells_get {l : List Nat} {k x : Nat} (h : l[k]? = some x) : (bcells l)[k]? = some (.int .u8 x) := by unfold bcells; rw [List.getElem?_map, h]; rfl
theorem bcells_set (l : List Nat) (k x : Nat) : (bcells l).set k (.int .u8 x) = bcells (l.set k x) := by unfold bcells; rw [← List.map_set]
theorem bcells_append (l m : List Nat) : bcells (l ++ m) = bcells l ++ bcells m := List.map_append
/-- or is and, where the bits are apart. -/
theorem shl8_or (x b : Nat) (hb : b < 256) : (x * 256) ||| b = x * 256 + b := by
  have := Nat.two_pow_add_eq_or_of_lt (i := 8) (b := b) hb x
  rw [Nat.mul_comm x 256]
  exact this.symm
end Go.Proofs.YtodehmognjofhaaGreat

namespace Go.Proofs.YtodehmognjofhaaGreat
open Go.RowKit

/-- what a term comes to. -/
def D (ρ : Pl) (k : IntKind) (x : SV) (n : Nat) : Prop := den ρ x = some (.int k (n : Int))
theorem wrapU32 (n : Nat) : IntKind.u32.wrap (n : Int) = ((n % 4294967296 : Nat) : Int) := by rw [IntKind.wrap_u32']; simp
theorem wrapU8 (n : Nat) : IntKind.u8.wrap (n : Int) = ((n % 256 : Nat) : Int) := by simp [IntKind.wrap, IntKind.signed, IntKind.bits]
theorem bv32 (a : Nat) : (BitVec.ofInt 32 (a : Int)).toNat = a % 4294967296 := by rw [BitVec.ofInt_natCast]; simp
theorem bv8 (a : Nat) : (BitVec.ofInt 8 (a : Int)).toNat = a % 256 := by rw [BitVec.ofInt_natCast]; simp
def modK : IntKind → Nat
  | .u8 => 256
  | .u32 => 4294967296
  | _ => 0
theorem D.lit (ρ : Pl) (k : IntKind) (n : Nat) : D ρ k (.int k (.ofNat n)) n := den_int _ _ _
section
variable {ρ : Pl} {x y : SV} {a b : Nat}
theorem D.add32 (hx : D ρ .u32 x a) (hy : D ρ .u32 y b) : D ρ .u32 (.ar .add .u32 x y) ((a + b) % 4294967296) := by
  unfold D den
  rw [hx, hy, ar2_mk]
  show some (Value.int .u32 (IntKind.u32.wrap ((a : Int) + b))) = _
  rw [← Int.natCast_add, wrapU32]
theorem D.xor32 (hx : D ρ .u32 x a) (hy : D ρ .u32 y b) (ha : a < 4294967296) (hb : b < 4294967296) : D ρ .u32 (.ar .xor .u32 x y) (a ^^^ b) := by
  unfold D den
  rw [hx, hy, ar2_mk]
  show some (Value.int .u32 (IntKind.u32.wrap (((BitVec.ofInt 32 (a : Int)) ^^^ (BitVec.ofInt 32 (b : Int))).toNat : Int))) = _
  rw [BitVec.toNat_xor, bv32, bv32, Nat.mod_eq_of_lt ha, Nat.mod_eq_of_lt hb, wrapU32, Nat.mod_eq_of_lt (Nat.xor_lt_two_pow (n := 32) ha hb)]
theorem D.and32 (hx : D ρ .u32 x a) (hy : D ρ .u32 y b) (ha : a < 4294967296) (hb : b < 4294967296) : D ρ .u32 (.ar .and .u32 x y) (a &&& b) := by
  unfold D den
  rw [hx, hy, ar2_mk]
  show some (Value.int .u32 (IntKind.u32.wrap (((BitVec.ofInt 32 (a : Int)) &&& (BitVec.ofInt 32 (b : Int))).toNat : Int))) = _
  rw [BitVec.toNat_and, bv32, bv32, Nat.mod_eq_of_lt ha, Nat.mod_eq_of_lt hb, wrapU32, Nat.mod_eq_of_lt (Nat.and_lt_two_pow (n := 32) a hb)]
theorem D.or32 (hx : D ρ .u32 x a) (hy : D ρ .u32 y b) (ha : a < 4294967296) (hb : b < 4294967296) : D ρ .u32 (.ar .or .u32 x y) (a ||| b) := by
  unfold D den
  rw [hx, hy, ar2_mk]
  show some (Value.int .u32 (IntKind.u32.wrap (((BitVec.ofInt 32 (a : Int)) ||| (BitVec.ofInt 32 (b : Int))).toNat : Int))) = _
  rw [BitVec.toNat_or, bv32, bv32, Nat.mod_eq_of_lt ha, Nat.mod_eq_of_lt hb, wrapU32, Nat.mod_eq_of_lt (Nat.or_lt_two_pow (n := 32) ha hb)]
theorem D.shr32 (hx : D ρ .u32 x a) {n : Nat} (hn : n ≤ 32) : D ρ .u32 (.sh .shr .u32 x n) (a / 2 ^ n) := by
  unfold D den
  rw [hx, shD_mk]
  show some (Value.int .u32 (Int.fdiv (a : Int) (.ofNat (Nat.pow 2 (min n 32))))) = _
  rw [Nat.min_eq_left hn]
  congr 2
  show Int.fdiv (a : Int) (((2 ^ n : Nat)) : Int) = _
  rw [Int.fdiv_eq_ediv_of_nonneg _ (Int.natCast_nonneg _)]
  simp
theorem D.shl32 (hx : D ρ .u32 x a) {n : Nat} (hn : n ≤ 32) : D ρ .u32 (.sh .shl .u32 x n) (a * 2 ^ n % 4294967296) := by
  unfold D den
  rw [hx, shD_mk]
  show some (Value.int .u32 (IntKind.u32.wrap (Int.mul (a : Int) (.ofNat (Nat.pow 2 (min n 32)))))) = _
  rw [Nat.min_eq_left hn]
  have e : Int.mul (a : Int) (.ofNat (Nat.pow 2 n)) = ((a * 2 ^ n : Nat) : Int) := by
    show (a : Int) * ((2 ^ n : Nat) : Int) = _
    rw [← Int.natCast_mul]
  rw [e, wrapU32]
theorem D.cv32 {k : IntKind} (hx : D ρ k x a) (ha : a < 4294967296) : D ρ .u32 (.cv .u32 x) a := by
  unfold D den
  rw [hx]
  show some (Value.int .u32 (IntKind.u32.wrap (a : Int))) = _
  rw [wrapU32, Nat.mod_eq_of_lt ha]
theorem D.xor8 (hx : D ρ .u8 x a) (hy : D ρ .u8 y b) (ha : a < 256) (hb : b < 256) : D ρ .u8 (.ar .xor .u8 x y) (a ^^^ b) := by
  unfold D den
  rw [hx, hy, ar2_mk]
  show some (Value.int .u8 (IntKind.u8.wrap (((BitVec.ofInt 8 (a : Int)) ^^^ (BitVec.ofInt 8 (b : Int))).toNat : Int))) = _
  rw [BitVec.toNat_xor, bv8, bv8, Nat.mod_eq_of_lt ha, Nat.mod_eq_of_lt hb, wrapU8, Nat.mod_eq_of_lt (Nat.xor_lt_two_pow (n := 8) ha hb)]
theorem D.mul8 (hx : D ρ .u8 x a) (hy : D ρ .u8 y b) : D ρ .u8 (.ar .mul .u8 x y) (a * b % 256) := by
  unfold D den
  rw [hx, hy, ar2_mk]
  show some (Value.int .u8 (IntKind.u8.wrap ((a : Int) * b))) = _
  rw [← Int.natCast_mul, wrapU8]
theorem D.shr8 (hx : D ρ .u8 x a) {n : Nat} (hn : n ≤ 8) : D ρ .u8 (.sh .shr .u8 x n) (a / 2 ^ n) := by
  unfold D den
  rw [hx, shD_mk]
  show some (Value.int .u8 (Int.fdiv (a : Int) (.ofNat (Nat.pow 2 (min n 8))))) = _
  rw [Nat.min_eq_left hn]
  congr 2
  show Int.fdiv (a : Int) (((2 ^ n : Nat)) : Int) = _
  rw [Int.fdiv_eq_ediv_of_nonneg _ (Int.natCast_nonneg _)]
  simp
theorem D.shl8 (hx : D ρ .u8 x a) {n : Nat} (hn : n ≤ 8) : D ρ .u8 (.sh .shl .u8 x n) (a * 2 ^ n % 256) := by
  unfold D den
  rw [hx, shD_mk]
  show some (Value.int .u8 (IntKind.u8.wrap (Int.mul (a : Int) (.ofNat (Nat.pow 2 (min n 8)))))) = _
  rw [Nat.min_eq_left hn]
  have e : Int.mul (a : Int) (.ofNat (Nat.pow 2 n)) = ((a * 2 ^ n : Nat) : Int) := by
    show (a : Int) * ((2 ^ n : Nat) : Int) = _
    rw [← Int.natCast_mul]
  rw [e, wrapU8]
theorem D.tab8 (hx : D ρ .u8 x a) {l : List Nat} (ha : a < l.length) (hl : ∀ z ∈ l, z < 256) : D ρ .u8 (.tab l x) (l.getD a 0) := by
  unfold D den
  rw [hx, tabD_mk (by omega) (by simpa using ha)]
  have : l.getD a 0 < 256 := by
    rw [List.getD_eq_getElem?_getD, List.getElem?_eq_getElem ha]
    exact hl _ (List.getElem_mem ha)
  simp only [Int.toNat_natCast]
  rw [Nat.mod_eq_of_lt this]
theorem D.sym {k : IntKind} {i : Nat} (h : ρ.val i = some (.int k (a : Int))) (hw : k.wrap (a : Int) = (a : Int)) : D ρ k (.sym (.int k) i) a := by
  unfold D den
  rw [h]
  exact symD_mk (by simp [SK.is, hw])
theorem D.sym32 {i : Nat} (h : ρ.val i = some (.int .u32 (a : Int))) (ha : a < 4294967296) : D ρ .u32 (.sym (.int .u32) i) a := D.sym h (by rw [wrapU32, Nat.mod_eq_of_lt ha])
theorem D.sym8 {i : Nat} (h : ρ.val i = some (.int .u8 (a : Int))) (ha : a < 256) : D ρ .u8 (.sym (.int .u8) i) a := D.sym h (by rw [wrapU8, Nat.mod_eq_of_lt ha])
end
theorem is32 {a : Nat} (ha : a < 4294967296) : (SK.int .u32).is (.int .u32 (a : Int)) = true := by simp [SK.is, wrapU32, Nat.mod_eq_of_lt ha]
theorem is8 {a : Nat} (ha : a < 256) : (SK.int .u8).is (.int .u8 (a : Int)) = true := by simp [SK.is, wrapU8, Nat.mod_eq_of_lt ha]
theorem compl32 (e : Nat) (h : e < 4294967296) : 4294967295 ^^^ e = 4294967295 - e := by
  have h1 : (4294967295 : Nat) = 2 ^ 32 - 1 := by decide
  rw [h1]
  apply Nat.eq_of_testBit_eq
  intro i
  rw [Nat.testBit_xor, Nat.testBit_two_pow_sub_one, show 2 ^ 32 - 1 - e = 2 ^ 32 - (e + 1) by omega, Nat.testBit_two_pow_sub_succ (by simpa using h)]
  by_cases hi : i < 32
  · simp [hi]
  · have : e.testBit i = false := Nat.testBit_lt_two_pow (Nat.lt_of_lt_of_le h (Nat.pow_le_pow_right (n := 2) (by decide) (show 32 ≤ i by omega)))
    simp [hi, this]
end Go.Proofs.YtodehmognjofhaaGreat

namespace Go.Proofs.YtodehmognjofhaaGreat
open Go.RowKit

def vLit : List Nat := [1779033703, 3144134277, 1013904242, 2773480762, 1359893119, 2600822924, 528734635, 1541459225]
def kLit : List Nat := [1116352408, 1899447441, 3049323471, 3921009573, 961987163, 1508970993, 2453635748, 2870763221, 3624381080, 310598401, 607225278, 1426881987, 1925078388, 2162078206, 2614888103, 3248222580, 3835390401, 4022224774, 264347078, 604807628, 770255983, 1249150122, 1555081692, 1996064986, 2554220882, 2821834349, 2952996808, 3210313671, 3336571891, 3584528711, 113926993, 338241895, 666307205, 773529912, 1294757372, 1396182291, 1695183700, 1986661051, 2177026350, 2456956037, 2730485921, 2820302411, 3259730800, 3345764771, 3516065817, 3600352804, 4094571909, 275423344, 430227734, 506948616, 659060556, 883997877, 958139571, 1322822218, 1537002063, 1747873779, 1955562222, 2024104815, 2227730452, 2361852424, 2428436474, 2756734187, 3204031479, 3329325298]
def U32 (n : Nat) : SV := .int .u32 (.ofNat n)
def addS (x y : SV) : SV := .ar .add .u32 x y
def xorS (x y : SV) : SV := .ar .xor .u32 x y
def andS (x y : SV) : SV := .ar .and .u32 x y
def rotS (x : SV) (n : Nat) : SV := .ar .or .u32 (.sh .shl .u32 x (32 - n)) (.sh .shr .u32 x n)
def nmS (i : Nat) : SV := .sym (.int .u32) (big + i)
def rawW (i : Nat) : SV := (List.range 4).foldl (fun e k => .ar .or .u32 (if k = 0 then U32 0 else .sh .shl .u32 e 8) (.cv .u32 (.sym (.int .u8) (8 + 4 * i + k)))) (U32 0)
/-- where the words' names, and the rounds', stand. -/
def nW (i : Nat) : Nat := if i < 16 then 153 + 73 * i else 1293 + 45 * (i - 16)
def nA (r : Nat) : Nat := 3492 + 37 * r
def Wn (i : Nat) : SV := nmS (nW i)
def nextS (w16 w7 x y : SV) : SV := addS (addS (addS w16 w7) (xorS (xorS (rotS x 7) (rotS x 18)) (.sh .shr .u32 x 3))) (xorS (xorS (rotS y 17) (rotS y 19)) (.sh .shr .u32 y 10))
structure S8 where
  a : SV
  b : SV
  c : SV
  d : SV
  e : SV
  f : SV
  g : SV
  h : SV
def tS (s : S8) (k : Nat) (x : SV) : SV := addS (addS (addS (addS s.h (xorS (xorS (rotS s.e 6) (rotS s.e 11)) (rotS s.e 25))) (xorS (andS s.e s.f) (andS (xorS (U32 4294967295) s.e) s.g))) (U32 k)) x
def uS (s : S8) : SV := addS (xorS (xorS (rotS s.a 2) (rotS s.a 13)) (rotS s.a 22)) (xorS (xorS (andS s.a s.b) (andS s.a s.c)) (andS s.b s.c))
/-- the rounds from r on: their names, and what stands there at the end. -/
def rounds : List Nat → Nat → S8 → Log × S8
  | [], _, s => ([], s)
  | k :: ks, r, s =>
    let q := rounds ks (r + 1) ⟨nmS (nA r), s.a, s.b, s.c, nmS (nA r + 1), s.e, s.f, s.g⟩
    ((nA r, .u32, addS (tS s k (Wn r)) (uS s)) :: (nA r + 1, .u32, addS s.d (tS s k (Wn r))) :: q.1, q.2)
def vS (i : Nat) : SV := .sym (.int .u32) i
def s0S : S8 := ⟨vS 0, vS 1, vS 2, vS 3, vS 4, vS 5, vS 6, vS 7⟩
def shaLog : Log := (List.range 16).map (fun i => (nW i, .u32, rawW i)) ++ (List.range 48).map (fun j => (nW (16 + j), .u32, nextS (Wn j) (Wn (j + 9)) (Wn (j + 1)) (Wn (j + 14)))) ++ (rounds kLit 0 s0S).1
def shaEnd : List SV := let s := (rounds kLit 0 s0S).2; [addS (vS 0) s.a, addS (vS 1) s.b, addS (vS 2) s.c, addS (vS 3) s.d, addS (vS 4) s.e, addS (vS 5) s.f, addS (vS 6) s.g, addS (vS 7) s.h]
def partS : List SV := (List.range 64).map fun i => .sym (.int .u8) (8 + i)
def tabS : List SV := (vLit ++ kLit).map U32
def shaS : Smy where
  f := 156
  args := [.ptr 0 0]
  blks := [⟨.ptr 1 0 :: ((List.range 8).map vS ++ (partS ++ [.sym (.int .u64) 72])), 247, .ptr 1 0 :: (shaEnd ++ (partS ++ [.sym (.int .u64) 72]))⟩, ⟨tabS, 245, tabS⟩]
  nx0 := 80
  log := shaLog
  v := .tup []
noncomputable def env0 : Env := envOf Tryz.prog
theorem envOk : EnvOk Tryz.prog env0 := envOf_ok _ (by kernel_rfl) (by kernel_rfl)
end Go.Proofs.YtodehmognjofhaaGreat
