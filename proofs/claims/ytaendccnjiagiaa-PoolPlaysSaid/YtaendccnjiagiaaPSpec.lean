/-
  What a pool is and does, in plain words: tasks, the one that is picked, and each call's answer.
-/
import Derived.Test.YtaendccnjiagiaaFloat
import Derived.Test.YtaendccnjiagiaaMap
namespace Go.Proofs.Ytaendccnjiagiaa
open Go.RowKit

structure Task where
  id : Int
  wt : Nat
  age : Int
  blk : Bool
  deriving Inhabited, DecidableEq

def Task.cells (t : Task) : List Value := [.int .u64 t.id, .float .f64 t.wt, .int .i64 t.age, .bool t.blk]
def cellsOf : List Task → List Value
  | [] => []
  | t :: l => .int .u64 t.id :: .float .f64 t.wt :: .int .i64 t.age :: .bool t.blk :: cellsOf l
theorem length_cellsOf : ∀ l : List Task, (cellsOf l).length = l.length * 4
  | [] => rfl
  | t :: l => by simp [cellsOf, length_cellsOf l]; omega
theorem cellsOf_append : ∀ l l' : List Task, cellsOf (l ++ l') = cellsOf l ++ cellsOf l'
  | [], _ => rfl
  | t :: l, l' => by simp [cellsOf, cellsOf_append l l']
theorem cellsOf_at : ∀ (l : List Task) (i : Nat) (t : Task), l[i]? = some t →
    (cellsOf l)[i * 4]? = some (.int .u64 t.id) ∧ (cellsOf l)[i * 4 + 1]? = some (.float .f64 t.wt) ∧ (cellsOf l)[i * 4 + 2]? = some (.int .i64 t.age) ∧ (cellsOf l)[i * 4 + 3]? = some (.bool t.blk)
  | [], i, t, h => by simp at h
  | u :: l, 0, t, h => by simp at h; subst h; simp [cellsOf]
  | u :: l, i + 1, t, h => by
    have ih := cellsOf_at l i t (by simpa using h)
    have e0 : (i + 1) * 4 = i * 4 + 1 + 1 + 1 + 1 := by omega
    simpa [cellsOf, e0] using ih
theorem cellsOf_take : ∀ (l : List Task) (k : Nat), (cellsOf l).take (k * 4) = cellsOf (l.take k)
  | [], k => by simp [cellsOf]
  | t :: l, 0 => by simp [cellsOf]
  | t :: l, k + 1 => by
    have e0 : (k + 1) * 4 = k * 4 + 1 + 1 + 1 + 1 := by omega
    simp [cellsOf, e0, cellsOf_take l k]
theorem cellsOf_drop : ∀ (l : List Task) (k : Nat), (cellsOf l).drop (k * 4) = cellsOf (l.drop k)
  | [], k => by simp [cellsOf]
  | t :: l, 0 => by simp [cellsOf]
  | t :: l, k + 1 => by
    have e0 : (k + 1) * 4 = k * 4 + 1 + 1 + 1 + 1 := by omega
    simp [cellsOf, e0, cellsOf_drop l k]
theorem cellsOf_one : ∀ (l : List Task) (v : Value), v ∈ cellsOf l → v.oneCell' = true
  | [], v, h => by simp [cellsOf] at h
  | t :: l, v, h => by
    simp only [cellsOf, List.mem_cons] at h
    rcases h with rfl | rfl | rfl | rfl | h <;> first | rfl | exact cellsOf_one l v h
theorem cellsOf_set_age : ∀ (l : List Task) (i : Nat) (t : Task) (g : Int), l[i]? = some t → (cellsOf l).set (i * 4 + 2) (.int .i64 g) = cellsOf (l.set i { t with age := g })
  | [], i, t, g, h => by simp at h
  | u :: l, 0, t, g, h => by simp at h; subst h; simp [cellsOf]
  | u :: l, i + 1, t, g, h => by
    have e0 : (i + 1) * 4 = i * 4 + 1 + 1 + 1 + 1 := by omega
    simp [cellsOf, e0, cellsOf_set_age l i t g (by simpa using h)]
theorem cellsOf_set_blk : ∀ (l : List Task) (i : Nat) (t : Task) (g : Bool), l[i]? = some t → (cellsOf l).set (i * 4 + 3) (.bool g) = cellsOf (l.set i { t with blk := g })
  | [], i, t, g, h => by simp at h
  | u :: l, 0, t, g, h => by simp at h; subst h; simp [cellsOf]
  | u :: l, i + 1, t, g, h => by
    have e0 : (i + 1) * 4 = i * 4 + 1 + 1 + 1 + 1 := by omega
    simp [cellsOf, e0, cellsOf_set_blk l i t g (by simpa using h)]

structure Pool where
  workers : Int
  room : Int
  patience : Int
  work : List Task
  queue : List Task
  deriving Inhabited, DecidableEq

/-- a weight that may be: above nought, and finite. -/
def okW (w : Nat) : Bool := decide (0 < w) && decide (w < Fl.inf)
/-- a pick that may be: from nought (of either sign) to below 1. -/
def fromZero (x : Nat) : Bool := Ieee.double.order x 0 == some .gt || Ieee.double.order x 0 == some .eq
def belowOne (x : Nat) : Bool := Ieee.double.order x 4607182418800017408 == some .lt
def okX (x : Nat) : Bool := fromZero x && belowOne x

def idsOf (l : List Task) : List Int := l.map (·.id)
def Pool.ids (S : Pool) : List Int := idsOf S.work ++ idsOf S.queue

def Pool.add (S : Pool) (id : Int) (wt : Nat) : Int × Pool :=
  if okW wt = false then (2, S)
  else if id ∈ S.ids then (184, S)
  else if (S.work.length : Int) < S.workers then (0, { S with work := S.work ++ [⟨id, wt, 0, false⟩] })
  else if S.room ≤ (S.queue.length : Int) then (6, S)
  else (0, { S with queue := S.queue ++ [⟨id, wt, 0, false⟩] })

/-- the place of a task. -/
def placeOf (l : List Task) (id : Int) : Option Nat := l.findIdx? (fun t => decide (t.id = id))

def Pool.done (S : Pool) (id : Int) : Int × Pool :=
  if id ∈ S.ids then
    match placeOf S.work id with
    | none => match placeOf S.queue id with
      | some j => (0, { S with queue := S.queue.eraseIdx j })
      | none => (0, S)
    | some j => match S.queue with
      | [] => (0, { S with work := S.work.eraseIdx j })
      | t :: q => (0, { S with work := S.work.eraseIdx j ++ [t], queue := q })
  else (5, S)

def Pool.turn (S : Pool) (id : Int) (b : Bool) : Int × Pool :=
  match placeOf S.work id with
  | none => (5, S)
  | some j => if (S.work.getD j default).blk = b then (3, S) else (0, { S with work := S.work.set j { S.work.getD j default with blk := b, age := 0 } })

/-- the places of those that are runnable, among the first k. -/
def runTo (l : List Task) (k : Nat) : List Nat := (List.range k).filter fun i => !(l.getD i default).blk
def runIdx (l : List Task) : List Nat := runTo l l.length
def tk (l : List Task) (i : Nat) : Task := l.getD i default

def oldTo (ts : List Task) : Nat → Nat
  | 0 => 0
  | k + 1 => if (tk ts (oldTo ts k)).age < (tk ts k).age then k else oldTo ts k
def sumTo (ts : List Task) : Nat → Nat
  | 0 => 0
  | k + 1 => (Ieee.double.add (sumTo ts k) (tk ts k).wt).getD 0
/-- is a sum above the aim? (where the aim is no number: no) -/
def above (s : Nat) (aim : Option Nat) : Bool := match aim with | none => false | some a => Fl.gt s a
def firstAbove (ts : List Task) (aim : Option Nat) : Nat := ((List.range ts.length).find? fun i => above (sumTo ts (i + 1)) aim).getD (ts.length - 1)
def whichOf (patience : Int) (x : Nat) (ts : List Task) : Nat :=
  if patience ≤ (tk ts (oldTo ts ts.length)).age then oldTo ts ts.length else firstAbove ts (Ieee.double.mul x (sumTo ts ts.length))

def agedAt (l : List Task) (i : Nat) : List Task := l.set i { tk l i with age := wrap64 ((tk l i).age + 1) }
def agedTo (l : List Task) (is : List Nat) : List Task := is.foldl agedAt l

def Pool.pick (S : Pool) (x : Nat) : Int × Int × Pool :=
  if okX x = false then (0, 2, S)
  else if runIdx S.work = [] then (0, 5, S)
  else
    let is := runIdx S.work
    let at_ := is.getD (whichOf S.patience x (is.map (tk S.work))) 0
    let l := agedTo S.work is
    ((tk S.work at_).id, 0, { S with work := l.set at_ { tk l at_ with age := 0 } })

structure Pool.Ok (S : Pool) : Prop where
  w1 : 1 ≤ S.workers
  w2 : S.workers ≤ 64
  r1 : 0 ≤ S.room
  r2 : S.room ≤ 1024
  p1 : 1 ≤ S.patience
  p2 : S.patience ≤ 9223372036854775807
  lw : (S.work.length : Int) ≤ S.workers
  lq : (S.queue.length : Int) ≤ S.room
  wt : ∀ t ∈ S.work, okW t.wt = true ∧ 0 ≤ t.id ∧ t.id < 18446744073709551616 ∧ -9223372036854775808 ≤ t.age ∧ t.age ≤ 9223372036854775807
  qt : ∀ t ∈ S.queue, okW t.wt = true ∧ 0 ≤ t.id ∧ t.id < 18446744073709551616 ∧ t.age = 0 ∧ t.blk = false
  nd : S.ids.Nodup
end Go.Proofs.Ytaendccnjiagiaa
