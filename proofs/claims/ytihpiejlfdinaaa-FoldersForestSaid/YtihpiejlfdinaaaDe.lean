import Derived.Test.YtihpiejlfdinaaaPz
/-
  What the program computes, as plain functions on lists of places.
-/
namespace Go.Proofs.Ytihpiejlfdinaaa.PF
open Go Go.RowKit

/-- A place: f0 time, f1 device, f2 folder, f3 parent, f4 name. -/
abbrev Pl := S29
def S29.val (x : S29) : Value := .agg #[.int .i64 x.f0, .int .i64 x.f1, .int .i64 x.f2, .int .i64 x.f3, .string x.f4]
def btw (n lo hi : Int) : Bool := decide (lo ≤ n) && decide (n ≤ hi)
/-- Is a place valid? -/
def S29.ok (x : S29) : Bool := btw x.f0 1 1099511627776 && btw x.f1 0 511 && btw x.f2 0 15 && btw x.f3 (-1) 15 && btw (x.f4.size : Int) 1 64
/-- Does a place come ahead of another one? -/
def S29.less (a b : S29) : Bool :=
  if a.f0 ≠ b.f0 then decide (a.f0 < b.f0) else if a.f1 ≠ b.f1 then decide (a.f1 < b.f1) else if a.f2 ≠ b.f2 then decide (a.f2 < b.f2) else if a.f3 ≠ b.f3 then decide (a.f3 < b.f3) else Op.bytesLess a.f4.data.toList b.f4.data.toList

/-- Lay a place ahead of the first one that it comes ahead of. -/
def ins (x : Pl) : List Pl → List Pl
  | [] => [x]
  | y :: ys => if x.less y then x :: y :: ys else y :: ins x ys
/-- The valid places in order. -/
def sortV (l : List Pl) : List Pl := l.foldl (fun acc x => if x.ok then ins x acc else acc) []

/-- The places of folders. -/
abbrev Forest := Int → Option Pl
def Forest.set (F : Forest) (x : Int) (a : Pl) : Forest := fun y => if y = x then some a else F y
/-- The folders above a folder, from below. -/
def upF (F : Forest) : Nat → Int → List Int
  | 0, _ => []
  | k + 1, x => match F x with
    | none => []
    | some q => if q.f3 < 0 then [] else q.f3 :: upF F k q.f3
def upL (F : Forest) (x : Int) : List Int := upF F 8 x
def withinF (F : Forest) (x y : Int) : Bool := decide (x = y) || (upL F x).any fun z => decide (z = y)
def lvl (F : Forest) (x : Int) : Nat := if x < 0 then 0 else 1 + (upL F x).length
/-- How many levels a folder takes. -/
def htF (F : Forest) : Nat → Int → Nat
  | 0, _ => 0
  | k + 1, x => 1 + (List.range 16).foldl (fun n (y : Nat) => match F (y : Int) with
    | none => n
    | some q => if q.f3 = x then max n (htF F k y) else n) 0
def ht (F : Forest) (x : Int) : Nat := htF F 9 x
/-- Has a place no effect? -/
def bad (F : Forest) (p : Pl) : Bool := (decide (0 ≤ p.f3) && ((F p.f3).isNone || withinF F p.f3 p.f2)) || decide (8 < lvl F p.f3 + ht F p.f2)
def step (F : Forest) (p : Pl) : Forest := if bad F p then F else F.set p.f2 p
def growF (l : List Pl) : Forest := (sortV l).foldl step fun _ => none

/-- The folders' numbers. -/
def keysF (F : Forest) : List Int := ((List.range 16).map fun (x : Nat) => (x : Int)).filter fun x => (F x).isSome
def treeP (F : Forest) : List Pl := (keysF F).filterMap F
def belowP (F : Forest) (x : Int) : List Int := if (F x).isSome then (keysF F).filter fun y => withinF F y x else []
/-- One step down a path. -/
def findAt (t : List Pl) (at_ : Int) (n : ByteArray) : Option Int := (t.find? fun p => decide (p.f3 = at_) && decide (p.f4.data.toList = n.data.toList)).map (·.f2)
def findP (t : List Pl) : Int → List ByteArray → Option Int
  | at_, [] => some at_
  | at_, n :: ns => match findAt t at_ n with
    | none => none
    | some f => findP t f ns
def findR (t : List Pl) (ns : List ByteArray) : Int × Bool := match findP t (-1) ns with
  | none => (0, false)
  | some f => (max f 0, decide (0 < ns.length))

/-! ### the functions that the walks of the callers name -/
def folders_Check.f (a b c d : Int) (n : ByteArray) : Option Int := some (if S29.ok ⟨a, b, c, d, n⟩ then 0 else 270)
def folders_Tree.f (l : List S29) : Option (List S29) := if l.length ≤ 100 then some (treeP (growF l)) else none
/-- Is a number an int64? -/
def i64 (x : Int) : Bool := btw x (-9223372036854775808) 9223372036854775807
def folders_Below.f (l : List S29) (x : Int) : Option (List Int) := if l.length ≤ 100 ∧ i64 x = true then some (belowP (growF l) x) else none
def folders_Above.f (l : List S29) (x : Int) : Option (List Int) := if l.length ≤ 100 ∧ i64 x = true then some (upL (growF l) x) else none
def folders_Find.f (l : List S29) (ns : List ByteArray) : Option (Int × Bool) := if l.length ≤ 100 then some (findR (treeP (growF l)) ns) else none
def chartroomref27_ordered.f (l : List S29) : Option (List S29) := if l.length ≤ 100 then some (sortV l) else none
end Go.Proofs.Ytihpiejlfdinaaa.PF
