/- Ended sessions and their notifications, plain. No program. -/
import Derived.Test.YtdikijbkfhimoaaRaw
import Derived.Test.YtdikijbkfhimoaaRow
import Derived.Test.YtdikijbkfhimoaaLeaf
import Derived.Test.YtdikijbkfhimoaaWord
namespace Go.Proofs.Ytdikijbkfhimoaa
open Go.RowKit Go.Maps

/-- A notification: its state, the attempts that failed. -/
abbrev Note := Int × Nat
abbrev Notes := List (Str × Note)
/-- An ended session: the instant, the notifications. -/
abbrev Ses := Int × Notes
abbrev Log := List (Str × Ses)
def afterN (delay k : Nat) : Nat := delay * (2 ^ k - 1)
def ripe (delay : Nat) (at_ now : Int) (n : Note) : Bool := decide (n.1 = 0) && decide (at_ + (afterN delay n.2 : Nat) ≤ now)
/-- What Due makes of a notification. -/
def dueN (delay : Nat) (at_ now : Int) (n : Note) : Note := if ripe delay at_ now n then (1, n.2) else n
def dueS (delay : Nat) (now : Int) (x : Ses) : Ses := (x.1, x.2.map fun q => (q.1, dueN delay x.1 now q.2))
def dueU (delay : Nat) (now : Int) (U : Log) : Log := U.map fun p => (p.1, dueS delay now p.2)
/-- A pair is due. -/
def isDue (delay : Nat) (now : Int) (U : Log) (s c : Str) : Prop := ∃ x, alook U s = some x ∧ ∃ n, alook x.2 c = some n ∧ ripe delay x.1 now n = true
/-- The order of pairs. -/
def pairLt (a b : Str × Str) : Prop := a.1 < b.1 ∨ a.1 = b.1 ∧ a.2 < b.2
def Due (delay : Nat) (now : Int) (U : Log) (l : List (Str × Str)) : Prop := l.Pairwise pairLt ∧ ∀ p, p ∈ l ↔ isDue delay now U p.1 p.2
/-- A note of a session. -/
def noteAt (U : Log) (s c : Str) : Option Note := (alook U s).bind fun x => alook x.2 c
def endE (U : Log) (s c : Str) : Int := match noteAt U s c with
  | none => 6
  | some n => if n.1 = 1 then 0 else 12
/-- A notification is written. -/
def setU (U : Log) (s c : Str) (n : Note) : Log := match alook U s with
  | none => U
  | some x => aput U s (x.1, aput x.2 c n)
/-- What a change makes of all. -/
def endU (f : Note → Note) (U : Log) (s c : Str) : Log := match noteAt U s c with
  | none => U
  | some n => if n.1 = 1 then setU U s c (f n) else U
def doneN (n : Note) : Note := (2, n.2)
def failN (most : Nat) (n : Note) : Note := if n.2 + 1 = most then (3, n.2 + 1) else (0, n.2 + 1)
end Go.Proofs.Ytdikijbkfhimoaa
