/-
  Plain words for rows of three numbers and for places in an index: a row's number at a place, a walk's state. No condition.
-/
import Derived.Test.YthapkpgkcckapaaProg
namespace Go.Proofs.Ythapkpgkcckapaa.Pm

/-- A row. -/
structure R3 where
  a : Int
  b : Int
  c : Int
deriving DecidableEq
def R3.at (r : R3) (o : Nat) : Int := if o = 0 then r.a else if o = 1 then r.b else r.c
def r0 : R3 := ⟨0, 0, 0⟩
/-- An order of the places. -/
structure Ord where
  x : Nat
  y : Nat
  z : Nat
def Ord.at (o : Ord) (k : Nat) : Nat := if k = 0 then o.x else if k = 1 then o.y else o.z
/-- A walk's state. -/
structure St where
  d : Nat
  f : Nat → Nat
  t : Nat → Nat
/-- The number of a row at the level. -/
def num (rows : List R3) (o : Ord) (d k : Nat) : Int := (rows.getD k r0).at (o.at (d - 1))
end Go.Proofs.Ythapkpgkcckapaa.Pm
