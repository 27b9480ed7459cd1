/-
  PLAIN, NO PROGRAM: what the functions compute (polish).
-/
import Derived.Test.YtffdlpjbbkhcnaaAw
namespace Go.Sp
open Go.Av

structure Fo where
  kind : Int
  val : Int
def Fo.cells (o : Fo) : List D := [.i .i64 o.kind, .i .i64 o.val]
abbrev opsD (l : List Fo) : D := .l 2 16 (l.map Fo.cells)
def intC (n : Int) : List D := [.i .i64 n]
abbrev intsD (l : List Int) : D := .l 1 8 (l.map intC)
def boolC (b : Bool) : List D := [.b b]
abbrev boolsD (l : List Bool) : D := .l 1 1 (l.map boolC)

/-- P1.1 as the document's answer has it. -/
def partsOf (k : Int) : Int × Int :=
  if k = 1 ∨ k = 2 ∨ k = 11 ∨ k = 12 ∨ k = 13 then (0, 0)
  else if k = 10 ∨ k = 14 ∨ k = 17 ∨ k = 18 then (1, 0)
  else if k = 3 ∨ k = 4 ∨ k = 5 ∨ k = 6 ∨ k = 7 ∨ k = 8 ∨ k = 9 ∨ k = 15 ∨ k = 16 then (2, 0)
  else (0, 13)

def scan : List Fo → Int → Int → Int × Int
  | [], _, _ => (0, 4)
  | o :: r, w, i => if (partsOf o.kind).2 ≠ 0 then (0, (partsOf o.kind).2) else if w + (partsOf o.kind).1 - 1 = 0 then (i + 1, 0) else scan r (w + (partsOf o.kind).1 - 1) (i + 1)
def endOf (l : List Fo) (at_ : Int) : Int × Int := scan (l.drop at_.toNat) 1 at_
theorem partsOf_no (k : Int) (h : k < 1 ∨ 18 < k) : partsOf k = (0, 13) := by
  unfold partsOf
  rw [if_neg (by omega), if_neg (by omega), if_neg (by omega)]
theorem partsOf_le (k : Int) : 0 ≤ (partsOf k).1 ∧ (partsOf k).1 ≤ 2 := by unfold partsOf; split <;> (try split) <;> (try split) <;> simp
end Go.Sp
