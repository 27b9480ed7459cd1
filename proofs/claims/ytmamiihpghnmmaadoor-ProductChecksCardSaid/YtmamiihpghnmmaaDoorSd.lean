/-
  PLAIN, NO PROGRAM: formulas.
-/
import Derived.Test.YtmamiihpghnmmaaDoorSc
namespace Go.Sp
open Go.Av
set_option linter.unusedVariables false
set_option linter.unusedSimpArgs false

def fitsZ (k v props : Int) : Int := if k < 8 then 13 else if (k = 13 ∧ (v < 0 ∨ props ≤ v)) ∨ (k ≠ 13 ∧ v ≠ 0) then 2 else 0
abbrev aheadP (k : Int) : Prop := 14 ≤ k ∧ k ≤ 18
def formE : List Fo → Int → Nat → Int
  | [], _, n => if 6 < n then 1 else 0
  | o :: r, props, n => if fitsZ o.kind o.val props ≠ 0 then fitsZ o.kind o.val props else formE r props (if aheadP o.kind then n + 1 else n)
/-- P5.2. -/
def formF (l : List Fo) (props : Int) : Int := if props < 0 ∨ 6 < props then 2 else if (endsOf l).2 ≠ 0 then (endsOf l).2 else formE l props 0
theorem formE_at (l : List Fo) (i : Nat) (hi : i < l.length) (props : Int) (n : Nat) : formE (l.drop i) props n = if fitsZ l[i].kind l[i].val props ≠ 0 then fitsZ l[i].kind l[i].val props else formE (l.drop (i + 1)) props (if aheadP l[i].kind then n + 1 else n) := by
  rw [List.drop_eq_getElem_cons hi]; rfl
theorem formE_end (l : List Fo) (i : Nat) (hi : l.length ≤ i) (props : Int) (n : Nat) : formE (l.drop i) props n = if 6 < n then 1 else 0 := by
  rw [List.drop_eq_nil_of_le hi]; rfl
/-- Where ops stand that look ahead. -/
def aheadL : List Fo → Nat → List Int
  | [], _ => []
  | o :: r, i => if aheadP o.kind then (i : Int) :: aheadL r (i + 1) else aheadL r (i + 1)
/-- P5.3. -/
def aheadsOf (l : List Fo) (props : Int) : List Int × Int := if formF l props ≠ 0 then ([], formF l props) else (aheadL l 0, 0)
theorem aheadL_at (l : List Fo) (i : Nat) (hi : i < l.length) : aheadL (l.drop i) i = if aheadP l[i].kind then (i : Int) :: aheadL (l.drop (i + 1)) (i + 1) else aheadL (l.drop (i + 1)) (i + 1) := by
  rw [List.drop_eq_getElem_cons hi]; rfl
theorem aheadL_end (l : List Fo) (i : Nat) (hi : l.length ≤ i) : aheadL (l.drop i) i = [] := by
  rw [List.drop_eq_nil_of_le hi]; rfl
end Go.Sp
