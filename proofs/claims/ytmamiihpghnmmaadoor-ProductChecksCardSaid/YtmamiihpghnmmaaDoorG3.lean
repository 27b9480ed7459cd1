/-
  PLAIN, NO PROGRAM: models: their form, their faults, their codes (over Se).
-/
import Derived.Test.YtmamiihpghnmmaaDoorSe
import Derived.Test.YtmamiihpghnmmaaDoorE6
namespace Go.Sp
open Go Go.Av
set_option linter.unusedVariables false
set_option linter.unusedSimpArgs false

/-! ### Form -/
structure Vr where
  name : ByteArray
  low : Int
  high : Int
  init : Int
def Vr.cells (v : Vr) : List D := [.s v.name, .i .i64 v.low, .i .i64 v.high, .i .i64 v.init]
abbrev varsD (l : List Vr) : D := .l 4 40 (l.map Vr.cells)
structure St where
  var : Int
  val : List Fo
def St.cells (s : St) : List D := [.i .i64 s.var, opsD s.val]
abbrev setsD (l : List St) : D := .l 2 32 (l.map St.cells)
structure Ru where
  guard : List Fo
  sets : List St
def Ru.cells (r : Ru) : List D := [opsD r.guard, setsD r.sets]
abbrev rulesD (l : List Ru) : D := .l 2 48 (l.map Ru.cells)
structure Md where
  vars : List Vr
  rules : List Ru
def Md.cells (m : Md) : List D := [varsD m.vars, rulesD m.rules]
abbrev mdA (m : Md) : AV := .agg [.d (varsD m.vars), .d (rulesD m.rules)]

/-! ### Names -/
/-- May this byte stand at this place of a name? -/
def letP (i : Nat) (c : UInt8) : Prop := (97 ≤ c.toNat ∧ c.toNat ≤ 122) ∨ (48 ≤ c.toNat ∧ c.toNat ≤ 57 ∧ i ≠ 0)
instance (i : Nat) (c : UInt8) : Decidable (letP i c) := by unfold letP; infer_instance
abbrev yesS : ByteArray := ⟨#[121, 101, 115]⟩
abbrev noS : ByteArray := ⟨#[110, 111]⟩
/-- P3.1. -/
def nameP (s : ByteArray) : Prop := (1 ≤ s.data.toList.length ∧ s.data.toList.length ≤ 8) ∧ s ≠ yesS ∧ s ≠ noS ∧ ∀ (i : Nat) (h : i < s.data.toList.length), letP i s.data.toList[i]
noncomputable instance (s : ByteArray) : Decidable (nameP s) := Classical.propDecidable _

noncomputable instance (a : ByteArray) (l : List ByteArray) : Decidable (a ∈ l) := Classical.propDecidable _
/-! ### Variables -/
def spanV (v : Vr) : Int := v.high - v.low + 1
def rangeV (v : Vr) : Prop := -1000 ≤ v.low ∧ v.high ≤ 1000 ∧ v.low ≤ v.high ∧ v.low ≤ v.init ∧ v.init ≤ v.high
instance (v : Vr) : Decidable (rangeV v) := by unfold rangeV; infer_instance
/-- P3.2: one after the other: what names there were, how many states. -/
noncomputable def varsE : List Vr → List ByteArray → Int → Int
  | [], _, _ => 0
  | v :: l, seen, n =>
    if ¬ nameP v.name then 6 else if v.name ∈ seen then 7 else if ¬ rangeV v then 2 else if 64 < spanV v then 1 else if 4096 < n * spanV v then 1 else varsE l (seen ++ [v.name]) (n * spanV v)
noncomputable def varsF (l : List Vr) : Int := if 6 < l.length then 1 else varsE l [] 1
theorem varsE_at (l : List Vr) (i : Nat) (h : i < l.length) (seen : List ByteArray) (n : Int) : varsE (l.drop i) seen n =
    if ¬ nameP l[i].name then 6 else if l[i].name ∈ seen then 7 else if ¬ rangeV l[i] then 2 else if 64 < spanV l[i] then 1 else if 4096 < n * spanV l[i] then 1 else varsE (l.drop (i + 1)) (seen ++ [l[i].name]) (n * spanV l[i]) := by
  rw [List.drop_eq_getElem_cons h, varsE]
theorem varsE_end (l : List Vr) (i : Nat) (h : l.length ≤ i) (seen : List ByteArray) (n : Int) : varsE (l.drop i) seen n = 0 := by rw [List.drop_of_length_le h, varsE]

/-! ### Expressions of a kind, rules -/
/-- P3.3. -/
noncomputable def kindF (l : List Fo) (vars : Int) (truth : Bool) : Int := if (exprC l vars).2 ≠ 0 then (exprC l vars).2 else if (exprC l vars).1 ≠ truth then 5 else 0
noncomputable def setsE (vars : Int) : List St → List Int → Int
  | [], _ => 0
  | s :: l, seen => if ¬ (0 ≤ s.var ∧ s.var < vars) then 2 else if s.var ∈ seen then 7 else if kindF s.val vars false ≠ 0 then kindF s.val vars false else setsE vars l (seen ++ [s.var])
noncomputable def ruleF (r : Ru) (vars : Int) : Int := if 6 < r.sets.length then 1 else if kindF r.guard vars true ≠ 0 then kindF r.guard vars true else setsE vars r.sets []
theorem setsE_at (vars : Int) (l : List St) (i : Nat) (h : i < l.length) (seen : List Int) : setsE vars (l.drop i) seen =
    if ¬ (0 ≤ l[i].var ∧ l[i].var < vars) then 2 else if l[i].var ∈ seen then 7 else if kindF l[i].val vars false ≠ 0 then kindF l[i].val vars false else setsE vars (l.drop (i + 1)) (seen ++ [l[i].var]) := by
  rw [List.drop_eq_getElem_cons h, setsE]
theorem setsE_end (vars : Int) (l : List St) (i : Nat) (h : l.length ≤ i) (seen : List Int) : setsE vars (l.drop i) seen = 0 := by rw [List.drop_of_length_le h, setsE]
noncomputable def rulesE (vars : Int) : List Ru → Int
  | [] => 0
  | r :: l => if ruleF r vars ≠ 0 then ruleF r vars else rulesE vars l
theorem rulesE_at (vars : Int) (l : List Ru) (i : Nat) (h : i < l.length) : rulesE vars (l.drop i) = if ruleF l[i] vars ≠ 0 then ruleF l[i] vars else rulesE vars (l.drop (i + 1)) := by
  rw [List.drop_eq_getElem_cons h, rulesE]
theorem rulesE_end (vars : Int) (l : List Ru) (i : Nat) (h : l.length ≤ i) : rulesE vars (l.drop i) = 0 := by rw [List.drop_of_length_le h, rulesE]
/-- P3.4. -/
noncomputable def modelF (m : Md) : Int := if varsF m.vars ≠ 0 then varsF m.vars else if 12 < m.rules.length then 1 else rulesE m.vars.length m.rules
theorem mem_take_succ {α : Type} (l : List α) (i : Nat) (h : i < l.length) {a : α} : a ∈ l.take (i + 1) ↔ a ∈ l.take i ∨ a = l[i] := by
  rw [List.take_succ_eq_append_getElem h, List.mem_append, List.mem_singleton]
end Go.Sp
