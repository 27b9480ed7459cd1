/-
  PLAIN, NO PROGRAM: tapes of bytes (P11), moves of a search (P13.1).
-/
import Derived.Test.YtffdlpjbbkhcnaaSb
import Derived.Test.YtffdlpjbbkhcnaaBc
namespace Go.Sp
open Go.Av

def sumS : List UInt8 → Int → Int
  | [], s => s
  | c :: r, s => sumS r ((s * 257 + c.toNat) % 2147483629)
/-- P11.2. -/
def sumOf (l : List UInt8) : Int := sumS l 1
theorem sumS_at (l : List UInt8) (i : Nat) (hi : i < l.length) (s : Int) : sumS (l.drop i) s = sumS (l.drop (i + 1)) ((s * 257 + l[i].toNat) % 2147483629) := by
  rw [List.drop_eq_getElem_cons hi]; rfl
theorem sumS_end (l : List UInt8) (i : Nat) (hi : l.length ≤ i) (s : Int) : sumS (l.drop i) s = s := by rw [List.drop_eq_nil_of_le hi]; rfl
theorem sumS_bound : ∀ (l : List UInt8) (s : Int), 0 ≤ s → s < 2147483629 → 0 ≤ sumS l s ∧ sumS l s < 2147483629
  | [], s, h1, h2 => ⟨h1, h2⟩
  | c :: r, s, h1, h2 => sumS_bound r _ (Int.emod_nonneg _ (by decide)) (Int.emod_lt_of_pos _ (by decide))
theorem sumOf_bound (l : List UInt8) : 0 ≤ sumOf l ∧ sumOf l < 2147483629 := sumS_bound l 1 (by decide) (by decide)

def movE : List Fo → Int
  | [] => 0
  | m :: r => if m.kind < 1 ∨ 4 < m.kind then 13 else if m.val < 0 ∨ 2147483647 < m.val then 2 else movE r
/-- P13.1. -/
def movF (l : List Fo) : Int := if 5000 < l.length then 1 else movE l
theorem movE_at (l : List Fo) (i : Nat) (hi : i < l.length) : movE (l.drop i) = if l[i].kind < 1 ∨ 4 < l[i].kind then 13 else if l[i].val < 0 ∨ 2147483647 < l[i].val then 2 else movE (l.drop (i + 1)) := by
  rw [List.drop_eq_getElem_cons hi]; rfl
theorem movE_end (l : List Fo) (i : Nat) (hi : l.length ≤ i) : movE (l.drop i) = 0 := by rw [List.drop_eq_nil_of_le hi]; rfl

structure Tp where
  data : List UInt8
  synced : Int
abbrev tpA (t : Tp) : AV := .agg [.d (bytesD t.data), .int t.synced]
def tpNil : Tp := ⟨[], 0⟩
def mayT (t : Tp) : Prop := t.data.length ≤ 1048576 ∧ 0 ≤ t.synced ∧ t.synced ≤ t.data.length
instance (t : Tp) : Decidable (mayT t) := by unfold mayT; infer_instance
/-- P11.4. -/
def syncOf (t : Tp) : Tp × Int := if mayT t then (⟨t.data, t.data.length⟩, 0) else (tpNil, 9)
/-- P11.5. -/
def crashOf (t : Tp) (keep : Int) : Tp × Int :=
  if ¬ mayT t then (tpNil, 9) else if keep < 0 then (tpNil, 2)
  else (⟨t.data.take (t.synced + min keep (t.data.length - t.synced)).toNat, t.synced + min keep (t.data.length - t.synced)⟩, 0)
end Go.Sp
