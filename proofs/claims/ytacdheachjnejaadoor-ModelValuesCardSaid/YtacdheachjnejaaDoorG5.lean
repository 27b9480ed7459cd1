/-
  PLAIN, NO PROGRAM: the codes of a model's states (over G4).
-/
import Derived.Test.YtacdheachjnejaaDoorG4
namespace Go.Sp
open Go Go.Av
set_option linter.unusedVariables false
set_option linter.unusedSimpArgs false

/-- Horner's way: the number, and the fault. -/
def codeE (n : Int) : List Vr → List Int → Int × Int
  | v :: l, x :: xs => if v.low ≤ x ∧ x ≤ v.high then codeE (n * spanV v + (x - v.low)) l xs else (0, 9)
  | _, _ => (n, 0)
/-- The sum of the digits' worths. -/
def codeT (n : Int) : List Vr → List Int → Int × Int
  | v :: l, x :: xs => if v.low ≤ x ∧ x ≤ v.high then codeT (n + (x - v.low) * prodV l) l xs else (0, 9)
  | _, _ => (n, 0)
theorem codeE_eq : ∀ (l : List Vr) (xs : List Int) (n : Int), xs.length = l.length → codeE n l xs = codeT (n * prodV l) l xs
  | [], [], n, _ => by simp [codeE, codeT, prodV]
  | [], _ :: _, _, h => by simp at h
  | _ :: _, [], _, h => by simp at h
  | v :: l, x :: xs, n, h => by
    simp only [codeE, codeT]
    by_cases c : v.low ≤ x ∧ x ≤ v.high
    · rw [if_pos c, if_pos c, codeE_eq l xs _ (by simpa using h), prodV, Int.add_mul, Int.mul_assoc]
    · rw [if_neg c, if_neg c]
theorem codeE_at (n : Int) (l : List Vr) (xs : List Int) (i : Nat) (h : i < l.length) (h' : i < xs.length) : codeE n (l.drop i) (xs.drop i) = if l[i].low ≤ xs[i] ∧ xs[i] ≤ l[i].high then codeE (n * spanV l[i] + (xs[i] - l[i].low)) (l.drop (i + 1)) (xs.drop (i + 1)) else (0, 9) := by
  rw [List.drop_eq_getElem_cons h, List.drop_eq_getElem_cons h', codeE]
theorem codeT_at (n : Int) (l : List Vr) (xs : List Int) (i : Nat) (h : i < l.length) (h' : i < xs.length) : codeT n (l.drop i) (xs.drop i) = if l[i].low ≤ xs[i] ∧ xs[i] ≤ l[i].high then codeT (n + (xs[i] - l[i].low) * prodV (l.drop (i + 1))) (l.drop (i + 1)) (xs.drop (i + 1)) else (0, 9) := by
  rw [List.drop_eq_getElem_cons h, List.drop_eq_getElem_cons h', codeT]
theorem codeE_end (n : Int) (l : List Vr) (xs : List Int) (i : Nat) (h : l.length ≤ i) : codeE n (l.drop i) (xs.drop i) = (n, 0) := by rw [List.drop_of_length_le h]; cases xs.drop i <;> rfl
theorem codeT_end (n : Int) (l : List Vr) (xs : List Int) (i : Nat) (h : l.length ≤ i) : codeT n (l.drop i) (xs.drop i) = (n, 0) := by rw [List.drop_of_length_le h]; cases xs.drop i <;> rfl
/-- P3.7. -/
noncomputable def codeF (m : Md) (xs : List Int) : Int × Int := if modelF m ≠ 0 then (0, modelF m) else if xs.length ≠ m.vars.length then (0, 9) else codeE 0 m.vars xs
theorem codeF_T (m : Md) (xs : List Int) (h : modelF m = 0) (h' : xs.length = m.vars.length) : codeF m xs = codeT 0 m.vars xs := by
  rw [codeF, if_neg (by omega), if_neg (by omega), codeE_eq _ _ _ h', Int.zero_mul]
theorem prodV_drop (l : List Vr) (i : Nat) (h : i < l.length) : prodV (l.drop i) = spanV l[i] * prodV (l.drop (i + 1)) := by
  rw [List.drop_eq_getElem_cons h, prodV]
/-- One step of Horner's way stays within the product. -/
theorem horner_step {n p s d : Int} (h0 : 0 ≤ n) (h1 : n + 1 ≤ p) (hd0 : 0 ≤ d) (hd : d < s) : 0 ≤ n * s ∧ 0 ≤ n * s + d ∧ n * s + d + 1 ≤ p * s := by
  have a1 : 0 ≤ n * s := Int.mul_nonneg h0 (by omega)
  have a2 : (n + 1) * s ≤ p * s := Int.mul_le_mul_of_nonneg_right h1 (by omega)
  rw [Int.add_mul, Int.one_mul] at a2
  omega
/-- One step of the sum stays within the product. -/
theorem sum_step {n p q s d : Int} (h0 : 0 ≤ n) (h1 : n + s * q ≤ p) (hq : 1 ≤ q) (hd0 : 0 ≤ d) (hd : d < s) : 0 ≤ d * q ∧ 0 ≤ n + d * q ∧ n + d * q + q ≤ p := by
  have a1 : 0 ≤ d * q := Int.mul_nonneg hd0 (by omega)
  have a2 : (d + 1) * q ≤ s * q := Int.mul_le_mul_of_nonneg_right (by omega) (by omega)
  rw [Int.add_mul, Int.one_mul] at a2
  omega
end Go.Sp
