/-
  PLAIN, NO PROGRAM: models: propositions, how many states (over G3).
-/
import Derived.Test.YtmamiihpghnmmaaDoorG3
namespace Go.Sp
open Go Go.Av
set_option linter.unusedVariables false
set_option linter.unusedSimpArgs false

noncomputable def propsE (vars : Int) : List (List Fo) → Int
  | [] => 0
  | p :: l => if kindF p vars true ≠ 0 then kindF p vars true else propsE vars l
theorem propsE_at (vars : Int) (l : List (List Fo)) (i : Nat) (h : i < l.length) : propsE vars (l.drop i) = if kindF l[i] vars true ≠ 0 then kindF l[i] vars true else propsE vars (l.drop (i + 1)) := by
  rw [List.drop_eq_getElem_cons h, propsE]
theorem propsE_end (vars : Int) (l : List (List Fo)) (i : Nat) (h : l.length ≤ i) : propsE vars (l.drop i) = 0 := by rw [List.drop_of_length_le h, propsE]
/-- P3.5. -/
noncomputable def propsF (m : Md) (l : List (List Fo)) : Int := if modelF m ≠ 0 then modelF m else if 6 < l.length then 1 else propsE m.vars.length l

/-- How many states variables make. -/
def prodV : List Vr → Int
  | [] => 1
  | v :: l => spanV v * prodV l
theorem prodV_append : ∀ a b : List Vr, prodV (a ++ b) = prodV a * prodV b
  | [], b => by simp [prodV]
  | v :: a, b => by simp only [List.cons_append, prodV, prodV_append a b, Int.mul_assoc]
/-- Variables without a fault. -/
structure GoodV (l : List Vr) : Prop where
  range : ∀ v ∈ l, rangeV v
  span : ∀ v ∈ l, 1 ≤ spanV v ∧ spanV v ≤ 64
  all : prodV l ≤ 4096
theorem prodV_pos : ∀ {l : List Vr}, (∀ v ∈ l, 1 ≤ spanV v) → 1 ≤ prodV l
  | [], _ => by simp [prodV]
  | v :: l, h => by
    have h1 := h v List.mem_cons_self
    have h2 := prodV_pos fun w hw => h w (List.mem_cons_of_mem v hw)
    simp only [prodV]
    exact Int.le_trans (by omega) (Int.mul_le_mul h1 h2 (by omega) (by omega))
theorem GoodV.take {l : List Vr} (g : GoodV l) (i : Nat) : 1 ≤ prodV (l.take i) ∧ prodV (l.take i) ≤ 4096 ∧ 1 ≤ prodV (l.drop i) ∧ prodV (l.drop i) ≤ 4096 := by
  have e : prodV l = prodV (l.take i) * prodV (l.drop i) := by rw [← prodV_append, List.take_append_drop]
  have h1 : 1 ≤ prodV (l.take i) := prodV_pos fun v hv => (g.span v (List.mem_of_mem_take hv)).1
  have h2 : 1 ≤ prodV (l.drop i) := prodV_pos fun v hv => (g.span v (List.mem_of_mem_drop hv)).1
  have h3 := g.all
  have h4 : prodV (l.take i) * 1 ≤ prodV (l.take i) * prodV (l.drop i) := Int.mul_le_mul_of_nonneg_left h2 (by omega)
  have h5 : 1 * prodV (l.drop i) ≤ prodV (l.take i) * prodV (l.drop i) := Int.mul_le_mul_of_nonneg_right h1 (by omega)
  omega
theorem varsE_good : ∀ (l : List Vr) (seen : List ByteArray) (n : Int), 1 ≤ n → n ≤ 4096 → varsE l seen n = 0 → (∀ v ∈ l, rangeV v ∧ spanV v ≤ 64) ∧ n * prodV l ≤ 4096
  | [], _, n, _, h, _ => ⟨by simp, by simp [prodV]; omega⟩
  | v :: l, seen, n, h1, h2, h => by
    rw [varsE] at h
    by_cases c1 : ¬ nameP v.name
    · rw [if_pos c1] at h; cases h
    rw [if_neg c1] at h
    by_cases c2 : v.name ∈ seen
    · rw [if_pos c2] at h; cases h
    rw [if_neg c2] at h
    by_cases c3 : ¬ rangeV v
    · rw [if_pos c3] at h; cases h
    rw [if_neg c3] at h
    by_cases c4 : 64 < spanV v
    · rw [if_pos c4] at h; cases h
    rw [if_neg c4] at h
    by_cases c5 : 4096 < n * spanV v
    · rw [if_pos c5] at h; cases h
    rw [if_neg c5] at h
    have hr := Decidable.not_not.1 c3
    have hs : 1 ≤ spanV v := by unfold spanV; have := hr.2.2.1; omega
    have hp : 1 ≤ n * spanV v := Int.le_trans (by omega) (Int.mul_le_mul h1 hs (by omega) (by omega))
    obtain ⟨i1, i2⟩ := varsE_good l _ _ hp (by omega) h
    refine ⟨fun w hw => ?_, ?_⟩
    · rcases List.mem_cons.1 hw with rfl | hw
      · exact ⟨hr, by omega⟩
      · exact i1 w hw
    · rw [prodV, ← Int.mul_assoc]; exact i2
theorem goodV {l : List Vr} (h : varsF l = 0) : GoodV l := by
  unfold varsF at h
  by_cases c : 6 < l.length
  · rw [if_pos c] at h; cases h
  rw [if_neg c] at h
  obtain ⟨h1, h2⟩ := varsE_good l [] 1 (by decide) (by decide) h
  exact ⟨fun v hv => (h1 v hv).1, fun v hv => ⟨by unfold spanV; have := (h1 v hv).1.2.2.1; omega, (h1 v hv).2⟩, by simpa using h2⟩
theorem modelF_vars {m : Md} (h : modelF m = 0) : varsF m.vars = 0 := by
  unfold modelF at h
  by_cases c : varsF m.vars ≠ 0
  · rw [if_pos c] at h; exact absurd h c
  · omega
/-- P3.6. -/
noncomputable def countF (m : Md) : Int × Int := if modelF m ≠ 0 then (0, modelF m) else (prodV m.vars, 0)
theorem prodV_take_succ (l : List Vr) (i : Nat) (h : i < l.length) : prodV (l.take (i + 1)) = prodV (l.take i) * spanV l[i] := by
  rw [List.take_succ_eq_append_getElem h, prodV_append]
  simp [prodV]
/-- The states of the variables from a place on, up to another. -/
def prodR (l : List Vr) (a k : Nat) : Int := prodV ((l.drop a).take (k - a))
theorem prodR_succ (l : List Vr) (a k : Nat) (ha : a ≤ k) (h : k < l.length) : prodR l a (k + 1) = prodR l a k * spanV l[k] := by
  unfold prodR
  rw [show k + 1 - a = (k - a) + 1 by omega, prodV_take_succ _ _ (by rw [List.length_drop]; omega)]
  congr 2
  rw [List.getElem_drop]
  congr 1
  omega
theorem prodR_end (l : List Vr) (a : Nat) : prodR l a l.length = prodV (l.drop a) := by
  unfold prodR
  rw [List.take_of_length_le (by rw [List.length_drop]; omega)]
theorem prodR_start (l : List Vr) (a : Nat) : prodR l a a = 1 := by simp [prodR, prodV]
theorem GoodV.drop {l : List Vr} (g : GoodV l) (a : Nat) : GoodV (l.drop a) where
  range v hv := g.range v (List.mem_of_mem_drop hv)
  span v hv := g.span v (List.mem_of_mem_drop hv)
  all := (g.take a).2.2.2
theorem GoodV.R {l : List Vr} (g : GoodV l) (a k : Nat) : 1 ≤ prodR l a k ∧ prodR l a k ≤ 4096 := by
  have := (g.drop a).take (k - a)
  exact ⟨this.1, this.2.1⟩
end Go.Sp
