/-
  PLAIN, NO PROGRAM: the values of a model's state by its code (over G5).
-/
import Derived.Test.YtacdheachjnejaaDoorG5
namespace Go.Sp
open Go Go.Av
set_option linter.unusedVariables false
set_option linter.unusedSimpArgs false

/-- The values, from the first on. -/
def valsT : List Vr → Int → List Int
  | [], _ => []
  | v :: l, c => (v.low + c / prodV l) :: valsT l (c % prodV l)
theorem valsT_length : ∀ (l : List Vr) (c : Int), (valsT l c).length = l.length
  | [], _ => rfl
  | _ :: l, c => by simp [valsT, valsT_length l]
theorem valsT_at (l : List Vr) (i : Nat) (c : Int) (h : i < l.length) : valsT (l.drop i) c = (l[i].low + c / prodV (l.drop (i + 1))) :: valsT (l.drop (i + 1)) (c % prodV (l.drop (i + 1))) := by
  rw [List.drop_eq_getElem_cons h, valsT]
theorem dig_eq (c q s t : Int) (hq : 0 < q) : (c % (t * (s * q))) / q % s = c / q % s := by
  have e : c % (t * (s * q)) = c + (-(t * (c / (t * (s * q)))) * s) * q := by
    rw [Int.emod_def, show t * (s * q) * (c / (t * (s * q))) = t * (c / (t * (s * q))) * s * q by
      rw [Int.mul_assoc t (s * q), Int.mul_comm (s * q), ← Int.mul_assoc, ← Int.mul_assoc]]
    rw [Int.neg_mul, Int.neg_mul]
    omega
  rw [e, Int.add_mul_ediv_right _ _ (by omega), Int.add_mul_emod_self_right]
theorem valsT_get : ∀ (l : List Vr) (c : Int) (i : Nat) (_ : ∀ v ∈ l, 1 ≤ spanV v) (_ : 0 ≤ c) (_ : c < prodV l) (h : i < l.length) (h' : i < (valsT l c).length), (valsT l c)[i] = l[i].low + c / prodV (l.drop (i + 1)) % spanV l[i]
  | [], _, _, _, _, _, h, _ => by simp at h
  | v :: l, c, 0, hs, h0, hc, _, _ => by
    have hp := prodV_pos fun w hw => hs w (List.mem_cons_of_mem v hw)
    simp only [valsT, List.getElem_cons_zero, List.drop_succ_cons, List.drop_zero]
    rw [Int.emod_eq_of_lt (Int.ediv_nonneg h0 (by omega)) (Int.ediv_lt_of_lt_mul (by omega) hc)]
  | v :: l, c, i + 1, hs, h0, hc, h, h' => by
    have hl : ∀ w ∈ l, 1 ≤ spanV w := fun w hw => hs w (List.mem_cons_of_mem v hw)
    have hp := prodV_pos hl
    have hi : i < l.length := by simpa using h
    have hq := prodV_pos fun w hw => hl w (List.mem_of_mem_drop (i := i + 1) hw)
    have e : prodV l = prodV (l.take i) * (spanV l[i] * prodV (l.drop (i + 1))) := by
      rw [← prodV_drop l i hi, ← prodV_append, List.take_append_drop]
    simp only [valsT, List.getElem_cons_succ, List.drop_succ_cons]
    rw [valsT_get l _ i hl (Int.emod_nonneg _ (by omega)) (Int.emod_lt_of_pos _ (by omega)) hi, e, dig_eq _ _ _ _ (by omega)]
/-- P3.8. -/
noncomputable def valsF (m : Md) (c : Int) : List Int × Int := if modelF m ≠ 0 then ([], modelF m) else if 0 ≤ c ∧ c < prodV m.vars then (valsT m.vars c, 0) else ([], 9)
theorem quo_quo (c q s : Int) (hq : 0 ≤ q) : c / q / s = c / (s * q) := by rw [Int.ediv_ediv, if_neg (by omega), Int.sub_zero, Int.mul_comm]
/-- What the list holds while it is filled from behind. -/
def fillV (V : List Int) (k : Nat) : List Int := List.replicate k 0 ++ V.drop k
theorem fillV_length (V : List Int) (k : Nat) (h : k ≤ V.length) : (fillV V k).length = V.length := by simp [fillV]; omega
theorem fillV_set (V : List Int) (k : Nat) (h : k < V.length) : (fillV V (k + 1)).set k V[k] = fillV V k := by
  unfold fillV
  rw [List.replicate_succ', List.append_assoc, List.set_append_right _ _ (by simp), List.drop_eq_getElem_cons h]
  simp
end Go.Sp
