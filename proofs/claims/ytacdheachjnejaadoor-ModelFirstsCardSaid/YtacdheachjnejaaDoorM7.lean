/- Contracts: model.First; foretellref.FirstCode. -/
import Derived.Test.YtacdheachjnejaaDoorM6
namespace Go.Proofs.YtacdheachjnejaaDoor
open Go Go.Av Go.Sp
set_option linter.unusedVariables false
set_option linter.unusedSimpArgs false
set_option maxRecDepth 100000
set_option maxHeartbeats 4000000

theorem cal_First : Cal Tryd.prog 38 := Cal.of Tryd.func38 (by kernel_rfl) (by kernel_rfl)
theorem cal_FirstCode : Cal Tryd.prog 39 := Cal.of Tryd.func39 (by kernel_rfl) (by kernel_rfl)
def inits (m : Md) : List Int := m.vars.map Vr.init
theorem First (m : Md) : ACr Tryd.prog GP 38 [mdA m] (.tup [.int (codeF m (inits m)).1, .int (codeF m (inits m)).2]) := by
  refine AC.factI (f := Vr.cells) (xs := m.vars) (.agg .here) fun hlv => ?_
  refine AC_ofV (ts := [2, 3]) Tryd.f38.ntmps Tryd.func38 rfl rfl rfl (by simp [Tryd.ntmps38]) fun W I => ?_
  have hin : (inits m).length = m.vars.length := by simp [inits]
  repeat' (first
    | exact True.intro
    | refine stph ?_
    | refine two ?_ ?_
    | refine allc fun c_ => ?_
    | (refine imp fun hc => ?_) <;> try (first | contradiction | (exfalso; omega) | (exfalso; exact absurd (of_dT hc) (by assumption)) | (exfalso; exact of_dF hc (by assumption)))
    | refine all fun v_ => ?_)
  obtain ⟨bm, rfl⟩ : ∃ x, x = v_ := ⟨v_, rfl⟩
  refine jrow (E := 3) (sz := 1) intC ?_
  refine J_loopV (X := Nat × Sl) (fun y => [(1, .val (.pointer (some ⟨bm, 0, none⟩))), (4, .val y.2.v), (8, .d (varsD m.vars)), (9, .int m.vars.length), (10, .int y.1)]) (fun y => [rowE y.2.v 3 1 intC ((inits m).take y.1), .cells bm 48 [.d (varsD m.vars), .d (rulesD m.rules)]]) (fun y => y.1 ≤ m.vars.length) (fun y => m.vars.length - y.1) (0, Sl.nil) (Nat.zero_le _) (VS.of_le ?_) ?_
  · repeat (first
      | exact Env.le_nil _
      | refine Env.le_cons (AV.le_refl _) ?_
      | refine Env.le_cons (AV.le_int rfl (by first | rfl | omega | (dsimp only; omega))) ?_)
  rintro ⟨i, q⟩ h1
  dsimp only at h1 ⊢
  have hlen : ((inits m).take i).length = i := by rw [List.length_take]; omega
  by_cases hi : i < m.vars.length
  · have et : (inits m).take i ++ [m.vars[i].init] = (inits m).take (i + 1) := by rw [List.take_succ_eq_append_getElem (by omega)]; simp [inits]
    repeat' (first
      | exact True.intro
      | refine stph ?_
      | refine two ?_ ?_
      | refine allc fun c_ => ?_
      | (refine imp fun hc => ?_) <;> try (first | contradiction | (exfalso; omega) | (exfalso; exact absurd (of_dT hc) (by assumption)) | (exfalso; exact of_dF hc (by assumption)))
      | refine all fun v_ => ?_)
    refine ⟨(i + 1, v_), by dsimp only; omega, by dsimp only; omega, ?_⟩
    dsimp only
    rw [← et]
    refine VS.take (by ((repeat (first | exact Take.nil | ((with_reducible apply Take.cons); (focus ((repeat (first | exact Sel.here | with_reducible apply Sel.there)); done))))); done)) ?_
    repeat (first
      | exact Env.le_nil _
      | refine Env.le_cons (AV.le_refl _) ?_
      | refine Env.le_cons (AV.le_int rfl (by first | rfl | omega | (dsimp only; omega))) ?_)
  obtain rfl : i = m.vars.length := by omega
  rw [List.take_of_length_le (by omega)]
  refine J_vs (vdat (h1 := []) (h' := [.cells bm 48 [.d (varsD m.vars), .d (rulesD m.rules)]]) 8 rfl rfl (fun _ => rfl) (by omega) (CvE.cons (t := 4) rfl .here (CvE.refl _ _ _)) (CvH.refl _)) ?_
  repeat' (first
    | ((with_reducible apply call0); (focus rfl); (focus exact cal_Code); (focus exact Code _ _); (focus rfl))
    | ((with_reducible apply je_call0); (focus rfl); (focus (decide +kernel)); (focus rfl); (focus exact cal_Code); (focus exact Code _ _); (focus rfl))
    | exact True.intro
    | refine stph ?_
    | refine two ?_ ?_
    | refine allc fun c_ => ?_
    | (refine imp fun hc => ?_) <;> try (first | contradiction | (exfalso; omega) | (exfalso; exact absurd (of_dT hc) (by assumption)) | (exfalso; exact of_dF hc (by assumption)))
    | refine all fun v_ => ?_)
  refine retv (VS.drop (List.nil_sublist _)) ?_
  ((with_reducible apply rq2); rfl; rfl; rfl)
  exact ret_eq rfl
theorem FirstCode (G : List (Nat × List D)) (m : Md) : ACr Tryd.prog G 39 [mdA m] (.tup [.int (codeF m (inits m)).1, .int (codeF m (inits m)).2]) := by
  refine AC.factI (f := Vr.cells) (xs := m.vars) (.agg .here) fun hlv => ?_
  refine AC_ofV (ts := [2, 3]) Tryd.f39.ntmps Tryd.func39 rfl rfl rfl (by simp [Tryd.ntmps39]) fun W I => ?_
  have hin : (inits m).length = m.vars.length := by simp [inits]
  repeat' (first
    | exact True.intro
    | refine stph ?_
    | refine two ?_ ?_
    | refine allc fun c_ => ?_
    | (refine imp fun hc => ?_) <;> try (first | contradiction | (exfalso; omega) | (exfalso; exact absurd (of_dT hc) (by assumption)) | (exfalso; exact of_dF hc (by assumption)))
    | refine all fun v_ => ?_)
  obtain ⟨bm, rfl⟩ : ∃ x, x = v_ := ⟨v_, rfl⟩
  refine jrow (E := 3) (sz := 1) intC ?_
  refine J_loopV (X := Nat × Sl) (fun y => [(1, .val (.pointer (some ⟨bm, 0, none⟩))), (4, .val y.2.v), (5, .int y.1)]) (fun y => [rowE y.2.v 3 1 intC ((inits m).take y.1), .cells bm 48 [.d (varsD m.vars), .d (rulesD m.rules)]]) (fun y => y.1 ≤ m.vars.length) (fun y => m.vars.length - y.1) (0, Sl.nil) (Nat.zero_le _) (VS.of_le ?_) ?_
  · repeat (first
      | exact Env.le_nil _
      | refine Env.le_cons (AV.le_refl _) ?_
      | refine Env.le_cons (AV.le_int rfl (by first | rfl | omega | (dsimp only; omega))) ?_)
  rintro ⟨i, q⟩ h1
  dsimp only at h1 ⊢
  have hlen : ((inits m).take i).length = i := by rw [List.length_take]; omega
  by_cases hi : i < m.vars.length
  · have et : (inits m).take i ++ [m.vars[i].init] = (inits m).take (i + 1) := by rw [List.take_succ_eq_append_getElem (by omega)]; simp [inits]
    repeat' (first
      | exact True.intro
      | refine stph ?_
      | refine two ?_ ?_
      | refine allc fun c_ => ?_
      | (refine imp fun hc => ?_) <;> try (first | contradiction | (exfalso; omega) | (exfalso; exact absurd (of_dT hc) (by assumption)) | (exfalso; exact of_dF hc (by assumption)))
      | refine all fun v_ => ?_)
    refine ⟨(i + 1, v_), by dsimp only; omega, by dsimp only; omega, ?_⟩
    dsimp only
    rw [← et]
    refine VS.take (by ((repeat (first | exact Take.nil | ((with_reducible apply Take.cons); (focus ((repeat (first | exact Sel.here | with_reducible apply Sel.there)); done))))); done)) ?_
    repeat (first
      | exact Env.le_nil _
      | refine Env.le_cons (AV.le_refl _) ?_
      | refine Env.le_cons (AV.le_int rfl (by first | rfl | omega | (dsimp only; omega))) ?_)
  obtain rfl : i = m.vars.length := by omega
  rw [List.take_of_length_le (by omega)]
  refine J_vs (vdat (h1 := []) (h' := [.cells bm 48 [.d (varsD m.vars), .d (rulesD m.rules)]]) 8 rfl rfl (fun _ => rfl) (by omega) (CvE.cons (t := 4) rfl .here (CvE.refl _ _ _)) (CvH.refl _)) ?_
  repeat' (first
    | ((with_reducible apply call0); (focus rfl); (focus exact cal_CodeOf); (focus exact CodeOf _ _ _); (focus rfl))
    | ((with_reducible apply je_call0); (focus rfl); (focus (decide +kernel)); (focus rfl); (focus exact cal_CodeOf); (focus exact CodeOf _ _ _); (focus rfl))
    | exact True.intro
    | refine stph ?_
    | refine two ?_ ?_
    | refine allc fun c_ => ?_
    | (refine imp fun hc => ?_) <;> try (first | contradiction | (exfalso; omega) | (exfalso; exact absurd (of_dT hc) (by assumption)) | (exfalso; exact of_dF hc (by assumption)))
    | refine all fun v_ => ?_)
  refine retv (VS.drop (List.nil_sublist _)) ?_
  ((with_reducible apply rq2); rfl; rfl; rfl)
  exact ret_eq rfl
end Go.Proofs.YtacdheachjnejaaDoor
