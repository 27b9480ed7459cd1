/- A bundle of this claim's own texts: M4 N2 M7. -/
import Derived.Test.YtmamiihpghnmmaaGreatDoorZ2
import Derived.Test.YtmamiihpghnmmaaGreatDoorZ4
import Derived.Test.YtmamiihpghnmmaaGreatDoorZ7
import Derived.Test.YtmamiihpghnmmaaGreatDoorZ8
import Derived.Test.YtmamiihpghnmmaaGreatDoorZ16
namespace Go.Proofs.YtmamiihpghnmmaaGreatDoor
open Go Go.Av Go.Sp
set_option linter.unusedVariables false
set_option linter.unusedSimpArgs false
set_option maxRecDepth 100000
set_option maxHeartbeats 4000000

theorem cal_models : Cal Tryz.prog 28 := Cal.of Tryz.func28 (by kernel_rfl) (by kernel_rfl)
theorem conf_Variable {g : Nat} {xs : List D} (h : Conf Tryz.prog (g + 2) 122 xs) : ∃ v : Vr, xs = v.cells := by
  obtain ⟨p0, p1, p2, p3, rfl, h0, h1, h2, h3⟩ := conf_struct4_of Tryz.underlying122 h
  obtain ⟨s, rfl, _⟩ := conf_string_of Tryz.underlying9 h0
  obtain ⟨a, rfl⟩ := conf_int h1
  obtain ⟨b, rfl⟩ := conf_int h2
  obtain ⟨c, rfl⟩ := conf_int h3
  exact ⟨⟨s, a, b, c⟩, rfl⟩
theorem conf_vars {g : Nat} {xs : List D} (h : Conf Tryz.prog (g + 3) 22 xs) : ∃ l : List Vr, xs = [varsD l] ∧ l.length * 40 ≤ 140737488351232 := conf_slice_of Tryz.underlying22 (by kernel_rfl) (by kernel_rfl) (fun _ h => conf_Variable h) h
theorem conf_Set {g : Nat} {xs : List D} (h : Conf Tryz.prog (g + 4) 113 xs) : ∃ s : St, xs = s.cells := by
  obtain ⟨p0, p1, rfl, h0, h1⟩ := conf_struct2_of Tryz.underlying113 h
  obtain ⟨a, rfl⟩ := conf_int h0
  obtain ⟨l, rfl, _⟩ := conf_ops h1
  exact ⟨⟨a, l⟩, rfl⟩
theorem conf_sets {g : Nat} {xs : List D} (h : Conf Tryz.prog (g + 5) 109 xs) : ∃ l : List St, xs = [setsD l] ∧ l.length * 32 ≤ 140737488351232 := conf_slice_of Tryz.underlying109 (by kernel_rfl) (by kernel_rfl) (fun _ h => conf_Set h) h
theorem conf_Rule {g : Nat} {xs : List D} (h : Conf Tryz.prog (g + 6) 111 xs) : ∃ r : Ru, xs = r.cells := by
  obtain ⟨p0, p1, rfl, h0, h1⟩ := conf_struct2_of Tryz.underlying111 h
  obtain ⟨a, rfl, _⟩ := conf_ops h0
  obtain ⟨l, rfl, _⟩ := conf_sets h1
  exact ⟨⟨a, l⟩, rfl⟩
theorem conf_rules {g : Nat} {xs : List D} (h : Conf Tryz.prog (g + 7) 23 xs) : ∃ l : List Ru, xs = [rulesD l] ∧ l.length * 48 ≤ 140737488351232 := conf_slice_of Tryz.underlying23 (by kernel_rfl) (by kernel_rfl) (fun _ h => conf_Rule h) h
theorem conf_Model {g : Nat} {xs : List D} (h : Conf Tryz.prog (g + 8) 25 xs) : ∃ m : Md, xs = m.cells := by
  obtain ⟨p0, p1, rfl, h0, h1⟩ := conf_struct2_of Tryz.underlying25 h
  obtain ⟨a, rfl, _⟩ := conf_vars h0
  obtain ⟨l, rfl, _⟩ := conf_rules h1
  exact ⟨⟨a, l⟩, rfl⟩
theorem models (G : List (Nat × List D)) (m : Md) : ACr Tryz.prog G 28 [mdA m] (mdA m) := by
  refine AC.factI (f := Vr.cells) (xs := m.vars) (.agg .here) fun hlv => ?_
  refine AC.factI (f := Ru.cells) (xs := m.rules) (.agg (.there .here)) fun hlr => ?_
  refine AC.factU (f := Ru.cells) (e := St.cells) (g := Ru.sets) (xs := m.rules) 1 (fun _ => rfl) (.agg (.there .here)) fun hls => ?_
  refine AC_ofR (rs := [.cell 2 25]) Tryz.f28.ntmps Tryz.func28 rfl rfl rfl (by simp [Tryz.ntmps28]) fun W I => ?_
  all_goals haveI fA_ : FlagA := ⟨⟩
  all_goals haveI fH_ : FlagH := ⟨⟩
  repeat' (first
    | ((with_reducible apply call0); (focus rfl); (focus exact cal_ops); (focus exact opsU _ _); (focus rfl))
    | ((with_reducible apply je_call0); (focus rfl); (focus (decide +kernel)); (focus rfl); (focus exact cal_ops); (focus exact opsU _ _); (focus rfl))
    | exact True.intro
    | refine stp ?_
    | refine two ?_ ?_
    | refine allc fun c_ => ?_
    | (refine imp fun hc => ?_) <;> try (first | contradiction | (exfalso; omega) | (exfalso; exact absurd (of_dT hc) (by assumption)) | (exfalso; exact of_dF hc (by assumption)))
    | refine all fun v_ => ?_)
  all_goals clear fA_ fH_
  rename_i bm bt
  refine jrow (E := 111) (sz := 2) Ru.cells ?_
  refine J_loopV (X := Nat × Sl) (fun y => [(1, .val (.pointer (some ⟨bm, 0, none⟩))), (2, .val (.pointer (some ⟨bt, 0, none⟩))), (3, .val (.pointer (some ⟨v_, 0, none⟩))), (4, .int y.1)]) (fun y => [rowE y.2.v 111 2 Ru.cells (m.rules.take y.1), .cells v_ 25 [.d (varsD m.vars), .val y.2.v], .cells bm 25 [.d (varsD m.vars), .d (rulesD m.rules)], .cells bt 25 [.val (.slice none 0 0), .val (.slice none 0 0)]]) (fun y => y.1 ≤ m.rules.length) (fun y => m.rules.length - y.1) (0, Sl.nil) (Nat.zero_le _) (VS.take (by ((repeat (first | exact Take.nil | ((with_reducible apply Take.cons); (focus ((repeat (first | exact Sel.here | with_reducible apply Sel.there)); done))))); done)) ?_) ?_
  · repeat (first
      | exact Env.le_nil _
      | refine Env.le_cons (AV.le_refl _) ?_
      | refine Env.le_cons (AV.le_int rfl (by first | rfl | omega | (dsimp only; omega))) ?_)
  rintro ⟨i, q⟩ h1
  dsimp only at h1 ⊢
  have hlen : (m.rules.take i).length = i := by rw [List.length_take]; omega
  by_cases hi : i < m.rules.length
  · have hlsi := hls m.rules[i] (List.getElem_mem hi)
    all_goals haveI fA_ : FlagA := ⟨⟩
    all_goals haveI fH_ : FlagH := ⟨⟩
    repeat' (first
      | ((with_reducible apply call0); (focus rfl); (focus exact cal_ops); (focus exact opsU _ _); (focus rfl))
      | ((with_reducible apply je_call0); (focus rfl); (focus (decide +kernel)); (focus rfl); (focus exact cal_ops); (focus exact opsU _ _); (focus rfl))
      | exact True.intro
      | refine stp ?_
      | refine two ?_ ?_
      | refine allc fun c_ => ?_
      | (refine imp fun hc => ?_) <;> try (first | contradiction | (exfalso; omega) | (exfalso; exact absurd (of_dT hc) (by assumption)) | (exfalso; exact of_dF hc (by assumption)))
      | refine all fun v_ => ?_)
    all_goals clear fA_ fH_
    refine jrow (E := 113) (sz := 2) St.cells ?_
    rename_i bo
    refine J_loopV (X := Nat × Sl) (fun y => [(1, .val (.pointer (some ⟨bm, 0, none⟩))), (2, .val (.pointer (some ⟨bt, 0, none⟩))), (3, .val (.pointer (some ⟨bo, 0, none⟩))), (4, .int i), (5, .val (.pointer (some ⟨v_, 0, none⟩))), (6, .int y.1)]) (fun y => [rowE y.2.v 113 2 St.cells (m.rules[i].sets.take y.1), .cells v_ 111 [.d (opsD m.rules[i].guard), .val y.2.v], rowE q.v 111 2 Ru.cells (m.rules.take i), .cells bo 25 [.d (varsD m.vars), .val q.v], .cells bm 25 [.d (varsD m.vars), .d (rulesD m.rules)], .cells bt 25 [.val (.slice none 0 0), .val (.slice none 0 0)]]) (fun y => y.1 ≤ m.rules[i].sets.length) (fun y => m.rules[i].sets.length - y.1) (0, Sl.nil) (Nat.zero_le _) (VS.take (by ((repeat (first | exact Take.nil | ((with_reducible apply Take.cons); (focus ((repeat (first | exact Sel.here | with_reducible apply Sel.there)); done))))); done)) ?_) ?_
    · repeat (first
        | exact Env.le_nil _
        | refine Env.le_cons (AV.le_refl _) ?_
        | refine Env.le_cons (AV.le_int rfl (by first | rfl | omega | (dsimp only; omega))) ?_)
    rintro ⟨k, p⟩ k1
    dsimp only at k1 ⊢
    have hlen2 : (m.rules[i].sets.take k).length = k := by rw [List.length_take]; omega
    by_cases hk : k < m.rules[i].sets.length
    · have et : m.rules[i].sets.take k ++ [m.rules[i].sets[k]] = m.rules[i].sets.take (k + 1) := (List.take_succ_eq_append_getElem hk).symm
      all_goals haveI fA_ : FlagA := ⟨⟩
      all_goals haveI fH_ : FlagH := ⟨⟩
      all_goals haveI fS_ : StopAt 2 := ⟨⟩
      repeat' (first
        | ((with_reducible apply call0); (focus rfl); (focus exact cal_ops); (focus exact opsU _ _); (focus rfl))
        | ((with_reducible apply je_call0); (focus rfl); (focus (decide +kernel)); (focus rfl); (focus exact cal_ops); (focus exact opsU _ _); (focus rfl))
        | exact True.intro
        | refine stp ?_
        | refine two ?_ ?_
        | refine allc fun c_ => ?_
        | (refine imp fun hc => ?_) <;> try (first | contradiction | (exfalso; omega))
        | refine all fun v_ => ?_)
      all_goals clear fA_ fH_ fS_
      refine ⟨?_⟩
      refine J_region_HB [rowE p.v 113 2 St.cells (m.rules[i].sets.take k)] mixed rfl (by (repeat ((with_reducible apply Hd.cons); (focus rfl))); exact Hd.nil) (by (repeat (with_reducible apply len_cons)); exact len_nil) (by decide +kernel) (by ((repeat (first | with_reducible exact Take.nil | ((with_reducible apply Take.cons); (focus ((repeat (first | with_reducible exact Sel.here | with_reducible apply Sel.there)); done))))); done)) ?_
      all_goals haveI fA_ : FlagA := ⟨⟩
      all_goals haveI fH_ : FlagH := ⟨⟩
      repeat' (first
        | ((with_reducible apply call0); (focus rfl); (focus exact cal_ops); (focus exact opsU _ _); (focus rfl))
        | ((with_reducible apply je_call0); (focus rfl); (focus (decide +kernel)); (focus rfl); (focus exact cal_ops); (focus exact opsU _ _); (focus rfl))
        | ((with_reducible apply (jbuild_agg (cs := St.cells (m.rules[i].sets[k])))); (focus rfl); (focus rfl); (focus (with_reducible exact ElC.h)); (focus rfl); (focus rfl); (focus rfl); (focus rfl); (focus rfl))
        | exact True.intro
        | refine stp ?_
        | refine two ?_ ?_
        | refine allc fun c_ => ?_
        | (refine imp fun hc => ?_) <;> try (first | contradiction | (exfalso; omega) | (exfalso; exact absurd (of_dT hc) (by assumption)) | (exfalso; exact of_dF hc (by assumption)))
        | refine all fun v_ => ?_)
      all_goals clear fA_ fH_
      refine ⟨(k + 1, v_), by dsimp only; omega, by dsimp only; omega, ?_⟩
      dsimp only
      rw [← et]
      refine VS.take (by ((repeat (first | exact Take.nil | ((with_reducible apply Take.cons); (focus ((repeat (first | exact Sel.here | with_reducible apply Sel.there)); done))))); done)) ?_
      repeat (first
        | exact Env.le_nil _
        | refine Env.le_cons (AV.le_refl _) ?_
        | refine Env.le_cons (AV.le_int rfl (by first | rfl | omega | (dsimp only; omega))) ?_)
    obtain rfl : k = m.rules[i].sets.length := by omega
    rw [List.take_length]
    have et : m.rules.take i ++ [m.rules[i]] = m.rules.take (i + 1) := (List.take_succ_eq_append_getElem hi).symm
    refine J_vs (vdat (h1 := []) (h' := [.cells v_ 111 [.d (opsD m.rules[i].guard), .d (setsD m.rules[i].sets)], rowE q.v 111 2 Ru.cells (m.rules.take i), .cells bo 25 [.d (varsD m.vars), .val q.v], .cells bm 25 [.d (varsD m.vars), .d (rulesD m.rules)], .cells bt 25 [.val (.slice none 0 0), .val (.slice none 0 0)]]) 32 rfl rfl (fun _ => rfl) hlsi (CvE.refl _ _ _) (CvH.cells (.cons (.same _) (.cons .here .nil)) (.refl _))) ?_
    all_goals haveI fA_ : FlagA := ⟨⟩
    all_goals haveI fH_ : FlagH := ⟨⟩
    repeat' (first
      | ((with_reducible apply call0); (focus rfl); (focus exact cal_ops); (focus exact opsU _ _); (focus rfl))
      | ((with_reducible apply je_call0); (focus rfl); (focus (decide +kernel)); (focus rfl); (focus exact cal_ops); (focus exact opsU _ _); (focus rfl))
      | ((with_reducible apply (jbuild_agg (cs := Ru.cells m.rules[i]))); (focus rfl); (focus rfl); (focus (with_reducible exact ElC.h)); (focus rfl); (focus rfl); (focus rfl); (focus rfl); (focus rfl))
      | ((with_reducible apply (japU1 (f := Ru.cells) (u := m.rules[i]))); (focus rfl); (focus rfl); (focus (with_reducible exact ElC.h)); (focus (intro q_; (repeat (first | with_reducible exact Upd.here | with_reducible apply Upd.there)); done)); (focus rfl); (focus rfl); (focus rfl); (focus rfl); (focus (first | omega | (simp only [List.length_map, List.length_range, List.length_append, List.length_cons, List.length_nil, List.length_take, List.length_drop, List.length_set, List.length_replicate]; omega))); (focus (first | omega | (simp only [List.length_map, List.length_range, List.length_append, List.length_cons, List.length_nil, List.length_take, List.length_drop, List.length_set, List.length_replicate]; omega))))
      | exact True.intro
      | refine stp ?_
      | refine two ?_ ?_
      | refine allc fun c_ => ?_
      | (refine imp fun hc => ?_) <;> try (first | contradiction | (exfalso; omega) | (exfalso; exact absurd (of_dT hc) (by assumption)) | (exfalso; exact of_dF hc (by assumption)))
      | refine all fun v_ => ?_)
    all_goals clear fA_ fH_
    refine ⟨(i + 1, v_), by dsimp only; omega, by dsimp only; omega, ?_⟩
    dsimp only
    rw [← et]
    refine VS.take (by ((repeat (first | exact Take.nil | ((with_reducible apply Take.cons); (focus ((repeat (first | exact Sel.here | with_reducible apply Sel.there)); done))))); done)) ?_
    repeat (first
      | exact Env.le_nil _
      | refine Env.le_cons (AV.le_refl _) ?_
      | refine Env.le_cons (AV.le_int rfl (by first | rfl | omega | (dsimp only; omega))) ?_)
  obtain rfl : i = m.rules.length := by omega
  rw [List.take_length]
  refine J_vs (vdat (h1 := []) (h' := [.cells v_ 25 [.d (varsD m.vars), .d (rulesD m.rules)], .cells bm 25 [.d (varsD m.vars), .d (rulesD m.rules)], .cells bt 25 [.val (.slice none 0 0), .val (.slice none 0 0)]]) 48 rfl rfl (fun _ => rfl) hlr (CvE.refl _ _ _) (CvH.cells (.cons (.same _) (.cons .here .nil)) (.refl _))) ?_
  all_goals haveI fA_ : FlagA := ⟨⟩
  all_goals haveI fH_ : FlagH := ⟨⟩
  repeat' (first
    | exact True.intro
    | refine stp ?_
    | refine two ?_ ?_
    | refine allc fun c_ => ?_
    | (refine imp fun hc => ?_) <;> try (first | contradiction | (exfalso; omega) | (exfalso; exact absurd (of_dT hc) (by assumption)) | (exfalso; exact of_dF hc (by assumption)))
    | refine all fun v_ => ?_)
  all_goals clear fA_ fH_
  exact retr0 (xs := [mdA m]) ⟨rv_agg rfl (by (with_reducible exact ElC.h)) rfl (by ((repeat (first | exact List.mem_cons_self | apply List.mem_cons_of_mem)); done)) rfl, trivial⟩ rfl (h' := []) (List.nil_sublist _) (ret_eq rfl)
end Go.Proofs.YtmamiihpghnmmaaGreatDoor
namespace Go.Sp
open Go Go.Av
set_option linter.unusedVariables false
set_option linter.unusedSimpArgs false
structure Tk where
  model : Md
  props : List (List Fo)
  formula : List Fo
def Tk.cells (t : Tk) : List D := [varsD t.model.vars, rulesD t.model.rules, termsD t.props, opsD t.formula]
abbrev tkA (t : Tk) : AV := .agg [.d (varsD t.model.vars), .d (rulesD t.model.rules), .d (termsD t.props), .d (opsD t.formula)]
noncomputable def taskF (t : Tk) : Int := if propsF t.model t.props ≠ 0 then propsF t.model t.props else formF t.formula t.props.length
end Go.Sp
namespace Go.Proofs.YtmamiihpghnmmaaGreatDoor
open Go Go.Av Go.Sp
set_option linter.unusedVariables false
set_option linter.unusedSimpArgs false
set_option maxRecDepth 100000
set_option maxHeartbeats 4000000
theorem cal_terms : Cal Tryz.prog 29 := Cal.of Tryz.func29 (by kernel_rfl) (by kernel_rfl)
theorem cal_tasks : Cal Tryz.prog 8 := Cal.of Tryz.func8 (by kernel_rfl) (by kernel_rfl)
theorem conf_Task {g : Nat} {xs : List D} (h : Conf Tryz.prog (g + 9) 29 xs) : ∃ t : Tk, xs = t.cells := by
  obtain ⟨p0, p1, p2, rfl, h0, h1, h2⟩ := conf_struct3_of Tryz.underlying29 h
  obtain ⟨m, rfl⟩ := conf_Model h0
  obtain ⟨ps, rfl, _⟩ := conf_terms h1
  obtain ⟨f, rfl, _⟩ := conf_ops h2
  exact ⟨⟨m, ps, f⟩, rfl⟩
theorem terms (G : List (Nat × List D)) (a : List (List Fo)) : ACr Tryz.prog G 29 [.d (termsD a)] (.d (termsD a)) := by
  refine AC_ofV (ts := [2]) Tryz.f29.ntmps Tryz.func29 rfl rfl rfl (by simp [Tryz.ntmps29]) fun W I => ?_
  refine jfact (t := 0) rfl fun hl => ?_
  all_goals haveI fA_ : FlagA := ⟨⟩
  repeat' (first
    | ((with_reducible apply call0); (focus rfl); (focus exact cal_ops); (focus exact opsU _ _); (focus rfl))
    | ((with_reducible apply je_call0); (focus rfl); (focus (decide +kernel)); (focus rfl); (focus exact cal_ops); (focus exact opsU _ _); (focus rfl))
    | exact True.intro
    | refine stp ?_
    | refine two ?_ ?_
    | (refine imp fun hc => ?_) <;> try (first | contradiction | (exfalso; omega))
    | refine all fun v_ => ?_)
  all_goals clear fA_
  refine jrow (E := 27) (sz := 1) termC ?_
  refine J_loop (X := Nat × Sl) (fun y => [(0, .d (termsD a)), (3, .val y.2.v), (4, .int y.1)]) (fun y => [rowE y.2.v 27 1 termC (a.take y.1)]) (fun y => y.1 ≤ a.length) (fun y => a.length - y.1) (0, Sl.nil) (Nat.zero_le _) ?_ rfl ?_
  · repeat (first
      | exact Env.le_nil _
      | refine Env.le_cons (AV.le_refl _) ?_
      | refine Env.le_cons (AV.le_int rfl (by first | rfl | omega | (dsimp only; omega))) ?_)
  rintro ⟨i, v⟩ h1
  dsimp only at h1 ⊢
  have hlen : (a.take i).length = i := by rw [List.length_take]; omega
  all_goals haveI fA_ : FlagA := ⟨⟩
  repeat' (first
    | ((with_reducible apply call0); (focus rfl); (focus exact cal_ops); (focus exact opsU _ _); (focus rfl))
    | ((with_reducible apply je_call0); (focus rfl); (focus (decide +kernel)); (focus rfl); (focus exact cal_ops); (focus exact opsU _ _); (focus rfl))
    | exact True.intro
    | refine stp ?_
    | refine two ?_ ?_
    | (refine imp fun hc => ?_) <;> try (first | contradiction | (exfalso; omega))
    | refine all fun v_ => ?_)
  all_goals clear fA_
  · refine ⟨(i + 1, v_), by dsimp only; omega, by dsimp only; omega, ?_, ?_⟩
    · repeat (first
        | exact Env.le_nil _
        | refine Env.le_cons (AV.le_refl _) ?_
        | refine Env.le_cons (AV.le_int rfl (by first | rfl | omega | (dsimp only; omega))) ?_)
    · dsimp only
      rw [List.take_succ_eq_append_getElem (by omega)]
  · refine retv (vfreeze (t := 2) (eb := 24) rfl rfl (fun x => rfl) (by rw [hlen]; omega)) ?_
    ((with_reducible apply rq1); rfl; rfl)
    refine ret_eq ?_
    rw [List.take_of_length_le (by omega)]
theorem tasks (G : List (Nat × List D)) (t : Tk) : ACr Tryz.prog G 8 [tkA t] (tkA t) := by
  refine AC_ofR (rs := [.cell 2 29]) Tryz.f8.ntmps Tryz.func8 rfl rfl rfl (by simp [Tryz.ntmps8]) fun W I => ?_
  all_goals haveI fA_ : FlagA := ⟨⟩
  all_goals haveI fH_ : FlagH := ⟨⟩
  repeat' (first
    | ((with_reducible apply call0); (focus rfl); (focus exact cal_models); (focus exact models _ _); (focus rfl))
    | ((with_reducible apply je_call0); (focus rfl); (focus (decide +kernel)); (focus rfl); (focus exact cal_models); (focus exact models _ _); (focus rfl))
    | ((with_reducible apply call0); (focus rfl); (focus exact cal_terms); (focus exact terms _ _); (focus rfl))
    | ((with_reducible apply je_call0); (focus rfl); (focus (decide +kernel)); (focus rfl); (focus exact cal_terms); (focus exact terms _ _); (focus rfl))
    | ((with_reducible apply call0); (focus rfl); (focus exact cal_ops); (focus exact opsU _ _); (focus rfl))
    | ((with_reducible apply je_call0); (focus rfl); (focus (decide +kernel)); (focus rfl); (focus exact cal_ops); (focus exact opsU _ _); (focus rfl))
    | exact True.intro
    | refine stp ?_
    | refine two ?_ ?_
    | refine allc fun c_ => ?_
    | (refine imp fun hc => ?_) <;> try (first | contradiction | (exfalso; omega) | (exfalso; exact absurd (of_dT hc) (by assumption)) | (exfalso; exact of_dF hc (by assumption)))
    | refine all fun v_ => ?_)
  all_goals clear fA_ fH_
  exact retr0 (xs := [tkA t]) ⟨rv_agg rfl (by (with_reducible exact ElC.h)) rfl (by ((repeat (first | exact List.mem_cons_self | apply List.mem_cons_of_mem)); done)) rfl, trivial⟩ rfl (h' := []) (List.nil_sublist _) (ret_eq rfl)
theorem PCheck  (t : Tk) : ACr Tryz.prog GP 22 [tkA t] (.int (taskF t)) := by
  have hP := Props t.model t.props
  have hC := Check t.formula t.props.length
  unfold taskF
  generalize propsF t.model t.props = e1 at hP ⊢
  generalize formF t.formula t.props.length = e2 at hC ⊢
  refine AC_ofV (ts := [2]) Tryz.f22.ntmps Tryz.func22 rfl rfl rfl (by simp [Tryz.ntmps22]) fun W I => ?_
  by_cases h1 : e1 ≠ 0
  · all_goals haveI fA_ : FlagA := ⟨⟩
    all_goals haveI fH_ : FlagH := ⟨⟩
    repeat' (first
      | ((with_reducible apply call0); (focus rfl); (focus exact cal_Props); (focus exact hP); (focus rfl))
      | ((with_reducible apply je_call0); (focus rfl); (focus (decide +kernel)); (focus rfl); (focus exact cal_Props); (focus exact hP); (focus rfl))
      | ((with_reducible apply call0); (focus rfl); (focus exact cal_Check); (focus exact hC); (focus rfl))
      | ((with_reducible apply je_call0); (focus rfl); (focus (decide +kernel)); (focus rfl); (focus exact cal_Check); (focus exact hC); (focus rfl))
      | exact True.intro
      | refine stp ?_
      | refine two ?_ ?_
      | refine allc fun c_ => ?_
      | (refine imp fun hc => ?_) <;> try (first | contradiction | (exfalso; omega) | (exfalso; exact absurd (of_dT hc) (by assumption)) | (exfalso; exact of_dF hc (by assumption)))
      | refine all fun v_ => ?_)
    all_goals clear fA_ fH_
    refine retv (VS.drop (List.nil_sublist _)) ?_
    ((with_reducible apply rq1); rfl; rfl)
    exact ret_eq (by rw [if_pos h1])
  · all_goals haveI fA_ : FlagA := ⟨⟩
    all_goals haveI fH_ : FlagH := ⟨⟩
    repeat' (first
      | ((with_reducible apply call0); (focus rfl); (focus exact cal_Props); (focus exact hP); (focus rfl))
      | ((with_reducible apply je_call0); (focus rfl); (focus (decide +kernel)); (focus rfl); (focus exact cal_Props); (focus exact hP); (focus rfl))
      | ((with_reducible apply call0); (focus rfl); (focus exact cal_Check); (focus exact hC); (focus rfl))
      | ((with_reducible apply je_call0); (focus rfl); (focus (decide +kernel)); (focus rfl); (focus exact cal_Check); (focus exact hC); (focus rfl))
      | exact True.intro
      | refine stp ?_
      | refine two ?_ ?_
      | refine allc fun c_ => ?_
      | (refine imp fun hc => ?_) <;> try (first | contradiction | (exfalso; omega) | (exfalso; exact absurd (of_dT hc) (by assumption)) | (exfalso; exact of_dF hc (by assumption)))
      | refine all fun v_ => ?_)
    all_goals clear fA_ fH_
    refine retv (VS.drop (List.nil_sublist _)) ?_
    ((with_reducible apply rq1); rfl; rfl)
    exact ret_eq (by rw [if_neg h1])
theorem TaskFault (G : List (Nat × List D)) (t : Tk) : ACr Tryz.prog G 31 [tkA t] (.int (taskF t)) := by
  have hP := PropsFault G t.model t.props
  have hC := FormulaFault G t.formula t.props.length
  unfold taskF
  generalize propsF t.model t.props = e1 at hP ⊢
  generalize formF t.formula t.props.length = e2 at hC ⊢
  refine AC_ofV (ts := [2]) Tryz.f31.ntmps Tryz.func31 rfl rfl rfl (by simp [Tryz.ntmps31]) fun W I => ?_
  by_cases h1 : e1 ≠ 0
  · all_goals haveI fA_ : FlagA := ⟨⟩
    all_goals haveI fH_ : FlagH := ⟨⟩
    repeat' (first
      | ((with_reducible apply call0); (focus rfl); (focus exact cal_PropsFault); (focus exact hP); (focus rfl))
      | ((with_reducible apply je_call0); (focus rfl); (focus (decide +kernel)); (focus rfl); (focus exact cal_PropsFault); (focus exact hP); (focus rfl))
      | ((with_reducible apply call0); (focus rfl); (focus exact cal_FormulaFault); (focus exact hC); (focus rfl))
      | ((with_reducible apply je_call0); (focus rfl); (focus (decide +kernel)); (focus rfl); (focus exact cal_FormulaFault); (focus exact hC); (focus rfl))
      | exact True.intro
      | refine stp ?_
      | refine two ?_ ?_
      | refine allc fun c_ => ?_
      | (refine imp fun hc => ?_) <;> try (first | contradiction | (exfalso; omega) | (exfalso; exact absurd (of_dT hc) (by assumption)) | (exfalso; exact of_dF hc (by assumption)))
      | refine all fun v_ => ?_)
    all_goals clear fA_ fH_
    refine retv (VS.drop (List.nil_sublist _)) ?_
    ((with_reducible apply rq1); rfl; rfl)
    exact ret_eq (by rw [if_pos h1])
  · all_goals haveI fA_ : FlagA := ⟨⟩
    all_goals haveI fH_ : FlagH := ⟨⟩
    repeat' (first
      | ((with_reducible apply call0); (focus rfl); (focus exact cal_PropsFault); (focus exact hP); (focus rfl))
      | ((with_reducible apply je_call0); (focus rfl); (focus (decide +kernel)); (focus rfl); (focus exact cal_PropsFault); (focus exact hP); (focus rfl))
      | ((with_reducible apply call0); (focus rfl); (focus exact cal_FormulaFault); (focus exact hC); (focus rfl))
      | ((with_reducible apply je_call0); (focus rfl); (focus (decide +kernel)); (focus rfl); (focus exact cal_FormulaFault); (focus exact hC); (focus rfl))
      | exact True.intro
      | refine stp ?_
      | refine two ?_ ?_
      | refine allc fun c_ => ?_
      | (refine imp fun hc => ?_) <;> try (first | contradiction | (exfalso; omega) | (exfalso; exact absurd (of_dT hc) (by assumption)) | (exfalso; exact of_dF hc (by assumption)))
      | refine all fun v_ => ?_)
    all_goals clear fA_ fH_
    refine retv (VS.drop (List.nil_sublist _)) ?_
    ((with_reducible apply rq1); rfl; rfl)
    exact ret_eq (by rw [if_neg h1])
end Go.Proofs.YtmamiihpghnmmaaGreatDoor
namespace Go.Sp
open Go Go.Av
set_option linter.unusedVariables false
set_option linter.unusedSimpArgs false
def inits (m : Md) : List Int := m.vars.map Vr.init
end Go.Sp
namespace Go.Proofs.YtmamiihpghnmmaaGreatDoor
open Go Go.Av Go.Sp
set_option linter.unusedVariables false
set_option linter.unusedSimpArgs false
set_option maxRecDepth 100000
set_option maxHeartbeats 4000000

theorem cal_First : Cal Tryz.prog 79 := Cal.of Tryz.func79 (by kernel_rfl) (by kernel_rfl)
theorem cal_FirstCode : Cal Tryz.prog 57 := Cal.of Tryz.func57 (by kernel_rfl) (by kernel_rfl)
theorem First (m : Md) : ACr Tryz.prog GP 79 [mdA m] (.tup [.int (codeF m (inits m)).1, .int (codeF m (inits m)).2]) := by
  refine AC.factI (f := Vr.cells) (xs := m.vars) (.agg .here) fun hlv => ?_
  refine AC_ofV (ts := [2, 3]) Tryz.f79.ntmps Tryz.func79 rfl rfl rfl (by simp [Tryz.ntmps79]) fun W I => ?_
  have hin : (inits m).length = m.vars.length := by simp [inits]
  all_goals haveI fA_ : FlagA := ⟨⟩
  all_goals haveI fH_ : FlagH := ⟨⟩
  repeat' (first
    | exact True.intro
    | refine stp ?_
    | refine two ?_ ?_
    | refine allc fun c_ => ?_
    | (refine imp fun hc => ?_) <;> try (first | contradiction | (exfalso; omega) | (exfalso; exact absurd (of_dT hc) (by assumption)) | (exfalso; exact of_dF hc (by assumption)))
    | refine all fun v_ => ?_)
  all_goals clear fA_ fH_
  obtain ⟨bm, rfl⟩ : ∃ x, x = v_ := ⟨v_, rfl⟩
  refine jrow (E := 3) (sz := 1) intC ?_
  refine J_loopV (X := Nat × Sl) (fun y => [(1, .val (.pointer (some ⟨bm, 0, none⟩))), (4, .val y.2.v), (8, .d (varsD m.vars)), (9, .int m.vars.length), (10, .int y.1)]) (fun y => [rowE y.2.v 3 1 intC ((inits m).take y.1), .cells bm 25 [.d (varsD m.vars), .d (rulesD m.rules)]]) (fun y => y.1 ≤ m.vars.length) (fun y => m.vars.length - y.1) (0, Sl.nil) (Nat.zero_le _) (VS.of_le ?_) ?_
  · repeat (first
      | exact Env.le_nil _
      | refine Env.le_cons (AV.le_refl _) ?_
      | refine Env.le_cons (AV.le_int rfl (by first | rfl | omega | (dsimp only; omega))) ?_)
  rintro ⟨i, q⟩ h1
  dsimp only at h1 ⊢
  have hlen : ((inits m).take i).length = i := by rw [List.length_take]; omega
  by_cases hi : i < m.vars.length
  · have et : (inits m).take i ++ [m.vars[i].init] = (inits m).take (i + 1) := by rw [List.take_succ_eq_append_getElem (by omega)]; simp [inits]
    all_goals haveI fA_ : FlagA := ⟨⟩
    all_goals haveI fH_ : FlagH := ⟨⟩
    repeat' (first
      | exact True.intro
      | refine stp ?_
      | refine two ?_ ?_
      | refine allc fun c_ => ?_
      | (refine imp fun hc => ?_) <;> try (first | contradiction | (exfalso; omega) | (exfalso; exact absurd (of_dT hc) (by assumption)) | (exfalso; exact of_dF hc (by assumption)))
      | refine all fun v_ => ?_)
    all_goals clear fA_ fH_
    refine ⟨(i + 1, v_), by dsimp only; omega, by dsimp only; omega, ?_⟩
    dsimp only
    rw [← et]
    refine VS.take (by ((repeat (first | exact Take.nil | ((with_reducible apply Take.cons); (focus ((repeat (first | exact Sel.here | with_reducible apply Sel.there)); done))))); done)) ?_
    repeat (first
      | exact Env.le_nil _
      | refine Env.le_cons (AV.le_refl _) ?_
      | refine Env.le_cons (AV.le_int rfl (by first | rfl | omega | (dsimp only; omega))) ?_)
  obtain rfl : i = m.vars.length := by omega
  rw [List.take_of_length_le (by omega)]
  refine J_vs (vdat (h1 := []) (h' := [.cells bm 25 [.d (varsD m.vars), .d (rulesD m.rules)]]) 8 rfl rfl (fun _ => rfl) (by omega) (CvE.cons (t := 4) rfl .here (CvE.refl _ _ _)) (CvH.refl _)) ?_
  all_goals haveI fA_ : FlagA := ⟨⟩
  all_goals haveI fH_ : FlagH := ⟨⟩
  repeat' (first
    | ((with_reducible apply call0); (focus rfl); (focus exact cal_Code); (focus exact Code _ _); (focus rfl))
    | ((with_reducible apply je_call0); (focus rfl); (focus (decide +kernel)); (focus rfl); (focus exact cal_Code); (focus exact Code _ _); (focus rfl))
    | exact True.intro
    | refine stp ?_
    | refine two ?_ ?_
    | refine allc fun c_ => ?_
    | (refine imp fun hc => ?_) <;> try (first | contradiction | (exfalso; omega) | (exfalso; exact absurd (of_dT hc) (by assumption)) | (exfalso; exact of_dF hc (by assumption)))
    | refine all fun v_ => ?_)
  all_goals clear fA_ fH_
  refine retv (VS.drop (List.nil_sublist _)) ?_
  ((with_reducible apply rq2); rfl; rfl; rfl)
  exact ret_eq rfl
theorem FirstCode (G : List (Nat × List D)) (m : Md) : ACr Tryz.prog G 57 [mdA m] (.tup [.int (codeF m (inits m)).1, .int (codeF m (inits m)).2]) := by
  refine AC.factI (f := Vr.cells) (xs := m.vars) (.agg .here) fun hlv => ?_
  refine AC_ofV (ts := [2, 3]) Tryz.f57.ntmps Tryz.func57 rfl rfl rfl (by simp [Tryz.ntmps57]) fun W I => ?_
  have hin : (inits m).length = m.vars.length := by simp [inits]
  all_goals haveI fA_ : FlagA := ⟨⟩
  all_goals haveI fH_ : FlagH := ⟨⟩
  repeat' (first
    | exact True.intro
    | refine stp ?_
    | refine two ?_ ?_
    | refine allc fun c_ => ?_
    | (refine imp fun hc => ?_) <;> try (first | contradiction | (exfalso; omega) | (exfalso; exact absurd (of_dT hc) (by assumption)) | (exfalso; exact of_dF hc (by assumption)))
    | refine all fun v_ => ?_)
  all_goals clear fA_ fH_
  obtain ⟨bm, rfl⟩ : ∃ x, x = v_ := ⟨v_, rfl⟩
  refine jrow (E := 3) (sz := 1) intC ?_
  refine J_loopV (X := Nat × Sl) (fun y => [(1, .val (.pointer (some ⟨bm, 0, none⟩))), (4, .val y.2.v), (5, .int y.1)]) (fun y => [rowE y.2.v 3 1 intC ((inits m).take y.1), .cells bm 25 [.d (varsD m.vars), .d (rulesD m.rules)]]) (fun y => y.1 ≤ m.vars.length) (fun y => m.vars.length - y.1) (0, Sl.nil) (Nat.zero_le _) (VS.of_le ?_) ?_
  · repeat (first
      | exact Env.le_nil _
      | refine Env.le_cons (AV.le_refl _) ?_
      | refine Env.le_cons (AV.le_int rfl (by first | rfl | omega | (dsimp only; omega))) ?_)
  rintro ⟨i, q⟩ h1
  dsimp only at h1 ⊢
  have hlen : ((inits m).take i).length = i := by rw [List.length_take]; omega
  by_cases hi : i < m.vars.length
  · have et : (inits m).take i ++ [m.vars[i].init] = (inits m).take (i + 1) := by rw [List.take_succ_eq_append_getElem (by omega)]; simp [inits]
    all_goals haveI fA_ : FlagA := ⟨⟩
    all_goals haveI fH_ : FlagH := ⟨⟩
    repeat' (first
      | exact True.intro
      | refine stp ?_
      | refine two ?_ ?_
      | refine allc fun c_ => ?_
      | (refine imp fun hc => ?_) <;> try (first | contradiction | (exfalso; omega) | (exfalso; exact absurd (of_dT hc) (by assumption)) | (exfalso; exact of_dF hc (by assumption)))
      | refine all fun v_ => ?_)
    all_goals clear fA_ fH_
    refine ⟨(i + 1, v_), by dsimp only; omega, by dsimp only; omega, ?_⟩
    dsimp only
    rw [← et]
    refine VS.take (by ((repeat (first | exact Take.nil | ((with_reducible apply Take.cons); (focus ((repeat (first | exact Sel.here | with_reducible apply Sel.there)); done))))); done)) ?_
    repeat (first
      | exact Env.le_nil _
      | refine Env.le_cons (AV.le_refl _) ?_
      | refine Env.le_cons (AV.le_int rfl (by first | rfl | omega | (dsimp only; omega))) ?_)
  obtain rfl : i = m.vars.length := by omega
  rw [List.take_of_length_le (by omega)]
  refine J_vs (vdat (h1 := []) (h' := [.cells bm 25 [.d (varsD m.vars), .d (rulesD m.rules)]]) 8 rfl rfl (fun _ => rfl) (by omega) (CvE.cons (t := 4) rfl .here (CvE.refl _ _ _)) (CvH.refl _)) ?_
  all_goals haveI fA_ : FlagA := ⟨⟩
  all_goals haveI fH_ : FlagH := ⟨⟩
  repeat' (first
    | ((with_reducible apply call0); (focus rfl); (focus exact cal_CodeOf); (focus exact CodeOf _ _ _); (focus rfl))
    | ((with_reducible apply je_call0); (focus rfl); (focus (decide +kernel)); (focus rfl); (focus exact cal_CodeOf); (focus exact CodeOf _ _ _); (focus rfl))
    | exact True.intro
    | refine stp ?_
    | refine two ?_ ?_
    | refine allc fun c_ => ?_
    | (refine imp fun hc => ?_) <;> try (first | contradiction | (exfalso; omega) | (exfalso; exact absurd (of_dT hc) (by assumption)) | (exfalso; exact of_dF hc (by assumption)))
    | refine all fun v_ => ?_)
  all_goals clear fA_ fH_
  refine retv (VS.drop (List.nil_sublist _)) ?_
  ((with_reducible apply rq2); rfl; rfl; rfl)
  exact ret_eq rfl
end Go.Proofs.YtmamiihpghnmmaaGreatDoor
