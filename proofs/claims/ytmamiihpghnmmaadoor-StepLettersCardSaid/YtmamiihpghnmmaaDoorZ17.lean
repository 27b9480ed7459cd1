/- A bundle of this claim's own texts: M4 N2 Top G13 E8 N3 N4 N5. -/
import Derived.Test.YtmamiihpghnmmaaDoorCards
import Derived.Test.YtmamiihpghnmmaaDoorTie
import Derived.WalkKit
import Derived.ProofKit
import Derived.OpenShut
import Derived.Deep.DeepHandedRow
import Derived.Lib.LaidTab
import Derived.Laws.Cover3
import Derived.Test.YtmamiihpghnmmaaDoorZ2
import Derived.Test.YtmamiihpghnmmaaDoorZ4
import Derived.Test.YtmamiihpghnmmaaDoorZ7
import Derived.Test.YtmamiihpghnmmaaDoorZ8
import Derived.Test.YtmamiihpghnmmaaDoorZ11
import Derived.Test.YtmamiihpghnmmaaDoorZ16
namespace Go.Proofs.YtmamiihpghnmmaaDoor
open Go Go.Av Go.Sp
set_option linter.unusedVariables false
set_option linter.unusedSimpArgs false
set_option maxRecDepth 100000
set_option maxHeartbeats 4000000

theorem cal_models : Cal Tryd.prog 15 := Cal.of Tryd.func15 (by kernel_rfl) (by kernel_rfl)
theorem cal_sameModel : Cal Tryd.prog 21 := Cal.of Tryd.func21 (by kernel_rfl) (by kernel_rfl)
theorem conf_Variable {g : Nat} {xs : List D} (h : Conf Tryd.prog (g + 2) 79 xs) : ∃ v : Vr, xs = v.cells := by
  obtain ⟨p0, p1, p2, p3, rfl, h0, h1, h2, h3⟩ := conf_struct4_of Tryd.underlying79 h
  obtain ⟨s, rfl, _⟩ := conf_string_of Tryd.underlying9 h0
  obtain ⟨a, rfl⟩ := conf_int h1
  obtain ⟨b, rfl⟩ := conf_int h2
  obtain ⟨c, rfl⟩ := conf_int h3
  exact ⟨⟨s, a, b, c⟩, rfl⟩
theorem conf_vars {g : Nat} {xs : List D} (h : Conf Tryd.prog (g + 3) 22 xs) : ∃ l : List Vr, xs = [varsD l] ∧ l.length * 40 ≤ 140737488351232 := conf_slice_of Tryd.underlying22 (by kernel_rfl) (by kernel_rfl) (fun _ h => conf_Variable h) h
theorem conf_Set {g : Nat} {xs : List D} (h : Conf Tryd.prog (g + 4) 73 xs) : ∃ s : St, xs = s.cells := by
  obtain ⟨p0, p1, rfl, h0, h1⟩ := conf_struct2_of Tryd.underlying73 h
  obtain ⟨a, rfl⟩ := conf_int h0
  obtain ⟨l, rfl, _⟩ := conf_ops h1
  exact ⟨⟨a, l⟩, rfl⟩
theorem conf_sets {g : Nat} {xs : List D} (h : Conf Tryd.prog (g + 5) 69 xs) : ∃ l : List St, xs = [setsD l] ∧ l.length * 32 ≤ 140737488351232 := conf_slice_of Tryd.underlying69 (by kernel_rfl) (by kernel_rfl) (fun _ h => conf_Set h) h
theorem conf_Rule {g : Nat} {xs : List D} (h : Conf Tryd.prog (g + 6) 71 xs) : ∃ r : Ru, xs = r.cells := by
  obtain ⟨p0, p1, rfl, h0, h1⟩ := conf_struct2_of Tryd.underlying71 h
  obtain ⟨a, rfl, _⟩ := conf_ops h0
  obtain ⟨l, rfl, _⟩ := conf_sets h1
  exact ⟨⟨a, l⟩, rfl⟩
theorem conf_rules {g : Nat} {xs : List D} (h : Conf Tryd.prog (g + 7) 23 xs) : ∃ l : List Ru, xs = [rulesD l] ∧ l.length * 48 ≤ 140737488351232 := conf_slice_of Tryd.underlying23 (by kernel_rfl) (by kernel_rfl) (fun _ h => conf_Rule h) h
theorem conf_Model {g : Nat} {xs : List D} (h : Conf Tryd.prog (g + 8) 25 xs) : ∃ m : Md, xs = m.cells := by
  obtain ⟨p0, p1, rfl, h0, h1⟩ := conf_struct2_of Tryd.underlying25 h
  obtain ⟨a, rfl, _⟩ := conf_vars h0
  obtain ⟨l, rfl, _⟩ := conf_rules h1
  exact ⟨⟨a, l⟩, rfl⟩
theorem eq4_Variable : Eq4 Tryd.prog 79 := ⟨by kernel_rfl, fun s a b c w => by
  have u3 := Tryd.underlying3
  have u9 := Tryd.underlying9
  rw [show (10000 : Nat) = 9999 + 1 from rfl, run_equalIn_agg w 9999 79 _ _ (by kernel_rfl) (by kernel_rfl)]
  simp only [Program.fieldsOf, Tryd.underlying79]
  go_simp
  try simp⟩
theorem models (G : List (Nat × List D)) (m : Md) : ACr Tryd.prog G 15 [mdA m] (mdA m) := by
  refine AC.factI (f := Vr.cells) (xs := m.vars) (.agg .here) fun hlv => ?_
  refine AC.factI (f := Ru.cells) (xs := m.rules) (.agg (.there .here)) fun hlr => ?_
  refine AC.factU (f := Ru.cells) (e := St.cells) (g := Ru.sets) (xs := m.rules) 1 (fun _ => rfl) (.agg (.there .here)) fun hls => ?_
  refine AC_ofR (rs := [.cell 2 25]) Tryd.f15.ntmps Tryd.func15 rfl rfl rfl (by simp [Tryd.ntmps15]) fun W I => ?_
  all_goals haveI fA_ : FlagA := ⟨⟩
  all_goals haveI fH_ : FlagH := ⟨⟩
  repeat' (first
    | ((with_reducible apply call0); (focus rfl); (focus exact cal_ops); (focus exact opsU _ _); (focus rfl))
    | ((with_reducible apply je_call0); (focus rfl); (focus (decide +kernel)); (focus rfl); (focus exact cal_ops); (focus exact opsU _ _); (focus rfl))
    | exact True.intro
    | refine stp ?_
    | refine two ?_ ?_
    | refine allc fun c_ => ?_
    | (refine imp fun hc => ?_) <;> try (first | contradiction | (exfalso; omega) | (exfalso; exact absurd (of_dT hc) (by assumption)) | (exfalso; exact of_dF hc (by assumption)))
    | refine all fun v_ => ?_)
  all_goals clear fA_ fH_
  rename_i bm bt
  refine jrow (E := 71) (sz := 2) Ru.cells ?_
  refine J_loopV (X := Nat × Sl) (fun y => [(1, .val (.pointer (some ⟨bm, 0, none⟩))), (2, .val (.pointer (some ⟨bt, 0, none⟩))), (3, .val (.pointer (some ⟨v_, 0, none⟩))), (4, .int y.1)]) (fun y => [rowE y.2.v 71 2 Ru.cells (m.rules.take y.1), .cells v_ 25 [.d (varsD m.vars), .val y.2.v], .cells bm 25 [.d (varsD m.vars), .d (rulesD m.rules)], .cells bt 25 [.val (.slice none 0 0), .val (.slice none 0 0)]]) (fun y => y.1 ≤ m.rules.length) (fun y => m.rules.length - y.1) (0, Sl.nil) (Nat.zero_le _) (VS.take (by ((repeat (first | exact Take.nil | ((with_reducible apply Take.cons); (focus ((repeat (first | exact Sel.here | with_reducible apply Sel.there)); done))))); done)) ?_) ?_
  · repeat (first
      | exact Env.le_nil _
      | refine Env.le_cons (AV.le_refl _) ?_
      | refine Env.le_cons (AV.le_int rfl (by first | rfl | omega | (dsimp only; omega))) ?_)
  rintro ⟨i, q⟩ h1
  dsimp only at h1 ⊢
  have hlen : (m.rules.take i).length = i := by rw [List.length_take]; omega
  by_cases hi : i < m.rules.length
  · have hlsi := hls m.rules[i] (List.getElem_mem hi)
    all_goals haveI fA_ : FlagA := ⟨⟩
    all_goals haveI fH_ : FlagH := ⟨⟩
    repeat' (first
      | ((with_reducible apply call0); (focus rfl); (focus exact cal_ops); (focus exact opsU _ _); (focus rfl))
      | ((with_reducible apply je_call0); (focus rfl); (focus (decide +kernel)); (focus rfl); (focus exact cal_ops); (focus exact opsU _ _); (focus rfl))
      | exact True.intro
      | refine stp ?_
      | refine two ?_ ?_
      | refine allc fun c_ => ?_
      | (refine imp fun hc => ?_) <;> try (first | contradiction | (exfalso; omega) | (exfalso; exact absurd (of_dT hc) (by assumption)) | (exfalso; exact of_dF hc (by assumption)))
      | refine all fun v_ => ?_)
    all_goals clear fA_ fH_
    refine jrow (E := 73) (sz := 2) St.cells ?_
    rename_i bo
    refine J_loopV (X := Nat × Sl) (fun y => [(1, .val (.pointer (some ⟨bm, 0, none⟩))), (2, .val (.pointer (some ⟨bt, 0, none⟩))), (3, .val (.pointer (some ⟨bo, 0, none⟩))), (4, .int i), (5, .val (.pointer (some ⟨v_, 0, none⟩))), (6, .int y.1)]) (fun y => [rowE y.2.v 73 2 St.cells (m.rules[i].sets.take y.1), .cells v_ 71 [.d (opsD m.rules[i].guard), .val y.2.v], rowE q.v 71 2 Ru.cells (m.rules.take i), .cells bo 25 [.d (varsD m.vars), .val q.v], .cells bm 25 [.d (varsD m.vars), .d (rulesD m.rules)], .cells bt 25 [.val (.slice none 0 0), .val (.slice none 0 0)]]) (fun y => y.1 ≤ m.rules[i].sets.length) (fun y => m.rules[i].sets.length - y.1) (0, Sl.nil) (Nat.zero_le _) (VS.take (by ((repeat (first | exact Take.nil | ((with_reducible apply Take.cons); (focus ((repeat (first | exact Sel.here | with_reducible apply Sel.there)); done))))); done)) ?_) ?_
    · repeat (first
        | exact Env.le_nil _
        | refine Env.le_cons (AV.le_refl _) ?_
        | refine Env.le_cons (AV.le_int rfl (by first | rfl | omega | (dsimp only; omega))) ?_)
    rintro ⟨k, p⟩ k1
    dsimp only at k1 ⊢
    have hlen2 : (m.rules[i].sets.take k).length = k := by rw [List.length_take]; omega
    by_cases hk : k < m.rules[i].sets.length
    · have et : m.rules[i].sets.take k ++ [m.rules[i].sets[k]] = m.rules[i].sets.take (k + 1) := (List.take_succ_eq_append_getElem hk).symm
      all_goals haveI fA_ : FlagA := ⟨⟩
      all_goals haveI fH_ : FlagH := ⟨⟩
      all_goals haveI fS_ : StopAt 2 := ⟨⟩
      repeat' (first
        | ((with_reducible apply call0); (focus rfl); (focus exact cal_ops); (focus exact opsU _ _); (focus rfl))
        | ((with_reducible apply je_call0); (focus rfl); (focus (decide +kernel)); (focus rfl); (focus exact cal_ops); (focus exact opsU _ _); (focus rfl))
        | exact True.intro
        | refine stp ?_
        | refine two ?_ ?_
        | refine allc fun c_ => ?_
        | (refine imp fun hc => ?_) <;> try (first | contradiction | (exfalso; omega))
        | refine all fun v_ => ?_)
      all_goals clear fA_ fH_ fS_
      refine ⟨?_⟩
      refine J_region_HB [rowE p.v 73 2 St.cells (m.rules[i].sets.take k)] mixed rfl (by (repeat ((with_reducible apply Hd.cons); (focus rfl))); exact Hd.nil) (by (repeat (with_reducible apply len_cons)); exact len_nil) (by decide +kernel) (by ((repeat (first | with_reducible exact Take.nil | ((with_reducible apply Take.cons); (focus ((repeat (first | with_reducible exact Sel.here | with_reducible apply Sel.there)); done))))); done)) ?_
      all_goals haveI fA_ : FlagA := ⟨⟩
      all_goals haveI fH_ : FlagH := ⟨⟩
      repeat' (first
        | ((with_reducible apply call0); (focus rfl); (focus exact cal_ops); (focus exact opsU _ _); (focus rfl))
        | ((with_reducible apply je_call0); (focus rfl); (focus (decide +kernel)); (focus rfl); (focus exact cal_ops); (focus exact opsU _ _); (focus rfl))
        | ((with_reducible apply (jbuild_agg (cs := St.cells (m.rules[i].sets[k])))); (focus rfl); (focus rfl); (focus (with_reducible exact ElC.h)); (focus rfl); (focus rfl); (focus rfl); (focus rfl); (focus rfl))
        | exact True.intro
        | refine stp ?_
        | refine two ?_ ?_
        | refine allc fun c_ => ?_
        | (refine imp fun hc => ?_) <;> try (first | contradiction | (exfalso; omega) | (exfalso; exact absurd (of_dT hc) (by assumption)) | (exfalso; exact of_dF hc (by assumption)))
        | refine all fun v_ => ?_)
      all_goals clear fA_ fH_
      refine ⟨(k + 1, v_), by dsimp only; omega, by dsimp only; omega, ?_⟩
      dsimp only
      rw [← et]
      refine VS.take (by ((repeat (first | exact Take.nil | ((with_reducible apply Take.cons); (focus ((repeat (first | exact Sel.here | with_reducible apply Sel.there)); done))))); done)) ?_
      repeat (first
        | exact Env.le_nil _
        | refine Env.le_cons (AV.le_refl _) ?_
        | refine Env.le_cons (AV.le_int rfl (by first | rfl | omega | (dsimp only; omega))) ?_)
    obtain rfl : k = m.rules[i].sets.length := by omega
    rw [List.take_length]
    have et : m.rules.take i ++ [m.rules[i]] = m.rules.take (i + 1) := (List.take_succ_eq_append_getElem hi).symm
    refine J_vs (vdat (h1 := []) (h' := [.cells v_ 71 [.d (opsD m.rules[i].guard), .d (setsD m.rules[i].sets)], rowE q.v 71 2 Ru.cells (m.rules.take i), .cells bo 25 [.d (varsD m.vars), .val q.v], .cells bm 25 [.d (varsD m.vars), .d (rulesD m.rules)], .cells bt 25 [.val (.slice none 0 0), .val (.slice none 0 0)]]) 32 rfl rfl (fun _ => rfl) hlsi (CvE.refl _ _ _) (CvH.cells (.cons (.same _) (.cons .here .nil)) (.refl _))) ?_
    all_goals haveI fA_ : FlagA := ⟨⟩
    all_goals haveI fH_ : FlagH := ⟨⟩
    repeat' (first
      | ((with_reducible apply call0); (focus rfl); (focus exact cal_ops); (focus exact opsU _ _); (focus rfl))
      | ((with_reducible apply je_call0); (focus rfl); (focus (decide +kernel)); (focus rfl); (focus exact cal_ops); (focus exact opsU _ _); (focus rfl))
      | ((with_reducible apply (jbuild_agg (cs := Ru.cells m.rules[i]))); (focus rfl); (focus rfl); (focus (with_reducible exact ElC.h)); (focus rfl); (focus rfl); (focus rfl); (focus rfl); (focus rfl))
      | ((with_reducible apply (japU1 (f := Ru.cells) (u := m.rules[i]))); (focus rfl); (focus rfl); (focus (with_reducible exact ElC.h)); (focus (intro q_; (repeat (first | with_reducible exact Upd.here | with_reducible apply Upd.there)); done)); (focus rfl); (focus rfl); (focus rfl); (focus rfl); (focus (first | omega | (simp only [List.length_map, List.length_range, List.length_append, List.length_cons, List.length_nil, List.length_take, List.length_drop, List.length_set, List.length_replicate]; omega))); (focus (first | omega | (simp only [List.length_map, List.length_range, List.length_append, List.length_cons, List.length_nil, List.length_take, List.length_drop, List.length_set, List.length_replicate]; omega))))
      | exact True.intro
      | refine stp ?_
      | refine two ?_ ?_
      | refine allc fun c_ => ?_
      | (refine imp fun hc => ?_) <;> try (first | contradiction | (exfalso; omega) | (exfalso; exact absurd (of_dT hc) (by assumption)) | (exfalso; exact of_dF hc (by assumption)))
      | refine all fun v_ => ?_)
    all_goals clear fA_ fH_
    refine ⟨(i + 1, v_), by dsimp only; omega, by dsimp only; omega, ?_⟩
    dsimp only
    rw [← et]
    refine VS.take (by ((repeat (first | exact Take.nil | ((with_reducible apply Take.cons); (focus ((repeat (first | exact Sel.here | with_reducible apply Sel.there)); done))))); done)) ?_
    repeat (first
      | exact Env.le_nil _
      | refine Env.le_cons (AV.le_refl _) ?_
      | refine Env.le_cons (AV.le_int rfl (by first | rfl | omega | (dsimp only; omega))) ?_)
  obtain rfl : i = m.rules.length := by omega
  rw [List.take_length]
  refine J_vs (vdat (h1 := []) (h' := [.cells v_ 25 [.d (varsD m.vars), .d (rulesD m.rules)], .cells bm 25 [.d (varsD m.vars), .d (rulesD m.rules)], .cells bt 25 [.val (.slice none 0 0), .val (.slice none 0 0)]]) 48 rfl rfl (fun _ => rfl) hlr (CvE.refl _ _ _) (CvH.cells (.cons (.same _) (.cons .here .nil)) (.refl _))) ?_
  all_goals haveI fA_ : FlagA := ⟨⟩
  all_goals haveI fH_ : FlagH := ⟨⟩
  repeat' (first
    | exact True.intro
    | refine stp ?_
    | refine two ?_ ?_
    | refine allc fun c_ => ?_
    | (refine imp fun hc => ?_) <;> try (first | contradiction | (exfalso; omega) | (exfalso; exact absurd (of_dT hc) (by assumption)) | (exfalso; exact of_dF hc (by assumption)))
    | refine all fun v_ => ?_)
  all_goals clear fA_ fH_
  exact retr0 (xs := [mdA m]) ⟨rv_agg rfl (by (with_reducible exact ElC.h)) rfl (by ((repeat (first | exact List.mem_cons_self | apply List.mem_cons_of_mem)); done)) rfl, trivial⟩ rfl (h' := []) (List.nil_sublist _) (ret_eq rfl)
theorem sameModel (G : List (Nat × List D)) (m : Md) : ACr Tryd.prog G 21 [mdA m, mdA m] (.bool true) := by
  refine AC.factI (f := Vr.cells) (xs := m.vars) (.agg .here) fun hlv => ?_
  refine AC.factI (f := Ru.cells) (xs := m.rules) (.agg (.there .here)) fun hlr => ?_
  refine AC.factU (f := Ru.cells) (e := St.cells) (g := Ru.sets) (xs := m.rules) 1 (fun _ => rfl) (.agg (.there .here)) fun hls => ?_
  refine AC_ofV (ts := [4]) Tryd.f21.ntmps Tryd.func21 rfl rfl rfl (by simp [Tryd.ntmps21]) fun W I => ?_
  all_goals haveI fA_ : FlagA := ⟨⟩
  all_goals haveI fH_ : FlagH := ⟨⟩
  repeat' (first
    | exact True.intro
    | refine stp ?_
    | refine two ?_ ?_
    | refine allc fun c_ => ?_
    | (refine imp fun hc => ?_) <;> try (first | contradiction | (exfalso; omega) | (exfalso; exact absurd (of_dT hc) (by assumption)) | (exfalso; exact of_dF hc (by assumption)))
    | refine all fun v_ => ?_)
  all_goals clear fA_ fH_
  rename_i ba _
  obtain ⟨bb, rfl⟩ : ∃ x, x = v_ := ⟨v_, rfl⟩
  refine J_loopV (X := Nat) (fun i => [(2, .val (.pointer (some ⟨ba, 0, none⟩))), (3, .val (.pointer (some ⟨bb, 0, none⟩))), (5, .int i)]) (fun _ => [.cells bb 25 [.d (varsD m.vars), .d (rulesD m.rules)], .cells ba 25 [.d (varsD m.vars), .d (rulesD m.rules)]]) (fun i => i ≤ m.vars.length) (fun i => m.vars.length - i) 0 (Nat.zero_le _) (VS.of_le ?_) ?_
  · repeat (first
      | exact Env.le_nil _
      | refine Env.le_cons (AV.le_refl _) ?_
      | refine Env.le_cons (AV.le_int rfl (by first | rfl | omega | (dsimp only; omega))) ?_)
  rintro i h1
  by_cases hi : i < m.vars.length
  · 
    all_goals haveI fA_ : FlagA := ⟨⟩
    all_goals haveI fH_ : FlagH := ⟨⟩
    repeat' (first
      | ((with_reducible apply jp); (focus ((with_reducible apply (pu_neq4 eq4_Variable)); rfl; rfl)); (focus rfl))
      | exact True.intro
      | refine stp ?_
      | refine two ?_ ?_
      | refine allc fun c_ => ?_
      | (refine imp fun hc => ?_) <;> try (first | contradiction | (exfalso; omega) | (exfalso; exact absurd (of_dT hc) (by assumption)) | (exfalso; exact of_dF hc (by assumption)))
      | refine all fun v_ => ?_)
    all_goals clear fA_ fH_
    refine ⟨i + 1, by omega, by omega, VS.of_le ?_⟩
    repeat (first
      | exact Env.le_nil _
      | refine Env.le_cons (AV.le_refl _) ?_
      | refine Env.le_cons (AV.le_int rfl (by first | rfl | omega | (dsimp only; omega))) ?_)
  obtain rfl : i = m.vars.length := by omega
  all_goals haveI fA_ : FlagA := ⟨⟩
  all_goals haveI fH_ : FlagH := ⟨⟩
  repeat' (first
    | exact True.intro
    | refine stp ?_
    | refine two ?_ ?_
    | refine allc fun c_ => ?_
    | (refine imp fun hc => ?_) <;> try (first | contradiction | (exfalso; omega) | (exfalso; exact absurd (of_dT hc) (by assumption)) | (exfalso; exact of_dF hc (by assumption)))
    | refine all fun v_ => ?_)
  all_goals clear fA_ fH_
  refine J_loopV (X := Nat) (fun i => [(2, .val (.pointer (some ⟨ba, 0, none⟩))), (3, .val (.pointer (some ⟨bb, 0, none⟩))), (6, .int i)]) (fun _ => [.cells bb 25 [.d (varsD m.vars), .d (rulesD m.rules)], .cells ba 25 [.d (varsD m.vars), .d (rulesD m.rules)]]) (fun i => i ≤ m.rules.length) (fun i => m.rules.length - i) 0 (Nat.zero_le _) (VS.of_le ?_) ?_
  · repeat (first
      | exact Env.le_nil _
      | refine Env.le_cons (AV.le_refl _) ?_
      | refine Env.le_cons (AV.le_int rfl (by first | rfl | omega | (dsimp only; omega))) ?_)
  rintro i h1
  by_cases hi : i < m.rules.length
  · have hlsi := hls m.rules[i] (List.getElem_mem hi)
    have e1 := ACr_true (sameOps G m.rules[i].guard m.rules[i].guard) rfl
    all_goals haveI fA_ : FlagA := ⟨⟩
    all_goals haveI fH_ : FlagH := ⟨⟩
    repeat' (first
      | ((with_reducible apply call0); (focus rfl); (focus exact cal_sameOps); (focus exact e1); (focus rfl))
      | ((with_reducible apply je_call0); (focus rfl); (focus (decide +kernel)); (focus rfl); (focus exact cal_sameOps); (focus exact e1); (focus rfl))
      | exact True.intro
      | refine stp ?_
      | refine two ?_ ?_
      | refine allc fun c_ => ?_
      | (refine imp fun hc => ?_) <;> try (first | contradiction | (exfalso; omega) | (exfalso; exact absurd (of_dT hc) (by assumption)) | (exfalso; exact of_dF hc (by assumption)))
      | refine all fun v_ => ?_)
    all_goals clear fA_ fH_
    rename_i bx
    refine J_loopV (X := Nat) (fun k => [(2, .val (.pointer (some ⟨ba, 0, none⟩))), (3, .val (.pointer (some ⟨bb, 0, none⟩))), (6, .int i), (7, .val (.pointer (some ⟨bx, 0, none⟩))), (8, .val (.pointer (some ⟨v_, 0, none⟩))), (9, .int k)]) (fun _ => [.cells v_ 71 [.d (opsD m.rules[i].guard), .d (setsD m.rules[i].sets)], .cells bx 71 [.d (opsD m.rules[i].guard), .d (setsD m.rules[i].sets)], .cells bb 25 [.d (varsD m.vars), .d (rulesD m.rules)], .cells ba 25 [.d (varsD m.vars), .d (rulesD m.rules)]]) (fun k => k ≤ m.rules[i].sets.length) (fun k => m.rules[i].sets.length - k) 0 (Nat.zero_le _) (VS.of_le ?_) ?_
    · repeat (first
        | exact Env.le_nil _
        | refine Env.le_cons (AV.le_refl _) ?_
        | refine Env.le_cons (AV.le_int rfl (by first | rfl | omega | (dsimp only; omega))) ?_)
    rintro k k1
    by_cases hk : k < m.rules[i].sets.length
    · have e2 := ACr_true (sameOps G m.rules[i].sets[k].val m.rules[i].sets[k].val) rfl
      all_goals haveI fA_ : FlagA := ⟨⟩
      repeat' (first
        | ((with_reducible apply call0); (focus rfl); (focus exact cal_sameOps); (focus exact e2); (focus rfl))
        | ((with_reducible apply je_call0); (focus rfl); (focus (decide +kernel)); (focus rfl); (focus exact cal_sameOps); (focus exact e2); (focus rfl))
        | ((with_reducible apply qcall); (focus rfl); (focus exact cal_sameOps); (focus exact e2); (focus rfl))
        | exact True.intro
        | refine stp ?_
        | refine two ?_ ?_
        | (refine imp fun hc => ?_) <;> try (first | contradiction | (exfalso; omega))
        | refine all fun v_ => ?_)
      all_goals clear fA_
      refine ⟨k + 1, by omega, by omega, VS.of_le ?_⟩
      repeat (first
        | exact Env.le_nil _
        | refine Env.le_cons (AV.le_refl _) ?_
        | refine Env.le_cons (AV.le_int rfl (by first | rfl | omega | (dsimp only; omega))) ?_)
    all_goals haveI fA_ : FlagA := ⟨⟩
    all_goals haveI fH_ : FlagH := ⟨⟩
    repeat' (first
      | ((with_reducible apply call0); (focus rfl); (focus exact cal_sameOps); (focus exact e2); (focus rfl))
      | ((with_reducible apply je_call0); (focus rfl); (focus (decide +kernel)); (focus rfl); (focus exact cal_sameOps); (focus exact e2); (focus rfl))
      | ((with_reducible apply qcall); (focus rfl); (focus exact cal_sameOps); (focus exact e2); (focus rfl))
      | exact True.intro
      | refine stp ?_
      | refine two ?_ ?_
      | refine allc fun c_ => ?_
      | (refine imp fun hc => ?_) <;> try (first | contradiction | (exfalso; omega) | (exfalso; exact absurd (of_dT hc) (by assumption)) | (exfalso; exact of_dF hc (by assumption)))
      | refine all fun v_ => ?_)
    all_goals clear fA_ fH_
    refine ⟨i + 1, by omega, by omega, VS.take (by ((repeat (first | exact Take.nil | ((with_reducible apply Take.cons); (focus ((repeat (first | exact Sel.here | with_reducible apply Sel.there)); done))))); done)) ?_⟩
    repeat (first
      | exact Env.le_nil _
      | refine Env.le_cons (AV.le_refl _) ?_
      | refine Env.le_cons (AV.le_int rfl (by first | rfl | omega | (dsimp only; omega))) ?_)
  all_goals haveI fA_ : FlagA := ⟨⟩
  all_goals haveI fH_ : FlagH := ⟨⟩
  repeat' (first
    | ((with_reducible apply call0); (focus rfl); (focus exact cal_sameOps); (focus exact e2); (focus rfl))
    | ((with_reducible apply je_call0); (focus rfl); (focus (decide +kernel)); (focus rfl); (focus exact cal_sameOps); (focus exact e2); (focus rfl))
    | ((with_reducible apply qcall); (focus rfl); (focus exact cal_sameOps); (focus exact e2); (focus rfl))
    | exact True.intro
    | refine stp ?_
    | refine two ?_ ?_
    | refine allc fun c_ => ?_
    | (refine imp fun hc => ?_) <;> try (first | contradiction | (exfalso; omega) | (exfalso; exact absurd (of_dT hc) (by assumption)) | (exfalso; exact of_dF hc (by assumption)))
    | refine all fun v_ => ?_)
  all_goals clear fA_ fH_
  refine retv (VS.drop (List.nil_sublist _)) ?_
  ((with_reducible apply rq1); rfl; rfl)
  exact ret_eq rfl
end Go.Proofs.YtmamiihpghnmmaaDoor
namespace Go.Sp
open Go Go.Av
set_option linter.unusedVariables false
set_option linter.unusedSimpArgs false
structure Tk where
  model : Md
  props : List (List Fo)
  formula : List Fo
def Tk.cells (t : Tk) : List D := [varsD t.model.vars, rulesD t.model.rules, termsD t.props, opsD t.formula]
abbrev tkA (t : Tk) : AV := .agg [.d (varsD t.model.vars), .d (rulesD t.model.rules), .d (termsD t.props), .d (opsD t.formula)]
noncomputable def taskF (t : Tk) : Int := if propsF t.model t.props ≠ 0 then propsF t.model t.props else formF t.formula t.props.length
end Go.Sp
namespace Go.Proofs.YtmamiihpghnmmaaDoor
open Go Go.Av Go.Sp
set_option linter.unusedVariables false
set_option linter.unusedSimpArgs false
set_option maxRecDepth 100000
set_option maxHeartbeats 4000000
theorem cal_terms : Cal Tryd.prog 16 := Cal.of Tryd.func16 (by kernel_rfl) (by kernel_rfl)
theorem cal_tasks : Cal Tryd.prog 10 := Cal.of Tryd.func10 (by kernel_rfl) (by kernel_rfl)
theorem conf_Task {g : Nat} {xs : List D} (h : Conf Tryd.prog (g + 9) 29 xs) : ∃ t : Tk, xs = t.cells := by
  obtain ⟨p0, p1, p2, rfl, h0, h1, h2⟩ := conf_struct3_of Tryd.underlying29 h
  obtain ⟨m, rfl⟩ := conf_Model h0
  obtain ⟨ps, rfl, _⟩ := conf_terms h1
  obtain ⟨f, rfl, _⟩ := conf_ops h2
  exact ⟨⟨m, ps, f⟩, rfl⟩
theorem terms (G : List (Nat × List D)) (a : List (List Fo)) : ACr Tryd.prog G 16 [.d (termsD a)] (.d (termsD a)) := by
  refine AC_ofV (ts := [2]) Tryd.f16.ntmps Tryd.func16 rfl rfl rfl (by simp [Tryd.ntmps16]) fun W I => ?_
  refine jfact (t := 0) rfl fun hl => ?_
  all_goals haveI fA_ : FlagA := ⟨⟩
  repeat' (first
    | ((with_reducible apply call0); (focus rfl); (focus exact cal_ops); (focus exact opsU _ _); (focus rfl))
    | ((with_reducible apply je_call0); (focus rfl); (focus (decide +kernel)); (focus rfl); (focus exact cal_ops); (focus exact opsU _ _); (focus rfl))
    | exact True.intro
    | refine stp ?_
    | refine two ?_ ?_
    | (refine imp fun hc => ?_) <;> try (first | contradiction | (exfalso; omega))
    | refine all fun v_ => ?_)
  all_goals clear fA_
  refine jrow (E := 27) (sz := 1) termC ?_
  refine J_loop (X := Nat × Sl) (fun y => [(0, .d (termsD a)), (3, .val y.2.v), (4, .int y.1)]) (fun y => [rowE y.2.v 27 1 termC (a.take y.1)]) (fun y => y.1 ≤ a.length) (fun y => a.length - y.1) (0, Sl.nil) (Nat.zero_le _) ?_ rfl ?_
  · repeat (first
      | exact Env.le_nil _
      | refine Env.le_cons (AV.le_refl _) ?_
      | refine Env.le_cons (AV.le_int rfl (by first | rfl | omega | (dsimp only; omega))) ?_)
  rintro ⟨i, v⟩ h1
  dsimp only at h1 ⊢
  have hlen : (a.take i).length = i := by rw [List.length_take]; omega
  all_goals haveI fA_ : FlagA := ⟨⟩
  repeat' (first
    | ((with_reducible apply call0); (focus rfl); (focus exact cal_ops); (focus exact opsU _ _); (focus rfl))
    | ((with_reducible apply je_call0); (focus rfl); (focus (decide +kernel)); (focus rfl); (focus exact cal_ops); (focus exact opsU _ _); (focus rfl))
    | exact True.intro
    | refine stp ?_
    | refine two ?_ ?_
    | (refine imp fun hc => ?_) <;> try (first | contradiction | (exfalso; omega))
    | refine all fun v_ => ?_)
  all_goals clear fA_
  · refine ⟨(i + 1, v_), by dsimp only; omega, by dsimp only; omega, ?_, ?_⟩
    · repeat (first
        | exact Env.le_nil _
        | refine Env.le_cons (AV.le_refl _) ?_
        | refine Env.le_cons (AV.le_int rfl (by first | rfl | omega | (dsimp only; omega))) ?_)
    · dsimp only
      rw [List.take_succ_eq_append_getElem (by omega)]
  · refine retv (vfreeze (t := 2) (eb := 24) rfl rfl (fun x => rfl) (by rw [hlen]; omega)) ?_
    ((with_reducible apply rq1); rfl; rfl)
    refine ret_eq ?_
    rw [List.take_of_length_le (by omega)]
theorem tasks (G : List (Nat × List D)) (t : Tk) : ACr Tryd.prog G 10 [tkA t] (tkA t) := by
  refine AC_ofR (rs := [.cell 2 29]) Tryd.f10.ntmps Tryd.func10 rfl rfl rfl (by simp [Tryd.ntmps10]) fun W I => ?_
  all_goals haveI fA_ : FlagA := ⟨⟩
  all_goals haveI fH_ : FlagH := ⟨⟩
  repeat' (first
    | ((with_reducible apply call0); (focus rfl); (focus exact cal_models); (focus exact models _ _); (focus rfl))
    | ((with_reducible apply je_call0); (focus rfl); (focus (decide +kernel)); (focus rfl); (focus exact cal_models); (focus exact models _ _); (focus rfl))
    | ((with_reducible apply call0); (focus rfl); (focus exact cal_terms); (focus exact terms _ _); (focus rfl))
    | ((with_reducible apply je_call0); (focus rfl); (focus (decide +kernel)); (focus rfl); (focus exact cal_terms); (focus exact terms _ _); (focus rfl))
    | ((with_reducible apply call0); (focus rfl); (focus exact cal_ops); (focus exact opsU _ _); (focus rfl))
    | ((with_reducible apply je_call0); (focus rfl); (focus (decide +kernel)); (focus rfl); (focus exact cal_ops); (focus exact opsU _ _); (focus rfl))
    | exact True.intro
    | refine stp ?_
    | refine two ?_ ?_
    | refine allc fun c_ => ?_
    | (refine imp fun hc => ?_) <;> try (first | contradiction | (exfalso; omega) | (exfalso; exact absurd (of_dT hc) (by assumption)) | (exfalso; exact of_dF hc (by assumption)))
    | refine all fun v_ => ?_)
  all_goals clear fA_ fH_
  exact retr0 (xs := [tkA t]) ⟨rv_agg rfl (by (with_reducible exact ElC.h)) rfl (by ((repeat (first | exact List.mem_cons_self | apply List.mem_cons_of_mem)); done)) rfl, trivial⟩ rfl (h' := []) (List.nil_sublist _) (ret_eq rfl)
theorem PCheck  (t : Tk) : ACr Tryd.prog GP 11 [tkA t] (.int (taskF t)) := by
  have hP := Props t.model t.props
  have hC := Check t.formula t.props.length
  unfold taskF
  generalize propsF t.model t.props = e1 at hP ⊢
  generalize formF t.formula t.props.length = e2 at hC ⊢
  refine AC_ofV (ts := [2]) Tryd.f11.ntmps Tryd.func11 rfl rfl rfl (by simp [Tryd.ntmps11]) fun W I => ?_
  by_cases h1 : e1 ≠ 0
  · all_goals haveI fA_ : FlagA := ⟨⟩
    all_goals haveI fH_ : FlagH := ⟨⟩
    repeat' (first
      | ((with_reducible apply call0); (focus rfl); (focus exact cal_Props); (focus exact hP); (focus rfl))
      | ((with_reducible apply je_call0); (focus rfl); (focus (decide +kernel)); (focus rfl); (focus exact cal_Props); (focus exact hP); (focus rfl))
      | ((with_reducible apply call0); (focus rfl); (focus exact cal_Check); (focus exact hC); (focus rfl))
      | ((with_reducible apply je_call0); (focus rfl); (focus (decide +kernel)); (focus rfl); (focus exact cal_Check); (focus exact hC); (focus rfl))
      | exact True.intro
      | refine stp ?_
      | refine two ?_ ?_
      | refine allc fun c_ => ?_
      | (refine imp fun hc => ?_) <;> try (first | contradiction | (exfalso; omega) | (exfalso; exact absurd (of_dT hc) (by assumption)) | (exfalso; exact of_dF hc (by assumption)))
      | refine all fun v_ => ?_)
    all_goals clear fA_ fH_
    refine retv (VS.drop (List.nil_sublist _)) ?_
    ((with_reducible apply rq1); rfl; rfl)
    exact ret_eq (by rw [if_pos h1])
  · all_goals haveI fA_ : FlagA := ⟨⟩
    all_goals haveI fH_ : FlagH := ⟨⟩
    repeat' (first
      | ((with_reducible apply call0); (focus rfl); (focus exact cal_Props); (focus exact hP); (focus rfl))
      | ((with_reducible apply je_call0); (focus rfl); (focus (decide +kernel)); (focus rfl); (focus exact cal_Props); (focus exact hP); (focus rfl))
      | ((with_reducible apply call0); (focus rfl); (focus exact cal_Check); (focus exact hC); (focus rfl))
      | ((with_reducible apply je_call0); (focus rfl); (focus (decide +kernel)); (focus rfl); (focus exact cal_Check); (focus exact hC); (focus rfl))
      | exact True.intro
      | refine stp ?_
      | refine two ?_ ?_
      | refine allc fun c_ => ?_
      | (refine imp fun hc => ?_) <;> try (first | contradiction | (exfalso; omega) | (exfalso; exact absurd (of_dT hc) (by assumption)) | (exfalso; exact of_dF hc (by assumption)))
      | refine all fun v_ => ?_)
    all_goals clear fA_ fH_
    refine retv (VS.drop (List.nil_sublist _)) ?_
    ((with_reducible apply rq1); rfl; rfl)
    exact ret_eq (by rw [if_neg h1])
theorem TaskFault (G : List (Nat × List D)) (t : Tk) : ACr Tryd.prog G 12 [tkA t] (.int (taskF t)) := by
  have hP := PropsFault G t.model t.props
  have hC := FormulaFault G t.formula t.props.length
  unfold taskF
  generalize propsF t.model t.props = e1 at hP ⊢
  generalize formF t.formula t.props.length = e2 at hC ⊢
  refine AC_ofV (ts := [2]) Tryd.f12.ntmps Tryd.func12 rfl rfl rfl (by simp [Tryd.ntmps12]) fun W I => ?_
  by_cases h1 : e1 ≠ 0
  · all_goals haveI fA_ : FlagA := ⟨⟩
    all_goals haveI fH_ : FlagH := ⟨⟩
    repeat' (first
      | ((with_reducible apply call0); (focus rfl); (focus exact cal_PropsFault); (focus exact hP); (focus rfl))
      | ((with_reducible apply je_call0); (focus rfl); (focus (decide +kernel)); (focus rfl); (focus exact cal_PropsFault); (focus exact hP); (focus rfl))
      | ((with_reducible apply call0); (focus rfl); (focus exact cal_FormulaFault); (focus exact hC); (focus rfl))
      | ((with_reducible apply je_call0); (focus rfl); (focus (decide +kernel)); (focus rfl); (focus exact cal_FormulaFault); (focus exact hC); (focus rfl))
      | exact True.intro
      | refine stp ?_
      | refine two ?_ ?_
      | refine allc fun c_ => ?_
      | (refine imp fun hc => ?_) <;> try (first | contradiction | (exfalso; omega) | (exfalso; exact absurd (of_dT hc) (by assumption)) | (exfalso; exact of_dF hc (by assumption)))
      | refine all fun v_ => ?_)
    all_goals clear fA_ fH_
    refine retv (VS.drop (List.nil_sublist _)) ?_
    ((with_reducible apply rq1); rfl; rfl)
    exact ret_eq (by rw [if_pos h1])
  · all_goals haveI fA_ : FlagA := ⟨⟩
    all_goals haveI fH_ : FlagH := ⟨⟩
    repeat' (first
      | ((with_reducible apply call0); (focus rfl); (focus exact cal_PropsFault); (focus exact hP); (focus rfl))
      | ((with_reducible apply je_call0); (focus rfl); (focus (decide +kernel)); (focus rfl); (focus exact cal_PropsFault); (focus exact hP); (focus rfl))
      | ((with_reducible apply call0); (focus rfl); (focus exact cal_FormulaFault); (focus exact hC); (focus rfl))
      | ((with_reducible apply je_call0); (focus rfl); (focus (decide +kernel)); (focus rfl); (focus exact cal_FormulaFault); (focus exact hC); (focus rfl))
      | exact True.intro
      | refine stp ?_
      | refine two ?_ ?_
      | refine allc fun c_ => ?_
      | (refine imp fun hc => ?_) <;> try (first | contradiction | (exfalso; omega) | (exfalso; exact absurd (of_dT hc) (by assumption)) | (exfalso; exact of_dF hc (by assumption)))
      | refine all fun v_ => ?_)
    all_goals clear fA_ fH_
    refine retv (VS.drop (List.nil_sublist _)) ?_
    ((with_reducible apply rq1); rfl; rfl)
    exact ret_eq (by rw [if_neg h1])
end Go.Proofs.YtmamiihpghnmmaaDoor
namespace Go.Proofs.YtmamiihpghnmmaaDoor
open Go Go.Av Go.Sp Go.ChangeShapes Go.WideShapes Go.ChangeAt Go.RowKit
set_option linter.unusedVariables false
set_option linter.unusedSimpArgs false
set_option maxRecDepth 100000
set_option maxHeartbeats 4000000

abbrev laidRow := Rows.productChecksRow
theorem own : ownKnob Tryd.prog.godebug = none := by kernel_rfl
theorem laidOutAll : laidOutB Tryd.prog = true := by kernel_rfl
theorem gTab : Tryd.prog.globalNamed "foretell/polish.parts" = some 0 := by kernel_rfl
theorem gTabType : (Tryd.prog.globals[0]?).map (·.type) = some 154 := by kernel_rfl
theorem cellsTab : Tryd.prog.cellsOf 154 = 19 := by kernel_rfl
theorem cellsInt : Tryd.prog.cellsOf 3 = 1 := by kernel_rfl
def partsZ : List Int := [-1, 0, 0, 2, 2, 2, 2, 2, 2, 2, 1, 0, 0, 0, 1, 2, 2, 1, 1]
theorem table {W : World} (h : laidMetH Tryd.prog laidRow.laid W) : Lib.TabIs Tryd.prog W "foretell/polish.parts" .i64 partsZ :=
  Lib.tabIs_of_head (rest := []) gTab gTabType Tryd.underlying154 Tryd.underlying3 cellsInt cellsTab h

theorem globPD {W : World} (h : laidMetH Tryd.prog laidRow.laid W) : ∀ q ∈ GP, PD W (fun b => b < W.heap.size) q.2 ⟨q.1, 0, none⟩ := by
  intro q hq
  obtain rfl : q = (0, partsT) := by simpa [GP] using hq
  have hc : ∀ (i : Nat) (hi : i < partsZ.length), W.cell? ⟨0, i, none⟩ = some (.int .i64 partsZ[i]) := fun i hi => by simpa [List.getElem?_eq_getElem hi] using (table h).cell gTab i hi
  refine ⟨World.block_lt_of_cell? _ _ (hc 0 (by decide)), fun u x hx => ?_⟩
  have hu : u < partsZ.length := by
    have := (List.getElem?_eq_some_iff.1 hx).1
    simpa [partsT, partsZ] using this
  have e : partsT[u]? = some (.i .i64 partsZ[u]) := by
    have : partsT = partsZ.map fun n => D.i .i64 n := rfl
    rw [this, List.getElem?_map, List.getElem?_eq_getElem hu]; rfl
  rw [e] at hx
  cases hx
  exact ⟨_, by rw [Addr.add_lit, Nat.zero_add]; exact hc u hu, .i _ _⟩

noncomputable def laidWorld (os : Os) : World :=
  { World.holding Tryd.prog os ⟨#[], #[], []⟩ with heap := (World.holding Tryd.prog os ⟨#[], #[], []⟩).heap.modify 0 fun
      | .cells _ t frozen => .cells (partsZ.map fun n => Value.int .i64 n).toArray t frozen
      | o => o }
end Go.Proofs.YtmamiihpghnmmaaDoor
namespace Go.Sp
open Go Go.Av
set_option linter.unusedVariables false
set_option linter.unusedSimpArgs false

abbrev updAt (vs : List Int) (l : List St) (i : Nat) : Int := upd vs l i ((vs[i]?).getD 0)
theorem setAll_upd (vs : List Int) (l : List St) : setAll vs l vs = (List.range vs.length).map (updAt vs l) := by
  refine List.ext_getElem? fun i => ?_
  rw [setAll_get, List.getElem?_map]
  by_cases h : i < vs.length
  · rw [List.getElem?_eq_getElem h, List.getElem?_range h]
    simp [updAt, List.getElem?_eq_getElem h]
  · rw [List.getElem?_eq_none (by omega), List.getElem?_eq_none (by simp; omega)]; rfl
theorem afterF_guard {m : Md} {r : Ru} {vs : List Int} (h : evalF r.guard vs ≠ (1, 0)) : afterF m r vs = none := by
  rw [afterF, if_neg fun k => h k.1]
theorem afterF_set {m : Md} {r : Ru} {vs : List Int} {s : St} (hs : s ∈ r.sets) (h : ¬ setOk m vs s) : afterF m r vs = none := by
  rw [afterF, if_neg fun k => h (k.2 s hs)]
theorem afterF_some {m : Md} {r : Ru} {vs : List Int} (h : evalF r.guard vs = (1, 0)) (hs : ∀ s ∈ r.sets, setOk m vs s) : afterF m r vs = some (setAll vs r.sets vs) := by
  rw [afterF, if_pos ⟨h, hs⟩]
structure InV (m : Md) (vs : List Int) : Prop where
  len : vs.length = m.vars.length
  range : ∀ (i : Nat) (h : i < m.vars.length) (h' : i < vs.length), m.vars[i].low ≤ vs[i] ∧ vs[i] ≤ m.vars[i].high
theorem InV.vals {m : Md} (hm : modelF m = 0) {c : Int} (h0 : 0 ≤ c) (hc : c < prodV m.vars) : InV m (valsT m.vars c) :=
  ⟨valsT_length _ _, fun i h h' => valsT_range (goodV (modelF_vars hm)) h0 hc i h h'⟩
theorem InV.lim {m : Md} (hm : modelF m = 0) {vs : List Int} (g : InV m vs) : ∀ v ∈ vs, limP v := fun v hv => by
  obtain ⟨i, h, rfl⟩ := List.getElem_of_mem hv
  have hl : i < m.vars.length := by have := g.len; omega
  have hr := g.range i hl h
  have hv := (goodV (modelF_vars hm)).range m.vars[i] (List.getElem_mem hl)
  unfold rangeV at hv
  unfold limP; omega
theorem code_of {m : Md} (hm : modelF m = 0) {vs : List Int} (h : vs.length = m.vars.length) : codeF m vs = codeE 0 m.vars vs := by
  rw [codeF, if_neg (fun k => k hm), if_neg (fun k => k h)]
theorem after_ok {m : Md} (hm : modelF m = 0) {r : Ru} (hr : r ∈ m.rules) {vs : List Int} (g : InV m vs) (hs : ∀ s ∈ r.sets, setOk m vs s) : (codeF m (setAll vs r.sets vs)).2 = 0 := by
  have hl := setAll_length vs r.sets vs
  rw [code_of hm (by rw [hl]; exact g.len)]
  refine codeE_all _ _ _ fun i h h' => ?_
  have e := setAll_get vs r.sets vs i
  rw [List.getElem?_eq_getElem h', List.getElem?_eq_getElem (by omega)] at e
  simp only [Option.map_some, Option.some.injEq] at e
  rw [e]
  rcases upd_or vs r.sets i vs[i] with u | ⟨s, h1, h2, h3⟩
  · rw [u]; exact g.range i h (by omega)
  · rw [h3]; exact (hs s h1).2 _ (by rw [h2, List.getElem?_eq_getElem h])
theorem after_no {m : Md} (hm : modelF m = 0) {r : Ru} (hr : r ∈ m.rules) {vs : List Int} (g : InV m vs) {s : St} (hs : s ∈ r.sets) (he : (evalF s.val vs).2 = 0) (h : ¬ setOk m vs s) : codeF m (setAll vs r.sets vs) = (0, 9) := by
  have hl := setAll_length vs r.sets vs
  rw [code_of hm (by rw [hl]; exact g.len)]
  have gr := goodR hm hr
  obtain ⟨a1, a2, a3⟩ := gr.sets s hs
  have hi : s.var.toNat < m.vars.length := by omega
  have hiv : s.var.toNat < vs.length := by rw [g.len]; exact hi
  refine codeE_no _ _ _ s.var.toNat hi (by rw [hl]; exact hiv) fun k => h ⟨he, fun v hv => ?_⟩
  have e := setAll_get vs r.sets vs s.var.toNat
  rw [List.getElem?_eq_getElem (by rw [hl]; exact hiv), List.getElem?_eq_getElem hiv] at e
  simp only [Option.map_some, Option.some.injEq] at e
  rw [e, upd_mem vs r.sets _ _ s (fun q hq => (gr.sets q hq).1) gr.once hs rfl] at k
  rw [List.getElem?_eq_getElem hi] at hv
  cases hv
  exact k
theorem after_ref {m : Md} (hm : modelF m = 0) {r : Ru} (hr : r ∈ m.rules) {vs : List Int} (g : InV m vs) (hg : evalF r.guard vs = (1, 0)) (he : ∀ s ∈ r.sets, (evalF s.val vs).2 = 0) :
    ((codeF m (setAll vs r.sets vs)).2 = 0 ∧ afterF m r vs = some (setAll vs r.sets vs)) ∨ ((codeF m (setAll vs r.sets vs)).2 ≠ 0 ∧ afterF m r vs = none) := by
  by_cases h : ∀ s ∈ r.sets, setOk m vs s
  · exact .inl ⟨after_ok hm hr g h, afterF_some hg h⟩
  · obtain ⟨s, hs⟩ := Classical.not_forall.1 h
    obtain ⟨h1, h2⟩ := Classical.not_imp.1 hs
    exact .inr ⟨by rw [after_no hm hr g h1 (he s h1) h2]; decide, afterF_set h1 h2⟩
theorem setAll_append (vs : List Int) : ∀ (a b : List St) (out : List Int), setAll vs (a ++ b) out = setAll vs b (setAll vs a out)
  | [], _, _ => rfl
  | s :: a, b, out => by rw [List.cons_append, setAll, setAll, setAll_append vs a b]
theorem setAll_succ (vs : List Int) (l : List St) (i : Nat) (h : i < l.length) : setAll vs (l.take (i + 1)) vs = (setAll vs (l.take i) vs).set l[i].var.toNat (evalF l[i].val vs).1 := by
  rw [List.take_succ_eq_append_getElem h, setAll_append]; rfl
theorem upd_at (vs : List Int) (l : List St) (k : Nat) (h : k < l.length) (i : Nat) (x : Int) : upd vs (l.drop k) i x = upd vs (l.drop (k + 1)) i (if l[k].var.toNat = i then (evalF l[k].val vs).1 else x) := by
  rw [List.drop_eq_getElem_cons h, upd]
theorem upd_end (vs : List Int) (l : List St) (k : Nat) (h : l.length ≤ k) (i : Nat) (x : Int) : upd vs (l.drop k) i x = x := by
  rw [List.drop_of_length_le h, upd]
theorem setOk_iff {m : Md} {vs : List Int} {s : St} {n e : Int} (he : evalF s.val vs = (n, e)) (h : s.var.toNat < m.vars.length) : setOk m vs s ↔ (e = 0 ∧ m.vars[s.var.toNat].low ≤ n ∧ n ≤ m.vars[s.var.toNat].high) := by
  unfold setOk
  rw [he]
  constructor
  · rintro ⟨h1, h2⟩
    exact ⟨h1, h2 _ (List.getElem?_eq_getElem h)⟩
  · rintro ⟨h1, h2⟩
    refine ⟨h1, fun v hv => ?_⟩
    rw [List.getElem?_eq_getElem h] at hv
    cases hv
    exact h2
theorem afterC_no {m : Md} {code rule : Int} {vs : List Int} (hv : valsF m code = (vs, 0)) (h : ¬ (0 ≤ rule ∧ rule < m.rules.length)) : afterC m code rule = (0, 2) := by
  unfold afterC
  rw [hv, if_neg (by simp)]
  by_cases h0 : 0 ≤ rule
  · rw [if_pos h0, List.getElem?_eq_none (by omega)]
  · rw [if_neg h0]
theorem afterC_yes {m : Md} {code rule : Int} {vs : List Int} (hv : valsF m code = (vs, 0)) (h0 : 0 ≤ rule) (h : rule.toNat < m.rules.length) : afterC m code rule = match afterF m m.rules[rule.toNat] vs with
    | none => (0, 11)
    | some out => codeF m out := by
  unfold afterC
  rw [hv, if_neg (by simp), if_pos h0, List.getElem?_eq_getElem h]
  dsimp only
  cases afterF m m.rules[rule.toNat] vs <;> rfl
theorem valsF_ok {m : Md} {c : Int} (h : (valsF m c).2 = 0) : modelF m = 0 ∧ 0 ≤ c ∧ c < prodV m.vars ∧ valsF m c = (valsT m.vars c, 0) := by
  unfold valsF at h ⊢
  by_cases c1 : modelF m ≠ 0
  · rw [if_pos c1] at h; exact absurd h c1
  rw [if_neg c1] at h ⊢
  by_cases c2 : 0 ≤ c ∧ c < prodV m.vars
  · rw [if_pos c2]; exact ⟨Decidable.not_not.1 c1, c2.1, c2.2, rfl⟩
  · rw [if_neg c2] at h; exact absurd h (by decide)
theorem afterC_err {m : Md} {code rule : Int} (h : (valsF m code).2 ≠ 0) : afterC m code rule = (0, (valsF m code).2) := by
  unfold afterC; rw [if_pos h]
end Go.Sp
namespace Go.Av
open Go
set_option linter.unusedVariables false
set_option linter.unusedSimpArgs false

section
variable {k : Kx} {Q : Exit → Env → H → Prop} {ρ : Env} {h : H} {ops : Array Oper} {l : List Oper} {d : Nat} {ty : TypeId} {pos : String} {after : Array Edge}
theorem jeq_nil {α : Type} {f : α → List D} {xs : List α} {T T' E : TypeId} {x y : Operand} {sz eb : Nat} (hx : evO ρ x = some (.d (.l sz eb (xs.map f)))) (hy : evO ρ y = some (.val (.slice none 0 0))) (hT : k.P.underlying T = some (.slice E)) (hd : Nat.blt d k.n = true)
    (hj : Two (Imp (xs = []) (JL k ops l Q ((d, .bool true) :: ρ) h)) (JL k ops l Q ((d, .bool false) :: ρ) h)) : JL k ops (⟨some d, .binOp .eql T x y T', ty, pos, after, none⟩ :: l) Q ρ h := by
  refine JL_eff rfl (fun t ht => by cases ht; exact blt hd) fun I a w h1 h2 => ?_
  have ex : Rel w I (.l sz eb (xs.map f)) (a.eval x) := by have := h2.ev x; rw [ev_of_evO hx] at this; exact this
  have ey : a.eval y = .slice none 0 0 := rel_val (h2.ev y) (ev_of_evO hy)
  have key : ∀ (ad : Option Addr) (n c : Nat), a.eval x = .slice ad n c → (execOp a.eval ⟨some d, .binOp .eql T x y T', ty, pos, after, none⟩).run k.P w = .ok (.value (.bool ad.isNone)) w := by
    intro ad n c e
    have r : (binOp .eql T (.slice ad n c) (.slice none 0 0)).run k.P w = .ok (.bool ad.isNone) w := by
      simp only [binOp]
      simp [run_equal_slice_nil w T E ad n c hT]
    simp [execOp, e, ey, eqGuard_at_slice, r]
  have go : ∀ b, (b = true → xs = []) → JL k ops l Q (put ρ (some d) (.bool b)) h := by
    intro b hb
    cases b with
    | true => exact hj.1.get (hb rfl)
    | false => exact hj.2
  generalize hR : xs.map f = R at ex
  generalize hv : a.eval x = v at ex key
  cases ex with
  | nil => exact ⟨_, w, I, .bool true, h, key _ _ _ rfl, h1, h2, rfl, go true fun _ => List.map_eq_nil_iff.1 hR⟩
  | emp => exact ⟨_, w, I, .bool false, h, key _ _ _ rfl, h1, h2, rfl, go false fun h => (by cases h)⟩
  | l => exact ⟨_, w, I, .bool false, h, key _ _ _ rfl, h1, h2, rfl, go false fun h => (by cases h)⟩
end
end Go.Av
namespace Go.Proofs.YtmamiihpghnmmaaDoor
open Go Go.Av Go.Sp
set_option linter.unusedVariables false
set_option linter.unusedSimpArgs false
set_option maxRecDepth 100000
set_option maxHeartbeats 4000000
theorem cal_CloneI : Cal Tryd.prog 76 := Cal.of Tryd.func76 (by kernel_rfl) (by kernel_rfl)
theorem cal_after : Cal Tryd.prog 44 := Cal.of Tryd.func44 (by kernel_rfl) (by kernel_rfl)
theorem cal_After : Cal Tryd.prog 19 := Cal.of Tryd.func19 (by kernel_rfl) (by kernel_rfl)
theorem cal_AfterRule : Cal Tryd.prog 20 := Cal.of Tryd.func20 (by kernel_rfl) (by kernel_rfl)
theorem CloneI (G : List (Nat × List D)) (xs : List Int) : AC Tryd.prog G 76 [.d (intsD xs)] [] fun r h => ∃ q : Sl, r = .ret (.val q.v) ∧ h = [rowE q.v 3 1 intC xs] := by
  refine AC_ofV (ts := [2]) Tryd.f76.ntmps Tryd.func76 rfl rfl rfl (by simp [Tryd.ntmps76]) fun W I => ?_
  refine jfact (t := 0) rfl fun hl => ?_
  all_goals haveI fA_ : FlagA := ⟨⟩
  repeat' (first
    | ((with_reducible apply jeq_nil); (focus rfl); (focus rfl); (focus rfl); (focus rfl))
    | ((with_reducible apply (jbuild0S intC)); (focus rfl); (focus (with_reducible exact ElC.h)); (focus rfl))
    | exact True.intro
    | refine stp ?_
    | refine two ?_ ?_
    | (refine imp fun hc => ?_) <;> try (first | contradiction | (exfalso; omega))
    | refine all fun v_ => ?_)
  all_goals clear fA_
  · subst hc
    refine retv (VS.nilrow 3 1) ?_
    ((with_reducible apply rq1); rfl; rfl)
    exact ⟨Sl.nil, rfl, rfl⟩
  · refine retv0 ?_
    ((with_reducible apply rq1); rfl; rfl)
    exact ⟨v_, rfl, rfl⟩
theorem after (m : Md) (hm : modelF m = 0) (r : Ru) (hr : r ∈ m.rules) (vs : List Int) (g : InV m vs) : ACr Tryd.prog GP 44 [mdA m, ruA r, .d (intsD vs)] (.tup [.d (intsD ((afterF m r vs).getD [])), .bool (afterF m r vs).isSome]) := by
  have gr := goodR hm hr
  have hl6 := varsF_len (modelF_vars hm)
  have hln := g.len
  have hfew := gr.few
  have hG := Eval r.guard vs
  refine AC_ofV (ts := [6, 7]) Tryd.f44.ntmps Tryd.func44 rfl rfl rfl (by simp [Tryd.ntmps44]) fun W I => ?_
  have hb := evalF_bit (l := r.guard) (vs := vs) (by rw [hln]; exact gr.guard) (g.lim hm)
  by_cases h0 : evalF r.guard vs ≠ (1, 0)
  · rw [afterF_guard h0]
    rcases hb with hb | hb | hb
    · rw [hb] at hG
      dsimp only at hG
      all_goals haveI fA_ : FlagA := ⟨⟩
      all_goals haveI fH_ : FlagH := ⟨⟩
      repeat' (first
        | ((with_reducible apply call0); (focus rfl); (focus exact cal_Eval); (focus exact hG); (focus rfl))
        | ((with_reducible apply je_call0); (focus rfl); (focus (decide +kernel)); (focus rfl); (focus exact cal_Eval); (focus exact hG); (focus rfl))
        | exact True.intro
        | refine stp ?_
        | refine two ?_ ?_
        | refine allc fun c_ => ?_
        | (refine imp fun hc => ?_) <;> try (first | contradiction | (exfalso; omega) | (exfalso; exact absurd (of_dT hc) (by assumption)) | (exfalso; exact of_dF hc (by assumption)))
        | refine all fun v_ => ?_)
      all_goals clear fA_ fH_
      refine retv (VS.trans (VS.drop (List.nil_sublist _)) (vnil (t := 6) 1 8 rfl)) ?_
      ((with_reducible apply rq2); rfl; rfl; rfl)
      exact ret_eq rfl
    · rw [hb] at hG
      dsimp only at hG
      all_goals haveI fA_ : FlagA := ⟨⟩
      all_goals haveI fH_ : FlagH := ⟨⟩
      repeat' (first
        | ((with_reducible apply call0); (focus rfl); (focus exact cal_Eval); (focus exact hG); (focus rfl))
        | ((with_reducible apply je_call0); (focus rfl); (focus (decide +kernel)); (focus rfl); (focus exact cal_Eval); (focus exact hG); (focus rfl))
        | exact True.intro
        | refine stp ?_
        | refine two ?_ ?_
        | refine allc fun c_ => ?_
        | (refine imp fun hc => ?_) <;> try (first | contradiction | (exfalso; omega) | (exfalso; exact absurd (of_dT hc) (by assumption)) | (exfalso; exact of_dF hc (by assumption)))
        | refine all fun v_ => ?_)
      all_goals clear fA_ fH_
      refine retv (VS.trans (VS.drop (List.nil_sublist _)) (vnil (t := 6) 1 8 rfl)) ?_
      ((with_reducible apply rq2); rfl; rfl; rfl)
      exact ret_eq rfl
    · exact absurd hb h0
  replace h0 := Decidable.not_not.1 h0
  rw [h0] at hG
  dsimp only at hG
  all_goals haveI fA_ : FlagA := ⟨⟩
  all_goals haveI fH_ : FlagH := ⟨⟩
  repeat' (first
    | ((with_reducible apply call0); (focus rfl); (focus exact cal_Eval); (focus exact hG); (focus rfl))
    | ((with_reducible apply je_call0); (focus rfl); (focus (decide +kernel)); (focus rfl); (focus exact cal_Eval); (focus exact hG); (focus rfl))
    | ((with_reducible apply callE1); (focus rfl); (focus exact cal_CloneI); (focus exact CloneI _ _); (focus rfl))
    | ((with_reducible apply je_callE); (focus rfl); (focus (decide +kernel)); (focus rfl); (focus exact cal_CloneI); (focus exact CloneI _ _); (focus rfl))
    | exact True.intro
    | refine stp ?_
    | refine two ?_ ?_
    | refine allc fun c_ => ?_
    | (refine imp fun hc => ?_) <;> try (first | contradiction | (exfalso; omega) | (exfalso; exact absurd (of_dT hc) (by assumption)) | (exfalso; exact of_dF hc (by assumption)))
    | refine all fun v_ => ?_)
  all_goals clear fA_ fH_
  rename_i bm br _
  refine J_loopV (X := Nat) (fun i => [(2, .d (intsD vs)), (3, .val (.pointer (some ⟨bm, 0, none⟩))), (10, .val v_.v), (32, .d (setsD r.sets)), (33, .int r.sets.length), (34, .int i)]) (fun i => [rowE v_.v 3 1 intC (setAll vs (r.sets.take i) vs), .cells bm 25 [.d (varsD m.vars), .d (rulesD m.rules)]]) (fun i => i ≤ r.sets.length ∧ ∀ s ∈ r.sets.take i, setOk m vs s) (fun i => r.sets.length - i) 0 ⟨Nat.zero_le _, fun s hs => (by cases hs)⟩ (VS.take (by ((repeat (first | exact Take.nil | ((with_reducible apply Take.cons); (focus ((repeat (first | exact Sel.here | with_reducible apply Sel.there)); done))))); done)) ?_) ?_
  · repeat (first
      | exact Env.le_nil _
      | refine Env.le_cons (AV.le_refl _) ?_
      | refine Env.le_cons (AV.le_int rfl (by first | rfl | omega | (dsimp only; omega))) ?_)
  rintro i ⟨hi, hok⟩
  have hsl := setAll_length vs (r.sets.take i) vs
  by_cases hil : i < r.sets.length
  · have hs := List.getElem_mem hil
    obtain ⟨a1, a2, a3⟩ := gr.sets _ hs
    have a4 : r.sets[i].var.toNat < m.vars.length := by omega
    have hE := Eval r.sets[i].val vs
    have hx := fun n e (he : evalF r.sets[i].val vs = (n, e)) => setOk_iff (m := m) (vs := vs) (s := r.sets[i]) (n := n) (e := e) he (by omega)
    have hn := setAll_succ vs r.sets i hil
    generalize evalF r.sets[i].val vs = p at hE hx hn
    obtain ⟨n, e⟩ := p
    have hx := hx n e rfl
    dsimp only at hE hn
    by_cases hgood : setOk m vs r.sets[i]
    · have hx := hx.1 hgood
      obtain ⟨rfl, x1, x2⟩ := hx
      all_goals haveI fA_ : FlagA := ⟨⟩
      all_goals haveI fH_ : FlagH := ⟨⟩
      repeat' (first
        | ((with_reducible apply call0); (focus rfl); (focus exact cal_Eval); (focus exact hE); (focus rfl))
        | ((with_reducible apply je_call0); (focus rfl); (focus (decide +kernel)); (focus rfl); (focus exact cal_Eval); (focus exact hE); (focus rfl))
        | exact True.intro
        | refine stp ?_
        | refine two ?_ ?_
        | refine allc fun c_ => ?_
        | (refine imp fun hc => ?_) <;> try (first | contradiction | (exfalso; omega) | (exfalso; exact absurd (of_dT hc) (by assumption)) | (exfalso; exact of_dF hc (by assumption)))
        | refine all fun v_ => ?_)
      all_goals clear fA_ fH_
      refine ⟨i + 1, ⟨by omega, fun s h => ?_⟩, by omega, ?_⟩
      · rw [List.take_succ_eq_append_getElem hil] at h
        rcases List.mem_append.1 h with h | h
        · exact hok s h
        · rw [List.mem_singleton.1 h]; exact hgood
      · rw [hn]
        refine VS.take (by ((repeat (first | exact Take.nil | ((with_reducible apply Take.cons); (focus ((repeat (first | exact Sel.here | with_reducible apply Sel.there)); done))))); done)) ?_
        repeat (first
          | exact Env.le_nil _
          | refine Env.le_cons (AV.le_refl _) ?_
          | refine Env.le_cons (AV.le_int rfl (by first | rfl | omega | (dsimp only; omega))) ?_)
    · rw [afterF_set hs hgood]
      by_cases x0 : e ≠ 0
      · all_goals haveI fA_ : FlagA := ⟨⟩
        all_goals haveI fH_ : FlagH := ⟨⟩
        repeat' (first
          | ((with_reducible apply call0); (focus rfl); (focus exact cal_Eval); (focus exact hE); (focus rfl))
          | ((with_reducible apply je_call0); (focus rfl); (focus (decide +kernel)); (focus rfl); (focus exact cal_Eval); (focus exact hE); (focus rfl))
          | exact True.intro
          | refine stp ?_
          | refine two ?_ ?_
          | refine allc fun c_ => ?_
          | (refine imp fun hc => ?_) <;> try (first | contradiction | (exfalso; omega) | (exfalso; exact absurd (of_dT hc) (by assumption)) | (exfalso; exact of_dF hc (by assumption)))
          | refine all fun v_ => ?_)
        all_goals clear fA_ fH_
        refine retv (VS.trans (VS.drop (List.nil_sublist _)) (vnil (t := 6) 1 8 rfl)) ?_
        ((with_reducible apply rq2); rfl; rfl; rfl)
        exact ret_eq rfl
      replace x0 := Decidable.not_not.1 x0
      subst x0
      by_cases x1 : n < m.vars[r.sets[i].var.toNat].low
      · all_goals haveI fA_ : FlagA := ⟨⟩
        all_goals haveI fH_ : FlagH := ⟨⟩
        repeat' (first
          | ((with_reducible apply call0); (focus rfl); (focus exact cal_Eval); (focus exact hE); (focus rfl))
          | ((with_reducible apply je_call0); (focus rfl); (focus (decide +kernel)); (focus rfl); (focus exact cal_Eval); (focus exact hE); (focus rfl))
          | exact True.intro
          | refine stp ?_
          | refine two ?_ ?_
          | refine allc fun c_ => ?_
          | (refine imp fun hc => ?_) <;> try (first | contradiction | (exfalso; omega) | (exfalso; exact absurd (of_dT hc) (by assumption)) | (exfalso; exact of_dF hc (by assumption)))
          | refine all fun v_ => ?_)
        all_goals clear fA_ fH_
        refine retv (VS.trans (VS.drop (List.nil_sublist _)) (vnil (t := 6) 1 8 rfl)) ?_
        ((with_reducible apply rq2); rfl; rfl; rfl)
        exact ret_eq rfl
      by_cases x2 : m.vars[r.sets[i].var.toNat].high < n
      · all_goals haveI fA_ : FlagA := ⟨⟩
        all_goals haveI fH_ : FlagH := ⟨⟩
        repeat' (first
          | ((with_reducible apply call0); (focus rfl); (focus exact cal_Eval); (focus exact hE); (focus rfl))
          | ((with_reducible apply je_call0); (focus rfl); (focus (decide +kernel)); (focus rfl); (focus exact cal_Eval); (focus exact hE); (focus rfl))
          | exact True.intro
          | refine stp ?_
          | refine two ?_ ?_
          | refine allc fun c_ => ?_
          | (refine imp fun hc => ?_) <;> try (first | contradiction | (exfalso; omega) | (exfalso; exact absurd (of_dT hc) (by assumption)) | (exfalso; exact of_dF hc (by assumption)))
          | refine all fun v_ => ?_)
        all_goals clear fA_ fH_
        refine retv (VS.trans (VS.drop (List.nil_sublist _)) (vnil (t := 6) 1 8 rfl)) ?_
        ((with_reducible apply rq2); rfl; rfl; rfl)
        exact ret_eq rfl
      exact absurd (hx.2 ⟨rfl, by omega, by omega⟩) hgood
  obtain rfl : i = r.sets.length := by omega
  rw [List.take_length] at hok hsl ⊢
  rw [afterF_some h0 hok]
  all_goals haveI fA_ : FlagA := ⟨⟩
  all_goals haveI fH_ : FlagH := ⟨⟩
  repeat' (first
    | exact True.intro
    | refine stp ?_
    | refine two ?_ ?_
    | refine allc fun c_ => ?_
    | (refine imp fun hc => ?_) <;> try (first | contradiction | (exfalso; omega) | (exfalso; exact absurd (of_dT hc) (by assumption)) | (exfalso; exact of_dF hc (by assumption)))
    | refine all fun v_ => ?_)
  all_goals clear fA_ fH_
  refine retv (VS.trans (vfreeze (t := 6) (eb := 8) rfl rfl (fun x => rfl) (by omega)) (VS.drop (List.nil_sublist _))) ?_
  ((with_reducible apply rq2); rfl; rfl; rfl)
  exact ret_eq rfl
end Go.Proofs.YtmamiihpghnmmaaDoor
namespace Go.Proofs.YtmamiihpghnmmaaDoor
open Go Go.Av Go.Sp
set_option linter.unusedVariables false
set_option linter.unusedSimpArgs false
set_option maxRecDepth 100000
set_option maxHeartbeats 4000000
theorem After (m : Md) (code rule : Int) : ACr Tryd.prog GP 19 [mdA m, .int code, .int rule] (.tup [.int (afterC m code rule).1, .int (afterC m code rule).2]) := by
  refine AC.factI (f := Ru.cells) (xs := m.rules) (.agg (.there .here)) fun hlr => ?_
  have hV := Values m code
  refine AC_ofV (ts := [6, 7]) Tryd.f19.ntmps Tryd.func19 rfl rfl rfl (by simp [Tryd.ntmps19]) fun W I => ?_
  by_cases h1 : (valsF m code).2 ≠ 0
  · rw [afterC_err h1]
    all_goals haveI fA_ : FlagA := ⟨⟩
    all_goals haveI fH_ : FlagH := ⟨⟩
    repeat' (first
      | ((with_reducible apply call0); (focus rfl); (focus exact cal_Values); (focus exact hV); (focus rfl))
      | ((with_reducible apply je_call0); (focus rfl); (focus (decide +kernel)); (focus rfl); (focus exact cal_Values); (focus exact hV); (focus rfl))
      | exact True.intro
      | refine stp ?_
      | refine two ?_ ?_
      | refine allc fun c_ => ?_
      | (refine imp fun hc => ?_) <;> try (first | contradiction | (exfalso; omega) | (exfalso; exact absurd (of_dT hc) (by assumption)) | (exfalso; exact of_dF hc (by assumption)))
      | refine all fun v_ => ?_)
    all_goals clear fA_ fH_
    refine retv (VS.drop (List.nil_sublist _)) ?_
    ((with_reducible apply rq2); rfl; rfl; rfl)
    exact ret_eq rfl
  obtain ⟨hm, c0, c1, hF⟩ := valsF_ok (Decidable.not_not.1 h1)
  have g := InV.vals hm c0 c1
  rw [hF] at hV
  dsimp only at hV
  clear h1
  by_cases h2 : rule < 0
  · rw [afterC_no hF (by omega)]
    all_goals haveI fA_ : FlagA := ⟨⟩
    all_goals haveI fH_ : FlagH := ⟨⟩
    repeat' (first
      | ((with_reducible apply call0); (focus rfl); (focus exact cal_Values); (focus exact hV); (focus rfl))
      | ((with_reducible apply je_call0); (focus rfl); (focus (decide +kernel)); (focus rfl); (focus exact cal_Values); (focus exact hV); (focus rfl))
      | exact True.intro
      | refine stp ?_
      | refine two ?_ ?_
      | refine allc fun c_ => ?_
      | (refine imp fun hc => ?_) <;> try (first | contradiction | (exfalso; omega) | (exfalso; exact absurd (of_dT hc) (by assumption)) | (exfalso; exact of_dF hc (by assumption)))
      | refine all fun v_ => ?_)
    all_goals clear fA_ fH_
    refine retv (VS.drop (List.nil_sublist _)) ?_
    ((with_reducible apply rq2); rfl; rfl; rfl)
    exact ret_eq rfl
  by_cases h3 : (m.rules.length : Int) ≤ rule
  · rw [afterC_no hF (by omega)]
    all_goals haveI fA_ : FlagA := ⟨⟩
    all_goals haveI fH_ : FlagH := ⟨⟩
    repeat' (first
      | ((with_reducible apply call0); (focus rfl); (focus exact cal_Values); (focus exact hV); (focus rfl))
      | ((with_reducible apply je_call0); (focus rfl); (focus (decide +kernel)); (focus rfl); (focus exact cal_Values); (focus exact hV); (focus rfl))
      | exact True.intro
      | refine stp ?_
      | refine two ?_ ?_
      | refine allc fun c_ => ?_
      | (refine imp fun hc => ?_) <;> try (first | contradiction | (exfalso; omega) | (exfalso; exact absurd (of_dT hc) (by assumption)) | (exfalso; exact of_dF hc (by assumption)))
      | refine all fun v_ => ?_)
    all_goals clear fA_ fH_
    refine retv (VS.drop (List.nil_sublist _)) ?_
    ((with_reducible apply rq2); rfl; rfl; rfl)
    exact ret_eq rfl
  have h4 : rule.toNat < m.rules.length := by omega
  rw [afterC_yes hF (by omega) h4]
  have hA := after m hm m.rules[rule.toNat] (List.getElem_mem h4) _ g
  cases ho : afterF m m.rules[rule.toNat] (valsT m.vars code) with
  | none =>
    rw [ho] at hA
    simp only [Option.getD_none, Option.isSome_none] at hA
    all_goals haveI fA_ : FlagA := ⟨⟩
    all_goals haveI fH_ : FlagH := ⟨⟩
    repeat' (first
      | ((with_reducible apply call0); (focus rfl); (focus exact cal_Values); (focus exact hV); (focus rfl))
      | ((with_reducible apply je_call0); (focus rfl); (focus (decide +kernel)); (focus rfl); (focus exact cal_Values); (focus exact hV); (focus rfl))
      | ((with_reducible apply call0); (focus rfl); (focus exact cal_after); (focus exact hA); (focus rfl))
      | ((with_reducible apply je_call0); (focus rfl); (focus (decide +kernel)); (focus rfl); (focus exact cal_after); (focus exact hA); (focus rfl))
      | exact True.intro
      | refine stp ?_
      | refine two ?_ ?_
      | refine allc fun c_ => ?_
      | (refine imp fun hc => ?_) <;> try (first | contradiction | (exfalso; omega) | (exfalso; exact absurd (of_dT hc) (by assumption)) | (exfalso; exact of_dF hc (by assumption)))
      | refine all fun v_ => ?_)
    all_goals clear fA_ fH_
    refine retv (VS.drop (List.nil_sublist _)) ?_
    ((with_reducible apply rq2); rfl; rfl; rfl)
    exact ret_eq rfl
  | some out =>
    rw [ho] at hA
    simp only [Option.getD_some, Option.isSome_some] at hA
    all_goals haveI fA_ : FlagA := ⟨⟩
    all_goals haveI fH_ : FlagH := ⟨⟩
    repeat' (first
      | ((with_reducible apply call0); (focus rfl); (focus exact cal_Values); (focus exact hV); (focus rfl))
      | ((with_reducible apply je_call0); (focus rfl); (focus (decide +kernel)); (focus rfl); (focus exact cal_Values); (focus exact hV); (focus rfl))
      | ((with_reducible apply call0); (focus rfl); (focus exact cal_after); (focus exact hA); (focus rfl))
      | ((with_reducible apply je_call0); (focus rfl); (focus (decide +kernel)); (focus rfl); (focus exact cal_after); (focus exact hA); (focus rfl))
      | ((with_reducible apply call0); (focus rfl); (focus exact cal_Code); (focus exact Code _ _); (focus rfl))
      | ((with_reducible apply je_call0); (focus rfl); (focus (decide +kernel)); (focus rfl); (focus exact cal_Code); (focus exact Code _ _); (focus rfl))
      | exact True.intro
      | refine stp ?_
      | refine two ?_ ?_
      | refine allc fun c_ => ?_
      | (refine imp fun hc => ?_) <;> try (first | contradiction | (exfalso; omega) | (exfalso; exact absurd (of_dT hc) (by assumption)) | (exfalso; exact of_dF hc (by assumption)))
      | refine all fun v_ => ?_)
    all_goals clear fA_ fH_
    refine retv (VS.drop (List.nil_sublist _)) ?_
    ((with_reducible apply rq2); rfl; rfl; rfl)
    exact ret_eq rfl
end Go.Proofs.YtmamiihpghnmmaaDoor
namespace Go.Proofs.YtmamiihpghnmmaaDoor
open Go Go.Av Go.Sp
set_option linter.unusedVariables false
set_option linter.unusedSimpArgs false
set_option maxRecDepth 100000
set_option maxHeartbeats 4000000
theorem AfterRule (G : List (Nat × List D)) (m : Md) (code rule : Int) : ACr Tryd.prog G 20 [mdA m, .int code, .int rule] (.tup [.int (afterC m code rule).1, .int (afterC m code rule).2]) := by
  refine AC.factI (f := Ru.cells) (xs := m.rules) (.agg (.there .here)) fun hlr => ?_
  have hV := ValuesOf G m code
  refine AC_ofV (ts := [6, 7]) Tryd.f20.ntmps Tryd.func20 rfl rfl rfl (by simp [Tryd.ntmps20]) fun W I => ?_
  by_cases h1 : (valsF m code).2 ≠ 0
  · rw [afterC_err h1]
    all_goals haveI fA_ : FlagA := ⟨⟩
    all_goals haveI fH_ : FlagH := ⟨⟩
    repeat' (first
      | ((with_reducible apply call0); (focus rfl); (focus exact cal_ValuesOf); (focus exact hV); (focus rfl))
      | ((with_reducible apply je_call0); (focus rfl); (focus (decide +kernel)); (focus rfl); (focus exact cal_ValuesOf); (focus exact hV); (focus rfl))
      | ((with_reducible apply call0); (focus rfl); (focus exact cal_In); (focus exact In _ _ _ _); (focus rfl))
      | ((with_reducible apply je_call0); (focus rfl); (focus (decide +kernel)); (focus rfl); (focus exact cal_In); (focus exact In _ _ _ _); (focus rfl))
      | exact True.intro
      | refine stp ?_
      | refine two ?_ ?_
      | refine allc fun c_ => ?_
      | (refine imp fun hc => ?_) <;> try (first | contradiction | (exfalso; omega) | (exfalso; exact absurd (of_dT hc) (by assumption)) | (exfalso; exact of_dF hc (by assumption)))
      | refine all fun v_ => ?_)
    all_goals clear fA_ fH_
    refine retv (VS.drop (List.nil_sublist _)) ?_
    ((with_reducible apply rq2); rfl; rfl; rfl)
    exact ret_eq rfl
  obtain ⟨hm, c0, c1, hF⟩ := valsF_ok (Decidable.not_not.1 h1)
  have g := InV.vals hm c0 c1
  rw [hF] at hV
  dsimp only at hV
  clear h1
  by_cases h2 : ¬ (0 ≤ rule ∧ rule ≤ (m.rules.length : Int) - 1)
  · rw [afterC_no hF (by omega)]
    all_goals haveI fA_ : FlagA := ⟨⟩
    all_goals haveI fH_ : FlagH := ⟨⟩
    repeat' (first
      | ((with_reducible apply call0); (focus rfl); (focus exact cal_ValuesOf); (focus exact hV); (focus rfl))
      | ((with_reducible apply je_call0); (focus rfl); (focus (decide +kernel)); (focus rfl); (focus exact cal_ValuesOf); (focus exact hV); (focus rfl))
      | ((with_reducible apply call0); (focus rfl); (focus exact cal_In); (focus exact In _ _ _ _); (focus rfl))
      | ((with_reducible apply je_call0); (focus rfl); (focus (decide +kernel)); (focus rfl); (focus exact cal_In); (focus exact In _ _ _ _); (focus rfl))
      | exact True.intro
      | refine stp ?_
      | refine two ?_ ?_
      | refine allc fun c_ => ?_
      | (refine imp fun hc => ?_) <;> try (first | contradiction | (exfalso; omega) | (exfalso; exact absurd (of_dT hc) (by assumption)) | (exfalso; exact of_dF hc (by assumption)))
      | refine all fun v_ => ?_)
    all_goals clear fA_ fH_
    refine retv (VS.drop (List.nil_sublist _)) ?_
    ((with_reducible apply rq2); rfl; rfl; rfl)
    exact ret_eq rfl
  replace h2 := Decidable.not_not.1 h2
  have h4 : rule.toNat < m.rules.length := by omega
  rw [afterC_yes hF (by omega) h4]
  have hr := List.getElem_mem h4
  generalize valsT m.vars code = vs at hV g ⊢
  have gr := goodR hm hr
  have hl6 := varsF_len (modelF_vars hm)
  have hln := g.len
  have hfew := gr.few
  have hE := Evaluated G m.rules[rule.toNat].guard vs
  by_cases h5 : evalF m.rules[rule.toNat].guard vs ≠ (1, 0)
  · rw [afterF_guard h5]
    generalize evalF m.rules[rule.toNat].guard vs = p at hE h5
    obtain ⟨n, e⟩ := p
    dsimp only at hE
    by_cases h6 : e ≠ 0
    · all_goals haveI fA_ : FlagA := ⟨⟩
      all_goals haveI fH_ : FlagH := ⟨⟩
      repeat' (first
        | ((with_reducible apply call0); (focus rfl); (focus exact cal_ValuesOf); (focus exact hV); (focus rfl))
        | ((with_reducible apply je_call0); (focus rfl); (focus (decide +kernel)); (focus rfl); (focus exact cal_ValuesOf); (focus exact hV); (focus rfl))
        | ((with_reducible apply call0); (focus rfl); (focus exact cal_In); (focus exact In _ _ _ _); (focus rfl))
        | ((with_reducible apply je_call0); (focus rfl); (focus (decide +kernel)); (focus rfl); (focus exact cal_In); (focus exact In _ _ _ _); (focus rfl))
        | ((with_reducible apply call0); (focus rfl); (focus exact cal_Evaluated); (focus exact hE); (focus rfl))
        | ((with_reducible apply je_call0); (focus rfl); (focus (decide +kernel)); (focus rfl); (focus exact cal_Evaluated); (focus exact hE); (focus rfl))
        | exact True.intro
        | refine stp ?_
        | refine two ?_ ?_
        | refine allc fun c_ => ?_
        | (refine imp fun hc => ?_) <;> try (first | contradiction | (exfalso; omega) | (exfalso; exact absurd (of_dT hc) (by assumption)) | (exfalso; exact of_dF hc (by assumption)))
        | refine all fun v_ => ?_)
      all_goals clear fA_ fH_
      refine retv (VS.drop (List.nil_sublist _)) ?_
      ((with_reducible apply rq2); rfl; rfl; rfl)
      exact ret_eq rfl
    by_cases h7 : n ≠ 1
    · all_goals haveI fA_ : FlagA := ⟨⟩
      all_goals haveI fH_ : FlagH := ⟨⟩
      repeat' (first
        | ((with_reducible apply call0); (focus rfl); (focus exact cal_ValuesOf); (focus exact hV); (focus rfl))
        | ((with_reducible apply je_call0); (focus rfl); (focus (decide +kernel)); (focus rfl); (focus exact cal_ValuesOf); (focus exact hV); (focus rfl))
        | ((with_reducible apply call0); (focus rfl); (focus exact cal_In); (focus exact In _ _ _ _); (focus rfl))
        | ((with_reducible apply je_call0); (focus rfl); (focus (decide +kernel)); (focus rfl); (focus exact cal_In); (focus exact In _ _ _ _); (focus rfl))
        | ((with_reducible apply call0); (focus rfl); (focus exact cal_Evaluated); (focus exact hE); (focus rfl))
        | ((with_reducible apply je_call0); (focus rfl); (focus (decide +kernel)); (focus rfl); (focus exact cal_Evaluated); (focus exact hE); (focus rfl))
        | exact True.intro
        | refine stp ?_
        | refine two ?_ ?_
        | refine allc fun c_ => ?_
        | (refine imp fun hc => ?_) <;> try (first | contradiction | (exfalso; omega) | (exfalso; exact absurd (of_dT hc) (by assumption)) | (exfalso; exact of_dF hc (by assumption)))
        | refine all fun v_ => ?_)
      all_goals clear fA_ fH_
      refine retv (VS.drop (List.nil_sublist _)) ?_
      ((with_reducible apply rq2); rfl; rfl; rfl)
      exact ret_eq rfl
    exact absurd (Prod.ext (by dsimp only; omega) (by dsimp only; omega)) h5
  replace h5 := Decidable.not_not.1 h5
  rw [h5] at hE
  dsimp only at hE
  all_goals haveI fA_ : FlagA := ⟨⟩
  all_goals haveI fH_ : FlagH := ⟨⟩
  repeat' (first
    | ((with_reducible apply call0); (focus rfl); (focus exact cal_ValuesOf); (focus exact hV); (focus rfl))
    | ((with_reducible apply je_call0); (focus rfl); (focus (decide +kernel)); (focus rfl); (focus exact cal_ValuesOf); (focus exact hV); (focus rfl))
    | ((with_reducible apply call0); (focus rfl); (focus exact cal_In); (focus exact In _ _ _ _); (focus rfl))
    | ((with_reducible apply je_call0); (focus rfl); (focus (decide +kernel)); (focus rfl); (focus exact cal_In); (focus exact In _ _ _ _); (focus rfl))
    | ((with_reducible apply call0); (focus rfl); (focus exact cal_Evaluated); (focus exact hE); (focus rfl))
    | ((with_reducible apply je_call0); (focus rfl); (focus (decide +kernel)); (focus rfl); (focus exact cal_Evaluated); (focus exact hE); (focus rfl))
    | exact True.intro
    | refine stp ?_
    | refine two ?_ ?_
    | refine allc fun c_ => ?_
    | (refine imp fun hc => ?_) <;> try (first | contradiction | (exfalso; omega) | (exfalso; exact absurd (of_dT hc) (by assumption)) | (exfalso; exact of_dF hc (by assumption)))
    | refine all fun v_ => ?_)
  all_goals clear fA_ fH_
  obtain ⟨br, rfl⟩ : ∃ x, x = v_ := ⟨v_, rfl⟩
  obtain ⟨bm, rfl⟩ : ∃ x, x = v_ := ⟨v_, rfl⟩
  generalize hR : m.rules[rule.toNat] = r at hr gr hfew h5 hE ⊢
  clear hR
  refine jrow (E := 3) (sz := 1) intC ?_
  refine J_loopV (X := Nat × Sl) (fun y => [(3, .val (.pointer (some ⟨bm, 0, none⟩))), (8, .d (intsD vs)), (10, .val (.pointer (some ⟨br, 0, none⟩))), (13, .val y.2.v), (14, .int y.1)]) (fun y => [rowE y.2.v 3 1 intC ((List.range y.1).map (updAt vs r.sets)), .cells bm 25 [.d (varsD m.vars), .d (rulesD m.rules)], .cells br 71 [.d (opsD r.guard), .d (setsD r.sets)]]) (fun y => y.1 ≤ vs.length ∧ ∀ s ∈ r.sets, s.var < y.1 → (evalF s.val vs).2 = 0) (fun y => vs.length - y.1) (0, Sl.nil) ⟨Nat.zero_le _, fun s hs h => ?_⟩ (VS.take (by ((repeat (first | exact Take.nil | ((with_reducible apply Take.cons); (focus ((repeat (first | exact Sel.here | with_reducible apply Sel.there)); done))))); done)) ?_) ?_
  · have := (gr.sets s hs).1
    dsimp only at h
    omega
  · repeat (first
      | exact Env.le_nil _
      | refine Env.le_cons (AV.le_refl _) ?_
      | refine Env.le_cons (AV.le_int rfl (by first | rfl | omega | (dsimp only; omega))) ?_)
  rintro ⟨i, q⟩ ⟨hi, hok⟩
  dsimp only at hi hok ⊢
  have hlj : ((List.range i).map (updAt vs r.sets)).length = i := by simp
  by_cases hil : i < vs.length
  · have hat : updAt vs r.sets i = upd vs (r.sets.drop 0) i vs[i] := by rw [updAt, List.getElem?_eq_getElem hil]; rfl
    have hsn : (List.range (i + 1)).map (updAt vs r.sets) = (List.range i).map (updAt vs r.sets) ++ [updAt vs r.sets i] := by simp [List.range_succ]
    all_goals haveI fA_ : FlagA := ⟨⟩
    all_goals haveI fH_ : FlagH := ⟨⟩
    repeat' (first
      | exact True.intro
      | refine stp ?_
      | refine two ?_ ?_
      | refine allc fun c_ => ?_
      | (refine imp fun hc => ?_) <;> try (first | contradiction | (exfalso; omega) | (exfalso; exact absurd (of_dT hc) (by assumption)) | (exfalso; exact of_dF hc (by assumption)))
      | refine all fun v_ => ?_)
    all_goals clear fA_ fH_
    refine J_loopV (X := Nat × Int) (fun y => [(3, .val (.pointer (some ⟨bm, 0, none⟩))), (8, .d (intsD vs)), (10, .val (.pointer (some ⟨br, 0, none⟩))), (13, .val q.v), (14, .int i), (15, .int y.2), (16, .int y.1)]) (fun _ => [rowE q.v 3 1 intC ((List.range i).map (updAt vs r.sets)), .cells bm 25 [.d (varsD m.vars), .d (rulesD m.rules)], .cells br 71 [.d (opsD r.guard), .d (setsD r.sets)]]) (fun y => y.1 ≤ r.sets.length ∧ updAt vs r.sets i = upd vs (r.sets.drop y.1) i y.2 ∧ ∀ s ∈ r.sets.take y.1, s.var = i → (evalF s.val vs).2 = 0) (fun y => r.sets.length - y.1) (0, vs[i]) ⟨Nat.zero_le _, hat, fun s hs => (by cases hs)⟩ (VS.take (by ((repeat (first | exact Take.nil | ((with_reducible apply Take.cons); (focus ((repeat (first | exact Sel.here | with_reducible apply Sel.there)); done))))); done)) ?_) ?_
    · repeat (first
        | exact Env.le_nil _
        | refine Env.le_cons (AV.le_refl _) ?_
        | refine Env.le_cons (AV.le_int rfl (by first | rfl | omega | (dsimp only; omega))) ?_)
    rintro ⟨k, x⟩ ⟨hk, hx, hok2⟩
    dsimp only at hk hx hok2 ⊢
    by_cases hkl : k < r.sets.length
    · have hs := List.getElem_mem hkl
      obtain ⟨a1, a2, a3⟩ := gr.sets _ hs
      rw [upd_at vs r.sets k hkl] at hx
      have htk : ∀ s, s ∈ r.sets.take (k + 1) → s ∈ r.sets.take k ∨ s = r.sets[k] := fun s h => by
        rw [List.take_succ_eq_append_getElem hkl] at h
        rcases List.mem_append.1 h with h | h
        · exact .inl h
        · exact .inr (List.mem_singleton.1 h)
      by_cases hv : r.sets[k].var ≠ i
      · rw [if_neg (by omega)] at hx
        all_goals haveI fA_ : FlagA := ⟨⟩
        all_goals haveI fH_ : FlagH := ⟨⟩
        repeat' (first
          | exact True.intro
          | refine stp ?_
          | refine two ?_ ?_
          | refine allc fun c_ => ?_
          | (refine imp fun hc => ?_) <;> try (first | contradiction | (exfalso; omega) | (exfalso; exact absurd (of_dT hc) (by assumption)) | (exfalso; exact of_dF hc (by assumption)))
          | refine all fun v_ => ?_)
        all_goals clear fA_ fH_
        refine ⟨(k + 1, x), ⟨by dsimp only; omega, hx, fun s h he => ?_⟩, by dsimp only; omega, VS.take (by ((repeat (first | exact Take.nil | ((with_reducible apply Take.cons); (focus ((repeat (first | exact Sel.here | with_reducible apply Sel.there)); done))))); done)) ?_⟩
        · rcases htk s h with h | rfl
          · exact hok2 s h he
          · exact absurd he hv
        · repeat (first
            | exact Env.le_nil _
            | refine Env.le_cons (AV.le_refl _) ?_
            | refine Env.le_cons (AV.le_int rfl (by first | rfl | omega | (dsimp only; omega))) ?_)
      rw [if_pos (by omega)] at hx
      have hE2 := Evaluated G r.sets[k].val vs
      have hno : (evalF r.sets[k].val vs).2 ≠ 0 → afterF m r vs = none := fun h => afterF_set hs fun k => h k.1
      have hyes : (evalF r.sets[k].val vs).2 = 0 → ∀ s ∈ r.sets.take (k + 1), s.var = i → (evalF s.val vs).2 = 0 := fun h0 s h he => by
        rcases htk s h with h | rfl
        · exact hok2 s h he
        · exact h0
      generalize evalF r.sets[k].val vs = p at hE2 hx hno hyes
      obtain ⟨n, e⟩ := p
      dsimp only at hE2 hx hno hyes
      by_cases he : e ≠ 0
      · rw [hno he]
        all_goals haveI fA_ : FlagA := ⟨⟩
        all_goals haveI fH_ : FlagH := ⟨⟩
        repeat' (first
          | ((with_reducible apply call0); (focus rfl); (focus exact cal_Evaluated); (focus exact hE2); (focus rfl))
          | ((with_reducible apply je_call0); (focus rfl); (focus (decide +kernel)); (focus rfl); (focus exact cal_Evaluated); (focus exact hE2); (focus rfl))
          | exact True.intro
          | refine stp ?_
          | refine two ?_ ?_
          | refine allc fun c_ => ?_
          | (refine imp fun hc => ?_) <;> try (first | contradiction | (exfalso; omega) | (exfalso; exact absurd (of_dT hc) (by assumption)) | (exfalso; exact of_dF hc (by assumption)))
          | refine all fun v_ => ?_)
        all_goals clear fA_ fH_
        refine retv (VS.drop (List.nil_sublist _)) ?_
        ((with_reducible apply rq2); rfl; rfl; rfl)
        exact ret_eq rfl
      all_goals haveI fA_ : FlagA := ⟨⟩
      all_goals haveI fH_ : FlagH := ⟨⟩
      repeat' (first
        | ((with_reducible apply call0); (focus rfl); (focus exact cal_Evaluated); (focus exact hE2); (focus rfl))
        | ((with_reducible apply je_call0); (focus rfl); (focus (decide +kernel)); (focus rfl); (focus exact cal_Evaluated); (focus exact hE2); (focus rfl))
        | exact True.intro
        | refine stp ?_
        | refine two ?_ ?_
        | refine allc fun c_ => ?_
        | (refine imp fun hc => ?_) <;> try (first | contradiction | (exfalso; omega) | (exfalso; exact absurd (of_dT hc) (by assumption)) | (exfalso; exact of_dF hc (by assumption)))
        | refine all fun v_ => ?_)
      all_goals clear fA_ fH_
      refine ⟨(k + 1, n), ⟨by dsimp only; omega, hx, hyes (Decidable.not_not.1 he)⟩, by dsimp only; omega, VS.take (by ((repeat (first | exact Take.nil | ((with_reducible apply Take.cons); (focus ((repeat (first | exact Sel.here | with_reducible apply Sel.there)); done))))); done)) ?_⟩
      repeat (first
        | exact Env.le_nil _
        | refine Env.le_cons (AV.le_refl _) ?_
        | refine Env.le_cons (AV.le_int rfl (by first | rfl | omega | (dsimp only; omega))) ?_)
    obtain rfl : k = r.sets.length := by omega
    rw [upd_end vs r.sets _ (Nat.le_refl _)] at hx
    rw [List.take_length] at hok2
    rw [hx] at hsn
    all_goals haveI fA_ : FlagA := ⟨⟩
    all_goals haveI fH_ : FlagH := ⟨⟩
    repeat' (first
      | exact True.intro
      | refine stp ?_
      | refine two ?_ ?_
      | refine allc fun c_ => ?_
      | (refine imp fun hc => ?_) <;> try (first | contradiction | (exfalso; omega) | (exfalso; exact absurd (of_dT hc) (by assumption)) | (exfalso; exact of_dF hc (by assumption)))
      | refine all fun v_ => ?_)
    all_goals clear fA_ fH_
    refine ⟨(i + 1, v_), ⟨by dsimp only; omega, fun s hs h => ?_⟩, by dsimp only; omega, ?_⟩
    · by_cases h0 : s.var = i
      · exact hok2 s hs h0
      · dsimp only at h
        exact hok s hs (by omega)
    · dsimp only
      rw [hsn]
      refine VS.take (by ((repeat (first | exact Take.nil | ((with_reducible apply Take.cons); (focus ((repeat (first | exact Sel.here | with_reducible apply Sel.there)); done))))); done)) ?_
      repeat (first
        | exact Env.le_nil _
        | refine Env.le_cons (AV.le_refl _) ?_
        | refine Env.le_cons (AV.le_int rfl (by first | rfl | omega | (dsimp only; omega))) ?_)
  obtain rfl : i = vs.length := by omega
  have hev : ∀ s ∈ r.sets, (evalF s.val vs).2 = 0 := fun s hs => hok s hs (by have := (gr.sets s hs).2.1; omega)
  have hfin := after_ref hm hr g h5 hev
  rw [← setAll_upd vs r.sets]
  have hsl := setAll_length vs r.sets vs
  have hC := CodeOf G m (setAll vs r.sets vs)
  refine J_vs (vdat (h1 := []) (h' := [.cells bm 25 [.d (varsD m.vars), .d (rulesD m.rules)], .cells br 71 [.d (opsD r.guard), .d (setsD r.sets)]]) 8 rfl rfl (fun _ => rfl) (by omega) (CvE.cons (t := 13) rfl .here (CvE.refl _ _ _)) (CvH.refl _)) ?_
  generalize setAll vs r.sets vs = out at hfin hC hsl ⊢
  generalize hp : codeF m out = p at hfin hC
  obtain ⟨c, e⟩ := p
  dsimp only at hC hfin
  rcases hfin with ⟨f1, f2⟩ | ⟨f1, f2⟩
  · subst f1
    rw [f2]
    all_goals haveI fA_ : FlagA := ⟨⟩
    all_goals haveI fH_ : FlagH := ⟨⟩
    repeat' (first
      | ((with_reducible apply call0); (focus rfl); (focus exact cal_CodeOf); (focus exact hC); (focus rfl))
      | ((with_reducible apply je_call0); (focus rfl); (focus (decide +kernel)); (focus rfl); (focus exact cal_CodeOf); (focus exact hC); (focus rfl))
      | exact True.intro
      | refine stp ?_
      | refine two ?_ ?_
      | refine allc fun c_ => ?_
      | (refine imp fun hc => ?_) <;> try (first | contradiction | (exfalso; omega) | (exfalso; exact absurd (of_dT hc) (by assumption)) | (exfalso; exact of_dF hc (by assumption)))
      | refine all fun v_ => ?_)
    all_goals clear fA_ fH_
    refine retv (VS.drop (List.nil_sublist _)) ?_
    ((with_reducible apply rq2); rfl; rfl; rfl)
    refine ret_eq ?_
    dsimp only
    rw [hp]
  · rw [f2]
    all_goals haveI fA_ : FlagA := ⟨⟩
    all_goals haveI fH_ : FlagH := ⟨⟩
    repeat' (first
      | ((with_reducible apply call0); (focus rfl); (focus exact cal_CodeOf); (focus exact hC); (focus rfl))
      | ((with_reducible apply je_call0); (focus rfl); (focus (decide +kernel)); (focus rfl); (focus exact cal_CodeOf); (focus exact hC); (focus rfl))
      | exact True.intro
      | refine stp ?_
      | refine two ?_ ?_
      | refine allc fun c_ => ?_
      | (refine imp fun hc => ?_) <;> try (first | contradiction | (exfalso; omega) | (exfalso; exact absurd (of_dT hc) (by assumption)) | (exfalso; exact of_dF hc (by assumption)))
      | refine all fun v_ => ?_)
    all_goals clear fA_ fH_
    refine retv (VS.drop (List.nil_sublist _)) ?_
    ((with_reducible apply rq2); rfl; rfl; rfl)
    exact ret_eq rfl
end Go.Proofs.YtmamiihpghnmmaaDoor
