/- A bundle of this claim's own texts: M4. -/
import Derived.Test.YtcikppldaepodaaGreatDoorZ5
namespace Go.Proofs.YtcikppldaepodaaGreatDoor
open Go Go.Av Go.Sp
set_option linter.unusedVariables false
set_option linter.unusedSimpArgs false
set_option maxRecDepth 100000
set_option maxHeartbeats 4000000

theorem cal_models : Cal Tryz.prog 29 := Cal.of Tryz.func29 (by kernel_rfl) (by kernel_rfl)
theorem conf_Variable {g : Nat} {xs : List D} (h : Conf Tryz.prog (g + 2) 120 xs) : ∃ v : Vr, xs = v.cells := by
  obtain ⟨p0, p1, p2, p3, rfl, h0, h1, h2, h3⟩ := conf_struct4_of Tryz.underlying120 h
  obtain ⟨s, rfl, _⟩ := conf_string_of Tryz.underlying9 h0
  obtain ⟨a, rfl⟩ := conf_int h1
  obtain ⟨b, rfl⟩ := conf_int h2
  obtain ⟨c, rfl⟩ := conf_int h3
  exact ⟨⟨s, a, b, c⟩, rfl⟩
theorem conf_vars {g : Nat} {xs : List D} (h : Conf Tryz.prog (g + 3) 22 xs) : ∃ l : List Vr, xs = [varsD l] ∧ l.length * 40 ≤ 140737488351232 := conf_slice_of Tryz.underlying22 (by kernel_rfl) (by kernel_rfl) (fun _ h => conf_Variable h) h
theorem conf_Set {g : Nat} {xs : List D} (h : Conf Tryz.prog (g + 4) 127 xs) : ∃ s : St, xs = s.cells := by
  obtain ⟨p0, p1, rfl, h0, h1⟩ := conf_struct2_of Tryz.underlying127 h
  obtain ⟨a, rfl⟩ := conf_int h0
  obtain ⟨l, rfl, _⟩ := conf_ops h1
  exact ⟨⟨a, l⟩, rfl⟩
theorem conf_sets {g : Nat} {xs : List D} (h : Conf Tryz.prog (g + 5) 122 xs) : ∃ l : List St, xs = [setsD l] ∧ l.length * 32 ≤ 140737488351232 := conf_slice_of Tryz.underlying122 (by kernel_rfl) (by kernel_rfl) (fun _ h => conf_Set h) h
theorem conf_Rule {g : Nat} {xs : List D} (h : Conf Tryz.prog (g + 6) 124 xs) : ∃ r : Ru, xs = r.cells := by
  obtain ⟨p0, p1, rfl, h0, h1⟩ := conf_struct2_of Tryz.underlying124 h
  obtain ⟨a, rfl, _⟩ := conf_ops h0
  obtain ⟨l, rfl, _⟩ := conf_sets h1
  exact ⟨⟨a, l⟩, rfl⟩
theorem conf_rules {g : Nat} {xs : List D} (h : Conf Tryz.prog (g + 7) 23 xs) : ∃ l : List Ru, xs = [rulesD l] ∧ l.length * 48 ≤ 140737488351232 := conf_slice_of Tryz.underlying23 (by kernel_rfl) (by kernel_rfl) (fun _ h => conf_Rule h) h
theorem conf_Model {g : Nat} {xs : List D} (h : Conf Tryz.prog (g + 8) 25 xs) : ∃ m : Md, xs = m.cells := by
  obtain ⟨p0, p1, rfl, h0, h1⟩ := conf_struct2_of Tryz.underlying25 h
  obtain ⟨a, rfl, _⟩ := conf_vars h0
  obtain ⟨l, rfl, _⟩ := conf_rules h1
  exact ⟨⟨a, l⟩, rfl⟩
theorem models (G : List (Nat × List D)) (m : Md) : ACr Tryz.prog G 29 [mdA m] (mdA m) := by
  refine AC.factI (f := Vr.cells) (xs := m.vars) (.agg .here) fun hlv => ?_
  refine AC.factI (f := Ru.cells) (xs := m.rules) (.agg (.there .here)) fun hlr => ?_
  refine AC.factU (f := Ru.cells) (e := St.cells) (g := Ru.sets) (xs := m.rules) 1 (fun _ => rfl) (.agg (.there .here)) fun hls => ?_
  refine AC_ofR (rs := [.cell 2 25]) Tryz.f29.ntmps Tryz.func29 rfl rfl rfl (by simp [Tryz.ntmps29]) fun W I => ?_
  all_goals haveI fA_ : FlagA := ⟨⟩
  all_goals haveI fH_ : FlagH := ⟨⟩
  repeat' (first
    | ((with_reducible apply call0); (focus rfl); (focus exact cal_ops); (focus exact opsU _ _); (focus rfl))
    | ((with_reducible apply je_call0); (focus rfl); (focus (decide +kernel)); (focus rfl); (focus exact cal_ops); (focus exact opsU _ _); (focus rfl))
    | exact True.intro
    | refine stp ?_
    | refine two ?_ ?_
    | refine allc fun c_ => ?_
    | (refine imp fun hc => ?_) <;> try (first | contradiction | (exfalso; omega) | (exfalso; exact absurd (of_dT hc) (by assumption)) | (exfalso; exact of_dF hc (by assumption)))
    | refine all fun v_ => ?_)
  all_goals clear fA_ fH_
  rename_i bm bt
  refine jrow (E := 124) (sz := 2) Ru.cells ?_
  refine J_loopV (X := Nat × Sl) (fun y => [(1, .val (.pointer (some ⟨bm, 0, none⟩))), (2, .val (.pointer (some ⟨bt, 0, none⟩))), (3, .val (.pointer (some ⟨v_, 0, none⟩))), (4, .int y.1)]) (fun y => [rowE y.2.v 124 2 Ru.cells (m.rules.take y.1), .cells v_ 25 [.d (varsD m.vars), .val y.2.v], .cells bm 25 [.d (varsD m.vars), .d (rulesD m.rules)], .cells bt 25 [.val (.slice none 0 0), .val (.slice none 0 0)]]) (fun y => y.1 ≤ m.rules.length) (fun y => m.rules.length - y.1) (0, Sl.nil) (Nat.zero_le _) (VS.take (by ((repeat (first | exact Take.nil | ((with_reducible apply Take.cons); (focus ((repeat (first | exact Sel.here | with_reducible apply Sel.there)); done))))); done)) ?_) ?_
  · repeat (first
      | exact Env.le_nil _
      | refine Env.le_cons (AV.le_refl _) ?_
      | refine Env.le_cons (AV.le_int rfl (by first | rfl | omega | (dsimp only; omega))) ?_)
  rintro ⟨i, q⟩ h1
  dsimp only at h1 ⊢
  have hlen : (m.rules.take i).length = i := by rw [List.length_take]; omega
  by_cases hi : i < m.rules.length
  · have hlsi := hls m.rules[i] (List.getElem_mem hi)
    all_goals haveI fA_ : FlagA := ⟨⟩
    all_goals haveI fH_ : FlagH := ⟨⟩
    repeat' (first
      | ((with_reducible apply call0); (focus rfl); (focus exact cal_ops); (focus exact opsU _ _); (focus rfl))
      | ((with_reducible apply je_call0); (focus rfl); (focus (decide +kernel)); (focus rfl); (focus exact cal_ops); (focus exact opsU _ _); (focus rfl))
      | exact True.intro
      | refine stp ?_
      | refine two ?_ ?_
      | refine allc fun c_ => ?_
      | (refine imp fun hc => ?_) <;> try (first | contradiction | (exfalso; omega) | (exfalso; exact absurd (of_dT hc) (by assumption)) | (exfalso; exact of_dF hc (by assumption)))
      | refine all fun v_ => ?_)
    all_goals clear fA_ fH_
    refine jrow (E := 127) (sz := 2) St.cells ?_
    rename_i bo
    refine J_loopV (X := Nat × Sl) (fun y => [(1, .val (.pointer (some ⟨bm, 0, none⟩))), (2, .val (.pointer (some ⟨bt, 0, none⟩))), (3, .val (.pointer (some ⟨bo, 0, none⟩))), (4, .int i), (5, .val (.pointer (some ⟨v_, 0, none⟩))), (6, .int y.1)]) (fun y => [rowE y.2.v 127 2 St.cells (m.rules[i].sets.take y.1), .cells v_ 124 [.d (opsD m.rules[i].guard), .val y.2.v], rowE q.v 124 2 Ru.cells (m.rules.take i), .cells bo 25 [.d (varsD m.vars), .val q.v], .cells bm 25 [.d (varsD m.vars), .d (rulesD m.rules)], .cells bt 25 [.val (.slice none 0 0), .val (.slice none 0 0)]]) (fun y => y.1 ≤ m.rules[i].sets.length) (fun y => m.rules[i].sets.length - y.1) (0, Sl.nil) (Nat.zero_le _) (VS.take (by ((repeat (first | exact Take.nil | ((with_reducible apply Take.cons); (focus ((repeat (first | exact Sel.here | with_reducible apply Sel.there)); done))))); done)) ?_) ?_
    · repeat (first
        | exact Env.le_nil _
        | refine Env.le_cons (AV.le_refl _) ?_
        | refine Env.le_cons (AV.le_int rfl (by first | rfl | omega | (dsimp only; omega))) ?_)
    rintro ⟨k, p⟩ k1
    dsimp only at k1 ⊢
    have hlen2 : (m.rules[i].sets.take k).length = k := by rw [List.length_take]; omega
    by_cases hk : k < m.rules[i].sets.length
    · have et : m.rules[i].sets.take k ++ [m.rules[i].sets[k]] = m.rules[i].sets.take (k + 1) := (List.take_succ_eq_append_getElem hk).symm
      all_goals haveI fA_ : FlagA := ⟨⟩
      all_goals haveI fH_ : FlagH := ⟨⟩
      all_goals haveI fS_ : StopAt 2 := ⟨⟩
      repeat' (first
        | ((with_reducible apply call0); (focus rfl); (focus exact cal_ops); (focus exact opsU _ _); (focus rfl))
        | ((with_reducible apply je_call0); (focus rfl); (focus (decide +kernel)); (focus rfl); (focus exact cal_ops); (focus exact opsU _ _); (focus rfl))
        | exact True.intro
        | refine stp ?_
        | refine two ?_ ?_
        | refine allc fun c_ => ?_
        | (refine imp fun hc => ?_) <;> try (first | contradiction | (exfalso; omega))
        | refine all fun v_ => ?_)
      all_goals clear fA_ fH_ fS_
      refine ⟨?_⟩
      refine J_region_HB [rowE p.v 127 2 St.cells (m.rules[i].sets.take k)] mixed rfl (by (repeat ((with_reducible apply Hd.cons); (focus rfl))); exact Hd.nil) (by (repeat (with_reducible apply len_cons)); exact len_nil) (by decide +kernel) (by ((repeat (first | with_reducible exact Take.nil | ((with_reducible apply Take.cons); (focus ((repeat (first | with_reducible exact Sel.here | with_reducible apply Sel.there)); done))))); done)) ?_
      all_goals haveI fA_ : FlagA := ⟨⟩
      all_goals haveI fH_ : FlagH := ⟨⟩
      repeat' (first
        | ((with_reducible apply call0); (focus rfl); (focus exact cal_ops); (focus exact opsU _ _); (focus rfl))
        | ((with_reducible apply je_call0); (focus rfl); (focus (decide +kernel)); (focus rfl); (focus exact cal_ops); (focus exact opsU _ _); (focus rfl))
        | ((with_reducible apply (jbuild_agg (cs := St.cells (m.rules[i].sets[k])))); (focus rfl); (focus rfl); (focus (with_reducible exact ElC.h)); (focus rfl); (focus rfl); (focus rfl); (focus rfl); (focus rfl))
        | exact True.intro
        | refine stp ?_
        | refine two ?_ ?_
        | refine allc fun c_ => ?_
        | (refine imp fun hc => ?_) <;> try (first | contradiction | (exfalso; omega) | (exfalso; exact absurd (of_dT hc) (by assumption)) | (exfalso; exact of_dF hc (by assumption)))
        | refine all fun v_ => ?_)
      all_goals clear fA_ fH_
      refine ⟨(k + 1, v_), by dsimp only; omega, by dsimp only; omega, ?_⟩
      dsimp only
      rw [← et]
      refine VS.take (by ((repeat (first | exact Take.nil | ((with_reducible apply Take.cons); (focus ((repeat (first | exact Sel.here | with_reducible apply Sel.there)); done))))); done)) ?_
      repeat (first
        | exact Env.le_nil _
        | refine Env.le_cons (AV.le_refl _) ?_
        | refine Env.le_cons (AV.le_int rfl (by first | rfl | omega | (dsimp only; omega))) ?_)
    obtain rfl : k = m.rules[i].sets.length := by omega
    rw [List.take_length]
    have et : m.rules.take i ++ [m.rules[i]] = m.rules.take (i + 1) := (List.take_succ_eq_append_getElem hi).symm
    refine J_vs (vdat (h1 := []) (h' := [.cells v_ 124 [.d (opsD m.rules[i].guard), .d (setsD m.rules[i].sets)], rowE q.v 124 2 Ru.cells (m.rules.take i), .cells bo 25 [.d (varsD m.vars), .val q.v], .cells bm 25 [.d (varsD m.vars), .d (rulesD m.rules)], .cells bt 25 [.val (.slice none 0 0), .val (.slice none 0 0)]]) 32 rfl rfl (fun _ => rfl) hlsi (CvE.refl _ _ _) (CvH.cells (.cons (.same _) (.cons .here .nil)) (.refl _))) ?_
    all_goals haveI fA_ : FlagA := ⟨⟩
    all_goals haveI fH_ : FlagH := ⟨⟩
    repeat' (first
      | ((with_reducible apply call0); (focus rfl); (focus exact cal_ops); (focus exact opsU _ _); (focus rfl))
      | ((with_reducible apply je_call0); (focus rfl); (focus (decide +kernel)); (focus rfl); (focus exact cal_ops); (focus exact opsU _ _); (focus rfl))
      | ((with_reducible apply (jbuild_agg (cs := Ru.cells m.rules[i]))); (focus rfl); (focus rfl); (focus (with_reducible exact ElC.h)); (focus rfl); (focus rfl); (focus rfl); (focus rfl); (focus rfl))
      | ((with_reducible apply (japU1 (f := Ru.cells) (u := m.rules[i]))); (focus rfl); (focus rfl); (focus (with_reducible exact ElC.h)); (focus (intro q_; (repeat (first | with_reducible exact Upd.here | with_reducible apply Upd.there)); done)); (focus rfl); (focus rfl); (focus rfl); (focus rfl); (focus (first | omega | (simp only [List.length_map, List.length_range, List.length_append, List.length_cons, List.length_nil, List.length_take, List.length_drop, List.length_set, List.length_replicate]; omega))); (focus (first | omega | (simp only [List.length_map, List.length_range, List.length_append, List.length_cons, List.length_nil, List.length_take, List.length_drop, List.length_set, List.length_replicate]; omega))))
      | exact True.intro
      | refine stp ?_
      | refine two ?_ ?_
      | refine allc fun c_ => ?_
      | (refine imp fun hc => ?_) <;> try (first | contradiction | (exfalso; omega) | (exfalso; exact absurd (of_dT hc) (by assumption)) | (exfalso; exact of_dF hc (by assumption)))
      | refine all fun v_ => ?_)
    all_goals clear fA_ fH_
    refine ⟨(i + 1, v_), by dsimp only; omega, by dsimp only; omega, ?_⟩
    dsimp only
    rw [← et]
    refine VS.take (by ((repeat (first | exact Take.nil | ((with_reducible apply Take.cons); (focus ((repeat (first | exact Sel.here | with_reducible apply Sel.there)); done))))); done)) ?_
    repeat (first
      | exact Env.le_nil _
      | refine Env.le_cons (AV.le_refl _) ?_
      | refine Env.le_cons (AV.le_int rfl (by first | rfl | omega | (dsimp only; omega))) ?_)
  obtain rfl : i = m.rules.length := by omega
  rw [List.take_length]
  refine J_vs (vdat (h1 := []) (h' := [.cells v_ 25 [.d (varsD m.vars), .d (rulesD m.rules)], .cells bm 25 [.d (varsD m.vars), .d (rulesD m.rules)], .cells bt 25 [.val (.slice none 0 0), .val (.slice none 0 0)]]) 48 rfl rfl (fun _ => rfl) hlr (CvE.refl _ _ _) (CvH.cells (.cons (.same _) (.cons .here .nil)) (.refl _))) ?_
  all_goals haveI fA_ : FlagA := ⟨⟩
  all_goals haveI fH_ : FlagH := ⟨⟩
  repeat' (first
    | exact True.intro
    | refine stp ?_
    | refine two ?_ ?_
    | refine allc fun c_ => ?_
    | (refine imp fun hc => ?_) <;> try (first | contradiction | (exfalso; omega) | (exfalso; exact absurd (of_dT hc) (by assumption)) | (exfalso; exact of_dF hc (by assumption)))
    | refine all fun v_ => ?_)
  all_goals clear fA_ fH_
  exact retr0 (xs := [mdA m]) ⟨rv_agg rfl (by (with_reducible exact ElC.h)) rfl (by ((repeat (first | exact List.mem_cons_self | apply List.mem_cons_of_mem)); done)) rfl, trivial⟩ rfl (h' := []) (List.nil_sublist _) (ret_eq rfl)
end Go.Proofs.YtcikppldaepodaaGreatDoor
