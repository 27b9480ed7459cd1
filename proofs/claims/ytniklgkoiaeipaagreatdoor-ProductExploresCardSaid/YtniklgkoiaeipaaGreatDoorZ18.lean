/- A bundle of this claim's own texts: M4 N2 M7. -/
import Derived.Test.YtniklgkoiaeipaaGreatDoorZ3
import Derived.Test.YtniklgkoiaeipaaGreatDoorZ5
import Derived.Test.YtniklgkoiaeipaaGreatDoorZ8
import Derived.Test.YtniklgkoiaeipaaGreatDoorZ9
import Derived.Test.YtniklgkoiaeipaaGreatDoorZ17
namespace Go.Proofs.YtniklgkoiaeipaaGreatDoor
open Go Go.Av Go.Sp
set_option linter.unusedVariables false
set_option linter.unusedSimpArgs false
set_option maxRecDepth 100000
set_option maxHeartbeats 4000000

theorem cal_models : Cal Tryz.prog 39 := Cal.of Tryz.func39 (by kernel_rfl) (by kernel_rfl)
theorem cal_sameModel : Cal Tryz.prog 57 := Cal.of Tryz.func57 (by kernel_rfl) (by kernel_rfl)
theorem conf_Variable {g : Nat} {xs : List D} (h : Conf Tryz.prog (g + 2) 131 xs) : ∃ v : Vr, xs = v.cells := by
 obtain ⟨p0, p1, p2, p3, rfl, h0, h1, h2, h3⟩ := conf_struct4_of Tryz.underlying131 h
 obtain ⟨s, rfl, _⟩ := conf_string_of Tryz.underlying9 h0
 obtain ⟨a, rfl⟩ := conf_int h1
 obtain ⟨b, rfl⟩ := conf_int h2
 obtain ⟨c, rfl⟩ := conf_int h3
 exact ⟨⟨s, a, b, c⟩, rfl⟩
theorem conf_vars {g : Nat} {xs : List D} (h : Conf Tryz.prog (g + 3) 22 xs) : ∃ l : List Vr, xs = [varsD l] ∧ l.length * 40 ≤ 140737488351232 := conf_slice_of Tryz.underlying22 (by kernel_rfl) (by kernel_rfl) (fun _ h => conf_Variable h) h
theorem conf_Set {g : Nat} {xs : List D} (h : Conf Tryz.prog (g + 4) 139 xs) : ∃ s : St, xs = s.cells := by
 obtain ⟨p0, p1, rfl, h0, h1⟩ := conf_struct2_of Tryz.underlying139 h
 obtain ⟨a, rfl⟩ := conf_int h0
 obtain ⟨l, rfl, _⟩ := conf_ops h1
 exact ⟨⟨a, l⟩, rfl⟩
theorem conf_sets {g : Nat} {xs : List D} (h : Conf Tryz.prog (g + 5) 135 xs) : ∃ l : List St, xs = [setsD l] ∧ l.length * 32 ≤ 140737488351232 := conf_slice_of Tryz.underlying135 (by kernel_rfl) (by kernel_rfl) (fun _ h => conf_Set h) h
theorem conf_Rule {g : Nat} {xs : List D} (h : Conf Tryz.prog (g + 6) 137 xs) : ∃ r : Ru, xs = r.cells := by
 obtain ⟨p0, p1, rfl, h0, h1⟩ := conf_struct2_of Tryz.underlying137 h
 obtain ⟨a, rfl, _⟩ := conf_ops h0
 obtain ⟨l, rfl, _⟩ := conf_sets h1
 exact ⟨⟨a, l⟩, rfl⟩
theorem conf_rules {g : Nat} {xs : List D} (h : Conf Tryz.prog (g + 7) 23 xs) : ∃ l : List Ru, xs = [rulesD l] ∧ l.length * 48 ≤ 140737488351232 := conf_slice_of Tryz.underlying23 (by kernel_rfl) (by kernel_rfl) (fun _ h => conf_Rule h) h
theorem conf_Model {g : Nat} {xs : List D} (h : Conf Tryz.prog (g + 8) 25 xs) : ∃ m : Md, xs = m.cells := by
 obtain ⟨p0, p1, rfl, h0, h1⟩ := conf_struct2_of Tryz.underlying25 h
 obtain ⟨a, rfl, _⟩ := conf_vars h0
 obtain ⟨l, rfl, _⟩ := conf_rules h1
 exact ⟨⟨a, l⟩, rfl⟩
theorem eq4_Variable : Eq4 Tryz.prog 131 := ⟨by kernel_rfl, fun s a b c w => by
 have u3 := Tryz.underlying3
 have u9 := Tryz.underlying9
 rw [show (10000 : Nat) = 9999 + 1 from rfl, run_equalIn_agg w 9999 131 _ _ (by kernel_rfl) (by kernel_rfl)]
 simp only [Program.fieldsOf, Tryz.underlying131]
 go_simp
 try simp⟩
theorem armXM4_1 {p q : Prop} (hp : p) (h : p → q := by
 apply cmp; (focus (first
  | ((with_reducible apply call0); (focus rfl); (focus exact cal_ops); (focus exact opsU _ _); (focus rfl))
  | ((with_reducible apply je_call0); (focus rfl); (focus (decide +kernel)); (focus rfl); (focus exact cal_ops); (focus exact opsU _ _); (focus rfl))
  ))
 exact fun h => h) : q := h hp
theorem models (G : List (Nat × List D)) (m : Md) : ACr Tryz.prog G 39 [mdA m] (mdA m) := by
 refine AC.factI (f := Vr.cells) (xs := m.vars) (.agg .here) fun hlv => ?_
 refine AC.factI (f := Ru.cells) (xs := m.rules) (.agg (.there .here)) fun hlr => ?_
 refine AC.factU (f := Ru.cells) (e := St.cells) (g := Ru.sets) (xs := m.rules) 1 (fun _ => rfl) (.agg (.there .here)) fun hls => ?_
 refine AC_ofR (rs := [.cell 2 25]) Tryz.f39.ntmps Tryz.func39 rfl rfl rfl (by simp [Tryz.ntmps39]) fun W I => ?_
 all_goals haveI fA_ : FlagA := ⟨⟩
 all_goals haveI fH_ : FlagH := ⟨⟩
 repeat' (first
  | refine armXM4_1 ?_
  | exact True.intro
  | refine stp ?_
  | refine two ?_ ?_
  | refine allc fun c_ => ?_
  | (refine imp fun hc => ?_) <;> try exact cx1 hc
  | refine all fun v_ => ?_)
 all_goals clear fA_ fH_
 rename_i bm bt
 refine jrow (E := 137) (sz := 2) Ru.cells ?_
 refine J_loopV (X := Nat × Sl) (fun y => [(1, .val (.pointer (some ⟨bm, 0, none⟩))), (2, .val (.pointer (some ⟨bt, 0, none⟩))), (3, .val (.pointer (some ⟨v_, 0, none⟩))), (4, .int y.1)]) (fun y => [rowE y.2.v 137 2 Ru.cells (m.rules.take y.1), .cells v_ 25 [.d (varsD m.vars), .val y.2.v], .cells bm 25 [.d (varsD m.vars), .d (rulesD m.rules)], .cells bt 25 [.val (.slice none 0 0), .val (.slice none 0 0)]]) (fun y => y.1 ≤ m.rules.length) (fun y => m.rules.length - y.1) (0, Sl.nil) (Nat.zero_le _) (VS.take (by exact takedD) ?_) ?_
 · exact leD
 rintro ⟨i, q⟩ h1
 dsimp only at h1 ⊢
 have hlen : (m.rules.take i).length = i := by rw [List.length_take]; omega
 by_cases hi : i < m.rules.length
 · have hlsi := hls m.rules[i] (List.getElem_mem hi)
   all_goals haveI fA_ : FlagA := ⟨⟩
   all_goals haveI fH_ : FlagH := ⟨⟩
   repeat' (first
    | refine armXM4_1 ?_
    | exact True.intro
    | refine stp ?_
    | refine two ?_ ?_
    | refine allc fun c_ => ?_
    | (refine imp fun hc => ?_) <;> try exact cx1 hc
    | refine all fun v_ => ?_)
   all_goals clear fA_ fH_
   refine jrow (E := 139) (sz := 2) St.cells ?_
   rename_i bo
   refine J_loopV (X := Nat × Sl) (fun y => [(1, .val (.pointer (some ⟨bm, 0, none⟩))), (2, .val (.pointer (some ⟨bt, 0, none⟩))), (3, .val (.pointer (some ⟨bo, 0, none⟩))), (4, .int i), (5, .val (.pointer (some ⟨v_, 0, none⟩))), (6, .int y.1)]) (fun y => [rowE y.2.v 139 2 St.cells (m.rules[i].sets.take y.1), .cells v_ 137 [.d (opsD m.rules[i].guard), .val y.2.v], rowE q.v 137 2 Ru.cells (m.rules.take i), .cells bo 25 [.d (varsD m.vars), .val q.v], .cells bm 25 [.d (varsD m.vars), .d (rulesD m.rules)], .cells bt 25 [.val (.slice none 0 0), .val (.slice none 0 0)]]) (fun y => y.1 ≤ m.rules[i].sets.length) (fun y => m.rules[i].sets.length - y.1) (0, Sl.nil) (Nat.zero_le _) (VS.take (by exact takedD) ?_) ?_
   · exact leD
   rintro ⟨k, p⟩ k1
   dsimp only at k1 ⊢
   have hlen2 : (m.rules[i].sets.take k).length = k := by rw [List.length_take]; omega
   by_cases hk : k < m.rules[i].sets.length
   · have et : m.rules[i].sets.take k ++ [m.rules[i].sets[k]] = m.rules[i].sets.take (k + 1) := (List.take_succ_eq_append_getElem hk).symm
     all_goals haveI fA_ : FlagA := ⟨⟩
     all_goals haveI fH_ : FlagH := ⟨⟩
     all_goals haveI fS_ : StopAt 2 := ⟨⟩
     repeat' (first
      | refine armXM4_1 ?_
      | exact True.intro
      | refine stp ?_
      | refine two ?_ ?_
      | refine allc fun c_ => ?_
      | (refine imp fun hc => ?_) <;> try exact cx hc
      | refine all fun v_ => ?_)
     all_goals clear fA_ fH_ fS_
     refine ⟨?_⟩
     refine J_region_HB [rowE p.v 139 2 St.cells (m.rules[i].sets.take k)] mixed rfl (by (repeat ((with_reducible apply Hd.cons); (focus rfl))); exact Hd.nil) (by (repeat (with_reducible apply len_cons)); exact len_nil) (by decide +kernel) (by ((repeat (first | with_reducible exact Take.nil | ((with_reducible apply Take.cons); (focus ((repeat (first | with_reducible exact Sel.here | with_reducible apply Sel.there)); done))))); done)) ?_
     all_goals haveI fA_ : FlagA := ⟨⟩
     all_goals haveI fH_ : FlagH := ⟨⟩
     repeat' (first
      | refine armXM4_1 ?_
      | ((with_reducible apply (jbuild_agg (cs := St.cells (m.rules[i].sets[k])))); (focus rfl); (focus rfl); (focus (with_reducible exact ElC.h)); (focus rfl); (focus rfl); (focus rfl); (focus rfl); (focus rfl))
      | exact True.intro
      | refine stp ?_
      | refine two ?_ ?_
      | refine allc fun c_ => ?_
      | (refine imp fun hc => ?_) <;> try exact cx1 hc
      | refine all fun v_ => ?_)
     all_goals clear fA_ fH_
     refine ⟨(k + 1, v_), by dsimp only; omega, by dsimp only; omega, ?_⟩
     dsimp only
     rw [← et]
     refine VS.take (by exact takedD) ?_
     exact leD
   obtain rfl : k = m.rules[i].sets.length := by omega
   rw [List.take_length]
   have et : m.rules.take i ++ [m.rules[i]] = m.rules.take (i + 1) := (List.take_succ_eq_append_getElem hi).symm
   refine J_vs (vdat (h1 := []) (h' := [.cells v_ 137 [.d (opsD m.rules[i].guard), .d (setsD m.rules[i].sets)], rowE q.v 137 2 Ru.cells (m.rules.take i), .cells bo 25 [.d (varsD m.vars), .val q.v], .cells bm 25 [.d (varsD m.vars), .d (rulesD m.rules)], .cells bt 25 [.val (.slice none 0 0), .val (.slice none 0 0)]]) 32 rfl rfl (fun _ => rfl) hlsi (CvE.refl _ _ _) (CvH.cells (.cons (.same _) (.cons .here .nil)) (.refl _))) ?_
   all_goals haveI fA_ : FlagA := ⟨⟩
   all_goals haveI fH_ : FlagH := ⟨⟩
   repeat' (first
    | refine armXM4_1 ?_
    | ((with_reducible apply (jbuild_agg (cs := Ru.cells m.rules[i]))); (focus rfl); (focus rfl); (focus (with_reducible exact ElC.h)); (focus rfl); (focus rfl); (focus rfl); (focus rfl); (focus rfl))
    | ((with_reducible apply (japU1 (f := Ru.cells) (u := m.rules[i]))); (focus rfl); (focus rfl); (focus (with_reducible exact ElC.h)); (focus exact updqD); (focus rfl); (focus rfl); (focus rfl); (focus rfl); (focus exact bndD); (focus exact bndD))
    | exact True.intro
    | refine stp ?_
    | refine two ?_ ?_
    | refine allc fun c_ => ?_
    | (refine imp fun hc => ?_) <;> try exact cx1 hc
    | refine all fun v_ => ?_)
   all_goals clear fA_ fH_
   refine ⟨(i + 1, v_), by dsimp only; omega, by dsimp only; omega, ?_⟩
   dsimp only
   rw [← et]
   refine VS.take (by exact takedD) ?_
   exact leD
 obtain rfl : i = m.rules.length := by omega
 rw [List.take_length]
 refine J_vs (vdat (h1 := []) (h' := [.cells v_ 25 [.d (varsD m.vars), .d (rulesD m.rules)], .cells bm 25 [.d (varsD m.vars), .d (rulesD m.rules)], .cells bt 25 [.val (.slice none 0 0), .val (.slice none 0 0)]]) 48 rfl rfl (fun _ => rfl) hlr (CvE.refl _ _ _) (CvH.cells (.cons (.same _) (.cons .here .nil)) (.refl _))) ?_
 all_goals haveI fA_ : FlagA := ⟨⟩
 all_goals haveI fH_ : FlagH := ⟨⟩
 repeat' (first
  | exact True.intro
  | refine stp ?_
  | refine two ?_ ?_
  | refine allc fun c_ => ?_
  | (refine imp fun hc => ?_) <;> try exact cx1 hc
  | refine all fun v_ => ?_)
 all_goals clear fA_ fH_
 exact retr0 (xs := [mdA m]) ⟨rv_agg rfl (by (with_reducible exact ElC.h)) rfl (by exact memD) rfl, trivial⟩ rfl (h' := []) (List.nil_sublist _) (ret_eq rfl)
theorem armXM4_2 {p q : Prop} (hp : p) (h : p → q := by
 apply cmp; (focus (first
  | ((with_reducible apply call0); (focus rfl); (focus exact cal_sameOps); (focus exact e1); (focus rfl))
  | ((with_reducible apply je_call0); (focus rfl); (focus (decide +kernel)); (focus rfl); (focus exact cal_sameOps); (focus exact e1); (focus rfl))
  ))
 exact fun h => h) : q := h hp
theorem armXM4_3 {p q : Prop} (hp : p) (h : p → q := by
 apply cmp; (focus (first
  | ((with_reducible apply call0); (focus rfl); (focus exact cal_sameOps); (focus exact e2); (focus rfl))
  | ((with_reducible apply je_call0); (focus rfl); (focus (decide +kernel)); (focus rfl); (focus exact cal_sameOps); (focus exact e2); (focus rfl))
  | ((with_reducible apply qcall); (focus rfl); (focus exact cal_sameOps); (focus exact e2); (focus rfl))
  ))
 exact fun h => h) : q := h hp
theorem sameModel (G : List (Nat × List D)) (m : Md) : ACr Tryz.prog G 57 [mdA m, mdA m] (.bool true) := by
 refine AC.factI (f := Vr.cells) (xs := m.vars) (.agg .here) fun hlv => ?_
 refine AC.factI (f := Ru.cells) (xs := m.rules) (.agg (.there .here)) fun hlr => ?_
 refine AC.factU (f := Ru.cells) (e := St.cells) (g := Ru.sets) (xs := m.rules) 1 (fun _ => rfl) (.agg (.there .here)) fun hls => ?_
 refine AC_ofV (ts := [4]) Tryz.f57.ntmps Tryz.func57 rfl rfl rfl (by simp [Tryz.ntmps57]) fun W I => ?_
 all_goals haveI fA_ : FlagA := ⟨⟩
 all_goals haveI fH_ : FlagH := ⟨⟩
 repeat' (first
  | exact True.intro
  | refine stp ?_
  | refine two ?_ ?_
  | refine allc fun c_ => ?_
  | (refine imp fun hc => ?_) <;> try exact cx1 hc
  | refine all fun v_ => ?_)
 all_goals clear fA_ fH_
 rename_i ba _
 obtain ⟨bb, rfl⟩ : ∃ x, x = v_ := ⟨v_, rfl⟩
 refine J_loopV (X := Nat) (fun i => [(2, .val (.pointer (some ⟨ba, 0, none⟩))), (3, .val (.pointer (some ⟨bb, 0, none⟩))), (5, .int i)]) (fun _ => [.cells bb 25 [.d (varsD m.vars), .d (rulesD m.rules)], .cells ba 25 [.d (varsD m.vars), .d (rulesD m.rules)]]) (fun i => i ≤ m.vars.length) (fun i => m.vars.length - i) 0 (Nat.zero_le _) (VS.of_le ?_) ?_
 · exact leD
 rintro i h1
 by_cases hi : i < m.vars.length
 · 
   all_goals haveI fA_ : FlagA := ⟨⟩
   all_goals haveI fH_ : FlagH := ⟨⟩
   repeat' (first
    | ((with_reducible apply jp); (focus ((with_reducible apply (pu_neq4 eq4_Variable)); rfl; rfl)); (focus rfl))
    | exact True.intro
    | refine stp ?_
    | refine two ?_ ?_
    | refine allc fun c_ => ?_
    | (refine imp fun hc => ?_) <;> try exact cx1 hc
    | refine all fun v_ => ?_)
   all_goals clear fA_ fH_
   refine ⟨i + 1, by omega, by omega, VS.of_le ?_⟩
   exact leD
 obtain rfl : i = m.vars.length := by omega
 all_goals haveI fA_ : FlagA := ⟨⟩
 all_goals haveI fH_ : FlagH := ⟨⟩
 repeat' (first
  | exact True.intro
  | refine stp ?_
  | refine two ?_ ?_
  | refine allc fun c_ => ?_
  | (refine imp fun hc => ?_) <;> try exact cx1 hc
  | refine all fun v_ => ?_)
 all_goals clear fA_ fH_
 refine J_loopV (X := Nat) (fun i => [(2, .val (.pointer (some ⟨ba, 0, none⟩))), (3, .val (.pointer (some ⟨bb, 0, none⟩))), (6, .int i)]) (fun _ => [.cells bb 25 [.d (varsD m.vars), .d (rulesD m.rules)], .cells ba 25 [.d (varsD m.vars), .d (rulesD m.rules)]]) (fun i => i ≤ m.rules.length) (fun i => m.rules.length - i) 0 (Nat.zero_le _) (VS.of_le ?_) ?_
 · exact leD
 rintro i h1
 by_cases hi : i < m.rules.length
 · have hlsi := hls m.rules[i] (List.getElem_mem hi)
   have e1 := ACr_true (sameOps G m.rules[i].guard m.rules[i].guard) rfl
   all_goals haveI fA_ : FlagA := ⟨⟩
   all_goals haveI fH_ : FlagH := ⟨⟩
   repeat' (first
    | refine armXM4_2 ?_
    | exact True.intro
    | refine stp ?_
    | refine two ?_ ?_
    | refine allc fun c_ => ?_
    | (refine imp fun hc => ?_) <;> try exact cx1 hc
    | refine all fun v_ => ?_)
   all_goals clear fA_ fH_
   rename_i bx
   refine J_loopV (X := Nat) (fun k => [(2, .val (.pointer (some ⟨ba, 0, none⟩))), (3, .val (.pointer (some ⟨bb, 0, none⟩))), (6, .int i), (7, .val (.pointer (some ⟨bx, 0, none⟩))), (8, .val (.pointer (some ⟨v_, 0, none⟩))), (9, .int k)]) (fun _ => [.cells v_ 137 [.d (opsD m.rules[i].guard), .d (setsD m.rules[i].sets)], .cells bx 137 [.d (opsD m.rules[i].guard), .d (setsD m.rules[i].sets)], .cells bb 25 [.d (varsD m.vars), .d (rulesD m.rules)], .cells ba 25 [.d (varsD m.vars), .d (rulesD m.rules)]]) (fun k => k ≤ m.rules[i].sets.length) (fun k => m.rules[i].sets.length - k) 0 (Nat.zero_le _) (VS.of_le ?_) ?_
   · exact leD
   rintro k k1
   by_cases hk : k < m.rules[i].sets.length
   · have e2 := ACr_true (sameOps G m.rules[i].sets[k].val m.rules[i].sets[k].val) rfl
     all_goals haveI fA_ : FlagA := ⟨⟩
     repeat' (first
      | refine armXM4_3 ?_
      | exact True.intro
      | refine stp ?_
      | refine two ?_ ?_
      | (refine imp fun hc => ?_) <;> try exact cx hc
      | refine all fun v_ => ?_)
     all_goals clear fA_
     refine ⟨k + 1, by omega, by omega, VS.of_le ?_⟩
     exact leD
   all_goals haveI fA_ : FlagA := ⟨⟩
   all_goals haveI fH_ : FlagH := ⟨⟩
   repeat' (first
    | refine armXM4_3 ?_
    | exact True.intro
    | refine stp ?_
    | refine two ?_ ?_
    | refine allc fun c_ => ?_
    | (refine imp fun hc => ?_) <;> try exact cx1 hc
    | refine all fun v_ => ?_)
   all_goals clear fA_ fH_
   refine ⟨i + 1, by omega, by omega, VS.take (by exact takedD) ?_⟩
   exact leD
 all_goals haveI fA_ : FlagA := ⟨⟩
 all_goals haveI fH_ : FlagH := ⟨⟩
 repeat' (first
  | refine armXM4_3 ?_
  | exact True.intro
  | refine stp ?_
  | refine two ?_ ?_
  | refine allc fun c_ => ?_
  | (refine imp fun hc => ?_) <;> try exact cx1 hc
  | refine all fun v_ => ?_)
 all_goals clear fA_ fH_
 refine retv (VS.drop (List.nil_sublist _)) ?_
 ((with_reducible apply rq1); rfl; rfl)
 exact ret_eq rfl
end Go.Proofs.YtniklgkoiaeipaaGreatDoor
namespace Go.Sp
open Go Go.Av
set_option linter.unusedVariables false
set_option linter.unusedSimpArgs false
structure Tk where
 model : Md
 props : List (List Fo)
 formula : List Fo
def Tk.cells (t : Tk) : List D := [varsD t.model.vars, rulesD t.model.rules, termsD t.props, opsD t.formula]
abbrev tkA (t : Tk) : AV := .agg [.d (varsD t.model.vars), .d (rulesD t.model.rules), .d (termsD t.props), .d (opsD t.formula)]
noncomputable def taskF (t : Tk) : Int := if propsF t.model t.props ≠ 0 then propsF t.model t.props else formF t.formula t.props.length
end Go.Sp
namespace Go.Proofs.YtniklgkoiaeipaaGreatDoor
open Go Go.Av Go.Sp
set_option linter.unusedVariables false
set_option linter.unusedSimpArgs false
set_option maxRecDepth 100000
set_option maxHeartbeats 4000000
theorem cal_terms : Cal Tryz.prog 40 := Cal.of Tryz.func40 (by kernel_rfl) (by kernel_rfl)
theorem cal_tasks : Cal Tryz.prog 14 := Cal.of Tryz.func14 (by kernel_rfl) (by kernel_rfl)
theorem cal_sameTask : Cal Tryz.prog 18 := Cal.of Tryz.func18 (by kernel_rfl) (by kernel_rfl)
theorem conf_Task {g : Nat} {xs : List D} (h : Conf Tryz.prog (g + 9) 29 xs) : ∃ t : Tk, xs = t.cells := by
  obtain ⟨p0, p1, p2, rfl, h0, h1, h2⟩ := conf_struct3_of Tryz.underlying29 h
  obtain ⟨m, rfl⟩ := conf_Model h0
  obtain ⟨ps, rfl, _⟩ := conf_terms h1
  obtain ⟨f, rfl, _⟩ := conf_ops h2
  exact ⟨⟨m, ps, f⟩, rfl⟩
theorem armXN2_1 {p q : Prop} (hp : p) (h : p → q := by
 apply cmp; (focus (first
  | ((with_reducible apply call0); (focus rfl); (focus exact cal_ops); (focus exact opsU _ _); (focus rfl))
  | ((with_reducible apply je_call0); (focus rfl); (focus (decide +kernel)); (focus rfl); (focus exact cal_ops); (focus exact opsU _ _); (focus rfl))
  ))
 exact fun h => h) : q := h hp
theorem terms (G : List (Nat × List D)) (a : List (List Fo)) : ACr Tryz.prog G 40 [.d (termsD a)] (.d (termsD a)) := by
 refine AC_ofV (ts := [2]) Tryz.f40.ntmps Tryz.func40 rfl rfl rfl (by simp [Tryz.ntmps40]) fun W I => ?_
 refine jfact (t := 0) rfl fun hl => ?_
 all_goals haveI fA_ : FlagA := ⟨⟩
 repeat' (first
  | refine armXN2_1 ?_
  | exact True.intro
  | refine stp ?_
  | refine two ?_ ?_
  | (refine imp fun hc => ?_) <;> try exact cx hc
  | refine all fun v_ => ?_)
 all_goals clear fA_
 refine jrow (E := 27) (sz := 1) termC ?_
 refine J_loop (X := Nat × Sl) (fun y => [(0, .d (termsD a)), (3, .val y.2.v), (4, .int y.1)]) (fun y => [rowE y.2.v 27 1 termC (a.take y.1)]) (fun y => y.1 ≤ a.length) (fun y => a.length - y.1) (0, Sl.nil) (Nat.zero_le _) ?_ rfl ?_
 · exact leD
 rintro ⟨i, v⟩ h1
 dsimp only at h1 ⊢
 have hlen : (a.take i).length = i := by rw [List.length_take]; omega
 all_goals haveI fA_ : FlagA := ⟨⟩
 repeat' (first
  | refine armXN2_1 ?_
  | exact True.intro
  | refine stp ?_
  | refine two ?_ ?_
  | (refine imp fun hc => ?_) <;> try exact cx hc
  | refine all fun v_ => ?_)
 all_goals clear fA_
 · refine ⟨(i + 1, v_), by dsimp only; omega, by dsimp only; omega, ?_, ?_⟩
   · exact leD
   · dsimp only
     rw [List.take_succ_eq_append_getElem (by omega)]
 · refine retv (vfreeze (t := 2) (eb := 24) rfl rfl (fun x => rfl) (by rw [hlen]; omega)) ?_
   ((with_reducible apply rq1); rfl; rfl)
   refine ret_eq ?_
   rw [List.take_of_length_le (by omega)]
theorem armXN2_2 {p q : Prop} (hp : p) (h : p → q := by
 apply cmp; (focus (first
  | ((with_reducible apply call0); (focus rfl); (focus exact cal_models); (focus exact models _ _); (focus rfl))
  | ((with_reducible apply je_call0); (focus rfl); (focus (decide +kernel)); (focus rfl); (focus exact cal_models); (focus exact models _ _); (focus rfl))
  | ((with_reducible apply call0); (focus rfl); (focus exact cal_terms); (focus exact terms _ _); (focus rfl))
  | ((with_reducible apply je_call0); (focus rfl); (focus (decide +kernel)); (focus rfl); (focus exact cal_terms); (focus exact terms _ _); (focus rfl))
  | ((with_reducible apply call0); (focus rfl); (focus exact cal_ops); (focus exact opsU _ _); (focus rfl))
  | ((with_reducible apply je_call0); (focus rfl); (focus (decide +kernel)); (focus rfl); (focus exact cal_ops); (focus exact opsU _ _); (focus rfl))
  ))
 exact fun h => h) : q := h hp
theorem tasks (G : List (Nat × List D)) (t : Tk) : ACr Tryz.prog G 14 [tkA t] (tkA t) := by
 refine AC_ofR (rs := [.cell 2 29]) Tryz.f14.ntmps Tryz.func14 rfl rfl rfl (by simp [Tryz.ntmps14]) fun W I => ?_
 all_goals haveI fA_ : FlagA := ⟨⟩
 all_goals haveI fH_ : FlagH := ⟨⟩
 repeat' (first
  | refine armXN2_2 ?_
  | exact True.intro
  | refine stp ?_
  | refine two ?_ ?_
  | refine allc fun c_ => ?_
  | (refine imp fun hc => ?_) <;> try exact cx1 hc
  | refine all fun v_ => ?_)
 all_goals clear fA_ fH_
 exact retr0 (xs := [tkA t]) ⟨rv_agg rfl (by (with_reducible exact ElC.h)) rfl (by exact memD) rfl, trivial⟩ rfl (h' := []) (List.nil_sublist _) (ret_eq rfl)
theorem armXN2_3 {p q : Prop} (hp : p) (h : p → q := by
 apply cmp; (focus (first
  | ((with_reducible apply call0); (focus rfl); (focus exact cal_sameModel); (focus exact sameModel _ _); (focus rfl))
  | ((with_reducible apply je_call0); (focus rfl); (focus (decide +kernel)); (focus rfl); (focus exact cal_sameModel); (focus exact sameModel _ _); (focus rfl))
  | ((with_reducible apply call0); (focus rfl); (focus exact cal_sameTerms); (focus exact e2); (focus rfl))
  | ((with_reducible apply je_call0); (focus rfl); (focus (decide +kernel)); (focus rfl); (focus exact cal_sameTerms); (focus exact e2); (focus rfl))
  | ((with_reducible apply call0); (focus rfl); (focus exact cal_sameOps); (focus exact e3); (focus rfl))
  | ((with_reducible apply je_call0); (focus rfl); (focus (decide +kernel)); (focus rfl); (focus exact cal_sameOps); (focus exact e3); (focus rfl))
  ))
 exact fun h => h) : q := h hp
theorem sameTask (G : List (Nat × List D)) (t : Tk) : ACr Tryz.prog G 18 [tkA t, tkA t] (.bool true) := by
 have e2 := ACr_true (sameTerms G t.props t.props) rfl
 have e3 := ACr_true (sameOps G t.formula t.formula) rfl
 refine AC_ofV (ts := [4]) Tryz.f18.ntmps Tryz.func18 rfl rfl rfl (by simp [Tryz.ntmps18]) fun W I => ?_
 all_goals haveI fA_ : FlagA := ⟨⟩
 all_goals haveI fH_ : FlagH := ⟨⟩
 repeat' (first
  | refine armXN2_3 ?_
  | exact True.intro
  | refine stp ?_
  | refine two ?_ ?_
  | refine allc fun c_ => ?_
  | (refine imp fun hc => ?_) <;> try exact cx1 hc
  | refine all fun v_ => ?_)
 all_goals clear fA_ fH_
 all_goals
  refine retv (VS.drop (List.nil_sublist _)) ?_
  ((with_reducible apply rq1); rfl; rfl)
  exact ret_eq rfl
theorem armXN2_4 {p q : Prop} (hp : p) (h : p → q := by
 apply cmp; (focus (first
  | ((with_reducible apply call0); (focus rfl); (focus exact cal_Props); (focus exact hP); (focus rfl))
  | ((with_reducible apply je_call0); (focus rfl); (focus (decide +kernel)); (focus rfl); (focus exact cal_Props); (focus exact hP); (focus rfl))
  | ((with_reducible apply call0); (focus rfl); (focus exact cal_Check); (focus exact hC); (focus rfl))
  | ((with_reducible apply je_call0); (focus rfl); (focus (decide +kernel)); (focus rfl); (focus exact cal_Check); (focus exact hC); (focus rfl))
  ))
 exact fun h => h) : q := h hp
theorem PCheck  (t : Tk) : ACr Tryz.prog GP 80 [tkA t] (.int (taskF t)) := by
 have hP := Props t.model t.props
 have hC := Check t.formula t.props.length
 unfold taskF
 generalize propsF t.model t.props = e1 at hP ⊢
 generalize formF t.formula t.props.length = e2 at hC ⊢
 refine AC_ofV (ts := [2]) Tryz.f80.ntmps Tryz.func80 rfl rfl rfl (by simp [Tryz.ntmps80]) fun W I => ?_
 by_cases h1 : e1 ≠ 0
 · all_goals haveI fA_ : FlagA := ⟨⟩
   all_goals haveI fH_ : FlagH := ⟨⟩
   repeat' (first
    | refine armXN2_4 ?_
    | exact True.intro
    | refine stp ?_
    | refine two ?_ ?_
    | refine allc fun c_ => ?_
    | (refine imp fun hc => ?_) <;> try exact cx1 hc
    | refine all fun v_ => ?_)
   all_goals clear fA_ fH_
   refine retv (VS.drop (List.nil_sublist _)) ?_
   ((with_reducible apply rq1); rfl; rfl)
   exact ret_eq (by rw [if_pos h1])
 · all_goals haveI fA_ : FlagA := ⟨⟩
   all_goals haveI fH_ : FlagH := ⟨⟩
   repeat' (first
    | refine armXN2_4 ?_
    | exact True.intro
    | refine stp ?_
    | refine two ?_ ?_
    | refine allc fun c_ => ?_
    | (refine imp fun hc => ?_) <;> try exact cx1 hc
    | refine all fun v_ => ?_)
   all_goals clear fA_ fH_
   refine retv (VS.drop (List.nil_sublist _)) ?_
   ((with_reducible apply rq1); rfl; rfl)
   exact ret_eq (by rw [if_neg h1])
theorem armXN2_5 {p q : Prop} (hp : p) (h : p → q := by
 apply cmp; (focus (first
  | ((with_reducible apply call0); (focus rfl); (focus exact cal_PropsFault); (focus exact hP); (focus rfl))
  | ((with_reducible apply je_call0); (focus rfl); (focus (decide +kernel)); (focus rfl); (focus exact cal_PropsFault); (focus exact hP); (focus rfl))
  | ((with_reducible apply call0); (focus rfl); (focus exact cal_FormulaFault); (focus exact hC); (focus rfl))
  | ((with_reducible apply je_call0); (focus rfl); (focus (decide +kernel)); (focus rfl); (focus exact cal_FormulaFault); (focus exact hC); (focus rfl))
  ))
 exact fun h => h) : q := h hp
theorem TaskFault (G : List (Nat × List D)) (t : Tk) : ACr Tryz.prog G 95 [tkA t] (.int (taskF t)) := by
 have hP := PropsFault G t.model t.props
 have hC := FormulaFault G t.formula t.props.length
 unfold taskF
 generalize propsF t.model t.props = e1 at hP ⊢
 generalize formF t.formula t.props.length = e2 at hC ⊢
 refine AC_ofV (ts := [2]) Tryz.f95.ntmps Tryz.func95 rfl rfl rfl (by simp [Tryz.ntmps95]) fun W I => ?_
 by_cases h1 : e1 ≠ 0
 · all_goals haveI fA_ : FlagA := ⟨⟩
   all_goals haveI fH_ : FlagH := ⟨⟩
   repeat' (first
    | refine armXN2_5 ?_
    | exact True.intro
    | refine stp ?_
    | refine two ?_ ?_
    | refine allc fun c_ => ?_
    | (refine imp fun hc => ?_) <;> try exact cx1 hc
    | refine all fun v_ => ?_)
   all_goals clear fA_ fH_
   refine retv (VS.drop (List.nil_sublist _)) ?_
   ((with_reducible apply rq1); rfl; rfl)
   exact ret_eq (by rw [if_pos h1])
 · all_goals haveI fA_ : FlagA := ⟨⟩
   all_goals haveI fH_ : FlagH := ⟨⟩
   repeat' (first
    | refine armXN2_5 ?_
    | exact True.intro
    | refine stp ?_
    | refine two ?_ ?_
    | refine allc fun c_ => ?_
    | (refine imp fun hc => ?_) <;> try exact cx1 hc
    | refine all fun v_ => ?_)
   all_goals clear fA_ fH_
   refine retv (VS.drop (List.nil_sublist _)) ?_
   ((with_reducible apply rq1); rfl; rfl)
   exact ret_eq (by rw [if_neg h1])
end Go.Proofs.YtniklgkoiaeipaaGreatDoor
namespace Go.Sp
open Go Go.Av
set_option linter.unusedVariables false
set_option linter.unusedSimpArgs false
def inits (m : Md) : List Int := m.vars.map Vr.init
end Go.Sp
namespace Go.Proofs.YtniklgkoiaeipaaGreatDoor
open Go Go.Av Go.Sp
set_option linter.unusedVariables false
set_option linter.unusedSimpArgs false
set_option maxRecDepth 100000
set_option maxHeartbeats 4000000

theorem cal_First : Cal Tryz.prog 36 := Cal.of Tryz.func36 (by kernel_rfl) (by kernel_rfl)
theorem cal_FirstCode : Cal Tryz.prog 63 := Cal.of Tryz.func63 (by kernel_rfl) (by kernel_rfl)
theorem armXM7_1 {p q : Prop} (hp : p) (h : p → q := by
 apply cmp; (focus (first
  | ((with_reducible apply call0); (focus rfl); (focus exact cal_Code); (focus exact Code _ _); (focus rfl))
  | ((with_reducible apply je_call0); (focus rfl); (focus (decide +kernel)); (focus rfl); (focus exact cal_Code); (focus exact Code _ _); (focus rfl))
  ))
 exact fun h => h) : q := h hp
theorem First (m : Md) : ACr Tryz.prog GP 36 [mdA m] (.tup [.int (codeF m (inits m)).1, .int (codeF m (inits m)).2]) := by
 refine AC.factI (f := Vr.cells) (xs := m.vars) (.agg .here) fun hlv => ?_
 refine AC_ofV (ts := [2, 3]) Tryz.f36.ntmps Tryz.func36 rfl rfl rfl (by simp [Tryz.ntmps36]) fun W I => ?_
 have hin : (inits m).length = m.vars.length := by simp [inits]
 all_goals haveI fA_ : FlagA := ⟨⟩
 all_goals haveI fH_ : FlagH := ⟨⟩
 repeat' (first
  | exact True.intro
  | refine stp ?_
  | refine two ?_ ?_
  | refine allc fun c_ => ?_
  | (refine imp fun hc => ?_) <;> try exact cx1 hc
  | refine all fun v_ => ?_)
 all_goals clear fA_ fH_
 obtain ⟨bm, rfl⟩ : ∃ x, x = v_ := ⟨v_, rfl⟩
 refine jrow (E := 3) (sz := 1) intC ?_
 refine J_loopV (X := Nat × Sl) (fun y => [(1, .val (.pointer (some ⟨bm, 0, none⟩))), (4, .val y.2.v), (8, .d (varsD m.vars)), (9, .int m.vars.length), (10, .int y.1)]) (fun y => [rowE y.2.v 3 1 intC ((inits m).take y.1), .cells bm 25 [.d (varsD m.vars), .d (rulesD m.rules)]]) (fun y => y.1 ≤ m.vars.length) (fun y => m.vars.length - y.1) (0, Sl.nil) (Nat.zero_le _) (VS.of_le ?_) ?_
 · exact leD
 rintro ⟨i, q⟩ h1
 dsimp only at h1 ⊢
 have hlen : ((inits m).take i).length = i := by rw [List.length_take]; omega
 by_cases hi : i < m.vars.length
 · have et : (inits m).take i ++ [m.vars[i].init] = (inits m).take (i + 1) := by rw [List.take_succ_eq_append_getElem (by omega)]; simp [inits]
   all_goals haveI fA_ : FlagA := ⟨⟩
   all_goals haveI fH_ : FlagH := ⟨⟩
   repeat' (first
    | exact True.intro
    | refine stp ?_
    | refine two ?_ ?_
    | refine allc fun c_ => ?_
    | (refine imp fun hc => ?_) <;> try exact cx1 hc
    | refine all fun v_ => ?_)
   all_goals clear fA_ fH_
   refine ⟨(i + 1, v_), by dsimp only; omega, by dsimp only; omega, ?_⟩
   dsimp only
   rw [← et]
   refine VS.take (by exact takedD) ?_
   exact leD
 obtain rfl : i = m.vars.length := by omega
 rw [List.take_of_length_le (by omega)]
 refine J_vs (vdat (h1 := []) (h' := [.cells bm 25 [.d (varsD m.vars), .d (rulesD m.rules)]]) 8 rfl rfl (fun _ => rfl) (by omega) (CvE.cons (t := 4) rfl .here (CvE.refl _ _ _)) (CvH.refl _)) ?_
 all_goals haveI fA_ : FlagA := ⟨⟩
 all_goals haveI fH_ : FlagH := ⟨⟩
 repeat' (first
  | refine armXM7_1 ?_
  | exact True.intro
  | refine stp ?_
  | refine two ?_ ?_
  | refine allc fun c_ => ?_
  | (refine imp fun hc => ?_) <;> try exact cx1 hc
  | refine all fun v_ => ?_)
 all_goals clear fA_ fH_
 refine retv (VS.drop (List.nil_sublist _)) ?_
 ((with_reducible apply rq2); rfl; rfl; rfl)
 exact ret_eq rfl
theorem armXM7_2 {p q : Prop} (hp : p) (h : p → q := by
 apply cmp; (focus (first
  | ((with_reducible apply call0); (focus rfl); (focus exact cal_CodeOf); (focus exact CodeOf _ _ _); (focus rfl))
  | ((with_reducible apply je_call0); (focus rfl); (focus (decide +kernel)); (focus rfl); (focus exact cal_CodeOf); (focus exact CodeOf _ _ _); (focus rfl))
  ))
 exact fun h => h) : q := h hp
theorem FirstCode (G : List (Nat × List D)) (m : Md) : ACr Tryz.prog G 63 [mdA m] (.tup [.int (codeF m (inits m)).1, .int (codeF m (inits m)).2]) := by
 refine AC.factI (f := Vr.cells) (xs := m.vars) (.agg .here) fun hlv => ?_
 refine AC_ofV (ts := [2, 3]) Tryz.f63.ntmps Tryz.func63 rfl rfl rfl (by simp [Tryz.ntmps63]) fun W I => ?_
 have hin : (inits m).length = m.vars.length := by simp [inits]
 all_goals haveI fA_ : FlagA := ⟨⟩
 all_goals haveI fH_ : FlagH := ⟨⟩
 repeat' (first
  | exact True.intro
  | refine stp ?_
  | refine two ?_ ?_
  | refine allc fun c_ => ?_
  | (refine imp fun hc => ?_) <;> try exact cx1 hc
  | refine all fun v_ => ?_)
 all_goals clear fA_ fH_
 obtain ⟨bm, rfl⟩ : ∃ x, x = v_ := ⟨v_, rfl⟩
 refine jrow (E := 3) (sz := 1) intC ?_
 refine J_loopV (X := Nat × Sl) (fun y => [(1, .val (.pointer (some ⟨bm, 0, none⟩))), (4, .val y.2.v), (5, .int y.1)]) (fun y => [rowE y.2.v 3 1 intC ((inits m).take y.1), .cells bm 25 [.d (varsD m.vars), .d (rulesD m.rules)]]) (fun y => y.1 ≤ m.vars.length) (fun y => m.vars.length - y.1) (0, Sl.nil) (Nat.zero_le _) (VS.of_le ?_) ?_
 · exact leD
 rintro ⟨i, q⟩ h1
 dsimp only at h1 ⊢
 have hlen : ((inits m).take i).length = i := by rw [List.length_take]; omega
 by_cases hi : i < m.vars.length
 · have et : (inits m).take i ++ [m.vars[i].init] = (inits m).take (i + 1) := by rw [List.take_succ_eq_append_getElem (by omega)]; simp [inits]
   all_goals haveI fA_ : FlagA := ⟨⟩
   all_goals haveI fH_ : FlagH := ⟨⟩
   repeat' (first
    | exact True.intro
    | refine stp ?_
    | refine two ?_ ?_
    | refine allc fun c_ => ?_
    | (refine imp fun hc => ?_) <;> try exact cx1 hc
    | refine all fun v_ => ?_)
   all_goals clear fA_ fH_
   refine ⟨(i + 1, v_), by dsimp only; omega, by dsimp only; omega, ?_⟩
   dsimp only
   rw [← et]
   refine VS.take (by exact takedD) ?_
   exact leD
 obtain rfl : i = m.vars.length := by omega
 rw [List.take_of_length_le (by omega)]
 refine J_vs (vdat (h1 := []) (h' := [.cells bm 25 [.d (varsD m.vars), .d (rulesD m.rules)]]) 8 rfl rfl (fun _ => rfl) (by omega) (CvE.cons (t := 4) rfl .here (CvE.refl _ _ _)) (CvH.refl _)) ?_
 all_goals haveI fA_ : FlagA := ⟨⟩
 all_goals haveI fH_ : FlagH := ⟨⟩
 repeat' (first
  | refine armXM7_2 ?_
  | exact True.intro
  | refine stp ?_
  | refine two ?_ ?_
  | refine allc fun c_ => ?_
  | (refine imp fun hc => ?_) <;> try exact cx1 hc
  | refine all fun v_ => ?_)
 all_goals clear fA_ fH_
 refine retv (VS.drop (List.nil_sublist _)) ?_
 ((with_reducible apply rq2); rfl; rfl; rfl)
 exact ret_eq rfl
end Go.Proofs.YtniklgkoiaeipaaGreatDoor
