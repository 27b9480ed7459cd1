/- A bundle of this claim's own texts: M4. -/
import Derived.Test.YtajnpfgelpkijaaDoorZ2
import Derived.Test.YtajnpfgelpkijaaDoorZ6
set_option linter.unusedVariables false
set_option linter.unusedSimpArgs false
set_option maxRecDepth 100000
set_option maxHeartbeats 4000000
namespace Go.Proofs.YtajnpfgelpkijaaDoor
open Go Go.Av Go.Sp

theorem cal_models : Cal Tryd.prog 8 := Cal.of Tryd.func8 (by kernel_rfl) (by kernel_rfl)
theorem cal_sameModel : Cal Tryd.prog 20 := Cal.of Tryd.func20 (by kernel_rfl) (by kernel_rfl)
theorem conf_Variable {g : Nat} {xs : List D} (h : Conf Tryd.prog (g + 2) 45 xs) : ∃ v : Vr, xs = v.cells := by
 obtain ⟨p0, p1, p2, p3, rfl, h0, h1, h2, h3⟩ := conf_struct4_of Tryd.underlying45 h
 obtain ⟨s, rfl, _⟩ := conf_string_of Tryd.underlying9 h0
 obtain ⟨a, rfl⟩ := conf_int h1
 obtain ⟨b, rfl⟩ := conf_int h2
 obtain ⟨c, rfl⟩ := conf_int h3
 exact ⟨⟨s, a, b, c⟩, rfl⟩
theorem conf_vars {g : Nat} {xs : List D} (h : Conf Tryd.prog (g + 3) 22 xs) : ∃ l : List Vr, xs = [varsD l] ∧ l.length * 40 ≤ 140737488351232 := conf_slice_of Tryd.underlying22 (by kernel_rfl) (by kernel_rfl) (fun _ h => conf_Variable h) h
theorem conf_Set {g : Nat} {xs : List D} (h : Conf Tryd.prog (g + 4) 58 xs) : ∃ s : St, xs = s.cells := by
 obtain ⟨p0, p1, rfl, h0, h1⟩ := conf_struct2_of Tryd.underlying58 h
 obtain ⟨a, rfl⟩ := conf_int h0
 obtain ⟨l, rfl, _⟩ := conf_ops h1
 exact ⟨⟨a, l⟩, rfl⟩
theorem conf_sets {g : Nat} {xs : List D} (h : Conf Tryd.prog (g + 5) 53 xs) : ∃ l : List St, xs = [setsD l] ∧ l.length * 32 ≤ 140737488351232 := conf_slice_of Tryd.underlying53 (by kernel_rfl) (by kernel_rfl) (fun _ h => conf_Set h) h
theorem conf_Rule {g : Nat} {xs : List D} (h : Conf Tryd.prog (g + 6) 55 xs) : ∃ r : Ru, xs = r.cells := by
 obtain ⟨p0, p1, rfl, h0, h1⟩ := conf_struct2_of Tryd.underlying55 h
 obtain ⟨a, rfl, _⟩ := conf_ops h0
 obtain ⟨l, rfl, _⟩ := conf_sets h1
 exact ⟨⟨a, l⟩, rfl⟩
theorem conf_rules {g : Nat} {xs : List D} (h : Conf Tryd.prog (g + 7) 23 xs) : ∃ l : List Ru, xs = [rulesD l] ∧ l.length * 48 ≤ 140737488351232 := conf_slice_of Tryd.underlying23 (by kernel_rfl) (by kernel_rfl) (fun _ h => conf_Rule h) h
theorem conf_Model {g : Nat} {xs : List D} (h : Conf Tryd.prog (g + 8) 25 xs) : ∃ m : Md, xs = m.cells := by
 obtain ⟨p0, p1, rfl, h0, h1⟩ := conf_struct2_of Tryd.underlying25 h
 obtain ⟨a, rfl, _⟩ := conf_vars h0
 obtain ⟨l, rfl, _⟩ := conf_rules h1
 exact ⟨⟨a, l⟩, rfl⟩
theorem eq4_Variable : Eq4 Tryd.prog 45 := ⟨by kernel_rfl, fun s a b c w => by
 have u3 := Tryd.underlying3
 have u9 := Tryd.underlying9
 rw [show (10000 : Nat) = 9999 + 1 from rfl, run_equalIn_agg w 9999 45 _ _ (by kernel_rfl) (by kernel_rfl)]
 simp only [Program.fieldsOf, Tryd.underlying45]
 go_simp
 try simp⟩
theorem models (G : List (Nat × List D)) (m : Md) : ACr Tryd.prog G 8 [mdA m] (mdA m) := by
 refine AC.factI (f := Vr.cells) (xs := m.vars) (.agg .here) fun hlv => ?_
 refine AC.factI (f := Ru.cells) (xs := m.rules) (.agg (.there .here)) fun hlr => ?_
 refine AC.factU (f := Ru.cells) (e := St.cells) (g := Ru.sets) (xs := m.rules) 1 (fun _ => rfl) (.agg (.there .here)) fun hls => ?_
 refine AC_ofR (rs := [.cell 2 25]) Tryd.f8.ntmps Tryd.func8 rfl rfl rfl (by simp [Tryd.ntmps8]) fun W I => ?_
 repeat' (first
  | refine ca cal_ops (opsU _ _) ?_
  | exact True.intro | refine stpH ?_ | refine two ?_ ?_ | refine allc fun c_ => ?_
  | (refine imp fun hc => ?_) <;> try exact cx1 hc
  | refine all fun v_ => ?_)
 rename_i bm bt
 refine jrow (E := 55) (sz := 2) Ru.cells ?_
 refine J_loopV (X := Nat × Sl) (fun y => [(1, .val (.pointer (some ⟨bm, 0, none⟩))), (2, .val (.pointer (some ⟨bt, 0, none⟩))), (3, .val (.pointer (some ⟨v_, 0, none⟩))), (4, .int y.1)]) (fun y => [rowE y.2.v 55 2 Ru.cells (m.rules.take y.1), .cells v_ 25 [.d (varsD m.vars), .val y.2.v], .cells bm 25 [.d (varsD m.vars), .d (rulesD m.rules)], .cells bt 25 [.val (.slice none 0 0), .val (.slice none 0 0)]]) (fun y => y.1 ≤ m.rules.length) (fun y => m.rules.length - y.1) (0, Sl.nil) (Nat.zero_le _) (VS.take (by exact takedD) ?_) ?_
 · exact leD
 rintro ⟨i, q⟩ h1
 dsimp only at h1 ⊢
 have hlen : (m.rules.take i).length = i := by rw [List.length_take]; omega
 by_cases hi : i < m.rules.length
 · have hlsi := hls m.rules[i] (List.getElem_mem hi)
   repeat' (first
    | refine ca cal_ops (opsU _ _) ?_
    | exact True.intro | refine stpH ?_ | refine two ?_ ?_ | refine allc fun c_ => ?_
    | (refine imp fun hc => ?_) <;> try exact cx1 hc
    | refine all fun v_ => ?_)
   refine jrow (E := 58) (sz := 2) St.cells ?_
   rename_i bo
   refine J_loopV (X := Nat × Sl) (fun y => [(1, .val (.pointer (some ⟨bm, 0, none⟩))), (2, .val (.pointer (some ⟨bt, 0, none⟩))), (3, .val (.pointer (some ⟨bo, 0, none⟩))), (4, .int i), (5, .val (.pointer (some ⟨v_, 0, none⟩))), (6, .int y.1)]) (fun y => [rowE y.2.v 58 2 St.cells (m.rules[i].sets.take y.1), .cells v_ 55 [.d (opsD m.rules[i].guard), .val y.2.v], rowE q.v 55 2 Ru.cells (m.rules.take i), .cells bo 25 [.d (varsD m.vars), .val q.v], .cells bm 25 [.d (varsD m.vars), .d (rulesD m.rules)], .cells bt 25 [.val (.slice none 0 0), .val (.slice none 0 0)]]) (fun y => y.1 ≤ m.rules[i].sets.length) (fun y => m.rules[i].sets.length - y.1) (0, Sl.nil) (Nat.zero_le _) (VS.take (by exact takedD) ?_) ?_
   · exact leD
   rintro ⟨k, p⟩ k1
   dsimp only at k1 ⊢
   have hlen2 : (m.rules[i].sets.take k).length = k := by rw [List.length_take]; omega
   by_cases hk : k < m.rules[i].sets.length
   · have et : m.rules[i].sets.take k ++ [m.rules[i].sets[k]] = m.rules[i].sets.take (k + 1) := (List.take_succ_eq_append_getElem hk).symm
     repeat' (first
      | refine ca cal_ops (opsU _ _) ?_
      | exact True.intro | refine stp2 ?_ | refine two ?_ ?_ | refine allc fun c_ => ?_
      | (refine imp fun hc => ?_) <;> try exact cx hc
      | refine all fun v_ => ?_)
     refine ⟨?_⟩
     refine J_region_HB [rowE p.v 58 2 St.cells (m.rules[i].sets.take k)] mixed rfl (by (repeat ((with_reducible apply Hd.cons); (focus rfl))); exact Hd.nil) (by (repeat (with_reducible apply len_cons)); exact len_nil) (by decide +kernel) (by exact takeD) ?_
     repeat' (first
      | refine ca cal_ops (opsU _ _) ?_
      | ((with_reducible apply (jbuild_agg (cs := St.cells (m.rules[i].sets[k])))); (focus rfl); (focus rfl); (focus (with_reducible exact ElC.h)); (focus rfl); (focus rfl); (focus rfl); (focus rfl); (focus rfl))
      | exact True.intro | refine stpH ?_ | refine two ?_ ?_ | refine allc fun c_ => ?_
      | (refine imp fun hc => ?_) <;> try exact cx1 hc
      | refine all fun v_ => ?_)
     refine ⟨(k + 1, v_), by dsimp only; omega, by dsimp only; omega, ?_⟩
     dsimp only
     rw [← et]
     refine VS.take (by exact takedD) ?_
     exact leD
   obtain rfl : k = m.rules[i].sets.length := by omega
   rw [List.take_length]
   have et : m.rules.take i ++ [m.rules[i]] = m.rules.take (i + 1) := (List.take_succ_eq_append_getElem hi).symm
   refine J_vs (vdat (h1 := []) (h' := [.cells v_ 55 [.d (opsD m.rules[i].guard), .d (setsD m.rules[i].sets)], rowE q.v 55 2 Ru.cells (m.rules.take i), .cells bo 25 [.d (varsD m.vars), .val q.v], .cells bm 25 [.d (varsD m.vars), .d (rulesD m.rules)], .cells bt 25 [.val (.slice none 0 0), .val (.slice none 0 0)]]) 32 rfl rfl (fun _ => rfl) hlsi (CvE.refl _ _ _) (CvH.cells (.cons (.same _) (.cons .here .nil)) (.refl _))) ?_
   repeat' (first
    | refine ca cal_ops (opsU _ _) ?_
    | ((with_reducible apply (jbuild_agg (cs := Ru.cells m.rules[i]))); (focus rfl); (focus rfl); (focus (with_reducible exact ElC.h)); (focus rfl); (focus rfl); (focus rfl); (focus rfl); (focus rfl))
    | ((with_reducible apply (japU1 (f := Ru.cells) (u := m.rules[i]))); (focus rfl); (focus rfl); (focus (with_reducible exact ElC.h)); (focus exact updqD); (focus rfl); (focus rfl); (focus rfl); (focus rfl); (focus exact bndD); (focus exact bndD))
    | exact True.intro | refine stpH ?_ | refine two ?_ ?_ | refine allc fun c_ => ?_
    | (refine imp fun hc => ?_) <;> try exact cx1 hc
    | refine all fun v_ => ?_)
   refine ⟨(i + 1, v_), by dsimp only; omega, by dsimp only; omega, ?_⟩
   dsimp only
   rw [← et]
   refine VS.take (by exact takedD) ?_
   exact leD
 obtain rfl : i = m.rules.length := by omega
 rw [List.take_length]
 refine J_vs (vdat (h1 := []) (h' := [.cells v_ 25 [.d (varsD m.vars), .d (rulesD m.rules)], .cells bm 25 [.d (varsD m.vars), .d (rulesD m.rules)], .cells bt 25 [.val (.slice none 0 0), .val (.slice none 0 0)]]) 48 rfl rfl (fun _ => rfl) hlr (CvE.refl _ _ _) (CvH.cells (.cons (.same _) (.cons .here .nil)) (.refl _))) ?_
 repeat' (first
  | exact True.intro | refine stpH ?_ | refine two ?_ ?_ | refine allc fun c_ => ?_
  | (refine imp fun hc => ?_) <;> try exact cx1 hc
  | refine all fun v_ => ?_)
 exact retr0 (xs := [mdA m]) ⟨rv_agg rfl (by (with_reducible exact ElC.h)) rfl (by exact memD) rfl, trivial⟩ rfl (h' := []) (List.nil_sublist _) (ret_eq rfl)
theorem sameModel (G : List (Nat × List D)) (m : Md) : ACr Tryd.prog G 20 [mdA m, mdA m] (.bool true) := by
 refine AC.factI (f := Vr.cells) (xs := m.vars) (.agg .here) fun hlv => ?_
 refine AC.factI (f := Ru.cells) (xs := m.rules) (.agg (.there .here)) fun hlr => ?_
 refine AC.factU (f := Ru.cells) (e := St.cells) (g := Ru.sets) (xs := m.rules) 1 (fun _ => rfl) (.agg (.there .here)) fun hls => ?_
 refine AC_ofV (ts := [4]) Tryd.f20.ntmps Tryd.func20 rfl rfl rfl (by simp [Tryd.ntmps20]) fun W I => ?_
 repeat' (first
  | exact True.intro | refine stpH ?_ | refine two ?_ ?_ | refine allc fun c_ => ?_
  | (refine imp fun hc => ?_) <;> try exact cx1 hc
  | refine all fun v_ => ?_)
 rename_i ba _
 obtain ⟨bb, rfl⟩ : ∃ x, x = v_ := ⟨v_, rfl⟩
 refine J_loopV (X := Nat) (fun i => [(2, .val (.pointer (some ⟨ba, 0, none⟩))), (3, .val (.pointer (some ⟨bb, 0, none⟩))), (5, .int i)]) (fun _ => [.cells bb 25 [.d (varsD m.vars), .d (rulesD m.rules)], .cells ba 25 [.d (varsD m.vars), .d (rulesD m.rules)]]) (fun i => i ≤ m.vars.length) (fun i => m.vars.length - i) 0 (Nat.zero_le _) (VS.of_le ?_) ?_
 · exact leD
 rintro i h1
 by_cases hi : i < m.vars.length
 · 
   repeat' (first
    | ((with_reducible apply jp); (focus ((with_reducible apply (pu_neq4 eq4_Variable)); rfl; rfl)); (focus rfl))
    | exact True.intro | refine stpH ?_ | refine two ?_ ?_ | refine allc fun c_ => ?_
    | (refine imp fun hc => ?_) <;> try exact cx1 hc
    | refine all fun v_ => ?_)
   refine ⟨i + 1, by omega, by omega, VS.of_le ?_⟩
   exact leD
 obtain rfl : i = m.vars.length := by omega
 repeat' (first
  | exact True.intro | refine stpH ?_ | refine two ?_ ?_ | refine allc fun c_ => ?_
  | (refine imp fun hc => ?_) <;> try exact cx1 hc
  | refine all fun v_ => ?_)
 refine J_loopV (X := Nat) (fun i => [(2, .val (.pointer (some ⟨ba, 0, none⟩))), (3, .val (.pointer (some ⟨bb, 0, none⟩))), (6, .int i)]) (fun _ => [.cells bb 25 [.d (varsD m.vars), .d (rulesD m.rules)], .cells ba 25 [.d (varsD m.vars), .d (rulesD m.rules)]]) (fun i => i ≤ m.rules.length) (fun i => m.rules.length - i) 0 (Nat.zero_le _) (VS.of_le ?_) ?_
 · exact leD
 rintro i h1
 by_cases hi : i < m.rules.length
 · have hlsi := hls m.rules[i] (List.getElem_mem hi)
   have e1 := ACr_true (sameOps G m.rules[i].guard m.rules[i].guard) rfl
   repeat' (first
    | refine ca cal_sameOps (e1) ?_
    | exact True.intro | refine stpH ?_ | refine two ?_ ?_ | refine allc fun c_ => ?_
    | (refine imp fun hc => ?_) <;> try exact cx1 hc
    | refine all fun v_ => ?_)
   rename_i bx
   refine J_loopV (X := Nat) (fun k => [(2, .val (.pointer (some ⟨ba, 0, none⟩))), (3, .val (.pointer (some ⟨bb, 0, none⟩))), (6, .int i), (7, .val (.pointer (some ⟨bx, 0, none⟩))), (8, .val (.pointer (some ⟨v_, 0, none⟩))), (9, .int k)]) (fun _ => [.cells v_ 55 [.d (opsD m.rules[i].guard), .d (setsD m.rules[i].sets)], .cells bx 55 [.d (opsD m.rules[i].guard), .d (setsD m.rules[i].sets)], .cells bb 25 [.d (varsD m.vars), .d (rulesD m.rules)], .cells ba 25 [.d (varsD m.vars), .d (rulesD m.rules)]]) (fun k => k ≤ m.rules[i].sets.length) (fun k => m.rules[i].sets.length - k) 0 (Nat.zero_le _) (VS.of_le ?_) ?_
   · exact leD
   rintro k k1
   by_cases hk : k < m.rules[i].sets.length
   · have e2 := ACr_true (sameOps G m.rules[i].sets[k].val m.rules[i].sets[k].val) rfl
     repeat' (first
      | refine ca cal_sameOps (e2) ?_
      | refine caq cal_sameOps (e2) ?_
      | exact True.intro | refine stpA ?_ | refine two ?_ ?_
      | (refine imp fun hc => ?_) <;> try exact cx hc
      | refine all fun v_ => ?_)
     refine ⟨k + 1, by omega, by omega, VS.of_le ?_⟩
     exact leD
   repeat' (first
    | refine ca cal_sameOps (e2) ?_
    | refine caq cal_sameOps (e2) ?_
    | exact True.intro | refine stpH ?_ | refine two ?_ ?_ | refine allc fun c_ => ?_
    | (refine imp fun hc => ?_) <;> try exact cx1 hc
    | refine all fun v_ => ?_)
   refine ⟨i + 1, by omega, by omega, VS.take (by exact takedD) ?_⟩
   exact leD
 repeat' (first
  | refine ca cal_sameOps (e2) ?_
  | refine caq cal_sameOps (e2) ?_
  | exact True.intro | refine stpH ?_ | refine two ?_ ?_ | refine allc fun c_ => ?_
  | (refine imp fun hc => ?_) <;> try exact cx1 hc
  | refine all fun v_ => ?_)
 refine retv (VS.drop (List.nil_sublist _)) ?_
 ((with_reducible apply rq1); rfl; rfl)
 exact ret_eq rfl
end Go.Proofs.YtajnpfgelpkijaaDoor
