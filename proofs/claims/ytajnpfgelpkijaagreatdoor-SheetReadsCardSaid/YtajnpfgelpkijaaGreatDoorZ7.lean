/- A bundle of this claim's own texts: M4. -/
import Derived.Test.YtajnpfgelpkijaaGreatDoorZ1
import Derived.Test.YtajnpfgelpkijaaGreatDoorZ2
import Derived.Test.YtajnpfgelpkijaaGreatDoorZ6
set_option linter.unusedVariables false
set_option linter.unusedSimpArgs false
set_option maxRecDepth 100000
set_option maxHeartbeats 4000000
namespace Go.Proofs.YtajnpfgelpkijaaGreatDoor
open Go Go.Av Go.Sp

theorem cal_sameModel : Cal Tryz.prog 21 := Cal.of Tryz.func21 (by kernel_rfl) (by kernel_rfl)
theorem eq4_Variable : Eq4 Tryz.prog 68 := ⟨by kernel_rfl, fun s a b c w => by
 have u3 := Tryz.underlying3
 have u9 := Tryz.underlying9
 rw [show (10000 : Nat) = 9999 + 1 from rfl, run_equalIn_agg w 9999 68 _ _ (by kernel_rfl) (by kernel_rfl)]
 simp only [Program.fieldsOf, Tryz.underlying68]
 go_simp
 try simp⟩
theorem sameModel (G : List (Nat × List D)) (m : Md) : ACr Tryz.prog G 21 [mdA m, mdA m] (.bool true) := by
 refine AC.factI (f := Vr.cells) (xs := m.vars) (.agg .here) fun hlv => ?_
 refine AC.factI (f := Ru.cells) (xs := m.rules) (.agg (.there .here)) fun hlr => ?_
 refine AC.factU (f := Ru.cells) (e := St.cells) (g := Ru.sets) (xs := m.rules) 1 (fun _ => rfl) (.agg (.there .here)) fun hls => ?_
 refine AC_ofV (ts := [4]) Tryz.f21.ntmps Tryz.func21 rfl rfl rfl (by simp [Tryz.ntmps21]) fun W I => ?_
 repeat' (first
  | exact True.intro | refine stpH ?_ | refine two ?_ ?_ | refine allc fun c_ => ?_
  | (refine imp fun hc => ?_) <;> try exact cx1 hc
  | refine all fun v_ => ?_)
 rename_i ba _
 obtain ⟨bb, rfl⟩ : ∃ x, x = v_ := ⟨v_, rfl⟩
 refine J_loopV (X := Nat) (fun i => [(2, .val (.pointer (some ⟨ba, 0, none⟩))), (3, .val (.pointer (some ⟨bb, 0, none⟩))), (5, .int i)]) (fun _ => [.cells bb 25 [.d (varsD m.vars), .d (rulesD m.rules)], .cells ba 25 [.d (varsD m.vars), .d (rulesD m.rules)]]) (fun i => i ≤ m.vars.length) (fun i => m.vars.length - i) 0 (Nat.zero_le _) (VS.of_le ?_) ?_
 · exact leD
 rintro i h1
 by_cases hi : i < m.vars.length
 · 
   repeat' (first
    | ((with_reducible apply jp); (focus ((with_reducible apply (pu_neq4 eq4_Variable)); rfl; rfl)); (focus rfl))
    | exact True.intro | refine stpH ?_ | refine two ?_ ?_ | refine allc fun c_ => ?_
    | (refine imp fun hc => ?_) <;> try exact cx1 hc
    | refine all fun v_ => ?_)
   refine ⟨i + 1, by omega, by omega, VS.of_le ?_⟩
   exact leD
 obtain rfl : i = m.vars.length := by omega
 repeat' (first
  | exact True.intro | refine stpH ?_ | refine two ?_ ?_ | refine allc fun c_ => ?_
  | (refine imp fun hc => ?_) <;> try exact cx1 hc
  | refine all fun v_ => ?_)
 refine J_loopV (X := Nat) (fun i => [(2, .val (.pointer (some ⟨ba, 0, none⟩))), (3, .val (.pointer (some ⟨bb, 0, none⟩))), (6, .int i)]) (fun _ => [.cells bb 25 [.d (varsD m.vars), .d (rulesD m.rules)], .cells ba 25 [.d (varsD m.vars), .d (rulesD m.rules)]]) (fun i => i ≤ m.rules.length) (fun i => m.rules.length - i) 0 (Nat.zero_le _) (VS.of_le ?_) ?_
 · exact leD
 rintro i h1
 by_cases hi : i < m.rules.length
 · have hlsi := hls m.rules[i] (List.getElem_mem hi)
   have e1 := ACr_true (sameOps G m.rules[i].guard m.rules[i].guard) rfl
   repeat' (first
    | refine ca cal_sameOps (e1) ?_
    | exact True.intro | refine stpH ?_ | refine two ?_ ?_ | refine allc fun c_ => ?_
    | (refine imp fun hc => ?_) <;> try exact cx1 hc
    | refine all fun v_ => ?_)
   rename_i bx
   refine J_loopV (X := Nat) (fun k => [(2, .val (.pointer (some ⟨ba, 0, none⟩))), (3, .val (.pointer (some ⟨bb, 0, none⟩))), (6, .int i), (7, .val (.pointer (some ⟨bx, 0, none⟩))), (8, .val (.pointer (some ⟨v_, 0, none⟩))), (9, .int k)]) (fun _ => [.cells v_ 72 [.d (opsD m.rules[i].guard), .d (setsD m.rules[i].sets)], .cells bx 72 [.d (opsD m.rules[i].guard), .d (setsD m.rules[i].sets)], .cells bb 25 [.d (varsD m.vars), .d (rulesD m.rules)], .cells ba 25 [.d (varsD m.vars), .d (rulesD m.rules)]]) (fun k => k ≤ m.rules[i].sets.length) (fun k => m.rules[i].sets.length - k) 0 (Nat.zero_le _) (VS.of_le ?_) ?_
   · exact leD
   rintro k k1
   by_cases hk : k < m.rules[i].sets.length
   · have e2 := ACr_true (sameOps G m.rules[i].sets[k].val m.rules[i].sets[k].val) rfl
     repeat' (first
      | refine ca cal_sameOps (e2) ?_
      | refine caq cal_sameOps (e2) ?_
      | exact True.intro | refine stpA ?_ | refine two ?_ ?_
      | (refine imp fun hc => ?_) <;> try exact cx hc
      | refine all fun v_ => ?_)
     refine ⟨k + 1, by omega, by omega, VS.of_le ?_⟩
     exact leD
   repeat' (first
    | refine ca cal_sameOps (e2) ?_
    | refine caq cal_sameOps (e2) ?_
    | exact True.intro | refine stpH ?_ | refine two ?_ ?_ | refine allc fun c_ => ?_
    | (refine imp fun hc => ?_) <;> try exact cx1 hc
    | refine all fun v_ => ?_)
   refine ⟨i + 1, by omega, by omega, VS.take (by exact takedD) ?_⟩
   exact leD
 repeat' (first
  | refine ca cal_sameOps (e2) ?_
  | refine caq cal_sameOps (e2) ?_
  | exact True.intro | refine stpH ?_ | refine two ?_ ?_ | refine allc fun c_ => ?_
  | (refine imp fun hc => ?_) <;> try exact cx1 hc
  | refine all fun v_ => ?_)
 refine retv (VS.drop (List.nil_sublist _)) ?_
 ((with_reducible apply rq1); rfl; rfl)
 exact ret_eq rfl
end Go.Proofs.YtajnpfgelpkijaaGreatDoor
