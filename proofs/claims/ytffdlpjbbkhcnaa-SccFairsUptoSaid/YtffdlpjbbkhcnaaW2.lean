/- Contracts: scc.Fair, foretellref.FairOf. -/
import Derived.Test.YtffdlpjbbkhcnaaW1
namespace Go.Proofs.Ytffdlpjbbkhcnaa
open Go Go.Av Go.Sp
set_option linter.unusedVariables false
set_option linter.unusedSimpArgs false
set_option maxRecDepth 100000
set_option maxHeartbeats 4000000

theorem SFair (G : List (Nat × List D)) (g : Gr) : ACr Try.prog G 45 [grA g] (.tup [.int (fairOf g).1, .int (fairOf g).2]) := by
  refine AC_ofV (ts := [2, 3]) Try.f45.ntmps Try.func45 rfl rfl rfl (by simp [Try.ntmps45]) fun W I => ?_
  have E := SParts G g
  by_cases hk : ¬ okG g
  · rw [partsOf_no hk] at E
    dsimp only at E
    repeat' (first
      | ((with_reducible apply call0); (focus rfl); (focus exact cal_SParts); (focus exact E); (focus rfl))
      | ((with_reducible apply je_call0); (focus rfl); (focus (decide +kernel)); (focus rfl); (focus exact cal_SParts); (focus exact E); (focus rfl))
      | exact True.intro
      | refine stphs ?_
      | refine two ?_ ?_
      | refine allc fun c_ => ?_
      | (refine imp fun hc => ?_) <;> try (first | contradiction | (exfalso; omega))
      | refine all fun v_ => ?_)
    refine retv (VS.drop (List.nil_sublist _)) ?_
    ((with_reducible apply rq2); rfl; rfl; rfl)
    exact ret_eq (by rw [fairOf_no hk])
  obtain ⟨g, rfl, hok⟩ := okG_nat (Decidable.not_not.1 hk)
  clear hk
  have E2 := SReached G g.gr
  rw [partsOf_ok hok, ← partN_cast, ← natsD_eq] at E
  rw [reachedOf_ok hok] at E2
  rw [gnA_eq] at E E2 ⊢
  dsimp only at E E2
  have hs := hok.size
  have hpl := partN_length g
  have E3 := fairC G g hok (partN g) hpl (partN_lt g)
  have lr : (reachedL g).length = g.spots.length := by simp [reachedL]
  have lf : (fairL g (partN g)).length = g.spots.length := by simp [fairL]
  have fr : ∀ (i : Nat) (h : i < (reachedL g).length), (reachedL g)[i] = true ↔ reachedP g i := fun i h => by simp [reachedL]
  have ff : ∀ (i : Nat) (h : i < (fairL g (partN g)).length), (fairL g (partN g))[i] = true ↔ fairP g (partN g) i := fun i h => by simp [fairL]
  generalize reachedL g = rl at E2 lr fr
  generalize fairL g (partN g) = fl at E3 lf ff
  repeat' (first
    | ((with_reducible apply call0); (focus rfl); (focus exact cal_SParts); (focus exact E); (focus rfl))
    | ((with_reducible apply je_call0); (focus rfl); (focus (decide +kernel)); (focus rfl); (focus exact cal_SParts); (focus exact E); (focus rfl))
    | ((with_reducible apply call0); (focus rfl); (focus exact cal_SReached); (focus exact E2); (focus rfl))
    | ((with_reducible apply je_call0); (focus rfl); (focus (decide +kernel)); (focus rfl); (focus exact cal_SReached); (focus exact E2); (focus rfl))
    | ((with_reducible apply call0); (focus rfl); (focus exact cal_fairC); (focus exact E3); (focus rfl))
    | ((with_reducible apply je_call0); (focus rfl); (focus (decide +kernel)); (focus rfl); (focus exact cal_fairC); (focus exact E3); (focus rfl))
    | exact True.intro
    | refine stphs ?_
    | refine two ?_ ?_
    | refine allc fun c_ => ?_
    | (refine imp fun hc => ?_) <;> try (first | contradiction | (exfalso; omega))
    | refine all fun v_ => ?_)
  rename Nat => bg
  refine J_loopV (X := Nat) (fun i => [(6, .d (boolsD rl)), (25, .d (boolsD fl)), (26, .int g.spots.length), (27, .int i)]) (fun _ => [.cells bg 50 [.d (opsD g.spots), .int g.init, .d (natLD g.next), .d (natsD g.sets), .int g.many]]) (fun i => i ≤ g.spots.length ∧ ∀ j, j < i → ¬ goodP g j) (fun i => g.spots.length - i) 0 ⟨Nat.zero_le _, fun _ h => absurd h (Nat.not_lt_zero _)⟩ (VS.of_le ?_) ?_
  · rw [← lf]
    repeat (first
      | exact Env.le_nil _
      | refine Env.le_cons (AV.le_refl _) ?_
      | refine Env.le_cons (AV.le_int rfl (by first | rfl | omega | (dsimp only; omega))) ?_)
  rintro i ⟨h1, h2⟩
  by_cases hi : ¬ i < g.spots.length
  · obtain rfl : i = g.spots.length := by omega
    repeat' (first
      | exact True.intro
      | refine stphs ?_
      | refine two ?_ ?_
      | refine allc fun c_ => ?_
      | (refine imp fun hc => ?_) <;> try (first | contradiction | (exfalso; omega))
      | refine all fun v_ => ?_)
    refine retv (VS.drop (List.nil_sublist _)) ?_
    ((with_reducible apply rq2); rfl; rfl; rfl)
    exact ret_eq (by rw [fairOf_ok hok, fairN_none h2])
  replace hi := Decidable.not_not.1 hi
  have g1 := fr i (by omega)
  have g2 := ff i (by omega)
  repeat' (first
    | exact True.intro
    | refine stphs ?_
    | refine two ?_ ?_
    | refine allc fun c_ => ?_
    | (refine imp fun hc => ?_) <;> try (first | contradiction | (exfalso; omega))
    | refine all fun v_ => ?_)
  all_goals first
    | (refine ⟨i + 1, ⟨by omega, fun j hj => ?_⟩, by omega, VS.of_le ?_⟩
       · by_cases e : j = i
         · subst e
           rintro ⟨a1, a2⟩
           simp_all
         · exact h2 j (by omega)
       · repeat (first
           | exact Env.le_nil _
           | refine Env.le_cons (AV.le_refl _) ?_
           | refine Env.le_cons (AV.le_int rfl (by first | rfl | omega | (dsimp only; omega))) ?_))
    | (refine retv (VS.drop (List.nil_sublist _)) ?_
       ((with_reducible apply rq2); rfl; rfl; rfl)
       exact ret_eq (by rw [fairOf_ok hok, fairN_at h2 hi ⟨g1.1 (by assumption), g2.1 (by assumption)⟩]))
end Go.Proofs.Ytffdlpjbbkhcnaa
