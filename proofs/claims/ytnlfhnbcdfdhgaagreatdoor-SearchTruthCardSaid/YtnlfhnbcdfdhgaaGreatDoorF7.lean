/- A bundle of this claim's own texts: M3. -/
import Derived.Test.YtnlfhnbcdfdhgaaGreatDoorF6
set_option linter.unusedVariables false
set_option linter.unusedSimpArgs false
set_option maxRecDepth 100000
set_option maxHeartbeats 4000000
namespace Go.Proofs.YtnlfhnbcdfdhgaaGreatDoor
open Go Go.Av Go.Sp

theorem F5 : Cal Tryz.prog 165 := Cal.of Tryz.func165 (by kernel_rfl) (by kernel_rfl)
theorem Aq : Cal Tryz.prog 130 := Cal.of Tryz.func130 (by kernel_rfl) (by kernel_rfl)
abbrev ruA (r : Ru) : AV := .agg [.d (AO r.guard), .d (Tw r.sets)]
theorem Un (r : Ru) (vars : Int) : ACr Tryz.prog GP 165 [ruA r, .int vars] (.int (ED r vars)) := by
 refine AJ (ts := [4]) Tryz.f165.ntmps Tryz.func165 rfl rfl rfl (by simp [Tryz.ntmps165]) fun W I => ?_
 by_cases h6 : 6 < r.sets.length
 · repeat' (first
    | refine ca Bw (kind _ _ _) ?_
    | ((with_reducible apply (Ba (Value.int .i64))); (focus rfl))
    | ((with_reducible apply jp); (focus ((with_reducible apply (Ap (AS .i64))); rfl; rfl; rfl; rfl; (focus (with_reducible exact ElC.h)); (focus exact Ab))); (focus rfl))
    | ((with_reducible apply (A4 (AS .i64))); (focus rfl); (focus rfl); (focus rfl); (focus rfl); (focus rfl); (focus exact CI); (focus assumption))
    | exact True.intro | refine AG ?_ | refine two ?_ ?_ | refine AF fun c_ => ?_
    | (refine imp fun hc => ?_) <;> try exact cx1 hc
    | refine all fun v_ => ?_)
   refine AN (VS.drop (List.nil_sublist _)) ?_
   ((with_reducible apply rq1); rfl; rfl)
   exact AB (by rw [ED, if_pos h6])
 by_cases hk : Cj r.guard vars true ≠ 0
 · repeat' (first
    | refine ca Bw (kind _ _ _) ?_
    | ((with_reducible apply (Ba (Value.int .i64))); (focus rfl))
    | ((with_reducible apply jp); (focus ((with_reducible apply (Ap (AS .i64))); rfl; rfl; rfl; rfl; (focus (with_reducible exact ElC.h)); (focus exact Ab))); (focus rfl))
    | ((with_reducible apply (A4 (AS .i64))); (focus rfl); (focus rfl); (focus rfl); (focus rfl); (focus rfl); (focus exact CI); (focus assumption))
    | exact True.intro | refine AG ?_ | refine two ?_ ?_ | refine AF fun c_ => ?_
    | (refine imp fun hc => ?_) <;> try exact cx1 hc
    | refine all fun v_ => ?_)
   refine AN (VS.drop (List.nil_sublist _)) ?_
   ((with_reducible apply rq1); rfl; rfl)
   exact AB (by rw [ED, if_neg h6, if_pos hk])
 have hF : ED r vars = FL vars r.sets [] := by rw [ED, if_neg h6, if_neg hk]
 repeat' (first
  | refine ca Bw (kind _ _ _) ?_
  | ((with_reducible apply (Ba (Value.int .i64))); (focus rfl))
  | ((with_reducible apply jp); (focus ((with_reducible apply (Ap (AS .i64))); rfl; rfl; rfl; rfl; (focus (with_reducible exact ElC.h)); (focus exact Ab))); (focus rfl))
  | ((with_reducible apply (A4 (AS .i64))); (focus rfl); (focus rfl); (focus rfl); (focus rfl); (focus rfl); (focus exact CI); (focus assumption))
  | exact True.intro | refine AG ?_ | refine two ?_ ?_ | refine AF fun c_ => ?_
  | (refine imp fun hc => ?_) <;> try exact cx1 hc
  | refine all fun v_ => ?_)
 refine AM (X := Nat × List Int) (fun y => [(1, .int vars), (6, .val (.map (some v_))), (25, .d (Tw r.sets)), (26, .int r.sets.length), (27, .int y.1)]) (fun y => [.raw v_ (Q4 (Value.int .i64) y.2)]) (fun y => y.1 ≤ r.sets.length ∧ ED r vars = FL vars (r.sets.drop y.1) y.2) (fun y => r.sets.length - y.1) (0, []) ⟨Nat.zero_le _, hF⟩ ?_ ?_
 · refine VS.take (by exact AD) ?_
   exact leD
 rintro ⟨i, seen⟩ ⟨h1, h4⟩
 dsimp only at h1 h4 ⊢
 by_cases hi : ¬ i < r.sets.length
 · rw [Us vars _ i (by omega)] at h4
   repeat' (first
    | refine ca Bw (kind _ _ _) ?_
    | ((with_reducible apply (Ba (Value.int .i64))); (focus rfl))
    | ((with_reducible apply jp); (focus ((with_reducible apply (Ap (AS .i64))); rfl; rfl; rfl; rfl; (focus (with_reducible exact ElC.h)); (focus exact Ab))); (focus rfl))
    | ((with_reducible apply (A4 (AS .i64))); (focus rfl); (focus rfl); (focus rfl); (focus rfl); (focus rfl); (focus exact CI); (focus assumption))
    | exact True.intro | refine AG ?_ | refine two ?_ ?_ | refine AF fun c_ => ?_
    | (refine imp fun hc => ?_) <;> try exact cx1 hc
    | refine all fun v_ => ?_)
   refine AN (VS.drop (List.nil_sublist _)) ?_
   ((with_reducible apply rq1); rfl; rfl)
   exact AB (by rw [h4])
 replace hi := Decidable.not_not.1 hi
 rw [YE vars _ i hi] at h4
 by_cases c0 : r.sets[i].var < 0
 · rw [if_pos (by omega)] at h4
   repeat' (first
    | refine ca Bw (kind _ _ _) ?_
    | ((with_reducible apply (Ba (Value.int .i64))); (focus rfl))
    | ((with_reducible apply jp); (focus ((with_reducible apply (Ap (AS .i64))); rfl; rfl; rfl; rfl; (focus (with_reducible exact ElC.h)); (focus exact Ab))); (focus rfl))
    | ((with_reducible apply (A4 (AS .i64))); (focus rfl); (focus rfl); (focus rfl); (focus rfl); (focus rfl); (focus exact CI); (focus assumption))
    | exact True.intro | refine AG ?_ | refine two ?_ ?_ | refine AF fun c_ => ?_
    | (refine imp fun hc => ?_) <;> try exact cx1 hc
    | refine all fun v_ => ?_)
   refine AN (VS.drop (List.nil_sublist _)) ?_
   ((with_reducible apply rq1); rfl; rfl)
   exact AB (by rw [h4])
 by_cases c1 : vars ≤ r.sets[i].var
 · rw [if_pos (by omega)] at h4
   repeat' (first
    | refine ca Bw (kind _ _ _) ?_
    | ((with_reducible apply (Ba (Value.int .i64))); (focus rfl))
    | ((with_reducible apply jp); (focus ((with_reducible apply (Ap (AS .i64))); rfl; rfl; rfl; rfl; (focus (with_reducible exact ElC.h)); (focus exact Ab))); (focus rfl))
    | ((with_reducible apply (A4 (AS .i64))); (focus rfl); (focus rfl); (focus rfl); (focus rfl); (focus rfl); (focus exact CI); (focus assumption))
    | exact True.intro | refine AG ?_ | refine two ?_ ?_ | refine AF fun c_ => ?_
    | (refine imp fun hc => ?_) <;> try exact cx1 hc
    | refine all fun v_ => ?_)
   refine AN (VS.drop (List.nil_sublist _)) ?_
   ((with_reducible apply rq1); rfl; rfl)
   exact AB (by rw [h4])
 rw [if_neg (by omega)] at h4
 by_cases c2 : r.sets[i].var ∈ seen
 · rw [if_pos c2] at h4
   repeat' (first
    | refine ca Bw (kind _ _ _) ?_
    | ((with_reducible apply (Ba (Value.int .i64))); (focus rfl))
    | ((with_reducible apply jp); (focus ((with_reducible apply (Ap (AS .i64))); rfl; rfl; rfl; rfl; (focus (with_reducible exact ElC.h)); (focus exact Ab))); (focus rfl))
    | ((with_reducible apply (A4 (AS .i64))); (focus rfl); (focus rfl); (focus rfl); (focus rfl); (focus rfl); (focus exact CI); (focus assumption))
    | exact True.intro | refine AG ?_ | refine two ?_ ?_ | refine AF fun c_ => ?_
    | (refine imp fun hc => ?_) <;> try exact cx1 hc
    | refine all fun v_ => ?_)
   refine AN (VS.drop (List.nil_sublist _)) ?_
   ((with_reducible apply rq1); rfl; rfl)
   exact AB (by rw [h4])
 rw [if_neg c2] at h4
 by_cases c3 : Cj r.sets[i].val vars false ≠ 0
 · rw [if_pos c3] at h4
   repeat' (first
    | refine ca Bw (kind _ _ _) ?_
    | ((with_reducible apply (Ba (Value.int .i64))); (focus rfl))
    | ((with_reducible apply jp); (focus ((with_reducible apply (Ap (AS .i64))); rfl; rfl; rfl; rfl; (focus (with_reducible exact ElC.h)); (focus exact Ab))); (focus rfl))
    | ((with_reducible apply (A4 (AS .i64))); (focus rfl); (focus rfl); (focus rfl); (focus rfl); (focus rfl); (focus exact CI); (focus assumption))
    | exact True.intro | refine AG ?_ | refine two ?_ ?_ | refine AF fun c_ => ?_
    | (refine imp fun hc => ?_) <;> try exact cx1 hc
    | refine all fun v_ => ?_)
   refine AN (VS.drop (List.nil_sublist _)) ?_
   ((with_reducible apply rq1); rfl; rfl)
   exact AB (by rw [h4])
 rw [if_neg c3] at h4
 repeat' (first
  | refine ca Bw (kind _ _ _) ?_
  | ((with_reducible apply (Ba (Value.int .i64))); (focus rfl))
  | ((with_reducible apply jp); (focus ((with_reducible apply (Ap (AS .i64))); rfl; rfl; rfl; rfl; (focus (with_reducible exact ElC.h)); (focus exact Ab))); (focus rfl))
  | ((with_reducible apply (A4 (AS .i64))); (focus rfl); (focus rfl); (focus rfl); (focus rfl); (focus rfl); (focus exact CI); (focus assumption))
  | exact True.intro | refine AG ?_ | refine two ?_ ?_ | refine AF fun c_ => ?_
  | (refine imp fun hc => ?_) <;> try exact cx1 hc
  | refine all fun v_ => ?_)
 refine ⟨(i + 1, seen ++ [r.sets[i].var]), ⟨by dsimp only; omega, h4⟩, by dsimp only; omega, VS.take (by exact AW) ?_⟩
 exact leD
theorem CE (m : Md) : ACr Tryz.prog GP 130 [mdA m] (.int (Ag m)) := by
 refine AJ (ts := [2]) Tryz.f130.ntmps Tryz.func130 rfl rfl rfl (by simp [Tryz.ntmps130]) fun W I => ?_
 by_cases c1 : Ez m.vars ≠ 0
 · repeat' (first
    | refine ca Cb (Eb _ _) ?_
    | refine ca F5 (Un _ _) ?_
    | exact True.intro | refine AG ?_ | refine two ?_ ?_ | refine AF fun c_ => ?_
    | (refine imp fun hc => ?_) <;> try exact cx1 hc
    | refine all fun v_ => ?_)
   refine AN (VS.drop (List.nil_sublist _)) ?_
   ((with_reducible apply rq1); rfl; rfl)
   exact AB (by rw [Ag, if_pos c1])
 by_cases c2 : 12 < m.rules.length
 · repeat' (first
    | refine ca Cb (Eb _ _) ?_
    | refine ca F5 (Un _ _) ?_
    | exact True.intro | refine AG ?_ | refine two ?_ ?_ | refine AF fun c_ => ?_
    | (refine imp fun hc => ?_) <;> try exact cx1 hc
    | refine all fun v_ => ?_)
   refine AN (VS.drop (List.nil_sublist _)) ?_
   ((with_reducible apply rq1); rfl; rfl)
   exact AB (by rw [Ag, if_neg c1, if_pos c2])
 have hF : Ag m = D0 m.vars.length m.rules := by rw [Ag, if_neg c1, if_neg c2]
 repeat' (first
  | refine ca Cb (Eb _ _) ?_
  | refine ca F5 (Un _ _) ?_
  | exact True.intro | refine AG ?_ | refine two ?_ ?_ | refine AF fun c_ => ?_
  | (refine imp fun hc => ?_) <;> try exact cx1 hc
  | refine all fun v_ => ?_)
 refine AM (X := Nat) (fun i => [(1, .val (.pointer (some ⟨v_, 0, none⟩))), (18, .d (A2 m.rules)), (19, .int m.rules.length), (20, .int i)]) (fun _ => [.cells v_ 25 [.d (BT m.vars), .d (A2 m.rules)]]) (fun i => i ≤ m.rules.length ∧ Ag m = D0 m.vars.length (m.rules.drop i)) (fun i => m.rules.length - i) 0 ⟨Nat.zero_le _, hF⟩ (VS.of_le ?_) ?_
 · exact leD
 rintro i ⟨h1, h4⟩
 by_cases hi : ¬ i < m.rules.length
 · rw [R3 _ _ i (by omega)] at h4
   repeat' (first
    | refine ca Cb (Eb _ _) ?_
    | refine ca F5 (Un _ _) ?_
    | exact True.intro | refine AG ?_ | refine two ?_ ?_ | refine AF fun c_ => ?_
    | (refine imp fun hc => ?_) <;> try exact cx1 hc
    | refine all fun v_ => ?_)
   refine AN (VS.drop (List.nil_sublist _)) ?_
   ((with_reducible apply rq1); rfl; rfl)
   exact AB (by rw [h4])
 replace hi := Decidable.not_not.1 hi
 rw [Vc _ _ i hi] at h4
 by_cases c3 : ED m.rules[i] m.vars.length ≠ 0
 · rw [if_pos c3] at h4
   repeat' (first
    | refine ca Cb (Eb _ _) ?_
    | refine ca F5 (Un _ _) ?_
    | exact True.intro | refine AG ?_ | refine two ?_ ?_ | refine AF fun c_ => ?_
    | (refine imp fun hc => ?_) <;> try exact cx1 hc
    | refine all fun v_ => ?_)
   refine AN (VS.drop (List.nil_sublist _)) ?_
   ((with_reducible apply rq1); rfl; rfl)
   exact AB (by rw [h4])
 rw [if_neg c3] at h4
 rename_i bm
 repeat' (first
  | refine ca Cb (Eb _ _) ?_
  | refine ca F5 (Un _ _) ?_
  | exact True.intro | refine AG ?_ | refine two ?_ ?_ | refine AF fun c_ => ?_
  | (refine imp fun hc => ?_) <;> try exact cx1 hc
  | refine all fun v_ => ?_)
 refine ⟨i + 1, ⟨by omega, h4⟩, by omega, VS.take (by exact AW) ?_⟩
 exact leD
theorem He {l : List Vr} (h : Ez l = 0) : l.length ≤ 6 := by
 unfold Ez at h
 by_cases c : 6 < l.length
 · rw [if_pos c] at h; cases h
 · omega
end Go.Proofs.YtnlfhnbcdfdhgaaGreatDoor
