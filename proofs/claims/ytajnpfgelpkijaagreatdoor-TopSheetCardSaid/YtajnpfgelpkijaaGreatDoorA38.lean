/- A bundle of this claim's own texts: M3. -/
import Derived.Test.YtajnpfgelpkijaaGreatDoorA34
set_option linter.unusedVariables false
set_option linter.unusedSimpArgs false
set_option maxRecDepth 100000
set_option maxHeartbeats 4000000
namespace Go.Proofs.YtajnpfgelpkijaaGreatDoor
open Go Go.Av Go.Sp

theorem Fm : Cal Tryz.prog 125 := Cal.of Tryz.func125 (by kernel_rfl) (by kernel_rfl)
theorem As : Cal Tryz.prog 89 := Cal.of Tryz.func89 (by kernel_rfl) (by kernel_rfl)
abbrev ruA (r : Ru) : AV := .agg [.d (AN r.guard), .d (Kc r.sets)]
theorem rule (r : Ru) (vars : Int) : ACr Tryz.prog GP 125 [ruA r, .int vars] (.int (DZ r vars)) := by
 refine AK (ts := [4]) Tryz.f125.ntmps Tryz.func125 rfl rfl rfl (by simp [Tryz.ntmps125]) fun W I => ?_
 by_cases h6 : 6 < r.sets.length
 · repeat' (first
    | refine ca Bw (kind _ _ _) ?_
    | ((with_reducible apply (B0 (Value.int .i64))); (focus rfl))
    | ((with_reducible apply jp); (focus ((with_reducible apply (A7 (AQ .i64))); rfl; rfl; rfl; rfl; (focus (with_reducible exact ElC.h)); (focus exact Ai))); (focus rfl))
    | ((with_reducible apply (BQ (AQ .i64))); (focus rfl); (focus rfl); (focus rfl); (focus rfl); (focus rfl); (focus exact B6); (focus assumption))
    | exact True.intro | refine AJ ?_ | refine two ?_ ?_ | refine AG fun c_ => ?_
    | (refine imp fun hc => ?_) <;> try exact cx1 hc
    | refine all fun v_ => ?_)
   refine AO (VS.drop (List.nil_sublist _)) ?_
   ((with_reducible apply rq1); rfl; rfl)
   exact AD (by rw [DZ, if_pos h6])
 by_cases hk : CF r.guard vars true ≠ 0
 · repeat' (first
    | refine ca Bw (kind _ _ _) ?_
    | ((with_reducible apply (B0 (Value.int .i64))); (focus rfl))
    | ((with_reducible apply jp); (focus ((with_reducible apply (A7 (AQ .i64))); rfl; rfl; rfl; rfl; (focus (with_reducible exact ElC.h)); (focus exact Ai))); (focus rfl))
    | ((with_reducible apply (BQ (AQ .i64))); (focus rfl); (focus rfl); (focus rfl); (focus rfl); (focus rfl); (focus exact B6); (focus assumption))
    | exact True.intro | refine AJ ?_ | refine two ?_ ?_ | refine AG fun c_ => ?_
    | (refine imp fun hc => ?_) <;> try exact cx1 hc
    | refine all fun v_ => ?_)
   refine AO (VS.drop (List.nil_sublist _)) ?_
   ((with_reducible apply rq1); rfl; rfl)
   exact AD (by rw [DZ, if_neg h6, if_pos hk])
 have hF : DZ r vars = Er vars r.sets [] := by rw [DZ, if_neg h6, if_neg hk]
 repeat' (first
  | refine ca Bw (kind _ _ _) ?_
  | ((with_reducible apply (B0 (Value.int .i64))); (focus rfl))
  | ((with_reducible apply jp); (focus ((with_reducible apply (A7 (AQ .i64))); rfl; rfl; rfl; rfl; (focus (with_reducible exact ElC.h)); (focus exact Ai))); (focus rfl))
  | ((with_reducible apply (BQ (AQ .i64))); (focus rfl); (focus rfl); (focus rfl); (focus rfl); (focus rfl); (focus exact B6); (focus assumption))
  | exact True.intro | refine AJ ?_ | refine two ?_ ?_ | refine AG fun c_ => ?_
  | (refine imp fun hc => ?_) <;> try exact cx1 hc
  | refine all fun v_ => ?_)
 refine AL (X := Nat × List Int) (fun y => [(1, .int vars), (6, .val (.map (some v_))), (25, .d (Kc r.sets)), (26, .int r.sets.length), (27, .int y.1)]) (fun y => [.raw v_ (Sx (Value.int .i64) y.2)]) (fun y => y.1 ≤ r.sets.length ∧ DZ r vars = Er vars (r.sets.drop y.1) y.2) (fun y => r.sets.length - y.1) (0, []) ⟨Nat.zero_le _, hF⟩ ?_ ?_
 · refine VS.take (by exact AB) ?_
   exact leD
 rintro ⟨i, seen⟩ ⟨h1, h4⟩
 dsimp only at h1 h4 ⊢
 by_cases hi : ¬ i < r.sets.length
 · rw [Wj vars _ i (by omega)] at h4
   repeat' (first
    | refine ca Bw (kind _ _ _) ?_
    | ((with_reducible apply (B0 (Value.int .i64))); (focus rfl))
    | ((with_reducible apply jp); (focus ((with_reducible apply (A7 (AQ .i64))); rfl; rfl; rfl; rfl; (focus (with_reducible exact ElC.h)); (focus exact Ai))); (focus rfl))
    | ((with_reducible apply (BQ (AQ .i64))); (focus rfl); (focus rfl); (focus rfl); (focus rfl); (focus rfl); (focus exact B6); (focus assumption))
    | exact True.intro | refine AJ ?_ | refine two ?_ ?_ | refine AG fun c_ => ?_
    | (refine imp fun hc => ?_) <;> try exact cx1 hc
    | refine all fun v_ => ?_)
   refine AO (VS.drop (List.nil_sublist _)) ?_
   ((with_reducible apply rq1); rfl; rfl)
   exact AD (by rw [h4])
 replace hi := Decidable.not_not.1 hi
 rw [YD vars _ i hi] at h4
 by_cases c0 : r.sets[i].var < 0
 · rw [if_pos (by omega)] at h4
   repeat' (first
    | refine ca Bw (kind _ _ _) ?_
    | ((with_reducible apply (B0 (Value.int .i64))); (focus rfl))
    | ((with_reducible apply jp); (focus ((with_reducible apply (A7 (AQ .i64))); rfl; rfl; rfl; rfl; (focus (with_reducible exact ElC.h)); (focus exact Ai))); (focus rfl))
    | ((with_reducible apply (BQ (AQ .i64))); (focus rfl); (focus rfl); (focus rfl); (focus rfl); (focus rfl); (focus exact B6); (focus assumption))
    | exact True.intro | refine AJ ?_ | refine two ?_ ?_ | refine AG fun c_ => ?_
    | (refine imp fun hc => ?_) <;> try exact cx1 hc
    | refine all fun v_ => ?_)
   refine AO (VS.drop (List.nil_sublist _)) ?_
   ((with_reducible apply rq1); rfl; rfl)
   exact AD (by rw [h4])
 by_cases c1 : vars ≤ r.sets[i].var
 · rw [if_pos (by omega)] at h4
   repeat' (first
    | refine ca Bw (kind _ _ _) ?_
    | ((with_reducible apply (B0 (Value.int .i64))); (focus rfl))
    | ((with_reducible apply jp); (focus ((with_reducible apply (A7 (AQ .i64))); rfl; rfl; rfl; rfl; (focus (with_reducible exact ElC.h)); (focus exact Ai))); (focus rfl))
    | ((with_reducible apply (BQ (AQ .i64))); (focus rfl); (focus rfl); (focus rfl); (focus rfl); (focus rfl); (focus exact B6); (focus assumption))
    | exact True.intro | refine AJ ?_ | refine two ?_ ?_ | refine AG fun c_ => ?_
    | (refine imp fun hc => ?_) <;> try exact cx1 hc
    | refine all fun v_ => ?_)
   refine AO (VS.drop (List.nil_sublist _)) ?_
   ((with_reducible apply rq1); rfl; rfl)
   exact AD (by rw [h4])
 rw [if_neg (by omega)] at h4
 by_cases c2 : r.sets[i].var ∈ seen
 · rw [if_pos c2] at h4
   repeat' (first
    | refine ca Bw (kind _ _ _) ?_
    | ((with_reducible apply (B0 (Value.int .i64))); (focus rfl))
    | ((with_reducible apply jp); (focus ((with_reducible apply (A7 (AQ .i64))); rfl; rfl; rfl; rfl; (focus (with_reducible exact ElC.h)); (focus exact Ai))); (focus rfl))
    | ((with_reducible apply (BQ (AQ .i64))); (focus rfl); (focus rfl); (focus rfl); (focus rfl); (focus rfl); (focus exact B6); (focus assumption))
    | exact True.intro | refine AJ ?_ | refine two ?_ ?_ | refine AG fun c_ => ?_
    | (refine imp fun hc => ?_) <;> try exact cx1 hc
    | refine all fun v_ => ?_)
   refine AO (VS.drop (List.nil_sublist _)) ?_
   ((with_reducible apply rq1); rfl; rfl)
   exact AD (by rw [h4])
 rw [if_neg c2] at h4
 by_cases c3 : CF r.sets[i].val vars false ≠ 0
 · rw [if_pos c3] at h4
   repeat' (first
    | refine ca Bw (kind _ _ _) ?_
    | ((with_reducible apply (B0 (Value.int .i64))); (focus rfl))
    | ((with_reducible apply jp); (focus ((with_reducible apply (A7 (AQ .i64))); rfl; rfl; rfl; rfl; (focus (with_reducible exact ElC.h)); (focus exact Ai))); (focus rfl))
    | ((with_reducible apply (BQ (AQ .i64))); (focus rfl); (focus rfl); (focus rfl); (focus rfl); (focus rfl); (focus exact B6); (focus assumption))
    | exact True.intro | refine AJ ?_ | refine two ?_ ?_ | refine AG fun c_ => ?_
    | (refine imp fun hc => ?_) <;> try exact cx1 hc
    | refine all fun v_ => ?_)
   refine AO (VS.drop (List.nil_sublist _)) ?_
   ((with_reducible apply rq1); rfl; rfl)
   exact AD (by rw [h4])
 rw [if_neg c3] at h4
 repeat' (first
  | refine ca Bw (kind _ _ _) ?_
  | ((with_reducible apply (B0 (Value.int .i64))); (focus rfl))
  | ((with_reducible apply jp); (focus ((with_reducible apply (A7 (AQ .i64))); rfl; rfl; rfl; rfl; (focus (with_reducible exact ElC.h)); (focus exact Ai))); (focus rfl))
  | ((with_reducible apply (BQ (AQ .i64))); (focus rfl); (focus rfl); (focus rfl); (focus rfl); (focus rfl); (focus exact B6); (focus assumption))
  | exact True.intro | refine AJ ?_ | refine two ?_ ?_ | refine AG fun c_ => ?_
  | (refine imp fun hc => ?_) <;> try exact cx1 hc
  | refine all fun v_ => ?_)
 refine ⟨(i + 1, seen ++ [r.sets[i].var]), ⟨by dsimp only; omega, h4⟩, by dsimp only; omega, VS.take (by exact AS) ?_⟩
 exact leD
theorem B4 (m : Md) : ACr Tryz.prog GP 89 [mdA m] (.int (Ah m)) := by
 refine AK (ts := [2]) Tryz.f89.ntmps Tryz.func89 rfl rfl rfl (by simp [Tryz.ntmps89]) fun W I => ?_
 by_cases c1 : ED m.vars ≠ 0
 · repeat' (first
    | refine ca Ca (DK _ _) ?_
    | refine ca Fm (rule _ _) ?_
    | exact True.intro | refine AJ ?_ | refine two ?_ ?_ | refine AG fun c_ => ?_
    | (refine imp fun hc => ?_) <;> try exact cx1 hc
    | refine all fun v_ => ?_)
   refine AO (VS.drop (List.nil_sublist _)) ?_
   ((with_reducible apply rq1); rfl; rfl)
   exact AD (by rw [Ah, if_pos c1])
 by_cases c2 : 12 < m.rules.length
 · repeat' (first
    | refine ca Ca (DK _ _) ?_
    | refine ca Fm (rule _ _) ?_
    | exact True.intro | refine AJ ?_ | refine two ?_ ?_ | refine AG fun c_ => ?_
    | (refine imp fun hc => ?_) <;> try exact cx1 hc
    | refine all fun v_ => ?_)
   refine AO (VS.drop (List.nil_sublist _)) ?_
   ((with_reducible apply rq1); rfl; rfl)
   exact AD (by rw [Ah, if_neg c1, if_pos c2])
 have hF : Ah m = DU m.vars.length m.rules := by rw [Ah, if_neg c1, if_neg c2]
 repeat' (first
  | refine ca Ca (DK _ _) ?_
  | refine ca Fm (rule _ _) ?_
  | exact True.intro | refine AJ ?_ | refine two ?_ ?_ | refine AG fun c_ => ?_
  | (refine imp fun hc => ?_) <;> try exact cx1 hc
  | refine all fun v_ => ?_)
 refine AL (X := Nat) (fun i => [(1, .val (.pointer (some ⟨v_, 0, none⟩))), (18, .d (BH m.rules)), (19, .int m.rules.length), (20, .int i)]) (fun _ => [.cells v_ 25 [.d (Ba m.vars), .d (BH m.rules)]]) (fun i => i ≤ m.rules.length ∧ Ah m = DU m.vars.length (m.rules.drop i)) (fun i => m.rules.length - i) 0 ⟨Nat.zero_le _, hF⟩ (VS.of_le ?_) ?_
 · exact leD
 rintro i ⟨h1, h4⟩
 by_cases hi : ¬ i < m.rules.length
 · rw [Sb _ _ i (by omega)] at h4
   repeat' (first
    | refine ca Ca (DK _ _) ?_
    | refine ca Fm (rule _ _) ?_
    | exact True.intro | refine AJ ?_ | refine two ?_ ?_ | refine AG fun c_ => ?_
    | (refine imp fun hc => ?_) <;> try exact cx1 hc
    | refine all fun v_ => ?_)
   refine AO (VS.drop (List.nil_sublist _)) ?_
   ((with_reducible apply rq1); rfl; rfl)
   exact AD (by rw [h4])
 replace hi := Decidable.not_not.1 hi
 rw [VJ _ _ i hi] at h4
 by_cases c3 : DZ m.rules[i] m.vars.length ≠ 0
 · rw [if_pos c3] at h4
   repeat' (first
    | refine ca Ca (DK _ _) ?_
    | refine ca Fm (rule _ _) ?_
    | exact True.intro | refine AJ ?_ | refine two ?_ ?_ | refine AG fun c_ => ?_
    | (refine imp fun hc => ?_) <;> try exact cx1 hc
    | refine all fun v_ => ?_)
   refine AO (VS.drop (List.nil_sublist _)) ?_
   ((with_reducible apply rq1); rfl; rfl)
   exact AD (by rw [h4])
 rw [if_neg c3] at h4
 rename_i bm
 repeat' (first
  | refine ca Ca (DK _ _) ?_
  | refine ca Fm (rule _ _) ?_
  | exact True.intro | refine AJ ?_ | refine two ?_ ?_ | refine AG fun c_ => ?_
  | (refine imp fun hc => ?_) <;> try exact cx1 hc
  | refine all fun v_ => ?_)
 refine ⟨i + 1, ⟨by omega, h4⟩, by omega, VS.take (by exact AS) ?_⟩
 exact leD
theorem Hp {l : List Vr} (h : ED l = 0) : l.length ≤ 6 := by
 unfold ED at h
 by_cases c : 6 < l.length
 · rw [if_pos c] at h; cases h
 · omega
end Go.Proofs.YtajnpfgelpkijaaGreatDoor
