/- A bundle of this claim's own texts: M2. -/
import Derived.Test.YtnlfhnbcdfdhgaaGreatDoorF5
set_option linter.unusedVariables false
set_option linter.unusedSimpArgs false
set_option maxRecDepth 100000
set_option maxHeartbeats 4000000
namespace Go.Proofs.YtnlfhnbcdfdhgaaGreatDoor
open Go Go.Av Go.Sp

theorem Cb : Cal Tryz.prog 164 := Cal.of Tryz.func164 (by kernel_rfl) (by kernel_rfl)
theorem Eb (G : List (Nat × List D)) (l : List Vr) : ACr Tryz.prog G 164 [.d (BT l)] (.int (Ez l)) := by
 refine AJ (ts := [2]) Tryz.f164.ntmps Tryz.func164 rfl rfl rfl (by simp [Tryz.ntmps164]) fun W I => ?_
 by_cases h6 : 6 < l.length
 · repeat' (first
    | refine ca CK (name _ _) ?_
    | ((with_reducible apply (Ba Value.string)); (focus rfl))
    | ((with_reducible apply jp); (focus ((with_reducible apply (Ap AT)); rfl; rfl; rfl; rfl; (focus (with_reducible exact ElC.h)); (focus exact Ab))); (focus rfl))
    | ((with_reducible apply (A4 AT)); (focus rfl); (focus rfl); (focus rfl); (focus rfl); (focus rfl); (focus exact CI); (focus assumption))
    | exact True.intro | refine AG ?_ | refine two ?_ ?_ | refine AF fun c_ => ?_
    | (refine imp fun hc => ?_) <;> try exact cx1 hc
    | refine all fun v_ => ?_)
   refine AN (VS.drop (List.nil_sublist _)) ?_
   ((with_reducible apply rq1); rfl; rfl)
   exact AB (by rw [Ez, if_pos h6])
 have hF : Ez l = Fa l [] 1 := if_neg h6
 repeat' (first
  | refine ca CK (name _ _) ?_
  | ((with_reducible apply (Ba Value.string)); (focus rfl))
  | ((with_reducible apply jp); (focus ((with_reducible apply (Ap AT)); rfl; rfl; rfl; rfl; (focus (with_reducible exact ElC.h)); (focus exact Ab))); (focus rfl))
  | ((with_reducible apply (A4 AT)); (focus rfl); (focus rfl); (focus rfl); (focus rfl); (focus rfl); (focus exact CI); (focus assumption))
  | exact True.intro | refine AG ?_ | refine two ?_ ?_ | refine AF fun c_ => ?_
  | (refine imp fun hc => ?_) <;> try exact cx1 hc
  | refine all fun v_ => ?_)
 refine AM (X := Nat × List ByteArray × Int) (fun y => [(3, .val (.map (some v_))), (4, .int y.2.2), (13, .d (BT l)), (14, .int l.length), (15, .int y.1)]) (fun y => [.raw v_ (Q4 Value.string y.2.1)]) (fun y => y.1 ≤ l.length ∧ 1 ≤ y.2.2 ∧ y.2.2 ≤ 4096 ∧ Ez l = Fa (l.drop y.1) y.2.1 y.2.2) (fun y => l.length - y.1) (0, [], 1) ⟨Nat.zero_le _, by decide, by decide, hF⟩ (VS.of_le ?_) ?_
 · exact leD
 rintro ⟨i, seen, n⟩ ⟨h1, h2, h3, h4⟩
 dsimp only at h1 h2 h3 h4 ⊢
 by_cases hi : ¬ i < l.length
 · rw [V9 l i (by omega)] at h4
   repeat' (first
    | refine ca CK (name _ _) ?_
    | ((with_reducible apply (Ba Value.string)); (focus rfl))
    | ((with_reducible apply jp); (focus ((with_reducible apply (Ap AT)); rfl; rfl; rfl; rfl; (focus (with_reducible exact ElC.h)); (focus exact Ab))); (focus rfl))
    | ((with_reducible apply (A4 AT)); (focus rfl); (focus rfl); (focus rfl); (focus rfl); (focus rfl); (focus exact CI); (focus assumption))
    | exact True.intro | refine AG ?_ | refine two ?_ ?_ | refine AF fun c_ => ?_
    | (refine imp fun hc => ?_) <;> try exact cx1 hc
    | refine all fun v_ => ?_)
   refine AN (VS.drop (List.nil_sublist _)) ?_
   ((with_reducible apply rq1); rfl; rfl)
   exact AB (by rw [h4])
 replace hi := Decidable.not_not.1 hi
 rw [Ye l i hi] at h4
 by_cases c1 : ¬ KF l[i].name
 · rw [if_pos c1] at h4
   repeat' (first
    | refine ca CK (name _ _) ?_
    | ((with_reducible apply (Ba Value.string)); (focus rfl))
    | ((with_reducible apply jp); (focus ((with_reducible apply (Ap AT)); rfl; rfl; rfl; rfl; (focus (with_reducible exact ElC.h)); (focus exact Ab))); (focus rfl))
    | ((with_reducible apply (A4 AT)); (focus rfl); (focus rfl); (focus rfl); (focus rfl); (focus rfl); (focus exact CI); (focus assumption))
    | exact True.intro | refine AG ?_ | refine two ?_ ?_ | refine AF fun c_ => ?_
    | (refine imp fun hc => ?_) <;> try exact cx1 hc
    | refine all fun v_ => ?_)
   refine AN (VS.drop (List.nil_sublist _)) ?_
   ((with_reducible apply rq1); rfl; rfl)
   exact AB (by rw [h4])
 rw [if_neg c1] at h4
 by_cases c2 : l[i].name ∈ seen
 · rw [if_pos c2] at h4
   repeat' (first
    | refine ca CK (name _ _) ?_
    | ((with_reducible apply (Ba Value.string)); (focus rfl))
    | ((with_reducible apply jp); (focus ((with_reducible apply (Ap AT)); rfl; rfl; rfl; rfl; (focus (with_reducible exact ElC.h)); (focus exact Ab))); (focus rfl))
    | ((with_reducible apply (A4 AT)); (focus rfl); (focus rfl); (focus rfl); (focus rfl); (focus rfl); (focus exact CI); (focus assumption))
    | exact True.intro | refine AG ?_ | refine two ?_ ?_ | refine AF fun c_ => ?_
    | (refine imp fun hc => ?_) <;> try exact cx1 hc
    | refine all fun v_ => ?_)
   refine AN (VS.drop (List.nil_sublist _)) ?_
   ((with_reducible apply rq1); rfl; rfl)
   exact AB (by rw [h4])
 rw [if_neg c2] at h4
 by_cases c3 : ¬ D5 l[i]
 · rw [if_pos c3] at h4
   have c3' := c3
   unfold D5 at c3'
   by_cases d1 : l[i].low < -1000
   · repeat' (first
      | refine ca CK (name _ _) ?_
      | ((with_reducible apply (Ba Value.string)); (focus rfl))
      | ((with_reducible apply jp); (focus ((with_reducible apply (Ap AT)); rfl; rfl; rfl; rfl; (focus (with_reducible exact ElC.h)); (focus exact Ab))); (focus rfl))
      | ((with_reducible apply (A4 AT)); (focus rfl); (focus rfl); (focus rfl); (focus rfl); (focus rfl); (focus exact CI); (focus assumption))
      | exact True.intro | refine AG ?_ | refine two ?_ ?_ | refine AF fun c_ => ?_
      | (refine imp fun hc => ?_) <;> try exact cx1 hc
      | refine all fun v_ => ?_)
     refine AN (VS.drop (List.nil_sublist _)) ?_
     ((with_reducible apply rq1); rfl; rfl)
     exact AB (by rw [h4])
   by_cases d2 : 1000 < l[i].high
   · repeat' (first
      | refine ca CK (name _ _) ?_
      | ((with_reducible apply (Ba Value.string)); (focus rfl))
      | ((with_reducible apply jp); (focus ((with_reducible apply (Ap AT)); rfl; rfl; rfl; rfl; (focus (with_reducible exact ElC.h)); (focus exact Ab))); (focus rfl))
      | ((with_reducible apply (A4 AT)); (focus rfl); (focus rfl); (focus rfl); (focus rfl); (focus rfl); (focus exact CI); (focus assumption))
      | exact True.intro | refine AG ?_ | refine two ?_ ?_ | refine AF fun c_ => ?_
      | (refine imp fun hc => ?_) <;> try exact cx1 hc
      | refine all fun v_ => ?_)
     refine AN (VS.drop (List.nil_sublist _)) ?_
     ((with_reducible apply rq1); rfl; rfl)
     exact AB (by rw [h4])
   by_cases d3 : l[i].high < l[i].low
   · repeat' (first
      | refine ca CK (name _ _) ?_
      | ((with_reducible apply (Ba Value.string)); (focus rfl))
      | ((with_reducible apply jp); (focus ((with_reducible apply (Ap AT)); rfl; rfl; rfl; rfl; (focus (with_reducible exact ElC.h)); (focus exact Ab))); (focus rfl))
      | ((with_reducible apply (A4 AT)); (focus rfl); (focus rfl); (focus rfl); (focus rfl); (focus rfl); (focus exact CI); (focus assumption))
      | exact True.intro | refine AG ?_ | refine two ?_ ?_ | refine AF fun c_ => ?_
      | (refine imp fun hc => ?_) <;> try exact cx1 hc
      | refine all fun v_ => ?_)
     refine AN (VS.drop (List.nil_sublist _)) ?_
     ((with_reducible apply rq1); rfl; rfl)
     exact AB (by rw [h4])
   by_cases d4 : l[i].init < l[i].low
   · repeat' (first
      | refine ca CK (name _ _) ?_
      | ((with_reducible apply (Ba Value.string)); (focus rfl))
      | ((with_reducible apply jp); (focus ((with_reducible apply (Ap AT)); rfl; rfl; rfl; rfl; (focus (with_reducible exact ElC.h)); (focus exact Ab))); (focus rfl))
      | ((with_reducible apply (A4 AT)); (focus rfl); (focus rfl); (focus rfl); (focus rfl); (focus rfl); (focus exact CI); (focus assumption))
      | exact True.intro | refine AG ?_ | refine two ?_ ?_ | refine AF fun c_ => ?_
      | (refine imp fun hc => ?_) <;> try exact cx1 hc
      | refine all fun v_ => ?_)
     refine AN (VS.drop (List.nil_sublist _)) ?_
     ((with_reducible apply rq1); rfl; rfl)
     exact AB (by rw [h4])
   · have d5 : l[i].high < l[i].init := by omega
     repeat' (first
      | refine ca CK (name _ _) ?_
      | ((with_reducible apply (Ba Value.string)); (focus rfl))
      | ((with_reducible apply jp); (focus ((with_reducible apply (Ap AT)); rfl; rfl; rfl; rfl; (focus (with_reducible exact ElC.h)); (focus exact Ab))); (focus rfl))
      | ((with_reducible apply (A4 AT)); (focus rfl); (focus rfl); (focus rfl); (focus rfl); (focus rfl); (focus exact CI); (focus assumption))
      | exact True.intro | refine AG ?_ | refine two ?_ ?_ | refine AF fun c_ => ?_
      | (refine imp fun hc => ?_) <;> try exact cx1 hc
      | refine all fun v_ => ?_)
     refine AN (VS.drop (List.nil_sublist _)) ?_
     ((with_reducible apply rq1); rfl; rfl)
     exact AB (by rw [h4])
 rw [if_neg c3] at h4
 obtain ⟨d1, d2, d3, d4, d5⟩ := Decidable.not_not.1 c3
 clear c3
 have hsp : BD l[i] = l[i].high - l[i].low + 1 := rfl
 by_cases c4 : 64 < BD l[i]
 · rw [if_pos c4] at h4
   repeat' (first
    | refine ca CK (name _ _) ?_
    | ((with_reducible apply (Ba Value.string)); (focus rfl))
    | ((with_reducible apply jp); (focus ((with_reducible apply (Ap AT)); rfl; rfl; rfl; rfl; (focus (with_reducible exact ElC.h)); (focus exact Ab))); (focus rfl))
    | ((with_reducible apply (A4 AT)); (focus rfl); (focus rfl); (focus rfl); (focus rfl); (focus rfl); (focus exact CI); (focus assumption))
    | exact True.intro | refine AG ?_ | refine two ?_ ?_ | refine AF fun c_ => ?_
    | (refine imp fun hc => ?_) <;> try exact cx1 hc
    | refine all fun v_ => ?_)
   refine AN (VS.drop (List.nil_sublist _)) ?_
   ((with_reducible apply rq1); rfl; rfl)
   exact AB (by rw [h4])
 rw [if_neg c4] at h4
 have hpos : 1 ≤ n * BD l[i] := Int.le_trans (by omega) (Int.mul_le_mul h2 (show (1 : Int) ≤ BD l[i] by omega) (by omega) (by omega))
 have hbd : n * BD l[i] ≤ 4096 * 64 := Int.mul_le_mul h3 (by omega) (by omega) (by omega)
 rw [hsp] at hpos hbd h4
 have hin : AX (n * (l[i].high - l[i].low + 1)) := ⟨by omega, by omega⟩
 by_cases c5 : 4096 < n * (l[i].high - l[i].low + 1)
 · rw [if_pos c5] at h4
   repeat' (first
    | refine ca CK (name _ _) ?_
    | ((with_reducible apply (Ba Value.string)); (focus rfl))
    | ((with_reducible apply jp); (focus ((with_reducible apply (Ap AT)); rfl; rfl; rfl; rfl; (focus (with_reducible exact ElC.h)); (focus exact Ab))); (focus rfl))
    | ((with_reducible apply (A4 AT)); (focus rfl); (focus rfl); (focus rfl); (focus rfl); (focus rfl); (focus exact CI); (focus assumption))
    | exact True.intro | refine AG ?_ | refine two ?_ ?_ | refine AF fun c_ => ?_
    | (refine imp fun hc => ?_) <;> try exact cx1 hc
    | refine all fun v_ => ?_)
   refine AN (VS.drop (List.nil_sublist _)) ?_
   ((with_reducible apply rq1); rfl; rfl)
   exact AB (by rw [h4])
 rw [if_neg c5] at h4
 repeat' (first
  | refine ca CK (name _ _) ?_
  | ((with_reducible apply (Ba Value.string)); (focus rfl))
  | ((with_reducible apply jp); (focus ((with_reducible apply (Ap AT)); rfl; rfl; rfl; rfl; (focus (with_reducible exact ElC.h)); (focus exact Ab))); (focus rfl))
  | ((with_reducible apply (A4 AT)); (focus rfl); (focus rfl); (focus rfl); (focus rfl); (focus rfl); (focus exact CI); (focus assumption))
  | exact True.intro | refine AG ?_ | refine two ?_ ?_ | refine AF fun c_ => ?_
  | (refine imp fun hc => ?_) <;> try exact cx1 hc
  | refine all fun v_ => ?_)
 refine ⟨(i + 1, seen ++ [l[i].name], n * (l[i].high - l[i].low + 1)), ⟨by dsimp only; omega, hpos, by dsimp only; omega, h4⟩, by dsimp only; omega, VS.take (by exact AW) ?_⟩
 exact leD
end Go.Proofs.YtnlfhnbcdfdhgaaGreatDoor
