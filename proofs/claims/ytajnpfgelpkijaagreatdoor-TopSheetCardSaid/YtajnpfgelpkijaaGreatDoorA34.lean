/- A bundle of this claim's own texts: M2. -/
import Derived.Test.YtajnpfgelpkijaaGreatDoorA20
set_option linter.unusedVariables false
set_option linter.unusedSimpArgs false
set_option maxRecDepth 100000
set_option maxHeartbeats 4000000
namespace Go.Proofs.YtajnpfgelpkijaaGreatDoor
open Go Go.Av Go.Sp

theorem Ca : Cal Tryz.prog 124 := Cal.of Tryz.func124 (by kernel_rfl) (by kernel_rfl)
theorem DK (G : List (Nat × List D)) (l : List Vr) : ACr Tryz.prog G 124 [.d (Ba l)] (.int (ED l)) := by
 refine AK (ts := [2]) Tryz.f124.ntmps Tryz.func124 rfl rfl rfl (by simp [Tryz.ntmps124]) fun W I => ?_
 by_cases h6 : 6 < l.length
 · repeat' (first
    | refine ca CJ (name _ _) ?_
    | ((with_reducible apply (B0 Value.string)); (focus rfl))
    | ((with_reducible apply jp); (focus ((with_reducible apply (A7 AX)); rfl; rfl; rfl; rfl; (focus (with_reducible exact ElC.h)); (focus exact Ai))); (focus rfl))
    | ((with_reducible apply (BQ AX)); (focus rfl); (focus rfl); (focus rfl); (focus rfl); (focus rfl); (focus exact B6); (focus assumption))
    | exact True.intro | refine AJ ?_ | refine two ?_ ?_ | refine AG fun c_ => ?_
    | (refine imp fun hc => ?_) <;> try exact cx1 hc
    | refine all fun v_ => ?_)
   refine AO (VS.drop (List.nil_sublist _)) ?_
   ((with_reducible apply rq1); rfl; rfl)
   exact AD (by rw [ED, if_pos h6])
 have hF : ED l = EE l [] 1 := if_neg h6
 repeat' (first
  | refine ca CJ (name _ _) ?_
  | ((with_reducible apply (B0 Value.string)); (focus rfl))
  | ((with_reducible apply jp); (focus ((with_reducible apply (A7 AX)); rfl; rfl; rfl; rfl; (focus (with_reducible exact ElC.h)); (focus exact Ai))); (focus rfl))
  | ((with_reducible apply (BQ AX)); (focus rfl); (focus rfl); (focus rfl); (focus rfl); (focus rfl); (focus exact B6); (focus assumption))
  | exact True.intro | refine AJ ?_ | refine two ?_ ?_ | refine AG fun c_ => ?_
  | (refine imp fun hc => ?_) <;> try exact cx1 hc
  | refine all fun v_ => ?_)
 refine AL (X := Nat × List ByteArray × Int) (fun y => [(3, .val (.map (some v_))), (4, .int y.2.2), (13, .d (Ba l)), (14, .int l.length), (15, .int y.1)]) (fun y => [.raw v_ (Sx Value.string y.2.1)]) (fun y => y.1 ≤ l.length ∧ 1 ≤ y.2.2 ∧ y.2.2 ≤ 4096 ∧ ED l = EE (l.drop y.1) y.2.1 y.2.2) (fun y => l.length - y.1) (0, [], 1) ⟨Nat.zero_le _, by decide, by decide, hF⟩ (VS.of_le ?_) ?_
 · exact leD
 rintro ⟨i, seen, n⟩ ⟨h1, h2, h3, h4⟩
 dsimp only at h1 h2 h3 h4 ⊢
 by_cases hi : ¬ i < l.length
 · rw [WD l i (by omega)] at h4
   repeat' (first
    | refine ca CJ (name _ _) ?_
    | ((with_reducible apply (B0 Value.string)); (focus rfl))
    | ((with_reducible apply jp); (focus ((with_reducible apply (A7 AX)); rfl; rfl; rfl; rfl; (focus (with_reducible exact ElC.h)); (focus exact Ai))); (focus rfl))
    | ((with_reducible apply (BQ AX)); (focus rfl); (focus rfl); (focus rfl); (focus rfl); (focus rfl); (focus exact B6); (focus assumption))
    | exact True.intro | refine AJ ?_ | refine two ?_ ?_ | refine AG fun c_ => ?_
    | (refine imp fun hc => ?_) <;> try exact cx1 hc
    | refine all fun v_ => ?_)
   refine AO (VS.drop (List.nil_sublist _)) ?_
   ((with_reducible apply rq1); rfl; rfl)
   exact AD (by rw [h4])
 replace hi := Decidable.not_not.1 hi
 rw [X0 l i hi] at h4
 by_cases c1 : ¬ Bl l[i].name
 · rw [if_pos c1] at h4
   repeat' (first
    | refine ca CJ (name _ _) ?_
    | ((with_reducible apply (B0 Value.string)); (focus rfl))
    | ((with_reducible apply jp); (focus ((with_reducible apply (A7 AX)); rfl; rfl; rfl; rfl; (focus (with_reducible exact ElC.h)); (focus exact Ai))); (focus rfl))
    | ((with_reducible apply (BQ AX)); (focus rfl); (focus rfl); (focus rfl); (focus rfl); (focus rfl); (focus exact B6); (focus assumption))
    | exact True.intro | refine AJ ?_ | refine two ?_ ?_ | refine AG fun c_ => ?_
    | (refine imp fun hc => ?_) <;> try exact cx1 hc
    | refine all fun v_ => ?_)
   refine AO (VS.drop (List.nil_sublist _)) ?_
   ((with_reducible apply rq1); rfl; rfl)
   exact AD (by rw [h4])
 rw [if_neg c1] at h4
 by_cases c2 : l[i].name ∈ seen
 · rw [if_pos c2] at h4
   repeat' (first
    | refine ca CJ (name _ _) ?_
    | ((with_reducible apply (B0 Value.string)); (focus rfl))
    | ((with_reducible apply jp); (focus ((with_reducible apply (A7 AX)); rfl; rfl; rfl; rfl; (focus (with_reducible exact ElC.h)); (focus exact Ai))); (focus rfl))
    | ((with_reducible apply (BQ AX)); (focus rfl); (focus rfl); (focus rfl); (focus rfl); (focus rfl); (focus exact B6); (focus assumption))
    | exact True.intro | refine AJ ?_ | refine two ?_ ?_ | refine AG fun c_ => ?_
    | (refine imp fun hc => ?_) <;> try exact cx1 hc
    | refine all fun v_ => ?_)
   refine AO (VS.drop (List.nil_sublist _)) ?_
   ((with_reducible apply rq1); rfl; rfl)
   exact AD (by rw [h4])
 rw [if_neg c2] at h4
 by_cases c3 : ¬ DC l[i]
 · rw [if_pos c3] at h4
   have c3' := c3
   unfold DC at c3'
   by_cases d1 : l[i].low < -1000
   · repeat' (first
      | refine ca CJ (name _ _) ?_
      | ((with_reducible apply (B0 Value.string)); (focus rfl))
      | ((with_reducible apply jp); (focus ((with_reducible apply (A7 AX)); rfl; rfl; rfl; rfl; (focus (with_reducible exact ElC.h)); (focus exact Ai))); (focus rfl))
      | ((with_reducible apply (BQ AX)); (focus rfl); (focus rfl); (focus rfl); (focus rfl); (focus rfl); (focus exact B6); (focus assumption))
      | exact True.intro | refine AJ ?_ | refine two ?_ ?_ | refine AG fun c_ => ?_
      | (refine imp fun hc => ?_) <;> try exact cx1 hc
      | refine all fun v_ => ?_)
     refine AO (VS.drop (List.nil_sublist _)) ?_
     ((with_reducible apply rq1); rfl; rfl)
     exact AD (by rw [h4])
   by_cases d2 : 1000 < l[i].high
   · repeat' (first
      | refine ca CJ (name _ _) ?_
      | ((with_reducible apply (B0 Value.string)); (focus rfl))
      | ((with_reducible apply jp); (focus ((with_reducible apply (A7 AX)); rfl; rfl; rfl; rfl; (focus (with_reducible exact ElC.h)); (focus exact Ai))); (focus rfl))
      | ((with_reducible apply (BQ AX)); (focus rfl); (focus rfl); (focus rfl); (focus rfl); (focus rfl); (focus exact B6); (focus assumption))
      | exact True.intro | refine AJ ?_ | refine two ?_ ?_ | refine AG fun c_ => ?_
      | (refine imp fun hc => ?_) <;> try exact cx1 hc
      | refine all fun v_ => ?_)
     refine AO (VS.drop (List.nil_sublist _)) ?_
     ((with_reducible apply rq1); rfl; rfl)
     exact AD (by rw [h4])
   by_cases d3 : l[i].high < l[i].low
   · repeat' (first
      | refine ca CJ (name _ _) ?_
      | ((with_reducible apply (B0 Value.string)); (focus rfl))
      | ((with_reducible apply jp); (focus ((with_reducible apply (A7 AX)); rfl; rfl; rfl; rfl; (focus (with_reducible exact ElC.h)); (focus exact Ai))); (focus rfl))
      | ((with_reducible apply (BQ AX)); (focus rfl); (focus rfl); (focus rfl); (focus rfl); (focus rfl); (focus exact B6); (focus assumption))
      | exact True.intro | refine AJ ?_ | refine two ?_ ?_ | refine AG fun c_ => ?_
      | (refine imp fun hc => ?_) <;> try exact cx1 hc
      | refine all fun v_ => ?_)
     refine AO (VS.drop (List.nil_sublist _)) ?_
     ((with_reducible apply rq1); rfl; rfl)
     exact AD (by rw [h4])
   by_cases d4 : l[i].init < l[i].low
   · repeat' (first
      | refine ca CJ (name _ _) ?_
      | ((with_reducible apply (B0 Value.string)); (focus rfl))
      | ((with_reducible apply jp); (focus ((with_reducible apply (A7 AX)); rfl; rfl; rfl; rfl; (focus (with_reducible exact ElC.h)); (focus exact Ai))); (focus rfl))
      | ((with_reducible apply (BQ AX)); (focus rfl); (focus rfl); (focus rfl); (focus rfl); (focus rfl); (focus exact B6); (focus assumption))
      | exact True.intro | refine AJ ?_ | refine two ?_ ?_ | refine AG fun c_ => ?_
      | (refine imp fun hc => ?_) <;> try exact cx1 hc
      | refine all fun v_ => ?_)
     refine AO (VS.drop (List.nil_sublist _)) ?_
     ((with_reducible apply rq1); rfl; rfl)
     exact AD (by rw [h4])
   · have d5 : l[i].high < l[i].init := by omega
     repeat' (first
      | refine ca CJ (name _ _) ?_
      | ((with_reducible apply (B0 Value.string)); (focus rfl))
      | ((with_reducible apply jp); (focus ((with_reducible apply (A7 AX)); rfl; rfl; rfl; rfl; (focus (with_reducible exact ElC.h)); (focus exact Ai))); (focus rfl))
      | ((with_reducible apply (BQ AX)); (focus rfl); (focus rfl); (focus rfl); (focus rfl); (focus rfl); (focus exact B6); (focus assumption))
      | exact True.intro | refine AJ ?_ | refine two ?_ ?_ | refine AG fun c_ => ?_
      | (refine imp fun hc => ?_) <;> try exact cx1 hc
      | refine all fun v_ => ?_)
     refine AO (VS.drop (List.nil_sublist _)) ?_
     ((with_reducible apply rq1); rfl; rfl)
     exact AD (by rw [h4])
 rw [if_neg c3] at h4
 obtain ⟨d1, d2, d3, d4, d5⟩ := Decidable.not_not.1 c3
 clear c3
 have hsp : A6 l[i] = l[i].high - l[i].low + 1 := rfl
 by_cases c4 : 64 < A6 l[i]
 · rw [if_pos c4] at h4
   repeat' (first
    | refine ca CJ (name _ _) ?_
    | ((with_reducible apply (B0 Value.string)); (focus rfl))
    | ((with_reducible apply jp); (focus ((with_reducible apply (A7 AX)); rfl; rfl; rfl; rfl; (focus (with_reducible exact ElC.h)); (focus exact Ai))); (focus rfl))
    | ((with_reducible apply (BQ AX)); (focus rfl); (focus rfl); (focus rfl); (focus rfl); (focus rfl); (focus exact B6); (focus assumption))
    | exact True.intro | refine AJ ?_ | refine two ?_ ?_ | refine AG fun c_ => ?_
    | (refine imp fun hc => ?_) <;> try exact cx1 hc
    | refine all fun v_ => ?_)
   refine AO (VS.drop (List.nil_sublist _)) ?_
   ((with_reducible apply rq1); rfl; rfl)
   exact AD (by rw [h4])
 rw [if_neg c4] at h4
 have hpos : 1 ≤ n * A6 l[i] := Int.le_trans (by omega) (Int.mul_le_mul h2 (show (1 : Int) ≤ A6 l[i] by omega) (by omega) (by omega))
 have hbd : n * A6 l[i] ≤ 4096 * 64 := Int.mul_le_mul h3 (by omega) (by omega) (by omega)
 rw [hsp] at hpos hbd h4
 have hin : Aj (n * (l[i].high - l[i].low + 1)) := ⟨by omega, by omega⟩
 by_cases c5 : 4096 < n * (l[i].high - l[i].low + 1)
 · rw [if_pos c5] at h4
   repeat' (first
    | refine ca CJ (name _ _) ?_
    | ((with_reducible apply (B0 Value.string)); (focus rfl))
    | ((with_reducible apply jp); (focus ((with_reducible apply (A7 AX)); rfl; rfl; rfl; rfl; (focus (with_reducible exact ElC.h)); (focus exact Ai))); (focus rfl))
    | ((with_reducible apply (BQ AX)); (focus rfl); (focus rfl); (focus rfl); (focus rfl); (focus rfl); (focus exact B6); (focus assumption))
    | exact True.intro | refine AJ ?_ | refine two ?_ ?_ | refine AG fun c_ => ?_
    | (refine imp fun hc => ?_) <;> try exact cx1 hc
    | refine all fun v_ => ?_)
   refine AO (VS.drop (List.nil_sublist _)) ?_
   ((with_reducible apply rq1); rfl; rfl)
   exact AD (by rw [h4])
 rw [if_neg c5] at h4
 repeat' (first
  | refine ca CJ (name _ _) ?_
  | ((with_reducible apply (B0 Value.string)); (focus rfl))
  | ((with_reducible apply jp); (focus ((with_reducible apply (A7 AX)); rfl; rfl; rfl; rfl; (focus (with_reducible exact ElC.h)); (focus exact Ai))); (focus rfl))
  | ((with_reducible apply (BQ AX)); (focus rfl); (focus rfl); (focus rfl); (focus rfl); (focus rfl); (focus exact B6); (focus assumption))
  | exact True.intro | refine AJ ?_ | refine two ?_ ?_ | refine AG fun c_ => ?_
  | (refine imp fun hc => ?_) <;> try exact cx1 hc
  | refine all fun v_ => ?_)
 refine ⟨(i + 1, seen ++ [l[i].name], n * (l[i].high - l[i].low + 1)), ⟨by dsimp only; omega, hpos, by dsimp only; omega, h4⟩, by dsimp only; omega, VS.take (by exact AS) ?_⟩
 exact leD
end Go.Proofs.YtajnpfgelpkijaaGreatDoor
