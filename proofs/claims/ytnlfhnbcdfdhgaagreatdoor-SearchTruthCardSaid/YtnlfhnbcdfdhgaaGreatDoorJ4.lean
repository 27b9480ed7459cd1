/- Own texts. -/
import Derived.Test.YtnlfhnbcdfdhgaaGreatDoorJ3
set_option linter.unusedVariables false
set_option linter.unusedSimpArgs false
set_option maxRecDepth 100000
set_option maxHeartbeats 4000000
namespace Go.Proofs.YtnlfhnbcdfdhgaaGreatDoor
open Go Go.Av Go.Sp
theorem ic (l : List Fo) (hr : BH l) (most : Nat) (hm : most ≤ 1000) : AC Tryz.prog GP 21 [.d (AO l), .int most] [] fun r h => ∃ q : Sl, r = .ret (.val q.v) ∧ h = [AH q.v 59 2 Fo.cells (C8 l most)] := by
 refine AJ (ts := [4]) Tryz.f21.ntmps Tryz.func21 rfl rfl rfl (by simp [Tryz.ntmps21]) fun W I => ?_
 refine F6 (E := 59) (sz := 2) Fo.cells ?_
 repeat' (first
  | exact True.intro | refine AP ?_ | refine two ?_ ?_
  | (refine imp fun hc => ?_) <;> try exact cx hc
  | refine all fun v_ => ?_)
 refine AM (X := Nat × Sl) (fun y => [(0, .d (AO l)), (1, .int most), (5, .val y.2.v), (6, .int y.1)]) (fun y => [AH y.2.v 59 2 Fo.cells (C8 l y.1)]) (fun y => y.1 ≤ l.length ∧ y.1 ≤ most) (fun y => most - y.1) (0, Sl.nil) ⟨Nat.zero_le _, Nat.zero_le _⟩ (VS.take (by exact AD) ?_) ?_
 · exact leD
 rintro ⟨i, q⟩ ⟨h1, h2⟩
 dsimp only at h1 h2 ⊢
 have hml := F2 l i
 by_cases hil : i < l.length
 · by_cases him : i < most
   · have ho := hr l[i] (List.getElem_mem hil)
     have hK := TK GP l[i].kind 4 (by decide) ho.1
     have hW := TK GP l[i].val 12 (by decide) ho.2
     have hC := TK GP l[i].val 120 (by decide) ho.2
     have hb := BE l[i].kind (many := 4) (by decide)
     have et : C8 l (i + 1) = C8 l i ++ [Qq l[i]] := by unfold C8; rw [List.take_succ_eq_append_getElem hil, List.map_append]; rfl
     have hg : Qq l[i] = ⟨1 + pk l[i].kind 4, if 1 + pk l[i].kind 4 = 1 then pk l[i].val 12 else if 1 + pk l[i].kind 4 = 3 then pk l[i].val 120 else 0⟩ := rfl
     by_cases c1 : 1 + pk l[i].kind 4 = 1
     · rw [if_pos c1] at hg
       repeat' (first
        | refine ca CS (hK) ?_
        | refine ca CS (hW) ?_
        | refine ca CS (hC) ?_
        | ((with_reducible apply (BX (f := Fo.cells) (u := ⟨1 + pk l[i].kind 4, pk l[i].val 12⟩))); (focus rfl); (focus rfl); (focus (with_reducible exact ElC.h)); (focus exact BS); (iterate 4 focus rfl); (focus exact Af); (focus exact Af))
        | exact True.intro | refine AG ?_ | refine two ?_ ?_ | refine AF fun c_ => ?_
        | (refine imp fun hc => ?_) <;> try exact cx1 hc
        | refine all fun v_ => ?_)
       refine ⟨(i + 1, v_), ⟨hil, him⟩, by dsimp only; omega, VS.take (by dsimp only; rw [et, hg]; exact AD) ?_⟩
       exact leD
     · by_cases c3 : 1 + pk l[i].kind 4 = 3
       · rw [if_neg c1, if_pos c3] at hg
         repeat' (first
          | refine ca CS (hK) ?_
          | refine ca CS (hW) ?_
          | refine ca CS (hC) ?_
          | ((with_reducible apply (BX (f := Fo.cells) (u := ⟨1 + pk l[i].kind 4, pk l[i].val 120⟩))); (focus rfl); (focus rfl); (focus (with_reducible exact ElC.h)); (focus exact BS); (iterate 4 focus rfl); (focus exact Af); (focus exact Af))
          | exact True.intro | refine AG ?_ | refine two ?_ ?_ | refine AF fun c_ => ?_
          | (refine imp fun hc => ?_) <;> try exact cx1 hc
          | refine all fun v_ => ?_)
         refine ⟨(i + 1, v_), ⟨hil, him⟩, by dsimp only; omega, VS.take (by dsimp only; rw [et, hg]; exact AD) ?_⟩
         exact leD
       · rw [if_neg c1, if_neg c3] at hg
         repeat' (first
          | refine ca CS (hK) ?_
          | refine ca CS (hW) ?_
          | refine ca CS (hC) ?_
          | ((with_reducible apply (BX (f := Fo.cells) (u := ⟨1 + pk l[i].kind 4, 0⟩))); (focus rfl); (focus rfl); (focus (with_reducible exact ElC.h)); (focus exact BS); (iterate 4 focus rfl); (focus exact Af); (focus exact Af))
          | exact True.intro | refine AG ?_ | refine two ?_ ?_ | refine AF fun c_ => ?_
          | (refine imp fun hc => ?_) <;> try exact cx1 hc
          | refine all fun v_ => ?_)
         refine ⟨(i + 1, v_), ⟨hil, him⟩, by dsimp only; omega, VS.take (by dsimp only; rw [et, hg]; exact AD) ?_⟩
         exact leD
   · obtain rfl : i = most := by omega
     repeat' (first
      | exact True.intro | refine AG ?_ | refine two ?_ ?_ | refine AF fun c_ => ?_
      | (refine imp fun hc => ?_) <;> try exact cx1 hc
      | refine all fun v_ => ?_)
     refine AN (VS.take (hc := [AH q.v 59 2 Fo.cells (C8 l i)]) (by exact AD) (Env.le_refl _)) ?_
     ((with_reducible apply rq1); rfl; rfl)
     exact ⟨q, rfl, rfl⟩
 · have et : C8 l i = C8 l most := by unfold C8; rw [List.take_of_length_le (by omega), List.take_of_length_le (by omega)]
   repeat' (first
    | exact True.intro | refine AG ?_ | refine two ?_ ?_ | refine AF fun c_ => ?_
    | (refine imp fun hc => ?_) <;> try exact cx1 hc
    | refine all fun v_ => ?_)
   refine AN (VS.take (hc := [AH q.v 59 2 Fo.cells (C8 l most)]) (by rw [← et]; exact AD) (Env.le_refl _)) ?_
   ((with_reducible apply rq1); rfl; rfl)
   exact ⟨q, rfl, rfl⟩
end Go.Proofs.YtnlfhnbcdfdhgaaGreatDoor
