/- Own texts. -/
import Derived.Test.YtnlfhnbcdfdhgaaGreatDoorA5
set_option linter.unusedVariables false
set_option linter.unusedSimpArgs false
set_option maxRecDepth 100000
set_option maxHeartbeats 4000000
namespace Go.Proofs.YtnlfhnbcdfdhgaaGreatDoor
open Go Go.Av Go.Sp
theorem DG : Cal Tryz.prog 164 := Cal.of Tryz.func164 (by kernel_rfl) (by kernel_rfl)
theorem CO : Cal Tryz.prog 187 := Cal.of Tryz.func187 (by kernel_rfl) (by kernel_rfl)
theorem WS {p q : Prop} (hp : p) (h : p → q := by
 apply cmp; (focus ((with_reducible apply jp); (focus ((with_reducible apply (A8 AZ)); rfl; rfl; rfl; rfl; (with_reducible exact ElC.h); exact AW)); rfl))
 exact fun h => h) : q := h hp
theorem ie {p q : Prop} (hp : p) (h : p → q := by
 apply cmp; (focus ((with_reducible apply (B7 Value.string)); rfl))
 exact fun h => h) : q := h hp
theorem i6 {C p q : Prop} (c : C) (hp : p) (h : C → p → q := by
 intro c_; apply cmp; (focus ((with_reducible apply c_); (iterate 5 rfl); exact Cm; assumption))
 exact fun h => h) : q := h c hp
theorem Fe (G : List (Nat × List D)) (l : List Vr) : ACr Tryz.prog G 164 [.d (Au l)] (.int (Dx l)) := by
 refine AK (ts := [2]) Tryz.f164.ntmps Tryz.func164 rfl rfl rfl (by simp [Tryz.ntmps164]) fun W I => ?_
 by_cases h6 : 6 < l.length
 · repeat' (first | refine ca Cy (name _ _) ?_ | refine ie ?_ | refine WS ?_ | refine i6 (Bc AZ) ?_ | exact jA | refine AF ?_ | refine two ?_ ?_ | refine AB fun c_ => ?_ | refine imp fun hc => ?_; try exact cx1 hc | refine all fun v_ => ?_)
   refine AI jE ?_
   ((with_reducible apply rq1); rfl; rfl)
   exact AA (by rw [Dx, if_pos h6])
 have hF : Dx l = HB l [] 1 := if_neg h6
 repeat' (first | refine ca Cy (name _ _) ?_ | refine ie ?_ | refine WS ?_ | refine i6 (Bc AZ) ?_ | exact jA | refine AF ?_ | refine two ?_ ?_ | refine AB fun c_ => ?_ | refine imp fun hc => ?_; try exact cx1 hc | refine all fun v_ => ?_)
 refine AG (X := Nat × List ByteArray × Int) (fun y => [(3, .val (.map (some v_))), (4, .int y.2.2), (13, .d (Au l)), (14, .int l.length), (15, .int y.1)]) (fun y => [.raw v_ (Th Value.string y.2.1)]) (fun y => y.1 ≤ l.length ∧ 1 ≤ y.2.2 ∧ y.2.2 ≤ 4096 ∧ Dx l = HB (l.drop y.1) y.2.1 y.2.2) (fun y => l.length - y.1) (0, [], 1) ⟨Nat.zero_le _, by decide, by decide, hF⟩ (VS.of_le ?_) ?_
 · exact leD
 rintro ⟨i, seen, n⟩ ⟨h1, h2, h3, h4⟩
 dsimp only at h1 h2 h3 h4 ⊢
 by_cases hi : ¬ i < l.length
 · rw [Pc l i jB] at h4
   repeat' (first | refine ca Cy (name _ _) ?_ | refine ie ?_ | refine WS ?_ | refine i6 (Bc AZ) ?_ | exact jA | refine AF ?_ | refine two ?_ ?_ | refine AB fun c_ => ?_ | refine imp fun hc => ?_; try exact cx1 hc | refine all fun v_ => ?_)
   refine AI jE ?_
   ((with_reducible apply rq1); rfl; rfl)
   exact AA (by rw [h4])
 replace hi := jY hi
 rw [Sm l i hi] at h4
 by_cases c1 : ¬ Lv l[i].name
 · rw [if_pos c1] at h4
   repeat' (first | refine ca Cy (name _ _) ?_ | refine ie ?_ | refine WS ?_ | refine i6 (Bc AZ) ?_ | exact jA | refine AF ?_ | refine two ?_ ?_ | refine AB fun c_ => ?_ | refine imp fun hc => ?_; try exact cx1 hc | refine all fun v_ => ?_)
   refine AI jE ?_
   ((with_reducible apply rq1); rfl; rfl)
   exact AA (by rw [h4])
 rw [if_neg c1] at h4
 by_cases c2 : l[i].name ∈ seen
 · rw [if_pos c2] at h4
   repeat' (first | refine ca Cy (name _ _) ?_ | refine ie ?_ | refine WS ?_ | refine i6 (Bc AZ) ?_ | exact jA | refine AF ?_ | refine two ?_ ?_ | refine AB fun c_ => ?_ | refine imp fun hc => ?_; try exact cx1 hc | refine all fun v_ => ?_)
   refine AI jE ?_
   ((with_reducible apply rq1); rfl; rfl)
   exact AA (by rw [h4])
 rw [if_neg c2] at h4
 by_cases c3 : ¬ Ed l[i]
 · rw [if_pos c3] at h4
   have c3' := c3
   unfold Ed at c3'
   by_cases d1 : l[i].low < -1000
   · repeat' (first | refine ca Cy (name _ _) ?_ | refine ie ?_ | refine WS ?_ | refine i6 (Bc AZ) ?_ | exact jA | refine AF ?_ | refine two ?_ ?_ | refine AB fun c_ => ?_ | refine imp fun hc => ?_; try exact cx1 hc | refine all fun v_ => ?_)
     refine AI jE ?_
     ((with_reducible apply rq1); rfl; rfl)
     exact AA (by rw [h4])
   by_cases d2 : 1000 < l[i].high
   · repeat' (first | refine ca Cy (name _ _) ?_ | refine ie ?_ | refine WS ?_ | refine i6 (Bc AZ) ?_ | exact jA | refine AF ?_ | refine two ?_ ?_ | refine AB fun c_ => ?_ | refine imp fun hc => ?_; try exact cx1 hc | refine all fun v_ => ?_)
     refine AI jE ?_
     ((with_reducible apply rq1); rfl; rfl)
     exact AA (by rw [h4])
   by_cases d3 : l[i].high < l[i].low
   · repeat' (first | refine ca Cy (name _ _) ?_ | refine ie ?_ | refine WS ?_ | refine i6 (Bc AZ) ?_ | exact jA | refine AF ?_ | refine two ?_ ?_ | refine AB fun c_ => ?_ | refine imp fun hc => ?_; try exact cx1 hc | refine all fun v_ => ?_)
     refine AI jE ?_
     ((with_reducible apply rq1); rfl; rfl)
     exact AA (by rw [h4])
   by_cases d4 : l[i].init < l[i].low
   · repeat' (first | refine ca Cy (name _ _) ?_ | refine ie ?_ | refine WS ?_ | refine i6 (Bc AZ) ?_ | exact jA | refine AF ?_ | refine two ?_ ?_ | refine AB fun c_ => ?_ | refine imp fun hc => ?_; try exact cx1 hc | refine all fun v_ => ?_)
     refine AI jE ?_
     ((with_reducible apply rq1); rfl; rfl)
     exact AA (by rw [h4])
   · have d5 : l[i].high < l[i].init := by omega
     repeat' (first | refine ca Cy (name _ _) ?_ | refine ie ?_ | refine WS ?_ | refine i6 (Bc AZ) ?_ | exact jA | refine AF ?_ | refine two ?_ ?_ | refine AB fun c_ => ?_ | refine imp fun hc => ?_; try exact cx1 hc | refine all fun v_ => ?_)
     refine AI jE ?_
     ((with_reducible apply rq1); rfl; rfl)
     exact AA (by rw [h4])
 rw [if_neg c3] at h4
 obtain ⟨d1, d2, d3, d4, d5⟩ := jY c3
 clear c3
 have hsp : BL l[i] = l[i].high - l[i].low + 1 := rfl
 by_cases c4 : 64 < BL l[i]
 · rw [if_pos c4] at h4
   repeat' (first | refine ca Cy (name _ _) ?_ | refine ie ?_ | refine WS ?_ | refine i6 (Bc AZ) ?_ | exact jA | refine AF ?_ | refine two ?_ ?_ | refine AB fun c_ => ?_ | refine imp fun hc => ?_; try exact cx1 hc | refine all fun v_ => ?_)
   refine AI jE ?_
   ((with_reducible apply rq1); rfl; rfl)
   exact AA (by rw [h4])
 rw [if_neg c4] at h4
 have hpos : 1 ≤ n * BL l[i] := Int.le_trans jB (Int.mul_le_mul h2 (show (1 : Int) ≤ BL l[i] by omega) jB jB)
 have hbd : n * BL l[i] ≤ 4096 * 64 := Int.mul_le_mul h3 jB jB jB
 rw [hsp] at hpos hbd h4
 have hin : Ao (n * (l[i].high - l[i].low + 1)) := ⟨by omega, by omega⟩
 by_cases c5 : 4096 < n * (l[i].high - l[i].low + 1)
 · rw [if_pos c5] at h4
   repeat' (first | refine ca Cy (name _ _) ?_ | refine ie ?_ | refine WS ?_ | refine i6 (Bc AZ) ?_ | exact jA | refine AF ?_ | refine two ?_ ?_ | refine AB fun c_ => ?_ | refine imp fun hc => ?_; try exact cx1 hc | refine all fun v_ => ?_)
   refine AI jE ?_
   ((with_reducible apply rq1); rfl; rfl)
   exact AA (by rw [h4])
 rw [if_neg c5] at h4
 repeat' (first | refine ca Cy (name _ _) ?_ | refine ie ?_ | refine WS ?_ | refine i6 (Bc AZ) ?_ | exact jA | refine AF ?_ | refine two ?_ ?_ | refine AB fun c_ => ?_ | refine imp fun hc => ?_; try exact cx1 hc | refine all fun v_ => ?_)
 refine ⟨(i + 1, seen ++ [l[i].name], n * (l[i].high - l[i].low + 1)), ⟨by dsimp only; omega, hpos, jC, h4⟩, jC, VS.take BF ?_⟩
 exact leD
theorem DR (G : List (Nat × List D)) (l : List Vr) : ACr Tryz.prog G 187 [.d (Au l)] (.int (Dx l)) := by
 refine AK (ts := [2]) Tryz.f187.ntmps Tryz.func187 rfl rfl rfl (by simp [Tryz.ntmps187]) fun W I => ?_
 by_cases h6 : 6 < l.length
 · repeat' (first | exact jA | refine AF ?_ | refine two ?_ ?_ | refine AB fun c_ => ?_ | refine imp fun hc => ?_; try exact cx1 hc | refine all fun v_ => ?_)
   refine AI jE ?_
   ((with_reducible apply rq1); rfl; rfl)
   exact AA (by rw [Dx, if_pos h6])
 have hF : Dx l = HB l [] 1 := if_neg h6
 repeat' (first | exact jA | refine AF ?_ | refine two ?_ ?_ | refine AB fun c_ => ?_ | refine imp fun hc => ?_; try exact cx1 hc | refine all fun v_ => ?_)
 refine AG (X := Nat × Int) (fun y => [(0, .d (Au l)), (3, .int y.2), (4, .int y.1)]) (fun _ => []) (fun y => y.1 ≤ l.length ∧ 1 ≤ y.2 ∧ y.2 ≤ 4096 ∧ Dx l = HB (l.drop y.1) ((l.take y.1).map Vr.name) y.2) (fun y => l.length - y.1) (0, 1) ⟨Nat.zero_le _, by decide, by decide, hF⟩ (VS.of_le ?_) ?_
 · exact leD
 rintro ⟨i, n⟩ ⟨h1, h2, h3, h4⟩
 dsimp only at h1 h2 h3 h4 ⊢
 by_cases hi : ¬ i < l.length
 · rw [Pc l i jB] at h4
   repeat' (first | exact jA | refine AF ?_ | refine two ?_ ?_ | refine AB fun c_ => ?_ | refine imp fun hc => ?_; try exact cx1 hc | refine all fun v_ => ?_)
   refine AI jE ?_
   ((with_reducible apply rq1); rfl; rfl)
   exact AA (by rw [h4])
 replace hi := jY hi
 rw [Sm l i hi] at h4
 have hmem : ∀ x, x ∈ (l.take i).map Vr.name ↔ ∃ j, ∃ h : j < l.length, j < i ∧ l[j].name = x := fun x => by
  rw [List.mem_map]
  constructor
  · rintro ⟨v, hv, rfl⟩
    obtain ⟨j, hj, rfl⟩ := List.getElem_of_mem hv
    rw [List.length_take] at hj
    exact ⟨j, by omega, by omega, by simp⟩
  · rintro ⟨j, hj, hji, rfl⟩
    exact ⟨l[j], by rw [List.mem_take_iff_getElem]; exact ⟨j, by omega, rfl⟩, rfl⟩
 by_cases c1 : ¬ Lv l[i].name
 · rw [if_pos c1] at h4
   have e1 := Dg (WH G l[i].name) c1
   repeat' (first | refine ca Gd (e1) ?_ | exact jA | refine AF ?_ | refine two ?_ ?_ | refine AB fun c_ => ?_ | refine imp fun hc => ?_; try exact cx1 hc | refine all fun v_ => ?_)
   refine AI jE ?_
   ((with_reducible apply rq1); rfl; rfl)
   exact AA (by rw [h4])
 have e1 := A7 (WH G l[i].name) (jY c1)
 rw [if_neg c1] at h4
 repeat' (first | refine ca Gd (e1) ?_ | exact jA | refine AF ?_ | refine two ?_ ?_ | refine AB fun c_ => ?_ | refine imp fun hc => ?_; try exact cx1 hc | refine all fun v_ => ?_)
 refine AG (X := Nat) (fun k => [(0, .d (Au l)), (3, .int n), (4, .int i), (5, .val (.pointer (some ⟨v_, 0, none⟩))), (6, .int k)]) (fun _ => [.cells v_ 135 [.val (.string l[i].name), .int l[i].low, .int l[i].high, .int l[i].init]]) (fun k => k ≤ i ∧ ∀ j (h : j < l.length), j < k → l[j].name ≠ l[i].name) (fun k => i - k) 0 ⟨Nat.zero_le _, fun _ _ h => absurd h (Nat.not_lt_zero _)⟩ (VS.of_le ?_) ?_
 · exact leD
 rintro k ⟨k1, k2⟩
 by_cases hk : k < i
 · have hkl : k < l.length := by omega
   by_cases c2 : l[k].name = l[i].name
   · rw [if_pos ((hmem _).2 ⟨k, hkl, hk, c2⟩)] at h4
     repeat' (first | refine ca Gd (e1) ?_ | exact jA | refine AF ?_ | refine two ?_ ?_ | refine AB fun c_ => ?_ | refine imp fun hc => ?_; try exact cx1 hc | refine all fun v_ => ?_)
     all_goals first
      | (refine AI jE ?_
         ((with_reducible apply rq1); rfl; rfl)
         exact AA (by rw [h4]))
      | (exfalso; rw [(Eo _ _).2 c2] at hc; cases hc)
   · repeat' (first | refine ca Gd (e1) ?_ | exact jA | refine AF ?_ | refine two ?_ ?_ | refine AB fun c_ => ?_ | refine imp fun hc => ?_; try exact cx1 hc | refine all fun v_ => ?_)
     all_goals first
      | (refine ⟨k + 1, ⟨by omega, fun j hj hjk => ?_⟩, by omega, VS.of_le ?_⟩
         · by_cases e : j = k
           · subst e; exact c2
           · exact k2 j hj jB
         · exact leD)
      | (exfalso; exact c2 ((Eo _ _).1 hc))
 have c2 : l[i].name ∉ (l.take i).map Vr.name := fun h => by
  obtain ⟨j, hj, hji, e⟩ := (hmem _).1 h
  exact k2 j hj jB e
 rw [if_neg c2] at h4
 by_cases c3 : ¬ Ed l[i]
 · rw [if_pos c3] at h4
   have c3' := c3
   unfold Ed at c3'
   by_cases d1 : ¬ (-1000 ≤ l[i].low ∧ l[i].low ≤ 1000)
   · have e1 := Dg (In G l[i].low (-1000) 1000) d1
     repeat' (first | refine ca AN (e1) ?_ | exact jA | refine AF ?_ | refine two ?_ ?_ | refine AB fun c_ => ?_ | refine imp fun hc => ?_; try exact cx1 hc | refine all fun v_ => ?_)
     refine AI jE ?_
     ((with_reducible apply rq1); rfl; rfl)
     exact AA (by rw [h4])
   have e1 := A7 (In G l[i].low (-1000) 1000) (jY d1)
   by_cases d2 : ¬ (l[i].low ≤ l[i].high ∧ l[i].high ≤ 1000)
   · have e2 := Dg (In G l[i].high l[i].low 1000) d2
     repeat' (first | refine ca AN (e1) ?_ | refine ca AN (e2) ?_ | exact jA | refine AF ?_ | refine two ?_ ?_ | refine AB fun c_ => ?_ | refine imp fun hc => ?_; try exact cx1 hc | refine all fun v_ => ?_)
     refine AI jE ?_
     ((with_reducible apply rq1); rfl; rfl)
     exact AA (by rw [h4])
   have e2 := A7 (In G l[i].high l[i].low 1000) (jY d2)
   have e3 := Dg (In G l[i].init l[i].low l[i].high) jB
   repeat' (first | refine ca AN (e1) ?_ | refine ca AN (e2) ?_ | refine ca AN (e3) ?_ | exact jA | refine AF ?_ | refine two ?_ ?_ | refine AB fun c_ => ?_ | refine imp fun hc => ?_; try exact cx1 hc | refine all fun v_ => ?_)
   refine AI jE ?_
   ((with_reducible apply rq1); rfl; rfl)
   exact AA (by rw [h4])
 rw [if_neg c3] at h4
 obtain ⟨d1, d2, d3, d4, d5⟩ := jY c3
 clear c3
 have e1 := A7 (In G l[i].low (-1000) 1000) jB
 have e2 := A7 (In G l[i].high l[i].low 1000) jB
 have e3 := A7 (In G l[i].init l[i].low l[i].high) jB
 have hsp : BL l[i] = l[i].high - l[i].low + 1 := rfl
 have hlo : 1 ≤ BL l[i] ∧ BL l[i] ≤ 2001 := by omega
 have hpos : 1 ≤ n * BL l[i] := Int.le_trans jB (Int.mul_le_mul h2 hlo.1 jB jB)
 have hbd : n * BL l[i] ≤ 4096 * 2001 := Int.mul_le_mul h3 hlo.2 jB jB
 rw [hsp] at hpos hbd h4
 have hin : Ao (n * (l[i].high - l[i].low + 1)) := ⟨by omega, by omega⟩
 by_cases c4 : 64 < l[i].high - l[i].low + 1
 · rw [if_pos c4] at h4
   repeat' (first | refine ca AN (e1) ?_ | refine ca AN (e2) ?_ | refine ca AN (e3) ?_ | exact jA | refine AF ?_ | refine two ?_ ?_ | refine AB fun c_ => ?_ | refine imp fun hc => ?_; try exact cx1 hc | refine all fun v_ => ?_)
   refine AI jE ?_
   ((with_reducible apply rq1); rfl; rfl)
   exact AA (by rw [h4])
 rw [if_neg c4] at h4
 by_cases c5 : 4096 < n * (l[i].high - l[i].low + 1)
 · rw [if_pos c5] at h4
   repeat' (first | refine ca AN (e1) ?_ | refine ca AN (e2) ?_ | refine ca AN (e3) ?_ | exact jA | refine AF ?_ | refine two ?_ ?_ | refine AB fun c_ => ?_ | refine imp fun hc => ?_; try exact cx1 hc | refine all fun v_ => ?_)
   refine AI jE ?_
   ((with_reducible apply rq1); rfl; rfl)
   exact AA (by rw [h4])
 rw [if_neg c5] at h4
 repeat' (first | refine ca AN (e1) ?_ | refine ca AN (e2) ?_ | refine ca AN (e3) ?_ | exact jA | refine AF ?_ | refine two ?_ ?_ | refine AB fun c_ => ?_ | refine imp fun hc => ?_; try exact cx1 hc | refine all fun v_ => ?_)
 refine ⟨(i + 1, n * (l[i].high - l[i].low + 1)), ⟨by dsimp only; omega, hpos, jC, ?_⟩, jC, VS.trans jE (VS.of_le ?_)⟩
 · dsimp only
   rw [h4, jZ hi, List.map_append]
   rfl
 · exact leD
end Go.Proofs.YtnlfhnbcdfdhgaaGreatDoor
