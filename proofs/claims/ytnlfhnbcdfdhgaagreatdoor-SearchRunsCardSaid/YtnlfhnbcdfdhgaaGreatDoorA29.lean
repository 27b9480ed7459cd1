/- Own texts. -/
import Derived.Test.YtnlfhnbcdfdhgaaGreatDoorA20
set_option linter.unusedVariables false
set_option linter.unusedSimpArgs false
set_option maxRecDepth 100000
set_option maxHeartbeats 4000000
namespace Go.Proofs.YtnlfhnbcdfdhgaaGreatDoor
open Go Go.Av Go.Sp
theorem HR : Cal Tryz.prog 140 := Cal.of Tryz.func140 (by kernel_rfl) (by kernel_rfl)
theorem Lm : Cal Tryz.prog 87 := Cal.of Tryz.func87 (by kernel_rfl) (by kernel_rfl)
theorem Je : Cal Tryz.prog 114 := Cal.of Tryz.func114 (by kernel_rfl) (by kernel_rfl)
theorem GL {k : Int} (h : Ay k) : 1 ≤ (partsOf k).1 ∧ (k = 15 ∨ k = 16 → (partsOf k).1 = 2) := by
 have : k = 14 ∨ k = 15 ∨ k = 16 ∨ k = 17 ∨ k = 18 := by unfold Ay at h; omega
 rcases this with h | h | h | h | h <;> subst h <;> exact ⟨by decide, by decide⟩
theorem keeps (G : List (Nat × List D)) (a b : List Bool) (k : Int) (i s : Nat) (hk : Ay k) (ha : i + 1 < a.length) (hb : i + 1 < b.length) (hl : a.length ≤ 60) (hs : k = 15 ∨ k = 16 → s < a.length) :
 ACr Tryz.prog G 140 [.agg [.d (Ap a), .d (Ap b)], .int k, .int i, .int s] (.bool (a[i] == Oh k a[i + 1] (a[s]?.getD false) b[i] b[i + 1])) := by
 refine AK (ts := [8]) Tryz.f140.ntmps Tryz.func140 rfl rfl rfl (by simp [Tryz.ntmps140]) fun W I => ?_
 by_cases h1 : k = 15 ∨ k = 16
 · have hs' := hs h1
   repeat' (first | exact jA | refine AP ?_ | refine two ?_ ?_ | refine imp fun hc => ?_; try exact cx hc | refine all fun v_ => ?_)
   all_goals
    refine AI jE ?_
    ((with_reducible apply rq1); rfl; rfl)
    refine AA (congrArg AV.bool ?_)
    rw [List.getElem?_eq_getElem hs']
    unfold Oh
    rw [if_neg jB, if_neg jB, if_neg jB]
    first
     | ((rw [if_pos jB] <;> simp_all); done)
     | ((rw [if_neg jB] <;> simp_all); done)
 · unfold Ay at hk
   repeat' (first | exact jA | refine AP ?_ | refine two ?_ ?_ | refine imp fun hc => ?_; try exact cx hc | refine all fun v_ => ?_)
   all_goals
    refine AI jE ?_
    ((with_reducible apply rq1); rfl; rfl)
    refine AA (congrArg AV.bool ?_)
    unfold Oh
    first
     | ((rw [if_pos jB] <;> simp_all); done)
     | ((rw [if_neg jB, if_pos jB] <;> simp_all); done)
     | ((rw [if_neg jB, if_neg jB, if_pos jB] <;> simp_all); done)
set_option maxHeartbeats 1000000 in
theorem cS (l : List Fo) (x : List Bool) (c : Int) (y : List Bool) (d : Int) : ACr Tryz.prog GP 87 [.d (AO l), .d (Ap x), .int c, .d (Ap y), .int d] (.tup [.bool (CU l x c y d).1, .int (CU l x c y d).2]) := by
 have hX := QH l x c
 have hY := QH l y d
 have hE := Ends l
 generalize hx : A2 l x c = p at hX
 obtain ⟨a, e⟩ := p
 generalize hy : A2 l y d = q at hY
 obtain ⟨b, e'⟩ := q
 generalize he : Af l = q at hE
 obtain ⟨es, e2⟩ := q
 dsimp only at hX hY hE
 have hke := True.intro
 refine AK (ts := [10, 11]) Tryz.f87.ntmps Tryz.func87 rfl rfl rfl (by simp [Tryz.ntmps87]) fun W I => ?_
 refine Bn (t := 0) rfl fun hl0 => ?_
 refine Bn (t := 1) rfl fun hl1 => ?_
 refine Bn (t := 3) rfl fun hl3 => ?_
 repeat' (first | refine ca BN (hX) ?_ | refine ca BN (hY) ?_ | refine ca A1 (hE) ?_ | refine caq Bv (ahead _ _) ?_ | refine caq HR (hke) ?_ | exact jA | refine AP ?_ | refine two ?_ ?_ | refine imp fun hc => ?_; try exact cx hc | refine all fun v_ => ?_)
 all_goals try (
  refine A0 ?_
  ((with_reducible apply rq2); rfl; rfl; rfl)
  refine AA ?_
  unfold CU
  rw [hx, hy]
  first
   | (rw [if_pos jB])
   | (rw [if_neg jB, if_pos (by assumption)])
   | (rw [if_neg jB, if_neg (by assumption), if_pos (by assumption)]))
 have h1 : e = 0 := by omega
 have h2 : e' = 0 := by omega
 subst h1 h2
 have hs : CU l x c y d = (decide (kept l (tAt l x c) (tAt l y d)), 0) := by
  unfold CU
  rw [hx, hy, if_neg jB]; rfl
 obtain ⟨g, ta⟩ := D6 hx
 obtain ⟨_, tb⟩ := D6 hy
 have h60 := g.h60
 have hal := ta.len
 have hbl := tb.len
 have he2 : e2 = 0 := by have := g.ends; rw [he] at this; exact this
 subst he2
 obtain ⟨_, _, _, hlen, hes⟩ := B1 he
 refine AG (X := Nat) (fun i => [(12, .d (Ap a)), (14, .d (Ap b)), (15, .d (AJ es)), (49, .d (AO l)), (50, .int l.length), (51, .int i)]) (fun _ => []) (fun i => i ≤ l.length ∧ ∀ q, q < i → Ht l (tAt l x c) (tAt l y d) q) (fun i => l.length - i) 0 ⟨Nat.zero_le _, fun q hq => by omega⟩ (VS.of_le ?_) ?_
 · exact leD
 rintro i ⟨k1, k2⟩
 by_cases hi : i < l.length
 · have hki := Aq l i hi
   by_cases hah : Ay l[i].kind
   · obtain ⟨pa, pb⟩ := GL hah
     obtain ⟨q1, q2, q3, q4, q5⟩ := DY hi (g.well i hi) pa
     have he1 : es[i + 1] = (second l i : Int) := by rw [hes (i + 1) jB, ← q4]
     have hsec : l[i].kind = 15 ∨ l[i].kind = 16 → second l i < a.length := fun h => by have := (D9 hi (g.well i hi) (pb h)).1; omega
     have hke := keeps GP a b l[i].kind i (second l i) hah jB jB jB hsec
     rw [← he1] at hke
     have hd : decide (Ay l[i].kind) = true := decide_eq_true hah
     generalize hbb : (a[i] == Oh l[i].kind a[i + 1] (a[second l i]?.getD false) b[i] b[i + 1]) = bb at hke
     have hka : Ht l (tAt l x c) (tAt l y d) i ↔ bb = true := by
      rw [← hbb, beq_iff_eq]
      unfold Ht
      rw [hki, ta.get, ta.get, tb.get, tb.get]
      rw [SP (tAt l x c (i + 1)) (a[second l i]?.getD false) (tAt l x c (second l i)) (tAt l y d i) (tAt l y d (i + 1)) hah fun h => by rw [List.getElem?_eq_getElem (hsec h)]; exact ta.get _ _]
      exact ⟨fun h => h hah, fun h _ => h⟩
     cases bb with
     | true =>
       repeat' (first | refine ca BN (hX) ?_ | refine ca BN (hY) ?_ | refine ca A1 (hE) ?_ | refine caq Bv (ahead _ _) ?_ | refine caq HR (hke) ?_ | exact jA | refine AP ?_ | refine two ?_ ?_ | refine imp fun hc => ?_; try exact cx hc | refine all fun v_ => ?_)
       refine ⟨i + 1, ⟨by omega, fun q hq => ?_⟩, by omega, vle (jc _) ?_⟩
       · by_cases hqi : q < i
         · exact k2 q hqi
         · obtain rfl : q = i := by omega
           exact hka.2 rfl
       · exact leD
     | false =>
       repeat' (first | refine ca BN (hX) ?_ | refine ca BN (hY) ?_ | refine ca A1 (hE) ?_ | refine caq Bv (ahead _ _) ?_ | refine caq HR (hke) ?_ | exact jA | refine AP ?_ | refine two ?_ ?_ | refine imp fun hc => ?_; try exact cx hc | refine all fun v_ => ?_)
       refine AI jE ?_
       ((with_reducible apply rq2); rfl; rfl; rfl)
       refine AA ?_
       rw [hs, decide_eq_false (fun h => by have := hka.1 (h i hi); cases this)]
   · repeat' (first | refine ca BN (hX) ?_ | refine ca BN (hY) ?_ | refine ca A1 (hE) ?_ | refine caq Bv (ahead _ _) ?_ | refine caq HR (hke) ?_ | exact jA | refine AP ?_ | refine two ?_ ?_ | refine imp fun hc => ?_; try exact cx hc | refine all fun v_ => ?_)
     refine ⟨i + 1, ⟨by omega, fun q hq => ?_⟩, by omega, vle (jc _) ?_⟩
     · by_cases hqi : q < i
       · exact k2 q hqi
       · obtain rfl : q = i := by omega
         intro h
         rw [hki] at h
         exact absurd h hah
     · exact leD
 · repeat' (first | refine ca BN (hX) ?_ | refine ca BN (hY) ?_ | refine ca A1 (hE) ?_ | refine caq Bv (ahead _ _) ?_ | refine caq HR (hke) ?_ | exact jA | refine AP ?_ | refine two ?_ ?_ | refine imp fun hc => ?_; try exact cx hc | refine all fun v_ => ?_)
   refine AI jE ?_
   ((with_reducible apply rq2); rfl; rfl; rfl)
   refine AA ?_
   have hkk : kept l (tAt l x c) (tAt l y d) := fun q hq => k2 q jB
   rw [hs, decide_eq_true hkk]
set_option maxHeartbeats 4000000 in
theorem Xp (G : List (Nat × List D)) (l : List Fo) (x : List Bool) (c : Int) (y : List Bool) (d : Int) : ACr Tryz.prog G 114 [.d (AO l), .d (Ap x), .int c, .d (Ap y), .int d] (.tup [.bool (CU l x c y d).1, .int (CU l x c y d).2]) := by
 have hX := Ir G l x c
 have hY := Ir G l y d
 generalize hx : A2 l x c = p at hX
 obtain ⟨a, e⟩ := p
 generalize hy : A2 l y d = q at hY
 obtain ⟨b, e'⟩ := q
 dsimp only at hX hY
 have hsa := True.intro
 refine AK (ts := [10, 11]) Tryz.f114.ntmps Tryz.func114 rfl rfl rfl (by simp [Tryz.ntmps114]) fun W I => ?_
 refine Bn (t := 0) rfl fun hl0 => ?_
 refine Bn (t := 1) rfl fun hl1 => ?_
 refine Bn (t := 3) rfl fun hl3 => ?_
 repeat' (first | refine ca Aw (hX) ?_ | refine ca Aw (hY) ?_ | refine ca As (BW _ _) ?_ | refine ca Bj (hsa) ?_ | exact jA | refine AP ?_ | refine two ?_ ?_ | refine imp fun hc => ?_; try exact cx hc | refine all fun v_ => ?_)
 all_goals try (
  refine A0 ?_
  ((with_reducible apply rq2); rfl; rfl; rfl)
  refine AA ?_
  unfold CU
  rw [hx, hy]
  first
   | (rw [if_pos jB])
   | (rw [if_neg jB, if_pos (by assumption)])
   | (rw [if_neg jB, if_neg (by assumption), if_pos (by assumption)]))
 have h1 : e = 0 := by omega
 have h2 : e' = 0 := by omega
 subst h1 h2
 have hs : CU l x c y d = (decide (kept l (tAt l x c) (tAt l y d)), 0) := by
  unfold CU
  rw [hx, hy, if_neg jB]; rfl
 obtain ⟨g, ta⟩ := D6 hx
 obtain ⟨_, tb⟩ := D6 hy
 have h60 := g.h60
 have hal := ta.len
 have hbl := tb.len
 refine AG (X := Nat) (fun i => [(0, .d (AO l)), (12, .d (Ap a)), (14, .d (Ap b)), (15, .int i)]) (fun _ => []) (fun i => i ≤ l.length ∧ ∀ q, q < i → Ht l (tAt l x c) (tAt l y d) q) (fun i => l.length - i) 0 ⟨Nat.zero_le _, fun q hq => by omega⟩ (VS.of_le ?_) ?_
 · exact leD
 rintro i ⟨k1, k2⟩
 by_cases hi : i < l.length
 · have hki := Aq l i hi
   by_cases hah : Ay l[i].kind
   · obtain ⟨pa, pb⟩ := GL hah
     obtain ⟨q1, q2, q3, q4, q5⟩ := DY hi (g.well i hi) pa
     have hsa := Kg G l i jB
     rw [q4] at hsa
     have hka : Ht l (tAt l x c) (tAt l y d) i ↔ a[i] = Oh l[i].kind a[i + 1] (tAt l x c (second l i)) b[i] b[i + 1] := by
      unfold Ht
      rw [hki, ta.get, ta.get, tb.get, tb.get]
      exact ⟨fun h => h hah, fun h _ => h⟩
     have hsec : l[i].kind = 15 ∨ l[i].kind = 16 → ∃ h : second l i < a.length, a[second l i] = tAt l x c (second l i) := fun h => ⟨by have := (D9 hi (g.well i hi) (pb h)).1; omega, ta.get _ _⟩
     generalize hS : tAt l x c (second l i) = S at hka hsec
     unfold Oh at hka
     unfold Ay at hah
     generalize hwb : (if l[i].kind = 14 then b[i + 1] else if l[i].kind = 17 then a[i + 1] || b[i] else if l[i].kind = 18 then a[i + 1] && b[i] else if l[i].kind = 15 then S || (a[i + 1] && b[i]) else S && (a[i + 1] || b[i])) = w at hka
     by_cases h56 : l[i].kind = 15 ∨ l[i].kind = 16
     · obtain ⟨s1, s2⟩ := hsec h56
       repeat' (first | refine ca Aw (hX) ?_ | refine ca Aw (hY) ?_ | refine ca As (BW _ _) ?_ | refine ca Bj (hsa) ?_ | exact jA | refine AP ?_ | refine two ?_ ?_ | refine imp fun hc => ?_; try exact cx hc | refine all fun v_ => ?_)
       all_goals
        first
         | (refine ⟨i + 1, ⟨by omega, fun q hq => ?_⟩, by omega, VS.of_le ?_⟩
            · by_cases hqi : q < i
              · exact k2 q hqi
              · obtain rfl : q = i := by omega
                refine hka.2 ?_
                rw [← hwb]
                clear hka k2 hX hY hs hx hy ta tb hsa hl0 hl1 hl3 q2 q4 q5 g pb hsec
                simp_all
            · exact leD)
         | (refine A0 ?_
            ((with_reducible apply rq2); rfl; rfl; rfl)
            refine AA ?_
            have hno : ¬ (a[i] = w) := by
             rw [← hwb]
             clear hka k2 hX hY hs hx hy ta tb hsa hl0 hl1 hl3 q2 q4 q5 g pb hsec
             simp_all
            have hkk : ¬ kept l (tAt l x c) (tAt l y d) := fun h => hno (hka.1 (h i hi))
            rw [hs, decide_eq_false hkk])
     · repeat' (first | refine ca Aw (hX) ?_ | refine ca Aw (hY) ?_ | refine ca As (BW _ _) ?_ | refine ca Bj (hsa) ?_ | exact jA | refine AP ?_ | refine two ?_ ?_ | refine imp fun hc => ?_; try exact cx hc | refine all fun v_ => ?_)
       all_goals
        first
         | (refine ⟨i + 1, ⟨by omega, fun q hq => ?_⟩, by omega, VS.of_le ?_⟩
            · by_cases hqi : q < i
              · exact k2 q hqi
              · obtain rfl : q = i := by omega
                refine hka.2 ?_
                rw [← hwb]
                clear hka k2 hX hY hs hx hy ta tb hsa hl0 hl1 hl3 q2 q4 q5 g pb hsec
                simp_all
            · exact leD)
         | (refine A0 ?_
            ((with_reducible apply rq2); rfl; rfl; rfl)
            refine AA ?_
            have hno : ¬ (a[i] = w) := by
             rw [← hwb]
             clear hka k2 hX hY hs hx hy ta tb hsa hl0 hl1 hl3 q2 q4 q5 g pb hsec
             simp_all
            have hkk : ¬ kept l (tAt l x c) (tAt l y d) := fun h => hno (hka.1 (h i hi))
            rw [hs, decide_eq_false hkk])
   · repeat' (first | refine ca Aw (hX) ?_ | refine ca Aw (hY) ?_ | refine ca As (BW _ _) ?_ | refine ca Bj (hsa) ?_ | exact jA | refine AP ?_ | refine two ?_ ?_ | refine imp fun hc => ?_; try exact cx hc | refine all fun v_ => ?_)
     refine ⟨i + 1, ⟨by omega, fun q hq => ?_⟩, by omega, vle (jc _) ?_⟩
     · by_cases hqi : q < i
       · exact k2 q hqi
       · obtain rfl : q = i := by omega
         intro h
         rw [hki] at h
         exact absurd h hah
     · exact leD
 · repeat' (first | refine ca Aw (hX) ?_ | refine ca Aw (hY) ?_ | refine ca As (BW _ _) ?_ | refine ca Bj (hsa) ?_ | exact jA | refine AP ?_ | refine two ?_ ?_ | refine imp fun hc => ?_; try exact cx hc | refine all fun v_ => ?_)
   refine A0 ?_
   ((with_reducible apply rq2); rfl; rfl; rfl)
   refine AA ?_
   have hkk : kept l (tAt l x c) (tAt l y d) := fun q hq => k2 q jB
   rw [hs, decide_eq_true hkk]
end Go.Proofs.YtnlfhnbcdfdhgaaGreatDoor
