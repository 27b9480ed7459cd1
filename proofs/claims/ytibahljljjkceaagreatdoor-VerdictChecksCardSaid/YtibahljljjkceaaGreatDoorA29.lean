/- A bundle of this claim's own texts: T12. -/
import Derived.Test.YtibahljljjkceaaGreatDoorA22
import Derived.Test.YtibahljljjkceaaGreatDoorA28
set_option linter.unusedVariables false
set_option linter.unusedSimpArgs false
set_option maxRecDepth 100000
set_option maxHeartbeats 4000000
namespace Go.Proofs.YtibahljljjkceaaGreatDoor
open Go Go.Av Go.Sp

theorem GM : Cal Tryz.prog 157 := Cal.of Tryz.func157 (by kernel_rfl) (by kernel_rfl)
theorem J7 : Cal Tryz.prog 109 := Cal.of Tryz.func109 (by kernel_rfl) (by kernel_rfl)
theorem IG : Cal Tryz.prog 118 := Cal.of Tryz.func118 (by kernel_rfl) (by kernel_rfl)
theorem Ft {k : Int} (h : Ao k) : 1 ≤ (partsOf k).1 ∧ (k = 15 ∨ k = 16 → (partsOf k).1 = 2) := by
 have : k = 14 ∨ k = 15 ∨ k = 16 ∨ k = 17 ∨ k = 18 := by unfold Ao at h; omega
 rcases this with h | h | h | h | h <;> subst h <;> exact ⟨by decide, by decide⟩
theorem keeps (G : List (Nat × List D)) (a b : List Bool) (k : Int) (i s : Nat) (hk : Ao k) (ha : i + 1 < a.length) (hb : i + 1 < b.length) (hl : a.length ≤ 60) (hs : k = 15 ∨ k = 16 → s < a.length) :
 ACr Tryz.prog G 157 [.agg [.d (Ai a), .d (Ai b)], .int k, .int i, .int s] (.bool (a[i] == H5 k a[i + 1] (a[s]?.getD false) b[i] b[i + 1])) := by
 refine AN (ts := [8]) Tryz.f157.ntmps Tryz.func157 rfl rfl rfl (by simp [Tryz.ntmps157]) fun W I => ?_
 by_cases h1 : k = 15 ∨ k = 16
 · have hs' := hs h1
   repeat' (first
    | exact True.intro | refine AR ?_ | refine two ?_ ?_
    | (refine imp fun hc => ?_) <;> try exact cx hc
    | refine all fun v_ => ?_)
   all_goals
    refine AH (VS.drop (List.nil_sublist _)) ?_
    ((with_reducible apply rq1); rfl; rfl)
    refine AA (congrArg AV.bool ?_)
    rw [List.getElem?_eq_getElem hs']
    unfold H5
    rw [if_neg (by omega), if_neg (by omega), if_neg (by omega)]
    first
     | ((rw [if_pos (by omega)] <;> simp_all); done)
     | ((rw [if_neg (by omega)] <;> simp_all); done)
 · unfold Ao at hk
   repeat' (first
    | exact True.intro | refine AR ?_ | refine two ?_ ?_
    | (refine imp fun hc => ?_) <;> try exact cx hc
    | refine all fun v_ => ?_)
   all_goals
    refine AH (VS.drop (List.nil_sublist _)) ?_
    ((with_reducible apply rq1); rfl; rfl)
    refine AA (congrArg AV.bool ?_)
    unfold H5
    first
     | ((rw [if_pos (by omega)] <;> simp_all); done)
     | ((rw [if_neg (by omega), if_pos (by omega)] <;> simp_all); done)
     | ((rw [if_neg (by omega), if_neg (by omega), if_pos (by omega)] <;> simp_all); done)
set_option maxHeartbeats 1000000 in
theorem XJ (l : List Fo) (x : List Bool) (c : Int) (y : List Bool) (d : Int) : ACr Tryz.prog GP 109 [.d (AO l), .d (Ai x), .int c, .d (Ai y), .int d] (.tup [.bool (CN l x c y d).1, .int (CN l x c y d).2]) := by
 have hX := Nh l x c
 have hY := Nh l y d
 have hE := Ends l
 generalize hx : A0 l x c = p at hX
 obtain ⟨a, e⟩ := p
 generalize hy : A0 l y d = q at hY
 obtain ⟨b, e'⟩ := q
 generalize he : Ah l = q at hE
 obtain ⟨es, e2⟩ := q
 dsimp only at hX hY hE
 have hke := True.intro
 refine AN (ts := [10, 11]) Tryz.f109.ntmps Tryz.func109 rfl rfl rfl (by simp [Tryz.ntmps109]) fun W I => ?_
 refine Bs (t := 0) rfl fun hl0 => ?_
 refine Bs (t := 1) rfl fun hl1 => ?_
 refine Bs (t := 3) rfl fun hl3 => ?_
 repeat' (first
  | refine ca BK (hX) ?_
  | refine ca BK (hY) ?_
  | refine ca A3 (hE) ?_
  | refine caq Bg (ahead _ _) ?_
  | refine caq GM (hke) ?_
  | exact True.intro | refine AR ?_ | refine two ?_ ?_
  | (refine imp fun hc => ?_) <;> try exact cx hc
  | refine all fun v_ => ?_)
 all_goals try (
  refine Bi ?_
  ((with_reducible apply rq2); rfl; rfl; rfl)
  refine AA ?_
  unfold CN
  rw [hx, hy]
  first
   | (rw [if_pos (by omega)])
   | (rw [if_neg (by omega), if_pos (by assumption)])
   | (rw [if_neg (by omega), if_neg (by assumption), if_pos (by assumption)]))
 have h1 : e = 0 := by omega
 have h2 : e' = 0 := by omega
 subst h1 h2
 have hs : CN l x c y d = (decide (kept l (tAt l x c) (tAt l y d)), 0) := by
  unfold CN
  rw [hx, hy, if_neg (by omega)]; rfl
 obtain ⟨g, ta⟩ := Dk hx
 obtain ⟨_, tb⟩ := Dk hy
 have h60 := g.h60
 have hal := ta.len
 have hbl := tb.len
 have he2 : e2 = 0 := by have := g.ends; rw [he] at this; exact this
 subst he2
 obtain ⟨_, _, _, hlen, hes⟩ := Bp he
 refine AG (X := Nat) (fun i => [(12, .d (Ai a)), (14, .d (Ai b)), (15, .d (AK es)), (49, .d (AO l)), (50, .int l.length), (51, .int i)]) (fun _ => []) (fun i => i ≤ l.length ∧ ∀ q, q < i → F9 l (tAt l x c) (tAt l y d) q) (fun i => l.length - i) 0 ⟨Nat.zero_le _, fun q hq => by omega⟩ (VS.of_le ?_) ?_
 · exact leD
 rintro i ⟨k1, k2⟩
 by_cases hi : i < l.length
 · have hki := An l i hi
   by_cases hah : Ao l[i].kind
   · obtain ⟨pa, pb⟩ := Ft hah
     obtain ⟨q1, q2, q3, q4, q5⟩ := Cu hi (g.well i hi) pa
     have he1 : es[i + 1] = (second l i : Int) := by rw [hes (i + 1) (by omega), ← q4]
     have hsec : l[i].kind = 15 ∨ l[i].kind = 16 → second l i < a.length := fun h => by have := (DS hi (g.well i hi) (pb h)).1; omega
     have hke := keeps GP a b l[i].kind i (second l i) hah (by omega) (by omega) (by omega) hsec
     rw [← he1] at hke
     have hd : decide (Ao l[i].kind) = true := decide_eq_true hah
     generalize hbb : (a[i] == H5 l[i].kind a[i + 1] (a[second l i]?.getD false) b[i] b[i + 1]) = bb at hke
     have hka : F9 l (tAt l x c) (tAt l y d) i ↔ bb = true := by
      rw [← hbb, beq_iff_eq]
      unfold F9
      rw [hki, ta.get, ta.get, tb.get, tb.get]
      rw [Od (tAt l x c (i + 1)) (a[second l i]?.getD false) (tAt l x c (second l i)) (tAt l y d i) (tAt l y d (i + 1)) hah fun h => by rw [List.getElem?_eq_getElem (hsec h)]; exact ta.get _ _]
      exact ⟨fun h => h hah, fun h _ => h⟩
     cases bb with
     | true =>
       repeat' (first
        | refine ca BK (hX) ?_
        | refine ca BK (hY) ?_
        | refine ca A3 (hE) ?_
        | refine caq Bg (ahead _ _) ?_
        | refine caq GM (hke) ?_
        | exact True.intro | refine AR ?_ | refine two ?_ ?_
        | (refine imp fun hc => ?_) <;> try exact cx hc
        | refine all fun v_ => ?_)
       refine ⟨i + 1, ⟨by omega, fun q hq => ?_⟩, by omega, vle (List.nil_sublist _) ?_⟩
       · by_cases hqi : q < i
         · exact k2 q hqi
         · obtain rfl : q = i := by omega
           exact hka.2 rfl
       · exact leD
     | false =>
       repeat' (first
        | refine ca BK (hX) ?_
        | refine ca BK (hY) ?_
        | refine ca A3 (hE) ?_
        | refine caq Bg (ahead _ _) ?_
        | refine caq GM (hke) ?_
        | exact True.intro | refine AR ?_ | refine two ?_ ?_
        | (refine imp fun hc => ?_) <;> try exact cx hc
        | refine all fun v_ => ?_)
       refine AH (VS.drop (List.nil_sublist _)) ?_
       ((with_reducible apply rq2); rfl; rfl; rfl)
       refine AA ?_
       rw [hs, decide_eq_false (fun h => by have := hka.1 (h i hi); cases this)]
   · repeat' (first
      | refine ca BK (hX) ?_
      | refine ca BK (hY) ?_
      | refine ca A3 (hE) ?_
      | refine caq Bg (ahead _ _) ?_
      | refine caq GM (hke) ?_
      | exact True.intro | refine AR ?_ | refine two ?_ ?_
      | (refine imp fun hc => ?_) <;> try exact cx hc
      | refine all fun v_ => ?_)
     refine ⟨i + 1, ⟨by omega, fun q hq => ?_⟩, by omega, vle (List.nil_sublist _) ?_⟩
     · by_cases hqi : q < i
       · exact k2 q hqi
       · obtain rfl : q = i := by omega
         intro h
         rw [hki] at h
         exact absurd h hah
     · exact leD
 · repeat' (first
    | refine ca BK (hX) ?_
    | refine ca BK (hY) ?_
    | refine ca A3 (hE) ?_
    | refine caq Bg (ahead _ _) ?_
    | refine caq GM (hke) ?_
    | exact True.intro | refine AR ?_ | refine two ?_ ?_
    | (refine imp fun hc => ?_) <;> try exact cx hc
    | refine all fun v_ => ?_)
   refine AH (VS.drop (List.nil_sublist _)) ?_
   ((with_reducible apply rq2); rfl; rfl; rfl)
   refine AA ?_
   have hkk : kept l (tAt l x c) (tAt l y d) := fun q hq => k2 q (by omega)
   rw [hs, decide_eq_true hkk]
set_option maxHeartbeats 4000000 in
theorem Tt (G : List (Nat × List D)) (l : List Fo) (x : List Bool) (c : Int) (y : List Bool) (d : Int) : ACr Tryz.prog G 118 [.d (AO l), .d (Ai x), .int c, .d (Ai y), .int d] (.tup [.bool (CN l x c y d).1, .int (CN l x c y d).2]) := by
 have hX := Hr G l x c
 have hY := Hr G l y d
 generalize hx : A0 l x c = p at hX
 obtain ⟨a, e⟩ := p
 generalize hy : A0 l y d = q at hY
 obtain ⟨b, e'⟩ := q
 dsimp only at hX hY
 have hsa := True.intro
 refine AN (ts := [10, 11]) Tryz.f118.ntmps Tryz.func118 rfl rfl rfl (by simp [Tryz.ntmps118]) fun W I => ?_
 refine Bs (t := 0) rfl fun hl0 => ?_
 refine Bs (t := 1) rfl fun hl1 => ?_
 refine Bs (t := 3) rfl fun hl3 => ?_
 repeat' (first
  | refine ca Au (hX) ?_
  | refine ca Au (hY) ?_
  | refine ca Ar (BQ _ _) ?_
  | refine ca BA (hsa) ?_
  | exact True.intro | refine AR ?_ | refine two ?_ ?_
  | (refine imp fun hc => ?_) <;> try exact cx hc
  | refine all fun v_ => ?_)
 all_goals try (
  refine Bi ?_
  ((with_reducible apply rq2); rfl; rfl; rfl)
  refine AA ?_
  unfold CN
  rw [hx, hy]
  first
   | (rw [if_pos (by omega)])
   | (rw [if_neg (by omega), if_pos (by assumption)])
   | (rw [if_neg (by omega), if_neg (by assumption), if_pos (by assumption)]))
 have h1 : e = 0 := by omega
 have h2 : e' = 0 := by omega
 subst h1 h2
 have hs : CN l x c y d = (decide (kept l (tAt l x c) (tAt l y d)), 0) := by
  unfold CN
  rw [hx, hy, if_neg (by omega)]; rfl
 obtain ⟨g, ta⟩ := Dk hx
 obtain ⟨_, tb⟩ := Dk hy
 have h60 := g.h60
 have hal := ta.len
 have hbl := tb.len
 refine AG (X := Nat) (fun i => [(0, .d (AO l)), (12, .d (Ai a)), (14, .d (Ai b)), (15, .int i)]) (fun _ => []) (fun i => i ≤ l.length ∧ ∀ q, q < i → F9 l (tAt l x c) (tAt l y d) q) (fun i => l.length - i) 0 ⟨Nat.zero_le _, fun q hq => by omega⟩ (VS.of_le ?_) ?_
 · exact leD
 rintro i ⟨k1, k2⟩
 by_cases hi : i < l.length
 · have hki := An l i hi
   by_cases hah : Ao l[i].kind
   · obtain ⟨pa, pb⟩ := Ft hah
     obtain ⟨q1, q2, q3, q4, q5⟩ := Cu hi (g.well i hi) pa
     have hsa := Hp G l i (by omega)
     rw [q4] at hsa
     have hka : F9 l (tAt l x c) (tAt l y d) i ↔ a[i] = H5 l[i].kind a[i + 1] (tAt l x c (second l i)) b[i] b[i + 1] := by
      unfold F9
      rw [hki, ta.get, ta.get, tb.get, tb.get]
      exact ⟨fun h => h hah, fun h _ => h⟩
     have hsec : l[i].kind = 15 ∨ l[i].kind = 16 → ∃ h : second l i < a.length, a[second l i] = tAt l x c (second l i) := fun h => ⟨by have := (DS hi (g.well i hi) (pb h)).1; omega, ta.get _ _⟩
     generalize hS : tAt l x c (second l i) = S at hka hsec
     unfold H5 at hka
     unfold Ao at hah
     generalize hwb : (if l[i].kind = 14 then b[i + 1] else if l[i].kind = 17 then a[i + 1] || b[i] else if l[i].kind = 18 then a[i + 1] && b[i] else if l[i].kind = 15 then S || (a[i + 1] && b[i]) else S && (a[i + 1] || b[i])) = w at hka
     by_cases h56 : l[i].kind = 15 ∨ l[i].kind = 16
     · obtain ⟨s1, s2⟩ := hsec h56
       repeat' (first
        | refine ca Au (hX) ?_
        | refine ca Au (hY) ?_
        | refine ca Ar (BQ _ _) ?_
        | refine ca BA (hsa) ?_
        | exact True.intro | refine AR ?_ | refine two ?_ ?_
        | (refine imp fun hc => ?_) <;> try exact cx hc
        | refine all fun v_ => ?_)
       all_goals
        first
         | (refine ⟨i + 1, ⟨by omega, fun q hq => ?_⟩, by omega, VS.of_le ?_⟩
            · by_cases hqi : q < i
              · exact k2 q hqi
              · obtain rfl : q = i := by omega
                refine hka.2 ?_
                rw [← hwb]
                clear hka k2 hX hY hs hx hy ta tb hsa hl0 hl1 hl3 q2 q4 q5 g pb hsec
                simp_all
            · exact leD)
         | (refine Bi ?_
            ((with_reducible apply rq2); rfl; rfl; rfl)
            refine AA ?_
            have hno : ¬ (a[i] = w) := by
             rw [← hwb]
             clear hka k2 hX hY hs hx hy ta tb hsa hl0 hl1 hl3 q2 q4 q5 g pb hsec
             simp_all
            have hkk : ¬ kept l (tAt l x c) (tAt l y d) := fun h => hno (hka.1 (h i hi))
            rw [hs, decide_eq_false hkk])
     · repeat' (first
        | refine ca Au (hX) ?_
        | refine ca Au (hY) ?_
        | refine ca Ar (BQ _ _) ?_
        | refine ca BA (hsa) ?_
        | exact True.intro | refine AR ?_ | refine two ?_ ?_
        | (refine imp fun hc => ?_) <;> try exact cx hc
        | refine all fun v_ => ?_)
       all_goals
        first
         | (refine ⟨i + 1, ⟨by omega, fun q hq => ?_⟩, by omega, VS.of_le ?_⟩
            · by_cases hqi : q < i
              · exact k2 q hqi
              · obtain rfl : q = i := by omega
                refine hka.2 ?_
                rw [← hwb]
                clear hka k2 hX hY hs hx hy ta tb hsa hl0 hl1 hl3 q2 q4 q5 g pb hsec
                simp_all
            · exact leD)
         | (refine Bi ?_
            ((with_reducible apply rq2); rfl; rfl; rfl)
            refine AA ?_
            have hno : ¬ (a[i] = w) := by
             rw [← hwb]
             clear hka k2 hX hY hs hx hy ta tb hsa hl0 hl1 hl3 q2 q4 q5 g pb hsec
             simp_all
            have hkk : ¬ kept l (tAt l x c) (tAt l y d) := fun h => hno (hka.1 (h i hi))
            rw [hs, decide_eq_false hkk])
   · repeat' (first
      | refine ca Au (hX) ?_
      | refine ca Au (hY) ?_
      | refine ca Ar (BQ _ _) ?_
      | refine ca BA (hsa) ?_
      | exact True.intro | refine AR ?_ | refine two ?_ ?_
      | (refine imp fun hc => ?_) <;> try exact cx hc
      | refine all fun v_ => ?_)
     refine ⟨i + 1, ⟨by omega, fun q hq => ?_⟩, by omega, vle (List.nil_sublist _) ?_⟩
     · by_cases hqi : q < i
       · exact k2 q hqi
       · obtain rfl : q = i := by omega
         intro h
         rw [hki] at h
         exact absurd h hah
     · exact leD
 · repeat' (first
    | refine ca Au (hX) ?_
    | refine ca Au (hY) ?_
    | refine ca Ar (BQ _ _) ?_
    | refine ca BA (hsa) ?_
    | exact True.intro | refine AR ?_ | refine two ?_ ?_
    | (refine imp fun hc => ?_) <;> try exact cx hc
    | refine all fun v_ => ?_)
   refine Bi ?_
   ((with_reducible apply rq2); rfl; rfl; rfl)
   refine AA ?_
   have hkk : kept l (tAt l x c) (tAt l y d) := fun q hq => k2 q (by omega)
   rw [hs, decide_eq_true hkk]
end Go.Proofs.YtibahljljjkceaaGreatDoor
