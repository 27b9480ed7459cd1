/- A bundle of this claim's own texts: T12. -/
import Derived.Test.YtnlfhnbcdfdhgaaGreatDoorF3
import Derived.Test.YtnlfhnbcdfdhgaaGreatDoorF15
set_option linter.unusedVariables false
set_option linter.unusedSimpArgs false
set_option maxRecDepth 100000
set_option maxHeartbeats 4000000
namespace Go.Proofs.YtnlfhnbcdfdhgaaGreatDoor
open Go Go.Av Go.Sp

theorem F4 : Cal Tryz.prog 140 := Cal.of Tryz.func140 (by kernel_rfl) (by kernel_rfl)
theorem KN : Cal Tryz.prog 87 := Cal.of Tryz.func87 (by kernel_rfl) (by kernel_rfl)
theorem KA {k : Int} (h : Ar k) : 1 ≤ (partsOf k).1 ∧ (k = 15 ∨ k = 16 → (partsOf k).1 = 2) := by
 have : k = 14 ∨ k = 15 ∨ k = 16 ∨ k = 17 ∨ k = 18 := by unfold Ar at h; omega
 rcases this with h | h | h | h | h <;> subst h <;> exact ⟨by decide, by decide⟩
theorem keeps (G : List (Nat × List D)) (a b : List Bool) (k : Int) (i s : Nat) (hk : Ar k) (ha : i + 1 < a.length) (hb : i + 1 < b.length) (hl : a.length ≤ 60) (hs : k = 15 ∨ k = 16 → s < a.length) :
 ACr Tryz.prog G 140 [.agg [.d (Bt a), .d (Bt b)], .int k, .int i, .int s] (.bool (a[i] == Qr k a[i + 1] (a[s]?.getD false) b[i] b[i + 1])) := by
 refine AJ (ts := [8]) Tryz.f140.ntmps Tryz.func140 rfl rfl rfl (by simp [Tryz.ntmps140]) fun W I => ?_
 by_cases h1 : k = 15 ∨ k = 16
 · have hs' := hs h1
   repeat' (first
    | exact True.intro | refine AP ?_ | refine two ?_ ?_
    | (refine imp fun hc => ?_) <;> try exact cx hc
    | refine all fun v_ => ?_)
   all_goals
    refine AN (VS.drop (List.nil_sublist _)) ?_
    ((with_reducible apply rq1); rfl; rfl)
    refine AB (congrArg AV.bool ?_)
    rw [List.getElem?_eq_getElem hs']
    unfold Qr
    rw [if_neg (by omega), if_neg (by omega), if_neg (by omega)]
    first
     | ((rw [if_pos (by omega)] <;> simp_all); done)
     | ((rw [if_neg (by omega)] <;> simp_all); done)
 · unfold Ar at hk
   repeat' (first
    | exact True.intro | refine AP ?_ | refine two ?_ ?_
    | (refine imp fun hc => ?_) <;> try exact cx hc
    | refine all fun v_ => ?_)
   all_goals
    refine AN (VS.drop (List.nil_sublist _)) ?_
    ((with_reducible apply rq1); rfl; rfl)
    refine AB (congrArg AV.bool ?_)
    unfold Qr
    first
     | ((rw [if_pos (by omega)] <;> simp_all); done)
     | ((rw [if_neg (by omega), if_pos (by omega)] <;> simp_all); done)
     | ((rw [if_neg (by omega), if_neg (by omega), if_pos (by omega)] <;> simp_all); done)
set_option maxHeartbeats 1000000 in
theorem bc (l : List Fo) (x : List Bool) (c : Int) (y : List Bool) (d : Int) : ACr Tryz.prog GP 87 [.d (AO l), .d (Bt x), .int c, .d (Bt y), .int d] (.tup [.bool (Dt l x c y d).1, .int (Dt l x c y d).2]) := by
 have hX := OY l x c
 have hY := OY l y d
 have hE := Ends l
 generalize hx : BN l x c = p at hX
 obtain ⟨a, e⟩ := p
 generalize hy : BN l y d = q at hY
 obtain ⟨b, e'⟩ := q
 generalize he : Aw l = q at hE
 obtain ⟨es, e2⟩ := q
 dsimp only at hX hY hE
 have hke := True.intro
 refine AJ (ts := [10, 11]) Tryz.f87.ntmps Tryz.func87 rfl rfl rfl (by simp [Tryz.ntmps87]) fun W I => ?_
 refine DB (t := 0) rfl fun hl0 => ?_
 refine DB (t := 1) rfl fun hl1 => ?_
 refine DB (t := 3) rfl fun hl3 => ?_
 repeat' (first
  | refine ca Ay (hX) ?_
  | refine ca Ay (hY) ?_
  | refine ca Am (hE) ?_
  | refine caq BQ (ahead _ _) ?_
  | refine caq F4 (hke) ?_
  | exact True.intro | refine AP ?_ | refine two ?_ ?_
  | (refine imp fun hc => ?_) <;> try exact cx hc
  | refine all fun v_ => ?_)
 all_goals try (
  refine A6 ?_
  ((with_reducible apply rq2); rfl; rfl; rfl)
  refine AB ?_
  unfold Dt
  rw [hx, hy]
  first
   | (rw [if_pos (by omega)])
   | (rw [if_neg (by omega), if_pos (by assumption)])
   | (rw [if_neg (by omega), if_neg (by assumption), if_pos (by assumption)]))
 have h1 : e = 0 := by omega
 have h2 : e' = 0 := by omega
 subst h1 h2
 have hs : Dt l x c y d = (decide (kept l (tAt l x c) (tAt l y d)), 0) := by
  unfold Dt
  rw [hx, hy, if_neg (by omega)]; rfl
 obtain ⟨g, ta⟩ := HL hx
 obtain ⟨_, tb⟩ := HL hy
 have h60 := g.h60
 have hal := ta.len
 have hbl := tb.len
 have he2 : e2 = 0 := by have := g.ends; rw [he] at this; exact this
 subst he2
 obtain ⟨_, _, _, hlen, hes⟩ := Ct he
 refine AM (X := Nat) (fun i => [(12, .d (Bt a)), (14, .d (Bt b)), (15, .d (AK es)), (49, .d (AO l)), (50, .int l.length), (51, .int i)]) (fun _ => []) (fun i => i ≤ l.length ∧ ∀ q, q < i → JZ l (tAt l x c) (tAt l y d) q) (fun i => l.length - i) 0 ⟨Nat.zero_le _, fun q hq => by omega⟩ (VS.of_le ?_) ?_
 · exact leD
 rintro i ⟨k1, k2⟩
 by_cases hi : i < l.length
 · have hki := Bq l i hi
   by_cases hah : Ar l[i].kind
   · obtain ⟨pa, pb⟩ := KA hah
     obtain ⟨q1, q2, q3, q4, q5⟩ := FF hi (g.well i hi) pa
     have he1 : es[i + 1] = (second l i : Int) := by rw [hes (i + 1) (by omega), ← q4]
     have hsec : l[i].kind = 15 ∨ l[i].kind = 16 → second l i < a.length := fun h => by have := (Fz hi (g.well i hi) (pb h)).1; omega
     have hke := keeps GP a b l[i].kind i (second l i) hah (by omega) (by omega) (by omega) hsec
     rw [← he1] at hke
     have hd : decide (Ar l[i].kind) = true := decide_eq_true hah
     generalize hbb : (a[i] == Qr l[i].kind a[i + 1] (a[second l i]?.getD false) b[i] b[i + 1]) = bb at hke
     have hka : JZ l (tAt l x c) (tAt l y d) i ↔ bb = true := by
      rw [← hbb, beq_iff_eq]
      unfold JZ
      rw [hki, ta.get, ta.get, tb.get, tb.get]
      rw [Rq (tAt l x c (i + 1)) (a[second l i]?.getD false) (tAt l x c (second l i)) (tAt l y d i) (tAt l y d (i + 1)) hah fun h => by rw [List.getElem?_eq_getElem (hsec h)]; exact ta.get _ _]
      exact ⟨fun h => h hah, fun h _ => h⟩
     cases bb with
     | true =>
       repeat' (first
        | refine ca Ay (hX) ?_
        | refine ca Ay (hY) ?_
        | refine ca Am (hE) ?_
        | refine caq BQ (ahead _ _) ?_
        | refine caq F4 (hke) ?_
        | exact True.intro | refine AP ?_ | refine two ?_ ?_
        | (refine imp fun hc => ?_) <;> try exact cx hc
        | refine all fun v_ => ?_)
       refine ⟨i + 1, ⟨by omega, fun q hq => ?_⟩, by omega, vle (List.nil_sublist _) ?_⟩
       · by_cases hqi : q < i
         · exact k2 q hqi
         · obtain rfl : q = i := by omega
           exact hka.2 rfl
       · exact leD
     | false =>
       repeat' (first
        | refine ca Ay (hX) ?_
        | refine ca Ay (hY) ?_
        | refine ca Am (hE) ?_
        | refine caq BQ (ahead _ _) ?_
        | refine caq F4 (hke) ?_
        | exact True.intro | refine AP ?_ | refine two ?_ ?_
        | (refine imp fun hc => ?_) <;> try exact cx hc
        | refine all fun v_ => ?_)
       refine AN (VS.drop (List.nil_sublist _)) ?_
       ((with_reducible apply rq2); rfl; rfl; rfl)
       refine AB ?_
       rw [hs, decide_eq_false (fun h => by have := hka.1 (h i hi); cases this)]
   · repeat' (first
      | refine ca Ay (hX) ?_
      | refine ca Ay (hY) ?_
      | refine ca Am (hE) ?_
      | refine caq BQ (ahead _ _) ?_
      | refine caq F4 (hke) ?_
      | exact True.intro | refine AP ?_ | refine two ?_ ?_
      | (refine imp fun hc => ?_) <;> try exact cx hc
      | refine all fun v_ => ?_)
     refine ⟨i + 1, ⟨by omega, fun q hq => ?_⟩, by omega, vle (List.nil_sublist _) ?_⟩
     · by_cases hqi : q < i
       · exact k2 q hqi
       · obtain rfl : q = i := by omega
         intro h
         rw [hki] at h
         exact absurd h hah
     · exact leD
 · repeat' (first
    | refine ca Ay (hX) ?_
    | refine ca Ay (hY) ?_
    | refine ca Am (hE) ?_
    | refine caq BQ (ahead _ _) ?_
    | refine caq F4 (hke) ?_
    | exact True.intro | refine AP ?_ | refine two ?_ ?_
    | (refine imp fun hc => ?_) <;> try exact cx hc
    | refine all fun v_ => ?_)
   refine AN (VS.drop (List.nil_sublist _)) ?_
   ((with_reducible apply rq2); rfl; rfl; rfl)
   refine AB ?_
   have hkk : kept l (tAt l x c) (tAt l y d) := fun q hq => k2 q (by omega)
   rw [hs, decide_eq_true hkk]
end Go.Proofs.YtnlfhnbcdfdhgaaGreatDoor
