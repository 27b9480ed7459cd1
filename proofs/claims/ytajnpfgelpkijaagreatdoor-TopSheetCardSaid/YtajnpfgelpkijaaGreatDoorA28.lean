/- A bundle of this claim's own texts: T12. -/
import Derived.Test.YtajnpfgelpkijaaGreatDoorA5
import Derived.Test.YtajnpfgelpkijaaGreatDoorA25
set_option linter.unusedVariables false
set_option linter.unusedSimpArgs false
set_option maxRecDepth 100000
set_option maxHeartbeats 4000000
namespace Go.Proofs.YtajnpfgelpkijaaGreatDoor
open Go Go.Av Go.Sp

theorem Fg : Cal Tryz.prog 141 := Cal.of Tryz.func141 (by kernel_rfl) (by kernel_rfl)
theorem Kh : Cal Tryz.prog 103 := Cal.of Tryz.func103 (by kernel_rfl) (by kernel_rfl)
theorem Dz {k : Int} (h : AU k) : 1 ≤ (partsOf k).1 ∧ (k = 15 ∨ k = 16 → (partsOf k).1 = 2) := by
 have : k = 14 ∨ k = 15 ∨ k = 16 ∨ k = 17 ∨ k = 18 := by unfold AU at h; omega
 rcases this with h | h | h | h | h <;> subst h <;> exact ⟨by decide, by decide⟩
theorem keeps (G : List (Nat × List D)) (a b : List Bool) (k : Int) (i s : Nat) (hk : AU k) (ha : i + 1 < a.length) (hb : i + 1 < b.length) (hl : a.length ≤ 60) (hs : k = 15 ∨ k = 16 → s < a.length) :
 ACr Tryz.prog G 141 [.agg [.d (Bv a), .d (Bv b)], .int k, .int i, .int s] (.bool (a[i] == Hw k a[i + 1] (a[s]?.getD false) b[i] b[i + 1])) := by
 refine AK (ts := [8]) Tryz.f141.ntmps Tryz.func141 rfl rfl rfl (by simp [Tryz.ntmps141]) fun W I => ?_
 by_cases h1 : k = 15 ∨ k = 16
 · have hs' := hs h1
   repeat' (first
    | exact True.intro | refine AM ?_ | refine two ?_ ?_
    | (refine imp fun hc => ?_) <;> try exact cx hc
    | refine all fun v_ => ?_)
   all_goals
    refine AO (VS.drop (List.nil_sublist _)) ?_
    ((with_reducible apply rq1); rfl; rfl)
    refine AD (congrArg AV.bool ?_)
    rw [List.getElem?_eq_getElem hs']
    unfold Hw
    rw [if_neg (by omega), if_neg (by omega), if_neg (by omega)]
    first
     | ((rw [if_pos (by omega)] <;> simp_all); done)
     | ((rw [if_neg (by omega)] <;> simp_all); done)
 · unfold AU at hk
   repeat' (first
    | exact True.intro | refine AM ?_ | refine two ?_ ?_
    | (refine imp fun hc => ?_) <;> try exact cx hc
    | refine all fun v_ => ?_)
   all_goals
    refine AO (VS.drop (List.nil_sublist _)) ?_
    ((with_reducible apply rq1); rfl; rfl)
    refine AD (congrArg AV.bool ?_)
    unfold Hw
    first
     | ((rw [if_pos (by omega)] <;> simp_all); done)
     | ((rw [if_neg (by omega), if_pos (by omega)] <;> simp_all); done)
     | ((rw [if_neg (by omega), if_neg (by omega), if_pos (by omega)] <;> simp_all); done)
set_option maxHeartbeats 1000000 in
theorem bW (l : List Fo) (x : List Bool) (c : Int) (y : List Bool) (d : Int) : ACr Tryz.prog GP 103 [.d (AN l), .d (Bv x), .int c, .d (Bv y), .int d] (.tup [.bool (Dq l x c y d).1, .int (Dq l x c y d).2]) := by
 have hX := PO l x c
 have hY := PO l y d
 have hE := Ends l
 generalize hx : BL l x c = p at hX
 obtain ⟨a, e⟩ := p
 generalize hy : BL l y d = q at hY
 obtain ⟨b, e'⟩ := q
 generalize he : Az l = q at hE
 obtain ⟨es, e2⟩ := q
 dsimp only at hX hY hE
 have hke := True.intro
 refine AK (ts := [10, 11]) Tryz.f103.ntmps Tryz.func103 rfl rfl rfl (by simp [Tryz.ntmps103]) fun W I => ?_
 refine EC (t := 0) rfl fun hl0 => ?_
 refine EC (t := 1) rfl fun hl1 => ?_
 refine EC (t := 3) rfl fun hl3 => ?_
 repeat' (first
  | refine ca A3 (hX) ?_
  | refine ca A3 (hY) ?_
  | refine ca An (hE) ?_
  | refine caq BO (ahead _ _) ?_
  | refine caq Fg (hke) ?_
  | exact True.intro | refine AM ?_ | refine two ?_ ?_
  | (refine imp fun hc => ?_) <;> try exact cx hc
  | refine all fun v_ => ?_)
 all_goals try (
  refine CY ?_
  ((with_reducible apply rq2); rfl; rfl; rfl)
  refine AD ?_
  unfold Dq
  rw [hx, hy]
  first
   | (rw [if_pos (by omega)])
   | (rw [if_neg (by omega), if_pos (by assumption)])
   | (rw [if_neg (by omega), if_neg (by assumption), if_pos (by assumption)]))
 have h1 : e = 0 := by omega
 have h2 : e' = 0 := by omega
 subst h1 h2
 have hs : Dq l x c y d = (decide (kept l (tAt l x c) (tAt l y d)), 0) := by
  unfold Dq
  rw [hx, hy, if_neg (by omega)]; rfl
 obtain ⟨g, ta⟩ := HX hx
 obtain ⟨_, tb⟩ := HX hy
 have h60 := g.h60
 have hal := ta.len
 have hbl := tb.len
 have he2 : e2 = 0 := by have := g.ends; rw [he] at this; exact this
 subst he2
 obtain ⟨_, _, _, hlen, hes⟩ := Cb he
 refine AL (X := Nat) (fun i => [(12, .d (Bv a)), (14, .d (Bv b)), (15, .d (AP es)), (49, .d (AN l)), (50, .int l.length), (51, .int i)]) (fun _ => []) (fun i => i ≤ l.length ∧ ∀ q, q < i → IM l (tAt l x c) (tAt l y d) q) (fun i => l.length - i) 0 ⟨Nat.zero_le _, fun q hq => by omega⟩ (VS.of_le ?_) ?_
 · exact leD
 rintro i ⟨k1, k2⟩
 by_cases hi : i < l.length
 · have hki := BN l i hi
   by_cases hah : AU l[i].kind
   · obtain ⟨pa, pb⟩ := Dz hah
     obtain ⟨q1, q2, q3, q4, q5⟩ := E0 hi (g.well i hi) pa
     have he1 : es[i + 1] = (second l i : Int) := by rw [hes (i + 1) (by omega), ← q4]
     have hsec : l[i].kind = 15 ∨ l[i].kind = 16 → second l i < a.length := fun h => by have := (Fx hi (g.well i hi) (pb h)).1; omega
     have hke := keeps GP a b l[i].kind i (second l i) hah (by omega) (by omega) (by omega) hsec
     rw [← he1] at hke
     have hd : decide (AU l[i].kind) = true := decide_eq_true hah
     generalize hbb : (a[i] == Hw l[i].kind a[i + 1] (a[second l i]?.getD false) b[i] b[i + 1]) = bb at hke
     have hka : IM l (tAt l x c) (tAt l y d) i ↔ bb = true := by
      rw [← hbb, beq_iff_eq]
      unfold IM
      rw [hki, ta.get, ta.get, tb.get, tb.get]
      rw [KY (tAt l x c (i + 1)) (a[second l i]?.getD false) (tAt l x c (second l i)) (tAt l y d i) (tAt l y d (i + 1)) hah fun h => by rw [List.getElem?_eq_getElem (hsec h)]; exact ta.get _ _]
      exact ⟨fun h => h hah, fun h _ => h⟩
     cases bb with
     | true =>
       repeat' (first
        | refine ca A3 (hX) ?_
        | refine ca A3 (hY) ?_
        | refine ca An (hE) ?_
        | refine caq BO (ahead _ _) ?_
        | refine caq Fg (hke) ?_
        | exact True.intro | refine AM ?_ | refine two ?_ ?_
        | (refine imp fun hc => ?_) <;> try exact cx hc
        | refine all fun v_ => ?_)
       refine ⟨i + 1, ⟨by omega, fun q hq => ?_⟩, by omega, vle (List.nil_sublist _) ?_⟩
       · by_cases hqi : q < i
         · exact k2 q hqi
         · obtain rfl : q = i := by omega
           exact hka.2 rfl
       · exact leD
     | false =>
       repeat' (first
        | refine ca A3 (hX) ?_
        | refine ca A3 (hY) ?_
        | refine ca An (hE) ?_
        | refine caq BO (ahead _ _) ?_
        | refine caq Fg (hke) ?_
        | exact True.intro | refine AM ?_ | refine two ?_ ?_
        | (refine imp fun hc => ?_) <;> try exact cx hc
        | refine all fun v_ => ?_)
       refine AO (VS.drop (List.nil_sublist _)) ?_
       ((with_reducible apply rq2); rfl; rfl; rfl)
       refine AD ?_
       rw [hs, decide_eq_false (fun h => by have := hka.1 (h i hi); cases this)]
   · repeat' (first
      | refine ca A3 (hX) ?_
      | refine ca A3 (hY) ?_
      | refine ca An (hE) ?_
      | refine caq BO (ahead _ _) ?_
      | refine caq Fg (hke) ?_
      | exact True.intro | refine AM ?_ | refine two ?_ ?_
      | (refine imp fun hc => ?_) <;> try exact cx hc
      | refine all fun v_ => ?_)
     refine ⟨i + 1, ⟨by omega, fun q hq => ?_⟩, by omega, vle (List.nil_sublist _) ?_⟩
     · by_cases hqi : q < i
       · exact k2 q hqi
       · obtain rfl : q = i := by omega
         intro h
         rw [hki] at h
         exact absurd h hah
     · exact leD
 · repeat' (first
    | refine ca A3 (hX) ?_
    | refine ca A3 (hY) ?_
    | refine ca An (hE) ?_
    | refine caq BO (ahead _ _) ?_
    | refine caq Fg (hke) ?_
    | exact True.intro | refine AM ?_ | refine two ?_ ?_
    | (refine imp fun hc => ?_) <;> try exact cx hc
    | refine all fun v_ => ?_)
   refine AO (VS.drop (List.nil_sublist _)) ?_
   ((with_reducible apply rq2); rfl; rfl; rfl)
   refine AD ?_
   have hkk : kept l (tAt l x c) (tAt l y d) := fun q hq => k2 q (by omega)
   rw [hs, decide_eq_true hkk]
end Go.Proofs.YtajnpfgelpkijaaGreatDoor
