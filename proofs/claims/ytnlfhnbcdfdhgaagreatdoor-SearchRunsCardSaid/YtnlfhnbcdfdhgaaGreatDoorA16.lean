/- Own texts. -/
import Derived.Test.YtnlfhnbcdfdhgaaGreatDoorA12
set_option linter.unusedVariables false
set_option linter.unusedSimpArgs false
set_option maxRecDepth 100000
set_option maxHeartbeats 4000000
namespace Go.Proofs.YtnlfhnbcdfdhgaaGreatDoor
open Go Go.Av Go.Sp
theorem bP (G : List (Nat × List D)) (env : List Int) (henv : ∀ v ∈ env, AU v) (h6 : env.length ≤ 6) (m : Nat) (ih : ∀ m' : Nat, m' < m → ∀ l : List Fo, l.length ≤ m' → DC l env.length → ACr Tryz.prog G 162 [.d (AO l), .d (AJ env)] (.tup [.int (wk l env).1, .int (wk l env).2])) (l : List Fo) (hm : l.length ≤ m) (g : DC l env.length) (hsel : 8 ≤ (l[nat_lit 0]'g.pos).kind ∧ (l[nat_lit 0]'g.pos).kind ≤ 9) : ACr Tryz.prog G 162 [.d (AO l), .d (AJ env)] (.tup [.int (wk l env).1, .int (wk l env).2]) := by
 have hE := JP G l
 have hpos := g.pos
 have h60 := g.h60
 have W := Ha g
 have hfew : np l 0 ≤ 2 := (Bz _).2
 obtain ⟨k1, k2, k3, k4⟩ : 1 ≤ (l[nat_lit 0]'hpos).kind ∧ (l[nat_lit 0]'hpos).kind ≤ 12 ∧ ((l[nat_lit 0]'hpos).kind = 1 → -1000 ≤ (l[nat_lit 0]'hpos).val ∧ (l[nat_lit 0]'hpos).val ≤ 1000) ∧ ((l[nat_lit 0]'hpos).kind = 2 → 0 ≤ (l[nat_lit 0]'hpos).val ∧ (l[nat_lit 0]'hpos).val < env.length) := g.kind hpos
 have hk0 : Ag l 0 = (l[nat_lit 0]'hpos).kind := Aq l 0 hpos
 have hv0 : HM l 0 = (l[nat_lit 0]'hpos).val := Ex l 0 hpos
 generalize BY l = sp at hE W
 obtain ⟨ps, e⟩ := sp
 dsimp only at hE W
 have hmany := W.many
 refine AK (ts := [4, 5]) Tryz.f162.ntmps Tryz.func162 rfl rfl rfl (by simp [Tryz.ntmps162]) fun _ I => ?_
 repeat' (first | refine ca C2 (hE) ?_ | exact jA | refine AF ?_ | refine two ?_ ?_ | refine AB fun c_ => ?_ | refine imp fun hc => ?_; try exact cx1 hc | refine all fun v_ => ?_)
 refine AG (X := Nat × Sl) (fun y => [(0, .d (AO l)), (1, .d (AJ env)), (6, .d (Ar ps)), (8, .val y.2.v), (9, .int y.1)]) (fun y => [AL y.2.v 3 1 AS (List.replicate y.1 0)]) (fun y => y.1 ≤ ps.length) (fun y => ps.length - y.1) (0, Sl.nil) (Nat.zero_le _) (VS.trans (VS.nilrow 3 1) (VS.of_le ?_)) ?_
 · exact leD
 rintro ⟨i, q⟩ hi
 dsimp only at hi ⊢
 by_cases hil : i < ps.length
 · have hr : List.replicate i (0 : Int) ++ [0] = List.replicate (i + 1) 0 := List.replicate_succ'.symm
   repeat' (first | exact jA | refine AF ?_ | refine two ?_ ?_ | refine AB fun c_ => ?_ | refine imp fun hc => ?_; try exact cx1 hc | refine all fun v_ => ?_)
   rw [hr]
   refine ⟨(i + 1, v_), jC, jC, VS.of_le ?_⟩
   exact leD
 obtain rfl : i = ps.length := by omega
 repeat' (first | exact jA | refine AF ?_ | refine two ?_ ?_ | refine AB fun c_ => ?_ | refine imp fun hc => ?_; try exact cx1 hc | refine all fun v_ => ?_)
 refine AG (X := Nat × List Int) (fun y => [(0, .d (AO l)), (1, .d (AJ env)), (6, .d (Ar ps)), (8, .val q.v), (10, .int ((y.1 : Int) - 1))]) (fun y => [AL q.v 3 1 AS y.2]) (fun y => y.1 ≤ ps.length ∧ y.2.length = ps.length ∧ ∀ (j : Nat) (h : j < ps.length) (h' : j < y.2.length), y.1 ≤ j → Bs ps[j] env 0 = some y.2[j]) (fun y => y.1) (ps.length, List.replicate ps.length 0) ⟨Nat.le_refl _, by simp, fun j h _ h2 => by dsimp only at h2; omega⟩ (VS.of_le ?_) ?_
 · exact leD
 clear hi hil
 rintro ⟨i, v⟩ ⟨j1, j2, j3⟩
 dsimp only at j1 j2 j3 ⊢
 cases i with
 | succ i =>
   have hm1 : ((i + 1 : Nat) : Int) - 1 = (i : Int) := by omega
   have hip : i < ps.length := by omega
   obtain ⟨gi, li⟩ := W.good i hip
   have C := ih ps[i].length jB ps[i] (Nat.le_refl _) gi
   rw [hm1]
   cases hx : Bs ps[i] env 0 with
   | none =>
     rw [C5 hx] at C
     rw [C5 (W.no i hip hx)]
     repeat' (first | refine ca CQ (C) ?_ | exact jA | refine AF ?_ | refine two ?_ ?_ | refine AB fun c_ => ?_ | refine imp fun hc => ?_; try exact cx1 hc | refine all fun v_ => ?_)
     refine AI jE ?_
     ((with_reducible apply rq2); rfl; rfl; rfl)
     refine AA ?_
     rfl
   | some n =>
     rw [Eu hx] at C
     repeat' (first | refine ca CQ (C) ?_ | exact jA | refine AF ?_ | refine two ?_ ?_ | refine AB fun c_ => ?_ | refine imp fun hc => ?_; try exact cx1 hc | refine all fun v_ => ?_)
     refine ⟨(i, v.set i n), ⟨by dsimp only; omega, by dsimp only; rw [List.length_set]; exact j2, fun j h h' h2 => ?_⟩, jC, VS.of_le ?_⟩
     · dsimp only at h' h2 ⊢
       rw [List.getElem_set]
       split
       · rename_i e; subst e; exact hx
       · exact j3 j h (by simpa using h') jB
     · exact leD
 | zero =>
 have hy := W.yes v j2 fun j h h' => j3 j h h' (Nat.zero_le _)
 rw [hk0, hv0] at hy
 have hwk : ∀ N, opV (l[nat_lit 0]'hpos).kind (l[nat_lit 0]'hpos).val env ((v[0]?).getD 0) ((v[1]?).getD 0) = N → wk l env = if AU N then (N, 0) else (0, 8) := fun N h => by
  rw [h] at hy
  by_cases hl : AU N
  · rw [Fs hl] at hy; rw [Eu hy, if_pos hl]
  · rw [HF hl] at hy; rw [C5 hy, if_neg hl]
 have hcell : ∀ (j : Nat) (h' : j < v.length), AU v[j] := fun j h' => Jq (W.good j jB).1.pos (j3 j jB h' (Nat.zero_le _))
 have e1 := A7 (In G 1 (-1000000) 1000000) (by decide)
 have e0 := A7 (In G 0 (-1000000) 1000000) (by decide)
 have hnp : np l 0 = (partsOf (l[nat_lit 0]'hpos).kind).1 := by rw [np, hk0]
 rw [hnp] at hmany
 have hp2 : (partsOf (l[nat_lit 0]'hpos).kind).1 = 2 := by
  have : (l[nat_lit 0]'hpos).kind = 3 ∨ (l[nat_lit 0]'hpos).kind = 4 ∨ (l[nat_lit 0]'hpos).kind = 5 ∨ (l[nat_lit 0]'hpos).kind = 6 ∨ (l[nat_lit 0]'hpos).kind = 7 ∨ (l[nat_lit 0]'hpos).kind = 8 ∨ (l[nat_lit 0]'hpos).kind = 9 := by omega
  rcases this with h | h | h | h | h | h | h <;> (rw [h]; decide)
 rw [hp2] at hmany
 match v, (show v.length = 2 by omega) with
 | [a, b], _ =>
 have la : AU a := hcell 0 (by simp)
 have lb : AU b := hcell 1 (by simp)
 have hmul := Es la lb
 have hadd : Ao (a + b) := by unfold AU at la lb; unfold Ao; omega
 have hsub : Ao (a - b) := by unfold AU at la lb; unfold Ao; omega
 by_cases c8 : (l[nat_lit 0]'hpos).kind = 8
 · rw [c8] at hwk
   by_cases h1 : a = 1
   · by_cases h2 : b = 1
     · repeat' (first | refine ca AN (e1) ?_ | refine ca AN (e0) ?_ | exact jA | refine AF ?_ | refine two ?_ ?_ | refine AB fun c_ => ?_ | refine imp fun hc => ?_; try exact cx1 hc | refine all fun v_ => ?_)
       all_goals first
        | (exfalso; exact absurd (by assumption) (show ¬ (a = 1) from h1))
        | (exfalso; exact (by assumption : ¬ (a = 1)) h1)
        | (exfalso; exact absurd (by assumption) (show ¬ (b = 1) from h2))
        | (exfalso; exact (by assumption : ¬ (b = 1)) h2)
        | (refine AI jE ?_
           ((with_reducible apply rq2); rfl; rfl; rfl)
           refine AA ?_
           rw [hwk 1 (show (if a = 1 ∧ b = 1 then (1:Int) else 0) = 1 from if_pos ⟨h1, h2⟩), if_pos (by decide)] <;> rfl)
     · repeat' (first | refine ca AN (e1) ?_ | refine ca AN (e0) ?_ | exact jA | refine AF ?_ | refine two ?_ ?_ | refine AB fun c_ => ?_ | refine imp fun hc => ?_; try exact cx1 hc | refine all fun v_ => ?_)
       all_goals first
        | (exfalso; exact absurd (by assumption) (show ¬ (a = 1) from h1))
        | (exfalso; exact (by assumption : ¬ (a = 1)) h1)
        | (exfalso; exact absurd (by assumption) (show ¬ (b = 1) from h2))
        | (exfalso; exact (by assumption : ¬ (b = 1)) h2)
        | (refine AI jE ?_
           ((with_reducible apply rq2); rfl; rfl; rfl)
           refine AA ?_
           rw [hwk 0 (show (if a = 1 ∧ b = 1 then (1:Int) else 0) = 0 from if_neg (fun h => h2 h.2)), if_pos (by decide)] <;> rfl)
   · have h2 : True := trivial
     repeat' (first | refine ca AN (e1) ?_ | refine ca AN (e0) ?_ | exact jA | refine AF ?_ | refine two ?_ ?_ | refine AB fun c_ => ?_ | refine imp fun hc => ?_; try exact cx1 hc | refine all fun v_ => ?_)
     all_goals first
      | (exfalso; exact absurd (by assumption) (show ¬ (a = 1) from h1))
      | (exfalso; exact (by assumption : ¬ (a = 1)) h1)
      | (exfalso; exact absurd (by assumption) (show ¬ (False) from h2))
      | (exfalso; exact (by assumption : ¬ (False)) h2)
      | (refine AI jE ?_
         ((with_reducible apply rq2); rfl; rfl; rfl)
         refine AA ?_
         rw [hwk 0 (show (if a = 1 ∧ b = 1 then (1:Int) else 0) = 0 from if_neg (fun h => h1 h.1)), if_pos (by decide)] <;> rfl)
 have c9 : (l[nat_lit 0]'hpos).kind = 9 := by omega
 rw [c9] at hwk
 by_cases h1 : a = 1
 · have h2 : True := trivial
   repeat' (first | refine ca AN (e1) ?_ | refine ca AN (e0) ?_ | exact jA | refine AF ?_ | refine two ?_ ?_ | refine AB fun c_ => ?_ | refine imp fun hc => ?_; try exact cx1 hc | refine all fun v_ => ?_)
   all_goals first
    | (exfalso; exact absurd (by assumption) (show ¬ (a = 1) from h1))
    | (exfalso; exact (by assumption : ¬ (a = 1)) h1)
    | (exfalso; exact absurd (by assumption) (show ¬ (False) from h2))
    | (exfalso; exact (by assumption : ¬ (False)) h2)
    | (refine AI jE ?_
       ((with_reducible apply rq2); rfl; rfl; rfl)
       refine AA ?_
       rw [hwk 1 (show (if a = 1 ∨ b = 1 then (1:Int) else 0) = 1 from if_pos (.inl h1)), if_pos (by decide)] <;> rfl)
 · by_cases h2 : b = 1
   · repeat' (first | refine ca AN (e1) ?_ | refine ca AN (e0) ?_ | exact jA | refine AF ?_ | refine two ?_ ?_ | refine AB fun c_ => ?_ | refine imp fun hc => ?_; try exact cx1 hc | refine all fun v_ => ?_)
     all_goals first
      | (exfalso; exact absurd (by assumption) (show ¬ (a = 1) from h1))
      | (exfalso; exact (by assumption : ¬ (a = 1)) h1)
      | (exfalso; exact absurd (by assumption) (show ¬ (b = 1) from h2))
      | (exfalso; exact (by assumption : ¬ (b = 1)) h2)
      | (refine AI jE ?_
         ((with_reducible apply rq2); rfl; rfl; rfl)
         refine AA ?_
         rw [hwk 1 (show (if a = 1 ∨ b = 1 then (1:Int) else 0) = 1 from if_pos (.inr h2)), if_pos (by decide)] <;> rfl)
   · repeat' (first | refine ca AN (e1) ?_ | refine ca AN (e0) ?_ | exact jA | refine AF ?_ | refine two ?_ ?_ | refine AB fun c_ => ?_ | refine imp fun hc => ?_; try exact cx1 hc | refine all fun v_ => ?_)
     all_goals first
      | (exfalso; exact absurd (by assumption) (show ¬ (a = 1) from h1))
      | (exfalso; exact (by assumption : ¬ (a = 1)) h1)
      | (exfalso; exact absurd (by assumption) (show ¬ (b = 1) from h2))
      | (exfalso; exact (by assumption : ¬ (b = 1)) h2)
      | (refine AI jE ?_
         ((with_reducible apply rq2); rfl; rfl; rfl)
         refine AA ?_
         rw [hwk 0 (show (if a = 1 ∨ b = 1 then (1:Int) else 0) = 0 from if_neg (fun h => h.elim h1 h2)), if_pos (by decide)] <;> rfl)
end Go.Proofs.YtnlfhnbcdfdhgaaGreatDoor
