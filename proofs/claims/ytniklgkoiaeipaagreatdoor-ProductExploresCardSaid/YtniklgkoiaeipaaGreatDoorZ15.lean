/- A bundle of this claim's own texts: Y7. -/
import Derived.Test.YtniklgkoiaeipaaGreatDoorZ12
namespace Go.Proofs.YtniklgkoiaeipaaGreatDoor
open Go Go.Av Go.Sp
set_option linter.unusedVariables false
set_option linter.unusedSimpArgs false
set_option maxRecDepth 100000
set_option maxHeartbeats 4000000
theorem armXY7_1 {p q : Prop} (hp : p) (h : p → q := by
 apply cmp; (focus (first
  | ((with_reducible apply call0); (focus rfl); (focus exact cal_SplitOf); (focus exact hE); (focus rfl))
  | ((with_reducible apply je_call0); (focus rfl); (focus (decide +kernel)); (focus rfl); (focus exact cal_SplitOf); (focus exact hE); (focus rfl))
  ))
 exact fun h => h) : q := h hp
theorem armXY7_2 {p q : Prop} (hp : p) (h : p → q := by
 apply cmp; (focus (first
  | ((with_reducible apply call0); (focus rfl); (focus exact cal_worked); (focus exact C); (focus rfl))
  | ((with_reducible apply je_call0); (focus rfl); (focus (decide +kernel)); (focus rfl); (focus exact cal_worked); (focus exact C); (focus rfl))
  ))
 exact fun h => h) : q := h hp
theorem armXY7_3 {p q : Prop} (hp : p) (h : p → q := by
 apply cmp; (focus (first
  | ((with_reducible apply call0); (focus rfl); (focus exact cal_In); (focus exact e1); (focus rfl))
  | ((with_reducible apply je_call0); (focus rfl); (focus (decide +kernel)); (focus rfl); (focus exact cal_In); (focus exact e1); (focus rfl))
  | ((with_reducible apply call0); (focus rfl); (focus exact cal_In); (focus exact e0); (focus rfl))
  | ((with_reducible apply je_call0); (focus rfl); (focus (decide +kernel)); (focus rfl); (focus exact cal_In); (focus exact e0); (focus rfl))
  ))
 exact fun h => h) : q := h hp
theorem workedCm (G : List (Nat × List D)) (env : List Int) (henv : ∀ v ∈ env, limP v) (h6 : env.length ≤ 6) (m : Nat) (ih : ∀ m' : Nat, m' < m → ∀ l : List Fo, l.length ≤ m' → GoodE l env.length → ACr Tryz.prog G 147 [.d (opsD l), .d (intsD env)] (.tup [.int (wk l env).1, .int (wk l env).2])) (l : List Fo) (hm : l.length ≤ m) (g : GoodE l env.length) (hsel : 6 ≤ (l[nat_lit 0]'g.pos).kind ∧ (l[nat_lit 0]'g.pos).kind ≤ 7) : ACr Tryz.prog G 147 [.d (opsD l), .d (intsD env)] (.tup [.int (wk l env).1, .int (wk l env).2]) := by
 have hE := SplitOf G l
 have hpos := g.pos
 have h60 := g.h60
 have W := worked_of g
 have hfew : np l 0 ≤ 2 := (partsOf_le _).2
 obtain ⟨k1, k2, k3, k4⟩ : 1 ≤ (l[nat_lit 0]'hpos).kind ∧ (l[nat_lit 0]'hpos).kind ≤ 12 ∧ ((l[nat_lit 0]'hpos).kind = 1 → -1000 ≤ (l[nat_lit 0]'hpos).val ∧ (l[nat_lit 0]'hpos).val ≤ 1000) ∧ ((l[nat_lit 0]'hpos).kind = 2 → 0 ≤ (l[nat_lit 0]'hpos).val ∧ (l[nat_lit 0]'hpos).val < env.length) := g.kind hpos
 have hk0 : kindAt l 0 = (l[nat_lit 0]'hpos).kind := kindAt_eq l 0 hpos
 have hv0 : valAt l 0 = (l[nat_lit 0]'hpos).val := valAt_eq l 0 hpos
 generalize splitOf l = sp at hE W
 obtain ⟨ps, e⟩ := sp
 dsimp only at hE W
 have hmany := W.many
 refine AC_ofV (ts := [4, 5]) Tryz.f147.ntmps Tryz.func147 rfl rfl rfl (by simp [Tryz.ntmps147]) fun _ I => ?_
 all_goals haveI fA_ : FlagA := ⟨⟩
 all_goals haveI fH_ : FlagH := ⟨⟩
 repeat' (first
  | refine armXY7_1 ?_
  | exact True.intro
  | refine stp ?_
  | refine two ?_ ?_
  | refine allc fun c_ => ?_
  | (refine imp fun hc => ?_) <;> try exact cx1 hc
  | refine all fun v_ => ?_)
 all_goals clear fA_ fH_
 refine J_loopV (X := Nat × Sl) (fun y => [(0, .d (opsD l)), (1, .d (intsD env)), (6, .d (termsD ps)), (8, .val y.2.v), (9, .int y.1)]) (fun y => [rowE y.2.v 3 1 intC (List.replicate y.1 0)]) (fun y => y.1 ≤ ps.length) (fun y => ps.length - y.1) (0, Sl.nil) (Nat.zero_le _) (VS.trans (VS.nilrow 3 1) (VS.of_le ?_)) ?_
 · exact leD
 rintro ⟨i, q⟩ hi
 dsimp only at hi ⊢
 by_cases hil : i < ps.length
 · have hr : List.replicate i (0 : Int) ++ [0] = List.replicate (i + 1) 0 := List.replicate_succ'.symm
   all_goals haveI fA_ : FlagA := ⟨⟩
   all_goals haveI fH_ : FlagH := ⟨⟩
   repeat' (first
    | exact True.intro
    | refine stp ?_
    | refine two ?_ ?_
    | refine allc fun c_ => ?_
    | (refine imp fun hc => ?_) <;> try exact cx1 hc
    | refine all fun v_ => ?_)
   all_goals clear fA_ fH_
   rw [hr]
   refine ⟨(i + 1, v_), by dsimp only; omega, by dsimp only; omega, VS.of_le ?_⟩
   exact leD
 obtain rfl : i = ps.length := by omega
 all_goals haveI fA_ : FlagA := ⟨⟩
 all_goals haveI fH_ : FlagH := ⟨⟩
 repeat' (first
  | exact True.intro
  | refine stp ?_
  | refine two ?_ ?_
  | refine allc fun c_ => ?_
  | (refine imp fun hc => ?_) <;> try exact cx1 hc
  | refine all fun v_ => ?_)
 all_goals clear fA_ fH_
 refine J_loopV (X := Nat × List Int) (fun y => [(0, .d (opsD l)), (1, .d (intsD env)), (6, .d (termsD ps)), (8, .val q.v), (10, .int ((y.1 : Int) - 1))]) (fun y => [rowE q.v 3 1 intC y.2]) (fun y => y.1 ≤ ps.length ∧ y.2.length = ps.length ∧ ∀ (j : Nat) (h : j < ps.length) (h' : j < y.2.length), y.1 ≤ j → evAt ps[j] env 0 = some y.2[j]) (fun y => y.1) (ps.length, List.replicate ps.length 0) ⟨Nat.le_refl _, by simp, fun j h _ h2 => by dsimp only at h2; omega⟩ (VS.of_le ?_) ?_
 · exact leD
 clear hi hil
 rintro ⟨i, v⟩ ⟨j1, j2, j3⟩
 dsimp only at j1 j2 j3 ⊢
 cases i with
 | succ i =>
   have hm1 : ((i + 1 : Nat) : Int) - 1 = (i : Int) := by omega
   have hip : i < ps.length := by omega
   obtain ⟨gi, li⟩ := W.good i hip
   have C := ih ps[i].length (by omega) ps[i] (Nat.le_refl _) gi
   rw [hm1]
   cases hx : evAt ps[i] env 0 with
   | none =>
     rw [wk_none hx] at C
     rw [wk_none (W.no i hip hx)]
     all_goals haveI fA_ : FlagA := ⟨⟩
     all_goals haveI fH_ : FlagH := ⟨⟩
     repeat' (first
      | refine armXY7_2 ?_
      | exact True.intro
      | refine stp ?_
      | refine two ?_ ?_
      | refine allc fun c_ => ?_
      | (refine imp fun hc => ?_) <;> try exact cx1 hc
      | refine all fun v_ => ?_)
     all_goals clear fA_ fH_
     refine retv (VS.drop (List.nil_sublist _)) ?_
     ((with_reducible apply rq2); rfl; rfl; rfl)
     refine ret_eq ?_
     rfl
   | some n =>
     rw [wk_some hx] at C
     all_goals haveI fA_ : FlagA := ⟨⟩
     all_goals haveI fH_ : FlagH := ⟨⟩
     repeat' (first
      | refine armXY7_2 ?_
      | exact True.intro
      | refine stp ?_
      | refine two ?_ ?_
      | refine allc fun c_ => ?_
      | (refine imp fun hc => ?_) <;> try exact cx1 hc
      | refine all fun v_ => ?_)
     all_goals clear fA_ fH_
     refine ⟨(i, v.set i n), ⟨by dsimp only; omega, by dsimp only; rw [List.length_set]; exact j2, fun j h h' h2 => ?_⟩, by dsimp only; omega, VS.of_le ?_⟩
     · dsimp only at h' h2 ⊢
       rw [List.getElem_set]
       split
       · rename_i e; subst e; exact hx
       · exact j3 j h (by simpa using h') (by omega)
     · exact leD
 | zero =>
 have hy := W.yes v j2 fun j h h' => j3 j h h' (Nat.zero_le _)
 rw [hk0, hv0] at hy
 have hwk : ∀ N, opV (l[nat_lit 0]'hpos).kind (l[nat_lit 0]'hpos).val env ((v[0]?).getD 0) ((v[1]?).getD 0) = N → wk l env = if limP N then (N, 0) else (0, 8) := fun N h => by
  rw [h] at hy
  by_cases hl : limP N
  · rw [ovr_some hl] at hy; rw [wk_some hy, if_pos hl]
  · rw [ovr_none hl] at hy; rw [wk_none hy, if_neg hl]
 have hcell : ∀ (j : Nat) (h' : j < v.length), limP v[j] := fun j h' => ev_lim (W.good j (by omega)).1.pos (j3 j (by omega) h' (Nat.zero_le _))
 have e1 := ACr_true (In G 1 (-1000000) 1000000) (by decide)
 have e0 := ACr_true (In G 0 (-1000000) 1000000) (by decide)
 have hnp : np l 0 = (partsOf (l[nat_lit 0]'hpos).kind).1 := by rw [np, hk0]
 rw [hnp] at hmany
 have hp2 : (partsOf (l[nat_lit 0]'hpos).kind).1 = 2 := by
  have : (l[nat_lit 0]'hpos).kind = 3 ∨ (l[nat_lit 0]'hpos).kind = 4 ∨ (l[nat_lit 0]'hpos).kind = 5 ∨ (l[nat_lit 0]'hpos).kind = 6 ∨ (l[nat_lit 0]'hpos).kind = 7 ∨ (l[nat_lit 0]'hpos).kind = 8 ∨ (l[nat_lit 0]'hpos).kind = 9 := by omega
  rcases this with h | h | h | h | h | h | h <;> (rw [h]; decide)
 rw [hp2] at hmany
 match v, (show v.length = 2 by omega) with
 | [a, b], _ =>
 have la : limP a := hcell 0 (by simp)
 have lb : limP b := hcell 1 (by simp)
 have hmul := mul_lim la lb
 have hadd : inI64 (a + b) := by unfold limP at la lb; unfold inI64; omega
 have hsub : inI64 (a - b) := by unfold limP at la lb; unfold inI64; omega
 by_cases c6 : (l[nat_lit 0]'hpos).kind = 6
 · rw [c6] at hwk
   have h2 : True := trivial
   by_cases h1 : a = b
   · all_goals haveI fA_ : FlagA := ⟨⟩
     all_goals haveI fH_ : FlagH := ⟨⟩
     repeat' (first
      | refine armXY7_3 ?_
      | exact True.intro
      | refine stp ?_
      | refine two ?_ ?_
      | refine allc fun c_ => ?_
      | (refine imp fun hc => ?_) <;> try exact cx1 hc
      | refine all fun v_ => ?_)
     all_goals clear fA_ fH_
     all_goals first
      | (exfalso; exact absurd (by assumption) (show ¬ (a = b) from h1))
      | (exfalso; exact (by assumption : ¬ (a = b)) h1)
      | (exfalso; exact absurd (by assumption) (show ¬ (False) from h2))
      | (exfalso; exact (by assumption : ¬ (False)) h2)
      | (refine retv (VS.drop (List.nil_sublist _)) ?_
         ((with_reducible apply rq2); rfl; rfl; rfl)
         refine ret_eq ?_
         rw [hwk 1 (if_pos h1), if_pos (by decide)] <;> rfl)
   · all_goals haveI fA_ : FlagA := ⟨⟩
     all_goals haveI fH_ : FlagH := ⟨⟩
     repeat' (first
      | refine armXY7_3 ?_
      | exact True.intro
      | refine stp ?_
      | refine two ?_ ?_
      | refine allc fun c_ => ?_
      | (refine imp fun hc => ?_) <;> try exact cx1 hc
      | refine all fun v_ => ?_)
     all_goals clear fA_ fH_
     all_goals first
      | (exfalso; exact absurd (by assumption) (show ¬ (a = b) from h1))
      | (exfalso; exact (by assumption : ¬ (a = b)) h1)
      | (exfalso; exact absurd (by assumption) (show ¬ (False) from h2))
      | (exfalso; exact (by assumption : ¬ (False)) h2)
      | (refine retv (VS.drop (List.nil_sublist _)) ?_
         ((with_reducible apply rq2); rfl; rfl; rfl)
         refine ret_eq ?_
         rw [hwk 0 (if_neg h1), if_pos (by decide)] <;> rfl)
 by_cases c7 : (l[nat_lit 0]'hpos).kind = 7
 · rw [c7] at hwk
   have h2 : True := trivial
   by_cases h1 : a < b
   · all_goals haveI fA_ : FlagA := ⟨⟩
     all_goals haveI fH_ : FlagH := ⟨⟩
     repeat' (first
      | refine armXY7_3 ?_
      | exact True.intro
      | refine stp ?_
      | refine two ?_ ?_
      | refine allc fun c_ => ?_
      | (refine imp fun hc => ?_) <;> try exact cx1 hc
      | refine all fun v_ => ?_)
     all_goals clear fA_ fH_
     all_goals first
      | (exfalso; exact absurd (by assumption) (show ¬ (a < b) from h1))
      | (exfalso; exact (by assumption : ¬ (a < b)) h1)
      | (exfalso; exact absurd (by assumption) (show ¬ (False) from h2))
      | (exfalso; exact (by assumption : ¬ (False)) h2)
      | (refine retv (VS.drop (List.nil_sublist _)) ?_
         ((with_reducible apply rq2); rfl; rfl; rfl)
         refine ret_eq ?_
         rw [hwk 1 (if_pos h1), if_pos (by decide)] <;> rfl)
   · all_goals haveI fA_ : FlagA := ⟨⟩
     all_goals haveI fH_ : FlagH := ⟨⟩
     repeat' (first
      | refine armXY7_3 ?_
      | exact True.intro
      | refine stp ?_
      | refine two ?_ ?_
      | refine allc fun c_ => ?_
      | (refine imp fun hc => ?_) <;> try exact cx1 hc
      | refine all fun v_ => ?_)
     all_goals clear fA_ fH_
     all_goals first
      | (exfalso; exact absurd (by assumption) (show ¬ (a < b) from h1))
      | (exfalso; exact (by assumption : ¬ (a < b)) h1)
      | (exfalso; exact absurd (by assumption) (show ¬ (False) from h2))
      | (exfalso; exact (by assumption : ¬ (False)) h2)
      | (refine retv (VS.drop (List.nil_sublist _)) ?_
         ((with_reducible apply rq2); rfl; rfl; rfl)
         refine ret_eq ?_
         rw [hwk 0 (if_neg h1), if_pos (by decide)] <;> rfl)
 omega
end Go.Proofs.YtniklgkoiaeipaaGreatDoor
