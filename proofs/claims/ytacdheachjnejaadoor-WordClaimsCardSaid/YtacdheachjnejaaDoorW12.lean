/- Contracts: sameLetters; word.Claims, foretellref.ClaimsOf. -/
import Derived.Test.YtacdheachjnejaaDoorW11
namespace Go.Proofs.YtacdheachjnejaaDoor
open Go Go.Av Go.Sp
set_option linter.unusedVariables false
set_option linter.unusedSimpArgs false
set_option maxRecDepth 100000
set_option maxHeartbeats 4000000

theorem cal_Claims : Cal Tryd.prog 25 := Cal.of Tryd.func25 (by kernel_rfl) (by kernel_rfl)
theorem cal_ClaimsOf : Cal Tryd.prog 26 := Cal.of Tryd.func26 (by kernel_rfl) (by kernel_rfl)
/-- Are they the same? -/
theorem sameLetters (G : List (Nat × List D)) (a b : List (List Bool)) : ACr Tryd.prog G 22 [.d (lettD a), .d (lettD b)] (.bool (decide (a = b))) := by
  refine AC_of (ts := [4]) 27 Tryd.func22 rfl rfl rfl (by simp) fun W I => ?_
  refine jfact (t := 0) rfl fun hl0 => ?_
  refine jfact (t := 1) rfl fun hl1 => ?_
  repeat' (first
    | ((with_reducible apply qcall); (focus rfl); (focus exact cal_sameTruths); (focus exact sameTruths _ _ _); (focus rfl))
    | exact True.intro
    | refine stp ?_
    | refine two ?_ ?_
    | (refine imp fun hc => ?_) <;> try (first | contradiction | (exfalso; omega))
    | refine all fun v_ => ?_)
  · ((with_reducible apply rq1); rfl; rfl)
    refine ret_eq ?_
    rw [decide_eq_false]
    intro e; subst e; omega
  refine J_loop (X := Nat) (fun i => [(0, .d (lettD a)), (1, .d (lettD b)), (5, .int i)]) (fun _ => []) (fun i => i ≤ a.length ∧ a.take i = b.take i) (fun i => a.length - i) 0 ⟨Nat.zero_le _, rfl⟩ ?_ rfl ?_
  · repeat (first
      | exact Env.le_nil _
      | refine Env.le_cons (AV.le_refl _) ?_
      | refine Env.le_cons (AV.le_int rfl (by first | rfl | omega | (dsimp only; omega))) ?_)
  rintro i ⟨h1, h2⟩
  repeat' (first
    | ((with_reducible apply qcall); (focus rfl); (focus exact cal_sameTruths); (focus exact sameTruths _ _ _); (focus rfl))
    | exact True.intro
    | refine stp ?_
    | refine two ?_ ?_
    | (refine imp fun hc => ?_) <;> try (first | contradiction | (exfalso; omega))
    | refine all fun v_ => ?_)
  all_goals first
    | (((with_reducible apply rq1); rfl; rfl)
       refine ret_eq ?_
       rw [decide_eq_false]
       intro e; subst e
       exact hc rfl)
    | (refine ⟨i + 1, ⟨by omega, take_step (by omega) (by omega) h2 ?_⟩, by first | omega | (dsimp only; omega), ?_, rfl⟩
       · exact hc
       · repeat (first
           | exact Env.le_nil _
           | refine Env.le_cons (AV.le_refl _) ?_
           | refine Env.le_cons (AV.le_int rfl (by first | rfl | omega | (dsimp only; omega))) ?_))
    | (((with_reducible apply rq1); rfl; rfl)
       refine ret_eq ?_
       rw [decide_eq_true]
       rwa [List.take_of_length_le (by omega), List.take_of_length_le (by omega)] at h2)
/-- P6.5. -/
noncomputable def claimsF (l : List Fo) (w : Wd) (p : Int) : List Int × Int := if formF l p ≠ 0 then ([], formF l p) else if wordF w p ≠ 0 then ([], wordF w p) else ((List.range (wal w).length).map fun i => claimAt l (wAt l (wal w) w.stem.length) i l.length, 0)
theorem ClaimsOf (G : List (Nat × List D)) (l : List Fo) (w : Wd) (p : Int) : ACr Tryd.prog G 26 [.d (opsD l), wdA w, .int p] (.tup [.d (intsD (claimsF l w p).1), .int (claimsF l w p).2]) := by
  have E := formulaAndWord G l w p
  refine AC_ofV (ts := [6, 7]) Tryd.f26.ntmps Tryd.func26 rfl rfl rfl (by simp [Tryd.ntmps26]) fun W I => ?_
  by_cases h1 : ¬ formF l p = 0
  · rw [if_pos h1] at E
    repeat' (first
      | ((with_reducible apply call0); (focus rfl); (focus exact cal_formulaAndWord); (focus exact E); (focus rfl))
      | ((with_reducible apply je_call0); (focus rfl); (focus (decide +kernel)); (focus rfl); (focus exact cal_formulaAndWord); (focus exact E); (focus rfl))
      | exact True.intro
      | refine stph ?_
      | refine two ?_ ?_
      | refine allc fun c_ => ?_
      | (refine imp fun hc => ?_) <;> try (first | contradiction | (exfalso; omega) | (exfalso; exact absurd (of_dT hc) (by assumption)) | (exfalso; exact of_dF hc (by assumption)))
      | refine all fun v_ => ?_)
    refine retv (VS.trans (VS.drop (List.nil_sublist _)) (vnil (t := 6) 1 8 rfl)) ?_
    ((with_reducible apply rq2); rfl; rfl; rfl)
    refine ret_eq ?_
    rw [claimsF, if_pos h1]; rfl
  replace h1 := Decidable.not_not.1 h1
  rw [if_neg (fun h => h h1)] at E
  by_cases h2 : ¬ wordF w p = 0
  · 
    repeat' (first
      | ((with_reducible apply call0); (focus rfl); (focus exact cal_formulaAndWord); (focus exact E); (focus rfl))
      | ((with_reducible apply je_call0); (focus rfl); (focus (decide +kernel)); (focus rfl); (focus exact cal_formulaAndWord); (focus exact E); (focus rfl))
      | exact True.intro
      | refine stph ?_
      | refine two ?_ ?_
      | refine allc fun c_ => ?_
      | (refine imp fun hc => ?_) <;> try (first | contradiction | (exfalso; omega) | (exfalso; exact absurd (of_dT hc) (by assumption)) | (exfalso; exact of_dF hc (by assumption)))
      | refine all fun v_ => ?_)
    refine retv (VS.trans (VS.drop (List.nil_sublist _)) (vnil (t := 6) 1 8 rfl)) ?_
    ((with_reducible apply rq2); rfl; rfl; rfl)
    refine ret_eq ?_
    rw [claimsF, if_neg (fun h => h h1), if_pos h2]; rfl
  replace h2 := Decidable.not_not.1 h2
  rw [h2] at E
  have g := good_of h1
  have h60 := g.h60
  have hpos := g.pos
  have hc : claimsF l w p = ((List.range (wal w).length).map fun i => claimAt l (wAt l (wal w) w.stem.length) i l.length, 0) := by rw [claimsF, if_neg (fun h => h h1), if_neg (fun h => h h2)]
  have hw := wordF_ok h2
  have hN : (wal w).length = w.stem.length + w.loop.length := List.length_append
  rw [hc]
  have F := rowsOf G l w p g h2
  have hr0 : (wRows l (wal w) w.stem.length).length = l.length := by simp
  have hr1 : ∀ (i : Nat) (h : i < (wRows l (wal w) w.stem.length).length), (wRows l (wal w) w.stem.length)[i].length = (wal w).length := fun i h => by simp [wRow]
  have hr2 : ∀ (i j : Nat) (h : i < (wRows l (wal w) w.stem.length).length) (h' : j < (wRows l (wal w) w.stem.length)[i].length), (wRows l (wal w) w.stem.length)[i][j] = wAt l (wal w) w.stem.length i j := fun i j h h' => by simp [wRow]
  generalize wRows l (wal w) w.stem.length = rs at F hr0 hr1 hr2
  repeat' (first
    | ((with_reducible apply call0); (focus rfl); (focus exact cal_formulaAndWord); (focus exact E); (focus rfl))
    | ((with_reducible apply je_call0); (focus rfl); (focus (decide +kernel)); (focus rfl); (focus exact cal_formulaAndWord); (focus exact E); (focus rfl))
    | ((with_reducible apply call0); (focus rfl); (focus exact cal_rowsOf); (focus exact F); (focus rfl))
    | ((with_reducible apply je_call0); (focus rfl); (focus (decide +kernel)); (focus rfl); (focus exact cal_rowsOf); (focus exact F); (focus rfl))
    | exact True.intro
    | refine stph ?_
    | refine two ?_ ?_
    | refine allc fun c_ => ?_
    | (refine imp fun hc => ?_) <;> try (first | contradiction | (exfalso; omega) | (exfalso; exact absurd (of_dT hc) (by assumption)) | (exfalso; exact of_dF hc (by assumption)))
    | refine all fun v_ => ?_)
  refine J_loopV (X := Nat × Sl) (fun y => [(0, .d (opsD l)), (9, .d (lettD rs)), (10, .val y.2.v), (11, .int y.1)]) (fun y => [rowE y.2.v 3 1 intC ((List.range y.1).map fun i => claimAt l (wAt l (wal w) w.stem.length) i l.length)]) (fun y => y.1 ≤ (wal w).length) (fun y => (wal w).length - y.1) (0, Sl.nil) (Nat.zero_le _) (VS.trans (VS.nilrow 3 1) (VS.take (by ((repeat (first | exact Take.nil | ((with_reducible apply Take.cons); (focus ((repeat (first | exact Sel.here | with_reducible apply Sel.there)); done))))); done)) ?_)) ?_
  · repeat (first
      | exact Env.le_nil _
      | refine Env.le_cons (AV.le_refl _) ?_
      | refine Env.le_cons (AV.le_int rfl (by first | rfl | omega | (dsimp only; omega))) ?_)
  rintro ⟨i, q⟩ hi
  dsimp only at hi ⊢
  have hz : (rs[nat_lit 0]'(show 0 < rs.length by omega)).length = (wal w).length := hr1 0 (by omega)
  have hlj : ((List.range i).map fun i => claimAt l (wAt l (wal w) w.stem.length) i l.length).length = i := by simp
  by_cases hil : i < (wal w).length
  · repeat' (first
      | ((with_reducible apply call0); (focus rfl); (focus exact cal_looksAhead); (focus exact looksAhead _ _); (focus rfl))
      | ((with_reducible apply je_call0); (focus rfl); (focus (decide +kernel)); (focus rfl); (focus exact cal_looksAhead); (focus exact looksAhead _ _); (focus rfl))
      | exact True.intro
      | refine stph ?_
      | refine two ?_ ?_
      | refine allc fun c_ => ?_
      | (refine imp fun hc => ?_) <;> try (first | contradiction | (exfalso; omega) | (exfalso; exact absurd (of_dT hc) (by assumption)) | (exfalso; exact of_dF hc (by assumption)))
      | refine all fun v_ => ?_)
    refine J_loopV (X := Nat) (fun a => [(0, .d (opsD l)), (9, .d (lettD rs)), (10, .val q.v), (11, .int i), (12, .int (claimAt l (wAt l (wal w) w.stem.length) i a)), (13, .int (2 ^ rank l a)), (14, .int a)]) (fun _ => [rowE q.v 3 1 intC ((List.range i).map fun i => claimAt l (wAt l (wal w) w.stem.length) i l.length)]) (fun a => a ≤ l.length) (fun a => l.length - a) 0 (Nat.zero_le _) (VS.of_le ?_) ?_
    · repeat (first
        | exact Env.le_nil _
        | refine Env.le_cons (AV.le_refl _) ?_
        | refine Env.le_cons (AV.le_int rfl (by first | rfl | omega | (dsimp only; omega))) ?_)
    intro a ha
    have hb := claimAt_bound l (wAt l (wal w) w.stem.length) i a
    have hp6 := pow6 (show rank l a ≤ 6 by have := rank_le (l := l) (i := a) ha; have := g.ah; omega)
    by_cases hal : a < l.length
    · have hra := hr1 a (by omega)
      have hrv := hr2 a i (by omega) (by omega)
      have hrk := rank_succ l a hal
      have hcl : claimAt l (wAt l (wal w) w.stem.length) i (a + 1) = claimAt l (wAt l (wal w) w.stem.length) i a + if aheadP l[a].kind ∧ wAt l (wal w) w.stem.length a i = true then 2 ^ rank l a else 0 := by rw [claimAt, kindAt_eq l a hal]
      by_cases hk : aheadP l[a].kind
      · rw [if_pos hk] at hrk
        have hpw : (2 : Int) ^ rank l (a + 1) = 2 ^ rank l a * 2 := by rw [hrk, Int.pow_succ]
        repeat' (first
          | ((with_reducible apply call0); (focus rfl); (focus exact cal_looksAhead); (focus exact looksAhead _ _); (focus rfl))
          | ((with_reducible apply je_call0); (focus rfl); (focus (decide +kernel)); (focus rfl); (focus exact cal_looksAhead); (focus exact looksAhead _ _); (focus rfl))
          | exact True.intro
          | refine stph ?_
          | refine two ?_ ?_
          | refine allc fun c_ => ?_
          | (refine imp fun hc => ?_) <;> try (first | contradiction | (exfalso; omega) | (exfalso; exact absurd (of_dT hc) (by assumption)) | (exfalso; exact of_dF hc (by assumption)))
          | refine all fun v_ => ?_)
        · rw [if_pos ⟨hk, by rw [← hrv]; assumption⟩] at hcl
          refine ⟨a + 1, by omega, by omega, VS.of_le ?_⟩
          repeat (first
            | exact Env.le_nil _
            | refine Env.le_cons (AV.le_refl _) ?_
            | refine Env.le_cons (AV.le_int rfl (by first | rfl | omega | (dsimp only; omega))) ?_)
        · rw [if_neg (fun h => by rw [← hrv] at h; simp_all)] at hcl
          refine ⟨a + 1, by omega, by omega, VS.of_le ?_⟩
          repeat (first
            | exact Env.le_nil _
            | refine Env.le_cons (AV.le_refl _) ?_
            | refine Env.le_cons (AV.le_int rfl (by first | rfl | omega | (dsimp only; omega))) ?_)
      · rw [if_neg hk, Nat.add_zero] at hrk
        rw [if_neg (fun h => hk h.1)] at hcl
        have hpw : (2 : Int) ^ rank l (a + 1) = 2 ^ rank l a := by rw [hrk]; simp
        repeat' (first
          | ((with_reducible apply call0); (focus rfl); (focus exact cal_looksAhead); (focus exact looksAhead _ _); (focus rfl))
          | ((with_reducible apply je_call0); (focus rfl); (focus (decide +kernel)); (focus rfl); (focus exact cal_looksAhead); (focus exact looksAhead _ _); (focus rfl))
          | exact True.intro
          | refine stph ?_
          | refine two ?_ ?_
          | refine allc fun c_ => ?_
          | (refine imp fun hc => ?_) <;> try (first | contradiction | (exfalso; omega) | (exfalso; exact absurd (of_dT hc) (by assumption)) | (exfalso; exact of_dF hc (by assumption)))
          | refine all fun v_ => ?_)
        refine ⟨a + 1, by omega, by omega, VS.of_le ?_⟩
        repeat (first
          | exact Env.le_nil _
          | refine Env.le_cons (AV.le_refl _) ?_
          | refine Env.le_cons (AV.le_int rfl (by first | rfl | omega | (dsimp only; omega))) ?_)
    · obtain rfl : a = l.length := by omega
      have hsn : ((List.range i).map fun i => claimAt l (wAt l (wal w) w.stem.length) i l.length) ++ [claimAt l (wAt l (wal w) w.stem.length) i l.length] = (List.range (i + 1)).map fun i => claimAt l (wAt l (wal w) w.stem.length) i l.length := by simp [List.range_succ]
      repeat' (first
        | ((with_reducible apply call0); (focus rfl); (focus exact cal_looksAhead); (focus exact looksAhead _ _); (focus rfl))
        | ((with_reducible apply je_call0); (focus rfl); (focus (decide +kernel)); (focus rfl); (focus exact cal_looksAhead); (focus exact looksAhead _ _); (focus rfl))
        | exact True.intro
        | refine stph ?_
        | refine two ?_ ?_
        | refine allc fun c_ => ?_
        | (refine imp fun hc => ?_) <;> try (first | contradiction | (exfalso; omega) | (exfalso; exact absurd (of_dT hc) (by assumption)) | (exfalso; exact of_dF hc (by assumption)))
        | refine all fun v_ => ?_)
      rw [hsn]
      refine ⟨(i + 1, v_), by dsimp only; omega, by dsimp only; omega, VS.of_le ?_⟩
      repeat (first
        | exact Env.le_nil _
        | refine Env.le_cons (AV.le_refl _) ?_
        | refine Env.le_cons (AV.le_int rfl (by first | rfl | omega | (dsimp only; omega))) ?_)
  · obtain rfl : i = (wal w).length := by omega
    repeat' (first
      | ((with_reducible apply call0); (focus rfl); (focus exact cal_looksAhead); (focus exact looksAhead _ _); (focus rfl))
      | ((with_reducible apply je_call0); (focus rfl); (focus (decide +kernel)); (focus rfl); (focus exact cal_looksAhead); (focus exact looksAhead _ _); (focus rfl))
      | exact True.intro
      | refine stph ?_
      | refine two ?_ ?_
      | refine allc fun c_ => ?_
      | (refine imp fun hc => ?_) <;> try (first | contradiction | (exfalso; omega) | (exfalso; exact absurd (of_dT hc) (by assumption)) | (exfalso; exact of_dF hc (by assumption)))
      | refine all fun v_ => ?_)
    refine retv (vfreeze (t := 6) (eb := 8) rfl rfl (fun x => rfl) (by rw [hlj]; omega)) ?_
    ((with_reducible apply rq2); rfl; rfl; rfl)
    exact ret_eq rfl
end Go.Proofs.YtacdheachjnejaaDoor
