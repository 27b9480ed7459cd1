/- Contracts: foretellref.PartsOf, polish.Parts, foretellref.endOf. -/
import Derived.Test.YtmamiihpghnmmaaDoorEl
import Derived.Test.YtmamiihpghnmmaaDoorSt
import Derived.Test.YtmamiihpghnmmaaDoorE2
namespace Go.Proofs.YtmamiihpghnmmaaDoor
open Go Go.Av Go.Sp
set_option linter.unusedVariables false
set_option linter.unusedSimpArgs false
set_option maxRecDepth 100000
set_option maxHeartbeats 4000000

theorem cal_PartsOf : Cal Tryd.prog 122 := Cal.of Tryd.func122 (by kernel_rfl) (by kernel_rfl)
theorem cal_Parts : Cal Tryd.prog 120 := Cal.of Tryd.func120 (by kernel_rfl) (by kernel_rfl)
theorem cal_endOf : Cal Tryd.prog 93 := Cal.of Tryd.func93 (by kernel_rfl) (by kernel_rfl)

theorem PartsOf (G : List (Nat × List D)) (x : Int) : ACr Tryd.prog G 122 [.int x] (.tup [.int (partsOf x).1, .int (partsOf x).2]) := by
  refine AC_of (ts := [2, 3]) 26 Tryd.func122 rfl rfl rfl (by simp) fun W I => ?_
  repeat' (first
    | exact True.intro
    | refine stp ?_
    | refine two ?_ ?_
    | (refine imp fun hc => ?_) <;> try (first | contradiction | (exfalso; omega))
    | refine all fun v_ => ?_)
  all_goals ((with_reducible apply rq2); rfl; rfl; rfl)
  all_goals (refine ret_eq ?_; simp [partsOf, *])

theorem partsT_at (x : Int) (h1 : ¬ x < 1) (h2 : ¬ 18 < x) : partsT[x.toNat]? = some (.i .i64 (partsOf x).1) ∧ (partsOf x).2 = 0 := by
  have : x = 1 ∨ x = 2 ∨ x = 3 ∨ x = 4 ∨ x = 5 ∨ x = 6 ∨ x = 7 ∨ x = 8 ∨ x = 9 ∨ x = 10 ∨ x = 11 ∨ x = 12 ∨ x = 13 ∨ x = 14 ∨ x = 15 ∨ x = 16 ∨ x = 17 ∨ x = 18 := by omega
  rcases this with h | h | h | h | h | h | h | h | h | h | h | h | h | h | h | h | h | h <;> subst h <;> exact ⟨rfl, rfl⟩

theorem Parts (x : Int) : ACr Tryd.prog GP 120 [.int x] (.tup [.int (partsOf x).1, .int (partsOf x).2]) := by
  refine AC_of (ts := [2, 3]) 13 Tryd.func120 rfl rfl rfl (by simp) fun W I => ?_
  repeat' (first
    | exact True.intro
    | refine stp ?_
    | refine two ?_ ?_
    | (refine imp fun hc => ?_) <;> try (first | contradiction | (exfalso; omega))
    | refine all fun v_ => ?_)
  · ((with_reducible apply rq2); rfl; rfl; rfl)
    refine ret_eq ?_
    rw [partsOf_no x (by omega)]
  · ((with_reducible apply rq2); rfl; rfl; rfl)
    refine ret_eq ?_
    rw [partsOf_no x (by omega)]
  · obtain ⟨h1, h2⟩ := partsT_at x (by omega) (by omega)
    refine jp (pure_load_at (c := .i .i64 (partsOf x).1) rfl rfl (by rw [List.getElem?_drop, Nat.mul_one]; exact h1)) rfl ?_
    repeat' (first
      | exact True.intro
      | refine stp ?_
      | refine two ?_ ?_
      | (refine imp fun hc => ?_) <;> try (first | contradiction | (exfalso; omega))
      | refine all fun v_ => ?_)
    ((with_reducible apply rq2); rfl; rfl; rfl)
    refine ret_eq ?_
    rw [h2]; rfl

theorem endOf (l : List Fo) (a : Int) (G : List (Nat × List D)) (h0 : 0 ≤ a) (ha : a ≤ 140737488355328) : ACr Tryd.prog G 93 [.d (opsD l), .int a] (.tup [.int (Sp.endOf l a).1, .int (Sp.endOf l a).2]) := by
  refine AC_of (ts := [4, 5]) 37 Tryd.func93 rfl rfl rfl (by simp) fun W I => ?_
  refine jfact (t := 0) rfl fun hl => ?_
  repeat' (first
    | ((with_reducible apply call0); (focus rfl); (focus exact cal_PartsOf); (focus exact PartsOf _ _); (focus rfl))
    | ((with_reducible apply je_call0); (focus rfl); (focus (decide +kernel)); (focus rfl); (focus exact cal_PartsOf); (focus exact PartsOf _ _); (focus rfl))
    | exact True.intro
    | refine stp ?_
    | refine two ?_ ?_
    | (refine imp fun hc => ?_) <;> try (first | contradiction | (exfalso; omega))
    | refine all fun v_ => ?_)
  refine J_loop (X := Nat × Int) (fun p => [(0, .d (opsD l)), (6, .int p.2), (7, .int p.1)]) (fun _ => []) (fun p => a ≤ p.1 ∧ (p.1 ≤ l.length ∨ p.1 = a) ∧ 0 < p.2 ∧ p.2 ≤ 1 + (p.1 : Int) + (p.1 : Int) ∧ Sp.endOf l a = scan (l.drop p.1) p.2 p.1) (fun p => l.length - p.1) (a.toNat, 1) ?_ ?_ rfl ?_
  · refine ⟨by omega, by omega, by omega, by omega, ?_⟩
    simp only [Sp.endOf]; rw [Int.toNat_of_nonneg h0]
  · repeat (first
      | exact Env.le_nil _
      | refine Env.le_cons (AV.le_refl _) ?_
      | refine Env.le_cons (AV.le_int rfl (by first | rfl | omega | (dsimp only; omega))) ?_)
  rintro ⟨i, w⟩ ⟨h1, h2, h3, h4, h5⟩
  dsimp only at h1 h2 h3 h4 h5 ⊢
  by_cases hi : i < l.length
  · have hd : l.drop i = l[i] :: l.drop (i + 1) := List.drop_eq_getElem_cons hi
    have hp := partsOf_le l[i].kind
    rw [hd, scan_cons] at h5
    repeat' (first
      | ((with_reducible apply call0); (focus rfl); (focus exact cal_PartsOf); (focus exact PartsOf _ _); (focus rfl))
      | ((with_reducible apply je_call0); (focus rfl); (focus (decide +kernel)); (focus rfl); (focus exact cal_PartsOf); (focus exact PartsOf _ _); (focus rfl))
      | exact True.intro
      | refine stp ?_
      | refine two ?_ ?_
      | (refine imp fun hc => ?_) <;> try (first | contradiction | (exfalso; omega))
      | refine all fun v_ => ?_)
    · ((with_reducible apply rq2); rfl; rfl; rfl)
      refine ret_eq ?_
      rw [h5, if_pos hc]
    · ((with_reducible apply rq2); rfl; rfl; rfl)
      refine ret_eq ?_
      rw [h5, if_neg (by assumption), if_pos hc]
    · refine ⟨(i + 1, w + (partsOf l[i].kind).1 - 1), ⟨by omega, by omega, by dsimp only; omega, by dsimp only; omega, ?_⟩, by dsimp only; omega, ?_, rfl⟩
      · rw [h5, if_neg (by assumption), if_neg hc]; rfl
      · repeat (first
          | exact Env.le_nil _
          | refine Env.le_cons (AV.le_refl _) ?_
          | refine Env.le_cons (AV.le_int rfl (by first | rfl | omega | (dsimp only; omega))) ?_)
  · repeat' (first
      | ((with_reducible apply call0); (focus rfl); (focus exact cal_PartsOf); (focus exact PartsOf _ _); (focus rfl))
      | ((with_reducible apply je_call0); (focus rfl); (focus (decide +kernel)); (focus rfl); (focus exact cal_PartsOf); (focus exact PartsOf _ _); (focus rfl))
      | exact True.intro
      | refine stp ?_
      | refine two ?_ ?_
      | (refine imp fun hc => ?_) <;> try (first | contradiction | (exfalso; omega))
      | refine all fun v_ => ?_)
    ((with_reducible apply rq2); rfl; rfl; rfl)
    refine ret_eq ?_
    rw [h5, List.drop_eq_nil_of_le (by omega)]; rfl
end Go.Proofs.YtmamiihpghnmmaaDoor
