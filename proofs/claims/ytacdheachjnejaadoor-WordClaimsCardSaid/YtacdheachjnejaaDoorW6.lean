/- Contracts: word.table: behind, settle, the four closures of fill. -/
import Derived.Test.YtacdheachjnejaaDoorW5
import Derived.Test.YtacdheachjnejaaDoorG8
import Derived.Test.YtacdheachjnejaaDoorT10
namespace Go.Proofs.YtacdheachjnejaaDoor
open Go Go.Av Go.Sp
set_option linter.unusedVariables false
set_option linter.unusedSimpArgs false
set_option maxRecDepth 100000
set_option maxHeartbeats 4000000

theorem cal_behind : Cal Tryd.prog 103 := Cal.of Tryd.func103 (by kernel_rfl) (by kernel_rfl)
theorem cal_settle : Cal Tryd.prog 98 := Cal.of Tryd.func98 (by kernel_rfl) (by kernel_rfl)
theorem cal_fill : Cal Tryd.prog 82 := Cal.of Tryd.func82 (by kernel_rfl) (by kernel_rfl)
theorem cal_fillF : Cal Tryd.prog 99 := Cal.of Tryd.func99 (by kernel_rfl) (by kernel_rfl)
theorem cal_fillG : Cal Tryd.prog 100 := Cal.of Tryd.func100 (by kernel_rfl) (by kernel_rfl)
theorem cal_fillU : Cal Tryd.prog 101 := Cal.of Tryd.func101 (by kernel_rfl) (by kernel_rfl)
theorem cal_fillR : Cal Tryd.prog 102 := Cal.of Tryd.func102 (by kernel_rfl) (by kernel_rfl)
theorem cal_wopen : Cal Tryd.prog 50 := Cal.of Tryd.func50 (by kernel_rfl) (by kernel_rfl)
theorem behind (G : List (Nat × List D)) (l : List Fo) (es : List Int) (al : List (List Bool)) (s : Nat) (bt br i : Nat) (hN : al.length ≤ 24) (hi : i ≤ 1000) : AC Tryd.prog G 103 [.val (.pointer (some ⟨bt, 0, none⟩)), .int i] [.cells bt 76 [.d (opsD l), .d (intsD es), .d (lettD al), .int s, .val (.slice (some ⟨br, 0, none⟩) l.length l.length)]] fun r h => ∃ v : Unit, r = .ret (.int (wnx s al.length i : Nat)) ∧ h = [.cells bt 76 [.d (opsD l), .d (intsD es), .d (lettD al), .int s, .val (.slice (some ⟨br, 0, none⟩) l.length l.length)]] := by
  refine AC_ofV (ts := [4]) Tryd.f103.ntmps Tryd.func103 rfl rfl rfl (by simp [Tryd.ntmps103]) fun W I => ?_
  by_cases c : i + 1 < al.length
  · repeat' (first
      | exact True.intro
      | refine stph ?_
      | refine two ?_ ?_
      | refine allc fun c_ => ?_
      | (refine imp fun hc => ?_) <;> try (first | contradiction | (exfalso; omega) | (exfalso; exact absurd (of_dT hc) (by assumption)) | (exfalso; exact of_dF hc (by assumption)))
      | refine all fun v_ => ?_)
    refine retv0 ?_
    ((with_reducible apply rq1); rfl; rfl)
    exact ⟨(), by rw [wnx, if_pos c]; rfl, rfl⟩
  · repeat' (first
      | exact True.intro
      | refine stph ?_
      | refine two ?_ ?_
      | refine allc fun c_ => ?_
      | (refine imp fun hc => ?_) <;> try (first | contradiction | (exfalso; omega) | (exfalso; exact absurd (of_dT hc) (by assumption)) | (exfalso; exact of_dF hc (by assumption)))
      | refine all fun v_ => ?_)
    refine retv0 ?_
    ((with_reducible apply rq1); rfl; rfl)
    exact ⟨(), by rw [wnx, if_neg c], rfl⟩
theorem fillF (G : List (Nat × List D)) (A : List Bool) (y : AV) (ba bb i : Nat) (x : Bool) (hA : i < A.length) : AC Tryd.prog G 99 [.int i, .bool x, .val (.pointer (some ⟨ba, 0, none⟩))] [.cells ba 35 [.d (boolsD A)], .cells bb 35 [y]] fun r h => ∃ v : Unit, r = .ret (.bool (A[i] || x)) ∧ h = [.cells ba 35 [.d (boolsD A)], .cells bb 35 [y]] := by
  refine AC_ofV (ts := [5]) Tryd.f99.ntmps Tryd.func99 rfl rfl rfl (by simp [Tryd.ntmps99]) fun W I => ?_
  generalize hAi : A[i] = p
  cases p <;> cases x
  all_goals
    repeat' (first
      | exact True.intro
      | refine stph ?_
      | refine two ?_ ?_
      | refine allc fun c_ => ?_
      | (refine imp fun hc => ?_) <;> try (first | contradiction | (exfalso; omega) | (exfalso; exact absurd (of_dT hc) (by assumption)) | (exfalso; exact of_dF hc (by assumption)))
      | refine all fun v_ => ?_)
    all_goals
      refine retv0 ?_
      ((with_reducible apply rq1); rfl; rfl)
      exact ⟨(), by simp_all, rfl⟩
theorem fillG (G : List (Nat × List D)) (A : List Bool) (y : AV) (ba bb i : Nat) (x : Bool) (hA : i < A.length) : AC Tryd.prog G 100 [.int i, .bool x, .val (.pointer (some ⟨ba, 0, none⟩))] [.cells ba 35 [.d (boolsD A)], .cells bb 35 [y]] fun r h => ∃ v : Unit, r = .ret (.bool (A[i] && x)) ∧ h = [.cells ba 35 [.d (boolsD A)], .cells bb 35 [y]] := by
  refine AC_ofV (ts := [5]) Tryd.f100.ntmps Tryd.func100 rfl rfl rfl (by simp [Tryd.ntmps100]) fun W I => ?_
  generalize hAi : A[i] = p
  cases p <;> cases x
  all_goals
    repeat' (first
      | exact True.intro
      | refine stph ?_
      | refine two ?_ ?_
      | refine allc fun c_ => ?_
      | (refine imp fun hc => ?_) <;> try (first | contradiction | (exfalso; omega) | (exfalso; exact absurd (of_dT hc) (by assumption)) | (exfalso; exact of_dF hc (by assumption)))
      | refine all fun v_ => ?_)
    all_goals
      refine retv0 ?_
      ((with_reducible apply rq1); rfl; rfl)
      exact ⟨(), by simp_all, rfl⟩
theorem fillU (G : List (Nat × List D)) (A B : List Bool) (ba bb i : Nat) (x : Bool) (hA : i < A.length) (hB : i < B.length) : AC Tryd.prog G 101 [.int i, .bool x, .val (.pointer (some ⟨bb, 0, none⟩)), .val (.pointer (some ⟨ba, 0, none⟩))] [.cells ba 35 [.d (boolsD A)], .cells bb 35 [.d (boolsD B)]] fun r h => ∃ v : Unit, r = .ret (.bool (B[i] || (A[i] && x))) ∧ h = [.cells ba 35 [.d (boolsD A)], .cells bb 35 [.d (boolsD B)]] := by
  refine AC_ofV (ts := [6]) Tryd.f101.ntmps Tryd.func101 rfl rfl rfl (by simp [Tryd.ntmps101]) fun W I => ?_
  generalize hAi : A[i] = p
  generalize hBi : B[i] = q
  cases p <;> cases q <;> cases x
  all_goals
    repeat' (first
      | exact True.intro
      | refine stph ?_
      | refine two ?_ ?_
      | refine allc fun c_ => ?_
      | (refine imp fun hc => ?_) <;> try (first | contradiction | (exfalso; omega) | (exfalso; exact absurd (of_dT hc) (by assumption)) | (exfalso; exact of_dF hc (by assumption)))
      | refine all fun v_ => ?_)
    all_goals
      refine retv0 ?_
      ((with_reducible apply rq1); rfl; rfl)
      exact ⟨(), by simp_all, rfl⟩
theorem fillR (G : List (Nat × List D)) (A B : List Bool) (ba bb i : Nat) (x : Bool) (hA : i < A.length) (hB : i < B.length) : AC Tryd.prog G 102 [.int i, .bool x, .val (.pointer (some ⟨bb, 0, none⟩)), .val (.pointer (some ⟨ba, 0, none⟩))] [.cells ba 35 [.d (boolsD A)], .cells bb 35 [.d (boolsD B)]] fun r h => ∃ v : Unit, r = .ret (.bool (B[i] && (A[i] || x))) ∧ h = [.cells ba 35 [.d (boolsD A)], .cells bb 35 [.d (boolsD B)]] := by
  refine AC_ofV (ts := [6]) Tryd.f102.ntmps Tryd.func102 rfl rfl rfl (by simp [Tryd.ntmps102]) fun W I => ?_
  generalize hAi : A[i] = p
  generalize hBi : B[i] = q
  cases p <;> cases q <;> cases x
  all_goals
    repeat' (first
      | exact True.intro
      | refine stph ?_
      | refine two ?_ ?_
      | refine allc fun c_ => ?_
      | (refine imp fun hc => ?_) <;> try (first | contradiction | (exfalso; omega) | (exfalso; exact absurd (of_dT hc) (by assumption)) | (exfalso; exact of_dF hc (by assumption)))
      | refine all fun v_ => ?_)
    all_goals
      refine retv0 ?_
      ((with_reducible apply rq1); rfl; rfl)
      exact ⟨(), by simp_all, rfl⟩
end Go.Proofs.YtacdheachjnejaaDoor
