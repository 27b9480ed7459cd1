/- A bundle of this claim's own texts: W6. -/
import Derived.Test.YtniklgkoiaeipaaGreatDoorD2
import Derived.Test.YtniklgkoiaeipaaGreatDoorD19
import Derived.Test.YtniklgkoiaeipaaGreatDoorD36
set_option linter.unusedVariables false
set_option linter.unusedSimpArgs false
set_option maxRecDepth 100000
set_option maxHeartbeats 4000000
namespace Go.Proofs.YtniklgkoiaeipaaGreatDoor
open Go Go.Av Go.Sp

theorem cal_behind : Cal Tryz.prog 208 := Cal.of Tryz.func208 (by kernel_rfl) (by kernel_rfl)
theorem cal_settle : Cal Tryz.prog 203 := Cal.of Tryz.func203 (by kernel_rfl) (by kernel_rfl)
theorem cal_fill : Cal Tryz.prog 174 := Cal.of Tryz.func174 (by kernel_rfl) (by kernel_rfl)
theorem cal_fillF : Cal Tryz.prog 204 := Cal.of Tryz.func204 (by kernel_rfl) (by kernel_rfl)
theorem cal_fillG : Cal Tryz.prog 205 := Cal.of Tryz.func205 (by kernel_rfl) (by kernel_rfl)
theorem cal_fillU : Cal Tryz.prog 206 := Cal.of Tryz.func206 (by kernel_rfl) (by kernel_rfl)
theorem cal_fillR : Cal Tryz.prog 207 := Cal.of Tryz.func207 (by kernel_rfl) (by kernel_rfl)
theorem cal_wopen : Cal Tryz.prog 126 := Cal.of Tryz.func126 (by kernel_rfl) (by kernel_rfl)
theorem behind (G : List (Nat × List D)) (l : List Fo) (es : List Int) (al : List (List Bool)) (s : Nat) (bt br i : Nat) (hN : al.length ≤ 24) (hi : i ≤ 1000) : AC Tryz.prog G 208 [.val (.pointer (some ⟨bt, 0, none⟩)), .int i] [.cells bt 177 [.d (opsD l), .d (intsD es), .d (lettD al), .int s, .val (.slice (some ⟨br, 0, none⟩) l.length l.length)]] fun r h => ∃ v : Unit, r = .ret (.int (wnx s al.length i : Nat)) ∧ h = [.cells bt 177 [.d (opsD l), .d (intsD es), .d (lettD al), .int s, .val (.slice (some ⟨br, 0, none⟩) l.length l.length)]] := by
 refine AC_ofV (ts := [4]) Tryz.f208.ntmps Tryz.func208 rfl rfl rfl (by simp [Tryz.ntmps208]) fun W I => ?_
 by_cases c : i + 1 < al.length
 · repeat' (first
    | exact True.intro | refine stpH ?_ | refine two ?_ ?_ | refine allc fun c_ => ?_
    | (refine imp fun hc => ?_) <;> try exact cx1 hc
    | refine all fun v_ => ?_)
   refine retv0 ?_
   ((with_reducible apply rq1); rfl; rfl)
   exact ⟨(), by rw [wnx, if_pos c]; rfl, rfl⟩
 · repeat' (first
    | exact True.intro | refine stpH ?_ | refine two ?_ ?_ | refine allc fun c_ => ?_
    | (refine imp fun hc => ?_) <;> try exact cx1 hc
    | refine all fun v_ => ?_)
   refine retv0 ?_
   ((with_reducible apply rq1); rfl; rfl)
   exact ⟨(), by rw [wnx, if_neg c], rfl⟩
theorem fillF (G : List (Nat × List D)) (A : List Bool) (y : AV) (ba bb i : Nat) (x : Bool) (hA : i < A.length) : AC Tryz.prog G 204 [.int i, .bool x, .val (.pointer (some ⟨ba, 0, none⟩))] [.cells ba 72 [.d (boolsD A)], .cells bb 72 [y]] fun r h => ∃ v : Unit, r = .ret (.bool (A[i] || x)) ∧ h = [.cells ba 72 [.d (boolsD A)], .cells bb 72 [y]] := by
 refine AC_ofV (ts := [5]) Tryz.f204.ntmps Tryz.func204 rfl rfl rfl (by simp [Tryz.ntmps204]) fun W I => ?_
 generalize hAi : A[i] = p
 cases p <;> cases x
 all_goals
  repeat' (first
   | exact True.intro | refine stpH ?_ | refine two ?_ ?_ | refine allc fun c_ => ?_
   | (refine imp fun hc => ?_) <;> try exact cx1 hc
   | refine all fun v_ => ?_)
  all_goals
   refine retv0 ?_
   ((with_reducible apply rq1); rfl; rfl)
   exact ⟨(), by simp_all, rfl⟩
theorem fillG (G : List (Nat × List D)) (A : List Bool) (y : AV) (ba bb i : Nat) (x : Bool) (hA : i < A.length) : AC Tryz.prog G 205 [.int i, .bool x, .val (.pointer (some ⟨ba, 0, none⟩))] [.cells ba 72 [.d (boolsD A)], .cells bb 72 [y]] fun r h => ∃ v : Unit, r = .ret (.bool (A[i] && x)) ∧ h = [.cells ba 72 [.d (boolsD A)], .cells bb 72 [y]] := by
 refine AC_ofV (ts := [5]) Tryz.f205.ntmps Tryz.func205 rfl rfl rfl (by simp [Tryz.ntmps205]) fun W I => ?_
 generalize hAi : A[i] = p
 cases p <;> cases x
 all_goals
  repeat' (first
   | exact True.intro | refine stpH ?_ | refine two ?_ ?_ | refine allc fun c_ => ?_
   | (refine imp fun hc => ?_) <;> try exact cx1 hc
   | refine all fun v_ => ?_)
  all_goals
   refine retv0 ?_
   ((with_reducible apply rq1); rfl; rfl)
   exact ⟨(), by simp_all, rfl⟩
theorem fillU (G : List (Nat × List D)) (A B : List Bool) (ba bb i : Nat) (x : Bool) (hA : i < A.length) (hB : i < B.length) : AC Tryz.prog G 206 [.int i, .bool x, .val (.pointer (some ⟨bb, 0, none⟩)), .val (.pointer (some ⟨ba, 0, none⟩))] [.cells ba 72 [.d (boolsD A)], .cells bb 72 [.d (boolsD B)]] fun r h => ∃ v : Unit, r = .ret (.bool (B[i] || (A[i] && x))) ∧ h = [.cells ba 72 [.d (boolsD A)], .cells bb 72 [.d (boolsD B)]] := by
 refine AC_ofV (ts := [6]) Tryz.f206.ntmps Tryz.func206 rfl rfl rfl (by simp [Tryz.ntmps206]) fun W I => ?_
 generalize hAi : A[i] = p
 generalize hBi : B[i] = q
 cases p <;> cases q <;> cases x
 all_goals
  repeat' (first
   | exact True.intro | refine stpH ?_ | refine two ?_ ?_ | refine allc fun c_ => ?_
   | (refine imp fun hc => ?_) <;> try exact cx1 hc
   | refine all fun v_ => ?_)
  all_goals
   refine retv0 ?_
   ((with_reducible apply rq1); rfl; rfl)
   exact ⟨(), by simp_all, rfl⟩
theorem fillR (G : List (Nat × List D)) (A B : List Bool) (ba bb i : Nat) (x : Bool) (hA : i < A.length) (hB : i < B.length) : AC Tryz.prog G 207 [.int i, .bool x, .val (.pointer (some ⟨bb, 0, none⟩)), .val (.pointer (some ⟨ba, 0, none⟩))] [.cells ba 72 [.d (boolsD A)], .cells bb 72 [.d (boolsD B)]] fun r h => ∃ v : Unit, r = .ret (.bool (B[i] && (A[i] || x))) ∧ h = [.cells ba 72 [.d (boolsD A)], .cells bb 72 [.d (boolsD B)]] := by
 refine AC_ofV (ts := [6]) Tryz.f207.ntmps Tryz.func207 rfl rfl rfl (by simp [Tryz.ntmps207]) fun W I => ?_
 generalize hAi : A[i] = p
 generalize hBi : B[i] = q
 cases p <;> cases q <;> cases x
 all_goals
  repeat' (first
   | exact True.intro | refine stpH ?_ | refine two ?_ ?_ | refine allc fun c_ => ?_
   | (refine imp fun hc => ?_) <;> try exact cx1 hc
   | refine all fun v_ => ?_)
  all_goals
   refine retv0 ?_
   ((with_reducible apply rq1); rfl; rfl)
   exact ⟨(), by simp_all, rfl⟩
end Go.Proofs.YtniklgkoiaeipaaGreatDoor
