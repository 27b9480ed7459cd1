/- A bundle of this claim's own texts: W6. -/
import Derived.Test.YtcikppldaepodaaGreatDoorZ19
import Derived.Test.YtcikppldaepodaaGreatDoorZ20
import Derived.Test.YtcikppldaepodaaGreatDoorZ28
namespace Go.Proofs.YtcikppldaepodaaGreatDoor
open Go Go.Av Go.Sp
set_option linter.unusedVariables false
set_option linter.unusedSimpArgs false
set_option maxRecDepth 100000
set_option maxHeartbeats 4000000

theorem cal_behind : Cal Tryz.prog 252 := Cal.of Tryz.func252 (by kernel_rfl) (by kernel_rfl)
theorem cal_settle : Cal Tryz.prog 247 := Cal.of Tryz.func247 (by kernel_rfl) (by kernel_rfl)
theorem cal_fill : Cal Tryz.prog 200 := Cal.of Tryz.func200 (by kernel_rfl) (by kernel_rfl)
theorem cal_fillF : Cal Tryz.prog 248 := Cal.of Tryz.func248 (by kernel_rfl) (by kernel_rfl)
theorem cal_fillG : Cal Tryz.prog 249 := Cal.of Tryz.func249 (by kernel_rfl) (by kernel_rfl)
theorem cal_fillU : Cal Tryz.prog 250 := Cal.of Tryz.func250 (by kernel_rfl) (by kernel_rfl)
theorem cal_fillR : Cal Tryz.prog 251 := Cal.of Tryz.func251 (by kernel_rfl) (by kernel_rfl)
theorem cal_wopen : Cal Tryz.prog 146 := Cal.of Tryz.func146 (by kernel_rfl) (by kernel_rfl)
theorem behind (G : List (Nat × List D)) (l : List Fo) (es : List Int) (al : List (List Bool)) (s : Nat) (bt br i : Nat) (hN : al.length ≤ 24) (hi : i ≤ 1000) : AC Tryz.prog G 252 [.val (.pointer (some ⟨bt, 0, none⟩)), .int i] [.cells bt 205 [.d (opsD l), .d (intsD es), .d (lettD al), .int s, .val (.slice (some ⟨br, 0, none⟩) l.length l.length)]] fun r h => ∃ v : Unit, r = .ret (.int (wnx s al.length i : Nat)) ∧ h = [.cells bt 205 [.d (opsD l), .d (intsD es), .d (lettD al), .int s, .val (.slice (some ⟨br, 0, none⟩) l.length l.length)]] := by
  refine AC_ofV (ts := [4]) Tryz.f252.ntmps Tryz.func252 rfl rfl rfl (by simp [Tryz.ntmps252]) fun W I => ?_
  by_cases c : i + 1 < al.length
  · all_goals haveI fA_ : FlagA := ⟨⟩
    all_goals haveI fH_ : FlagH := ⟨⟩
    repeat' (first
      | exact True.intro
      | refine stp ?_
      | refine two ?_ ?_
      | refine allc fun c_ => ?_
      | (refine imp fun hc => ?_) <;> try (first | contradiction | (exfalso; omega) | (exfalso; exact absurd (of_dT hc) (by assumption)) | (exfalso; exact of_dF hc (by assumption)))
      | refine all fun v_ => ?_)
    all_goals clear fA_ fH_
    refine retv0 ?_
    ((with_reducible apply rq1); rfl; rfl)
    exact ⟨(), by rw [wnx, if_pos c]; rfl, rfl⟩
  · all_goals haveI fA_ : FlagA := ⟨⟩
    all_goals haveI fH_ : FlagH := ⟨⟩
    repeat' (first
      | exact True.intro
      | refine stp ?_
      | refine two ?_ ?_
      | refine allc fun c_ => ?_
      | (refine imp fun hc => ?_) <;> try (first | contradiction | (exfalso; omega) | (exfalso; exact absurd (of_dT hc) (by assumption)) | (exfalso; exact of_dF hc (by assumption)))
      | refine all fun v_ => ?_)
    all_goals clear fA_ fH_
    refine retv0 ?_
    ((with_reducible apply rq1); rfl; rfl)
    exact ⟨(), by rw [wnx, if_neg c], rfl⟩
theorem fillF (G : List (Nat × List D)) (A : List Bool) (y : AV) (ba bb i : Nat) (x : Bool) (hA : i < A.length) : AC Tryz.prog G 248 [.int i, .bool x, .val (.pointer (some ⟨ba, 0, none⟩))] [.cells ba 73 [.d (boolsD A)], .cells bb 73 [y]] fun r h => ∃ v : Unit, r = .ret (.bool (A[i] || x)) ∧ h = [.cells ba 73 [.d (boolsD A)], .cells bb 73 [y]] := by
  refine AC_ofV (ts := [5]) Tryz.f248.ntmps Tryz.func248 rfl rfl rfl (by simp [Tryz.ntmps248]) fun W I => ?_
  generalize hAi : A[i] = p
  cases p <;> cases x
  all_goals
    all_goals haveI fA_ : FlagA := ⟨⟩
    all_goals haveI fH_ : FlagH := ⟨⟩
    repeat' (first
      | exact True.intro
      | refine stp ?_
      | refine two ?_ ?_
      | refine allc fun c_ => ?_
      | (refine imp fun hc => ?_) <;> try (first | contradiction | (exfalso; omega) | (exfalso; exact absurd (of_dT hc) (by assumption)) | (exfalso; exact of_dF hc (by assumption)))
      | refine all fun v_ => ?_)
    all_goals clear fA_ fH_
    all_goals
      refine retv0 ?_
      ((with_reducible apply rq1); rfl; rfl)
      exact ⟨(), by simp_all, rfl⟩
theorem fillG (G : List (Nat × List D)) (A : List Bool) (y : AV) (ba bb i : Nat) (x : Bool) (hA : i < A.length) : AC Tryz.prog G 249 [.int i, .bool x, .val (.pointer (some ⟨ba, 0, none⟩))] [.cells ba 73 [.d (boolsD A)], .cells bb 73 [y]] fun r h => ∃ v : Unit, r = .ret (.bool (A[i] && x)) ∧ h = [.cells ba 73 [.d (boolsD A)], .cells bb 73 [y]] := by
  refine AC_ofV (ts := [5]) Tryz.f249.ntmps Tryz.func249 rfl rfl rfl (by simp [Tryz.ntmps249]) fun W I => ?_
  generalize hAi : A[i] = p
  cases p <;> cases x
  all_goals
    all_goals haveI fA_ : FlagA := ⟨⟩
    all_goals haveI fH_ : FlagH := ⟨⟩
    repeat' (first
      | exact True.intro
      | refine stp ?_
      | refine two ?_ ?_
      | refine allc fun c_ => ?_
      | (refine imp fun hc => ?_) <;> try (first | contradiction | (exfalso; omega) | (exfalso; exact absurd (of_dT hc) (by assumption)) | (exfalso; exact of_dF hc (by assumption)))
      | refine all fun v_ => ?_)
    all_goals clear fA_ fH_
    all_goals
      refine retv0 ?_
      ((with_reducible apply rq1); rfl; rfl)
      exact ⟨(), by simp_all, rfl⟩
theorem fillU (G : List (Nat × List D)) (A B : List Bool) (ba bb i : Nat) (x : Bool) (hA : i < A.length) (hB : i < B.length) : AC Tryz.prog G 250 [.int i, .bool x, .val (.pointer (some ⟨bb, 0, none⟩)), .val (.pointer (some ⟨ba, 0, none⟩))] [.cells ba 73 [.d (boolsD A)], .cells bb 73 [.d (boolsD B)]] fun r h => ∃ v : Unit, r = .ret (.bool (B[i] || (A[i] && x))) ∧ h = [.cells ba 73 [.d (boolsD A)], .cells bb 73 [.d (boolsD B)]] := by
  refine AC_ofV (ts := [6]) Tryz.f250.ntmps Tryz.func250 rfl rfl rfl (by simp [Tryz.ntmps250]) fun W I => ?_
  generalize hAi : A[i] = p
  generalize hBi : B[i] = q
  cases p <;> cases q <;> cases x
  all_goals
    all_goals haveI fA_ : FlagA := ⟨⟩
    all_goals haveI fH_ : FlagH := ⟨⟩
    repeat' (first
      | exact True.intro
      | refine stp ?_
      | refine two ?_ ?_
      | refine allc fun c_ => ?_
      | (refine imp fun hc => ?_) <;> try (first | contradiction | (exfalso; omega) | (exfalso; exact absurd (of_dT hc) (by assumption)) | (exfalso; exact of_dF hc (by assumption)))
      | refine all fun v_ => ?_)
    all_goals clear fA_ fH_
    all_goals
      refine retv0 ?_
      ((with_reducible apply rq1); rfl; rfl)
      exact ⟨(), by simp_all, rfl⟩
theorem fillR (G : List (Nat × List D)) (A B : List Bool) (ba bb i : Nat) (x : Bool) (hA : i < A.length) (hB : i < B.length) : AC Tryz.prog G 251 [.int i, .bool x, .val (.pointer (some ⟨bb, 0, none⟩)), .val (.pointer (some ⟨ba, 0, none⟩))] [.cells ba 73 [.d (boolsD A)], .cells bb 73 [.d (boolsD B)]] fun r h => ∃ v : Unit, r = .ret (.bool (B[i] && (A[i] || x))) ∧ h = [.cells ba 73 [.d (boolsD A)], .cells bb 73 [.d (boolsD B)]] := by
  refine AC_ofV (ts := [6]) Tryz.f251.ntmps Tryz.func251 rfl rfl rfl (by simp [Tryz.ntmps251]) fun W I => ?_
  generalize hAi : A[i] = p
  generalize hBi : B[i] = q
  cases p <;> cases q <;> cases x
  all_goals
    all_goals haveI fA_ : FlagA := ⟨⟩
    all_goals haveI fH_ : FlagH := ⟨⟩
    repeat' (first
      | exact True.intro
      | refine stp ?_
      | refine two ?_ ?_
      | refine allc fun c_ => ?_
      | (refine imp fun hc => ?_) <;> try (first | contradiction | (exfalso; omega) | (exfalso; exact absurd (of_dT hc) (by assumption)) | (exfalso; exact of_dF hc (by assumption)))
      | refine all fun v_ => ?_)
    all_goals clear fA_ fH_
    all_goals
      refine retv0 ?_
      ((with_reducible apply rq1); rfl; rfl)
      exact ⟨(), by simp_all, rfl⟩
end Go.Proofs.YtcikppldaepodaaGreatDoor
