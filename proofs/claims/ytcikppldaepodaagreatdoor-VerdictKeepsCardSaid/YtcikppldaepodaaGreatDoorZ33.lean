/- A bundle of this claim's own texts: W9. -/
import Derived.Test.YtcikppldaepodaaGreatDoorZ10
import Derived.Test.YtcikppldaepodaaGreatDoorZ32
namespace Go.Proofs.YtcikppldaepodaaGreatDoor
open Go Go.Av Go.Sp
set_option linter.unusedVariables false
set_option linter.unusedSimpArgs false
set_option maxRecDepth 100000
set_option maxHeartbeats 4000000

theorem tab_new (l : List Fo) (al : List (List Bool)) (s : Nat) : ((List.replicate l.length ()).map fun _ => AV.val (.slice none 0 0)) = tabR l al s l.length := by rw [tabR_start]; simp
theorem open_1 (l : List Fo) (w : Wd) (p : Int) (h : formF l p ≠ 0) : ACr Tryz.prog GP 146 [.d (opsD l), wdA w, .int p] (.tup [.val (.pointer none), .int (formF l p)]) := by
  have hC := Check l p
  refine AC_ofV (ts := [6, 7]) Tryz.f146.ntmps Tryz.func146 rfl rfl rfl (by simp [Tryz.ntmps146]) fun W I => ?_
  all_goals haveI fA_ : FlagA := ⟨⟩
  all_goals haveI fH_ : FlagH := ⟨⟩
  repeat' (first
    | ((with_reducible apply call0); (focus rfl); (focus exact cal_Check); (focus exact hC); (focus rfl))
    | ((with_reducible apply je_call0); (focus rfl); (focus (decide +kernel)); (focus rfl); (focus exact cal_Check); (focus exact hC); (focus rfl))
    | exact True.intro
    | refine stp ?_
    | refine two ?_ ?_
    | refine allc fun c_ => ?_
    | (refine imp fun hc => ?_) <;> try (first | contradiction | (exfalso; omega) | (exfalso; exact absurd (of_dT hc) (by assumption)) | (exfalso; exact of_dF hc (by assumption)))
    | refine all fun v_ => ?_)
  all_goals clear fA_ fH_
  refine retv (VS.drop (List.nil_sublist _)) ?_
  ((with_reducible apply rq2); rfl; rfl; rfl)
  exact ret_eq rfl
theorem open_2 (l : List Fo) (w : Wd) (p : Int) (h : formF l p = 0) (h2 : wordF w p ≠ 0) : ACr Tryz.prog GP 146 [.d (opsD l), wdA w, .int p] (.tup [.val (.pointer none), .int (wordF w p)]) := by
  have hC := Check l p
  rw [h] at hC
  refine AC_ofV (ts := [6, 7]) Tryz.f146.ntmps Tryz.func146 rfl rfl rfl (by simp [Tryz.ntmps146]) fun W I => ?_
  all_goals haveI fA_ : FlagA := ⟨⟩
  all_goals haveI fH_ : FlagH := ⟨⟩
  repeat' (first
    | ((with_reducible apply call0); (focus rfl); (focus exact cal_Check); (focus exact hC); (focus rfl))
    | ((with_reducible apply je_call0); (focus rfl); (focus (decide +kernel)); (focus rfl); (focus exact cal_Check); (focus exact hC); (focus rfl))
    | ((with_reducible apply call0); (focus rfl); (focus exact cal_WCheck); (focus exact WCheck _ _ _); (focus rfl))
    | ((with_reducible apply je_call0); (focus rfl); (focus (decide +kernel)); (focus rfl); (focus exact cal_WCheck); (focus exact WCheck _ _ _); (focus rfl))
    | exact True.intro
    | refine stp ?_
    | refine two ?_ ?_
    | refine allc fun c_ => ?_
    | (refine imp fun hc => ?_) <;> try (first | contradiction | (exfalso; omega) | (exfalso; exact absurd (of_dT hc) (by assumption)) | (exfalso; exact of_dF hc (by assumption)))
    | refine all fun v_ => ?_)
  all_goals clear fA_ fH_
  refine retv (VS.drop (List.nil_sublist _)) ?_
  ((with_reducible apply rq2); rfl; rfl; rfl)
  exact ret_eq rfl
theorem wordF_ok {w : Wd} {p : Int} (h : wordF w p = 0) : 0 ≤ p ∧ p ≤ 6 ∧ w.stem.length ≤ 12 ∧ 1 ≤ w.loop.length ∧ w.loop.length ≤ 12 ∧ ∀ l ∈ w.stem ++ w.loop, (l.length : Int) = p := by
  unfold wordF at h
  split at h
  · exact absurd h (by decide)
  · rename_i h1
    split at h
    · exact absurd h (by decide)
    · rename_i h2
      split at h
      · rename_i h3
        exact ⟨by omega, by omega, by omega, by omega, by omega, h3⟩
      · exact absurd h (by decide)
theorem open_0 (l : List Fo) (w : Wd) (p : Int) (h : formF l p = 0) (h2 : wordF w p = 0) : AC Tryz.prog GP 146 [.d (opsD l), wdA w, .int p] [] fun r h => ∃ v : Nat × Nat, r = .ret (.tup [.val (.pointer (some ⟨v.1, 0, none⟩)), .int 0]) ∧
    h = [.cells v.1 205 [.d (opsD l), .d (intsD (endsOf l).1), .d (lettD (w.stem ++ w.loop)), .int w.stem.length, .val (.slice (some ⟨v.2, 0, none⟩) l.length l.length)], .cells v.2 73 (tabR l (w.stem ++ w.loop) w.stem.length 0)] := by
  have hC := Check l p
  rw [h] at hC
  have hW := WCheck GP w p
  rw [h2] at hW
  have hE := Ends l
  have g := good_of h
  have h60 := g.h60
  obtain ⟨k1, k2, k3, k4, k5, k6⟩ := wordF_ok h2
  obtain ⟨_, _, _, hlen, hes⟩ := endsOf_ok (l := l) (es := (endsOf l).1) (Prod.ext rfl g.ends)
  rw [g.ends] at hE
  generalize (endsOf l).1 = es at hE hlen hes ⊢
  have E := ConcatB GP [w.stem, w.loop] (by simp; omega)
  rw [show [w.stem, w.loop].flatten = w.stem ++ w.loop by simp] at E
  have hal : (w.stem ++ w.loop).length = w.stem.length + w.loop.length := List.length_append
  refine AC_ofV (ts := [6, 7]) Tryz.f146.ntmps Tryz.func146 rfl rfl rfl (by simp [Tryz.ntmps146]) fun W I => ?_
  all_goals haveI fA_ : FlagA := ⟨⟩
  all_goals haveI fH_ : FlagH := ⟨⟩
  all_goals haveI fS_ : StopAt 2 := ⟨⟩
  repeat' (first
    | ((with_reducible apply call0); (focus rfl); (focus exact cal_Check); (focus exact hC); (focus rfl))
    | ((with_reducible apply je_call0); (focus rfl); (focus (decide +kernel)); (focus rfl); (focus exact cal_Check); (focus exact hC); (focus rfl))
    | ((with_reducible apply call0); (focus rfl); (focus exact cal_WCheck); (focus exact hW); (focus rfl))
    | ((with_reducible apply je_call0); (focus rfl); (focus (decide +kernel)); (focus rfl); (focus exact cal_WCheck); (focus exact hW); (focus rfl))
    | ((with_reducible apply call0); (focus rfl); (focus exact cal_Ends); (focus exact hE); (focus rfl))
    | ((with_reducible apply je_call0); (focus rfl); (focus (decide +kernel)); (focus rfl); (focus exact cal_Ends); (focus exact hE); (focus rfl))
    | exact True.intro
    | refine stp ?_
    | refine two ?_ ?_
    | refine allc fun c_ => ?_
    | (refine imp fun hc => ?_) <;> try (first | contradiction | (exfalso; omega))
    | refine all fun v_ => ?_)
  all_goals clear fA_ fH_ fS_
  refine ⟨?_⟩
  rename Nat => bw
  refine J_cutT (X := Nat × Nat) (fun y => [(0, .d (opsD l)), (12, .val (.pointer (some ⟨y.1, 0, none⟩)))]) (fun y => [.cells y.1 205 [.d (opsD l), .d (intsD es), .d (lettD (w.stem ++ w.loop)), .int w.stem.length, .val (.slice (some ⟨y.2, 0, none⟩) l.length l.length)], .cells y.2 73 ((List.replicate l.length ()).map fun _ => AV.val (.slice none 0 0))]) ?_ ?_
  · all_goals haveI fA_ : FlagA := ⟨⟩
    all_goals haveI fH_ : FlagH := ⟨⟩
    repeat' (first
      | ((with_reducible apply jbuild_list2); (focus rfl); (focus rfl); (focus rfl); (focus (with_reducible exact ElC.h)); (focus rfl); (focus rfl))
      | ((with_reducible apply call0); (focus rfl); (focus exact cal_ConcatB); (focus exact E); (focus rfl))
      | ((with_reducible apply je_call0); (focus rfl); (focus (decide +kernel)); (focus rfl); (focus exact cal_ConcatB); (focus exact E); (focus rfl))
      | ((with_reducible apply (jmk (fun _ : Unit => .val (.slice none 0 0)) ())); (focus rfl); (focus rfl); (focus (with_reducible exact ElC.h)); (focus rfl); (focus rfl); (focus omega); (focus omega); (focus rfl))
      | exact True.intro
      | refine stp ?_
      | refine two ?_ ?_
      | refine allc fun c_ => ?_
      | (refine imp fun hc => ?_) <;> try (first | contradiction | (exfalso; omega) | (exfalso; exact absurd (of_dT hc) (by assumption)) | (exfalso; exact of_dF hc (by assumption)))
      | refine all fun v_ => ?_)
    all_goals clear fA_ fH_
    all_goals
      refine ⟨(_, _), VS.take (by ((repeat (first | exact Take.nil | ((with_reducible apply Take.cons); (focus ((repeat (first | exact Sel.here | with_reducible apply Sel.there)); done))))); done)) ?_⟩
      repeat (first
        | exact Env.le_nil _
        | refine Env.le_cons (AV.le_refl _) ?_
        | refine Env.le_cons (AV.le_int rfl (by first | rfl | omega | (dsimp only; omega))) ?_)
  rintro ⟨bt, br⟩
  dsimp only
  rw [tab_new l (w.stem ++ w.loop) w.stem.length]
  all_goals haveI fA_ : FlagA := ⟨⟩
  all_goals haveI fH_ : FlagH := ⟨⟩
  repeat' (first
    | exact True.intro
    | refine stp ?_
    | refine two ?_ ?_
    | refine allc fun c_ => ?_
    | (refine imp fun hc => ?_) <;> try (first | contradiction | (exfalso; omega) | (exfalso; exact absurd (of_dT hc) (by assumption)) | (exfalso; exact of_dF hc (by assumption)))
    | refine all fun v_ => ?_)
  all_goals clear fA_ fH_
  refine J_loopV (X := Nat) (fun i => [(12, .val (.pointer (some ⟨bt, 0, none⟩))), (13, .int ((i : Int) - 1))]) (fun i => [.cells bt 205 [.d (opsD l), .d (intsD es), .d (lettD (w.stem ++ w.loop)), .int w.stem.length, .val (.slice (some ⟨br, 0, none⟩) l.length l.length)], .cells br 73 (tabR l (w.stem ++ w.loop) w.stem.length i)]) (fun i => i ≤ l.length) (fun i => i) l.length (Nat.le_refl _) (VS.of_le ?_) ?_
  · repeat (first
      | exact Env.le_nil _
      | refine Env.le_cons (AV.le_refl _) ?_
      | refine Env.le_cons (AV.le_int rfl (by first | rfl | omega | (dsimp only; omega))) ?_)
  intro i hi
  cases i with
  | zero =>
    all_goals haveI fA_ : FlagA := ⟨⟩
    all_goals haveI fH_ : FlagH := ⟨⟩
    repeat' (first
      | exact True.intro
      | refine stp ?_
      | refine two ?_ ?_
      | refine allc fun c_ => ?_
      | (refine imp fun hc => ?_) <;> try (first | contradiction | (exfalso; omega) | (exfalso; exact absurd (of_dT hc) (by assumption)) | (exfalso; exact of_dF hc (by assumption)))
      | refine all fun v_ => ?_)
    all_goals clear fA_ fH_
    refine retv0 ?_
    ((with_reducible apply rq2); rfl; rfl; rfl)
    exact ⟨(bt, br), rfl, rfl⟩
  | succ m =>
    have hm : m < l.length := by omega
    have hm1 : ((m + 1 : Nat) : Int) - 1 = (m : Int) := by omega
    have F := fill l p es (w.stem ++ w.loop) w.stem.length bt br m (tabR l (w.stem ++ w.loop) w.stem.length (m + 1)) g (fun j hj => k6 _ (List.getElem_mem hj)) (by omega) (by omega) hm (by omega) hes (tabR_len _ _ _ _) (fun j h1 h2 => tabR_get (by omega) h2)
    rw [tabR_set hm] at F
    rw [hm1]
    all_goals haveI fA_ : FlagA := ⟨⟩
    all_goals haveI fH_ : FlagH := ⟨⟩
    repeat' (first
      | ((with_reducible apply callG); (focus rfl); (focus exact cal_fill); (focus exact F); (focus ((repeat (first | with_reducible exact Take.nil | ((with_reducible apply Take.cons); (focus ((repeat (first | with_reducible exact Sel.here | with_reducible apply Sel.there)); done))))); done)); (focus rfl); (focus (intro v_; (repeat (first | exact App.nil | apply App.cons)); done)))
      | exact True.intro
      | refine stp ?_
      | refine two ?_ ?_
      | refine allc fun c_ => ?_
      | (refine imp fun hc => ?_) <;> try (first | contradiction | (exfalso; omega) | (exfalso; exact absurd (of_dT hc) (by assumption)) | (exfalso; exact of_dF hc (by assumption)))
      | refine all fun v_ => ?_)
    all_goals clear fA_ fH_
    refine ⟨m, by omega, by omega, VS.of_le ?_⟩
    repeat (first
      | exact Env.le_nil _
      | refine Env.le_cons (AV.le_refl _) ?_
      | refine Env.le_cons (AV.le_int rfl (by first | rfl | omega | (dsimp only; omega))) ?_)
end Go.Proofs.YtcikppldaepodaaGreatDoor
