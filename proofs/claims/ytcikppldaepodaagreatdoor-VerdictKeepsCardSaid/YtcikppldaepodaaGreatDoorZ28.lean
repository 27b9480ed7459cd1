/- A bundle of this claim's own texts: W5. -/
import Derived.Test.YtcikppldaepodaaGreatDoorZ27
namespace Go.Sp
open Go Go.Av
set_option linter.unusedVariables false
set_option linter.unusedSimpArgs false
def momN (s l i : Nat) : Nat := if i < s + l then i else s + (i - s) % l
theorem momN_small {s l i : Nat} (h : i < s + l) : momN s l i = i := if_pos h
theorem momN_step {s l i : Nat} (h : ¬ i < s + l) : momN s l (i - l) = momN s l i := by
  unfold momN
  rw [if_neg h]
  have e : i - s = (i - l - s) + l := by omega
  by_cases h2 : i - l < s + l
  · rw [if_pos h2, e, Nat.add_mod_right, Nat.mod_eq_of_lt (by omega)]
    omega
  · rw [if_neg h2, e, Nat.add_mod_right]
theorem momN_lt {s l i : Nat} (hl : 0 < l) : momN s l i < s + l := by
  unfold momN
  split
  · assumption
  · have := Nat.mod_lt (i - s) hl
    omega
end Go.Sp
namespace Go.Proofs.YtcikppldaepodaaGreatDoor
open Go Go.Av Go.Sp
set_option linter.unusedVariables false
set_option linter.unusedSimpArgs false
set_option maxRecDepth 100000
set_option maxHeartbeats 4000000

theorem momentOf (G : List (Nat × List D)) (w : Wd) (i : Nat) (hi : i ≤ 1000000) (h0 : 0 < w.loop.length) (hs : w.stem.length ≤ 1000000) (hl : w.loop.length ≤ 1000000) : ACr Tryz.prog G 172 [wdA w, .int i] (.int (momN w.stem.length w.loop.length i : Nat)) := by
  refine AC_ofV (ts := [4]) Tryz.f172.ntmps Tryz.func172 rfl rfl rfl (by simp [Tryz.ntmps172]) fun W I => ?_
  all_goals haveI fA_ : FlagA := ⟨⟩
  all_goals haveI fH_ : FlagH := ⟨⟩
  repeat' (first
    | exact True.intro
    | refine stp ?_
    | refine two ?_ ?_
    | refine allc fun c_ => ?_
    | (refine imp fun hc => ?_) <;> try (first | contradiction | (exfalso; omega) | (exfalso; exact absurd (of_dT hc) (by assumption)) | (exfalso; exact of_dF hc (by assumption)))
    | refine all fun v_ => ?_)
  all_goals clear fA_ fH_
  rename Nat => bw
  refine J_loopV (X := Nat) (fun j => [(1, .int j), (2, .val (.pointer (some ⟨bw, 0, none⟩)))]) (fun _ => [.cells bw 69 [.d (lettD w.stem), .d (lettD w.loop)]]) (fun j => j ≤ i ∧ momN w.stem.length w.loop.length j = momN w.stem.length w.loop.length i) (fun j => j) i ⟨Nat.le_refl _, rfl⟩ (VS.of_le ?_) ?_
  · repeat (first
      | exact Env.le_nil _
      | refine Env.le_cons (AV.le_refl _) ?_
      | refine Env.le_cons (AV.le_int rfl (by first | rfl | omega | (dsimp only; omega))) ?_)
  rintro j ⟨h1, h2⟩
  by_cases hj : j < w.stem.length + w.loop.length
  · all_goals haveI fA_ : FlagA := ⟨⟩
    all_goals haveI fH_ : FlagH := ⟨⟩
    repeat' (first
      | exact True.intro
      | refine stp ?_
      | refine two ?_ ?_
      | refine allc fun c_ => ?_
      | (refine imp fun hc => ?_) <;> try (first | contradiction | (exfalso; omega) | (exfalso; exact absurd (of_dT hc) (by assumption)) | (exfalso; exact of_dF hc (by assumption)))
      | refine all fun v_ => ?_)
    all_goals clear fA_ fH_
    refine retv (VS.drop (List.nil_sublist _)) ?_
    ((with_reducible apply rq1); rfl; rfl)
    exact ret_eq (by rw [← h2, momN_small hj])
  · have e := momN_step hj
    all_goals haveI fA_ : FlagA := ⟨⟩
    all_goals haveI fH_ : FlagH := ⟨⟩
    repeat' (first
      | exact True.intro
      | refine stp ?_
      | refine two ?_ ?_
      | refine allc fun c_ => ?_
      | (refine imp fun hc => ?_) <;> try (first | contradiction | (exfalso; omega) | (exfalso; exact absurd (of_dT hc) (by assumption)) | (exfalso; exact of_dF hc (by assumption)))
      | refine all fun v_ => ?_)
    all_goals clear fA_ fH_
    refine ⟨j - w.loop.length, ⟨by omega, by rw [e, h2]⟩, by omega, VS.of_le ?_⟩
    repeat (first
      | exact Env.le_nil _
      | refine Env.le_cons (AV.le_refl _) ?_
      | refine Env.le_cons (AV.le_int rfl (by first | rfl | omega | (dsimp only; omega))) ?_)
theorem letterAt (G : List (Nat × List D)) (w : Wd) (i : Nat) (hi : i ≤ 1000000) (h0 : 0 < w.loop.length) (hs : w.stem.length ≤ 1000000) (hl : w.loop.length ≤ 1000000) (hm : momN w.stem.length w.loop.length i < (w.stem ++ w.loop).length) : ACr Tryz.prog G 171 [wdA w, .int i] (.d (boolsD (w.stem ++ w.loop)[momN w.stem.length w.loop.length i])) := by
  refine AC_ofV (ts := [4]) Tryz.f171.ntmps Tryz.func171 rfl rfl rfl (by simp [Tryz.ntmps171]) fun W I => ?_
  have E := momentOf G w i hi h0 hs hl
  have hlen : (w.stem ++ w.loop).length = w.stem.length + w.loop.length := List.length_append
  have hm' := hm
  rw [hlen] at hm'
  generalize momN w.stem.length w.loop.length i = j at E hm hm' ⊢
  by_cases c : j < w.stem.length
  · all_goals haveI fA_ : FlagA := ⟨⟩
    all_goals haveI fH_ : FlagH := ⟨⟩
    repeat' (first
      | ((with_reducible apply call0); (focus rfl); (focus exact cal_momentOf); (focus exact E); (focus rfl))
      | ((with_reducible apply je_call0); (focus rfl); (focus (decide +kernel)); (focus rfl); (focus exact cal_momentOf); (focus exact E); (focus rfl))
      | exact True.intro
      | refine stp ?_
      | refine two ?_ ?_
      | refine allc fun c_ => ?_
      | (refine imp fun hc => ?_) <;> try (first | contradiction | (exfalso; omega) | (exfalso; exact absurd (of_dT hc) (by assumption)) | (exfalso; exact of_dF hc (by assumption)))
      | refine all fun v_ => ?_)
    all_goals clear fA_ fH_
    refine retv (VS.drop (List.nil_sublist _)) ?_
    ((with_reducible apply rq1); rfl; rfl)
    exact ret_eq (by simp only [List.getElem_append, dif_pos c]; rfl)
  · all_goals haveI fA_ : FlagA := ⟨⟩
    all_goals haveI fH_ : FlagH := ⟨⟩
    repeat' (first
      | ((with_reducible apply call0); (focus rfl); (focus exact cal_momentOf); (focus exact E); (focus rfl))
      | ((with_reducible apply je_call0); (focus rfl); (focus (decide +kernel)); (focus rfl); (focus exact cal_momentOf); (focus exact E); (focus rfl))
      | exact True.intro
      | refine stp ?_
      | refine two ?_ ?_
      | refine allc fun c_ => ?_
      | (refine imp fun hc => ?_) <;> try (first | contradiction | (exfalso; omega) | (exfalso; exact absurd (of_dT hc) (by assumption)) | (exfalso; exact of_dF hc (by assumption)))
      | refine all fun v_ => ?_)
    all_goals clear fA_ fH_
    refine retv (VS.drop (List.nil_sublist _)) ?_
    ((with_reducible apply rq1); rfl; rfl)
    refine ret_eq ?_
    have e : ((j : Int) - (w.stem.length : Int)).toNat = j - w.stem.length := by omega
    simp only [List.getElem_append, dif_neg c, e]
    rfl
theorem WordFault (G : List (Nat × List D)) (w : Wd) (p : Int) : ACr Tryz.prog G 204 [wdA w, .int p] (.int (wordF w p)) := by
  refine AC_ofV (ts := [4]) Tryz.f204.ntmps Tryz.func204 rfl rfl rfl (by simp [Tryz.ntmps204]) fun W I => ?_
  by_cases c1 : ¬ (0 ≤ p ∧ p ≤ 6)
  · have e1 := ACr_false (In G p 0 6) c1
    all_goals haveI fA_ : FlagA := ⟨⟩
    all_goals haveI fH_ : FlagH := ⟨⟩
    repeat' (first
      | ((with_reducible apply call0); (focus rfl); (focus exact cal_In); (focus exact e1); (focus rfl))
      | ((with_reducible apply je_call0); (focus rfl); (focus (decide +kernel)); (focus rfl); (focus exact cal_In); (focus exact e1); (focus rfl))
      | exact True.intro
      | refine stp ?_
      | refine two ?_ ?_
      | refine allc fun c_ => ?_
      | (refine imp fun hc => ?_) <;> try (first | contradiction | (exfalso; omega) | (exfalso; exact absurd (of_dT hc) (by assumption)) | (exfalso; exact of_dF hc (by assumption)))
      | refine all fun v_ => ?_)
    all_goals clear fA_ fH_
    refine retv (VS.drop (List.nil_sublist _)) ?_
    ((with_reducible apply rq1); rfl; rfl)
    exact ret_eq (by rw [wordF_2 c1])
  replace c1 := Decidable.not_not.1 c1
  have e1 := ACr_true (In G p 0 6) c1
  by_cases c3 : ¬ w.stem.length ≤ 12
  · 
    all_goals haveI fA_ : FlagA := ⟨⟩
    all_goals haveI fH_ : FlagH := ⟨⟩
    repeat' (first
      | ((with_reducible apply call0); (focus rfl); (focus exact cal_In); (focus exact e1); (focus rfl))
      | ((with_reducible apply je_call0); (focus rfl); (focus (decide +kernel)); (focus rfl); (focus exact cal_In); (focus exact e1); (focus rfl))
      | exact True.intro
      | refine stp ?_
      | refine two ?_ ?_
      | refine allc fun c_ => ?_
      | (refine imp fun hc => ?_) <;> try (first | contradiction | (exfalso; omega) | (exfalso; exact absurd (of_dT hc) (by assumption)) | (exfalso; exact of_dF hc (by assumption)))
      | refine all fun v_ => ?_)
    all_goals clear fA_ fH_
    refine retv (VS.drop (List.nil_sublist _)) ?_
    ((with_reducible apply rq1); rfl; rfl)
    exact ret_eq (by rw [wordF_1 c1 (by omega)])
  by_cases c4 : ¬ (1 ≤ (w.loop.length : Int) ∧ (w.loop.length : Int) ≤ 12)
  · have e2 := ACr_false (In G w.loop.length 1 12) c4
    all_goals haveI fA_ : FlagA := ⟨⟩
    all_goals haveI fH_ : FlagH := ⟨⟩
    repeat' (first
      | ((with_reducible apply call0); (focus rfl); (focus exact cal_In); (focus exact e1); (focus rfl))
      | ((with_reducible apply je_call0); (focus rfl); (focus (decide +kernel)); (focus rfl); (focus exact cal_In); (focus exact e1); (focus rfl))
      | ((with_reducible apply call0); (focus rfl); (focus exact cal_In); (focus exact e2); (focus rfl))
      | ((with_reducible apply je_call0); (focus rfl); (focus (decide +kernel)); (focus rfl); (focus exact cal_In); (focus exact e2); (focus rfl))
      | exact True.intro
      | refine stp ?_
      | refine two ?_ ?_
      | refine allc fun c_ => ?_
      | (refine imp fun hc => ?_) <;> try (first | contradiction | (exfalso; omega) | (exfalso; exact absurd (of_dT hc) (by assumption)) | (exfalso; exact of_dF hc (by assumption)))
      | refine all fun v_ => ?_)
    all_goals clear fA_ fH_
    refine retv (VS.drop (List.nil_sublist _)) ?_
    ((with_reducible apply rq1); rfl; rfl)
    exact ret_eq (by rw [wordF_1 c1 (by omega)])
  replace c4 := Decidable.not_not.1 c4
  have e2 := ACr_true (In G w.loop.length 1 12) c4
  have k2 : w.stem.length ≤ 12 ∧ 1 ≤ w.loop.length ∧ w.loop.length ≤ 12 := by omega
  have hlen : (w.stem ++ w.loop).length = w.stem.length + w.loop.length := List.length_append
  have f0 := wordF_0 (w := w) (p := p) c1 k2
  have f3 := fun i hi h => wordF_3 (w := w) (p := p) c1 k2 (i := i) hi h
  have EL : ∀ (i : Nat) (h : i < (w.stem ++ w.loop).length), ACr Tryz.prog G 171 [wdA w, .int i] (.d (boolsD (w.stem ++ w.loop)[i])) := fun i h => by
    have hm : momN w.stem.length w.loop.length i = i := momN_small (by omega)
    have := letterAt G w i (by omega) (by omega) (by omega) (by omega) (by rw [hm]; exact h)
    simp only [hm] at this
    exact this
  all_goals haveI fA_ : FlagA := ⟨⟩
  all_goals haveI fH_ : FlagH := ⟨⟩
  repeat' (first
    | ((with_reducible apply call0); (focus rfl); (focus exact cal_In); (focus exact e1); (focus rfl))
    | ((with_reducible apply je_call0); (focus rfl); (focus (decide +kernel)); (focus rfl); (focus exact cal_In); (focus exact e1); (focus rfl))
    | ((with_reducible apply call0); (focus rfl); (focus exact cal_In); (focus exact e2); (focus rfl))
    | ((with_reducible apply je_call0); (focus rfl); (focus (decide +kernel)); (focus rfl); (focus exact cal_In); (focus exact e2); (focus rfl))
    | exact True.intro
    | refine stp ?_
    | refine two ?_ ?_
    | refine allc fun c_ => ?_
    | (refine imp fun hc => ?_) <;> try (first | contradiction | (exfalso; omega) | (exfalso; exact absurd (of_dT hc) (by assumption)) | (exfalso; exact of_dF hc (by assumption)))
    | refine all fun v_ => ?_)
  all_goals clear fA_ fH_
  refine J_loopV (X := Nat) (fun i => [(1, .int p), (2, .val (.pointer (some ⟨v_, 0, none⟩))), (5, .int i)]) (fun _ => [.cells v_ 69 [.d (lettD w.stem), .d (lettD w.loop)]]) (fun i => i ≤ (w.stem ++ w.loop).length ∧ ∀ j (h : j < (w.stem ++ w.loop).length), j < i → ((w.stem ++ w.loop)[j].length : Int) = p) (fun i => (w.stem ++ w.loop).length - i) 0 ⟨Nat.zero_le _, fun _ _ h => absurd h (Nat.not_lt_zero _)⟩ (VS.of_le ?_) ?_
  · repeat (first
      | exact Env.le_nil _
      | refine Env.le_cons (AV.le_refl _) ?_
      | refine Env.le_cons (AV.le_int rfl (by first | rfl | omega | (dsimp only; omega))) ?_)
  rintro i ⟨h1, h2⟩
  by_cases hi : ¬ i < (w.stem ++ w.loop).length
  · all_goals haveI fA_ : FlagA := ⟨⟩
    all_goals haveI fH_ : FlagH := ⟨⟩
    repeat' (first
      | exact True.intro
      | refine stp ?_
      | refine two ?_ ?_
      | refine allc fun c_ => ?_
      | (refine imp fun hc => ?_) <;> try (first | contradiction | (exfalso; omega) | (exfalso; exact absurd (of_dT hc) (by assumption)) | (exfalso; exact of_dF hc (by assumption)))
      | refine all fun v_ => ?_)
    all_goals clear fA_ fH_
    refine retv (VS.drop (List.nil_sublist _)) ?_
    ((with_reducible apply rq1); rfl; rfl)
    exact ret_eq (by rw [f0 fun j hj => h2 j hj (by omega)])
  replace hi := Decidable.not_not.1 hi
  have E3 := EL i hi
  by_cases he : ((w.stem ++ w.loop)[i].length : Int) = p
  · all_goals haveI fA_ : FlagA := ⟨⟩
    all_goals haveI fH_ : FlagH := ⟨⟩
    repeat' (first
      | ((with_reducible apply call0); (focus rfl); (focus exact cal_letterAt); (focus exact E3); (focus rfl))
      | ((with_reducible apply je_call0); (focus rfl); (focus (decide +kernel)); (focus rfl); (focus exact cal_letterAt); (focus exact E3); (focus rfl))
      | exact True.intro
      | refine stp ?_
      | refine two ?_ ?_
      | refine allc fun c_ => ?_
      | (refine imp fun hc => ?_) <;> try (first | contradiction | (exfalso; omega) | (exfalso; exact absurd (of_dT hc) (by assumption)) | (exfalso; exact of_dF hc (by assumption)))
      | refine all fun v_ => ?_)
    all_goals clear fA_ fH_
    refine ⟨i + 1, ⟨by omega, fun j hj hji => ?_⟩, by omega, VS.of_le ?_⟩
    · by_cases e : j = i
      · subst e; exact he
      · exact h2 j hj (by omega)
    · repeat (first
        | exact Env.le_nil _
        | refine Env.le_cons (AV.le_refl _) ?_
        | refine Env.le_cons (AV.le_int rfl (by first | rfl | omega | (dsimp only; omega))) ?_)
  · all_goals haveI fA_ : FlagA := ⟨⟩
    all_goals haveI fH_ : FlagH := ⟨⟩
    repeat' (first
      | ((with_reducible apply call0); (focus rfl); (focus exact cal_letterAt); (focus exact E3); (focus rfl))
      | ((with_reducible apply je_call0); (focus rfl); (focus (decide +kernel)); (focus rfl); (focus exact cal_letterAt); (focus exact E3); (focus rfl))
      | exact True.intro
      | refine stp ?_
      | refine two ?_ ?_
      | refine allc fun c_ => ?_
      | (refine imp fun hc => ?_) <;> try (first | contradiction | (exfalso; omega) | (exfalso; exact absurd (of_dT hc) (by assumption)) | (exfalso; exact of_dF hc (by assumption)))
      | refine all fun v_ => ?_)
    all_goals clear fA_ fH_
    refine retv (VS.drop (List.nil_sublist _)) ?_
    ((with_reducible apply rq1); rfl; rfl)
    exact ret_eq (by rw [f3 i hi he])
end Go.Proofs.YtcikppldaepodaaGreatDoor
