/- Contracts: foretellref.momentOf, letterAt, WordFault; the laws' copies of words. -/
import Derived.Test.YtacdheachjnejaaDoorW4
namespace Go.Sp
open Go Go.Av
set_option linter.unusedVariables false
set_option linter.unusedSimpArgs false
/-- Which moment of stem and loop one that is further is. -/
def momN (s l i : Nat) : Nat := if i < s + l then i else s + (i - s) % l
theorem momN_small {s l i : Nat} (h : i < s + l) : momN s l i = i := if_pos h
theorem momN_step {s l i : Nat} (h : ¬ i < s + l) : momN s l (i - l) = momN s l i := by
  unfold momN
  rw [if_neg h]
  have e : i - s = (i - l - s) + l := by omega
  by_cases h2 : i - l < s + l
  · rw [if_pos h2, e, Nat.add_mod_right, Nat.mod_eq_of_lt (by omega)]
    omega
  · rw [if_neg h2, e, Nat.add_mod_right]
theorem momN_lt {s l i : Nat} (hl : 0 < l) : momN s l i < s + l := by
  unfold momN
  split
  · assumption
  · have := Nat.mod_lt (i - s) hl
    omega
end Go.Sp
namespace Go.Proofs.YtacdheachjnejaaDoor
open Go Go.Av Go.Sp
set_option linter.unusedVariables false
set_option linter.unusedSimpArgs false
set_option maxRecDepth 100000
set_option maxHeartbeats 4000000

theorem cal_letters : Cal Tryd.prog 49 := Cal.of Tryd.func49 (by kernel_rfl) (by kernel_rfl)
theorem cal_words : Cal Tryd.prog 18 := Cal.of Tryd.func18 (by kernel_rfl) (by kernel_rfl)
theorem momentOf (G : List (Nat × List D)) (w : Wd) (i : Nat) (hi : i ≤ 1000000) (h0 : 0 < w.loop.length) (hs : w.stem.length ≤ 1000000) (hl : w.loop.length ≤ 1000000) : ACr Tryd.prog G 105 [wdA w, .int i] (.int (momN w.stem.length w.loop.length i : Nat)) := by
  refine AC_ofV (ts := [4]) Tryd.f105.ntmps Tryd.func105 rfl rfl rfl (by simp [Tryd.ntmps105]) fun W I => ?_
  repeat' (first
    | exact True.intro
    | refine stph ?_
    | refine two ?_ ?_
    | refine allc fun c_ => ?_
    | (refine imp fun hc => ?_) <;> try (first | contradiction | (exfalso; omega) | (exfalso; exact absurd (of_dT hc) (by assumption)) | (exfalso; exact of_dF hc (by assumption)))
    | refine all fun v_ => ?_)
  rename Nat => bw
  refine J_loopV (X := Nat) (fun j => [(1, .int j), (2, .val (.pointer (some ⟨bw, 0, none⟩)))]) (fun _ => [.cells bw 33 [.d (lettD w.stem), .d (lettD w.loop)]]) (fun j => j ≤ i ∧ momN w.stem.length w.loop.length j = momN w.stem.length w.loop.length i) (fun j => j) i ⟨Nat.le_refl _, rfl⟩ (VS.of_le ?_) ?_
  · repeat (first
      | exact Env.le_nil _
      | refine Env.le_cons (AV.le_refl _) ?_
      | refine Env.le_cons (AV.le_int rfl (by first | rfl | omega | (dsimp only; omega))) ?_)
  rintro j ⟨h1, h2⟩
  by_cases hj : j < w.stem.length + w.loop.length
  · repeat' (first
      | exact True.intro
      | refine stph ?_
      | refine two ?_ ?_
      | refine allc fun c_ => ?_
      | (refine imp fun hc => ?_) <;> try (first | contradiction | (exfalso; omega) | (exfalso; exact absurd (of_dT hc) (by assumption)) | (exfalso; exact of_dF hc (by assumption)))
      | refine all fun v_ => ?_)
    refine retv (VS.drop (List.nil_sublist _)) ?_
    ((with_reducible apply rq1); rfl; rfl)
    exact ret_eq (by rw [← h2, momN_small hj])
  · have e := momN_step hj
    repeat' (first
      | exact True.intro
      | refine stph ?_
      | refine two ?_ ?_
      | refine allc fun c_ => ?_
      | (refine imp fun hc => ?_) <;> try (first | contradiction | (exfalso; omega) | (exfalso; exact absurd (of_dT hc) (by assumption)) | (exfalso; exact of_dF hc (by assumption)))
      | refine all fun v_ => ?_)
    refine ⟨j - w.loop.length, ⟨by omega, by rw [e, h2]⟩, by omega, VS.of_le ?_⟩
    repeat (first
      | exact Env.le_nil _
      | refine Env.le_cons (AV.le_refl _) ?_
      | refine Env.le_cons (AV.le_int rfl (by first | rfl | omega | (dsimp only; omega))) ?_)
theorem letterAt (G : List (Nat × List D)) (w : Wd) (i : Nat) (hi : i ≤ 1000000) (h0 : 0 < w.loop.length) (hs : w.stem.length ≤ 1000000) (hl : w.loop.length ≤ 1000000) (hm : momN w.stem.length w.loop.length i < (w.stem ++ w.loop).length) : ACr Tryd.prog G 104 [wdA w, .int i] (.d (boolsD (w.stem ++ w.loop)[momN w.stem.length w.loop.length i])) := by
  refine AC_ofV (ts := [4]) Tryd.f104.ntmps Tryd.func104 rfl rfl rfl (by simp [Tryd.ntmps104]) fun W I => ?_
  have E := momentOf G w i hi h0 hs hl
  have hlen : (w.stem ++ w.loop).length = w.stem.length + w.loop.length := List.length_append
  have hm' := hm
  rw [hlen] at hm'
  generalize momN w.stem.length w.loop.length i = j at E hm hm' ⊢
  by_cases c : j < w.stem.length
  · repeat' (first
      | ((with_reducible apply call0); (focus rfl); (focus exact cal_momentOf); (focus exact E); (focus rfl))
      | ((with_reducible apply je_call0); (focus rfl); (focus (decide +kernel)); (focus rfl); (focus exact cal_momentOf); (focus exact E); (focus rfl))
      | exact True.intro
      | refine stph ?_
      | refine two ?_ ?_
      | refine allc fun c_ => ?_
      | (refine imp fun hc => ?_) <;> try (first | contradiction | (exfalso; omega) | (exfalso; exact absurd (of_dT hc) (by assumption)) | (exfalso; exact of_dF hc (by assumption)))
      | refine all fun v_ => ?_)
    refine retv (VS.drop (List.nil_sublist _)) ?_
    ((with_reducible apply rq1); rfl; rfl)
    exact ret_eq (by simp only [List.getElem_append, dif_pos c]; rfl)
  · repeat' (first
      | ((with_reducible apply call0); (focus rfl); (focus exact cal_momentOf); (focus exact E); (focus rfl))
      | ((with_reducible apply je_call0); (focus rfl); (focus (decide +kernel)); (focus rfl); (focus exact cal_momentOf); (focus exact E); (focus rfl))
      | exact True.intro
      | refine stph ?_
      | refine two ?_ ?_
      | refine allc fun c_ => ?_
      | (refine imp fun hc => ?_) <;> try (first | contradiction | (exfalso; omega) | (exfalso; exact absurd (of_dT hc) (by assumption)) | (exfalso; exact of_dF hc (by assumption)))
      | refine all fun v_ => ?_)
    refine retv (VS.drop (List.nil_sublist _)) ?_
    ((with_reducible apply rq1); rfl; rfl)
    refine ret_eq ?_
    have e : ((j : Int) - (w.stem.length : Int)).toNat = j - w.stem.length := by omega
    simp only [List.getElem_append, dif_neg c, e]
    rfl
theorem WordFault (G : List (Nat × List D)) (w : Wd) (p : Int) : ACr Tryd.prog G 84 [wdA w, .int p] (.int (wordF w p)) := by
  refine AC_ofV (ts := [4]) Tryd.f84.ntmps Tryd.func84 rfl rfl rfl (by simp [Tryd.ntmps84]) fun W I => ?_
  by_cases c1 : ¬ (0 ≤ p ∧ p ≤ 6)
  · have e1 := ACr_false (In G p 0 6) c1
    repeat' (first
      | ((with_reducible apply call0); (focus rfl); (focus exact cal_In); (focus exact e1); (focus rfl))
      | ((with_reducible apply je_call0); (focus rfl); (focus (decide +kernel)); (focus rfl); (focus exact cal_In); (focus exact e1); (focus rfl))
      | exact True.intro
      | refine stph ?_
      | refine two ?_ ?_
      | refine allc fun c_ => ?_
      | (refine imp fun hc => ?_) <;> try (first | contradiction | (exfalso; omega) | (exfalso; exact absurd (of_dT hc) (by assumption)) | (exfalso; exact of_dF hc (by assumption)))
      | refine all fun v_ => ?_)
    refine retv (VS.drop (List.nil_sublist _)) ?_
    ((with_reducible apply rq1); rfl; rfl)
    exact ret_eq (by rw [wordF_2 c1])
  replace c1 := Decidable.not_not.1 c1
  have e1 := ACr_true (In G p 0 6) c1
  by_cases c3 : ¬ w.stem.length ≤ 12
  · 
    repeat' (first
      | ((with_reducible apply call0); (focus rfl); (focus exact cal_In); (focus exact e1); (focus rfl))
      | ((with_reducible apply je_call0); (focus rfl); (focus (decide +kernel)); (focus rfl); (focus exact cal_In); (focus exact e1); (focus rfl))
      | exact True.intro
      | refine stph ?_
      | refine two ?_ ?_
      | refine allc fun c_ => ?_
      | (refine imp fun hc => ?_) <;> try (first | contradiction | (exfalso; omega) | (exfalso; exact absurd (of_dT hc) (by assumption)) | (exfalso; exact of_dF hc (by assumption)))
      | refine all fun v_ => ?_)
    refine retv (VS.drop (List.nil_sublist _)) ?_
    ((with_reducible apply rq1); rfl; rfl)
    exact ret_eq (by rw [wordF_1 c1 (by omega)])
  by_cases c4 : ¬ (1 ≤ (w.loop.length : Int) ∧ (w.loop.length : Int) ≤ 12)
  · have e2 := ACr_false (In G w.loop.length 1 12) c4
    repeat' (first
      | ((with_reducible apply call0); (focus rfl); (focus exact cal_In); (focus exact e1); (focus rfl))
      | ((with_reducible apply je_call0); (focus rfl); (focus (decide +kernel)); (focus rfl); (focus exact cal_In); (focus exact e1); (focus rfl))
      | ((with_reducible apply call0); (focus rfl); (focus exact cal_In); (focus exact e2); (focus rfl))
      | ((with_reducible apply je_call0); (focus rfl); (focus (decide +kernel)); (focus rfl); (focus exact cal_In); (focus exact e2); (focus rfl))
      | exact True.intro
      | refine stph ?_
      | refine two ?_ ?_
      | refine allc fun c_ => ?_
      | (refine imp fun hc => ?_) <;> try (first | contradiction | (exfalso; omega) | (exfalso; exact absurd (of_dT hc) (by assumption)) | (exfalso; exact of_dF hc (by assumption)))
      | refine all fun v_ => ?_)
    refine retv (VS.drop (List.nil_sublist _)) ?_
    ((with_reducible apply rq1); rfl; rfl)
    exact ret_eq (by rw [wordF_1 c1 (by omega)])
  replace c4 := Decidable.not_not.1 c4
  have e2 := ACr_true (In G w.loop.length 1 12) c4
  have k2 : w.stem.length ≤ 12 ∧ 1 ≤ w.loop.length ∧ w.loop.length ≤ 12 := by omega
  have hlen : (w.stem ++ w.loop).length = w.stem.length + w.loop.length := List.length_append
  have f0 := wordF_0 (w := w) (p := p) c1 k2
  have f3 := fun i hi h => wordF_3 (w := w) (p := p) c1 k2 (i := i) hi h
  have EL : ∀ (i : Nat) (h : i < (w.stem ++ w.loop).length), ACr Tryd.prog G 104 [wdA w, .int i] (.d (boolsD (w.stem ++ w.loop)[i])) := fun i h => by
    have hm : momN w.stem.length w.loop.length i = i := momN_small (by omega)
    have := letterAt G w i (by omega) (by omega) (by omega) (by omega) (by rw [hm]; exact h)
    simp only [hm] at this
    exact this
  repeat' (first
    | ((with_reducible apply call0); (focus rfl); (focus exact cal_In); (focus exact e1); (focus rfl))
    | ((with_reducible apply je_call0); (focus rfl); (focus (decide +kernel)); (focus rfl); (focus exact cal_In); (focus exact e1); (focus rfl))
    | ((with_reducible apply call0); (focus rfl); (focus exact cal_In); (focus exact e2); (focus rfl))
    | ((with_reducible apply je_call0); (focus rfl); (focus (decide +kernel)); (focus rfl); (focus exact cal_In); (focus exact e2); (focus rfl))
    | exact True.intro
    | refine stph ?_
    | refine two ?_ ?_
    | refine allc fun c_ => ?_
    | (refine imp fun hc => ?_) <;> try (first | contradiction | (exfalso; omega) | (exfalso; exact absurd (of_dT hc) (by assumption)) | (exfalso; exact of_dF hc (by assumption)))
    | refine all fun v_ => ?_)
  refine J_loopV (X := Nat) (fun i => [(1, .int p), (2, .val (.pointer (some ⟨v_, 0, none⟩))), (5, .int i)]) (fun _ => [.cells v_ 33 [.d (lettD w.stem), .d (lettD w.loop)]]) (fun i => i ≤ (w.stem ++ w.loop).length ∧ ∀ j (h : j < (w.stem ++ w.loop).length), j < i → ((w.stem ++ w.loop)[j].length : Int) = p) (fun i => (w.stem ++ w.loop).length - i) 0 ⟨Nat.zero_le _, fun _ _ h => absurd h (Nat.not_lt_zero _)⟩ (VS.of_le ?_) ?_
  · repeat (first
      | exact Env.le_nil _
      | refine Env.le_cons (AV.le_refl _) ?_
      | refine Env.le_cons (AV.le_int rfl (by first | rfl | omega | (dsimp only; omega))) ?_)
  rintro i ⟨h1, h2⟩
  by_cases hi : ¬ i < (w.stem ++ w.loop).length
  · repeat' (first
      | exact True.intro
      | refine stph ?_
      | refine two ?_ ?_
      | refine allc fun c_ => ?_
      | (refine imp fun hc => ?_) <;> try (first | contradiction | (exfalso; omega) | (exfalso; exact absurd (of_dT hc) (by assumption)) | (exfalso; exact of_dF hc (by assumption)))
      | refine all fun v_ => ?_)
    refine retv (VS.drop (List.nil_sublist _)) ?_
    ((with_reducible apply rq1); rfl; rfl)
    exact ret_eq (by rw [f0 fun j hj => h2 j hj (by omega)])
  replace hi := Decidable.not_not.1 hi
  have E3 := EL i hi
  by_cases he : ((w.stem ++ w.loop)[i].length : Int) = p
  · repeat' (first
      | ((with_reducible apply call0); (focus rfl); (focus exact cal_letterAt); (focus exact E3); (focus rfl))
      | ((with_reducible apply je_call0); (focus rfl); (focus (decide +kernel)); (focus rfl); (focus exact cal_letterAt); (focus exact E3); (focus rfl))
      | exact True.intro
      | refine stph ?_
      | refine two ?_ ?_
      | refine allc fun c_ => ?_
      | (refine imp fun hc => ?_) <;> try (first | contradiction | (exfalso; omega) | (exfalso; exact absurd (of_dT hc) (by assumption)) | (exfalso; exact of_dF hc (by assumption)))
      | refine all fun v_ => ?_)
    refine ⟨i + 1, ⟨by omega, fun j hj hji => ?_⟩, by omega, VS.of_le ?_⟩
    · by_cases e : j = i
      · subst e; exact he
      · exact h2 j hj (by omega)
    · repeat (first
        | exact Env.le_nil _
        | refine Env.le_cons (AV.le_refl _) ?_
        | refine Env.le_cons (AV.le_int rfl (by first | rfl | omega | (dsimp only; omega))) ?_)
  · repeat' (first
      | ((with_reducible apply call0); (focus rfl); (focus exact cal_letterAt); (focus exact E3); (focus rfl))
      | ((with_reducible apply je_call0); (focus rfl); (focus (decide +kernel)); (focus rfl); (focus exact cal_letterAt); (focus exact E3); (focus rfl))
      | exact True.intro
      | refine stph ?_
      | refine two ?_ ?_
      | refine allc fun c_ => ?_
      | (refine imp fun hc => ?_) <;> try (first | contradiction | (exfalso; omega) | (exfalso; exact absurd (of_dT hc) (by assumption)) | (exfalso; exact of_dF hc (by assumption)))
      | refine all fun v_ => ?_)
    refine retv (VS.drop (List.nil_sublist _)) ?_
    ((with_reducible apply rq1); rfl; rfl)
    exact ret_eq (by rw [f3 i hi he])
/-- A copy, list by list. -/
theorem letters (G : List (Nat × List D)) (a : List (List Bool)) : ACr Tryd.prog G 49 [.d (lettD a)] (.d (lettD a)) := by
  refine AC_ofV (ts := [2]) Tryd.f49.ntmps Tryd.func49 rfl rfl rfl (by simp [Tryd.ntmps49]) fun W I => ?_
  refine jfact (t := 0) rfl fun hl => ?_
  repeat' (first
    | ((with_reducible apply call0); (focus rfl); (focus exact cal_truths); (focus exact truthsU _ _); (focus rfl))
    | ((with_reducible apply je_call0); (focus rfl); (focus (decide +kernel)); (focus rfl); (focus exact cal_truths); (focus exact truthsU _ _); (focus rfl))
    | exact True.intro
    | refine stpa ?_
    | refine two ?_ ?_
    | (refine imp fun hc => ?_) <;> try (first | contradiction | (exfalso; omega))
    | refine all fun v_ => ?_)
  refine jrow (E := 35) (sz := 1) lettC ?_
  refine J_loop (X := Nat × Sl) (fun y => [(0, .d (lettD a)), (3, .val y.2.v), (4, .int y.1)]) (fun y => [rowE y.2.v 35 1 lettC (a.take y.1)]) (fun y => y.1 ≤ a.length) (fun y => a.length - y.1) (0, Sl.nil) (Nat.zero_le _) ?_ rfl ?_
  · repeat (first
      | exact Env.le_nil _
      | refine Env.le_cons (AV.le_refl _) ?_
      | refine Env.le_cons (AV.le_int rfl (by first | rfl | omega | (dsimp only; omega))) ?_)
  rintro ⟨i, v⟩ h1
  dsimp only at h1 ⊢
  have hlen : (a.take i).length = i := by rw [List.length_take]; omega
  repeat' (first
    | ((with_reducible apply call0); (focus rfl); (focus exact cal_truths); (focus exact truthsU _ _); (focus rfl))
    | ((with_reducible apply je_call0); (focus rfl); (focus (decide +kernel)); (focus rfl); (focus exact cal_truths); (focus exact truthsU _ _); (focus rfl))
    | exact True.intro
    | refine stpa ?_
    | refine two ?_ ?_
    | (refine imp fun hc => ?_) <;> try (first | contradiction | (exfalso; omega))
    | refine all fun v_ => ?_)
  · refine ⟨(i + 1, v_), by dsimp only; omega, by dsimp only; omega, ?_, ?_⟩
    · repeat (first
        | exact Env.le_nil _
        | refine Env.le_cons (AV.le_refl _) ?_
        | refine Env.le_cons (AV.le_int rfl (by first | rfl | omega | (dsimp only; omega))) ?_)
    · dsimp only
      rw [List.take_succ_eq_append_getElem (by omega)]
  · refine retv (vfreeze (t := 2) (eb := 24) rfl rfl (fun x => rfl) (by rw [hlen]; omega)) ?_
    ((with_reducible apply rq1); rfl; rfl)
    refine ret_eq ?_
    rw [List.take_of_length_le (by omega)]
theorem words (G : List (Nat × List D)) (w : Wd) : ACr Tryd.prog G 18 [wdA w] (wdA w) := by
  refine AC_ofR (rs := [.cell 2 33]) Tryd.f18.ntmps Tryd.func18 rfl rfl rfl (by simp [Tryd.ntmps18]) fun W I => ?_
  repeat' (first
    | ((with_reducible apply call0); (focus rfl); (focus exact cal_letters); (focus exact letters _ _); (focus rfl))
    | ((with_reducible apply je_call0); (focus rfl); (focus (decide +kernel)); (focus rfl); (focus exact cal_letters); (focus exact letters _ _); (focus rfl))
    | exact True.intro
    | refine stph ?_
    | refine two ?_ ?_
    | refine allc fun c_ => ?_
    | (refine imp fun hc => ?_) <;> try (first | contradiction | (exfalso; omega) | (exfalso; exact absurd (of_dT hc) (by assumption)) | (exfalso; exact of_dF hc (by assumption)))
    | refine all fun v_ => ?_)
  exact retr0 (xs := [wdA w]) ⟨rv_agg rfl (by (with_reducible exact ElC.h)) rfl (by ((repeat (first | exact List.mem_cons_self | apply List.mem_cons_of_mem)); done)) rfl, trivial⟩ rfl (h' := []) (List.nil_sublist _) (ret_eq rfl)
end Go.Proofs.YtacdheachjnejaaDoor
