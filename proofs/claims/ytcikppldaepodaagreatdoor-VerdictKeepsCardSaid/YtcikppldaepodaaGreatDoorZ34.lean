/- A bundle of this claim's own texts: W11. -/
import Derived.Test.YtcikppldaepodaaGreatDoorZ29
import Derived.Test.YtcikppldaepodaaGreatDoorZ33
namespace Go.Proofs.YtcikppldaepodaaGreatDoor
open Go Go.Av Go.Sp
set_option linter.unusedVariables false
set_option linter.unusedSimpArgs false
set_option maxRecDepth 100000
set_option maxHeartbeats 4000000

theorem cal_Moments : Cal Tryz.prog 83 := Cal.of Tryz.func83 (by kernel_rfl) (by kernel_rfl)
theorem cal_MomentsOf : Cal Tryz.prog 88 := Cal.of Tryz.func88 (by kernel_rfl) (by kernel_rfl)
theorem cal_WHolds : Cal Tryz.prog 27 := Cal.of Tryz.func27 (by kernel_rfl) (by kernel_rfl)
theorem cal_HoldsOf : Cal Tryz.prog 34 := Cal.of Tryz.func34 (by kernel_rfl) (by kernel_rfl)
abbrev wal (w : Wd) : List (List Bool) := w.stem ++ w.loop
theorem rowsOf (G : List (Nat × List D)) (l : List Fo) (w : Wd) (p : Int) (g : GoodF l p) (hw0 : wordF w p = 0) : ACr Tryz.prog G 58 [.d (opsD l), wdA w] (.d (lettD (wRows l (wal w) w.stem.length))) := by
  have h60 := g.h60
  obtain ⟨_, _, hs12, hl1, hl12, hal6⟩ := wordF_ok hw0
  have hN : (w.stem ++ w.loop).length = w.stem.length + w.loop.length := List.length_append
  refine AC_ofV (ts := [4]) Tryz.f58.ntmps Tryz.func58 rfl rfl rfl (by simp [Tryz.ntmps58]) fun W I => ?_
  all_goals haveI fA_ : FlagA := ⟨⟩
  all_goals haveI fH_ : FlagH := ⟨⟩
  repeat' (first
    | ((with_reducible apply (jmk (fun _ : Unit => .val (.slice none 0 0)) ())); (focus rfl); (focus rfl); (focus (with_reducible exact ElC.h)); (focus rfl); (focus rfl); (focus omega); (focus omega); (focus rfl))
    | exact True.intro
    | refine stp ?_
    | refine two ?_ ?_
    | refine allc fun c_ => ?_
    | (refine imp fun hc => ?_) <;> try (first | contradiction | (exfalso; omega) | (exfalso; exact absurd (of_dT hc) (by assumption)) | (exfalso; exact of_dF hc (by assumption)))
    | refine all fun v_ => ?_)
  all_goals clear fA_ fH_
  rename_i bw
  rename Nat => br
  rw [tab_new l (w.stem ++ w.loop) w.stem.length]
  refine J_loopV (X := Nat) (fun i => [(0, .d (opsD l)), (3, .val (.pointer (some ⟨bw, 0, none⟩))), (5, .int ((w.stem.length : Int) + w.loop.length)), (6, .val (.slice (some ⟨br, 0, none⟩) l.length l.length)), (7, .int ((i : Int) - 1))]) (fun i => [.cells br 73 (tabR l (w.stem ++ w.loop) w.stem.length i), .cells bw 69 [.d (lettD w.stem), .d (lettD w.loop)]]) (fun i => i ≤ l.length) (fun i => i) l.length (Nat.le_refl _) (VS.of_le ?_) ?_
  · repeat (first
      | exact Env.le_nil _
      | refine Env.le_cons (AV.le_refl _) ?_
      | refine Env.le_cons (AV.le_int rfl (by first | rfl | omega | (dsimp only; omega))) ?_)
  intro i hi
  cases i with
  | zero =>
    all_goals haveI fA_ : FlagA := ⟨⟩
    all_goals haveI fH_ : FlagH := ⟨⟩
    repeat' (first
      | exact True.intro
      | refine stp ?_
      | refine two ?_ ?_
      | refine allc fun c_ => ?_
      | (refine imp fun hc => ?_) <;> try (first | contradiction | (exfalso; omega) | (exfalso; exact absurd (of_dT hc) (by assumption)) | (exfalso; exact of_dF hc (by assumption)))
      | refine all fun v_ => ?_)
    all_goals clear fA_ fH_
    rw [tabR_all]
    refine retv (vfz (t := 4) (f := lettC) (h1 := []) 1 24 rfl rfl rfl (letts_flat _) (by simp) (fun _ => rfl) (by omega) (by omega)) ?_
    ((with_reducible apply rq1); rfl; rfl)
    exact ret_eq rfl
  | succ m =>
    have hm : m < l.length := by omega
    have hm1 : ((m + 1 : Nat) : Int) - 1 = (m : Int) := by omega
    have hblt : Nat.blt m (tabR l (w.stem ++ w.loop) w.stem.length (m + 1)).length = true := blt_of (by rw [tabR_len]; exact hm)
    rw [hm1]
    all_goals haveI fA_ : FlagA := ⟨⟩
    all_goals haveI fH_ : FlagH := ⟨⟩
    repeat' (first
      | exact True.intro
      | refine stp ?_
      | refine two ?_ ?_
      | refine allc fun c_ => ?_
      | (refine imp fun hc => ?_) <;> try (first | contradiction | (exfalso; omega) | (exfalso; exact absurd (of_dT hc) (by assumption)) | (exfalso; exact of_dF hc (by assumption)))
      | refine all fun v_ => ?_)
    all_goals clear fA_ fH_
    refine J_loopV (X := Nat × Sl) (fun y => [(0, .d (opsD l)), (3, .val (.pointer (some ⟨bw, 0, none⟩))), (5, .int ((w.stem.length : Int) + w.loop.length)), (6, .val (.slice (some ⟨br, 0, none⟩) l.length l.length)), (7, .int m), (8, .val y.2.v), (9, .int y.1)]) (fun y => [rowE y.2.v 4 1 boolC ((List.range y.1).map (wAt l (w.stem ++ w.loop) w.stem.length m)), .cells br 73 (tabR l (w.stem ++ w.loop) w.stem.length (m + 1)), .cells bw 69 [.d (lettD w.stem), .d (lettD w.loop)]]) (fun y => y.1 ≤ w.stem.length + w.loop.length) (fun y => w.stem.length + w.loop.length - y.1) (0, Sl.nil) (Nat.zero_le _) (VS.trans (VS.nilrow 4 1) (VS.of_le ?_)) ?_
    · repeat (first
        | exact Env.le_nil _
        | refine Env.le_cons (AV.le_refl _) ?_
        | refine Env.le_cons (AV.le_int rfl (by first | rfl | omega | (dsimp only; omega))) ?_)
    rintro ⟨j, q⟩ hj
    dsimp only at hj ⊢
    have hlj : ((List.range j).map (wAt l (w.stem ++ w.loop) w.stem.length m)).length = j := by simp
    by_cases hjl : j < w.stem.length + w.loop.length
    · have S := said G l w p br m j (tabR l (w.stem ++ w.loop) w.stem.length (m + 1)) g hw0 hm (by omega) hs12 hl1 hl12 hal6 (fun j' h1 h2 => tabR_get (by omega) h2)
      have hsn : (List.range j).map (wAt l (w.stem ++ w.loop) w.stem.length m) ++ [wAt l (w.stem ++ w.loop) w.stem.length m j] = (List.range (j + 1)).map (wAt l (w.stem ++ w.loop) w.stem.length m) := by simp [List.range_succ]
      all_goals haveI fA_ : FlagA := ⟨⟩
      all_goals haveI fH_ : FlagH := ⟨⟩
      repeat' (first
        | ((with_reducible apply callG); (focus rfl); (focus exact cal_said); (focus exact S); (focus ((repeat (first | with_reducible exact Take.nil | ((with_reducible apply Take.cons); (focus ((repeat (first | with_reducible exact Sel.here | with_reducible apply Sel.there)); done))))); done)); (focus rfl); (focus (intro v_; (repeat (first | exact App.nil | apply App.cons)); done)))
        | exact True.intro
        | refine stp ?_
        | refine two ?_ ?_
        | refine allc fun c_ => ?_
        | (refine imp fun hc => ?_) <;> try (first | contradiction | (exfalso; omega) | (exfalso; exact absurd (of_dT hc) (by assumption)) | (exfalso; exact of_dF hc (by assumption)))
        | refine all fun v_ => ?_)
      all_goals clear fA_ fH_
      rw [hsn]
      refine ⟨(j + 1, v_), by dsimp only; omega, by dsimp only; omega, VS.take (by ((repeat (first | with_reducible exact Take.nil | ((with_reducible apply Take.cons); (focus ((repeat (first | with_reducible exact Sel.here | with_reducible apply Sel.there)); done))))); done)) ?_⟩
      repeat (first
        | exact Env.le_nil _
        | refine Env.le_cons (AV.le_refl _) ?_
        | refine Env.le_cons (AV.le_int rfl (by first | rfl | omega | (dsimp only; omega))) ?_)
    obtain rfl : j = w.stem.length + w.loop.length := by omega
    all_goals haveI fA_ : FlagA := ⟨⟩
    all_goals haveI fH_ : FlagH := ⟨⟩
    repeat' (first
      | ((with_reducible apply js_u); (focus rfl); (focus rfl); (focus rfl); (focus (with_reducible exact ElC.h)); (focus ((repeat (first | with_reducible exact Upd.here | with_reducible apply Upd.there)); done)); (focus exact hblt))
      | exact True.intro
      | refine stp ?_
      | refine two ?_ ?_
      | refine allc fun c_ => ?_
      | (refine imp fun hc => ?_) <;> try (first | contradiction | (exfalso; omega) | (exfalso; exact absurd (of_dT hc) (by assumption)) | (exfalso; exact of_dF hc (by assumption)))
      | refine all fun v_ => ?_)
    all_goals clear fA_ fH_
    rw [← hN]
    refine ⟨m, by omega, by omega, VS.trans (VS.take (hc := [rowE q.v 4 1 boolC (wRow l (w.stem ++ w.loop) w.stem.length m), .cells br 73 ((tabR l (w.stem ++ w.loop) w.stem.length (m + 1)).set m (.val q.v)), .cells bw 69 [.d (lettD w.stem), .d (lettD w.loop)]]) (by ((repeat (first | exact Take.nil | ((with_reducible apply Take.cons); (focus ((repeat (first | exact Sel.here | with_reducible apply Sel.there)); done))))); done)) (Env.le_refl _)) (VS.trans (vdat (f := boolC) (h1 := []) (h2 := [.cells br 73 ((tabR l (w.stem ++ w.loop) w.stem.length (m + 1)).set m (.val q.v)), .cells bw 69 [.d (lettD w.stem), .d (lettD w.loop)]]) (h' := [.cells br 73 (tabR l (w.stem ++ w.loop) w.stem.length m), .cells bw 69 [.d (lettD w.stem), .d (lettD w.loop)]]) 1 rfl rfl (fun _ => rfl) (by rw [wRow_len]; omega) (CvE.refl _ _ _) (.cells (by rw [← tabR_set hm]; exact Cvs.at _ _ _ _) (.refl _))) (VS.of_le ?_))⟩
    repeat (first
      | exact Env.le_nil _
      | refine Env.le_cons (AV.le_refl _) ?_
      | refine Env.le_cons (AV.le_int rfl (by first | rfl | omega | (dsimp only; omega))) ?_)
theorem formulaAndWord (G : List (Nat × List D)) (l : List Fo) (w : Wd) (p : Int) : ACr Tryz.prog G 151 [.d (opsD l), wdA w, .int p] (.int (if formF l p ≠ 0 then formF l p else wordF w p)) := by
  have hC := FormulaFault G l p
  refine AC_ofV (ts := [6]) Tryz.f151.ntmps Tryz.func151 rfl rfl rfl (by simp [Tryz.ntmps151]) fun W I => ?_
  generalize formF l p = e at hC ⊢
  by_cases he : e = 0
  · all_goals haveI fA_ : FlagA := ⟨⟩
    all_goals haveI fH_ : FlagH := ⟨⟩
    repeat' (first
      | ((with_reducible apply call0); (focus rfl); (focus exact cal_FormulaFault); (focus exact hC); (focus rfl))
      | ((with_reducible apply je_call0); (focus rfl); (focus (decide +kernel)); (focus rfl); (focus exact cal_FormulaFault); (focus exact hC); (focus rfl))
      | ((with_reducible apply call0); (focus rfl); (focus exact cal_WordFault); (focus exact WordFault _ _ _); (focus rfl))
      | ((with_reducible apply je_call0); (focus rfl); (focus (decide +kernel)); (focus rfl); (focus exact cal_WordFault); (focus exact WordFault _ _ _); (focus rfl))
      | exact True.intro
      | refine stp ?_
      | refine two ?_ ?_
      | refine allc fun c_ => ?_
      | (refine imp fun hc => ?_) <;> try (first | contradiction | (exfalso; omega) | (exfalso; exact absurd (of_dT hc) (by assumption)) | (exfalso; exact of_dF hc (by assumption)))
      | refine all fun v_ => ?_)
    all_goals clear fA_ fH_
    refine retv (VS.drop (List.nil_sublist _)) ?_
    skip
    ((with_reducible apply rq1); rfl; rfl)
    exact ret_eq (by rw [if_neg (fun h => h he)])
  · all_goals haveI fA_ : FlagA := ⟨⟩
    all_goals haveI fH_ : FlagH := ⟨⟩
    repeat' (first
      | ((with_reducible apply call0); (focus rfl); (focus exact cal_FormulaFault); (focus exact hC); (focus rfl))
      | ((with_reducible apply je_call0); (focus rfl); (focus (decide +kernel)); (focus rfl); (focus exact cal_FormulaFault); (focus exact hC); (focus rfl))
      | ((with_reducible apply call0); (focus rfl); (focus exact cal_WordFault); (focus exact WordFault _ _ _); (focus rfl))
      | ((with_reducible apply je_call0); (focus rfl); (focus (decide +kernel)); (focus rfl); (focus exact cal_WordFault); (focus exact WordFault _ _ _); (focus rfl))
      | exact True.intro
      | refine stp ?_
      | refine two ?_ ?_
      | refine allc fun c_ => ?_
      | (refine imp fun hc => ?_) <;> try (first | contradiction | (exfalso; omega) | (exfalso; exact absurd (of_dT hc) (by assumption)) | (exfalso; exact of_dF hc (by assumption)))
      | refine all fun v_ => ?_)
    all_goals clear fA_ fH_
    refine retv (VS.drop (List.nil_sublist _)) ?_
    skip
    ((with_reducible apply rq1); rfl; rfl)
    exact ret_eq (by rw [if_pos he])
noncomputable def momsF (l : List Fo) (w : Wd) (p : Int) : List Bool × Int := if formF l p ≠ 0 then ([], formF l p) else if wordF w p ≠ 0 then ([], wordF w p) else (wRow l (wal w) w.stem.length 0, 0)
theorem wRows_get (l : List Fo) (al : List (List Bool)) (s i : Nat) (h : i < (wRows l al s).length) : (wRows l al s)[i] = wRow l al s i := by simp
theorem MomentsOf (G : List (Nat × List D)) (l : List Fo) (w : Wd) (p : Int) : ACr Tryz.prog G 88 [.d (opsD l), wdA w, .int p] (.tup [.d (boolsD (momsF l w p).1), .int (momsF l w p).2]) := by
  have E := formulaAndWord G l w p
  refine AC_ofV (ts := [6, 7]) Tryz.f88.ntmps Tryz.func88 rfl rfl rfl (by simp [Tryz.ntmps88]) fun W I => ?_
  by_cases h1 : formF l p = 0
  · by_cases h2 : wordF w p = 0
    · rw [if_neg (fun h => h h1), h2] at E
      have g := good_of h1
      have hpos := g.pos
      have hw0 : 0 < (wRows l (wal w) w.stem.length).length := by simpa using hpos
      have F := rowsOf G l w p g h2
      have hF := wRows_get l (wal w) w.stem.length 0 hw0
      generalize wRows l (wal w) w.stem.length = rs at F hw0 hF
      all_goals haveI fA_ : FlagA := ⟨⟩
      all_goals haveI fH_ : FlagH := ⟨⟩
      repeat' (first
        | ((with_reducible apply call0); (focus rfl); (focus exact cal_formulaAndWord); (focus exact E); (focus rfl))
        | ((with_reducible apply je_call0); (focus rfl); (focus (decide +kernel)); (focus rfl); (focus exact cal_formulaAndWord); (focus exact E); (focus rfl))
        | ((with_reducible apply call0); (focus rfl); (focus exact cal_rowsOf); (focus exact F); (focus rfl))
        | ((with_reducible apply je_call0); (focus rfl); (focus (decide +kernel)); (focus rfl); (focus exact cal_rowsOf); (focus exact F); (focus rfl))
        | exact True.intro
        | refine stp ?_
        | refine two ?_ ?_
        | refine allc fun c_ => ?_
        | (refine imp fun hc => ?_) <;> try (first | contradiction | (exfalso; omega) | (exfalso; exact absurd (of_dT hc) (by assumption)) | (exfalso; exact of_dF hc (by assumption)))
        | refine all fun v_ => ?_)
      all_goals clear fA_ fH_
      refine retv (VS.drop (List.nil_sublist _)) ?_
      skip
      ((with_reducible apply rq2); rfl; rfl; rfl)
      refine ret_eq ?_
      rw [momsF, if_neg (fun h => h h1), if_neg (fun h => h h2), ← hF]; rfl
    · rw [if_neg (fun h => h h1)] at E
      all_goals haveI fA_ : FlagA := ⟨⟩
      all_goals haveI fH_ : FlagH := ⟨⟩
      repeat' (first
        | ((with_reducible apply call0); (focus rfl); (focus exact cal_formulaAndWord); (focus exact E); (focus rfl))
        | ((with_reducible apply je_call0); (focus rfl); (focus (decide +kernel)); (focus rfl); (focus exact cal_formulaAndWord); (focus exact E); (focus rfl))
        | exact True.intro
        | refine stp ?_
        | refine two ?_ ?_
        | refine allc fun c_ => ?_
        | (refine imp fun hc => ?_) <;> try (first | contradiction | (exfalso; omega) | (exfalso; exact absurd (of_dT hc) (by assumption)) | (exfalso; exact of_dF hc (by assumption)))
        | refine all fun v_ => ?_)
      all_goals clear fA_ fH_
      refine retv (VS.trans (VS.drop (List.nil_sublist _)) (vnil (t := 6) 1 1 rfl)) ?_
      ((with_reducible apply rq2); rfl; rfl; rfl)
      refine ret_eq ?_
      rw [momsF, if_neg (fun h => h h1), if_pos h2]; rfl
  · rw [if_pos h1] at E
    all_goals haveI fA_ : FlagA := ⟨⟩
    all_goals haveI fH_ : FlagH := ⟨⟩
    repeat' (first
      | ((with_reducible apply call0); (focus rfl); (focus exact cal_formulaAndWord); (focus exact E); (focus rfl))
      | ((with_reducible apply je_call0); (focus rfl); (focus (decide +kernel)); (focus rfl); (focus exact cal_formulaAndWord); (focus exact E); (focus rfl))
      | exact True.intro
      | refine stp ?_
      | refine two ?_ ?_
      | refine allc fun c_ => ?_
      | (refine imp fun hc => ?_) <;> try (first | contradiction | (exfalso; omega) | (exfalso; exact absurd (of_dT hc) (by assumption)) | (exfalso; exact of_dF hc (by assumption)))
      | refine all fun v_ => ?_)
    all_goals clear fA_ fH_
    refine retv (VS.trans (VS.drop (List.nil_sublist _)) (vnil (t := 6) 1 1 rfl)) ?_
    ((with_reducible apply rq2); rfl; rfl; rfl)
    refine ret_eq ?_
    rw [momsF, if_pos h1]; rfl
theorem Moments (l : List Fo) (w : Wd) (p : Int) : ACr Tryz.prog GP 83 [.d (opsD l), wdA w, .int p] (.tup [.d (boolsD (momsF l w p).1), .int (momsF l w p).2]) := by
  refine AC_ofV (ts := [6, 7]) Tryz.f83.ntmps Tryz.func83 rfl rfl rfl (by simp [Tryz.ntmps83]) fun W I => ?_
  by_cases h1 : formF l p = 0
  · by_cases h2 : wordF w p = 0
    · have E := open_0 l w p h1 h2
      have g := good_of h1
      have hpos := g.pos
      have hT : (tabR l (w.stem ++ w.loop) w.stem.length 0)[0]? = some (.d (boolsD (wRow l (w.stem ++ w.loop) w.stem.length 0))) := tabR_get (Nat.le_refl _) hpos
      generalize tabR l (w.stem ++ w.loop) w.stem.length 0 = R at E hT
      all_goals haveI fA_ : FlagA := ⟨⟩
      all_goals haveI fH_ : FlagH := ⟨⟩
      repeat' (first
        | ((with_reducible apply callG); (focus rfl); (focus exact cal_wopen); (focus exact E); (focus ((repeat (first | with_reducible exact Take.nil | ((with_reducible apply Take.cons); (focus ((repeat (first | with_reducible exact Sel.here | with_reducible apply Sel.there)); done))))); done)); (focus rfl); (focus (intro v_; (repeat (first | exact App.nil | apply App.cons)); done)))
        | exact True.intro
        | refine stp ?_
        | refine two ?_ ?_
        | refine allc fun c_ => ?_
        | (refine imp fun hc => ?_) <;> try (first | contradiction | (exfalso; omega) | (exfalso; exact absurd (of_dT hc) (by assumption)) | (exfalso; exact of_dF hc (by assumption)))
        | refine all fun v_ => ?_)
      all_goals clear fA_ fH_
      refine retv (VS.drop (List.nil_sublist _)) ?_
      skip
      ((with_reducible apply rq2); rfl; rfl; rfl)
      refine ret_eq ?_
      rw [momsF, if_neg (fun h => h h1), if_neg (fun h => h h2)]
    · have E := open_2 l w p h1 h2
      all_goals haveI fA_ : FlagA := ⟨⟩
      all_goals haveI fH_ : FlagH := ⟨⟩
      repeat' (first
        | ((with_reducible apply call0); (focus rfl); (focus exact cal_wopen); (focus exact E); (focus rfl))
        | ((with_reducible apply je_call0); (focus rfl); (focus (decide +kernel)); (focus rfl); (focus exact cal_wopen); (focus exact E); (focus rfl))
        | exact True.intro
        | refine stp ?_
        | refine two ?_ ?_
        | refine allc fun c_ => ?_
        | (refine imp fun hc => ?_) <;> try (first | contradiction | (exfalso; omega) | (exfalso; exact absurd (of_dT hc) (by assumption)) | (exfalso; exact of_dF hc (by assumption)))
        | refine all fun v_ => ?_)
      all_goals clear fA_ fH_
      refine retv (VS.trans (VS.drop (List.nil_sublist _)) (vnil (t := 6) 1 1 rfl)) ?_
      ((with_reducible apply rq2); rfl; rfl; rfl)
      refine ret_eq ?_
      rw [momsF, if_neg (fun h => h h1), if_pos h2]; rfl
  · have E := open_1 l w p h1
    all_goals haveI fA_ : FlagA := ⟨⟩
    all_goals haveI fH_ : FlagH := ⟨⟩
    repeat' (first
      | ((with_reducible apply call0); (focus rfl); (focus exact cal_wopen); (focus exact E); (focus rfl))
      | ((with_reducible apply je_call0); (focus rfl); (focus (decide +kernel)); (focus rfl); (focus exact cal_wopen); (focus exact E); (focus rfl))
      | exact True.intro
      | refine stp ?_
      | refine two ?_ ?_
      | refine allc fun c_ => ?_
      | (refine imp fun hc => ?_) <;> try (first | contradiction | (exfalso; omega) | (exfalso; exact absurd (of_dT hc) (by assumption)) | (exfalso; exact of_dF hc (by assumption)))
      | refine all fun v_ => ?_)
    all_goals clear fA_ fH_
    refine retv (VS.trans (VS.drop (List.nil_sublist _)) (vnil (t := 6) 1 1 rfl)) ?_
    ((with_reducible apply rq2); rfl; rfl; rfl)
    refine ret_eq ?_
    rw [momsF, if_pos h1]; rfl
noncomputable def holdsF (l : List Fo) (w : Wd) (p : Int) : Bool × Int := if (momsF l w p).2 ≠ 0 then (false, (momsF l w p).2) else (((momsF l w p).1[0]?).getD false, 0)
theorem momsF_ok {l : List Fo} {w : Wd} {p : Int} (h : (momsF l w p).2 = 0) : 0 < (momsF l w p).1.length := by
  unfold momsF at h ⊢
  by_cases h1 : formF l p ≠ 0
  · rw [if_pos h1] at h; exact absurd h h1
  rw [if_neg h1] at h ⊢
  by_cases h2 : wordF w p ≠ 0
  · rw [if_pos h2] at h; exact absurd h h2
  rw [if_neg h2]
  have := wordF_ok (Decidable.not_not.1 h2)
  simp [wRow]; omega
theorem WHolds  (l : List Fo) (w : Wd) (p : Int) : ACr Tryz.prog GP 27 [.d (opsD l), wdA w, .int p] (.tup [.bool (holdsF l w p).1, .int (holdsF l w p).2]) := by
  have E := Moments l w p
  have hk := momsF_ok (l := l) (w := w) (p := p)
  unfold holdsF
  generalize momsF l w p = q at E hk ⊢
  obtain ⟨r, e⟩ := q
  dsimp only at E hk ⊢
  refine AC_ofV (ts := [6, 7]) Tryz.f27.ntmps Tryz.func27 rfl rfl rfl (by simp [Tryz.ntmps27]) fun W I => ?_
  by_cases he : e = 0
  · have hr := hk he
    all_goals haveI fA_ : FlagA := ⟨⟩
    all_goals haveI fH_ : FlagH := ⟨⟩
    repeat' (first
      | ((with_reducible apply call0); (focus rfl); (focus exact cal_Moments); (focus exact E); (focus rfl))
      | ((with_reducible apply je_call0); (focus rfl); (focus (decide +kernel)); (focus rfl); (focus exact cal_Moments); (focus exact E); (focus rfl))
      | exact True.intro
      | refine stp ?_
      | refine two ?_ ?_
      | refine allc fun c_ => ?_
      | (refine imp fun hc => ?_) <;> try (first | contradiction | (exfalso; omega) | (exfalso; exact absurd (of_dT hc) (by assumption)) | (exfalso; exact of_dF hc (by assumption)))
      | refine all fun v_ => ?_)
    all_goals clear fA_ fH_
    refine retv (VS.drop (List.nil_sublist _)) ?_
    skip
    ((with_reducible apply rq2); rfl; rfl; rfl)
    refine ret_eq ?_
    rw [if_neg (fun h => h he), List.getElem?_eq_getElem hr]; rfl
  · all_goals haveI fA_ : FlagA := ⟨⟩
    all_goals haveI fH_ : FlagH := ⟨⟩
    repeat' (first
      | ((with_reducible apply call0); (focus rfl); (focus exact cal_Moments); (focus exact E); (focus rfl))
      | ((with_reducible apply je_call0); (focus rfl); (focus (decide +kernel)); (focus rfl); (focus exact cal_Moments); (focus exact E); (focus rfl))
      | exact True.intro
      | refine stp ?_
      | refine two ?_ ?_
      | refine allc fun c_ => ?_
      | (refine imp fun hc => ?_) <;> try (first | contradiction | (exfalso; omega) | (exfalso; exact absurd (of_dT hc) (by assumption)) | (exfalso; exact of_dF hc (by assumption)))
      | refine all fun v_ => ?_)
    all_goals clear fA_ fH_
    refine retv (VS.drop (List.nil_sublist _)) ?_
    skip
    ((with_reducible apply rq2); rfl; rfl; rfl)
    refine ret_eq ?_
    rw [if_pos he]
theorem HoldsOf (G : List (Nat × List D)) (l : List Fo) (w : Wd) (p : Int) : ACr Tryz.prog G 34 [.d (opsD l), wdA w, .int p] (.tup [.bool (holdsF l w p).1, .int (holdsF l w p).2]) := by
  have E := MomentsOf G l w p
  have hk := momsF_ok (l := l) (w := w) (p := p)
  unfold holdsF
  generalize momsF l w p = q at E hk ⊢
  obtain ⟨r, e⟩ := q
  dsimp only at E hk ⊢
  refine AC_ofV (ts := [6, 7]) Tryz.f34.ntmps Tryz.func34 rfl rfl rfl (by simp [Tryz.ntmps34]) fun W I => ?_
  by_cases he : e = 0
  · have hr := hk he
    all_goals haveI fA_ : FlagA := ⟨⟩
    all_goals haveI fH_ : FlagH := ⟨⟩
    repeat' (first
      | ((with_reducible apply call0); (focus rfl); (focus exact cal_MomentsOf); (focus exact E); (focus rfl))
      | ((with_reducible apply je_call0); (focus rfl); (focus (decide +kernel)); (focus rfl); (focus exact cal_MomentsOf); (focus exact E); (focus rfl))
      | exact True.intro
      | refine stp ?_
      | refine two ?_ ?_
      | refine allc fun c_ => ?_
      | (refine imp fun hc => ?_) <;> try (first | contradiction | (exfalso; omega) | (exfalso; exact absurd (of_dT hc) (by assumption)) | (exfalso; exact of_dF hc (by assumption)))
      | refine all fun v_ => ?_)
    all_goals clear fA_ fH_
    refine retv (VS.drop (List.nil_sublist _)) ?_
    skip
    ((with_reducible apply rq2); rfl; rfl; rfl)
    refine ret_eq ?_
    rw [if_neg (fun h => h he), List.getElem?_eq_getElem hr]; rfl
  · all_goals haveI fA_ : FlagA := ⟨⟩
    all_goals haveI fH_ : FlagH := ⟨⟩
    repeat' (first
      | ((with_reducible apply call0); (focus rfl); (focus exact cal_MomentsOf); (focus exact E); (focus rfl))
      | ((with_reducible apply je_call0); (focus rfl); (focus (decide +kernel)); (focus rfl); (focus exact cal_MomentsOf); (focus exact E); (focus rfl))
      | exact True.intro
      | refine stp ?_
      | refine two ?_ ?_
      | refine allc fun c_ => ?_
      | (refine imp fun hc => ?_) <;> try (first | contradiction | (exfalso; omega) | (exfalso; exact absurd (of_dT hc) (by assumption)) | (exfalso; exact of_dF hc (by assumption)))
      | refine all fun v_ => ?_)
    all_goals clear fA_ fH_
    refine retv (VS.drop (List.nil_sublist _)) ?_
    skip
    ((with_reducible apply rq2); rfl; rfl; rfl)
    refine ret_eq ?_
    rw [if_pos he]
end Go.Proofs.YtcikppldaepodaaGreatDoor
