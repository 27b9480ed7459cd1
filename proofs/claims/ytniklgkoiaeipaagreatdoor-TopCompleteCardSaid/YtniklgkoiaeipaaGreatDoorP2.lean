/- A bundle of this claim's own texts: N15 G28 K10. -/
import Derived.Test.YtniklgkoiaeipaaGreatDoorD18
import Derived.Test.YtniklgkoiaeipaaGreatDoorD21
import Derived.Test.YtniklgkoiaeipaaGreatDoorD23
import Derived.Test.YtniklgkoiaeipaaGreatDoorD34
import Derived.Test.YtniklgkoiaeipaaGreatDoorD35
import Derived.Test.YtniklgkoiaeipaaGreatDoorD40
import Derived.Test.YtniklgkoiaeipaaGreatDoorD41
set_option linter.unusedVariables false
set_option linter.unusedSimpArgs false
set_option maxRecDepth 100000
set_option maxHeartbeats 4000000
namespace Go.Sp
open Go Go.Av
noncomputable def lettersF (t : Tk) (l : List Int) : List (List Bool) := l.map fun c => (letF t.model t.props c).1
end Go.Sp
namespace Go.Proofs.YtniklgkoiaeipaaGreatDoor
open Go Go.Av Go.Sp
theorem cal_letters : Cal Tryz.prog 81 := Cal.of Tryz.func81 (by kernel_rfl) (by kernel_rfl)
theorem cal_Keeps : Cal Tryz.prog 34 := Cal.of Tryz.func34 (by kernel_rfl) (by kernel_rfl)
noncomputable def keepsF (t : Tk) (stem loop : List Int) : Bool × Int :=
 if taskF t ≠ 0 then (false, taskF t)
 else if 12 < stem.length ∨ 12 < loop.length then (false, 1)
 else if (runF t.model stem loop).1 = false then (false, 11)
 else holdsF t.formula ⟨lettersF t stem, lettersF t loop⟩ t.props.length
theorem lettersF_succ (t : Tk) (l : List Int) (i : Nat) (h : i < l.length) : lettersF t (l.take (i + 1)) = lettersF t (l.take i) ++ [(letF t.model t.props l[i]).1] := by
 unfold lettersF
 rw [List.take_succ_eq_append_getElem h, List.map_append]; rfl
theorem lettersF_len (t : Tk) (l : List Int) : (lettersF t l).length = l.length := by simp [lettersF]
theorem armXN15_1 {p q : Prop} (hp : p) (h : p → q := by
 apply cmp; (focus (first
  | ((with_reducible apply call0); (focus rfl); (focus exact cal_Letter); (focus exact hL); (focus rfl))
  | ((with_reducible apply je_call0); (focus rfl); (focus (decide +kernel)); (focus rfl); (focus exact cal_Letter); (focus exact hL); (focus rfl))
  ))
 exact fun h => h) : q := h hp
theorem letters (t : Tk) (l : List Int) (hl : l.length ≤ 1000) : ACr Tryz.prog GP 81 [tkA t, .d (intsD l)] (.d (lettD (lettersF t l))) := by
 refine AC_ofV (ts := [4]) Tryz.f81.ntmps Tryz.func81 rfl rfl rfl (by simp [Tryz.ntmps81]) fun W I => ?_
 repeat' (first
  | exact True.intro | refine stpH ?_ | refine two ?_ ?_ | refine allc fun c_ => ?_
  | (refine imp fun hc => ?_) <;> try exact cx1 hc
  | refine all fun v_ => ?_)
 obtain ⟨bt, rfl⟩ : ∃ x, x = v_ := ⟨v_, rfl⟩
 refine jrow (E := 72) (sz := 1) lettC ?_
 refine J_loopV (X := Nat × Sl) (fun y => [(2, .val (.pointer (some ⟨bt, 0, none⟩))), (5, .val y.2.v), (10, .d (intsD l)), (11, .int l.length), (12, .int y.1)]) (fun y => [rowE y.2.v 72 1 lettC (lettersF t (l.take y.1)), .cells bt 29 [.d (varsD t.model.vars), .d (rulesD t.model.rules), .d (termsD t.props), .d (opsD t.formula)]]) (fun y => y.1 ≤ l.length) (fun y => l.length - y.1) (0, Sl.nil) (Nat.zero_le _) (VS.take (by exact takedD) ?_) ?_
 · exact leD
 rintro ⟨i, q⟩ hi
 dsimp only at hi ⊢
 have hll := lettersF_len t (l.take i)
 rw [List.length_take] at hll
 by_cases hil : i < l.length
 · have hs := lettersF_succ t l i hil
   have hL := Letter t.model t.props l[i]
   generalize letF t.model t.props l[i] = p at hL hs
   obtain ⟨x, e⟩ := p
   dsimp only at hL hs
   repeat' (first
    | refine armXN15_1 ?_
    | exact True.intro | refine stpH ?_ | refine two ?_ ?_ | refine allc fun c_ => ?_
    | (refine imp fun hc => ?_) <;> try exact cx1 hc
    | refine all fun v_ => ?_)
   refine ⟨(i + 1, v_), by dsimp only; omega, by dsimp only; omega, VS.take (by dsimp only; rw [hs]; exact takedD) ?_⟩
   exact leD
 obtain rfl : i = l.length := by omega
 rw [List.take_length] at hll ⊢
 repeat' (first
  | exact True.intro | refine stpH ?_ | refine two ?_ ?_ | refine allc fun c_ => ?_
  | (refine imp fun hc => ?_) <;> try exact cx1 hc
  | refine all fun v_ => ?_)
 refine retv (VS.trans (vfreeze (t := 4) (eb := 24) rfl rfl (fun x => rfl) (by omega)) (VS.drop (List.nil_sublist _))) ?_
 ((with_reducible apply rq1); rfl; rfl)
 exact ret_eq rfl
theorem armXN15_2 {p q : Prop} (hp : p) (h : p → q := by
 apply cmp; (focus (first
  | ((with_reducible apply call0); (focus rfl); (focus exact cal_PCheck); (focus exact hP); (focus rfl))
  | ((with_reducible apply je_call0); (focus rfl); (focus (decide +kernel)); (focus rfl); (focus exact cal_PCheck); (focus exact hP); (focus rfl))
  ))
 exact fun h => h) : q := h hp
theorem armXN15_3 {p q : Prop} (hp : p) (h : p → q := by
 apply cmp; (focus (first
  | ((with_reducible apply call0); (focus rfl); (focus exact cal_PCheck); (focus exact hP); (focus rfl))
  | ((with_reducible apply je_call0); (focus rfl); (focus (decide +kernel)); (focus rfl); (focus exact cal_PCheck); (focus exact hP); (focus rfl))
  | ((with_reducible apply call0); (focus rfl); (focus exact cal_Runs); (focus exact hR); (focus rfl))
  | ((with_reducible apply je_call0); (focus rfl); (focus (decide +kernel)); (focus rfl); (focus exact cal_Runs); (focus exact hR); (focus rfl))
  | ((with_reducible apply call0); (focus rfl); (focus exact cal_letters); (focus exact letters _ _ (by omega)); (focus rfl))
  | ((with_reducible apply je_call0); (focus rfl); (focus (decide +kernel)); (focus rfl); (focus exact cal_letters); (focus exact letters _ _ (by omega)); (focus rfl))
  | ((with_reducible apply call0); (focus rfl); (focus exact cal_WHolds); (focus exact hH); (focus rfl))
  | ((with_reducible apply je_call0); (focus rfl); (focus (decide +kernel)); (focus rfl); (focus exact cal_WHolds); (focus exact hH); (focus rfl))
  ))
 exact fun h => h) : q := h hp
theorem Keeps (t : Tk) (stem loop : List Int) : ACr Tryz.prog GP 34 [tkA t, .agg [.d (intsD stem), .d (intsD loop)]] (.tup [.bool (keepsF t stem loop).1, .int (keepsF t stem loop).2]) := by
 have hP := PCheck t
 refine AC_ofV (ts := [4, 5]) Tryz.f34.ntmps Tryz.func34 rfl rfl rfl (by simp [Tryz.ntmps34]) fun W I => ?_
 unfold keepsF
 by_cases h1 : taskF t ≠ 0
 · rw [if_pos h1]
   generalize taskF t = e at hP h1
   repeat' (first
    | refine armXN15_2 ?_
    | exact True.intro | refine stpH ?_ | refine two ?_ ?_ | refine allc fun c_ => ?_
    | (refine imp fun hc => ?_) <;> try exact cx1 hc
    | refine all fun v_ => ?_)
   refine retv (VS.drop (List.nil_sublist _)) ?_
   ((with_reducible apply rq2); rfl; rfl; rfl)
   exact ret_eq rfl
 rw [if_neg h1]
 replace h1 := Decidable.not_not.1 h1
 rw [h1] at hP
 by_cases h2 : 12 < stem.length
 · rw [if_pos (.inl h2)]
   repeat' (first
    | refine armXN15_2 ?_
    | exact True.intro | refine stpH ?_ | refine two ?_ ?_ | refine allc fun c_ => ?_
    | (refine imp fun hc => ?_) <;> try exact cx1 hc
    | refine all fun v_ => ?_)
   refine retv (VS.drop (List.nil_sublist _)) ?_
   ((with_reducible apply rq2); rfl; rfl; rfl)
   exact ret_eq rfl
 by_cases h3 : 12 < loop.length
 · rw [if_pos (.inr h3)]
   repeat' (first
    | refine armXN15_2 ?_
    | exact True.intro | refine stpH ?_ | refine two ?_ ?_ | refine allc fun c_ => ?_
    | (refine imp fun hc => ?_) <;> try exact cx1 hc
    | refine all fun v_ => ?_)
   refine retv (VS.drop (List.nil_sublist _)) ?_
   ((with_reducible apply rq2); rfl; rfl; rfl)
   exact ret_eq rfl
 rw [if_neg (by omega)]
 have hR := Runs t.model stem loop (by omega)
 generalize runF t.model stem loop = p at hR ⊢
 obtain ⟨yes, e⟩ := p
 dsimp only at hR ⊢
 cases yes with
 | false =>
   rw [if_pos rfl]
   repeat' (first
    | refine armXN15_3 ?_
    | exact True.intro | refine stpH ?_ | refine two ?_ ?_ | refine allc fun c_ => ?_
    | (refine imp fun hc => ?_) <;> try exact cx1 hc
    | refine all fun v_ => ?_)
   refine retv (VS.drop (List.nil_sublist _)) ?_
   ((with_reducible apply rq2); rfl; rfl; rfl)
   exact ret_eq rfl
 | true =>
   rw [if_neg (by decide)]
   have hH := WHolds t.formula ⟨lettersF t stem, lettersF t loop⟩ t.props.length
   repeat' (first
    | refine armXN15_3 ?_
    | exact True.intro | refine stpH ?_ | refine two ?_ ?_ | refine allc fun c_ => ?_
    | (refine imp fun hc => ?_) <;> try exact cx1 hc
    | refine all fun v_ => ?_)
   all_goals
    refine retv (VS.drop (List.nil_sublist _)) ?_
    ((with_reducible apply rq2); rfl; rfl; rfl)
    exact ret_eq rfl
end Go.Proofs.YtniklgkoiaeipaaGreatDoor
namespace Go.Sp
open Go Go.Av

section
variable {t : Tk} {e : Exp} {stem loop : List Nat}
theorem word_run {t : Tk} (h : taskF t = 0) (stem loop : List Int) (hne : loop ≠ []) (hv : ∀ c ∈ stem ++ loop, 0 ≤ c ∧ c < prodV t.model.vars) :
 wAt t.formula (lettersF t stem ++ lettersF t loop) stem.length 0 0 = iAt t.formula (sigF t (fun i => ((stem ++ loop)[momI stem.length (stem ++ loop).length i]?).getD 0)) 0 0 := by
 have hlp := List.length_pos_iff.2 hne
 have hal : (stem ++ loop).length = stem.length + loop.length := List.length_append
 have hl : lettersF t stem ++ lettersF t loop = lettersF t (stem ++ loop) := by simp [lettersF]
 rw [hl]
 have hlen : (lettersF t (stem ++ loop)).length = (stem ++ loop).length := by simp [lettersF]
 have key := wAt_inf t.formula (lettersF t (stem ++ loop)) stem.length (by omega) t.formula.length 0 (by omega) 0
 rw [show momI stem.length (lettersF t (stem ++ loop)).length 0 = 0 from rfl] at key
 rw [← key]
 congr 1
 funext i v
 rw [hlen]
 show letB (lettersF t (stem ++ loop)) (momI stem.length (stem ++ loop).length i) v = ((lettF t (((stem ++ loop)[momI stem.length (stem ++ loop).length i]?).getD 0))[v]?).getD false
 have hm := momI_lt (s := stem.length) (N := (stem ++ loop).length) (by omega) i
 generalize momI stem.length (stem ++ loop).length i = m at hm
 obtain ⟨c0, c1⟩ := hv _ (List.getElem_mem hm)
 unfold letB
 rw [List.getElem?_eq_getElem (show m < (lettersF t (stem ++ loop)).length by omega), List.getElem?_eq_getElem hm]
 simp only [Option.bind_some, Option.getD_some]
 congr 2
 simp only [lettersF, List.getElem_map]
 rw [lettF_ok h c0 c1]
end
end Go.Sp
namespace Go.Proofs.YtniklgkoiaeipaaGreatDoor
open Go Go.Av Go.Sp
theorem holdsF_word {t : Tk} (h : taskF t = 0) (stem loop : List Int) (hne : loop ≠ []) (hv : ∀ c ∈ stem ++ loop, 0 ≤ c ∧ c < prodV t.model.vars) (hs : stem.length ≤ 12) (hl : loop.length ≤ 12) :
 holdsF t.formula ⟨lettersF t stem, lettersF t loop⟩ t.props.length = (wAt t.formula (lettersF t stem ++ lettersF t loop) stem.length 0 0, 0) := by
 have hlp := List.length_pos_iff.2 hne
 obtain ⟨h1, h2, h3⟩ := taskF_ok h
 have hp := (propsF_few h1).2
 have q1 := lettersF_len t stem
 have q2 := lettersF_len t loop
 have hw : wordF ⟨lettersF t stem, lettersF t loop⟩ t.props.length = 0 := by
  refine wordF_0 ⟨by omega, by omega⟩ (by dsimp only; omega) (fun i hi => ?_)
  have hm := List.getElem_mem hi
  dsimp only at hm ⊢
  have key : ∀ x ∈ lettersF t stem ++ lettersF t loop, (x.length : Int) = t.props.length := fun x hx => by
   have hx' : ∃ c ∈ stem ++ loop, (letF t.model t.props c).1 = x := by
    rcases List.mem_append.1 hx with hx | hx
    · obtain ⟨c, hc, e⟩ := List.mem_map.1 hx
      exact ⟨c, List.mem_append_left _ hc, e⟩
    · obtain ⟨c, hc, e⟩ := List.mem_map.1 hx
      exact ⟨c, List.mem_append_right _ hc, e⟩
   obtain ⟨c, hc, rfl⟩ := hx'
   obtain ⟨c0, c1⟩ := hv c hc
   rw [lettF_ok h c0 c1, lettF_len]
  exact key _ hm
 have hm : momsF t.formula ⟨lettersF t stem, lettersF t loop⟩ t.props.length = (wRow t.formula (lettersF t stem ++ lettersF t loop) stem.length 0, 0) := by
  unfold momsF
  rw [if_neg (fun c => c h2), if_neg (fun c => c hw)]
  dsimp only
  rw [q1]
 unfold holdsF
 rw [hm, if_neg (fun c => c rfl)]
 dsimp only
 have hg : 0 < (wRow t.formula (lettersF t stem ++ lettersF t loop) stem.length 0).length := by
  rw [wRow_len, List.length_append]; omega
 rw [List.getElem?_eq_getElem hg, wRow_get]
 rfl
theorem keepsF_word {t : Tk} (h : taskF t = 0) (stem loop : List Int) (hne : loop ≠ []) (hv : ∀ c ∈ stem ++ loop, 0 ≤ c ∧ c < prodV t.model.vars) (hr : (runF t.model stem loop).1 = true) (hs : stem.length ≤ 12) (hl : loop.length ≤ 12) :
 keepsF t stem loop = (wAt t.formula (lettersF t stem ++ lettersF t loop) stem.length 0 0, 0) := by
 unfold keepsF
 rw [if_neg (fun c => c h), if_neg (by omega), if_neg (by rw [hr]; simp), holdsF_word h stem loop hne hv hs hl]
end Go.Proofs.YtniklgkoiaeipaaGreatDoor
