/- A bundle of this claim's own texts: M4 N2 M7. -/
import Derived.Test.YtnlfhnbcdfdhgaaGreatDoorF2
import Derived.Test.YtnlfhnbcdfdhgaaGreatDoorF3
import Derived.Test.YtnlfhnbcdfdhgaaGreatDoorF5
import Derived.Test.YtnlfhnbcdfdhgaaGreatDoorF8
import Derived.Test.YtnlfhnbcdfdhgaaGreatDoorF9
import Derived.Test.YtnlfhnbcdfdhgaaGreatDoorF12
set_option linter.unusedVariables false
set_option linter.unusedSimpArgs false
set_option maxRecDepth 100000
set_option maxHeartbeats 4000000
namespace Go.Proofs.YtnlfhnbcdfdhgaaGreatDoor
open Go Go.Av Go.Sp

end Go.Proofs.YtnlfhnbcdfdhgaaGreatDoor
namespace Go.Sp
open Go Go.Av
structure Tk where
 model : Md
 props : List (List Fo)
 formula : List Fo
abbrev tkA (t : Tk) : AV := .agg [.d (BT t.model.vars), .d (A2 t.model.rules), .d (BU t.props), .d (AO t.formula)]
noncomputable def BL (t : Tk) : Int := if Cd t.model t.props ≠ 0 then Cd t.model t.props else DT t.formula t.props.length
end Go.Sp
namespace Go.Proofs.YtnlfhnbcdfdhgaaGreatDoor
open Go Go.Av Go.Sp
theorem Wm  (t : Tk) : ACr Tryz.prog GP 75 [tkA t] (.int (BL t)) := by
 have hP := bq t.model t.props
 have hC := Check t.formula t.props.length
 unfold BL
 generalize Cd t.model t.props = e1 at hP ⊢
 generalize DT t.formula t.props.length = e2 at hC ⊢
 refine AJ (ts := [2]) Tryz.f75.ntmps Tryz.func75 rfl rfl rfl (by simp [Tryz.ntmps75]) fun W I => ?_
 by_cases h1 : e1 ≠ 0
 · repeat' (first
    | refine ca F8 (hP) ?_
    | refine ca Fl (hC) ?_
    | exact True.intro | refine AG ?_ | refine two ?_ ?_ | refine AF fun c_ => ?_
    | (refine imp fun hc => ?_) <;> try exact cx1 hc
    | refine all fun v_ => ?_)
   refine AN (VS.drop (List.nil_sublist _)) ?_
   ((with_reducible apply rq1); rfl; rfl)
   exact AB (by rw [if_pos h1])
 · repeat' (first
    | refine ca F8 (hP) ?_
    | refine ca Fl (hC) ?_
    | exact True.intro | refine AG ?_ | refine two ?_ ?_ | refine AF fun c_ => ?_
    | (refine imp fun hc => ?_) <;> try exact cx1 hc
    | refine all fun v_ => ?_)
   refine AN (VS.drop (List.nil_sublist _)) ?_
   ((with_reducible apply rq1); rfl; rfl)
   exact AB (by rw [if_neg h1])
end Go.Proofs.YtnlfhnbcdfdhgaaGreatDoor
namespace Go.Sp
open Go Go.Av
def inits (m : Md) : List Int := m.vars.map Vr.init
end Go.Sp
namespace Go.Proofs.YtnlfhnbcdfdhgaaGreatDoor
open Go Go.Av Go.Sp

theorem WH : Cal Tryz.prog 76 := Cal.of Tryz.func76 (by kernel_rfl) (by kernel_rfl)
theorem eN (m : Md) : ACr Tryz.prog GP 76 [mdA m] (.tup [.int (codeF m (inits m)).1, .int (codeF m (inits m)).2]) := by
 refine AC.factI (f := Vr.cells) (xs := m.vars) (.agg .here) fun hlv => ?_
 refine AJ (ts := [2, 3]) Tryz.f76.ntmps Tryz.func76 rfl rfl rfl (by simp [Tryz.ntmps76]) fun W I => ?_
 have hin : (inits m).length = m.vars.length := by simp [inits]
 repeat' (first
  | exact True.intro | refine AG ?_ | refine two ?_ ?_ | refine AF fun c_ => ?_
  | (refine imp fun hc => ?_) <;> try exact cx1 hc
  | refine all fun v_ => ?_)
 obtain ⟨bm, rfl⟩ : ∃ x, x = v_ := ⟨v_, rfl⟩
 refine F6 (E := 3) (sz := 1) Aa ?_
 refine AM (X := Nat × Sl) (fun y => [(1, .val (.pointer (some ⟨bm, 0, none⟩))), (4, .val y.2.v), (8, .d (BT m.vars)), (9, .int m.vars.length), (10, .int y.1)]) (fun y => [AH y.2.v 3 1 Aa ((inits m).take y.1), .cells bm 25 [.d (BT m.vars), .d (A2 m.rules)]]) (fun y => y.1 ≤ m.vars.length) (fun y => m.vars.length - y.1) (0, Sl.nil) (Nat.zero_le _) (VS.of_le ?_) ?_
 · exact leD
 rintro ⟨i, q⟩ h1
 dsimp only at h1 ⊢
 have hlen : ((inits m).take i).length = i := by rw [List.length_take]; omega
 by_cases hi : i < m.vars.length
 · have et : (inits m).take i ++ [m.vars[i].init] = (inits m).take (i + 1) := by rw [List.take_succ_eq_append_getElem (by omega)]; simp [inits]
   repeat' (first
    | exact True.intro | refine AG ?_ | refine two ?_ ?_ | refine AF fun c_ => ?_
    | (refine imp fun hc => ?_) <;> try exact cx1 hc
    | refine all fun v_ => ?_)
   refine ⟨(i + 1, v_), by dsimp only; omega, by dsimp only; omega, ?_⟩
   dsimp only
   rw [← et]
   refine VS.take (by exact AD) ?_
   exact leD
 obtain rfl : i = m.vars.length := by omega
 rw [List.take_of_length_le (by omega)]
 refine Ox (D1 (h1 := []) (h' := [.cells bm 25 [.d (BT m.vars), .d (A2 m.rules)]]) 8 rfl rfl (fun _ => rfl) (by omega) (CvE.cons (t := 4) rfl .here (CvE.refl _ _ _)) (CvH.refl _)) ?_
 repeat' (first
  | refine ca QU (Code _ _) ?_
  | exact True.intro | refine AG ?_ | refine two ?_ ?_ | refine AF fun c_ => ?_
  | (refine imp fun hc => ?_) <;> try exact cx1 hc
  | refine all fun v_ => ?_)
 refine AN (VS.drop (List.nil_sublist _)) ?_
 ((with_reducible apply rq2); rfl; rfl; rfl)
 exact AB rfl
end Go.Proofs.YtnlfhnbcdfdhgaaGreatDoor
