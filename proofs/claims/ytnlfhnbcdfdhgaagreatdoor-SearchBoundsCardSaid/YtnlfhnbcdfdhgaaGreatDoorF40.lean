/- A bundle of this claim's own texts: P10. -/
import Derived.Test.YtnlfhnbcdfdhgaaGreatDoorF39
set_option linter.unusedVariables false
set_option linter.unusedSimpArgs false
set_option maxRecDepth 100000
set_option maxHeartbeats 4000000
namespace Go.Proofs.YtnlfhnbcdfdhgaaGreatDoor
open Go Go.Av Go.Sp

theorem Jq (d : De) (hd : TY d) (raw : List Fo) (hr : BH raw) (l : List Fo) (hl : BH l) : ACr Tryz.prog GP 4 [deA d, .d (AO raw), .d (AO l)] (.bool true) := by
 have hT := Td GP d hd raw hr 2 (by decide)
 have hf := FoG.of raw (t := 2) (by decide)
 obtain ⟨e, he⟩ := Ho d hf
 have hE := GK (DP d (Bi raw 2))
 rw [ON he, he] at hE
 dsimp only at hE
 have g := HO he
 have ei : (A3 (DP d (Bi raw 2))).1.length = nkF (DP d (Bi raw 2)) 0 := rfl
 rw [ei] at hE
 generalize (Ai (DP d (Bi raw 2)).formula (DP d (Bi raw 2)).props.length).1.length = am at hE
 generalize DP d (Bi raw 2) = t at hT he hE g
 clear ei hf
 have hN := g.few
 have hM := PW l hl 30 (by decide)
 have hok := Ie l 30
 have hml := F2 l 30
 generalize C8 l 30 = ms at hM hok hml
 refine AJ (ts := [6]) Tryz.f4.ntmps Tryz.func4 rfl rfl rfl (by simp [Tryz.ntmps4]) fun W I => ?_
 repeat' (first
  | refine ca Hv (hT) ?_
  | refine ca Ci (hE) ?_
  | refine ca GO (hM) ?_
  | exact True.intro | refine AP ?_ | refine two ?_ ?_
  | (refine imp fun hc => ?_) <;> try exact cx hc
  | refine all fun v_ => ?_)
 obtain ⟨bg, rfl⟩ : ∃ x, x = v_ := ⟨v_, rfl⟩
 obtain ⟨bt, rfl⟩ : ∃ x, x = v_ := ⟨v_, rfl⟩
 refine AM (X := Nat) (fun k => [(7, .val (.pointer (some ⟨bt, 0, none⟩))), (8, .val (.pointer (some ⟨bg, 0, none⟩))), (9, .int 0), (10, .d (AO ms)), (11, .int k)]) (fun _ => [.cells bt 29 [.d (BT t.model.vars), .d (A2 t.model.rules), .d (BU t.props), .d (AO t.formula)], .cells bg 51 [.d (AO e.spots), .int (nkF t 0), .d (Ah e.next), .d (AK e.sets), .int am]]) (fun k => k ≤ ms.length + 1) (fun k => ms.length + 1 - k) 0 (Nat.zero_le _) (VS.take (by exact AD) ?_) ?_
 · exact leD
 intro k hk
 by_cases hkl : k ≤ ms.length
 · have hS := Hk t e he (ms.take k) (Kf (Is hok k) (by rw [List.length_take]; omega))
   have h0 : k = 0 → (runM t (ms.take k)).up = true := fun h => by subst h; rfl
   have hrun := g.runI (ms.take k)
   unfold ML at hS
   generalize runM t (ms.take k) = x at hS h0 hrun
   have hb := hrun.bounds g
   generalize hdn : (x.up && decide (x.n = nkF t x.n)) = dn at hS
   generalize (dn && decide ((C5 (exG t)).2 ≠ 0)) = ho at hS
   repeat' (first
    | refine ca Bo (hS) ?_
    | exact True.intro | refine Ps ?_ | refine two ?_ ?_ | refine AF fun c_ => ?_
    | (refine imp fun hc => ?_) <;> try exact cx hc
    | refine all fun v_ => ?_)
   refine ⟨?_⟩
   refine GW (X := Nat) (fun y => [(12, .val (.pointer (some ⟨y, 0, none⟩))), (13, .bool true), (7, .val (.pointer (some ⟨bt, 0, none⟩))), (8, .val (.pointer (some ⟨bg, 0, none⟩))), (9, .int 0), (10, .d (AO ms)), (11, .int k)]) (fun y => [.cells y 33 [.bool x.up, .int (nkF t x.n), .int x.n, .int x.s, .int x.a, .bool dn, .bool ho], .cells bt 29 [.d (BT t.model.vars), .d (A2 t.model.rules), .d (BU t.props), .d (AO t.formula)], .cells bg 51 [.d (AO e.spots), .int (nkF t 0), .d (Ah e.next), .d (AK e.sets), .int am]]) ?_ ?_
   · refine Cm [] mixed rfl (by (repeat (with_reducible apply AU)); exact len_nil) (by decide +kernel) (by exact AW) ?_
     repeat' (first
      | refine ca Bo (hS) ?_
      | exact True.intro | refine AG ?_ | refine two ?_ ?_ | refine AF fun c_ => ?_
      | (refine imp fun hc => ?_) <;> try exact cx1 hc
      | refine all fun v_ => ?_)
     all_goals
      refine ⟨_, VS.take (by exact AD) ?_⟩
      exact leD
   intro bo
   have ed : decide (x.n = nkF t x.n) = decide ((x.n : Int) = (nkF t x.n : Nat)) := decide_eq_decide.2 (by omega)
   clear hS hT hE hM hrun hok he g
   cases hu : x.up with
   | true =>
     rw [hu, Bool.true_and, ed] at hdn
     subst hdn
     repeat' (first
      | exact True.intro
      | refine stp ?_
      | refine two ?_ ?_
      | (refine imp fun hc => ?_) <;> try exact cx hc
      | refine all fun v_ => ?_)
     all_goals first
      | (refine ⟨k + 1, by omega, by omega, VS.take (by exact AD) ?_⟩
         exact leD)
      | (exfalso; simp at hc; done)
   | false =>
     have hk0 : ¬ (k : Int) = 0 := fun h => by rw [h0 (by omega)] at hu; cases hu
     rw [hu, Bool.false_and] at hdn
     subst hdn
     repeat' (first
      | exact True.intro
      | refine stp ?_
      | refine two ?_ ?_
      | (refine imp fun hc => ?_) <;> try exact cx hc
      | refine all fun v_ => ?_)
     all_goals first
      | (refine ⟨k + 1, by omega, by omega, VS.take (by exact AD) ?_⟩
         exact leD)
      | (exfalso; simp at hc; done)
 · obtain rfl : k = ms.length + 1 := by omega
   repeat' (first
    | exact True.intro | refine AG ?_ | refine two ?_ ?_ | refine AF fun c_ => ?_
    | (refine imp fun hc => ?_) <;> try exact cx1 hc
    | refine all fun v_ => ?_)
   all_goals
    refine AN (VS.drop (List.nil_sublist _)) ?_
    ((with_reducible apply rq1); rfl; rfl)
    exact AB (by simp_all)
end Go.Proofs.YtnlfhnbcdfdhgaaGreatDoor
