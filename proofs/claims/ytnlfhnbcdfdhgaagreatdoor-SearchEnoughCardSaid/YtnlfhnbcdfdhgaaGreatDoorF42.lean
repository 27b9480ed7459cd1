/- A bundle of this claim's own texts: P11. -/
import Derived.Test.YtnlfhnbcdfdhgaaGreatDoorF39
import Derived.Test.YtnlfhnbcdfdhgaaGreatDoorF41
set_option linter.unusedVariables false
set_option linter.unusedSimpArgs false
set_option maxRecDepth 100000
set_option maxHeartbeats 4000000
namespace Go.Sp
open Go Go.Av
theorem LA (t : Tk) (ms : List Fo) (j : Nat) (h : j < ms.length) : runM t (ms.take (j + 1)) = mvF t (runM t (ms.take j)) ms[j] := NB t ms j h
theorem VU {t : Tk} {e : Exp} (g : Grown t e) (k : Int) (hk : 0 ≤ k) : (runM t [⟨1, k⟩, ⟨2, 0⟩]).up = true ∧ (runM t [⟨1, k⟩, ⟨2, 0⟩]).s = min k.toNat e.spots.length := by
 have h1 : runM t [⟨1, k⟩, ⟨2, 0⟩] = mvF t (mvF t B7 ⟨1, k⟩) ⟨2, 0⟩ := rfl
 obtain ⟨a1, a2, a3, a4⟩ := HE g k.toNat (MsI.nil (t := t) (e := e))
 have hu : (wkF t k.toNat B7).up = true := by rw [a1]; rfl
 rw [h1, Hh (x := B7) rfl, Ih hu]
 refine ⟨hu, ?_⟩
 show (wkF t k.toNat B7).n = _
 rw [a3]; show min (0 + k.toNat) _ = _; rw [Nat.zero_add]
end Go.Sp
namespace Go.Proofs.YtnlfhnbcdfdhgaaGreatDoor
open Go Go.Av Go.Sp

theorem KP (d : De) (hd : TY d) (raw : List Fo) (hr : BH raw) (l : List Fo) (hl : BH l) : ACr Tryz.prog GP 5 [deA d, .d (AO raw), .d (AO l)] (.bool true) := by
 have hT := Td GP d hd raw hr 2 (by decide)
 have hf := FoG.of raw (t := 2) (by decide)
 obtain ⟨e, he⟩ := Ho d hf
 have hE := GK (DP d (Bi raw 2))
 rw [ON he, he] at hE
 dsimp only at hE
 have g := HO he
 have ei : (A3 (DP d (Bi raw 2))).1.length = nkF (DP d (Bi raw 2)) 0 := rfl
 rw [ei] at hE
 generalize (Ai (DP d (Bi raw 2)).formula (DP d (Bi raw 2)).props.length).1.length = am at hE
 generalize DP d (Bi raw 2) = t at hT he hE g
 clear ei hf
 have hN := g.few
 have hM := PW l hl 30 (by decide)
 have hok := Ie l 30
 have hml := F2 l 30
 generalize C8 l 30 = ms at hM hok hml
 have h3 := VU g 3 (by decide)
 have hS3 := Hk t e he [⟨1, 3⟩, ⟨2, 0⟩] (by decide)
 unfold ML at hS3
 generalize runM t [⟨1, 3⟩, ⟨2, 0⟩] = x3 at h3 hS3
 obtain ⟨u3, s3⟩ := h3
 rw [u3] at hS3
 generalize (true && decide (x3.n = nkF t x3.n)) = dn3 at hS3
 generalize (dn3 && decide ((C5 (exG t)).2 ≠ 0)) = ho3 at hS3
 refine AJ (ts := [6]) Tryz.f5.ntmps Tryz.func5 rfl rfl rfl (by simp [Tryz.ntmps5]) fun W I => ?_
 repeat' (first
  | refine ca Hv (hT) ?_
  | refine ca GO (hM) ?_
  | exact True.intro | refine AP ?_ | refine two ?_ ?_
  | (refine imp fun hc => ?_) <;> try exact cx hc
  | refine all fun v_ => ?_)
 obtain ⟨bt, rfl⟩ : ∃ x, x = v_ := ⟨v_, rfl⟩
 refine AM (X := Nat × Nat) (fun y => [(7, .val (.pointer (some ⟨bt, 0, none⟩))), (8, .d (AO ms)), (9, .int y.2), (10, .int y.1)]) (fun _ => [.cells bt 29 [.d (BT t.model.vars), .d (A2 t.model.rules), .d (BU t.props), .d (AO t.formula)]]) (fun y => y.1 ≤ ms.length + 1 ∧ (y.1 ≤ ms.length → y.2 ≤ (runM t (ms.take y.1)).s)) (fun y => ms.length + 1 - y.1) (0, 0) ⟨Nat.zero_le _, fun _ => Nat.zero_le _⟩ (VS.take (by exact AD) ?_) ?_
 · exact leD
 rintro ⟨k, sf⟩ ⟨hk, hsf⟩
 dsimp only at hk hsf ⊢
 by_cases hkl : k ≤ ms.length
 · have hS := Hk t e he (ms.take k) (Kf (Is hok k) (by rw [List.length_take]; omega))
   have hrun := g.runI (ms.take k)
   have hs1 := hsf hkl
   have hnext : k < ms.length → (runM t (ms.take k)).s ≤ (runM t (ms.take (k + 1))).s := fun h => by
    rw [LA t ms k h]; exact hrun.saved g _
   have hsv : ∀ j (h : j < ms.length), k = j + 1 → ms[j].kind = 2 → (runM t (ms.take k)).up = true → (runM t (ms.take k)).s = (runM t (ms.take k)).n := fun j h e1 e2 e3 => by
    subst e1
    rw [LA t ms j h] at e3 ⊢
    exact DL.save e2 e3
   unfold ML at hS
   generalize runM t (ms.take k) = x at hS hrun hs1 hnext hsv
   generalize (x.up && decide (x.n = nkF t x.n)) = dn at hS
   generalize (dn && decide ((C5 (exG t)).2 ≠ 0)) = ho at hS
   repeat' (first
    | refine ca Bo (hS) ?_
    | exact True.intro | refine Ps ?_ | refine two ?_ ?_ | refine AF fun c_ => ?_
    | (refine imp fun hc => ?_) <;> try exact cx hc
    | refine all fun v_ => ?_)
   refine ⟨?_⟩
   refine GW (X := Nat) (fun y => [(11, .val (.pointer (some ⟨y, 0, none⟩))), (12, .bool true), (7, .val (.pointer (some ⟨bt, 0, none⟩))), (8, .d (AO ms)), (9, .int sf), (10, .int k)]) (fun y => [.cells y 33 [.bool x.up, .int (nkF t x.n), .int x.n, .int x.s, .int x.a, .bool dn, .bool ho], .cells bt 29 [.d (BT t.model.vars), .d (A2 t.model.rules), .d (BU t.props), .d (AO t.formula)]]) ?_ ?_
   · refine Cm [] mixed rfl (by (repeat (with_reducible apply AU)); exact len_nil) (by decide +kernel) (by exact AW) ?_
     repeat' (first
      | refine ca Bo (hS) ?_
      | exact True.intro | refine AG ?_ | refine two ?_ ?_ | refine AF fun c_ => ?_
      | (refine imp fun hc => ?_) <;> try exact cx1 hc
      | refine all fun v_ => ?_)
     all_goals
      refine ⟨_, VS.take (by exact AD) ?_⟩
      exact leD
   intro bo
   clear hS hS3 hT he hE hM hrun hok hsf
   cases hu : x.up with
   | false =>
     by_cases hk0 : k = 0
     · repeat' (first
        | exact True.intro
        | refine stp ?_
        | refine two ?_ ?_
        | (refine imp fun hc => ?_) <;> try exact cx hc
        | refine all fun v_ => ?_)
       all_goals
        refine ⟨(k + 1, x.s), ⟨by dsimp only; omega, fun h => by dsimp only at h ⊢; exact hnext (by omega)⟩, by dsimp only; omega, VS.take (by exact AD) ?_⟩
        exact leD
     · have hi : ((k : Int) - 1).toNat < ms.length := by omega
       by_cases h2 : (ms[((k : Int) - 1).toNat]'hi).kind = 2
       · repeat' (first
          | exact True.intro
          | refine stp ?_
          | refine two ?_ ?_
          | (refine imp fun hc => ?_) <;> try exact cx hc
          | refine all fun v_ => ?_)
         all_goals
          refine ⟨(k + 1, x.s), ⟨by dsimp only; omega, fun h => by dsimp only at h ⊢; exact hnext (by omega)⟩, by dsimp only; omega, VS.take (by exact AD) ?_⟩
          exact leD
       · repeat' (first
          | exact True.intro
          | refine stp ?_
          | refine two ?_ ?_
          | (refine imp fun hc => ?_) <;> try exact cx hc
          | refine all fun v_ => ?_)
         all_goals
          refine ⟨(k + 1, x.s), ⟨by dsimp only; omega, fun h => by dsimp only at h ⊢; exact hnext (by omega)⟩, by dsimp only; omega, VS.take (by exact AD) ?_⟩
          exact leD
   | true =>
     by_cases hk0 : k = 0
     · repeat' (first
        | exact True.intro
        | refine stp ?_
        | refine two ?_ ?_
        | (refine imp fun hc => ?_) <;> try exact cx hc
        | refine all fun v_ => ?_)
       all_goals
        refine ⟨(k + 1, x.s), ⟨by dsimp only; omega, fun h => by dsimp only at h ⊢; exact hnext (by omega)⟩, by dsimp only; omega, VS.take (by exact AD) ?_⟩
        exact leD
     · have hi : ((k : Int) - 1).toNat < ms.length := by omega
       by_cases h2 : (ms[((k : Int) - 1).toNat]'hi).kind = 2
       · have hsn := hsv _ hi (by omega) h2 hu
         repeat' (first
          | exact True.intro
          | refine stp ?_
          | refine two ?_ ?_
          | (refine imp fun hc => ?_) <;> try exact cx hc
          | refine all fun v_ => ?_)
         all_goals
          refine ⟨(k + 1, x.s), ⟨by dsimp only; omega, fun h => by dsimp only at h ⊢; exact hnext (by omega)⟩, by dsimp only; omega, VS.take (by exact AD) ?_⟩
          exact leD
       · repeat' (first
          | exact True.intro
          | refine stp ?_
          | refine two ?_ ?_
          | (refine imp fun hc => ?_) <;> try exact cx hc
          | refine all fun v_ => ?_)
         all_goals
          refine ⟨(k + 1, x.s), ⟨by dsimp only; omega, fun h => by dsimp only at h ⊢; exact hnext (by omega)⟩, by dsimp only; omega, VS.take (by exact AD) ?_⟩
          exact leD
 · obtain rfl : k = ms.length + 1 := by omega
   repeat' (first
    | refine ca Ci (hE) ?_
    | refine ca Bo (hS3) ?_
    | exact True.intro | refine AG ?_ | refine two ?_ ?_ | refine AF fun c_ => ?_
    | (refine imp fun hc => ?_) <;> try exact cx1 hc
    | refine all fun v_ => ?_)
   refine C3 (VS.of_le (Env.le_cons (t := 79) (x := .agg [.int 2, .int 0]) (AV.le_agg ⟨fun _ _ _ h => h, fun _ _ _ h => h, trivial⟩) (Env.le_cons (t := 78) (x := .agg [.int 1, .int 3]) (AV.le_agg ⟨fun _ _ _ h => h, fun _ _ _ h => h, trivial⟩) (Env.le_refl _)))) ?_
   repeat' (first
    | refine ca Bo (hS3) ?_
    | ((with_reducible apply Rg); (iterate 3 focus rfl); (focus (with_reducible exact ElC.h)); (focus rfl); (focus rfl))
    | exact True.intro | refine AG ?_ | refine two ?_ ?_ | refine AF fun c_ => ?_
    | (refine imp fun hc => ?_) <;> try exact cx1 hc
    | refine all fun v_ => ?_)
   all_goals
    refine AN (VS.drop (List.nil_sublist _)) ?_
    ((with_reducible apply rq1); rfl; rfl)
    refine AB (congrArg AV.bool (decide_eq_true ?_))
    dsimp only
    omega
end Go.Proofs.YtnlfhnbcdfdhgaaGreatDoor
