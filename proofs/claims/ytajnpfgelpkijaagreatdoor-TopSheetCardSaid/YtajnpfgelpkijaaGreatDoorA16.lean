/- A bundle of this claim's own texts: T8 T9. -/
import Derived.Test.YtajnpfgelpkijaaGreatDoorA4
import Derived.Test.YtajnpfgelpkijaaGreatDoorA10
import Derived.Test.YtajnpfgelpkijaaGreatDoorA11
set_option linter.unusedVariables false
set_option linter.unusedSimpArgs false
set_option maxRecDepth 100000
set_option maxHeartbeats 4000000
namespace Go.Proofs.YtajnpfgelpkijaaGreatDoor
open Go Go.Av Go.Sp

theorem DQ : Cal Tryz.prog 158 := Cal.of Tryz.func158 (by kernel_rfl) (by kernel_rfl)
theorem YF : Cal Tryz.prog 157 := Cal.of Tryz.func157 (by kernel_rfl) (by kernel_rfl)
theorem GU : Cal Tryz.prog 126 := Cal.of Tryz.func126 (by kernel_rfl) (by kernel_rfl)
theorem IG (G : List (Nat × List D)) (x : Int) : ACr Tryz.prog G 158 [.int x] (.tup [.bool (decide (DE x)), .bool (decide (GJ x)), .bool (decide (okP x))]) := by
 refine Dd (ts := [2, 3, 4]) 21 Tryz.func158 rfl rfl rfl (by simp) fun W I => ?_
 repeat' (first
  | exact True.intro
  | refine stp ?_
  | refine two ?_ ?_
  | (refine imp fun hc => ?_) <;> try exact cx hc
  | refine all fun v_ => ?_)
 all_goals
  ((with_reducible apply rq3); rfl; rfl; rfl; rfl)
  refine AD (tup3 ?_ ?_ ?_) <;> (first | rfl | (refine decide_eq_decide.2 ?_; omega) | (refine (decide_eq_true ?_).symm; omega) | (refine (decide_eq_false ?_).symm; omega) | (refine decide_eq_true ?_; omega) | (refine decide_eq_false ?_; omega))
theorem op (G : List (Nat × List D)) (a b vars : Int) (h0 : 0 ≤ vars) (h1 : vars ≤ 6) : ACr Tryz.prog G 157 [.agg [.int a, .int b], .int vars] (.int (opZ a b vars)) := by
 refine AK (ts := [4]) 37 Tryz.func157 rfl rfl rfl (by simp) fun W I => ?_
 repeat' (first
  | refine ca DQ (IG _ _) ?_
  | refine BX ?_
  | exact True.intro
  | refine stp ?_
  | refine two ?_ ?_
  | (refine imp fun hc => ?_) <;> try exact cx hc
  | refine all fun v_ => ?_)
 all_goals
  refine AO (VS.drop (List.nil_sublist _)) ?_
  ((with_reducible apply rq1); rfl; rfl)
  refine AD (congrArg AV.int ?_)
  unfold opZ
  first
   | (rw [if_pos (by omega)])
   | (rw [if_neg (by omega), if_pos (by omega)])
   | (rw [if_neg (by omega), if_neg (by omega)])


theorem FB {p q : Prop} (hp : p) (h : p → q := by
 apply cmp; (focus (first
  | ((with_reducible apply Ez); (focus rfl); (focus exact YF); (focus exact op _ _ _ _ (by omega) (by omega)); (focus rfl))
  | ((with_reducible apply je_call0); (focus rfl); (focus (decide +kernel)); (focus rfl); (focus exact YF); (focus exact op _ _ _ _ (by omega) (by omega)); (focus rfl))
  ))
 exact fun h => h) : q := h hp
theorem ZZ (l : List Fo) (vars : Int) : ACr Tryz.prog GP 126 [.d (AN l), .int vars] (.tup [.bool (Cn l vars).1, .int (Cn l vars).2]) := by
 have hE := Ends l
 generalize he : Az l = p at hE
 obtain ⟨es, e⟩ := p
 refine AK (ts := [4, 5]) 100 Tryz.func126 rfl rfl rfl (by simp) fun W I => ?_
 refine EC (t := 0) rfl fun hl => ?_
 repeat' (first
  | refine ca An (hE) ?_
  | refine FB ?_
  | refine ca DQ (IG _ _) ?_
  | refine BX ?_
  | exact True.intro
  | refine stp ?_
  | refine two ?_ ?_
  | (refine imp fun hc => ?_) <;> try exact cx hc
  | refine all fun v_ => ?_)
 all_goals try (
  refine CY ?_
  ((with_reducible apply rq2); rfl; rfl; rfl)
  refine AD ?_
  unfold Cn
  first
   | (rw [if_pos (by omega)])
   | (rw [if_neg (by omega), he, if_pos (by assumption)]))
 have hok0 : ¬ e ≠ 0 := by assumption
 have e0 : e = 0 := by simpa using hok0
 subst e0
 obtain ⟨h60, h0, hend, hlen, hes⟩ := Cb he
 have hs : Cn l vars = if II l vars ≠ 0 then (false, II l vars) else if Ig l then (decide (DE (AW l 0)), 0) else (false, 5) := by
  rw [Cn, if_neg (by omega), he, if_neg (by simp)]
 have hv : 0 ≤ vars ∧ vars ≤ 6 := by omega
 have hall : ∀ (i : Nat) (hi : i < l.length), (Sp.AT l i).2 = 0 := fun i hi =>
  (Jv l l.length 0 1 l.length (by omega) (by omega) (by unfold Sp.AT at hend; exact hend) i (by omega) (by omega)).1
 dsimp only
 refine AL (X := Nat) (fun i => [(0, .d (AN l)), (1, .int vars), (6, .d (AP es)), (37, .d (AN l)), (38, .int l.length), (39, .int i)]) (fun _ => []) (fun i => i ≤ l.length ∧ II l vars = II (l.drop i) vars) (fun i => l.length - i) 0 ⟨Nat.zero_le _, rfl⟩ (VS.of_le ?_) ?_
 · exact leD
 rintro i ⟨k1, k2⟩
 by_cases hi : i < l.length
 · rw [Ul l i hi] at k2
   repeat' (first
    | refine ca An (hE) ?_
    | refine FB ?_
    | refine ca DQ (IG _ _) ?_
    | refine BX ?_
    | exact True.intro
    | refine stp ?_
    | refine two ?_ ?_
    | (refine imp fun hc => ?_) <;> try exact cx hc
    | refine all fun v_ => ?_)
   · refine AO (VS.drop (List.nil_sublist _)) ?_
     ((with_reducible apply rq2); rfl; rfl; rfl)
     refine AD ?_
     rw [if_pos hc] at k2
     rw [hs, k2, if_pos hc]
   · rw [if_neg hc] at k2
     refine ⟨i + 1, ⟨by omega, k2⟩, by omega, vle (List.nil_sublist _) ?_⟩
     exact leD
 rw [Z8 l i (by omega)] at k2
 rw [k2, if_neg (by decide)] at hs
 repeat' (first
  | refine ca An (hE) ?_
  | refine FB ?_
  | refine ca DQ (IG _ _) ?_
  | refine BX ?_
  | exact True.intro
  | refine stp ?_
  | refine two ?_ ?_
  | (refine imp fun hc => ?_) <;> try exact cx hc
  | refine all fun v_ => ?_)
 refine AL (X := Nat) (fun i => [(0, .d (AN l)), (6, .d (AP es)), (50, .d (AN l)), (51, .int l.length), (52, .int i)]) (fun _ => []) (fun i => i ≤ l.length ∧ ∀ q, q < i → Oz l q) (fun i => l.length - i) 0 ⟨Nat.zero_le _, fun q hq => by omega⟩ (VS.of_le ?_) ?_
 · exact leD
 rintro i ⟨g1, g2⟩
 by_cases hi : i < l.length
 · have hki := BN l i hi
   have hei := hes i (by omega)
   have hbi := BA l i (hall i hi)
   have w0 := Ey.start hi (hall i hi)
   generalize hn : (partsOf l[i].kind).1.toNat = n at w0
   have hty : Oz l i ↔ ∀ p ∈ EB l (n - 0) (i + 1), JS l i p := by unfold Oz; rw [hki, hn, Nat.sub_zero]
   repeat' (first
    | refine ca An (hE) ?_
    | refine FB ?_
    | refine ca DQ (IG _ _) ?_
    | refine BX ?_
    | exact True.intro
    | refine stp ?_
    | refine two ?_ ?_
    | (refine imp fun hc => ?_) <;> try exact cx hc
    | refine all fun v_ => ?_)
   refine AL (X := Nat × Nat) (fun y => [(0, .d (AN l)), (6, .d (AP es)), (11, .int i), (14, .bool (decide (GJ l[i].kind))), (16, .int y.2), (50, .d (AN l)), (51, .int l.length), (52, .int i)]) (fun _ => [])
    (fun y => Ey l n y.1 y.2 (Sp.AT l i).1.toNat ∧ (Oz l i ↔ ∀ p ∈ EB l (n - y.1) y.2, JS l i p)) (fun y => n - y.1) (0, i + 1) ⟨w0, hty⟩ (vle (List.nil_sublist _) ?_) ?_
   · exact leD
   rintro ⟨j, k⟩ ⟨w, hk⟩
   dsimp only at w hk ⊢
   have wlt := w.lt
   by_cases hj : j < n
   · obtain ⟨q1, q2, q3, q4⟩ := w.next hj
     have hkl : k < l.length := by omega
     have hkk := BN l k hkl
     have hek := hes k (by omega)
     have e1 : n - j = (n - (j + 1)) + 1 := by omega
     rw [e1] at hk
     simp only [EB, List.mem_cons, forall_eq_or_imp] at hk
     repeat' (first
      | refine ca An (hE) ?_
      | refine FB ?_
      | refine ca DQ (IG _ _) ?_
      | refine BX ?_
      | exact True.intro
      | refine stp ?_
      | refine two ?_ ?_
      | (refine imp fun hc => ?_) <;> try exact cx hc
      | refine all fun v_ => ?_)
     · have hf : JS l i k := by
        unfold JS
        rw [hkk, hki]
        simp only [beq_iff_eq, decide_eq_decide] at hc
        exact hc
       refine ⟨(j + 1, (Sp.AT l k).1.toNat), ⟨q4, ?_⟩, by dsimp only; omega, VS.of_le ?_⟩
       · rw [hk]
         exact ⟨fun h => h.2, fun h => ⟨hf, h⟩⟩
       · exact leD
     · have hf : ¬ JS l i k := by
        unfold JS
        rw [hkk, hki]
        intro h
        rw [beq_eq_false_iff_ne] at hc
        exact hc (decide_eq_decide.2 h)
       refine CY ?_
       ((with_reducible apply rq2); rfl; rfl; rfl)
       refine AD ?_
       have : ¬ Ig l := fun h => hf (hk.1 (h i hi)).1
       rw [hs, if_neg this]
   · have hjn : j = n := by have := w.le; omega
     repeat' (first
      | refine ca An (hE) ?_
      | refine FB ?_
      | refine ca DQ (IG _ _) ?_
      | refine BX ?_
      | exact True.intro
      | refine stp ?_
      | refine two ?_ ?_
      | (refine imp fun hc => ?_) <;> try exact cx hc
      | refine all fun v_ => ?_)
     refine ⟨i + 1, ⟨by omega, fun q hq => ?_⟩, by omega, VS.of_le ?_⟩
     · by_cases hqi : q < i
       · exact g2 q hqi
       · obtain rfl : q = i := by omega
         refine hk.2 fun p hp => ?_
         rw [hjn, Nat.sub_self] at hp
         simp [EB] at hp
     · exact leD
 · repeat' (first
    | refine ca An (hE) ?_
    | refine FB ?_
    | refine ca DQ (IG _ _) ?_
    | refine BX ?_
    | exact True.intro
    | refine stp ?_
    | refine two ?_ ?_
    | (refine imp fun hc => ?_) <;> try exact cx hc
    | refine all fun v_ => ?_)
   refine CY ?_
   ((with_reducible apply rq2); rfl; rfl; rfl)
   refine AD ?_
   have : Ig l := fun q hq => g2 q (by omega)
   rw [hs, if_pos this, BN l 0 h0]
end Go.Proofs.YtajnpfgelpkijaaGreatDoor
