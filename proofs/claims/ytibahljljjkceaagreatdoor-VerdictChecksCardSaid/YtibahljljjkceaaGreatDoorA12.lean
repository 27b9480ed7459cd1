/- A bundle of this claim's own texts: M6 G6. -/
import Derived.Test.YtibahljljjkceaaGreatDoorA10
import Derived.Test.YtibahljljjkceaaGreatDoorA11
set_option linter.unusedVariables false
set_option linter.unusedSimpArgs false
set_option maxRecDepth 100000
set_option maxHeartbeats 4000000
namespace Go.Proofs.YtibahljljjkceaaGreatDoor
open Go Go.Av Go.Sp

theorem Pa : Cal Tryz.prog 143 := Cal.of Tryz.func143 (by kernel_rfl) (by kernel_rfl)
theorem IT : Cal Tryz.prog 78 := Cal.of Tryz.func78 (by kernel_rfl) (by kernel_rfl)
theorem Code (m : Md) (xs : List Int) : ACr Tryz.prog GP 143 [mdA m, .d (AK xs)] (.tup [.int (codeF m xs).1, .int (codeF m xs).2]) := by
 refine AC.factI (f := AW) (xs := xs) (.there .here) fun hlx => ?_
 refine AN (ts := [4, 5]) Tryz.f143.ntmps Tryz.func143 rfl rfl rfl (by simp [Tryz.ntmps143]) fun W I => ?_
 by_cases c1 : AU m ≠ 0
 · repeat' (first
    | refine ca A8 (CT _) ?_
    | exact True.intro | refine AD ?_ | refine two ?_ ?_ | refine AB fun c_ => ?_
    | (refine imp fun hc => ?_) <;> try exact cx1 hc
    | refine all fun v_ => ?_)
   refine AH (VS.drop (List.nil_sublist _)) ?_
   ((with_reducible apply rq2); rfl; rfl; rfl)
   exact AA (by rw [codeF, if_pos c1])
 have hv := BM (show AU m = 0 by omega)
 have g := Hk hv
 have hl6 := DQ hv
 by_cases c2 : xs.length ≠ m.vars.length
 · repeat' (first
    | refine ca A8 (CT _) ?_
    | exact True.intro | refine AD ?_ | refine two ?_ ?_ | refine AB fun c_ => ?_
    | (refine imp fun hc => ?_) <;> try exact cx1 hc
    | refine all fun v_ => ?_)
   refine AH (VS.drop (List.nil_sublist _)) ?_
   ((with_reducible apply rq2); rfl; rfl; rfl)
   exact AA (by rw [codeF, if_neg c1, if_pos c2])
 have hF : codeF m xs = C7 0 m.vars xs := by rw [codeF, if_neg c1, if_neg c2]
 have hxl : xs.length = m.vars.length := Decidable.not_not.1 c2
 clear c2
 repeat' (first
  | refine ca A8 (CT _) ?_
  | exact True.intro | refine AD ?_ | refine two ?_ ?_ | refine AB fun c_ => ?_
  | (refine imp fun hc => ?_) <;> try exact cx1 hc
  | refine all fun v_ => ?_)
 refine AG (X := Nat × Int) (fun y => [(1, .d (AK xs)), (7, .int y.2), (22, .d (Aq m.vars)), (23, .int m.vars.length), (24, .int y.1)]) (fun _ => []) (fun y => y.1 ≤ m.vars.length ∧ 0 ≤ y.2 ∧ y.2 + 1 ≤ AS (m.vars.take y.1) ∧ codeF m xs = C7 y.2 (m.vars.drop y.1) (xs.drop y.1)) (fun y => m.vars.length - y.1) (0, 0) ⟨Nat.zero_le _, by decide, by simp [AS], hF⟩ (VS.trans (VS.drop (List.nil_sublist _)) (VS.of_le ?_)) ?_
 · exact leD
 rintro ⟨i, n⟩ ⟨h1, h2, h3, h4⟩
 dsimp only at h1 h2 h3 h4 ⊢
 by_cases hi : ¬ i < m.vars.length
 · rw [Tf _ _ _ _ (by omega)] at h4
   repeat' (first
    | refine ca A8 (CT _) ?_
    | exact True.intro | refine AD ?_ | refine two ?_ ?_ | refine AB fun c_ => ?_
    | (refine imp fun hc => ?_) <;> try exact cx1 hc
    | refine all fun v_ => ?_)
   refine AH (VS.drop (List.nil_sublist _)) ?_
   ((with_reducible apply rq2); rfl; rfl; rfl)
   exact AA (by rw [h4])
 replace hi := Decidable.not_not.1 hi
 have hi' : i < xs.length := by omega
 rw [U5 _ _ _ _ hi hi'] at h4
 obtain ⟨d1, d2, d3, d4, d5⟩ := g.range _ (List.getElem_mem hi)
 by_cases cl : xs[i] < m.vars[i].low
 · rw [if_neg (by omega)] at h4
   repeat' (first
    | refine ca A8 (CT _) ?_
    | exact True.intro | refine AD ?_ | refine two ?_ ?_ | refine AB fun c_ => ?_
    | (refine imp fun hc => ?_) <;> try exact cx1 hc
    | refine all fun v_ => ?_)
   all_goals
    refine AH (VS.drop (List.nil_sublist _)) ?_
    ((with_reducible apply rq2); rfl; rfl; rfl)
    exact AA (by rw [h4])
 by_cases ch : m.vars[i].high < xs[i]
 · rw [if_neg (by omega)] at h4
   repeat' (first
    | refine ca A8 (CT _) ?_
    | exact True.intro | refine AD ?_ | refine two ?_ ?_ | refine AB fun c_ => ?_
    | (refine imp fun hc => ?_) <;> try exact cx1 hc
    | refine all fun v_ => ?_)
   all_goals
    refine AH (VS.drop (List.nil_sublist _)) ?_
    ((with_reducible apply rq2); rfl; rfl; rfl)
    exact AA (by rw [h4])
 rw [if_pos (by omega)] at h4
 have hsp : BJ m.vars[i] = m.vars[i].high - m.vars[i].low + 1 := rfl
 obtain ⟨s1, s2, s3⟩ := KC (s := BJ m.vars[i]) (d := xs[i] - m.vars[i].low) h2 h3 (by omega) (by omega)
 rw [← Ef m.vars i hi] at s3
 have b2 := (g.take (i + 1)).2.1
 rw [hsp] at s1 s2 s3 h4
 have hin : A9 (n * (m.vars[i].high - m.vars[i].low + 1)) := ⟨by omega, by omega⟩
 repeat' (first
  | refine ca A8 (CT _) ?_
  | exact True.intro | refine AD ?_ | refine two ?_ ?_ | refine AB fun c_ => ?_
  | (refine imp fun hc => ?_) <;> try exact cx1 hc
  | refine all fun v_ => ?_)
 refine ⟨(i + 1, n * (m.vars[i].high - m.vars[i].low + 1) + (xs[i] - m.vars[i].low)), ⟨by dsimp only; omega, s2, s3, h4⟩, by dsimp only; omega, ?_⟩
 dsimp only
 rw [show n * (m.vars[i].high - m.vars[i].low + 1) + (xs[i] - m.vars[i].low) = n * (m.vars[i].high - m.vars[i].low + 1) + xs[i] - m.vars[i].low by omega]
 refine VS.trans (VS.drop (List.nil_sublist _)) (VS.of_le ?_)
 exact leD
theorem Wc (G : List (Nat × List D)) (m : Md) (xs : List Int) : ACr Tryz.prog G 78 [mdA m, .d (AK xs)] (.tup [.int (codeF m xs).1, .int (codeF m xs).2]) := by
 refine AC.factI (f := AW) (xs := xs) (.there .here) fun hlx => ?_
 refine AN (ts := [4, 5]) Tryz.f78.ntmps Tryz.func78 rfl rfl rfl (by simp [Tryz.ntmps78]) fun W I => ?_
 by_cases c1 : AU m ≠ 0
 · repeat' (first
    | refine ca Ak (BG _ _) ?_
    | refine ca AL (In _ _ _ _) ?_
    | exact True.intro | refine AD ?_ | refine two ?_ ?_ | refine AB fun c_ => ?_
    | (refine imp fun hc => ?_) <;> try exact cx1 hc
    | refine all fun v_ => ?_)
   refine AH (VS.drop (List.nil_sublist _)) ?_
   ((with_reducible apply rq2); rfl; rfl; rfl)
   exact AA (by rw [codeF, if_pos c1])
 have hv := BM (show AU m = 0 by omega)
 have g := Hk hv
 have hl6 := DQ hv
 by_cases c2 : xs.length ≠ m.vars.length
 · repeat' (first
    | refine ca Ak (BG _ _) ?_
    | refine ca AL (In _ _ _ _) ?_
    | exact True.intro | refine AD ?_ | refine two ?_ ?_ | refine AB fun c_ => ?_
    | (refine imp fun hc => ?_) <;> try exact cx1 hc
    | refine all fun v_ => ?_)
   refine AH (VS.drop (List.nil_sublist _)) ?_
   ((with_reducible apply rq2); rfl; rfl; rfl)
   exact AA (by rw [codeF, if_neg c1, if_pos c2])
 have hxl : xs.length = m.vars.length := Decidable.not_not.1 c2
 have hF := Xt m xs (by omega) hxl
 clear c2
 repeat' (first
  | refine ca Ak (BG _ _) ?_
  | refine ca AL (In _ _ _ _) ?_
  | exact True.intro | refine AD ?_ | refine two ?_ ?_ | refine AB fun c_ => ?_
  | (refine imp fun hc => ?_) <;> try exact cx1 hc
  | refine all fun v_ => ?_)
 refine AG (X := Nat × Int) (fun y => [(1, .d (AK xs)), (2, .val (.pointer (some ⟨v_, 0, none⟩))), (7, .int y.2), (8, .int y.1)]) (fun _ => [.cells v_ 25 [.d (Aq m.vars), .d (Ad m.rules)]]) (fun y => y.1 ≤ m.vars.length ∧ 0 ≤ y.2 ∧ y.2 + AS (m.vars.drop y.1) ≤ AS m.vars ∧ codeF m xs = IK y.2 (m.vars.drop y.1) (xs.drop y.1)) (fun y => m.vars.length - y.1) (0, 0) ⟨Nat.zero_le _, by decide, by simp, hF⟩ (VS.of_le ?_) ?_
 · exact leD
 rintro ⟨i, n⟩ ⟨h1, h2, h3, h4⟩
 dsimp only at h1 h2 h3 h4 ⊢
 by_cases hi : ¬ i < m.vars.length
 · rw [TP _ _ _ _ (by omega)] at h4
   repeat' (first
    | refine ca Ak (BG _ _) ?_
    | refine ca AL (In _ _ _ _) ?_
    | exact True.intro | refine AD ?_ | refine two ?_ ?_ | refine AB fun c_ => ?_
    | (refine imp fun hc => ?_) <;> try exact cx1 hc
    | refine all fun v_ => ?_)
   refine AH (VS.drop (List.nil_sublist _)) ?_
   ((with_reducible apply rq2); rfl; rfl; rfl)
   exact AA (by rw [h4])
 replace hi := Decidable.not_not.1 hi
 have hi' : i < xs.length := by omega
 rw [Ue _ _ _ _ hi hi'] at h4
 obtain ⟨d1, d2, d3, d4, d5⟩ := g.range _ (List.getElem_mem hi)
 by_cases cl : ¬ (m.vars[i].low ≤ xs[i] ∧ xs[i] ≤ m.vars[i].high)
 · rw [if_neg cl] at h4
   have e1 : decide (m.vars[i].low ≤ xs[i] ∧ xs[i] ≤ m.vars[i].high) = false := decide_eq_false cl
   have e2 := In G xs[i] m.vars[i].low m.vars[i].high
   rw [e1] at e2
   repeat' (first
    | refine ca AL (e2) ?_
    | refine caq AL (e2) ?_
    | exact True.intro | refine AD ?_ | refine two ?_ ?_ | refine AB fun c_ => ?_
    | (refine imp fun hc => ?_) <;> try exact cx1 hc
    | refine all fun v_ => ?_)
   all_goals
    refine AH (VS.drop (List.nil_sublist _)) ?_
    ((with_reducible apply rq2); rfl; rfl; rfl)
    exact AA (by rw [h4])
 replace cl := Decidable.not_not.1 cl
 rw [if_pos cl] at h4
 have e1 : decide (m.vars[i].low ≤ xs[i] ∧ xs[i] ≤ m.vars[i].high) = true := decide_eq_true cl
 have e2 := In G xs[i] m.vars[i].low m.vars[i].high
 rw [e1] at e2
 have hsp : BJ m.vars[i] = m.vars[i].high - m.vars[i].low + 1 := rfl
 rw [IY _ _ hi] at h3
 have hq := (g.take (i + 1)).2.2
 obtain ⟨s1, s2, s3⟩ := WR (d := xs[i] - m.vars[i].low) h2 h3 hq.1 (by omega) (by omega)
 have ha := g.all
 have e3 := Ju G m g hl6 (i + 1) (by omega) i (by omega)
 have hin : A9 ((xs[i] - m.vars[i].low) * AS (m.vars.drop (i + 1))) := ⟨by omega, by omega⟩
 repeat' (first
  | refine ca AL (e2) ?_
  | refine caq AL (e2) ?_
  | refine ca Bu (e3) ?_
  | refine caq Bu (e3) ?_
  | exact True.intro | refine AD ?_ | refine two ?_ ?_ | refine AB fun c_ => ?_
  | (refine imp fun hc => ?_) <;> try exact cx1 hc
  | refine all fun v_ => ?_)
 refine ⟨(i + 1, n + (xs[i] - m.vars[i].low) * AS (m.vars.drop (i + 1))), ⟨by dsimp only; omega, s2, s3, h4⟩, by dsimp only; omega, VS.of_le ?_⟩
 exact leD
end Go.Proofs.YtibahljljjkceaaGreatDoor
namespace Go.Sp
open Go Go.Av

def Bt : List Vr → Int → List Int
 | [], _ => []
 | v :: l, c => (v.low + c / AS l) :: Bt l (c % AS l)
theorem Et : ∀ (l : List Vr) (c : Int), (Bt l c).length = l.length
 | [], _ => rfl
 | _ :: l, c => by simp [Bt, Et l]
theorem UZ (l : List Vr) (i : Nat) (c : Int) (h : i < l.length) : Bt (l.drop i) c = (l[i].low + c / AS (l.drop (i + 1))) :: Bt (l.drop (i + 1)) (c % AS (l.drop (i + 1))) := by
 rw [List.drop_eq_getElem_cons h, Bt]
theorem Zd (c q s t : Int) (hq : 0 < q) : (c % (t * (s * q))) / q % s = c / q % s := by
 have e : c % (t * (s * q)) = c + (-(t * (c / (t * (s * q)))) * s) * q := by
  rw [Int.emod_def, show t * (s * q) * (c / (t * (s * q))) = t * (c / (t * (s * q))) * s * q by
   rw [Int.mul_assoc t (s * q), Int.mul_comm (s * q), ← Int.mul_assoc, ← Int.mul_assoc]]
  rw [Int.neg_mul, Int.neg_mul]
  omega
 rw [e, Int.add_mul_ediv_right _ _ (by omega), Int.add_mul_emod_self_right]
theorem Js : ∀ (l : List Vr) (c : Int) (i : Nat) (_ : ∀ v ∈ l, 1 ≤ BJ v) (_ : 0 ≤ c) (_ : c < AS l) (h : i < l.length) (h' : i < (Bt l c).length), (Bt l c)[i] = l[i].low + c / AS (l.drop (i + 1)) % BJ l[i]
 | [], _, _, _, _, _, h, _ => by simp at h
 | v :: l, c, 0, hs, h0, hc, _, _ => by
   have hp := EK fun w hw => hs w (List.mem_cons_of_mem v hw)
   simp only [Bt, List.getElem_cons_zero, List.drop_succ_cons, List.drop_zero]
   rw [Int.emod_eq_of_lt (Int.ediv_nonneg h0 (by omega)) (Int.ediv_lt_of_lt_mul (by omega) hc)]
 | v :: l, c, i + 1, hs, h0, hc, h, h' => by
   have hl : ∀ w ∈ l, 1 ≤ BJ w := fun w hw => hs w (List.mem_cons_of_mem v hw)
   have hp := EK hl
   have hi : i < l.length := by simpa using h
   have hq := EK fun w hw => hl w (List.mem_of_mem_drop (i := i + 1) hw)
   have e : AS l = AS (l.take i) * (BJ l[i] * AS (l.drop (i + 1))) := by
    rw [← IY l i hi, ← Es, List.take_append_drop]
   simp only [Bt, List.getElem_cons_succ, List.drop_succ_cons]
   rw [Js l _ i hl (Int.emod_nonneg _ (by omega)) (Int.emod_lt_of_pos _ (by omega)) hi, e, Zd _ _ _ _ (by omega)]
noncomputable def BL (m : Md) (c : Int) : List Int × Int := if AU m ≠ 0 then ([], AU m) else if 0 ≤ c ∧ c < AS m.vars then (Bt m.vars c, 0) else ([], 9)
theorem XG (c q s : Int) (hq : 0 ≤ q) : c / q / s = c / (s * q) := by rw [Int.ediv_ediv, if_neg (by omega), Int.sub_zero, Int.mul_comm]
def Hc (V : List Int) (k : Nat) : List Int := List.replicate k 0 ++ V.drop k
theorem NT (V : List Int) (k : Nat) (h : k ≤ V.length) : (Hc V k).length = V.length := by simp [Hc]; omega
theorem Tp (V : List Int) (k : Nat) (h : k < V.length) : (Hc V (k + 1)).set k V[k] = Hc V k := by
 unfold Hc
 rw [List.replicate_succ', List.append_assoc, List.set_append_right _ _ (by simp), List.drop_eq_getElem_cons h]
 simp
end Go.Sp
