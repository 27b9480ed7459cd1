/- Own texts. -/
import Derived.Test.YtnlfhnbcdfdhgaaGreatDoorA8
set_option linter.unusedVariables false
set_option linter.unusedSimpArgs false
set_option maxRecDepth 100000
set_option maxHeartbeats 4000000
namespace Go.Proofs.YtnlfhnbcdfdhgaaGreatDoor
open Go Go.Av Go.Sp
theorem Rk : Cal Tryz.prog 126 := Cal.of Tryz.func126 (by kernel_rfl) (by kernel_rfl)
theorem J3 : Cal Tryz.prog 154 := Cal.of Tryz.func154 (by kernel_rfl) (by kernel_rfl)
theorem Code (m : Md) (xs : List Int) : ACr Tryz.prog GP 126 [mdA m, .d (AJ xs)] (.tup [.int (codeF m xs).1, .int (codeF m xs).2]) := by
 refine AC.factI (f := AS) (xs := xs) (.there .here) fun hlx => ?_
 refine AK (ts := [4, 5]) Tryz.f126.ntmps Tryz.func126 rfl rfl rfl (by simp [Tryz.ntmps126]) fun W I => ?_
 by_cases c1 : AT m ≠ 0
 · repeat' (first | refine ca A9 (CW _) ?_ | exact jA | refine AF ?_ | refine two ?_ ?_ | refine AB fun c_ => ?_ | refine imp fun hc => ?_; try exact cx1 hc | refine all fun v_ => ?_)
   refine AI jE ?_
   ((with_reducible apply rq2); rfl; rfl; rfl)
   exact AA (by rw [codeF, if_pos c1])
 have hv := BM (show AT m = 0 by omega)
 have g := IW hv
 have hl6 := DZ hv
 by_cases c2 : xs.length ≠ m.vars.length
 · repeat' (first | refine ca A9 (CW _) ?_ | exact jA | refine AF ?_ | refine two ?_ ?_ | refine AB fun c_ => ?_ | refine imp fun hc => ?_; try exact cx1 hc | refine all fun v_ => ?_)
   refine AI jE ?_
   ((with_reducible apply rq2); rfl; rfl; rfl)
   exact AA (by rw [codeF, if_neg c1, if_pos c2])
 have hF : codeF m xs = DO 0 m.vars xs := by rw [codeF, if_neg c1, if_neg c2]
 have hxl : xs.length = m.vars.length := jY c2
 clear c2
 repeat' (first | refine ca A9 (CW _) ?_ | exact jA | refine AF ?_ | refine two ?_ ?_ | refine AB fun c_ => ?_ | refine imp fun hc => ?_; try exact cx1 hc | refine all fun v_ => ?_)
 refine AG (X := Nat × Int) (fun y => [(1, .d (AJ xs)), (7, .int y.2), (22, .d (Au m.vars)), (23, .int m.vars.length), (24, .int y.1)]) (fun _ => []) (fun y => y.1 ≤ m.vars.length ∧ 0 ≤ y.2 ∧ y.2 + 1 ≤ AR (m.vars.take y.1) ∧ codeF m xs = DO y.2 (m.vars.drop y.1) (xs.drop y.1)) (fun y => m.vars.length - y.1) (0, 0) ⟨Nat.zero_le _, by decide, by simp [AR], hF⟩ (VS.trans jE (VS.of_le ?_)) ?_
 · exact leD
 rintro ⟨i, n⟩ ⟨h1, h2, h3, h4⟩
 dsimp only at h1 h2 h3 h4 ⊢
 by_cases hi : ¬ i < m.vars.length
 · rw [WO _ _ _ _ jB] at h4
   repeat' (first | refine ca A9 (CW _) ?_ | exact jA | refine AF ?_ | refine two ?_ ?_ | refine AB fun c_ => ?_ | refine imp fun hc => ?_; try exact cx1 hc | refine all fun v_ => ?_)
   refine AI jE ?_
   ((with_reducible apply rq2); rfl; rfl; rfl)
   exact AA (by rw [h4])
 replace hi := jY hi
 have hi' : i < xs.length := by omega
 rw [bA _ _ _ _ hi hi'] at h4
 obtain ⟨d1, d2, d3, d4, d5⟩ := g.range _ (jb hi)
 by_cases cl : xs[i] < m.vars[i].low
 · rw [if_neg jB] at h4
   repeat' (first | refine ca A9 (CW _) ?_ | exact jA | refine AF ?_ | refine two ?_ ?_ | refine AB fun c_ => ?_ | refine imp fun hc => ?_; try exact cx1 hc | refine all fun v_ => ?_)
   all_goals
    refine AI jE ?_
    ((with_reducible apply rq2); rfl; rfl; rfl)
    exact AA (by rw [h4])
 by_cases ch : m.vars[i].high < xs[i]
 · rw [if_neg jB] at h4
   repeat' (first | refine ca A9 (CW _) ?_ | exact jA | refine AF ?_ | refine two ?_ ?_ | refine AB fun c_ => ?_ | refine imp fun hc => ?_; try exact cx1 hc | refine all fun v_ => ?_)
   all_goals
    refine AI jE ?_
    ((with_reducible apply rq2); rfl; rfl; rfl)
    exact AA (by rw [h4])
 rw [if_pos jB] at h4
 have hsp : BL m.vars[i] = m.vars[i].high - m.vars[i].low + 1 := rfl
 obtain ⟨s1, s2, s3⟩ := Lk (s := BL m.vars[i]) (d := xs[i] - m.vars[i].low) h2 h3 jB jB
 rw [← FC m.vars i hi] at s3
 have b2 := (g.take (i + 1)).2.1
 rw [hsp] at s1 s2 s3 h4
 have hin : Ao (n * (m.vars[i].high - m.vars[i].low + 1)) := ⟨by omega, by omega⟩
 repeat' (first | refine ca A9 (CW _) ?_ | exact jA | refine AF ?_ | refine two ?_ ?_ | refine AB fun c_ => ?_ | refine imp fun hc => ?_; try exact cx1 hc | refine all fun v_ => ?_)
 refine ⟨(i + 1, n * (m.vars[i].high - m.vars[i].low + 1) + (xs[i] - m.vars[i].low)), ⟨by dsimp only; omega, s2, s3, h4⟩, jC, ?_⟩
 dsimp only
 rw [show n * (m.vars[i].high - m.vars[i].low + 1) + (xs[i] - m.vars[i].low) = n * (m.vars[i].high - m.vars[i].low + 1) + xs[i] - m.vars[i].low by omega]
 refine VS.trans jE (VS.of_le ?_)
 exact leD
theorem ZE (G : List (Nat × List D)) (m : Md) (xs : List Int) : ACr Tryz.prog G 154 [mdA m, .d (AJ xs)] (.tup [.int (codeF m xs).1, .int (codeF m xs).2]) := by
 refine AC.factI (f := AS) (xs := xs) (.there .here) fun hlx => ?_
 refine AK (ts := [4, 5]) Tryz.f154.ntmps Tryz.func154 rfl rfl rfl (by simp [Tryz.ntmps154]) fun W I => ?_
 by_cases c1 : AT m ≠ 0
 · repeat' (first | refine ca Aj (BH _ _) ?_ | refine ca AN (In _ _ _ _) ?_ | exact jA | refine AF ?_ | refine two ?_ ?_ | refine AB fun c_ => ?_ | refine imp fun hc => ?_; try exact cx1 hc | refine all fun v_ => ?_)
   refine AI jE ?_
   ((with_reducible apply rq2); rfl; rfl; rfl)
   exact AA (by rw [codeF, if_pos c1])
 have hv := BM (show AT m = 0 by omega)
 have g := IW hv
 have hl6 := DZ hv
 by_cases c2 : xs.length ≠ m.vars.length
 · repeat' (first | refine ca Aj (BH _ _) ?_ | refine ca AN (In _ _ _ _) ?_ | exact jA | refine AF ?_ | refine two ?_ ?_ | refine AB fun c_ => ?_ | refine imp fun hc => ?_; try exact cx1 hc | refine all fun v_ => ?_)
   refine AI jE ?_
   ((with_reducible apply rq2); rfl; rfl; rfl)
   exact AA (by rw [codeF, if_neg c1, if_pos c2])
 have hxl : xs.length = m.vars.length := jY c2
 have hF := dG m xs jB hxl
 clear c2
 repeat' (first | refine ca Aj (BH _ _) ?_ | refine ca AN (In _ _ _ _) ?_ | exact jA | refine AF ?_ | refine two ?_ ?_ | refine AB fun c_ => ?_ | refine imp fun hc => ?_; try exact cx1 hc | refine all fun v_ => ?_)
 refine AG (X := Nat × Int) (fun y => [(1, .d (AJ xs)), (2, .val (.pointer (some ⟨v_, 0, none⟩))), (7, .int y.2), (8, .int y.1)]) (fun _ => [.cells v_ 25 [.d (Au m.vars), .d (Ae m.rules)]]) (fun y => y.1 ≤ m.vars.length ∧ 0 ≤ y.2 ∧ y.2 + AR (m.vars.drop y.1) ≤ AR m.vars ∧ codeF m xs = Jo y.2 (m.vars.drop y.1) (xs.drop y.1)) (fun y => m.vars.length - y.1) (0, 0) ⟨Nat.zero_le _, by decide, by simp, hF⟩ (VS.of_le ?_) ?_
 · exact leD
 rintro ⟨i, n⟩ ⟨h1, h2, h3, h4⟩
 dsimp only at h1 h2 h3 h4 ⊢
 by_cases hi : ¬ i < m.vars.length
 · rw [Wq _ _ _ _ jB] at h4
   repeat' (first | refine ca Aj (BH _ _) ?_ | refine ca AN (In _ _ _ _) ?_ | exact jA | refine AF ?_ | refine two ?_ ?_ | refine AB fun c_ => ?_ | refine imp fun hc => ?_; try exact cx1 hc | refine all fun v_ => ?_)
   refine AI jE ?_
   ((with_reducible apply rq2); rfl; rfl; rfl)
   exact AA (by rw [h4])
 replace hi := jY hi
 have hi' : i < xs.length := by omega
 rw [X8 _ _ _ _ hi hi'] at h4
 obtain ⟨d1, d2, d3, d4, d5⟩ := g.range _ (jb hi)
 by_cases cl : ¬ (m.vars[i].low ≤ xs[i] ∧ xs[i] ≤ m.vars[i].high)
 · rw [if_neg cl] at h4
   have e1 : decide (m.vars[i].low ≤ xs[i] ∧ xs[i] ≤ m.vars[i].high) = false := decide_eq_false cl
   have e2 := In G xs[i] m.vars[i].low m.vars[i].high
   rw [e1] at e2
   repeat' (first | refine ca AN (e2) ?_ | refine caq AN (e2) ?_ | exact jA | refine AF ?_ | refine two ?_ ?_ | refine AB fun c_ => ?_ | refine imp fun hc => ?_; try exact cx1 hc | refine all fun v_ => ?_)
   all_goals
    refine AI jE ?_
    ((with_reducible apply rq2); rfl; rfl; rfl)
    exact AA (by rw [h4])
 replace cl := jY cl
 rw [if_pos cl] at h4
 have e1 : decide (m.vars[i].low ≤ xs[i] ∧ xs[i] ≤ m.vars[i].high) = true := decide_eq_true cl
 have e2 := In G xs[i] m.vars[i].low m.vars[i].high
 rw [e1] at e2
 have hsp : BL m.vars[i] = m.vars[i].high - m.vars[i].low + 1 := rfl
 rw [KD _ _ hi] at h3
 have hq := (g.take (i + 1)).2.2
 obtain ⟨s1, s2, s3⟩ := bX (d := xs[i] - m.vars[i].low) h2 h3 hq.1 jB jB
 have ha := g.all
 have e3 := LK G m g hl6 (i + 1) jB i jB
 have hin : Ao ((xs[i] - m.vars[i].low) * AR (m.vars.drop (i + 1))) := ⟨by omega, by omega⟩
 repeat' (first | refine ca AN (e2) ?_ | refine caq AN (e2) ?_ | refine ca B4 (e3) ?_ | refine caq B4 (e3) ?_ | exact jA | refine AF ?_ | refine two ?_ ?_ | refine AB fun c_ => ?_ | refine imp fun hc => ?_; try exact cx1 hc | refine all fun v_ => ?_)
 refine ⟨(i + 1, n + (xs[i] - m.vars[i].low) * AR (m.vars.drop (i + 1))), ⟨by dsimp only; omega, s2, s3, h4⟩, jC, VS.of_le ?_⟩
 exact leD
end Go.Proofs.YtnlfhnbcdfdhgaaGreatDoor
namespace Go.Sp
open Go Go.Av
def B2 : List Vr → Int → List Int
 | [], _ => []
 | v :: l, c => (v.low + c / AR l) :: B2 l (c % AR l)
theorem FW : ∀ (l : List Vr) (c : Int), (B2 l c).length = l.length
 | [], _ => rfl
 | _ :: l, c => by simp [B2, FW l]
theorem bJ (l : List Vr) (i : Nat) (c : Int) (h : i < l.length) : B2 (l.drop i) c = (l[i].low + c / AR (l.drop (i + 1))) :: B2 (l.drop (i + 1)) (c % AR (l.drop (i + 1))) := by
 rw [ja h, B2]
theorem ea (c q s t : Int) (hq : 0 < q) : (c % (t * (s * q))) / q % s = c / q % s := by
 have e : c % (t * (s * q)) = c + (-(t * (c / (t * (s * q)))) * s) * q := by
  rw [Int.emod_def, show t * (s * q) * (c / (t * (s * q))) = t * (c / (t * (s * q))) * s * q by
   rw [Int.mul_assoc t (s * q), Int.mul_comm (s * q), ← Int.mul_assoc, ← Int.mul_assoc]]
  rw [Int.neg_mul, Int.neg_mul]
  omega
 rw [e, Int.add_mul_ediv_right _ _ jB, Int.add_mul_emod_self_right]
theorem LA : ∀ (l : List Vr) (c : Int) (i : Nat) (_ : ∀ v ∈ l, 1 ≤ BL v) (_ : 0 ≤ c) (_ : c < AR l) (h : i < l.length) (h' : i < (B2 l c).length), (B2 l c)[i] = l[i].low + c / AR (l.drop (i + 1)) % BL l[i]
 | [], _, _, _, _, _, h, _ => by simp at h
 | v :: l, c, 0, hs, h0, hc, _, _ => by
   have hp := Ec fun w hw => hs w (List.mem_cons_of_mem v hw)
   simp only [B2, List.getElem_cons_zero, List.drop_succ_cons, List.drop_zero]
   rw [Int.emod_eq_of_lt (Int.ediv_nonneg h0 jB) (Int.ediv_lt_of_lt_mul jB hc)]
 | v :: l, c, i + 1, hs, h0, hc, h, h' => by
   have hl : ∀ w ∈ l, 1 ≤ BL w := fun w hw => hs w (List.mem_cons_of_mem v hw)
   have hp := Ec hl
   have hi : i < l.length := by simpa using h
   have hq := Ec fun w hw => hl w (List.mem_of_mem_drop (i := i + 1) hw)
   have e : AR l = AR (l.take i) * (BL l[i] * AR (l.drop (i + 1))) := by
    rw [← KD l i hi, ← FP, List.take_append_drop]
   simp only [B2, List.getElem_cons_succ, List.drop_succ_cons]
   rw [LA l _ i hl (Int.emod_nonneg _ jB) (Int.emod_lt_of_pos _ jB) hi, e, ea _ _ _ _ jB]
noncomputable def BK (m : Md) (c : Int) : List Int × Int := if AT m ≠ 0 then ([], AT m) else if 0 ≤ c ∧ c < AR m.vars then (B2 m.vars c, 0) else ([], 9)
theorem cr (c q s : Int) (hq : 0 ≤ q) : c / q / s = c / (s * q) := by rw [Int.ediv_ediv, if_neg jB, Int.sub_zero, Int.mul_comm]
def Ie (V : List Int) (k : Nat) : List Int := List.replicate k 0 ++ V.drop k
theorem QY (V : List Int) (k : Nat) (h : k ≤ V.length) : (Ie V k).length = V.length := by simp [Ie]; omega
theorem X0 (V : List Int) (k : Nat) (h : k < V.length) : (Ie V (k + 1)).set k V[k] = Ie V k := by
 unfold Ie
 rw [List.replicate_succ', List.append_assoc, List.set_append_right _ _ (by simp), ja h]
 simp
end Go.Sp
namespace Go.Proofs.YtnlfhnbcdfdhgaaGreatDoor
open Go Go.Av Go.Sp
theorem Eh : Cal Tryz.prog 82 := Cal.of Tryz.func82 (by kernel_rfl) (by kernel_rfl)
theorem CV : Cal Tryz.prog 116 := Cal.of Tryz.func116 (by kernel_rfl) (by kernel_rfl)
theorem aD (m : Md) (code : Int) : ACr Tryz.prog GP 82 [mdA m, .int code] (.tup [.d (AJ (BK m code).1), .int (BK m code).2]) := by
 refine AK (ts := [4, 5]) Tryz.f82.ntmps Tryz.func82 rfl rfl rfl (by simp [Tryz.ntmps82]) fun W I => ?_
 have ec := Count m
 by_cases c1 : AT m ≠ 0
 · rw [Dv, if_pos c1] at ec
   dsimp only at ec
   repeat' (first | refine ca DK (ec) ?_ | exact jA | refine AF ?_ | refine two ?_ ?_ | refine AB fun c_ => ?_ | refine imp fun hc => ?_; try exact cx1 hc | refine all fun v_ => ?_)
   refine AI (VS.trans jE (Cj (t := 4) 1 8 rfl)) ?_
   ((with_reducible apply rq2); rfl; rfl; rfl)
   exact AA (by rw [BK, if_pos c1]; rfl)
 have hv := BM (show AT m = 0 by omega)
 have g := IW hv
 have hl6 := DZ hv
 have hall := g.all
 rw [Dv, if_neg c1] at ec
 dsimp only at ec
 by_cases c2 : ¬ (0 ≤ code ∧ code < AR m.vars)
 · repeat' (first | refine ca DK (ec) ?_ | exact jA | refine AF ?_ | refine two ?_ ?_ | refine AB fun c_ => ?_ | refine imp fun hc => ?_; try exact cx1 hc | refine all fun v_ => ?_)
   all_goals
    refine AI (VS.trans jE (Cj (t := 4) 1 8 rfl)) ?_
    ((with_reducible apply rq2); rfl; rfl; rfl)
    exact AA (by rw [BK, if_neg c1, if_neg c2]; rfl)
 replace c2 := jY c2
 have hF : BK m code = (B2 m.vars code, 0) := by rw [BK, if_neg c1, if_pos c2]
 have hVl := FW m.vars code
 repeat' (first | refine ca DK (ec) ?_ | exact jA | refine AF ?_ | refine two ?_ ?_ | refine AB fun c_ => ?_ | refine imp fun hc => ?_; try exact cx1 hc | refine all fun v_ => ?_)
 obtain ⟨bo, rfl⟩ : ∃ x, x = v_ := ⟨v_, rfl⟩
 obtain ⟨bm, rfl⟩ : ∃ x, x = v_ := ⟨v_, rfl⟩
 have e0 : code / AR (m.vars.drop m.vars.length) = code := by simp [AR]
 have e1 : Ie (B2 m.vars code) m.vars.length = List.replicate m.vars.length 0 := by simp [Ie, hVl]
 refine AG (X := Nat) (fun k => [(1, .int (code / AR (m.vars.drop k))), (2, .val (.pointer (some ⟨bm, 0, none⟩))), (8, .val (.slice (some ⟨bo, 0, none⟩) m.vars.length m.vars.length)), (9, .int ((k : Int) - 1))]) (fun k => [.cells bo 3 ((Ie (B2 m.vars code) k).map AV.int), .cells bm 25 [.d (Au m.vars), .d (Ae m.rules)]]) (fun k => k ≤ m.vars.length) (fun k => k) m.vars.length (Nat.le_refl _) ?_ ?_
 · rw [e0, e1]
   refine VS.of_le ?_
   exact leD
 rintro k h1
 have hfl := QY (B2 m.vars code) k jB
 by_cases hk : k = 0
 · subst hk
   repeat' (first | refine ca DK (ec) ?_ | exact jA | refine AF ?_ | refine two ?_ ?_ | refine AB fun c_ => ?_ | refine imp fun hc => ?_; try exact cx1 hc | refine all fun v_ => ?_)
   refine AI (VS.trans (VS.drop (h' := [.cells bo 3 ((Ie (B2 m.vars code) 0).map AV.int)]) IE) (vfz (t := 4) (f := AS) (h1 := []) 1 8 rfl rfl rfl (I9 (Ie (B2 m.vars code) 0)) jB (fun _ => rfl) jB jB)) ?_
   ((with_reducible apply rq2); rfl; rfl; rfl)
   exact AA (by rw [hF]; simp [Ie] <;> rfl)
 obtain ⟨j, rfl⟩ : ∃ j, k = j + 1 := ⟨k - 1, by omega⟩
 have hj : j < m.vars.length := by omega
 have ej : (((j + 1 : Nat) : Int) - 1) = (j : Int) := by omega
 rw [ej]
 obtain ⟨d1, d2, d3, d4, d5⟩ := g.range _ (jb hj)
 have hq := (g.take (j + 1)).2.2
 have hsp : BL m.vars[j] = m.vars[j].high - m.vars[j].low + 1 := rfl
 have q0 : 0 ≤ code / AR (m.vars.drop (j + 1)) := Int.ediv_nonneg c2.1 jB
 have q1 : code / AR (m.vars.drop (j + 1)) ≤ code := Int.ediv_le_self _ c2.1
 have hn : code / AR (m.vars.drop (j + 1)) / (m.vars[j].high - m.vars[j].low + 1) = code / AR (m.vars.drop j) := by rw [cr _ _ _ jB, KD _ _ hj, hsp]
 have hV := LA m.vars code j (fun v hv => (g.span v hv).1) c2.1 c2.2 hj jB
 have hset := X0 (B2 m.vars code) j jB
 rw [hV, hsp] at hset
 generalize code / AR (m.vars.drop (j + 1)) = c at *
 have m0 := Int.emod_nonneg c (show m.vars[j].high - m.vars[j].low + 1 ≠ 0 by omega)
 have m1 := Int.emod_lt_of_pos c (show 0 < m.vars[j].high - m.vars[j].low + 1 by omega)
 repeat' (first | refine ca DK (ec) ?_ | exact jA | refine AF ?_ | refine two ?_ ?_ | refine AB fun c_ => ?_ | refine imp fun hc => ?_; try exact cx1 hc | refine all fun v_ => ?_)
 refine ⟨j, by omega, by omega, ?_⟩
 rw [← hn, ← hset]
 refine VS.take AH ?_
 exact leD
theorem RK (G : List (Nat × List D)) (m : Md) (code : Int) : ACr Tryz.prog G 116 [mdA m, .int code] (.tup [.d (AJ (BK m code).1), .int (BK m code).2]) := by
 refine AK (ts := [4, 5]) Tryz.f116.ntmps Tryz.func116 rfl rfl rfl (by simp [Tryz.ntmps116]) fun W I => ?_
 have ec := Jz G m
 by_cases c1 : AT m ≠ 0
 · rw [Dv, if_pos c1] at ec
   dsimp only at ec
   repeat' (first | refine ca BC (ec) ?_ | refine ca AN (In _ _ _ _) ?_ | refine ca B4 (e3) ?_ | exact jA | refine AF ?_ | refine two ?_ ?_ | refine AB fun c_ => ?_ | refine imp fun hc => ?_; try exact cx1 hc | refine all fun v_ => ?_)
   refine AI (VS.trans jE (Cj (t := 4) 1 8 rfl)) ?_
   ((with_reducible apply rq2); rfl; rfl; rfl)
   exact AA (by rw [BK, if_pos c1]; rfl)
 have hv := BM (show AT m = 0 by omega)
 have g := IW hv
 have hl6 := DZ hv
 have hall := g.all
 have hp1 := (g.take 0).2.2.1
 rw [List.drop_zero] at hp1
 rw [Dv, if_neg c1] at ec
 dsimp only at ec
 by_cases c2 : ¬ (0 ≤ code ∧ code < AR m.vars)
 · repeat' (first | refine ca BC (ec) ?_ | refine ca AN (In _ _ _ _) ?_ | refine ca B4 (e3) ?_ | exact jA | refine AF ?_ | refine two ?_ ?_ | refine AB fun c_ => ?_ | refine imp fun hc => ?_; try exact cx1 hc | refine all fun v_ => ?_)
   all_goals
    refine AI (VS.trans jE (Cj (t := 4) 1 8 rfl)) ?_
    ((with_reducible apply rq2); rfl; rfl; rfl)
    exact AA (by rw [BK, if_neg c1, if_neg c2]; rfl)
 replace c2 := jY c2
 have hF : BK m code = (B2 m.vars code, 0) := by rw [BK, if_neg c1, if_pos c2]
 have hVl := FW m.vars code
 repeat' (first | refine ca BC (ec) ?_ | refine ca AN (In _ _ _ _) ?_ | refine ca B4 (e3) ?_ | exact jA | refine AF ?_ | refine two ?_ ?_ | refine AB fun c_ => ?_ | refine imp fun hc => ?_; try exact cx1 hc | refine all fun v_ => ?_)
 obtain ⟨bm, rfl⟩ : ∃ x, x = v_ := ⟨v_, rfl⟩
 refine Db (E := 3) (sz := 1) AS ?_
 refine AG (X := Nat × Int × List Int × Sl) (fun y => [(1, .int y.2.1), (2, .val (.pointer (some ⟨bm, 0, none⟩))), (8, .val y.2.2.2.v), (9, .int y.1)]) (fun y => [AL y.2.2.2.v 3 1 AS y.2.2.1, .cells bm 25 [.d (Au m.vars), .d (Ae m.rules)]]) (fun y => y.1 ≤ m.vars.length ∧ 0 ≤ y.2.1 ∧ y.2.1 ≤ 4096 ∧ y.2.2.1.length = y.1 ∧ y.2.2.1 ++ B2 (m.vars.drop y.1) y.2.1 = B2 m.vars code) (fun y => m.vars.length - y.1) (0, code, [], Sl.nil) ⟨Nat.zero_le _, c2.1, jC, rfl, rfl⟩ (VS.of_le ?_) ?_
 · exact leD
 rintro ⟨i, c, acc, q⟩ ⟨h1, h2, h3, h4, h5⟩
 dsimp only at h1 h2 h3 h4 h5 ⊢
 by_cases hi : i < m.vars.length
 · rw [bJ _ _ _ hi] at h5
   obtain ⟨d1, d2, d3, d4, d5⟩ := g.range _ (jb hi)
   have hq := (g.take (i + 1)).2.2
   have e3 := LK G m g hl6 (i + 1) jB i jB
   generalize AR (m.vars.drop (i + 1)) = b at *
   have q0 : 0 ≤ c / b := Int.ediv_nonneg h2 jB
   have q1 : c / b ≤ c := Int.ediv_le_self _ h2
   have m0 := Int.emod_nonneg c (show b ≠ 0 by omega)
   have m1 := Int.emod_lt_of_pos c (show 0 < b by omega)
   repeat' (first | refine ca BC (ec) ?_ | refine ca AN (In _ _ _ _) ?_ | refine ca B4 (e3) ?_ | exact jA | refine Cb ?_ | refine two ?_ ?_ | refine AB fun c_ => ?_ | refine imp fun hc => ?_; try exact cx hc | refine all fun v_ => ?_)
   refine ⟨?_⟩
   refine CL [AL q.v 3 1 AS acc] mixed rfl (by (repeat ((with_reducible apply Hd.cons); rfl)); exact Hd.nil) (by (repeat (with_reducible apply Al)); exact len_nil) (by decide +kernel) BF ?_
   repeat' (first | refine ca BC (ec) ?_ | refine ca AN (In _ _ _ _) ?_ | refine ca B4 (e3) ?_ | exact jA | refine AF ?_ | refine two ?_ ?_ | refine AB fun c_ => ?_ | refine imp fun hc => ?_; try exact cx1 hc | refine all fun v_ => ?_)
   refine ⟨(i + 1, c % b, acc ++ [m.vars[i].low + c / b], v_), ⟨by dsimp only; omega, m0, jC, by simp [h4], by simpa using h5⟩, jC, ?_⟩
   refine VS.take AH ?_
   exact leD
 obtain rfl : i = m.vars.length := by omega
 rw [List.drop_length, B2, List.append_nil] at h5
 subst h5
 repeat' (first | refine ca BC (ec) ?_ | refine ca AN (In _ _ _ _) ?_ | refine ca B4 (e3) ?_ | exact jA | refine AF ?_ | refine two ?_ ?_ | refine AB fun c_ => ?_ | refine imp fun hc => ?_; try exact cx1 hc | refine all fun v_ => ?_)
 refine AI (VS.trans (Bq (t := 4) (eb := 8) rfl rfl (fun x => rfl) jB) jE) ?_
 ((with_reducible apply rq2); rfl; rfl; rfl)
 exact AA (by rw [hF])
end Go.Proofs.YtnlfhnbcdfdhgaaGreatDoor
namespace Go.Av
open Go Go.Instr
theorem AC.factU {α β : Type} {f : α → List D} {e : β → List D} {g : α → List β} {xs : List α} {P : Program} {G : List (Nat × List D)} {fn : FuncId} {args : List AV} {h : H} {Q : AE → H → Prop} {sz eb sz' eb' : Nat} (u : Nat) (hu : ∀ a, (f a)[u]? = some (.l sz' eb' ((g a).map e))) (hm : InA (.l sz eb (xs.map f)) args)
 (hac : (∀ a ∈ xs, (g a).length * eb' ≤ 140737488355328) → AC P G fn args h Q) : AC P G fn args h Q := by
 intro I W vs h1 h2 h3 h4 h5
 obtain ⟨v, hv⟩ := hm.rel h5
 refine hac (fun a ha => ?_) I W vs h1 h2 h3 h4 h5
 obtain ⟨j, hj, rfl⟩ := List.getElem_of_mem ha
 have key : ∀ rows, rows = xs.map f → Rel W I (.l sz eb rows) v → ∃ w, Rel W I (.l sz' eb' ((g xs[j]).map e)) w := fun rows hr hrel => by
  have hrow : rows[j]? = some (f xs[j]) := by rw [hr, List.getElem?_map, List.getElem?_eq_getElem hj]; rfl
  cases hrel with
  | nil => simp at hrow
  | emp => simp at hrow
  | l _ _ _ ad cap css hI hcap hm hb hsz hc hr => exact ⟨_, hr j u _ _ hrow (hu _)⟩
 obtain ⟨w, hw⟩ := key _ rfl hv
 have := (Rel.len_le hw).1
 rwa [List.length_map] at this
def Eq4 (P : Program) (T : TypeId) : Prop := P.eqGuardType P.depth T = false ∧ ∀ (s : ByteArray) (a b c : Int) w, (Op.equalIn 10000 T (.agg #[.string s, .int .i64 a, .int .i64 b, .int .i64 c]) (.agg #[.string s, .int .i64 a, .int .i64 b, .int .i64 c])).run P w = .ok true w
section
variable {P : Program} {G : List (Nat × List D)} {ρ : Env} {h : H} {dst : Option Tmp} {ty : TypeId} {pos : String} {after : Array Edge} {g : Option (Nat × Bool)}
theorem dm {T T' : TypeId} {x y : Operand} {s : ByteArray} {a b c : Int} (hT : Eq4 P T) (hx : evO ρ x = some (.agg [.val (.string s), .int a, .int b, .int c])) (hy : evO ρ y = some (.agg [.val (.string s), .int a, .int b, .int c])) :
 Pure P G ⟨dst, .binOp .neq T x y T', ty, pos, after, g⟩ ρ h (.bool false) :=
 Ah fun w I _ ac k => ⟨_, rfl, fun w' => by
  obtain ⟨vs, e1, r1⟩ := BI (k.ev x) (AD hx)
  obtain ⟨us, e2, r2⟩ := BI (k.ev y) (AD hy)
  obtain ⟨rfl⟩ : vs = [.string s, .int .i64 a, .int .i64 b, .int .i64 c] := by
   match vs, r1 with
   | [p, q, r, t], ⟨h1, h2, h3, h4, _⟩ => cases h1; cases h2; cases h3; cases h4; rfl
  obtain ⟨rfl⟩ : us = [.string s, .int .i64 a, .int .i64 b, .int .i64 c] := by
   match us, r2 with
   | [p, q, r, t], ⟨h1, h2, h3, h4, _⟩ => cases h1; cases h2; cases h3; cases h4; rfl
  simp [execOp, e1, e2, run_eqGuard_agg _ _ _ _ _ _ _ hT.1, run_neq_struct, hT.2]⟩
end
section
variable {P : Program} {G : List (Nat × List D)} {ρ : Env} {h : H} {dst : Option Tmp} {ty : TypeId} {pos : String} {after : Array Edge} {g : Option (Nat × Bool)}
theorem Ej {α β : Type} [DecidableEq α] {kd : TypeDesc} {kv : α → Value} {vv : β → Value} (K : Mz kd kv) {T KT ET : TypeId} {x y : Operand} {b : Nat} {ps : List (α × β)} {a : α}
 (hx : evO ρ x = some (.val (.map (some b)))) (hy : evO ρ y = some (.val (kv a))) (hT : P.underlying T = some (.map KT ET)) (hK : P.underlying KT = some kd) (hm : Ent.raw b (BT (Am kv vv ps)) ∈ h) {c : β} (hc : getM ps a = some c) :
 Pure P G ⟨dst, .lookup T x y false, ty, pos, after, g⟩ ρ h (.val (vv c)) := by
 intro cx I n ac w _ hok hs
 have e1 := AQ (hs.ev x) (AD hx)
 have e2 := AQ (hs.ev y) (AD hy)
 have hb : w.heap[b]? = some (BT (Am kv vv ps)) := hok.ent _ hm
 refine ⟨vv c, rfl, fun w' hw' => ?_⟩
 have hb' : w'.heap[b]? = some (BT (Am kv vv ps)) := (hw'.own b (EG hm rfl)).trans hb
 have hobj : (getObj b).run P w' = .ok (.map (Bx (Am kv vv ps) 0).toArray (Am kv vv ps).length) w' := by simp [getObj, Sem.run, hb', BT]
 obtain ⟨r, hr1, hr2⟩ := Te (vv := vv) K hK ps a w'
 simp only [execOp, e1, e2, lookup]
 rw [hc] at hr2
 cases r with
 | none => cases hr2
 | some p =>
   obtain ⟨j, v⟩ := p
   obtain rfl : v = vv c := by simpa using hr2
   simp [run_underlying hT, hobj, K.easy P KT _ a w' hK, hr1]
end
section
variable {k : Kx} {Q : Exit → Env → H → Prop} {ρ : Env} {h h' : H} {ops : Array Oper} {l : List Oper} {d : Nat} {ty : TypeId} {pos : String} {after : Array Edge} {g : Option (Nat × Bool)}
-- an entry of a literal
theorem Fx {α β : Type} [DecidableEq α] {kd : TypeDesc} {kv : α → Value} {vv : β → Value} (K : Mz kd kv) {T KT ET : TypeId} {x y u : Operand} {r : AV} {b : Nat} {ps : List (α × β)} {a : α} {c : β}
 (hx : evO ρ x = some (.val (.map (some b)))) (hy : evO ρ y = some (.val (kv a))) (hv : evO ρ u = some r) (hr : ∀ w I v, AV.rel w I r v → v = vv c) (hT : k.P.underlying T = some (.map KT ET)) (hK : k.P.underlying KT = some kd)
 (hu : Upd (.raw b (BT (Am kv vv ps))) (.raw b (BT (Am kv vv (ps ++ [(a, c)])))) h h') (hno : getM ps a = none)
 (hj : JL k ops l Q ρ h') : JL k ops (⟨none, .insert T x y u, ty, pos, after, none⟩ :: l) Q ρ h := by
 obtain ⟨h1, h2, rfl, rfl⟩ := hu.split
 refine GN rfl rfl fun I ac w k1 k2 => ?_
 have e1 := AQ (k2.ev x) (AD hx)
 have e2 := AQ (k2.ev y) (AD hy)
 have e3 := hr _ _ _ (BI (k2.ev u) (AD hv))
 have hb : w.heap[b]? = some (BT (Am kv vv ps)) := k1.ent (.raw b (BT (Am kv vv ps))) (by simp)
 have hfind := MK (vv := vv) K a ps 0 0 (getM_none.1 hno)
 have hnew : Obj.map (Bx (Am kv vv ps) 0 ++ [(⟨kv a, vv c, (Am kv vv ps).length⟩ : MapEntry)]).toArray ((Am kv vv ps).length + 1) = BT (Am kv vv (ps ++ [(a, c)])) := by
  have e : Am kv vv (ps ++ [(a, c)]) = Am kv vv ps ++ [(kv a, vv c)] := by simp [Am]
  unfold BT
  rw [e, FK]
  simp [Bx]
 obtain ⟨g1, g2⟩ := k1.write (w' := { w with heap := w.heap.setIfInBounds b (BT (Am kv vv (ps ++ [(a, c)]))) }) (e' := .raw b (BT (Am kv vv (ps ++ [(a, c)])))) (b := b) rfl rfl rfl rfl rfl (by simp)
  (fun x hx => by simp [Array.getElem?_setIfInBounds, Ne.symm hx]) (by
   have hlt := (Array.getElem?_eq_some_iff.1 hb).1
   show _ = _
   simp [Array.getElem?_setIfInBounds, hlt])
 refine ⟨{ w with heap := w.heap.setIfInBounds b (BT (Am kv vv (ps ++ [(a, c)]))) }, I, h1 ++ .raw b (BT (Am kv vv (ps ++ [(a, c)]))) :: h2, ?_, g1, k2.mono g2 (fun _ h => h), hj⟩
 have hobj : (getObj b).run k.P w = .ok (.map (Bx (Am kv vv ps) 0).toArray (Am kv vv ps).length) w := by simp [getObj, Sem.run, hb, BT]
 have hset := MO (P := k.P) (w := w) (r := b) (BT (Am kv vv (ps ++ [(a, c)]))) (es := (Bx (Am kv vv ps) 0).toArray) (clock := (Am kv vv ps).length) hb
 simp only [execOp, e1, e2, e3, mapUpdate]
 simp [run_underlying hT, hobj, K.easy k.P KT false a w hK, findKey, run_underlying hK, hfind, hnew, hset]
theorem Ga {α β : Type} (kv : α → Value) (vv : β → Value) {T : TypeId} (hd : Nat.blt d k.n = true) (hj : All fun b : Nat => JL k ops l Q ((d, .val (.map (some b))) :: ρ) (.raw b (BT (Am kv vv [])) :: h)) : JL k ops (⟨some d, .makeMap T none, ty, pos, after, none⟩ :: l) Q ρ h := ZS hd hj
end
end Go.Av
namespace Go.Sp
open Go Go.Av
def AU (n : Int) : Prop := -1000000 ≤ n ∧ n ≤ 1000000
instance (n : Int) : Decidable (AU n) := by unfold AU; infer_instance
def ovr (n : Int) : Option Int := if AU n then some n else none
def opV (k v : Int) (env : List Int) (a b : Int) : Int :=
 if k = 1 then v else if k = 2 then (env[v.toNat]?).getD 0 else if k = 3 then a + b else if k = 4 then a - b else if k = 5 then a * b
 else if k = 6 then (if a = b then 1 else 0) else if k = 7 then (if a < b then 1 else 0) else if k = 8 then (if a = 1 ∧ b = 1 then 1 else 0)
 else if k = 9 then (if a = 1 ∨ b = 1 then 1 else 0) else if k = 10 then (if a = 0 then 1 else 0) else if k = 11 then 1 else 0
abbrev np (l : List Fo) (i : Nat) : Int := (partsOf (Ag l i)).1
def Lj (l : List Fo) (env : List Int) (i : Nat) (a b : Option Int) : Option Int :=
 (if 1 ≤ np l i then a else some 0).bind fun x => (if 2 ≤ np l i then b else some 0).bind fun y => ovr (opV (Ag l i) (HM l i) env x y)
def evm (l : List Fo) (env : List Int) : Nat → Nat → Option Int
 | 0, _ => none
 | m + 1, i => if i < l.length then Lj l env i (evm l env m (i + 1)) (if i < second l i then evm l env m (second l i) else none) else none
def Bs (l : List Fo) (env : List Int) (i : Nat) : Option Int := evm l env (l.length - i) i
theorem Mx (l : List Fo) (env : List Int) : ∀ (m i : Nat), l.length ≤ i + m → evm l env m i = Bs l env i := by
 intro m
 induction m using Nat.strongRecOn with
 | _ m ih =>
 intro i h
 unfold Bs
 by_cases hi : i < l.length
 · obtain ⟨m', rfl⟩ : ∃ m', m = m' + 1 := ⟨m - 1, by omega⟩
   obtain ⟨k, hk⟩ : ∃ k, l.length - i = k + 1 := ⟨l.length - i - 1, by omega⟩
   rw [hk]
   have e : ∀ j, i < j → evm l env m' j = evm l env k j := fun j hj => by
    rw [ih m' jB j jB]
    by_cases hkm : k < m' + 1
    · rw [ih k hkm j jB]
    · omega
   simp only [evm, if_pos hi]
   rw [e (i + 1) jB]
   by_cases h2 : i < second l i
   · rw [if_pos h2, if_pos h2, e _ h2]
   · rw [if_neg h2, if_neg h2]
 · rw [show l.length - i = 0 by omega]
   cases m with
   | zero => rfl
   | succ m => simp only [evm, if_neg hi]
theorem H0 (l : List Fo) (env : List Int) (i : Nat) (hi : i < l.length) : Bs l env i = Lj l env i (Bs l env (i + 1)) (if i < second l i then Bs l env (second l i) else none) := by
 rw [← Mx l env (l.length - (i + 1)) (i + 1) jB]
 conv => lhs; rw [Bs, show l.length - i = (l.length - (i + 1)) + 1 by omega, evm, if_pos hi]
 by_cases h2 : i < second l i
 · rw [if_pos h2, if_pos h2, Mx l env _ (second l i) jB]
 · rw [if_neg h2, if_neg h2]
structure DC (l : List Fo) (vars : Int) : Prop where
 h60 : l.length ≤ 60
 pos : 0 < l.length
 well : ∀ (i : Nat) (_ : i < l.length), (AM l i).2 = 0
 op : ∀ (i : Nat) (hi : i < l.length), opZ l[i].kind l[i].val vars = 0
 typed : DN l
 ends : (Af l).2 = 0
theorem VZ (l : List Fo) (vars : Int) : ∀ (m i : Nat), l.length = i + m → I5 (l.drop i) vars = 0 → ∀ (q : Nat) (hq : q < l.length), i ≤ q → opZ l[q].kind l[q].val vars = 0
 | 0, i, h, _, q, hq, hi => by omega
 | m + 1, i, h, he, q, hq, hi => by
   rw [Qi l i jB] at he
   by_cases c : opZ l[i].kind l[i].val vars ≠ 0
   · rw [if_pos c] at he; exact absurd he c
   · rw [if_neg c] at he
     by_cases e : q = i
     · subst e; exact jY c
     · exact VZ l vars m (i + 1) jB he q hq jB
theorem No {l : List Fo} {vars : Int} (h : (Cp l vars).2 = 0) : DC l vars ∧ 0 ≤ vars ∧ vars ≤ 6 := by
 unfold Cp at h
 by_cases h1 : vars < 0 ∨ 6 < vars
 · rw [if_pos h1] at h; exact absurd h (by decide)
 rw [if_neg h1] at h
 by_cases h2 : (Af l).2 ≠ 0
 · rw [if_pos h2] at h; exact absurd h h2
 rw [if_neg h2] at h
 by_cases h3 : I5 l vars ≠ 0
 · rw [if_pos h3] at h; exact absurd h h3
 rw [if_neg h3] at h
 by_cases h4 : DN l
 · obtain ⟨k1, k2, k3, k4, k5⟩ := B1 (l := l) (es := (Af l).1) (Prod.ext rfl (jY h2))
   exact ⟨⟨k1, k2, Mt (jY h2), fun i hi => VZ l vars l.length 0 jB (jY h3) i hi (Nat.zero_le _), h4, jY h2⟩, by omega, by omega⟩
 · rw [if_neg h4] at h; exact absurd h (by decide)
theorem DC.kind {l : List Fo} {vars : Int} (g : DC l vars) {i : Nat} (hi : i < l.length) : 1 ≤ l[i].kind ∧ l[i].kind ≤ 12 ∧ (l[i].kind = 1 → -1000 ≤ l[i].val ∧ l[i].val ≤ 1000) ∧ (l[i].kind = 2 → 0 ≤ l[i].val ∧ l[i].val < vars) := by
 have h := g.op i hi
 unfold opZ at h
 by_cases c : ¬ okP l[i].kind
 · rw [if_pos c] at h; exact absurd h (by decide)
 rw [if_neg c] at h
 by_cases c2 : (l[i].kind = 1 ∧ (l[i].val < -1000 ∨ 1000 < l[i].val)) ∨ (l[i].kind = 2 ∧ (l[i].val < 0 ∨ vars ≤ l[i].val)) ∨ (2 < l[i].kind ∧ l[i].val ≠ 0)
 · rw [if_pos c2] at h; exact absurd h (by decide)
 omega
theorem DC.parts {l : List Fo} {vars : Int} (g : DC l vars) {i : Nat} (hi : i < l.length) :
 (np l i = 0 ∧ (AM l i).1 = (i : Int) + 1) ∨
 (np l i = 1 ∧ i + 1 < l.length ∧ (AM l i).1 = (AM l (i + 1 : Nat)).1) ∨
 (np l i = 2 ∧ i + 1 < l.length ∧ i + 1 < second l i ∧ second l i < l.length ∧ (AM l (i + 1 : Nat)).1 = (second l i : Nat) ∧ (AM l i).1 = (AM l (second l i : Nat)).1) := by
 have hk := Aq l i hi
 have he := F3 l i hi
 have hw := g.well i hi
 have wk := PR hi hw
 rw [if_neg (fun h => h wk)] at he
 have hb := Bz l[i].kind
 unfold np
 rw [hk]
 generalize hn : (partsOf l[i].kind).1 = n at he hb ⊢
 by_cases h0 : n = 0
 · subst h0
   rw [if_pos (by decide)] at he
   exact .inl ⟨rfl, by rw [he]⟩
 rw [if_neg jB] at he
 obtain ⟨q1, q2, q3, q4, q5⟩ := DY hi hw jB
 by_cases h1 : n = 1
 · subst h1
   refine .inr (.inl ⟨rfl, q1, ?_⟩)
   rw [he]; unfold AM; rw [Int.toNat_natCast]; rfl
 · have h2 : n = 2 := by omega
   subst h2
   obtain ⟨r1, r2⟩ := D9 hi hw hn
   refine .inr (.inr ⟨rfl, q1, q3, r1, q4, ?_⟩)
   have e := HS l (i + 1) 1 (by decide)
   rw [if_neg (fun h => h q2), q4] at e
   rw [he, show (1 : Int) + 2 - 1 = 1 + 1 by decide, show ((i : Int) + 1) = ((i + 1 : Nat) : Int) by omega, e]
   unfold AM; rw [Int.toNat_natCast]
inductive Stk (l : List Fo) (f : Nat → Int) : Nat → List Int → Prop where
 | nil {i : Nat} (h : l.length ≤ i) : Stk l f i []
 | cons {i : Nat} {S : List Int} (hi : i < l.length) (h : Stk l f (AM l i).1.toNat S) : Stk l f i (S ++ [f i])
theorem Stk.inv {l : List Fo} {f : Nat → Int} {i : Nat} {S : List Int} (h : Stk l f i S) (hi : i < l.length) : ∃ S', S = S' ++ [f i] ∧ Stk l f (AM l i).1.toNat S' := by
 cases h with
 | nil h => omega
 | cons _ h => exact ⟨_, rfl, h⟩
theorem Stk.fin {l : List Fo} {f : Nat → Int} {i : Nat} {S : List Int} (h : Stk l f i S) (hi : l.length ≤ i) : S = [] := by
 cases h with
 | nil h => rfl
 | cons h' _ => omega
theorem QA {l : List Fo} {env : List Int} {i : Nat} (hi : i < l.length) (hk : DM (Ag l i)) {v : Int} (h : Bs l env i = some v) : v = 0 ∨ v = 1 := by
 rw [H0 l env i hi, Lj] at h
 obtain ⟨a, _, h⟩ := Option.bind_eq_some_iff.1 h
 obtain ⟨b, _, h⟩ := Option.bind_eq_some_iff.1 h
 unfold ovr at h
 split at h
 · cases h
   unfold opV
   rw [if_neg jB, if_neg jB, if_neg jB, if_neg jB, if_neg jB]
   split
   · split <;> simp
   split
   · split <;> simp
   split
   · split <;> simp
   split
   · split <;> simp
   split
   · split <;> simp
   split <;> simp
 · cases h
theorem Jq {l : List Fo} {env : List Int} {i : Nat} (hi : i < l.length) {v : Int} (h : Bs l env i = some v) : AU v := by
 rw [H0 l env i hi, Lj] at h
 obtain ⟨a, _, h⟩ := Option.bind_eq_some_iff.1 h
 obtain ⟨b, _, h⟩ := Option.bind_eq_some_iff.1 h
 unfold ovr at h
 split at h
 · cases h; assumption
 · cases h
theorem Uo {l : List Fo} {i : Nat} (p m : Nat) (hp : p < m) : HM ((l.drop i).take m) p = HM l (i + p) := by
 unfold HM
 rw [List.getElem?_take_of_lt hp, List.getElem?_drop]
theorem dH {l : List Fo} {env : List Int} {vars : Int} (g : DC l vars) {i : Nat} (hi : i < l.length) : ∀ (m k : Nat), (AM l i).1 ≤ ((i + k + m : Nat) : Int) → ((i + k : Nat) : Int) < (AM l i).1 → Bs ((l.drop i).take ((AM l i).1.toNat - i)) env k = Bs l env (i + k) := by
 have hw := g.well i hi
 have hb := Ak l i hw
 have hlen := Gb hw
 intro m
 induction m using Nat.strongRecOn with
 | _ m ih =>
 intro k h1 h2
 have hkl : k < ((l.drop i).take ((AM l i).1.toNat - i)).length := by omega
 have hik : i + k < l.length := by omega
 rw [H0 _ env k hkl, H0 l env (i + k) hik]
 have hnest := D2 l l.length i 1 (AM l i).1 jB (by decide) (by rw [← Int.toNat_natCast i]; exact (Prod.ext rfl hw : AM l i = ((AM l i).1, 0)) ▸ rfl) (i + k) jB jB
 have e1 := Ge (l := l) (i := i) k ((AM l i).1.toNat - i) jB
 have e2 := Uo (l := l) (i := i) k ((AM l i).1.toNat - i) jB
 unfold Lj np
 rw [e1, e2]
 rcases g.parts hik with ⟨n0, _⟩ | ⟨n1, p1, p2⟩ | ⟨n2, p1, p2, p3, p4, p5⟩
 · rw [show (partsOf (Ag l (i + k))).1 = 0 from n0]; rfl
 · rw [show (partsOf (Ag l (i + k))).1 = 1 from n1]
   have hb1 := Ak l (i + k + 1) (g.well _ p1)
   have := ih (m - 1) jB (k + 1) jB jB
   rw [show i + (k + 1) = i + k + 1 by omega] at this
   rw [this]; rfl
 · rw [show (partsOf (Ag l (i + k))).1 = 2 from n2]
   have hb1 := Ak l (i + k + 1) (g.well _ p1)
   have hb2 := Ak l (second l (i + k)) (g.well _ p3)
   have t1 := ih (m - 1) jB (k + 1) jB jB
   rw [show i + (k + 1) = i + k + 1 by omega] at t1
   have hpa := MH hw (k + 1) jB
   rw [show i + (k + 1) = i + k + 1 by omega, p4] at hpa
   have hs : second ((l.drop i).take ((AM l i).1.toNat - i)) k = second l (i + k) - i := by
    unfold second at hpa ⊢
    rw [hpa]; dsimp only; omega
   have t2 := ih (m - (second l (i + k) - (i + k))) jB (second l (i + k) - i) jB jB
   rw [show i + (second l (i + k) - i) = second l (i + k) by omega] at t2
   rw [t1, hs, t2, if_pos (show k < second l (i + k) - i by omega), if_pos (show i + k < second l (i + k) by omega)]
def wk (l : List Fo) (env : List Int) : Int × Int := match Bs l env 0 with | some n => (n, 0) | none => (0, 8)
def BS (l : List Fo) (env : List Int) : Int × Int :=
 if (Cp l env.length).2 ≠ 0 then (0, (Cp l env.length).2) else if ∀ v ∈ env, AU v then wk l env else (0, 2)
end Go.Sp
