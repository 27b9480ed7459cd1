/- A bundle of this claim's own texts: N5 N8. -/
import Derived.Test.YtibahljljjkceaaGreatDoorA23
import Derived.Test.YtibahljljjkceaaGreatDoorA24
set_option linter.unusedVariables false
set_option linter.unusedSimpArgs false
set_option maxRecDepth 100000
set_option maxHeartbeats 4000000
namespace Go.Proofs.YtibahljljjkceaaGreatDoor
open Go Go.Av Go.Sp
theorem UH (G : List (Nat × List D)) (m : Md) (code DP : Int) : ACr Tryz.prog G 79 [mdA m, .int code, .int DP] (.tup [.int (F8 m code DP).1, .int (F8 m code DP).2]) := by
 refine AC.factI (f := Ru.cells) (xs := m.rules) (.agg (.there .here)) fun hlr => ?_
 have hV := PK G m code
 refine AN (ts := [6, 7]) Tryz.f79.ntmps Tryz.func79 rfl rfl rfl (by simp [Tryz.ntmps79]) fun W I => ?_
 by_cases h1 : (BL m code).2 ≠ 0
 · rw [Rc h1]
   repeat' (first
    | refine ca CQ (hV) ?_
    | refine ca AL (In _ _ _ _) ?_
    | exact True.intro | refine AD ?_ | refine two ?_ ?_ | refine AB fun c_ => ?_
    | (refine imp fun hc => ?_) <;> try exact cx1 hc
    | refine all fun v_ => ?_)
   refine AH (VS.drop (List.nil_sublist _)) ?_
   ((with_reducible apply rq2); rfl; rfl; rfl)
   exact AA rfl
 obtain ⟨hm, c0, c1, hF⟩ := I8 (Decidable.not_not.1 h1)
 have g := InV.vals hm c0 c1
 rw [hF] at hV
 dsimp only at hV
 clear h1
 by_cases h2 : ¬ (0 ≤ DP ∧ DP ≤ (m.rules.length : Int) - 1)
 · rw [Tw hF (by omega)]
   repeat' (first
    | refine ca CQ (hV) ?_
    | refine ca AL (In _ _ _ _) ?_
    | exact True.intro | refine AD ?_ | refine two ?_ ?_ | refine AB fun c_ => ?_
    | (refine imp fun hc => ?_) <;> try exact cx1 hc
    | refine all fun v_ => ?_)
   refine AH (VS.drop (List.nil_sublist _)) ?_
   ((with_reducible apply rq2); rfl; rfl; rfl)
   exact AA rfl
 replace h2 := Decidable.not_not.1 h2
 have h4 : DP.toNat < m.rules.length := by omega
 rw [L5 hF (by omega) h4]
 have hr := List.getElem_mem h4
 generalize Bt m.vars code = vs at hV g ⊢
 have gr := Vl hm hr
 have hl6 := DQ (BM hm)
 have hln := g.len
 have hfew := gr.few
 have hE := Ji G m.rules[DP.toNat].guard vs
 by_cases h5 : BP m.rules[DP.toNat].guard vs ≠ (1, 0)
 · rw [Jc h5]
   generalize BP m.rules[DP.toNat].guard vs = p at hE h5
   obtain ⟨n, e⟩ := p
   dsimp only at hE
   by_cases h6 : e ≠ 0
   · repeat' (first
      | refine ca CQ (hV) ?_
      | refine ca AL (In _ _ _ _) ?_
      | refine ca C1 (hE) ?_
      | exact True.intro | refine AD ?_ | refine two ?_ ?_ | refine AB fun c_ => ?_
      | (refine imp fun hc => ?_) <;> try exact cx1 hc
      | refine all fun v_ => ?_)
     refine AH (VS.drop (List.nil_sublist _)) ?_
     ((with_reducible apply rq2); rfl; rfl; rfl)
     exact AA rfl
   by_cases h7 : n ≠ 1
   · repeat' (first
      | refine ca CQ (hV) ?_
      | refine ca AL (In _ _ _ _) ?_
      | refine ca C1 (hE) ?_
      | exact True.intro | refine AD ?_ | refine two ?_ ?_ | refine AB fun c_ => ?_
      | (refine imp fun hc => ?_) <;> try exact cx1 hc
      | refine all fun v_ => ?_)
     refine AH (VS.drop (List.nil_sublist _)) ?_
     ((with_reducible apply rq2); rfl; rfl; rfl)
     exact AA rfl
   exact absurd (Prod.ext (by dsimp only; omega) (by dsimp only; omega)) h5
 replace h5 := Decidable.not_not.1 h5
 rw [h5] at hE
 dsimp only at hE
 repeat' (first
  | refine ca CQ (hV) ?_
  | refine ca AL (In _ _ _ _) ?_
  | refine ca C1 (hE) ?_
  | exact True.intro | refine AD ?_ | refine two ?_ ?_ | refine AB fun c_ => ?_
  | (refine imp fun hc => ?_) <;> try exact cx1 hc
  | refine all fun v_ => ?_)
 obtain ⟨br, rfl⟩ : ∃ x, x = v_ := ⟨v_, rfl⟩
 obtain ⟨bm, rfl⟩ : ∃ x, x = v_ := ⟨v_, rfl⟩
 generalize hR : m.rules[DP.toNat] = r at hr gr hfew h5 hE ⊢
 clear hR
 refine C4 (E := 3) (sz := 1) AW ?_
 refine AG (X := Nat × Sl) (fun y => [(3, .val (.pointer (some ⟨bm, 0, none⟩))), (8, .d (AK vs)), (10, .val (.pointer (some ⟨br, 0, none⟩))), (13, .val y.2.v), (14, .int y.1)]) (fun y => [AM y.2.v 3 1 AW ((List.range y.1).map (HK vs r.sets)), .cells bm 25 [.d (Aq m.vars), .d (Ad m.rules)], .cells br 131 [.d (AO r.guard), .d (Fk r.sets)]]) (fun y => y.1 ≤ vs.length ∧ ∀ s ∈ r.sets, s.var < y.1 → (BP s.val vs).2 = 0) (fun y => vs.length - y.1) (0, Sl.nil) ⟨Nat.zero_le _, fun s hs h => ?_⟩ (VS.take (by exact AI) ?_) ?_
 · have := (gr.sets s hs).1
   dsimp only at h
   omega
 · exact leD
 rintro ⟨i, q⟩ ⟨hi, hok⟩
 dsimp only at hi hok ⊢
 have hlj : ((List.range i).map (HK vs r.sets)).length = i := by simp
 by_cases hil : i < vs.length
 · have hat : HK vs r.sets i = upd vs (r.sets.drop 0) i vs[i] := by rw [HK, List.getElem?_eq_getElem hil]; rfl
   have hsn : (List.range (i + 1)).map (HK vs r.sets) = (List.range i).map (HK vs r.sets) ++ [HK vs r.sets i] := by simp [List.range_succ]
   repeat' (first
    | exact True.intro | refine AD ?_ | refine two ?_ ?_ | refine AB fun c_ => ?_
    | (refine imp fun hc => ?_) <;> try exact cx1 hc
    | refine all fun v_ => ?_)
   refine AG (X := Nat × Int) (fun y => [(3, .val (.pointer (some ⟨bm, 0, none⟩))), (8, .d (AK vs)), (10, .val (.pointer (some ⟨br, 0, none⟩))), (13, .val q.v), (14, .int i), (15, .int y.2), (16, .int y.1)]) (fun _ => [AM q.v 3 1 AW ((List.range i).map (HK vs r.sets)), .cells bm 25 [.d (Aq m.vars), .d (Ad m.rules)], .cells br 131 [.d (AO r.guard), .d (Fk r.sets)]]) (fun y => y.1 ≤ r.sets.length ∧ HK vs r.sets i = upd vs (r.sets.drop y.1) i y.2 ∧ ∀ s ∈ r.sets.take y.1, s.var = i → (BP s.val vs).2 = 0) (fun y => r.sets.length - y.1) (0, vs[i]) ⟨Nat.zero_le _, hat, fun s hs => (by cases hs)⟩ (VS.take (by exact AI) ?_) ?_
   · exact leD
   rintro ⟨k, x⟩ ⟨hk, hx, hok2⟩
   dsimp only at hk hx hok2 ⊢
   by_cases hkl : k < r.sets.length
   · have hs := List.getElem_mem hkl
     obtain ⟨a1, a2, a3⟩ := gr.sets _ hs
     rw [Ze vs r.sets k hkl] at hx
     have htk : ∀ s, s ∈ r.sets.take (k + 1) → s ∈ r.sets.take k ∨ s = r.sets[k] := fun s h => by
      rw [List.take_succ_eq_append_getElem hkl] at h
      rcases List.mem_append.1 h with h | h
      · exact .inl h
      · exact .inr (List.mem_singleton.1 h)
     by_cases hv : r.sets[k].var ≠ i
     · rw [if_neg (by omega)] at hx
       repeat' (first
        | exact True.intro | refine AD ?_ | refine two ?_ ?_ | refine AB fun c_ => ?_
        | (refine imp fun hc => ?_) <;> try exact cx1 hc
        | refine all fun v_ => ?_)
       refine ⟨(k + 1, x), ⟨by dsimp only; omega, hx, fun s h he => ?_⟩, by dsimp only; omega, VS.take (by exact AI) ?_⟩
       · rcases htk s h with h | rfl
         · exact hok2 s h he
         · exact absurd he hv
       · exact leD
     rw [if_pos (by omega)] at hx
     have hE2 := Ji G r.sets[k].val vs
     have hno : (BP r.sets[k].val vs).2 ≠ 0 → Bw m r vs = none := fun h => IZ hs fun k => h k.1
     have hyes : (BP r.sets[k].val vs).2 = 0 → ∀ s ∈ r.sets.take (k + 1), s.var = i → (BP s.val vs).2 = 0 := fun h0 s h he => by
      rcases htk s h with h | rfl
      · exact hok2 s h he
      · exact h0
     generalize BP r.sets[k].val vs = p at hE2 hx hno hyes
     obtain ⟨n, e⟩ := p
     dsimp only at hE2 hx hno hyes
     by_cases he : e ≠ 0
     · rw [hno he]
       repeat' (first
        | refine ca C1 (hE2) ?_
        | exact True.intro | refine AD ?_ | refine two ?_ ?_ | refine AB fun c_ => ?_
        | (refine imp fun hc => ?_) <;> try exact cx1 hc
        | refine all fun v_ => ?_)
       refine AH (VS.drop (List.nil_sublist _)) ?_
       ((with_reducible apply rq2); rfl; rfl; rfl)
       exact AA rfl
     repeat' (first
      | refine ca C1 (hE2) ?_
      | exact True.intro | refine AD ?_ | refine two ?_ ?_ | refine AB fun c_ => ?_
      | (refine imp fun hc => ?_) <;> try exact cx1 hc
      | refine all fun v_ => ?_)
     refine ⟨(k + 1, n), ⟨by dsimp only; omega, hx, hyes (Decidable.not_not.1 he)⟩, by dsimp only; omega, VS.take (by exact AI) ?_⟩
     exact leD
   obtain rfl : k = r.sets.length := by omega
   rw [YT vs r.sets _ (Nat.le_refl _)] at hx
   rw [List.take_length] at hok2
   rw [hx] at hsn
   repeat' (first
    | exact True.intro | refine AD ?_ | refine two ?_ ?_ | refine AB fun c_ => ?_
    | (refine imp fun hc => ?_) <;> try exact cx1 hc
    | refine all fun v_ => ?_)
   refine ⟨(i + 1, v_), ⟨by dsimp only; omega, fun s hs h => ?_⟩, by dsimp only; omega, ?_⟩
   · by_cases h0 : s.var = i
     · exact hok2 s hs h0
     · dsimp only at h
       exact hok s hs (by omega)
   · dsimp only
     rw [hsn]
     refine VS.take (by exact AI) ?_
     exact leD
 obtain rfl : i = vs.length := by omega
 have hev : ∀ s ∈ r.sets, (BP s.val vs).2 = 0 := fun s hs => hok s hs (by have := (gr.sets s hs).2.1; omega)
 have hfin := Tu hm hr g h5 hev
 rw [← RX vs r.sets]
 have hsl := Cz vs r.sets vs
 have hC := Wc G m (B1 vs r.sets vs)
 refine Ho (Gj (h1 := []) (h' := [.cells bm 25 [.d (Aq m.vars), .d (Ad m.rules)], .cells br 131 [.d (AO r.guard), .d (Fk r.sets)]]) 8 rfl rfl (fun _ => rfl) (by omega) (CvE.cons (t := 13) rfl .here (CvE.refl _ _ _)) (CvH.refl _)) ?_
 generalize B1 vs r.sets vs = out at hfin hC hsl ⊢
 generalize hp : codeF m out = p at hfin hC
 obtain ⟨c, e⟩ := p
 dsimp only at hC hfin
 rcases hfin with ⟨f1, f2⟩ | ⟨f1, f2⟩
 · subst f1
   rw [f2]
   repeat' (first
    | refine ca IT (hC) ?_
    | exact True.intro | refine AD ?_ | refine two ?_ ?_ | refine AB fun c_ => ?_
    | (refine imp fun hc => ?_) <;> try exact cx1 hc
    | refine all fun v_ => ?_)
   refine AH (VS.drop (List.nil_sublist _)) ?_
   ((with_reducible apply rq2); rfl; rfl; rfl)
   refine AA ?_
   dsimp only
   rw [hp]
 · rw [f2]
   repeat' (first
    | refine ca IT (hC) ?_
    | exact True.intro | refine AD ?_ | refine two ?_ ?_ | refine AB fun c_ => ?_
    | (refine imp fun hc => ?_) <;> try exact cx1 hc
    | refine all fun v_ => ?_)
   refine AH (VS.drop (List.nil_sublist _)) ?_
   ((with_reducible apply rq2); rfl; rfl; rfl)
   exact AA rfl
theorem Lp : Cal Tryz.prog 41 := Cal.of Tryz.func41 (by kernel_rfl) (by kernel_rfl)
theorem WO (G : List (Nat × List D)) (m : Md) (code : Int) : ACr Tryz.prog G 41 [mdA m, .int code] (.tup [.d (AK (DV m code).1), .int (DV m code).2]) := by
 have hC := Gi G m
 refine AN (ts := [4, 5]) Tryz.f41.ntmps Tryz.func41 rfl rfl rfl (by simp [Tryz.ntmps41]) fun W I => ?_
 unfold DX at hC
 by_cases h0 : AU m ≠ 0
 · have hv : BL m code = ([], AU m) := by unfold BL; rw [if_pos h0]
   rw [Ga (by rw [hv]; exact h0), hv]
   rw [if_pos h0] at hC
   dsimp only at hC ⊢
   generalize AU m = e at hC h0 ⊢
   repeat' (first
    | refine ca A1 (hC) ?_
    | refine ca AL (In _ _ _ _) ?_
    | exact True.intro | refine AD ?_ | refine two ?_ ?_ | refine AB fun c_ => ?_
    | (refine imp fun hc => ?_) <;> try exact cx1 hc
    | refine all fun v_ => ?_)
   refine AH (VS.trans (VS.drop (List.nil_sublist _)) (Cn (t := 4) 1 8 rfl)) ?_
   ((with_reducible apply rq2); rfl; rfl; rfl)
   exact AA rfl
 rw [if_neg h0] at hC
 replace h0 := Decidable.not_not.1 h0
 obtain ⟨n, hn, n1, n2⟩ := DJ h0
 rw [hn] at hC
 dsimp only at hC
 by_cases h1 : ¬ (0 ≤ code ∧ code ≤ (n : Int) - 1)
 · have hv : BL m code = ([], 9) := by unfold BL; rw [if_neg (fun k => k h0), if_neg (by rw [hn]; omega)]
   rw [Ga (by rw [hv]; decide), hv]
   repeat' (first
    | refine ca A1 (hC) ?_
    | refine ca AL (In _ _ _ _) ?_
    | exact True.intro | refine AD ?_ | refine two ?_ ?_ | refine AB fun c_ => ?_
    | (refine imp fun hc => ?_) <;> try exact cx1 hc
    | refine all fun v_ => ?_)
   all_goals
    refine AH (VS.trans (VS.drop (List.nil_sublist _)) (Cn (t := 4) 1 8 rfl)) ?_
    ((with_reducible apply rq2); rfl; rfl; rfl)
    exact AA rfl
 replace h1 := Decidable.not_not.1 h1
 have hv : BL m code = (Bt m.vars code, 0) := by unfold BL; rw [if_neg (fun k => k h0), if_pos (by rw [hn]; omega)]
 rw [JN (by rw [hv])]
 have g := InV.vals h0 h1.1 (by rw [hn]; omega)
 have hr := Iy h0 g
 have h12 := LC h0
 rw [hn] at hr ⊢
 rw [Int.toNat_natCast]
 have hat := Tn hv
 clear hv
 generalize Bt m.vars code = vs at g hr hat ⊢
 have e0 := YA n
 repeat' (first
  | refine ca A1 (hC) ?_
  | refine ca AL (In _ _ _ _) ?_
  | exact True.intro | refine AD ?_ | refine two ?_ ?_ | refine AB fun c_ => ?_
  | (refine imp fun hc => ?_) <;> try exact cx1 hc
  | refine all fun v_ => ?_)
 obtain ⟨bi, rfl⟩ : ∃ x, x = v_ := ⟨v_, rfl⟩
 obtain ⟨bm, rfl⟩ : ∃ x, x = v_ := ⟨v_, rfl⟩
 refine AG (X := Nat) (fun i => [(1, .int code), (2, .val (.pointer (some ⟨bm, 0, none⟩))), (6, .int n), (8, .val (.slice (some ⟨bi, 0, none⟩) n n)), (9, .bool (decide (B2 m vs (m.rules.take i) ≠ []))), (10, .int i)]) (fun i => [.cells bi 4 ((isR n (B2 m vs (m.rules.take i))).map AV.bool), .cells bm 25 [.d (Aq m.vars), .d (Ad m.rules)]]) (fun i => i ≤ m.rules.length) (fun i => m.rules.length - i) 0 (Nat.zero_le _) (VS.take (by rw [show B2 m vs (m.rules.take 0) = [] from rfl, e0]; exact AI) ?_) ?_
 · exact leD
 rintro i hi
 have hln := LH m vs (m.rules.take i)
 rw [List.length_take] at hln
 have hrl := Xh n (B2 m vs (m.rules.take i))
 by_cases hil : i < m.rules.length
 · have hA := UH G m code i
   have hat := hat i hil
   cases ho : Bw m m.rules[i] vs with
   | none =>
     have hs := KG hil ho
     rw [hat.1 ho] at hA
     dsimp only at hA
     repeat' (first
      | refine ca H9 (hA) ?_
      | exact True.intro | refine AD ?_ | refine two ?_ ?_ | refine AB fun c_ => ?_
      | (refine imp fun hc => ?_) <;> try exact cx1 hc
      | refine all fun v_ => ?_)
     refine ⟨i + 1, by omega, by omega, VS.take (by rw [hs]; exact AI) ?_⟩
     rw [hs]
     exact leD
   | some out =>
     have hs := J8 hil ho
     obtain ⟨_, o2, o3, o4⟩ := LI h0 (List.getElem_mem hil) g ho
     rw [hat.2 out ho] at hA
     rw [hn] at o4
     have hp := X2 n (B2 m vs (m.rules.take i)) (codeF m out).1 o3
     rw [o2] at hA
     generalize (codeF m out).1 = c at hA hs o3 o4 hp
     repeat' (first
      | refine ca H9 (hA) ?_
      | exact True.intro | refine AD ?_ | refine two ?_ ?_ | refine AB fun c_ => ?_
      | (refine imp fun hc => ?_) <;> try exact cx1 hc
      | refine all fun v_ => ?_)
     refine ⟨i + 1, by omega, by omega, VS.take (by rw [hs, ← hp]; exact AI) ?_⟩
     rw [hs, show decide (B2 m vs (m.rules.take i) ++ [c] ≠ []) = true by simp]
     exact leD
 obtain rfl : i = m.rules.length := by omega
 rw [List.take_length] at hln hrl ⊢
 generalize B2 m vs m.rules = cs at hr hln hrl ⊢
 by_cases hcs : cs = []
 · subst hcs
   rw [if_pos rfl, show decide (([] : List Int) ≠ []) = false by simp]
   repeat' (first
    | exact True.intro | refine AD ?_ | refine two ?_ ?_ | refine AB fun c_ => ?_
    | (refine imp fun hc => ?_) <;> try exact cx1 hc
    | refine all fun v_ => ?_)
   refine AH (VS.drop (List.nil_sublist _)) ?_
   ((with_reducible apply rq2); rfl; rfl; rfl)
   exact AA rfl
 rw [if_neg hcs, show decide (cs ≠ []) = true by simp [hcs]]
 repeat' (first
  | exact True.intro | refine AD ?_ | refine two ?_ ?_ | refine AB fun c_ => ?_
  | (refine imp fun hc => ?_) <;> try exact cx1 hc
  | refine all fun v_ => ?_)
 refine C4 (E := 3) (sz := 1) AW ?_
 refine AG (X := Nat × Sl) (fun y => [(6, .int n), (8, .val (.slice (some ⟨bi, 0, none⟩) n n)), (13, .val y.2.v), (14, .int y.1)]) (fun y => [AM y.2.v 3 1 AW (HI y.1 cs), .cells bi 4 ((isR n cs).map AV.bool)]) (fun y => y.1 ≤ n) (fun y => n - y.1) (0, Sl.nil) (Nat.zero_le _) (VS.take (by exact AI) ?_) ?_
 · exact leD
 rintro ⟨k, q⟩ hk
 dsimp only at hk ⊢
 have hul := Lu k cs
 by_cases hkn : k < n
 · have hu := Td k cs
   have hg : ∀ h, (isR n cs)[k]'h = decide ((k : Int) ∈ cs) := fun h => Kh n cs k h
   generalize isR n cs = R at hrl hg ⊢
   repeat' (first
    | exact True.intro | refine AD ?_ | refine two ?_ ?_ | refine AB fun c_ => ?_
    | (refine imp fun hc => ?_) <;> try exact cx1 hc
    | refine all fun v_ => ?_)
   · rw [hg] at hc
     rw [if_pos (of_decide_eq_true hc)] at hu
     refine ⟨(k + 1, v_), by dsimp only; omega, by dsimp only; omega, VS.take (by dsimp only; rw [hu]; exact AI) ?_⟩
     exact leD
   · rw [hg] at hc
     rw [if_neg (of_decide_eq_false hc), List.append_nil] at hu
     refine ⟨(k + 1, q), by dsimp only; omega, by dsimp only; omega, VS.take (by dsimp only; rw [hu]; exact AI) ?_⟩
     exact leD
 obtain rfl : k = n := by omega
 repeat' (first
  | exact True.intro | refine AD ?_ | refine two ?_ ?_ | refine AB fun c_ => ?_
  | (refine imp fun hc => ?_) <;> try exact cx1 hc
  | refine all fun v_ => ?_)
 refine AH (VS.trans (Bf (t := 4) (eb := 8) rfl rfl (fun x => rfl) (by omega)) (VS.drop (List.nil_sublist _))) ?_
 ((with_reducible apply rq2); rfl; rfl; rfl)
 exact AA rfl
end Go.Proofs.YtibahljljjkceaaGreatDoor
