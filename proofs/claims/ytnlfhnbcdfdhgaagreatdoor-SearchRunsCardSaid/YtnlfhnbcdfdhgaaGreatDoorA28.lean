/- Own texts. -/
import Derived.Test.YtnlfhnbcdfdhgaaGreatDoorA27
set_option linter.unusedVariables false
set_option linter.unusedSimpArgs false
set_option maxRecDepth 100000
set_option maxHeartbeats 4000000
namespace Go.Proofs.YtnlfhnbcdfdhgaaGreatDoor
open Go Go.Av Go.Sp
theorem XL (G : List (Nat × List D)) (m : Md) (code Dj : Int) : ACr Tryz.prog G 159 [mdA m, .int code, .int Dj] (.tup [.int (Gq m code Dj).1, .int (Gq m code Dj).2]) := by
 refine AC.factI (f := Ru.cells) (xs := m.rules) (.agg (.there .here)) fun hlr => ?_
 have hV := RK G m code
 refine AK (ts := [6, 7]) Tryz.f159.ntmps Tryz.func159 rfl rfl rfl (by simp [Tryz.ntmps159]) fun W I => ?_
 by_cases h1 : (BK m code).2 ≠ 0
 · rw [Ud h1]
   repeat' (first | refine ca CV (hV) ?_ | refine ca AN (In _ _ _ _) ?_ | exact jA | refine AF ?_ | refine two ?_ ?_ | refine AB fun c_ => ?_ | refine imp fun hc => ?_; try exact cx1 hc | refine all fun v_ => ?_)
   refine AI jE ?_
   ((with_reducible apply rq2); rfl; rfl; rfl)
   exact AA rfl
 obtain ⟨hm, c0, c1, hF⟩ := Kh (jY h1)
 have g := InV.vals hm c0 c1
 rw [hF] at hV
 dsimp only at hV
 clear h1
 by_cases h2 : ¬ (0 ≤ Dj ∧ Dj ≤ (m.rules.length : Int) - 1)
 · rw [Xi hF jB]
   repeat' (first | refine ca CV (hV) ?_ | refine ca AN (In _ _ _ _) ?_ | exact jA | refine AF ?_ | refine two ?_ ?_ | refine AB fun c_ => ?_ | refine imp fun hc => ?_; try exact cx1 hc | refine all fun v_ => ?_)
   refine AI jE ?_
   ((with_reducible apply rq2); rfl; rfl; rfl)
   exact AA rfl
 replace h2 := jY h2
 have h4 : Dj.toNat < m.rules.length := by omega
 rw [Mq hF jB h4]
 have hr := jb h4
 generalize B2 m.vars code = vs at hV g ⊢
 have gr := Ym hm hr
 have hl6 := DZ (BM hm)
 have hln := g.len
 have hfew := gr.few
 have hE := LY G m.rules[Dj.toNat].guard vs
 by_cases h5 : BS m.rules[Dj.toNat].guard vs ≠ (1, 0)
 · rw [Kk h5]
   generalize BS m.rules[Dj.toNat].guard vs = p at hE h5
   obtain ⟨n, e⟩ := p
   dsimp only at hE
   by_cases h6 : e ≠ 0
   · repeat' (first | refine ca CV (hV) ?_ | refine ca AN (In _ _ _ _) ?_ | refine ca DH (hE) ?_ | exact jA | refine AF ?_ | refine two ?_ ?_ | refine AB fun c_ => ?_ | refine imp fun hc => ?_; try exact cx1 hc | refine all fun v_ => ?_)
     refine AI jE ?_
     ((with_reducible apply rq2); rfl; rfl; rfl)
     exact AA rfl
   by_cases h7 : n ≠ 1
   · repeat' (first | refine ca CV (hV) ?_ | refine ca AN (In _ _ _ _) ?_ | refine ca DH (hE) ?_ | exact jA | refine AF ?_ | refine two ?_ ?_ | refine AB fun c_ => ?_ | refine imp fun hc => ?_; try exact cx1 hc | refine all fun v_ => ?_)
     refine AI jE ?_
     ((with_reducible apply rq2); rfl; rfl; rfl)
     exact AA rfl
   exact absurd (Prod.ext (by dsimp only; omega) (by dsimp only; omega)) h5
 replace h5 := jY h5
 rw [h5] at hE
 dsimp only at hE
 repeat' (first | refine ca CV (hV) ?_ | refine ca AN (In _ _ _ _) ?_ | refine ca DH (hE) ?_ | exact jA | refine AF ?_ | refine two ?_ ?_ | refine AB fun c_ => ?_ | refine imp fun hc => ?_; try exact cx1 hc | refine all fun v_ => ?_)
 obtain ⟨br, rfl⟩ : ∃ x, x = v_ := ⟨v_, rfl⟩
 obtain ⟨bm, rfl⟩ : ∃ x, x = v_ := ⟨v_, rfl⟩
 generalize hR : m.rules[Dj.toNat] = r at hr gr hfew h5 hE ⊢
 clear hR
 refine Db (E := 3) (sz := 1) AS ?_
 refine AG (X := Nat × Sl) (fun y => [(3, .val (.pointer (some ⟨bm, 0, none⟩))), (8, .d (AJ vs)), (10, .val (.pointer (some ⟨br, 0, none⟩))), (13, .val y.2.v), (14, .int y.1)]) (fun y => [AL y.2.v 3 1 AS ((List.range y.1).map (Iy vs r.sets)), .cells bm 25 [.d (Au m.vars), .d (Ae m.rules)], .cells br 119 [.d (AO r.guard), .d (GU r.sets)]]) (fun y => y.1 ≤ vs.length ∧ ∀ s ∈ r.sets, s.var < y.1 → (BS s.val vs).2 = 0) (fun y => vs.length - y.1) (0, Sl.nil) ⟨Nat.zero_le _, fun s hs h => ?_⟩ (VS.take AH ?_) ?_
 · have := (gr.sets s hs).1
   dsimp only at h
   omega
 · exact leD
 rintro ⟨i, q⟩ ⟨hi, hok⟩
 dsimp only at hi hok ⊢
 have hlj : ((List.range i).map (Iy vs r.sets)).length = i := by simp
 by_cases hil : i < vs.length
 · have hat : Iy vs r.sets i = upd vs (r.sets.drop 0) i vs[i] := by rw [Iy, List.getElem?_eq_getElem hil]; rfl
   have hsn : (List.range (i + 1)).map (Iy vs r.sets) = (List.range i).map (Iy vs r.sets) ++ [Iy vs r.sets i] := by simp [List.range_succ]
   repeat' (first | exact jA | refine AF ?_ | refine two ?_ ?_ | refine AB fun c_ => ?_ | refine imp fun hc => ?_; try exact cx1 hc | refine all fun v_ => ?_)
   refine AG (X := Nat × Int) (fun y => [(3, .val (.pointer (some ⟨bm, 0, none⟩))), (8, .d (AJ vs)), (10, .val (.pointer (some ⟨br, 0, none⟩))), (13, .val q.v), (14, .int i), (15, .int y.2), (16, .int y.1)]) (fun _ => [AL q.v 3 1 AS ((List.range i).map (Iy vs r.sets)), .cells bm 25 [.d (Au m.vars), .d (Ae m.rules)], .cells br 119 [.d (AO r.guard), .d (GU r.sets)]]) (fun y => y.1 ≤ r.sets.length ∧ Iy vs r.sets i = upd vs (r.sets.drop y.1) i y.2 ∧ ∀ s ∈ r.sets.take y.1, s.var = i → (BS s.val vs).2 = 0) (fun y => r.sets.length - y.1) (0, vs[i]) ⟨Nat.zero_le _, hat, fun s hs => (by cases hs)⟩ (VS.take AH ?_) ?_
   · exact leD
   rintro ⟨k, x⟩ ⟨hk, hx, hok2⟩
   dsimp only at hk hx hok2 ⊢
   by_cases hkl : k < r.sets.length
   · have hs := jb hkl
     obtain ⟨a1, a2, a3⟩ := gr.sets _ hs
     rw [gJ vs r.sets k hkl] at hx
     have htk : ∀ s, s ∈ r.sets.take (k + 1) → s ∈ r.sets.take k ∨ s = r.sets[k] := fun s h => by
      rw [jZ hkl] at h
      rcases List.mem_append.1 h with h | h
      · exact .inl h
      · exact .inr (List.mem_singleton.1 h)
     by_cases hv : r.sets[k].var ≠ i
     · rw [if_neg jB] at hx
       repeat' (first | exact jA | refine AF ?_ | refine two ?_ ?_ | refine AB fun c_ => ?_ | refine imp fun hc => ?_; try exact cx1 hc | refine all fun v_ => ?_)
       refine ⟨(k + 1, x), ⟨by dsimp only; omega, hx, fun s h he => ?_⟩, jC, VS.take AH ?_⟩
       · rcases htk s h with h | rfl
         · exact hok2 s h he
         · exact absurd he hv
       · exact leD
     rw [if_pos jB] at hx
     have hE2 := LY G r.sets[k].val vs
     have hno : (BS r.sets[k].val vs).2 ≠ 0 → CA m r vs = none := fun h => KG hs fun k => h k.1
     have hyes : (BS r.sets[k].val vs).2 = 0 → ∀ s ∈ r.sets.take (k + 1), s.var = i → (BS s.val vs).2 = 0 := fun h0 s h he => by
      rcases htk s h with h | rfl
      · exact hok2 s h he
      · exact h0
     generalize BS r.sets[k].val vs = p at hE2 hx hno hyes
     obtain ⟨n, e⟩ := p
     dsimp only at hE2 hx hno hyes
     by_cases he : e ≠ 0
     · rw [hno he]
       repeat' (first | refine ca DH (hE2) ?_ | exact jA | refine AF ?_ | refine two ?_ ?_ | refine AB fun c_ => ?_ | refine imp fun hc => ?_; try exact cx1 hc | refine all fun v_ => ?_)
       refine AI jE ?_
       ((with_reducible apply rq2); rfl; rfl; rfl)
       exact AA rfl
     repeat' (first | refine ca DH (hE2) ?_ | exact jA | refine AF ?_ | refine two ?_ ?_ | refine AB fun c_ => ?_ | refine imp fun hc => ?_; try exact cx1 hc | refine all fun v_ => ?_)
     refine ⟨(k + 1, n), ⟨by dsimp only; omega, hx, hyes (jY he)⟩, jC, VS.take AH ?_⟩
     exact leD
   obtain rfl : k = r.sets.length := by omega
   rw [dR vs r.sets _ (Nat.le_refl _)] at hx
   rw [List.take_length] at hok2
   rw [hx] at hsn
   repeat' (first | exact jA | refine AF ?_ | refine two ?_ ?_ | refine AB fun c_ => ?_ | refine imp fun hc => ?_; try exact cx1 hc | refine all fun v_ => ?_)
   refine ⟨(i + 1, v_), ⟨by dsimp only; omega, fun s hs h => ?_⟩, jC, ?_⟩
   · by_cases h0 : s.var = i
     · exact hok2 s hs h0
     · dsimp only at h
       exact hok s hs jB
   · dsimp only
     rw [hsn]
     refine VS.take AH ?_
     exact leD
 obtain rfl : i = vs.length := by omega
 have hev : ∀ s ∈ r.sets, (BS s.val vs).2 = 0 := fun s hs => hok s hs (by have := (gr.sets s hs).2.1; omega)
 have hfin := W4 hm hr g h5 hev
 rw [← Us vs r.sets]
 have hsl := DJ vs r.sets vs
 have hC := ZE G m (CG vs r.sets vs)
 refine IH (EA (h1 := []) (h' := [.cells bm 25 [.d (Au m.vars), .d (Ae m.rules)], .cells br 119 [.d (AO r.guard), .d (GU r.sets)]]) 8 rfl rfl (fun _ => rfl) jB (CvE.cons (t := 13) rfl .here (CvE.refl _ _ _)) (CvH.refl _)) ?_
 generalize CG vs r.sets vs = out at hfin hC hsl ⊢
 generalize hp : codeF m out = p at hfin hC
 obtain ⟨c, e⟩ := p
 dsimp only at hC hfin
 rcases hfin with ⟨f1, f2⟩ | ⟨f1, f2⟩
 · subst f1
   rw [f2]
   repeat' (first | refine ca J3 (hC) ?_ | exact jA | refine AF ?_ | refine two ?_ ?_ | refine AB fun c_ => ?_ | refine imp fun hc => ?_; try exact cx1 hc | refine all fun v_ => ?_)
   refine AI jE ?_
   ((with_reducible apply rq2); rfl; rfl; rfl)
   refine AA ?_
   dsimp only
   rw [hp]
 · rw [f2]
   repeat' (first | refine ca J3 (hC) ?_ | exact jA | refine AF ?_ | refine two ?_ ?_ | refine AB fun c_ => ?_ | refine imp fun hc => ?_; try exact cx1 hc | refine all fun v_ => ?_)
   refine AI jE ?_
   ((with_reducible apply rq2); rfl; rfl; rfl)
   exact AA rfl
theorem Uw : Cal Tryz.prog 113 := Cal.of Tryz.func113 (by kernel_rfl) (by kernel_rfl)
theorem eT (G : List (Nat × List D)) (m : Md) (code : Int) : ACr Tryz.prog G 113 [mdA m, .int code] (.tup [.d (AJ (D3 m code).1), .int (D3 m code).2]) := by
 have hC := Jz G m
 refine AK (ts := [4, 5]) Tryz.f113.ntmps Tryz.func113 rfl rfl rfl (by simp [Tryz.ntmps113]) fun W I => ?_
 unfold Dv at hC
 by_cases h0 : AT m ≠ 0
 · have hv : BK m code = ([], AT m) := by unfold BK; rw [if_pos h0]
   rw [HD (by rw [hv]; exact h0), hv]
   rw [if_pos h0] at hC
   dsimp only at hC ⊢
   generalize AT m = e at hC h0 ⊢
   repeat' (first | refine ca BC (hC) ?_ | refine ca AN (In _ _ _ _) ?_ | exact jA | refine AF ?_ | refine two ?_ ?_ | refine AB fun c_ => ?_ | refine imp fun hc => ?_; try exact cx1 hc | refine all fun v_ => ?_)
   refine AI (VS.trans jE (Cj (t := 4) 1 8 rfl)) ?_
   ((with_reducible apply rq2); rfl; rfl; rfl)
   exact AA rfl
 rw [if_neg h0] at hC
 replace h0 := jY h0
 obtain ⟨n, hn, n1, n2⟩ := Du h0
 rw [hn] at hC
 dsimp only at hC
 by_cases h1 : ¬ (0 ≤ code ∧ code ≤ (n : Int) - 1)
 · have hv : BK m code = ([], 9) := by unfold BK; rw [if_neg (fun k => k h0), if_neg (by rw [hn]; omega)]
   rw [HD (by rw [hv]; decide), hv]
   repeat' (first | refine ca BC (hC) ?_ | refine ca AN (In _ _ _ _) ?_ | exact jA | refine AF ?_ | refine two ?_ ?_ | refine AB fun c_ => ?_ | refine imp fun hc => ?_; try exact cx1 hc | refine all fun v_ => ?_)
   all_goals
    refine AI (VS.trans jE (Cj (t := 4) 1 8 rfl)) ?_
    ((with_reducible apply rq2); rfl; rfl; rfl)
    exact AA rfl
 replace h1 := jY h1
 have hv : BK m code = (B2 m.vars code, 0) := by unfold BK; rw [if_neg (fun k => k h0), if_pos (by rw [hn]; omega)]
 rw [Ky (by rw [hv])]
 have g := InV.vals h0 h1.1 (by rw [hn]; omega)
 have hr := Kb h0 g
 have h12 := J5 h0
 rw [hn] at hr ⊢
 rw [Int.toNat_natCast]
 have hat := Ww hv
 clear hv
 generalize B2 m.vars code = vs at g hr hat ⊢
 have e0 := cc n
 repeat' (first | refine ca BC (hC) ?_ | refine ca AN (In _ _ _ _) ?_ | exact jA | refine AF ?_ | refine two ?_ ?_ | refine AB fun c_ => ?_ | refine imp fun hc => ?_; try exact cx1 hc | refine all fun v_ => ?_)
 obtain ⟨bi, rfl⟩ : ∃ x, x = v_ := ⟨v_, rfl⟩
 obtain ⟨bm, rfl⟩ : ∃ x, x = v_ := ⟨v_, rfl⟩
 refine AG (X := Nat) (fun i => [(1, .int code), (2, .val (.pointer (some ⟨bm, 0, none⟩))), (6, .int n), (8, .val (.slice (some ⟨bi, 0, none⟩) n n)), (9, .bool (decide (B6 m vs (m.rules.take i) ≠ []))), (10, .int i)]) (fun i => [.cells bi 4 ((isR n (B6 m vs (m.rules.take i))).map AV.bool), .cells bm 25 [.d (Au m.vars), .d (Ae m.rules)]]) (fun i => i ≤ m.rules.length) (fun i => m.rules.length - i) 0 (Nat.zero_le _) (VS.take (by rw [show B6 m vs (m.rules.take 0) = [] from rfl, e0]; exact AH) ?_) ?_
 · exact leD
 rintro i hi
 have hln := J9 m vs (m.rules.take i)
 rw [List.length_take] at hln
 have hrl := cT n (B6 m vs (m.rules.take i))
 by_cases hil : i < m.rules.length
 · have hA := XL G m code i
   have hat := hat i hil
   cases ho : CA m m.rules[i] vs with
   | none =>
     have hs := Le hil ho
     rw [hat.1 ho] at hA
     dsimp only at hA
     repeat' (first | refine ca Jd (hA) ?_ | exact jA | refine AF ?_ | refine two ?_ ?_ | refine AB fun c_ => ?_ | refine imp fun hc => ?_; try exact cx1 hc | refine all fun v_ => ?_)
     refine ⟨i + 1, by omega, by omega, VS.take (by rw [hs]; exact AH) ?_⟩
     rw [hs]
     exact leD
   | some out =>
     have hs := Lg hil ho
     obtain ⟨_, o2, o3, o4⟩ := MW h0 (jb hil) g ho
     rw [hat.2 out ho] at hA
     rw [hn] at o4
     have hp := bz n (B6 m vs (m.rules.take i)) (codeF m out).1 o3
     rw [o2] at hA
     generalize (codeF m out).1 = c at hA hs o3 o4 hp
     repeat' (first | refine ca Jd (hA) ?_ | exact jA | refine AF ?_ | refine two ?_ ?_ | refine AB fun c_ => ?_ | refine imp fun hc => ?_; try exact cx1 hc | refine all fun v_ => ?_)
     refine ⟨i + 1, by omega, by omega, VS.take (by rw [hs, ← hp]; exact AH) ?_⟩
     rw [hs, show decide (B6 m vs (m.rules.take i) ++ [c] ≠ []) = true by simp]
     exact leD
 obtain rfl : i = m.rules.length := by omega
 rw [List.take_length] at hln hrl ⊢
 generalize B6 m vs m.rules = cs at hr hln hrl ⊢
 by_cases hcs : cs = []
 · subst hcs
   rw [if_pos rfl, show decide (([] : List Int) ≠ []) = false by simp]
   repeat' (first | exact jA | refine AF ?_ | refine two ?_ ?_ | refine AB fun c_ => ?_ | refine imp fun hc => ?_; try exact cx1 hc | refine all fun v_ => ?_)
   refine AI jE ?_
   ((with_reducible apply rq2); rfl; rfl; rfl)
   exact AA rfl
 rw [if_neg hcs, show decide (cs ≠ []) = true by simp [hcs]]
 repeat' (first | exact jA | refine AF ?_ | refine two ?_ ?_ | refine AB fun c_ => ?_ | refine imp fun hc => ?_; try exact cx1 hc | refine all fun v_ => ?_)
 refine Db (E := 3) (sz := 1) AS ?_
 refine AG (X := Nat × Sl) (fun y => [(6, .int n), (8, .val (.slice (some ⟨bi, 0, none⟩) n n)), (13, .val y.2.v), (14, .int y.1)]) (fun y => [AL y.2.v 3 1 AS (HJ y.1 cs), .cells bi 4 ((isR n cs).map AV.bool)]) (fun y => y.1 ≤ n) (fun y => n - y.1) (0, Sl.nil) (Nat.zero_le _) (VS.take AH ?_) ?_
 · exact leD
 rintro ⟨k, q⟩ hk
 dsimp only at hk ⊢
 have hul := Np k cs
 by_cases hkn : k < n
 · have hu := W5 k cs
   have hg : ∀ h, (isR n cs)[k]'h = decide ((k : Int) ∈ cs) := fun h => MI n cs k h
   generalize isR n cs = R at hrl hg ⊢
   repeat' (first | exact jA | refine AF ?_ | refine two ?_ ?_ | refine AB fun c_ => ?_ | refine imp fun hc => ?_; try exact cx1 hc | refine all fun v_ => ?_)
   · rw [hg] at hc
     rw [if_pos (of_decide_eq_true hc)] at hu
     refine ⟨(k + 1, v_), jC, jC, VS.take (by dsimp only; rw [hu]; exact AH) ?_⟩
     exact leD
   · rw [hg] at hc
     rw [if_neg (of_decide_eq_false hc), List.append_nil] at hu
     refine ⟨(k + 1, q), jC, jC, VS.take (by dsimp only; rw [hu]; exact AH) ?_⟩
     exact leD
 obtain rfl : k = n := by omega
 repeat' (first | exact jA | refine AF ?_ | refine two ?_ ?_ | refine AB fun c_ => ?_ | refine imp fun hc => ?_; try exact cx1 hc | refine all fun v_ => ?_)
 refine AI (VS.trans (Bq (t := 4) (eb := 8) rfl rfl (fun x => rfl) jB) jE) ?_
 ((with_reducible apply rq2); rfl; rfl; rfl)
 exact AA rfl
end Go.Proofs.YtnlfhnbcdfdhgaaGreatDoor
