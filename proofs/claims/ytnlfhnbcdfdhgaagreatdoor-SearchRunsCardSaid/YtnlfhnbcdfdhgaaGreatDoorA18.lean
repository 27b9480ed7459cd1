/- Own texts. -/
import Derived.Test.YtnlfhnbcdfdhgaaGreatDoorA17
set_option linter.unusedVariables false
set_option linter.unusedSimpArgs false
set_option maxRecDepth 100000
set_option maxHeartbeats 4000000
namespace Go.Proofs.YtnlfhnbcdfdhgaaGreatDoor
open Go Go.Av Go.Sp
theorem Tw : Cal Tryz.prog 25 := Cal.of Tryz.func25 (by kernel_rfl) (by kernel_rfl)
theorem OL : Cal Tryz.prog 38 := Cal.of Tryz.func38 (by kernel_rfl) (by kernel_rfl)
theorem Oj {g : Nat} {xs : List D} (h : B5 Tryz.prog (g + 2) 135 xs) : ∃ v : Vr, xs = v.cells := by
 obtain ⟨p0, p1, p2, p3, rfl, h0, h1, h2, h3⟩ := L3 Tryz.underlying135 h
 obtain ⟨s, rfl, _⟩ := M9 Tryz.underlying9 h0
 obtain ⟨a, rfl⟩ := Ev h1
 obtain ⟨b, rfl⟩ := Ev h2
 obtain ⟨c, rfl⟩ := Ev h3
 exact ⟨⟨s, a, b, c⟩, rfl⟩
theorem Xm {g : Nat} {xs : List D} (h : B5 Tryz.prog (g + 3) 22 xs) : ∃ l : List Vr, xs = [Au l] ∧ l.length * 40 ≤ 140737488351232 := DF Tryz.underlying22 (by kernel_rfl) (by kernel_rfl) (fun _ h => Oj h) h
theorem ZZ {g : Nat} {xs : List D} (h : B5 Tryz.prog (g + 4) 121 xs) : ∃ s : St, xs = s.cells := by
 obtain ⟨p0, p1, rfl, h0, h1⟩ := DD Tryz.underlying121 h
 obtain ⟨a, rfl⟩ := Ev h0
 obtain ⟨l, rfl, _⟩ := Kt h1
 exact ⟨⟨a, l⟩, rfl⟩
theorem W0 {g : Nat} {xs : List D} (h : B5 Tryz.prog (g + 5) 117 xs) : ∃ l : List St, xs = [GU l] ∧ l.length * 32 ≤ 140737488351232 := DF Tryz.underlying117 (by kernel_rfl) (by kernel_rfl) (fun _ h => ZZ h) h
theorem WN {g : Nat} {xs : List D} (h : B5 Tryz.prog (g + 6) 119 xs) : ∃ r : Ru, xs = r.cells := by
 obtain ⟨p0, p1, rfl, h0, h1⟩ := DD Tryz.underlying119 h
 obtain ⟨a, rfl, _⟩ := Kt h0
 obtain ⟨l, rfl, _⟩ := W0 h1
 exact ⟨⟨a, l⟩, rfl⟩
theorem Uh {g : Nat} {xs : List D} (h : B5 Tryz.prog (g + 7) 23 xs) : ∃ l : List Ru, xs = [Ae l] ∧ l.length * 48 ≤ 140737488351232 := DF Tryz.underlying23 (by kernel_rfl) (by kernel_rfl) (fun _ h => WN h) h
theorem VA {g : Nat} {xs : List D} (h : B5 Tryz.prog (g + 8) 25 xs) : ∃ m : Md, xs = m.cells := by
 obtain ⟨p0, p1, rfl, h0, h1⟩ := DD Tryz.underlying25 h
 obtain ⟨a, rfl, _⟩ := Xm h0
 obtain ⟨l, rfl, _⟩ := Uh h1
 exact ⟨⟨a, l⟩, rfl⟩
theorem Qt : Eq4 Tryz.prog 135 := ⟨by kernel_rfl, fun s a b c w => by
 have u3 := Tryz.underlying3
 have u9 := Tryz.underlying9
 rw [show (10000 : Nat) = 9999 + 1 from rfl, run_equalIn_agg w 9999 135 _ _ (by kernel_rfl) (by kernel_rfl)]
 simp only [Program.fieldsOf, Tryz.underlying135]
 go_simp
 try simp⟩
theorem i7 {C p q : Prop} (c : C) (hp : p) (h : C → p → q := by
 intro c_; apply cmp; (focus ((with_reducible apply c_); rfl; rfl; (with_reducible exact ElC.h); exact C0; (iterate 4 rfl); exact A6; exact A6))
 exact fun h => h) : q := h c hp
theorem fB (G : List (Nat × List D)) (m : Md) : ACr Tryz.prog G 25 [mdA m] (mdA m) := by
 refine AC.factI (f := Vr.cells) (xs := m.vars) (.agg .here) fun hlv => ?_
 refine AC.factI (f := Ru.cells) (xs := m.rules) (.agg (.there .here)) fun hlr => ?_
 refine AC.factU (f := Ru.cells) (e := St.cells) (g := Ru.sets) (xs := m.rules) 1 (fun _ => rfl) (.agg (.there .here)) fun hls => ?_
 refine BV (rs := [.cell 2 25]) Tryz.f25.ntmps Tryz.func25 rfl rfl rfl (by simp [Tryz.ntmps25]) fun W I => ?_
 repeat' (first | refine ca Gc (Ta _ _) ?_ | exact jA | refine AF ?_ | refine two ?_ ?_ | refine AB fun c_ => ?_ | refine imp fun hc => ?_; try exact cx1 hc | refine all fun v_ => ?_)
 rename_i bm bt
 refine Db (E := 119) (sz := 2) Ru.cells ?_
 refine AG (X := Nat × Sl) (fun y => [(1, .val (.pointer (some ⟨bm, 0, none⟩))), (2, .val (.pointer (some ⟨bt, 0, none⟩))), (3, .val (.pointer (some ⟨v_, 0, none⟩))), (4, .int y.1)]) (fun y => [AL y.2.v 119 2 Ru.cells (m.rules.take y.1), .cells v_ 25 [.d (Au m.vars), .val y.2.v], .cells bm 25 [.d (Au m.vars), .d (Ae m.rules)], .cells bt 25 [.val (.slice none 0 0), .val (.slice none 0 0)]]) (fun y => y.1 ≤ m.rules.length) (fun y => m.rules.length - y.1) (0, Sl.nil) (Nat.zero_le _) (VS.take AH ?_) ?_
 · exact leD
 rintro ⟨i, q⟩ h1
 dsimp only at h1 ⊢
 have hlen : (m.rules.take i).length = i := by rw [List.length_take]; omega
 by_cases hi : i < m.rules.length
 · have hlsi := hls m.rules[i] (jb hi)
   repeat' (first | refine ca Gc (Ta _ _) ?_ | exact jA | refine AF ?_ | refine two ?_ ?_ | refine AB fun c_ => ?_ | refine imp fun hc => ?_; try exact cx1 hc | refine all fun v_ => ?_)
   refine Db (E := 121) (sz := 2) St.cells ?_
   rename_i bo
   refine AG (X := Nat × Sl) (fun y => [(1, .val (.pointer (some ⟨bm, 0, none⟩))), (2, .val (.pointer (some ⟨bt, 0, none⟩))), (3, .val (.pointer (some ⟨bo, 0, none⟩))), (4, .int i), (5, .val (.pointer (some ⟨v_, 0, none⟩))), (6, .int y.1)]) (fun y => [AL y.2.v 121 2 St.cells (m.rules[i].sets.take y.1), .cells v_ 119 [.d (AO m.rules[i].guard), .val y.2.v], AL q.v 119 2 Ru.cells (m.rules.take i), .cells bo 25 [.d (Au m.vars), .val q.v], .cells bm 25 [.d (Au m.vars), .d (Ae m.rules)], .cells bt 25 [.val (.slice none 0 0), .val (.slice none 0 0)]]) (fun y => y.1 ≤ m.rules[i].sets.length) (fun y => m.rules[i].sets.length - y.1) (0, Sl.nil) (Nat.zero_le _) (VS.take AH ?_) ?_
   · exact leD
   rintro ⟨k, p⟩ k1
   dsimp only at k1 ⊢
   have hlen2 : (m.rules[i].sets.take k).length = k := by rw [List.length_take]; omega
   by_cases hk : k < m.rules[i].sets.length
   · have et : m.rules[i].sets.take k ++ [m.rules[i].sets[k]] = m.rules[i].sets.take (k + 1) := (jZ hk).symm
     repeat' (first | refine ca Gc (Ta _ _) ?_ | exact jA | refine Cb ?_ | refine two ?_ ?_ | refine AB fun c_ => ?_ | refine imp fun hc => ?_; try exact cx hc | refine all fun v_ => ?_)
     refine ⟨?_⟩
     refine CL [AL p.v 121 2 St.cells (m.rules[i].sets.take k)] mixed rfl (by (repeat ((with_reducible apply Hd.cons); rfl)); exact Hd.nil) (by (repeat (with_reducible apply Al)); exact len_nil) (by decide +kernel) BF ?_
     repeat' (first | refine ca Gc (Ta _ _) ?_ | ((with_reducible apply (Jy (cs := St.cells (m.rules[i].sets[k])))); rfl; rfl; (with_reducible exact ElC.h); (iterate 4 rfl); rfl) | exact jA | refine AF ?_ | refine two ?_ ?_ | refine AB fun c_ => ?_ | refine imp fun hc => ?_; try exact cx1 hc | refine all fun v_ => ?_)
     refine ⟨(k + 1, v_), jC, jC, ?_⟩
     dsimp only
     rw [← et]
     refine VS.take AH ?_
     exact leD
   obtain rfl : k = m.rules[i].sets.length := by omega
   rw [List.take_length]
   have et : m.rules.take i ++ [m.rules[i]] = m.rules.take (i + 1) := (jZ hi).symm
   refine IH (EA (h1 := []) (h' := [.cells v_ 119 [.d (AO m.rules[i].guard), .d (GU m.rules[i].sets)], AL q.v 119 2 Ru.cells (m.rules.take i), .cells bo 25 [.d (Au m.vars), .val q.v], .cells bm 25 [.d (Au m.vars), .d (Ae m.rules)], .cells bt 25 [.val (.slice none 0 0), .val (.slice none 0 0)]]) 32 rfl rfl (fun _ => rfl) hlsi (CvE.refl _ _ _) (CvH.cells (.cons (.same _) (.cons .here .nil)) (.refl _))) ?_
   repeat' (first | refine ca Gc (Ta _ _) ?_ | ((with_reducible apply (Jy (cs := Ru.cells m.rules[i]))); rfl; rfl; (with_reducible exact ElC.h); (iterate 4 rfl); rfl) | refine i7 (DP (f := Ru.cells) (u := m.rules[i])) ?_ | exact jA | refine AF ?_ | refine two ?_ ?_ | refine AB fun c_ => ?_ | refine imp fun hc => ?_; try exact cx1 hc | refine all fun v_ => ?_)
   refine ⟨(i + 1, v_), jC, jC, ?_⟩
   dsimp only
   rw [← et]
   refine VS.take AH ?_
   exact leD
 obtain rfl : i = m.rules.length := by omega
 rw [List.take_length]
 refine IH (EA (h1 := []) (h' := [.cells v_ 25 [.d (Au m.vars), .d (Ae m.rules)], .cells bm 25 [.d (Au m.vars), .d (Ae m.rules)], .cells bt 25 [.val (.slice none 0 0), .val (.slice none 0 0)]]) 48 rfl rfl (fun _ => rfl) hlr (CvE.refl _ _ _) (CvH.cells (.cons (.same _) (.cons .here .nil)) (.refl _))) ?_
 repeat' (first | exact jA | refine AF ?_ | refine two ?_ ?_ | refine AB fun c_ => ?_ | refine imp fun hc => ?_; try exact cx1 hc | refine all fun v_ => ?_)
 exact Mv (xs := [mdA m]) ⟨Ax rfl (by (with_reducible exact ElC.h)) rfl AW rfl, trivial⟩ rfl (h' := []) (jc _) (AA rfl)
theorem Xd (G : List (Nat × List D)) (m : Md) : ACr Tryz.prog G 38 [mdA m, mdA m] (.bool true) := by
 refine AC.factI (f := Vr.cells) (xs := m.vars) (.agg .here) fun hlv => ?_
 refine AC.factI (f := Ru.cells) (xs := m.rules) (.agg (.there .here)) fun hlr => ?_
 refine AC.factU (f := Ru.cells) (e := St.cells) (g := Ru.sets) (xs := m.rules) 1 (fun _ => rfl) (.agg (.there .here)) fun hls => ?_
 refine AK (ts := [4]) Tryz.f38.ntmps Tryz.func38 rfl rfl rfl (by simp [Tryz.ntmps38]) fun W I => ?_
 repeat' (first | exact jA | refine AF ?_ | refine two ?_ ?_ | refine AB fun c_ => ?_ | refine imp fun hc => ?_; try exact cx1 hc | refine all fun v_ => ?_)
 rename_i ba _
 obtain ⟨bb, rfl⟩ : ∃ x, x = v_ := ⟨v_, rfl⟩
 refine AG (X := Nat) (fun i => [(2, .val (.pointer (some ⟨ba, 0, none⟩))), (3, .val (.pointer (some ⟨bb, 0, none⟩))), (5, .int i)]) (fun _ => [.cells bb 25 [.d (Au m.vars), .d (Ae m.rules)], .cells ba 25 [.d (Au m.vars), .d (Ae m.rules)]]) (fun i => i ≤ m.vars.length) (fun i => m.vars.length - i) 0 (Nat.zero_le _) (VS.of_le ?_) ?_
 · exact leD
 rintro i h1
 by_cases hi : i < m.vars.length
 · 
   repeat' (first | ((with_reducible apply jp); (focus ((with_reducible apply (dm Qt)); rfl; rfl)); rfl) | exact jA | refine AF ?_ | refine two ?_ ?_ | refine AB fun c_ => ?_ | refine imp fun hc => ?_; try exact cx1 hc | refine all fun v_ => ?_)
   refine ⟨i + 1, by omega, by omega, VS.of_le ?_⟩
   exact leD
 obtain rfl : i = m.vars.length := by omega
 repeat' (first | exact jA | refine AF ?_ | refine two ?_ ?_ | refine AB fun c_ => ?_ | refine imp fun hc => ?_; try exact cx1 hc | refine all fun v_ => ?_)
 refine AG (X := Nat) (fun i => [(2, .val (.pointer (some ⟨ba, 0, none⟩))), (3, .val (.pointer (some ⟨bb, 0, none⟩))), (6, .int i)]) (fun _ => [.cells bb 25 [.d (Au m.vars), .d (Ae m.rules)], .cells ba 25 [.d (Au m.vars), .d (Ae m.rules)]]) (fun i => i ≤ m.rules.length) (fun i => m.rules.length - i) 0 (Nat.zero_le _) (VS.of_le ?_) ?_
 · exact leD
 rintro i h1
 by_cases hi : i < m.rules.length
 · have hlsi := hls m.rules[i] (jb hi)
   have e1 := A7 (Kc G m.rules[i].guard m.rules[i].guard) rfl
   repeat' (first | refine ca CK (e1) ?_ | exact jA | refine AF ?_ | refine two ?_ ?_ | refine AB fun c_ => ?_ | refine imp fun hc => ?_; try exact cx1 hc | refine all fun v_ => ?_)
   rename_i bx
   refine AG (X := Nat) (fun k => [(2, .val (.pointer (some ⟨ba, 0, none⟩))), (3, .val (.pointer (some ⟨bb, 0, none⟩))), (6, .int i), (7, .val (.pointer (some ⟨bx, 0, none⟩))), (8, .val (.pointer (some ⟨v_, 0, none⟩))), (9, .int k)]) (fun _ => [.cells v_ 119 [.d (AO m.rules[i].guard), .d (GU m.rules[i].sets)], .cells bx 119 [.d (AO m.rules[i].guard), .d (GU m.rules[i].sets)], .cells bb 25 [.d (Au m.vars), .d (Ae m.rules)], .cells ba 25 [.d (Au m.vars), .d (Ae m.rules)]]) (fun k => k ≤ m.rules[i].sets.length) (fun k => m.rules[i].sets.length - k) 0 (Nat.zero_le _) (VS.of_le ?_) ?_
   · exact leD
   rintro k k1
   by_cases hk : k < m.rules[i].sets.length
   · have e2 := A7 (Kc G m.rules[i].sets[k].val m.rules[i].sets[k].val) rfl
     repeat' (first | refine ca CK (e2) ?_ | refine caq CK (e2) ?_ | exact jA | refine AP ?_ | refine two ?_ ?_ | refine imp fun hc => ?_; try exact cx hc | refine all fun v_ => ?_)
     refine ⟨k + 1, by omega, by omega, VS.of_le ?_⟩
     exact leD
   repeat' (first | refine ca CK (e2) ?_ | refine caq CK (e2) ?_ | exact jA | refine AF ?_ | refine two ?_ ?_ | refine AB fun c_ => ?_ | refine imp fun hc => ?_; try exact cx1 hc | refine all fun v_ => ?_)
   refine ⟨i + 1, by omega, by omega, VS.take AH ?_⟩
   exact leD
 repeat' (first | refine ca CK (e2) ?_ | refine caq CK (e2) ?_ | exact jA | refine AF ?_ | refine two ?_ ?_ | refine AB fun c_ => ?_ | refine imp fun hc => ?_; try exact cx1 hc | refine all fun v_ => ?_)
 refine AI jE ?_
 ((with_reducible apply rq1); rfl; rfl)
 exact AA rfl
end Go.Proofs.YtnlfhnbcdfdhgaaGreatDoor
namespace Go.Sp
open Go Go.Av
structure Tk where
 model : Md
 props : List (List Fo)
 formula : List Fo
def Tk.cells (t : Tk) : List D := [Au t.model.vars, Ae t.model.rules, Ar t.props, AO t.formula]
abbrev tkA (t : Tk) : AV := .agg [.d (Au t.model.vars), .d (Ae t.model.rules), .d (Ar t.props), .d (AO t.formula)]
noncomputable def BE (t : Tk) : Int := if CF t.model t.props ≠ 0 then CF t.model t.props else DU t.formula t.props.length
end Go.Sp
namespace Go.Proofs.YtnlfhnbcdfdhgaaGreatDoor
open Go Go.Av Go.Sp
theorem Xx : Cal Tryz.prog 26 := Cal.of Tryz.func26 (by kernel_rfl) (by kernel_rfl)
theorem XT : Cal Tryz.prog 14 := Cal.of Tryz.func14 (by kernel_rfl) (by kernel_rfl)
theorem KM : Cal Tryz.prog 18 := Cal.of Tryz.func18 (by kernel_rfl) (by kernel_rfl)
theorem WX {g : Nat} {xs : List D} (h : B5 Tryz.prog (g + 9) 29 xs) : ∃ t : Tk, xs = t.cells := by
  obtain ⟨p0, p1, p2, rfl, h0, h1, h2⟩ := L1 Tryz.underlying29 h
  obtain ⟨m, rfl⟩ := VA h0
  obtain ⟨ps, rfl, _⟩ := US h1
  obtain ⟨f, rfl, _⟩ := Kt h2
  exact ⟨⟨m, ps, f⟩, rfl⟩
theorem iS (G : List (Nat × List D)) (a : List (List Fo)) : ACr Tryz.prog G 26 [.d (Ar a)] (.d (Ar a)) := by
 refine AK (ts := [2]) Tryz.f26.ntmps Tryz.func26 rfl rfl rfl (by simp [Tryz.ntmps26]) fun W I => ?_
 refine Bn (t := 0) rfl fun hl => ?_
 repeat' (first | refine ca Gc (Ta _ _) ?_ | exact jA | refine AP ?_ | refine two ?_ ?_ | refine imp fun hc => ?_; try exact cx hc | refine all fun v_ => ?_)
 refine Db (E := 27) (sz := 1) O6 ?_
 refine Dn (X := Nat × Sl) (fun y => [(0, .d (Ar a)), (3, .val y.2.v), (4, .int y.1)]) (fun y => [AL y.2.v 27 1 O6 (a.take y.1)]) (fun y => y.1 ≤ a.length) (fun y => a.length - y.1) (0, Sl.nil) (Nat.zero_le _) ?_ rfl ?_
 · exact leD
 rintro ⟨i, v⟩ h1
 dsimp only at h1 ⊢
 have hlen : (a.take i).length = i := by rw [List.length_take]; omega
 repeat' (first | refine ca Gc (Ta _ _) ?_ | exact jA | refine AP ?_ | refine two ?_ ?_ | refine imp fun hc => ?_; try exact cx hc | refine all fun v_ => ?_)
 · refine ⟨(i + 1, v_), jC, jC, ?_, ?_⟩
   · exact leD
   · dsimp only
     rw [jZ jB]
 · refine AI (Bq (t := 2) (eb := 24) rfl rfl (fun x => rfl) (by rw [hlen]; omega)) ?_
   ((with_reducible apply rq1); rfl; rfl)
   refine AA ?_
   rw [List.take_of_length_le jB]
theorem tasks (G : List (Nat × List D)) (t : Tk) : ACr Tryz.prog G 14 [tkA t] (tkA t) := by
 refine BV (rs := [.cell 2 29]) Tryz.f14.ntmps Tryz.func14 rfl rfl rfl (by simp [Tryz.ntmps14]) fun W I => ?_
 repeat' (first | refine ca Tw (fB _ _) ?_ | refine ca Xx (iS _ _) ?_ | refine ca Gc (Ta _ _) ?_ | exact jA | refine AF ?_ | refine two ?_ ?_ | refine AB fun c_ => ?_ | refine imp fun hc => ?_; try exact cx1 hc | refine all fun v_ => ?_)
 exact Mv (xs := [tkA t]) ⟨Ax rfl (by (with_reducible exact ElC.h)) rfl AW rfl, trivial⟩ rfl (h' := []) (jc _) (AA rfl)
theorem Tc (G : List (Nat × List D)) (t : Tk) : ACr Tryz.prog G 18 [tkA t, tkA t] (.bool true) := by
 have e2 := A7 (XQ G t.props t.props) rfl
 have e3 := A7 (Kc G t.formula t.formula) rfl
 refine AK (ts := [4]) Tryz.f18.ntmps Tryz.func18 rfl rfl rfl (by simp [Tryz.ntmps18]) fun W I => ?_
 repeat' (first | refine ca OL (Xd _ _) ?_ | refine ca OR (e2) ?_ | refine ca CK (e3) ?_ | exact jA | refine AF ?_ | refine two ?_ ?_ | refine AB fun c_ => ?_ | refine imp fun hc => ?_; try exact cx1 hc | refine all fun v_ => ?_)
 all_goals
  refine AI jE ?_
  ((with_reducible apply rq1); rfl; rfl)
  exact AA rfl
theorem aZ  (t : Tk) : ACr Tryz.prog GP 75 [tkA t] (.int (BE t)) := by
 have hP := dy t.model t.props
 have hC := Check t.formula t.props.length
 unfold BE
 generalize CF t.model t.props = e1 at hP ⊢
 generalize DU t.formula t.props.length = e2 at hC ⊢
 refine AK (ts := [2]) Tryz.f75.ntmps Tryz.func75 rfl rfl rfl (by simp [Tryz.ntmps75]) fun W I => ?_
 by_cases h1 : e1 ≠ 0
 · repeat' (first | refine ca Gu (hP) ?_ | refine ca HV (hC) ?_ | exact jA | refine AF ?_ | refine two ?_ ?_ | refine AB fun c_ => ?_ | refine imp fun hc => ?_; try exact cx1 hc | refine all fun v_ => ?_)
   refine AI jE ?_
   ((with_reducible apply rq1); rfl; rfl)
   exact AA (by rw [if_pos h1])
 · repeat' (first | refine ca Gu (hP) ?_ | refine ca HV (hC) ?_ | exact jA | refine AF ?_ | refine two ?_ ?_ | refine AB fun c_ => ?_ | refine imp fun hc => ?_; try exact cx1 hc | refine all fun v_ => ?_)
   refine AI jE ?_
   ((with_reducible apply rq1); rfl; rfl)
   exact AA (by rw [if_neg h1])
theorem K9 (G : List (Nat × List D)) (t : Tk) : ACr Tryz.prog G 106 [tkA t] (.int (BE t)) := by
 have hP := Mj G t.model t.props
 have hC := FN G t.formula t.props.length
 unfold BE
 generalize CF t.model t.props = e1 at hP ⊢
 generalize DU t.formula t.props.length = e2 at hC ⊢
 refine AK (ts := [2]) Tryz.f106.ntmps Tryz.func106 rfl rfl rfl (by simp [Tryz.ntmps106]) fun W I => ?_
 by_cases h1 : e1 ≠ 0
 · repeat' (first | refine ca DT (hP) ?_ | refine ca Cr (hC) ?_ | exact jA | refine AF ?_ | refine two ?_ ?_ | refine AB fun c_ => ?_ | refine imp fun hc => ?_; try exact cx1 hc | refine all fun v_ => ?_)
   refine AI jE ?_
   ((with_reducible apply rq1); rfl; rfl)
   exact AA (by rw [if_pos h1])
 · repeat' (first | refine ca DT (hP) ?_ | refine ca Cr (hC) ?_ | exact jA | refine AF ?_ | refine two ?_ ?_ | refine AB fun c_ => ?_ | refine imp fun hc => ?_; try exact cx1 hc | refine all fun v_ => ?_)
   refine AI jE ?_
   ((with_reducible apply rq1); rfl; rfl)
   exact AA (by rw [if_neg h1])
end Go.Proofs.YtnlfhnbcdfdhgaaGreatDoor
namespace Go.Sp
open Go Go.Av
def inits (m : Md) : List Int := m.vars.map Vr.init
end Go.Sp
namespace Go.Proofs.YtnlfhnbcdfdhgaaGreatDoor
open Go Go.Av Go.Sp
theorem WY : Cal Tryz.prog 76 := Cal.of Tryz.func76 (by kernel_rfl) (by kernel_rfl)
theorem Jb : Cal Tryz.prog 107 := Cal.of Tryz.func107 (by kernel_rfl) (by kernel_rfl)
theorem iM (m : Md) : ACr Tryz.prog GP 76 [mdA m] (.tup [.int (codeF m (inits m)).1, .int (codeF m (inits m)).2]) := by
 refine AC.factI (f := Vr.cells) (xs := m.vars) (.agg .here) fun hlv => ?_
 refine AK (ts := [2, 3]) Tryz.f76.ntmps Tryz.func76 rfl rfl rfl (by simp [Tryz.ntmps76]) fun W I => ?_
 have hin : (inits m).length = m.vars.length := by simp [inits]
 repeat' (first | exact jA | refine AF ?_ | refine two ?_ ?_ | refine AB fun c_ => ?_ | refine imp fun hc => ?_; try exact cx1 hc | refine all fun v_ => ?_)
 obtain ⟨bm, rfl⟩ : ∃ x, x = v_ := ⟨v_, rfl⟩
 refine Db (E := 3) (sz := 1) AS ?_
 refine AG (X := Nat × Sl) (fun y => [(1, .val (.pointer (some ⟨bm, 0, none⟩))), (4, .val y.2.v), (8, .d (Au m.vars)), (9, .int m.vars.length), (10, .int y.1)]) (fun y => [AL y.2.v 3 1 AS ((inits m).take y.1), .cells bm 25 [.d (Au m.vars), .d (Ae m.rules)]]) (fun y => y.1 ≤ m.vars.length) (fun y => m.vars.length - y.1) (0, Sl.nil) (Nat.zero_le _) (VS.of_le ?_) ?_
 · exact leD
 rintro ⟨i, q⟩ h1
 dsimp only at h1 ⊢
 have hlen : ((inits m).take i).length = i := by rw [List.length_take]; omega
 by_cases hi : i < m.vars.length
 · have et : (inits m).take i ++ [m.vars[i].init] = (inits m).take (i + 1) := by rw [jZ jB]; simp [inits]
   repeat' (first | exact jA | refine AF ?_ | refine two ?_ ?_ | refine AB fun c_ => ?_ | refine imp fun hc => ?_; try exact cx1 hc | refine all fun v_ => ?_)
   refine ⟨(i + 1, v_), jC, jC, ?_⟩
   dsimp only
   rw [← et]
   refine VS.take AH ?_
   exact leD
 obtain rfl : i = m.vars.length := by omega
 rw [List.take_of_length_le jB]
 refine IH (EA (h1 := []) (h' := [.cells bm 25 [.d (Au m.vars), .d (Ae m.rules)]]) 8 rfl rfl (fun _ => rfl) jB (CvE.cons (t := 4) rfl .here (CvE.refl _ _ _)) (CvH.refl _)) ?_
 repeat' (first | refine ca Rk (Code _ _) ?_ | exact jA | refine AF ?_ | refine two ?_ ?_ | refine AB fun c_ => ?_ | refine imp fun hc => ?_; try exact cx1 hc | refine all fun v_ => ?_)
 refine AI jE ?_
 ((with_reducible apply rq2); rfl; rfl; rfl)
 exact AA rfl
theorem Pq (G : List (Nat × List D)) (m : Md) : ACr Tryz.prog G 107 [mdA m] (.tup [.int (codeF m (inits m)).1, .int (codeF m (inits m)).2]) := by
 refine AC.factI (f := Vr.cells) (xs := m.vars) (.agg .here) fun hlv => ?_
 refine AK (ts := [2, 3]) Tryz.f107.ntmps Tryz.func107 rfl rfl rfl (by simp [Tryz.ntmps107]) fun W I => ?_
 have hin : (inits m).length = m.vars.length := by simp [inits]
 repeat' (first | exact jA | refine AF ?_ | refine two ?_ ?_ | refine AB fun c_ => ?_ | refine imp fun hc => ?_; try exact cx1 hc | refine all fun v_ => ?_)
 obtain ⟨bm, rfl⟩ : ∃ x, x = v_ := ⟨v_, rfl⟩
 refine Db (E := 3) (sz := 1) AS ?_
 refine AG (X := Nat × Sl) (fun y => [(1, .val (.pointer (some ⟨bm, 0, none⟩))), (4, .val y.2.v), (5, .int y.1)]) (fun y => [AL y.2.v 3 1 AS ((inits m).take y.1), .cells bm 25 [.d (Au m.vars), .d (Ae m.rules)]]) (fun y => y.1 ≤ m.vars.length) (fun y => m.vars.length - y.1) (0, Sl.nil) (Nat.zero_le _) (VS.of_le ?_) ?_
 · exact leD
 rintro ⟨i, q⟩ h1
 dsimp only at h1 ⊢
 have hlen : ((inits m).take i).length = i := by rw [List.length_take]; omega
 by_cases hi : i < m.vars.length
 · have et : (inits m).take i ++ [m.vars[i].init] = (inits m).take (i + 1) := by rw [jZ jB]; simp [inits]
   repeat' (first | exact jA | refine AF ?_ | refine two ?_ ?_ | refine AB fun c_ => ?_ | refine imp fun hc => ?_; try exact cx1 hc | refine all fun v_ => ?_)
   refine ⟨(i + 1, v_), jC, jC, ?_⟩
   dsimp only
   rw [← et]
   refine VS.take AH ?_
   exact leD
 obtain rfl : i = m.vars.length := by omega
 rw [List.take_of_length_le jB]
 refine IH (EA (h1 := []) (h' := [.cells bm 25 [.d (Au m.vars), .d (Ae m.rules)]]) 8 rfl rfl (fun _ => rfl) jB (CvE.cons (t := 4) rfl .here (CvE.refl _ _ _)) (CvH.refl _)) ?_
 repeat' (first | refine ca J3 (ZE _ _ _) ?_ | exact jA | refine AF ?_ | refine two ?_ ?_ | refine AB fun c_ => ?_ | refine imp fun hc => ?_; try exact cx1 hc | refine all fun v_ => ?_)
 refine AI jE ?_
 ((with_reducible apply rq2); rfl; rfl; rfl)
 exact AA rfl
end Go.Proofs.YtnlfhnbcdfdhgaaGreatDoor
