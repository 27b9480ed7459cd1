/- Own texts. -/
import Derived.Test.YtnlfhnbcdfdhgaaGreatDoorA6
set_option linter.unusedVariables false
set_option linter.unusedSimpArgs false
set_option maxRecDepth 100000
set_option maxHeartbeats 4000000
namespace Go.Proofs.YtnlfhnbcdfdhgaaGreatDoor
open Go Go.Av Go.Sp
theorem HE : Cal Tryz.prog 165 := Cal.of Tryz.func165 (by kernel_rfl) (by kernel_rfl)
theorem Oi : Cal Tryz.prog 188 := Cal.of Tryz.func188 (by kernel_rfl) (by kernel_rfl)
theorem A9 : Cal Tryz.prog 130 := Cal.of Tryz.func130 (by kernel_rfl) (by kernel_rfl)
theorem Aj : Cal Tryz.prog 157 := Cal.of Tryz.func157 (by kernel_rfl) (by kernel_rfl)
abbrev ruA (r : Ru) : AV := .agg [.d (AO r.guard), .d (GU r.sets)]
theorem WI {p q : Prop} (hp : p) (h : p → q := by
 apply cmp; (focus ((with_reducible apply jp); (focus ((with_reducible apply (A8 (AY .i64))); rfl; rfl; rfl; rfl; (with_reducible exact ElC.h); exact AW)); rfl))
 exact fun h => h) : q := h hp
theorem ic {p q : Prop} (hp : p) (h : p → q := by
 apply cmp; (focus ((with_reducible apply (B7 (Value.int .i64))); rfl))
 exact fun h => h) : q := h hp
theorem Dj (r : Ru) (vars : Int) : ACr Tryz.prog GP 165 [ruA r, .int vars] (.int (EP r vars)) := by
 refine AK (ts := [4]) Tryz.f165.ntmps Tryz.func165 rfl rfl rfl (by simp [Tryz.ntmps165]) fun W I => ?_
 by_cases h6 : 6 < r.sets.length
 · repeat' (first | refine ca CR (kind _ _ _) ?_ | refine ic ?_ | refine WI ?_ | refine i6 (Bc (AY .i64)) ?_ | exact jA | refine AF ?_ | refine two ?_ ?_ | refine AB fun c_ => ?_ | refine imp fun hc => ?_; try exact cx1 hc | refine all fun v_ => ?_)
   refine AI jE ?_
   ((with_reducible apply rq1); rfl; rfl)
   exact AA (by rw [EP, if_pos h6])
 by_cases hk : Cn r.guard vars true ≠ 0
 · repeat' (first | refine ca CR (kind _ _ _) ?_ | refine ic ?_ | refine WI ?_ | refine i6 (Bc (AY .i64)) ?_ | exact jA | refine AF ?_ | refine two ?_ ?_ | refine AB fun c_ => ?_ | refine imp fun hc => ?_; try exact cx1 hc | refine all fun v_ => ?_)
   refine AI jE ?_
   ((with_reducible apply rq1); rfl; rfl)
   exact AA (by rw [EP, if_neg h6, if_pos hk])
 have hF : EP r vars = H7 vars r.sets [] := by rw [EP, if_neg h6, if_neg hk]
 repeat' (first | refine ca CR (kind _ _ _) ?_ | refine ic ?_ | refine WI ?_ | refine i6 (Bc (AY .i64)) ?_ | exact jA | refine AF ?_ | refine two ?_ ?_ | refine AB fun c_ => ?_ | refine imp fun hc => ?_; try exact cx1 hc | refine all fun v_ => ?_)
 refine AG (X := Nat × List Int) (fun y => [(1, .int vars), (6, .val (.map (some v_))), (25, .d (GU r.sets)), (26, .int r.sets.length), (27, .int y.1)]) (fun y => [.raw v_ (Th (Value.int .i64) y.2)]) (fun y => y.1 ≤ r.sets.length ∧ EP r vars = H7 vars (r.sets.drop y.1) y.2) (fun y => r.sets.length - y.1) (0, []) ⟨Nat.zero_le _, hF⟩ ?_ ?_
 · refine VS.take AH ?_
   exact leD
 rintro ⟨i, seen⟩ ⟨h1, h4⟩
 dsimp only at h1 h4 ⊢
 by_cases hi : ¬ i < r.sets.length
 · rw [PB vars _ i jB] at h4
   repeat' (first | refine ca CR (kind _ _ _) ?_ | refine ic ?_ | refine WI ?_ | refine i6 (Bc (AY .i64)) ?_ | exact jA | refine AF ?_ | refine two ?_ ?_ | refine AB fun c_ => ?_ | refine imp fun hc => ?_; try exact cx1 hc | refine all fun v_ => ?_)
   refine AI jE ?_
   ((with_reducible apply rq1); rfl; rfl)
   exact AA (by rw [h4])
 replace hi := jY hi
 rw [TA vars _ i hi] at h4
 by_cases c0 : r.sets[i].var < 0
 · rw [if_pos jB] at h4
   repeat' (first | refine ca CR (kind _ _ _) ?_ | refine ic ?_ | refine WI ?_ | refine i6 (Bc (AY .i64)) ?_ | exact jA | refine AF ?_ | refine two ?_ ?_ | refine AB fun c_ => ?_ | refine imp fun hc => ?_; try exact cx1 hc | refine all fun v_ => ?_)
   refine AI jE ?_
   ((with_reducible apply rq1); rfl; rfl)
   exact AA (by rw [h4])
 by_cases c1 : vars ≤ r.sets[i].var
 · rw [if_pos jB] at h4
   repeat' (first | refine ca CR (kind _ _ _) ?_ | refine ic ?_ | refine WI ?_ | refine i6 (Bc (AY .i64)) ?_ | exact jA | refine AF ?_ | refine two ?_ ?_ | refine AB fun c_ => ?_ | refine imp fun hc => ?_; try exact cx1 hc | refine all fun v_ => ?_)
   refine AI jE ?_
   ((with_reducible apply rq1); rfl; rfl)
   exact AA (by rw [h4])
 rw [if_neg jB] at h4
 by_cases c2 : r.sets[i].var ∈ seen
 · rw [if_pos c2] at h4
   repeat' (first | refine ca CR (kind _ _ _) ?_ | refine ic ?_ | refine WI ?_ | refine i6 (Bc (AY .i64)) ?_ | exact jA | refine AF ?_ | refine two ?_ ?_ | refine AB fun c_ => ?_ | refine imp fun hc => ?_; try exact cx1 hc | refine all fun v_ => ?_)
   refine AI jE ?_
   ((with_reducible apply rq1); rfl; rfl)
   exact AA (by rw [h4])
 rw [if_neg c2] at h4
 by_cases c3 : Cn r.sets[i].val vars false ≠ 0
 · rw [if_pos c3] at h4
   repeat' (first | refine ca CR (kind _ _ _) ?_ | refine ic ?_ | refine WI ?_ | refine i6 (Bc (AY .i64)) ?_ | exact jA | refine AF ?_ | refine two ?_ ?_ | refine AB fun c_ => ?_ | refine imp fun hc => ?_; try exact cx1 hc | refine all fun v_ => ?_)
   refine AI jE ?_
   ((with_reducible apply rq1); rfl; rfl)
   exact AA (by rw [h4])
 rw [if_neg c3] at h4
 repeat' (first | refine ca CR (kind _ _ _) ?_ | refine ic ?_ | refine WI ?_ | refine i6 (Bc (AY .i64)) ?_ | exact jA | refine AF ?_ | refine two ?_ ?_ | refine AB fun c_ => ?_ | refine imp fun hc => ?_; try exact cx1 hc | refine all fun v_ => ?_)
 refine ⟨(i + 1, seen ++ [r.sets[i].var]), ⟨by dsimp only; omega, h4⟩, jC, VS.take BF ?_⟩
 exact leD
theorem Wl (G : List (Nat × List D)) (r : Ru) (vars : Int) (hv : 0 ≤ vars ∧ vars ≤ 1000) : ACr Tryz.prog G 188 [ruA r, .int vars] (.int (EP r vars)) := by
 refine AK (ts := [4]) Tryz.f188.ntmps Tryz.func188 rfl rfl rfl (by simp [Tryz.ntmps188]) fun W I => ?_
 by_cases h6 : 6 < r.sets.length
 · repeat' (first | refine ca Aa (BD _ _ _ _) ?_ | refine ca AN (In _ _ _ _) ?_ | exact jA | refine AF ?_ | refine two ?_ ?_ | refine AB fun c_ => ?_ | refine imp fun hc => ?_; try exact cx1 hc | refine all fun v_ => ?_)
   refine AI jE ?_
   ((with_reducible apply rq1); rfl; rfl)
   exact AA (by rw [EP, if_pos h6])
 repeat' (first | refine ca Aa (BD _ _ _ _) ?_ | refine ca AN (In _ _ _ _) ?_ | exact jA | refine AF ?_ | refine two ?_ ?_ | refine AB fun c_ => ?_ | refine imp fun hc => ?_; try exact cx1 hc | refine all fun v_ => ?_)
 rename Nat => bg
 refine AG (X := Nat × Int) (fun y => [(1, .int vars), (2, .val (.pointer (some ⟨bg, 0, none⟩))), (5, .int y.2), (6, .int y.1)]) (fun y => [.cells bg 119 [.d (AO r.guard), .d (GU r.sets)]]) (fun y => y.1 ≤ r.sets.length ∧ EP r vars = if y.2 ≠ 0 then y.2 else H7 vars (r.sets.drop y.1) ((r.sets.take y.1).map St.var)) (fun y => r.sets.length - y.1) (0, Cn r.guard vars true) ⟨Nat.zero_le _, by rw [EP, if_neg h6]; rfl⟩ (VS.of_le ?_) ?_
 · exact leD
 rintro ⟨i, e⟩ ⟨h1, h4⟩
 dsimp only at h1 h4 ⊢
 by_cases he : e ≠ 0
 · rw [if_pos he] at h4
   repeat' (first | refine ca Aa (BD _ _ _ _) ?_ | refine ca AN (In _ _ _ _) ?_ | exact jA | refine AF ?_ | refine two ?_ ?_ | refine AB fun c_ => ?_ | refine imp fun hc => ?_; try exact cx1 hc | refine all fun v_ => ?_)
   all_goals
    refine AI jE ?_
    ((with_reducible apply rq1); rfl; rfl)
    exact AA (by rw [h4])
 rw [if_neg he] at h4
 obtain rfl : e = 0 := by omega
 by_cases hi : ¬ i < r.sets.length
 · rw [PB vars _ i jB] at h4
   repeat' (first | refine ca Aa (BD _ _ _ _) ?_ | refine ca AN (In _ _ _ _) ?_ | exact jA | refine AF ?_ | refine two ?_ ?_ | refine AB fun c_ => ?_ | refine imp fun hc => ?_; try exact cx1 hc | refine all fun v_ => ?_)
   refine AI jE ?_
   ((with_reducible apply rq1); rfl; rfl)
   exact AA (by rw [h4])
 replace hi := jY hi
 rw [TA vars _ i hi] at h4
 have hmem : ∀ x, x ∈ (r.sets.take i).map St.var ↔ ∃ j, ∃ h : j < r.sets.length, j < i ∧ r.sets[j].var = x := fun x => by
  rw [List.mem_map]
  constructor
  · rintro ⟨v, hv, rfl⟩
    obtain ⟨j, hj, rfl⟩ := List.getElem_of_mem hv
    rw [List.length_take] at hj
    exact ⟨j, by omega, by omega, by simp⟩
  · rintro ⟨j, hj, hji, rfl⟩
    exact ⟨r.sets[j], by rw [List.mem_take_iff_getElem]; exact ⟨j, by omega, rfl⟩, rfl⟩
 by_cases c1 : ¬ (0 ≤ r.sets[i].var ∧ r.sets[i].var < vars)
 · rw [if_pos c1] at h4
   repeat' (first | refine ca Aa (BD _ _ _ _) ?_ | refine ca AN (In _ _ _ _) ?_ | exact jA | refine AF ?_ | refine two ?_ ?_ | refine AB fun c_ => ?_ | refine imp fun hc => ?_; try exact cx1 hc | refine all fun v_ => ?_)
   refine AI jE ?_
   ((with_reducible apply rq1); rfl; rfl)
   exact AA (by rw [h4])
 rw [if_neg c1] at h4
 repeat' (first | refine ca Aa (BD _ _ _ _) ?_ | refine ca AN (In _ _ _ _) ?_ | exact jA | refine AF ?_ | refine two ?_ ?_ | refine AB fun c_ => ?_ | refine imp fun hc => ?_; try exact cx1 hc | refine all fun v_ => ?_)
 refine AG (X := Nat) (fun k => [(1, .int vars), (2, .val (.pointer (some ⟨bg, 0, none⟩))), (6, .int i), (7, .val (.pointer (some ⟨v_, 0, none⟩))), (8, .int k)]) (fun _ => [.cells v_ 121 [.int r.sets[i].var, .d (AO r.sets[i].val)], .cells bg 119 [.d (AO r.guard), .d (GU r.sets)]]) (fun k => k ≤ i ∧ ∀ j (h : j < r.sets.length), j < k → r.sets[j].var ≠ r.sets[i].var) (fun k => i - k) 0 ⟨Nat.zero_le _, fun _ _ h => absurd h (Nat.not_lt_zero _)⟩ (VS.of_le ?_) ?_
 · exact leD
 rintro k ⟨k1, k2⟩
 by_cases hk : k < i
 · have hkl : k < r.sets.length := by omega
   by_cases c2 : r.sets[k].var = r.sets[i].var
   · rw [if_pos ((hmem _).2 ⟨k, hkl, hk, c2⟩)] at h4
     repeat' (first | refine ca Aa (BD _ _ _ _) ?_ | refine ca AN (In _ _ _ _) ?_ | exact jA | refine AF ?_ | refine two ?_ ?_ | refine AB fun c_ => ?_ | refine imp fun hc => ?_; try exact cx1 hc | refine all fun v_ => ?_)
     refine AI jE ?_
     ((with_reducible apply rq1); rfl; rfl)
     exact AA (by rw [h4])
   · repeat' (first | refine ca Aa (BD _ _ _ _) ?_ | refine ca AN (In _ _ _ _) ?_ | exact jA | refine AF ?_ | refine two ?_ ?_ | refine AB fun c_ => ?_ | refine imp fun hc => ?_; try exact cx1 hc | refine all fun v_ => ?_)
     refine ⟨k + 1, ⟨by omega, fun j hj hjk => ?_⟩, by omega, VS.of_le ?_⟩
     · by_cases e : j = k
       · subst e; exact c2
       · exact k2 j hj jB
     · exact leD
 have c2 : r.sets[i].var ∉ (r.sets.take i).map St.var := fun h => by
  obtain ⟨j, hj, hji, e⟩ := (hmem _).1 h
  exact k2 j hj jB e
 rw [if_neg c2] at h4
 repeat' (first | refine ca Aa (BD _ _ _ _) ?_ | refine ca AN (In _ _ _ _) ?_ | exact jA | refine AF ?_ | refine two ?_ ?_ | refine AB fun c_ => ?_ | refine imp fun hc => ?_; try exact cx1 hc | refine all fun v_ => ?_)
 refine ⟨(i + 1, Cn r.sets[i].val vars false), ⟨by dsimp only; omega, ?_⟩, jC, VS.trans (VS.drop (h' := [.cells bg 119 [.d (AO r.guard), .d (GU r.sets)]]) IE) (VS.of_le ?_)⟩
 · dsimp only
   rw [h4, jZ hi, List.map_append]
   rfl
 · exact leD
theorem CW (m : Md) : ACr Tryz.prog GP 130 [mdA m] (.int (AT m)) := by
 refine AK (ts := [2]) Tryz.f130.ntmps Tryz.func130 rfl rfl rfl (by simp [Tryz.ntmps130]) fun W I => ?_
 by_cases c1 : Dx m.vars ≠ 0
 · repeat' (first | refine ca DG (Fe _ _) ?_ | refine ca HE (Dj _ _) ?_ | exact jA | refine AF ?_ | refine two ?_ ?_ | refine AB fun c_ => ?_ | refine imp fun hc => ?_; try exact cx1 hc | refine all fun v_ => ?_)
   refine AI jE ?_
   ((with_reducible apply rq1); rfl; rfl)
   exact AA (by rw [AT, if_pos c1])
 by_cases c2 : 12 < m.rules.length
 · repeat' (first | refine ca DG (Fe _ _) ?_ | refine ca HE (Dj _ _) ?_ | exact jA | refine AF ?_ | refine two ?_ ?_ | refine AB fun c_ => ?_ | refine imp fun hc => ?_; try exact cx1 hc | refine all fun v_ => ?_)
   refine AI jE ?_
   ((with_reducible apply rq1); rfl; rfl)
   exact AA (by rw [AT, if_neg c1, if_pos c2])
 have hF : AT m = Eb m.vars.length m.rules := by rw [AT, if_neg c1, if_neg c2]
 repeat' (first | refine ca DG (Fe _ _) ?_ | refine ca HE (Dj _ _) ?_ | exact jA | refine AF ?_ | refine two ?_ ?_ | refine AB fun c_ => ?_ | refine imp fun hc => ?_; try exact cx1 hc | refine all fun v_ => ?_)
 refine AG (X := Nat) (fun i => [(1, .val (.pointer (some ⟨v_, 0, none⟩))), (18, .d (Ae m.rules)), (19, .int m.rules.length), (20, .int i)]) (fun _ => [.cells v_ 25 [.d (Au m.vars), .d (Ae m.rules)]]) (fun i => i ≤ m.rules.length ∧ AT m = Eb m.vars.length (m.rules.drop i)) (fun i => m.rules.length - i) 0 ⟨Nat.zero_le _, hF⟩ (VS.of_le ?_) ?_
 · exact leD
 rintro i ⟨h1, h4⟩
 by_cases hi : ¬ i < m.rules.length
 · rw [Na _ _ i jB] at h4
   repeat' (first | refine ca DG (Fe _ _) ?_ | refine ca HE (Dj _ _) ?_ | exact jA | refine AF ?_ | refine two ?_ ?_ | refine AB fun c_ => ?_ | refine imp fun hc => ?_; try exact cx1 hc | refine all fun v_ => ?_)
   refine AI jE ?_
   ((with_reducible apply rq1); rfl; rfl)
   exact AA (by rw [h4])
 replace hi := jY hi
 rw [O0 _ _ i hi] at h4
 by_cases c3 : EP m.rules[i] m.vars.length ≠ 0
 · rw [if_pos c3] at h4
   repeat' (first | refine ca DG (Fe _ _) ?_ | refine ca HE (Dj _ _) ?_ | exact jA | refine AF ?_ | refine two ?_ ?_ | refine AB fun c_ => ?_ | refine imp fun hc => ?_; try exact cx1 hc | refine all fun v_ => ?_)
   refine AI jE ?_
   ((with_reducible apply rq1); rfl; rfl)
   exact AA (by rw [h4])
 rw [if_neg c3] at h4
 rename_i bm
 repeat' (first | refine ca DG (Fe _ _) ?_ | refine ca HE (Dj _ _) ?_ | exact jA | refine AF ?_ | refine two ?_ ?_ | refine AB fun c_ => ?_ | refine imp fun hc => ?_; try exact cx1 hc | refine all fun v_ => ?_)
 refine ⟨i + 1, ⟨by omega, h4⟩, by omega, VS.take BF ?_⟩
 exact leD
theorem DZ {l : List Vr} (h : Dx l = 0) : l.length ≤ 6 := by
 unfold Dx at h
 by_cases c : 6 < l.length
 · rw [if_pos c] at h; cases h
 · omega
theorem BH (G : List (Nat × List D)) (m : Md) : ACr Tryz.prog G 157 [mdA m] (.int (AT m)) := by
 refine AK (ts := [2]) Tryz.f157.ntmps Tryz.func157 rfl rfl rfl (by simp [Tryz.ntmps157]) fun W I => ?_
 by_cases c1 : Dx m.vars ≠ 0
 · repeat' (first | refine ca CO (DR _ _) ?_ | exact jA | refine AF ?_ | refine two ?_ ?_ | refine AB fun c_ => ?_ | refine imp fun hc => ?_; try exact cx1 hc | refine all fun v_ => ?_)
   refine AI jE ?_
   ((with_reducible apply rq1); rfl; rfl)
   exact AA (by rw [AT, if_pos c1])
 by_cases c2 : 12 < m.rules.length
 · repeat' (first | refine ca CO (DR _ _) ?_ | exact jA | refine AF ?_ | refine two ?_ ?_ | refine AB fun c_ => ?_ | refine imp fun hc => ?_; try exact cx1 hc | refine all fun v_ => ?_)
   refine AI jE ?_
   ((with_reducible apply rq1); rfl; rfl)
   exact AA (by rw [AT, if_neg c1, if_pos c2])
 have hF : AT m = Eb m.vars.length m.rules := by rw [AT, if_neg c1, if_neg c2]
 have hvl := DZ (show Dx m.vars = 0 by omega)
 repeat' (first | refine ca CO (DR _ _) ?_ | exact jA | refine AF ?_ | refine two ?_ ?_ | refine AB fun c_ => ?_ | refine imp fun hc => ?_; try exact cx1 hc | refine all fun v_ => ?_)
 rename Nat => bm
 refine AG (X := Nat × Int) (fun y => [(1, .val (.pointer (some ⟨bm, 0, none⟩))), (3, .int y.2), (4, .int y.1)]) (fun _ => [.cells bm 25 [.d (Au m.vars), .d (Ae m.rules)]]) (fun y => y.1 ≤ m.rules.length ∧ AT m = if y.2 ≠ 0 then y.2 else Eb m.vars.length (m.rules.drop y.1)) (fun y => m.rules.length - y.1) (0, Dx m.vars) ⟨Nat.zero_le _, by rw [if_neg c1]; exact hF⟩ (VS.of_le ?_) ?_
 · exact leD
 rintro ⟨i, e⟩ ⟨h1, h4⟩
 dsimp only at h1 h4 ⊢
 by_cases he : e ≠ 0
 · rw [if_pos he] at h4
   repeat' (first | refine ca CO (DR _ _) ?_ | exact jA | refine AF ?_ | refine two ?_ ?_ | refine AB fun c_ => ?_ | refine imp fun hc => ?_; try exact cx1 hc | refine all fun v_ => ?_)
   all_goals
    refine AI jE ?_
    ((with_reducible apply rq1); rfl; rfl)
    exact AA (by rw [h4])
 rw [if_neg he] at h4
 obtain rfl : e = 0 := by omega
 by_cases hi : ¬ i < m.rules.length
 · rw [Na _ _ i jB] at h4
   repeat' (first | refine ca CO (DR _ _) ?_ | exact jA | refine AF ?_ | refine two ?_ ?_ | refine AB fun c_ => ?_ | refine imp fun hc => ?_; try exact cx1 hc | refine all fun v_ => ?_)
   refine AI jE ?_
   ((with_reducible apply rq1); rfl; rfl)
   exact AA (by rw [h4])
 replace hi := jY hi
 rw [O0 _ _ i hi] at h4
 have E := Wl G m.rules[i] m.vars.length ⟨by omega, by omega⟩
 repeat' (first | refine ca Oi (E) ?_ | exact jA | refine AF ?_ | refine two ?_ ?_ | refine AB fun c_ => ?_ | refine imp fun hc => ?_; try exact cx1 hc | refine all fun v_ => ?_)
 refine ⟨(i + 1, EP m.rules[i] m.vars.length), ⟨by dsimp only; omega, h4⟩, jC, VS.of_le ?_⟩
 exact leD
end Go.Proofs.YtnlfhnbcdfdhgaaGreatDoor
