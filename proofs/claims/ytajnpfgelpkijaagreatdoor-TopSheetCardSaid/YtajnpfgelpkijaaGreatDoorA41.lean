/- A bundle of this claim's own texts: M6 M8. -/
import Derived.Test.YtajnpfgelpkijaaGreatDoorA7
import Derived.Test.YtajnpfgelpkijaaGreatDoorA39
set_option linter.unusedVariables false
set_option linter.unusedSimpArgs false
set_option maxRecDepth 100000
set_option maxHeartbeats 4000000
namespace Go.Proofs.YtajnpfgelpkijaaGreatDoor
open Go Go.Av Go.Sp

theorem SX : Cal Tryz.prog 133 := Cal.of Tryz.func133 (by kernel_rfl) (by kernel_rfl)
theorem Code (m : Md) (xs : List Int) : ACr Tryz.prog GP 133 [mdA m, .d (AP xs)] (.tup [.int (codeF m xs).1, .int (codeF m xs).2]) := by
 refine AC.factI (f := Ag) (xs := xs) (.there .here) fun hlx => ?_
 refine AK (ts := [4, 5]) Tryz.f133.ntmps Tryz.func133 rfl rfl rfl (by simp [Tryz.ntmps133]) fun W I => ?_
 by_cases c1 : Ah m ≠ 0
 · repeat' (first
    | refine ca As (B4 _) ?_
    | exact True.intro | refine AJ ?_ | refine two ?_ ?_ | refine AG fun c_ => ?_
    | (refine imp fun hc => ?_) <;> try exact cx1 hc
    | refine all fun v_ => ?_)
   refine AO (VS.drop (List.nil_sublist _)) ?_
   ((with_reducible apply rq2); rfl; rfl; rfl)
   exact AD (by rw [codeF, if_pos c1])
 have hv := BP (show Ah m = 0 by omega)
 have g := KW hv
 have hl6 := Hp hv
 by_cases c2 : xs.length ≠ m.vars.length
 · repeat' (first
    | refine ca As (B4 _) ?_
    | exact True.intro | refine AJ ?_ | refine two ?_ ?_ | refine AG fun c_ => ?_
    | (refine imp fun hc => ?_) <;> try exact cx1 hc
    | refine all fun v_ => ?_)
   refine AO (VS.drop (List.nil_sublist _)) ?_
   ((with_reducible apply rq2); rfl; rfl; rfl)
   exact AD (by rw [codeF, if_neg c1, if_pos c2])
 have hF : codeF m xs = Dc 0 m.vars xs := by rw [codeF, if_neg c1, if_neg c2]
 have hxl : xs.length = m.vars.length := Decidable.not_not.1 c2
 clear c2
 repeat' (first
  | refine ca As (B4 _) ?_
  | exact True.intro | refine AJ ?_ | refine two ?_ ?_ | refine AG fun c_ => ?_
  | (refine imp fun hc => ?_) <;> try exact cx1 hc
  | refine all fun v_ => ?_)
 refine AL (X := Nat × Int) (fun y => [(1, .d (AP xs)), (7, .int y.2), (22, .d (Ba m.vars)), (23, .int m.vars.length), (24, .int y.1)]) (fun _ => []) (fun y => y.1 ≤ m.vars.length ∧ 0 ≤ y.2 ∧ y.2 + 1 ≤ AR (m.vars.take y.1) ∧ codeF m xs = Dc y.2 (m.vars.drop y.1) (xs.drop y.1)) (fun y => m.vars.length - y.1) (0, 0) ⟨Nat.zero_le _, by decide, by simp [AR], hF⟩ (VS.trans (VS.drop (List.nil_sublist _)) (VS.of_le ?_)) ?_
 · exact leD
 rintro ⟨i, n⟩ ⟨h1, h2, h3, h4⟩
 dsimp only at h1 h2 h3 h4 ⊢
 by_cases hi : ¬ i < m.vars.length
 · rw [Wu _ _ _ _ (by omega)] at h4
   repeat' (first
    | refine ca As (B4 _) ?_
    | exact True.intro | refine AJ ?_ | refine two ?_ ?_ | refine AG fun c_ => ?_
    | (refine imp fun hc => ?_) <;> try exact cx1 hc
    | refine all fun v_ => ?_)
   refine AO (VS.drop (List.nil_sublist _)) ?_
   ((with_reducible apply rq2); rfl; rfl; rfl)
   exact AD (by rw [h4])
 replace hi := Decidable.not_not.1 hi
 have hi' : i < xs.length := by omega
 rw [Yu _ _ _ _ hi hi'] at h4
 obtain ⟨d1, d2, d3, d4, d5⟩ := g.range _ (List.getElem_mem hi)
 by_cases cl : xs[i] < m.vars[i].low
 · rw [if_neg (by omega)] at h4
   repeat' (first
    | refine ca As (B4 _) ?_
    | exact True.intro | refine AJ ?_ | refine two ?_ ?_ | refine AG fun c_ => ?_
    | (refine imp fun hc => ?_) <;> try exact cx1 hc
    | refine all fun v_ => ?_)
   all_goals
    refine AO (VS.drop (List.nil_sublist _)) ?_
    ((with_reducible apply rq2); rfl; rfl; rfl)
    exact AD (by rw [h4])
 by_cases ch : m.vars[i].high < xs[i]
 · rw [if_neg (by omega)] at h4
   repeat' (first
    | refine ca As (B4 _) ?_
    | exact True.intro | refine AJ ?_ | refine two ?_ ?_ | refine AG fun c_ => ?_
    | (refine imp fun hc => ?_) <;> try exact cx1 hc
    | refine all fun v_ => ?_)
   all_goals
    refine AO (VS.drop (List.nil_sublist _)) ?_
    ((with_reducible apply rq2); rfl; rfl; rfl)
    exact AD (by rw [h4])
 rw [if_pos (by omega)] at h4
 have hsp : A6 m.vars[i] = m.vars[i].high - m.vars[i].low + 1 := rfl
 obtain ⟨s1, s2, s3⟩ := KP (s := A6 m.vars[i]) (d := xs[i] - m.vars[i].low) h2 h3 (by omega) (by omega)
 rw [← Gc m.vars i hi] at s3
 have b2 := (g.take (i + 1)).2.1
 rw [hsp] at s1 s2 s3 h4
 have hin : Aj (n * (m.vars[i].high - m.vars[i].low + 1)) := ⟨by omega, by omega⟩
 repeat' (first
  | refine ca As (B4 _) ?_
  | exact True.intro | refine AJ ?_ | refine two ?_ ?_ | refine AG fun c_ => ?_
  | (refine imp fun hc => ?_) <;> try exact cx1 hc
  | refine all fun v_ => ?_)
 refine ⟨(i + 1, n * (m.vars[i].high - m.vars[i].low + 1) + (xs[i] - m.vars[i].low)), ⟨by dsimp only; omega, s2, s3, h4⟩, by dsimp only; omega, ?_⟩
 dsimp only
 rw [show n * (m.vars[i].high - m.vars[i].low + 1) + (xs[i] - m.vars[i].low) = n * (m.vars[i].high - m.vars[i].low + 1) + xs[i] - m.vars[i].low by omega]
 refine VS.trans (VS.drop (List.nil_sublist _)) (VS.of_le ?_)
 exact leD

theorem Dn : Cal Tryz.prog 99 := Cal.of Tryz.func99 (by kernel_rfl) (by kernel_rfl)
theorem YI (m : Md) (code : Int) : ACr Tryz.prog GP 99 [mdA m, .int code] (.tup [.d (AP (CW m code).1), .int (CW m code).2]) := by
 refine AK (ts := [4, 5]) Tryz.f99.ntmps Tryz.func99 rfl rfl rfl (by simp [Tryz.ntmps99]) fun W I => ?_
 have ec := Count m
 by_cases c1 : Ah m ≠ 0
 · rw [Ir, if_pos c1] at ec
   dsimp only at ec
   repeat' (first
    | refine ca CZ (ec) ?_
    | exact True.intro | refine AJ ?_ | refine two ?_ ?_ | refine AG fun c_ => ?_
    | (refine imp fun hc => ?_) <;> try exact cx1 hc
    | refine all fun v_ => ?_)
   refine AO (VS.trans (VS.drop (List.nil_sublist _)) (Ft (t := 4) 1 8 rfl)) ?_
   ((with_reducible apply rq2); rfl; rfl; rfl)
   exact AD (by rw [CW, if_pos c1]; rfl)
 have hv := BP (show Ah m = 0 by omega)
 have g := KW hv
 have hl6 := Hp hv
 have hall := g.all
 rw [Ir, if_neg c1] at ec
 dsimp only at ec
 by_cases c2 : ¬ (0 ≤ code ∧ code < AR m.vars)
 · repeat' (first
    | refine ca CZ (ec) ?_
    | exact True.intro | refine AJ ?_ | refine two ?_ ?_ | refine AG fun c_ => ?_
    | (refine imp fun hc => ?_) <;> try exact cx1 hc
    | refine all fun v_ => ?_)
   all_goals
    refine AO (VS.trans (VS.drop (List.nil_sublist _)) (Ft (t := 4) 1 8 rfl)) ?_
    ((with_reducible apply rq2); rfl; rfl; rfl)
    exact AD (by rw [CW, if_neg c1, if_neg c2]; rfl)
 replace c2 := Decidable.not_not.1 c2
 have hF : CW m code = (CO m.vars code, 0) := by rw [CW, if_neg c1, if_pos c2]
 have hVl := F7 m.vars code
 repeat' (first
  | refine ca CZ (ec) ?_
  | exact True.intro | refine AJ ?_ | refine two ?_ ?_ | refine AG fun c_ => ?_
  | (refine imp fun hc => ?_) <;> try exact cx1 hc
  | refine all fun v_ => ?_)
 obtain ⟨bo, rfl⟩ : ∃ x, x = v_ := ⟨v_, rfl⟩
 obtain ⟨bm, rfl⟩ : ∃ x, x = v_ := ⟨v_, rfl⟩
 have e0 : code / AR (m.vars.drop m.vars.length) = code := by simp [AR]
 have e1 : HD (CO m.vars code) m.vars.length = List.replicate m.vars.length 0 := by simp [HD, hVl]
 refine AL (X := Nat) (fun k => [(1, .int (code / AR (m.vars.drop k))), (2, .val (.pointer (some ⟨bm, 0, none⟩))), (8, .val (.slice (some ⟨bo, 0, none⟩) m.vars.length m.vars.length)), (9, .int ((k : Int) - 1))]) (fun k => [.cells bo 3 ((HD (CO m.vars code) k).map AV.int), .cells bm 25 [.d (Ba m.vars), .d (BH m.rules)]]) (fun k => k ≤ m.vars.length) (fun k => k) m.vars.length (Nat.le_refl _) ?_ ?_
 · rw [e0, e1]
   refine VS.of_le ?_
   exact leD
 rintro k h1
 have hfl := OR (CO m.vars code) k (by omega)
 by_cases hk : k = 0
 · subst hk
   repeat' (first
    | refine ca CZ (ec) ?_
    | exact True.intro | refine AJ ?_ | refine two ?_ ?_ | refine AG fun c_ => ?_
    | (refine imp fun hc => ?_) <;> try exact cx1 hc
    | refine all fun v_ => ?_)
   refine AO (VS.trans (VS.drop (h' := [.cells bo 3 ((HD (CO m.vars code) 0).map AV.int)]) (by exact H6)) (vfz (t := 4) (f := Ag) (h1 := []) 1 8 rfl rfl rfl (Jx (HD (CO m.vars code) 0)) (by omega) (fun _ => rfl) (by omega) (by omega))) ?_
   ((with_reducible apply rq2); rfl; rfl; rfl)
   exact AD (by rw [hF]; simp [HD] <;> rfl)
 obtain ⟨j, rfl⟩ : ∃ j, k = j + 1 := ⟨k - 1, by omega⟩
 have hj : j < m.vars.length := by omega
 have ej : (((j + 1 : Nat) : Int) - 1) = (j : Int) := by omega
 rw [ej]
 obtain ⟨d1, d2, d3, d4, d5⟩ := g.range _ (List.getElem_mem hj)
 have hq := (g.take (j + 1)).2.2
 have hsp : A6 m.vars[j] = m.vars[j].high - m.vars[j].low + 1 := rfl
 have q0 : 0 ≤ code / AR (m.vars.drop (j + 1)) := Int.ediv_nonneg c2.1 (by omega)
 have q1 : code / AR (m.vars.drop (j + 1)) ≤ code := Int.ediv_le_self _ c2.1
 have hn : code / AR (m.vars.drop (j + 1)) / (m.vars[j].high - m.vars[j].low + 1) = code / AR (m.vars.drop j) := by rw [aJ _ _ _ (by omega), MZ _ _ hj, hsp]
 have hV := Js m.vars code j (fun v hv => (g.span v hv).1) c2.1 c2.2 hj (by omega)
 have hset := WV (CO m.vars code) j (by omega)
 rw [hV, hsp] at hset
 generalize code / AR (m.vars.drop (j + 1)) = c at *
 have m0 := Int.emod_nonneg c (show m.vars[j].high - m.vars[j].low + 1 ≠ 0 by omega)
 have m1 := Int.emod_lt_of_pos c (show 0 < m.vars[j].high - m.vars[j].low + 1 by omega)
 repeat' (first
  | refine ca CZ (ec) ?_
  | exact True.intro | refine AJ ?_ | refine two ?_ ?_ | refine AG fun c_ => ?_
  | (refine imp fun hc => ?_) <;> try exact cx1 hc
  | refine all fun v_ => ?_)
 refine ⟨j, by omega, by omega, ?_⟩
 rw [← hn, ← hset]
 refine VS.take (by exact AB) ?_
 exact leD
end Go.Proofs.YtajnpfgelpkijaaGreatDoor
