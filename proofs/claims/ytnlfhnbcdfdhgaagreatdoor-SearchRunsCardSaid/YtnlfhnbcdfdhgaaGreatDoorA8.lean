/- Own texts. -/
import Derived.Test.YtnlfhnbcdfdhgaaGreatDoorA7
set_option linter.unusedVariables false
set_option linter.unusedSimpArgs false
set_option maxRecDepth 100000
set_option maxHeartbeats 4000000
namespace Go.Sp
open Go Go.Av
noncomputable def FG (vars : Int) : List (List Fo) → Int
 | [] => 0
 | p :: l => if Cn p vars true ≠ 0 then Cn p vars true else FG vars l
theorem JM (vars : Int) (l : List (List Fo)) (i : Nat) (h : i < l.length) : FG vars (l.drop i) = if Cn l[i] vars true ≠ 0 then Cn l[i] vars true else FG vars (l.drop (i + 1)) := by
 rw [ja h, FG]
theorem He (vars : Int) (l : List (List Fo)) (i : Nat) (h : l.length ≤ i) : FG vars (l.drop i) = 0 := by rw [List.drop_of_length_le h, FG]
noncomputable def CF (m : Md) (l : List (List Fo)) : Int := if AT m ≠ 0 then AT m else if 6 < l.length then 1 else FG m.vars.length l
def AR : List Vr → Int
 | [] => 1
 | v :: l => BL v * AR l
theorem FP : ∀ a b : List Vr, AR (a ++ b) = AR a * AR b
 | [], b => by simp [AR]
 | v :: a, b => by simp only [List.cons_append, AR, FP a b, Int.mul_assoc]
structure Jn (l : List Vr) : Prop where
 range : ∀ v ∈ l, Ed v
 span : ∀ v ∈ l, 1 ≤ BL v ∧ BL v ≤ 64
 all : AR l ≤ 4096
theorem Ec : ∀ {l : List Vr}, (∀ v ∈ l, 1 ≤ BL v) → 1 ≤ AR l
 | [], _ => by simp [AR]
 | v :: l, h => by
   have h1 := h v List.mem_cons_self
   have h2 := Ec fun w hw => h w (List.mem_cons_of_mem v hw)
   simp only [AR]
   exact Int.le_trans jB (Int.mul_le_mul h1 h2 jB jB)
theorem Jn.take {l : List Vr} (g : Jn l) (i : Nat) : 1 ≤ AR (l.take i) ∧ AR (l.take i) ≤ 4096 ∧ 1 ≤ AR (l.drop i) ∧ AR (l.drop i) ≤ 4096 := by
 have e : AR l = AR (l.take i) * AR (l.drop i) := by rw [← FP, List.take_append_drop]
 have h1 : 1 ≤ AR (l.take i) := Ec fun v hv => (g.span v (List.mem_of_mem_take hv)).1
 have h2 : 1 ≤ AR (l.drop i) := Ec fun v hv => (g.span v (List.mem_of_mem_drop hv)).1
 have h3 := g.all
 have h4 : AR (l.take i) * 1 ≤ AR (l.take i) * AR (l.drop i) := Int.mul_le_mul_of_nonneg_left h2 jB
 have h5 : 1 * AR (l.drop i) ≤ AR (l.take i) * AR (l.drop i) := Int.mul_le_mul_of_nonneg_right h1 jB
 omega
theorem ML : ∀ (l : List Vr) (seen : List ByteArray) (n : Int), 1 ≤ n → n ≤ 4096 → HB l seen n = 0 → (∀ v ∈ l, Ed v ∧ BL v ≤ 64) ∧ n * AR l ≤ 4096
 | [], _, n, _, h, _ => ⟨by simp, by simp [AR]; omega⟩
 | v :: l, seen, n, h1, h2, h => by
   rw [HB] at h
   by_cases c1 : ¬ Lv v.name
   · rw [if_pos c1] at h; cases h
   rw [if_neg c1] at h
   by_cases c2 : v.name ∈ seen
   · rw [if_pos c2] at h; cases h
   rw [if_neg c2] at h
   by_cases c3 : ¬ Ed v
   · rw [if_pos c3] at h; cases h
   rw [if_neg c3] at h
   by_cases c4 : 64 < BL v
   · rw [if_pos c4] at h; cases h
   rw [if_neg c4] at h
   by_cases c5 : 4096 < n * BL v
   · rw [if_pos c5] at h; cases h
   rw [if_neg c5] at h
   have hr := jY c3
   have hs : 1 ≤ BL v := by unfold BL; have := hr.2.2.1; omega
   have hp : 1 ≤ n * BL v := Int.le_trans jB (Int.mul_le_mul h1 hs jB jB)
   obtain ⟨i1, i2⟩ := ML l _ _ hp jB h
   refine ⟨fun w hw => ?_, ?_⟩
   · rcases List.mem_cons.1 hw with rfl | hw
     · exact ⟨hr, by omega⟩
     · exact i1 w hw
   · rw [AR, ← Int.mul_assoc]; exact i2
theorem IW {l : List Vr} (h : Dx l = 0) : Jn l := by
 unfold Dx at h
 by_cases c : 6 < l.length
 · rw [if_pos c] at h; cases h
 rw [if_neg c] at h
 obtain ⟨h1, h2⟩ := ML l [] 1 (by decide) (by decide) h
 exact ⟨fun v hv => (h1 v hv).1, fun v hv => ⟨by unfold BL; have := (h1 v hv).1.2.2.1; omega, (h1 v hv).2⟩, by simpa using h2⟩
theorem BM {m : Md} (h : AT m = 0) : Dx m.vars = 0 := by
 unfold AT at h
 by_cases c : Dx m.vars ≠ 0
 · rw [if_pos c] at h; exact absurd h c
 · omega
noncomputable def Dv (m : Md) : Int × Int := if AT m ≠ 0 then (0, AT m) else (AR m.vars, 0)
theorem FC (l : List Vr) (i : Nat) (h : i < l.length) : AR (l.take (i + 1)) = AR (l.take i) * BL l[i] := by
 rw [jZ h, FP]
 simp [AR]
def IJ (l : List Vr) (a k : Nat) : Int := AR ((l.drop a).take (k - a))
theorem VK (l : List Vr) (a k : Nat) (ha : a ≤ k) (h : k < l.length) : IJ l a (k + 1) = IJ l a k * BL l[k] := by
 unfold IJ
 rw [show k + 1 - a = (k - a) + 1 by omega, FC _ _ (by rw [List.length_drop]; omega)]
 congr 2
 rw [List.getElem_drop]
 congr 1
 omega
theorem Wk (l : List Vr) (a : Nat) : IJ l a l.length = AR (l.drop a) := by
 unfold IJ
 rw [List.take_of_length_le (by rw [List.length_drop]; omega)]
theorem Rx (l : List Vr) (a : Nat) : IJ l a a = 1 := by simp [IJ, AR]
theorem Jn.drop {l : List Vr} (g : Jn l) (a : Nat) : Jn (l.drop a) where
 range v hv := g.range v (List.mem_of_mem_drop hv)
 span v hv := g.span v (List.mem_of_mem_drop hv)
 all := (g.take a).2.2.2
theorem Jn.R {l : List Vr} (g : Jn l) (a k : Nat) : 1 ≤ IJ l a k ∧ IJ l a k ≤ 4096 := by
 have := (g.drop a).take (k - a)
 exact ⟨this.1, this.2.1⟩
end Go.Sp
namespace Go.Proofs.YtnlfhnbcdfdhgaaGreatDoor
open Go Go.Av Go.Sp
theorem Gu : Cal Tryz.prog 81 := Cal.of Tryz.func81 (by kernel_rfl) (by kernel_rfl)
theorem DT : Cal Tryz.prog 115 := Cal.of Tryz.func115 (by kernel_rfl) (by kernel_rfl)
theorem DK : Cal Tryz.prog 132 := Cal.of Tryz.func132 (by kernel_rfl) (by kernel_rfl)
theorem B4 : Cal Tryz.prog 158 := Cal.of Tryz.func158 (by kernel_rfl) (by kernel_rfl)
theorem BC : Cal Tryz.prog 112 := Cal.of Tryz.func112 (by kernel_rfl) (by kernel_rfl)
theorem dy (m : Md) (l : List (List Fo)) : ACr Tryz.prog GP 81 [mdA m, .d (Ar l)] (.int (CF m l)) := by
 refine AK (ts := [4]) Tryz.f81.ntmps Tryz.func81 rfl rfl rfl (by simp [Tryz.ntmps81]) fun W I => ?_
 by_cases c1 : AT m ≠ 0
 · repeat' (first | refine ca A9 (CW _) ?_ | refine ca CR (kind _ _ _) ?_ | exact jA | refine AF ?_ | refine two ?_ ?_ | refine AB fun c_ => ?_ | refine imp fun hc => ?_; try exact cx1 hc | refine all fun v_ => ?_)
   refine AI jE ?_
   ((with_reducible apply rq1); rfl; rfl)
   exact AA (by rw [CF, if_pos c1])
 by_cases c2 : 6 < l.length
 · repeat' (first | refine ca A9 (CW _) ?_ | refine ca CR (kind _ _ _) ?_ | exact jA | refine AF ?_ | refine two ?_ ?_ | refine AB fun c_ => ?_ | refine imp fun hc => ?_; try exact cx1 hc | refine all fun v_ => ?_)
   refine AI jE ?_
   ((with_reducible apply rq1); rfl; rfl)
   exact AA (by rw [CF, if_neg c1, if_pos c2])
 have hF : CF m l = FG m.vars.length l := by rw [CF, if_neg c1, if_neg c2]
 repeat' (first | refine ca A9 (CW _) ?_ | refine ca CR (kind _ _ _) ?_ | exact jA | refine AF ?_ | refine two ?_ ?_ | refine AB fun c_ => ?_ | refine imp fun hc => ?_; try exact cx1 hc | refine all fun v_ => ?_)
 refine AG (X := Nat) (fun i => [(2, .val (.pointer (some ⟨v_, 0, none⟩))), (17, .d (Ar l)), (18, .int l.length), (19, .int i)]) (fun _ => [.cells v_ 25 [.d (Au m.vars), .d (Ae m.rules)]]) (fun i => i ≤ l.length ∧ CF m l = FG m.vars.length (l.drop i)) (fun i => l.length - i) 0 ⟨Nat.zero_le _, hF⟩ (VS.of_le ?_) ?_
 · exact leD
 rintro i ⟨h1, h4⟩
 by_cases hi : ¬ i < l.length
 · rw [He _ _ i jB] at h4
   repeat' (first | refine ca A9 (CW _) ?_ | refine ca CR (kind _ _ _) ?_ | exact jA | refine AF ?_ | refine two ?_ ?_ | refine AB fun c_ => ?_ | refine imp fun hc => ?_; try exact cx1 hc | refine all fun v_ => ?_)
   refine AI jE ?_
   ((with_reducible apply rq1); rfl; rfl)
   exact AA (by rw [h4])
 replace hi := jY hi
 rw [JM _ _ i hi] at h4
 by_cases c3 : Cn l[i] m.vars.length true ≠ 0
 · rw [if_pos c3] at h4
   repeat' (first | refine ca A9 (CW _) ?_ | refine ca CR (kind _ _ _) ?_ | exact jA | refine AF ?_ | refine two ?_ ?_ | refine AB fun c_ => ?_ | refine imp fun hc => ?_; try exact cx1 hc | refine all fun v_ => ?_)
   refine AI jE ?_
   ((with_reducible apply rq1); rfl; rfl)
   exact AA (by rw [h4])
 rw [if_neg c3] at h4
 repeat' (first | refine ca A9 (CW _) ?_ | refine ca CR (kind _ _ _) ?_ | exact jA | refine AF ?_ | refine two ?_ ?_ | refine AB fun c_ => ?_ | refine imp fun hc => ?_; try exact cx1 hc | refine all fun v_ => ?_)
 refine ⟨i + 1, ⟨by omega, h4⟩, by omega, VS.take BF ?_⟩
 exact leD
theorem Mj (G : List (Nat × List D)) (m : Md) (l : List (List Fo)) : ACr Tryz.prog G 115 [mdA m, .d (Ar l)] (.int (CF m l)) := by
 refine AC.factI (f := O6) (xs := l) (.there .here) fun hlt => ?_
 refine AK (ts := [4]) Tryz.f115.ntmps Tryz.func115 rfl rfl rfl (by simp [Tryz.ntmps115]) fun W I => ?_
 by_cases c1 : AT m ≠ 0
 · repeat' (first | refine ca Aj (BH _ _) ?_ | refine ca Aa (BD _ _ _ _) ?_ | exact jA | refine AF ?_ | refine two ?_ ?_ | refine AB fun c_ => ?_ | refine imp fun hc => ?_; try exact cx1 hc | refine all fun v_ => ?_)
   refine AG (X := Nat × Int) (fun y => [(1, .d (Ar l)), (2, .val (.pointer (some ⟨v_, 0, none⟩))), (5, .int y.2), (6, .int y.1)]) (fun _ => [.cells v_ 25 [.d (Au m.vars), .d (Ae m.rules)]]) (fun y => y.1 ≤ l.length ∧ CF m l = (if y.2 ≠ 0 then y.2 else FG m.vars.length (l.drop y.1))) (fun y => l.length - y.1) (0, AT m) ⟨Nat.zero_le _, by rw [if_pos c1, CF, if_pos c1]⟩ (VS.of_le ?_) ?_
   · exact leD
   rintro ⟨i, e⟩ ⟨h1, h4⟩
   dsimp only at h1 h4 ⊢
   by_cases he : e ≠ 0
   · rw [if_pos he] at h4
     repeat' (first | refine ca Aj (BH _ _) ?_ | refine ca Aa (BD _ _ _ _) ?_ | exact jA | refine AF ?_ | refine two ?_ ?_ | refine AB fun c_ => ?_ | refine imp fun hc => ?_; try exact cx1 hc | refine all fun v_ => ?_)
     all_goals
      refine AI jE ?_
      ((with_reducible apply rq1); rfl; rfl)
      exact AA (by rw [h4])
   rw [if_neg he] at h4
   obtain rfl : e = 0 := jY he
   by_cases hi : ¬ i < l.length
   · rw [He _ _ i jB] at h4
     repeat' (first | refine ca Aj (BH _ _) ?_ | refine ca Aa (BD _ _ _ _) ?_ | exact jA | refine AF ?_ | refine two ?_ ?_ | refine AB fun c_ => ?_ | refine imp fun hc => ?_; try exact cx1 hc | refine all fun v_ => ?_)
     refine AI jE ?_
     ((with_reducible apply rq1); rfl; rfl)
     exact AA (by rw [h4])
   replace hi := jY hi
   rw [JM _ _ i hi] at h4
   repeat' (first | refine ca Aj (BH _ _) ?_ | refine ca Aa (BD _ _ _ _) ?_ | exact jA | refine AF ?_ | refine two ?_ ?_ | refine AB fun c_ => ?_ | refine imp fun hc => ?_; try exact cx1 hc | refine all fun v_ => ?_)
   refine ⟨(i + 1, Cn l[i] m.vars.length true), ⟨by dsimp only; omega, h4⟩, jC, VS.take AH ?_⟩
   exact leD
 by_cases c2 : 6 < l.length
 · repeat' (first | refine ca Aj (BH _ _) ?_ | refine ca Aa (BD _ _ _ _) ?_ | exact jA | refine AF ?_ | refine two ?_ ?_ | refine AB fun c_ => ?_ | refine imp fun hc => ?_; try exact cx1 hc | refine all fun v_ => ?_)
   refine AG (X := Nat × Int) (fun y => [(1, .d (Ar l)), (2, .val (.pointer (some ⟨v_, 0, none⟩))), (5, .int y.2), (6, .int y.1)]) (fun _ => [.cells v_ 25 [.d (Au m.vars), .d (Ae m.rules)]]) (fun y => y.1 ≤ l.length ∧ CF m l = (if y.2 ≠ 0 then y.2 else FG m.vars.length (l.drop y.1))) (fun y => l.length - y.1) (0, 1) ⟨Nat.zero_le _, by rw [if_pos (by decide), CF, if_neg c1, if_pos c2]⟩ (VS.of_le ?_) ?_
   · exact leD
   rintro ⟨i, e⟩ ⟨h1, h4⟩
   dsimp only at h1 h4 ⊢
   by_cases he : e ≠ 0
   · rw [if_pos he] at h4
     repeat' (first | refine ca Aj (BH _ _) ?_ | refine ca Aa (BD _ _ _ _) ?_ | exact jA | refine AF ?_ | refine two ?_ ?_ | refine AB fun c_ => ?_ | refine imp fun hc => ?_; try exact cx1 hc | refine all fun v_ => ?_)
     all_goals
      refine AI jE ?_
      ((with_reducible apply rq1); rfl; rfl)
      exact AA (by rw [h4])
   rw [if_neg he] at h4
   obtain rfl : e = 0 := jY he
   by_cases hi : ¬ i < l.length
   · rw [He _ _ i jB] at h4
     repeat' (first | refine ca Aj (BH _ _) ?_ | refine ca Aa (BD _ _ _ _) ?_ | exact jA | refine AF ?_ | refine two ?_ ?_ | refine AB fun c_ => ?_ | refine imp fun hc => ?_; try exact cx1 hc | refine all fun v_ => ?_)
     refine AI jE ?_
     ((with_reducible apply rq1); rfl; rfl)
     exact AA (by rw [h4])
   replace hi := jY hi
   rw [JM _ _ i hi] at h4
   repeat' (first | refine ca Aj (BH _ _) ?_ | refine ca Aa (BD _ _ _ _) ?_ | exact jA | refine AF ?_ | refine two ?_ ?_ | refine AB fun c_ => ?_ | refine imp fun hc => ?_; try exact cx1 hc | refine all fun v_ => ?_)
   refine ⟨(i + 1, Cn l[i] m.vars.length true), ⟨by dsimp only; omega, h4⟩, jC, VS.take AH ?_⟩
   exact leD
 repeat' (first | refine ca Aj (BH _ _) ?_ | refine ca Aa (BD _ _ _ _) ?_ | exact jA | refine AF ?_ | refine two ?_ ?_ | refine AB fun c_ => ?_ | refine imp fun hc => ?_; try exact cx1 hc | refine all fun v_ => ?_)
 refine AG (X := Nat × Int) (fun y => [(1, .d (Ar l)), (2, .val (.pointer (some ⟨v_, 0, none⟩))), (5, .int y.2), (6, .int y.1)]) (fun _ => [.cells v_ 25 [.d (Au m.vars), .d (Ae m.rules)]]) (fun y => y.1 ≤ l.length ∧ CF m l = (if y.2 ≠ 0 then y.2 else FG m.vars.length (l.drop y.1))) (fun y => l.length - y.1) (0, 0) ⟨Nat.zero_le _, by rw [if_neg (by decide), CF, if_neg c1, if_neg c2]; rfl⟩ (VS.of_le ?_) ?_
 · exact leD
 rintro ⟨i, e⟩ ⟨h1, h4⟩
 dsimp only at h1 h4 ⊢
 by_cases he : e ≠ 0
 · rw [if_pos he] at h4
   repeat' (first | refine ca Aj (BH _ _) ?_ | refine ca Aa (BD _ _ _ _) ?_ | exact jA | refine AF ?_ | refine two ?_ ?_ | refine AB fun c_ => ?_ | refine imp fun hc => ?_; try exact cx1 hc | refine all fun v_ => ?_)
   all_goals
    refine AI jE ?_
    ((with_reducible apply rq1); rfl; rfl)
    exact AA (by rw [h4])
 rw [if_neg he] at h4
 obtain rfl : e = 0 := jY he
 by_cases hi : ¬ i < l.length
 · rw [He _ _ i jB] at h4
   repeat' (first | refine ca Aj (BH _ _) ?_ | refine ca Aa (BD _ _ _ _) ?_ | exact jA | refine AF ?_ | refine two ?_ ?_ | refine AB fun c_ => ?_ | refine imp fun hc => ?_; try exact cx1 hc | refine all fun v_ => ?_)
   refine AI jE ?_
   ((with_reducible apply rq1); rfl; rfl)
   exact AA (by rw [h4])
 replace hi := jY hi
 rw [JM _ _ i hi] at h4
 repeat' (first | refine ca Aj (BH _ _) ?_ | refine ca Aa (BD _ _ _ _) ?_ | exact jA | refine AF ?_ | refine two ?_ ?_ | refine AB fun c_ => ?_ | refine imp fun hc => ?_; try exact cx1 hc | refine all fun v_ => ?_)
 refine ⟨(i + 1, Cn l[i] m.vars.length true), ⟨by dsimp only; omega, h4⟩, jC, VS.take AH ?_⟩
 exact leD
theorem Count (m : Md) : ACr Tryz.prog GP 132 [mdA m] (.tup [.int (Dv m).1, .int (Dv m).2]) := by
 refine AK (ts := [2, 3]) Tryz.f132.ntmps Tryz.func132 rfl rfl rfl (by simp [Tryz.ntmps132]) fun W I => ?_
 by_cases c1 : AT m ≠ 0
 · repeat' (first | refine ca A9 (CW _) ?_ | exact jA | refine AF ?_ | refine two ?_ ?_ | refine AB fun c_ => ?_ | refine imp fun hc => ?_; try exact cx1 hc | refine all fun v_ => ?_)
   refine AI jE ?_
   ((with_reducible apply rq2); rfl; rfl; rfl)
   exact AA (by rw [Dv, if_pos c1])
 have hv := BM (show AT m = 0 by omega)
 have g := IW hv
 have hl6 := DZ hv
 repeat' (first | refine ca A9 (CW _) ?_ | exact jA | refine AF ?_ | refine two ?_ ?_ | refine AB fun c_ => ?_ | refine imp fun hc => ?_; try exact cx1 hc | refine all fun v_ => ?_)
 refine AG (X := Nat) (fun i => [(5, .int (AR (m.vars.take i))), (14, .d (Au m.vars)), (15, .int m.vars.length), (16, .int i)]) (fun _ => []) (fun i => i ≤ m.vars.length) (fun i => m.vars.length - i) 0 (Nat.zero_le _) (VS.trans jE (VS.of_le ?_)) ?_
 · exact leD
 rintro i h1
 by_cases hi : ¬ i < m.vars.length
 · obtain rfl : i = m.vars.length := by omega
   repeat' (first | refine ca A9 (CW _) ?_ | exact jA | refine AF ?_ | refine two ?_ ?_ | refine AB fun c_ => ?_ | refine imp fun hc => ?_; try exact cx1 hc | refine all fun v_ => ?_)
   refine AI jE ?_
   ((with_reducible apply rq2); rfl; rfl; rfl)
   exact AA (by rw [Dv, if_neg c1, List.take_length])
 replace hi := jY hi
 have e := FC m.vars i hi
 have b1 := g.take i
 have b2 := g.take (i + 1)
 have b3 := g.range _ (jb hi)
 obtain ⟨d1, d2, d3, d4, d5⟩ := b3
 rw [e] at b2
 have hsp : BL m.vars[i] = m.vars[i].high - m.vars[i].low + 1 := rfl
 rw [hsp] at b2 e
 have hin : Ao (AR (m.vars.take i) * (m.vars[i].high - m.vars[i].low + 1)) := ⟨by omega, by omega⟩
 repeat' (first | refine ca A9 (CW _) ?_ | exact jA | refine AF ?_ | refine two ?_ ?_ | refine AB fun c_ => ?_ | refine imp fun hc => ?_; try exact cx1 hc | refine all fun v_ => ?_)
 refine ⟨i + 1, by omega, by omega, ?_⟩
 rw [e]
 refine VS.trans jE (VS.of_le ?_)
 exact leD
theorem LK (G : List (Nat × List D)) (m : Md) (g : Jn m.vars) (hl : m.vars.length ≤ 6) (a : Nat) (ha : a ≤ m.vars.length) (x : Int) (hx : x + 1 = a) : ACr Tryz.prog G 158 [mdA m, .int x] (.int (AR (m.vars.drop a))) := by
 refine AK (ts := [4]) Tryz.f158.ntmps Tryz.func158 rfl rfl rfl (by simp [Tryz.ntmps158]) fun W I => ?_
 repeat' (first | exact jA | refine AF ?_ | refine two ?_ ?_ | refine AB fun c_ => ?_ | refine imp fun hc => ?_; try exact cx1 hc | refine all fun v_ => ?_)
 refine AG (X := Nat) (fun k => [(2, .val (.pointer (some ⟨v_, 0, none⟩))), (5, .int (IJ m.vars a k)), (6, .int k)]) (fun _ => [.cells v_ 25 [.d (Au m.vars), .d (Ae m.rules)]]) (fun k => a ≤ k ∧ k ≤ m.vars.length) (fun k => m.vars.length - k) a ⟨Nat.le_refl _, ha⟩ ?_ ?_
 · rw [Rx]
   refine VS.of_le ?_
   exact leD
 rintro k ⟨h0, h1⟩
 by_cases hk : ¬ k < m.vars.length
 · obtain rfl : k = m.vars.length := by omega
   repeat' (first | exact jA | refine AF ?_ | refine two ?_ ?_ | refine AB fun c_ => ?_ | refine imp fun hc => ?_; try exact cx1 hc | refine all fun v_ => ?_)
   refine AI jE ?_
   ((with_reducible apply rq1); rfl; rfl)
   exact AA (by rw [Wk])
 replace hk := jY hk
 have e := VK m.vars a k h0 hk
 have b1 := g.R a k
 have b2 := g.R a (k + 1)
 obtain ⟨d1, d2, d3, d4, d5⟩ := g.range _ (jb hk)
 rw [e] at b2
 have hsp : BL m.vars[k] = m.vars[k].high - m.vars[k].low + 1 := rfl
 rw [hsp] at b2 e
 have hin : Ao (IJ m.vars a k * (m.vars[k].high - m.vars[k].low + 1)) := ⟨by omega, by omega⟩
 repeat' (first | exact jA | refine AF ?_ | refine two ?_ ?_ | refine AB fun c_ => ?_ | refine imp fun hc => ?_; try exact cx1 hc | refine all fun v_ => ?_)
 refine ⟨k + 1, ⟨by omega, by omega⟩, by omega, ?_⟩
 rw [e]
 refine VS.of_le ?_
 exact leD
theorem Jz (G : List (Nat × List D)) (m : Md) : ACr Tryz.prog G 112 [mdA m] (.tup [.int (Dv m).1, .int (Dv m).2]) := by
 refine AK (ts := [2, 3]) Tryz.f112.ntmps Tryz.func112 rfl rfl rfl (by simp [Tryz.ntmps112]) fun W I => ?_
 by_cases c1 : AT m ≠ 0
 · repeat' (first | refine ca Aj (BH _ _) ?_ | exact jA | refine AF ?_ | refine two ?_ ?_ | refine AB fun c_ => ?_ | refine imp fun hc => ?_; try exact cx1 hc | refine all fun v_ => ?_)
   refine AI jE ?_
   ((with_reducible apply rq2); rfl; rfl; rfl)
   exact AA (by rw [Dv, if_pos c1])
 have hv := BM (show AT m = 0 by omega)
 have E := LK G m (IW hv) (DZ hv) 0 (Nat.zero_le _) (-1) (by decide)
 repeat' (first | refine ca Aj (BH _ _) ?_ | refine ca B4 (E) ?_ | exact jA | refine AF ?_ | refine two ?_ ?_ | refine AB fun c_ => ?_ | refine imp fun hc => ?_; try exact cx1 hc | refine all fun v_ => ?_)
 refine AI jE ?_
 ((with_reducible apply rq2); rfl; rfl; rfl)
 exact AA (by rw [Dv, if_neg c1, List.drop_zero])
end Go.Proofs.YtnlfhnbcdfdhgaaGreatDoor
namespace Go.Sp
open Go Go.Av
def DO (n : Int) : List Vr → List Int → Int × Int
 | v :: l, x :: xs => if v.low ≤ x ∧ x ≤ v.high then DO (n * BL v + (x - v.low)) l xs else (0, 9)
 | _, _ => (n, 0)
def Jo (n : Int) : List Vr → List Int → Int × Int
 | v :: l, x :: xs => if v.low ≤ x ∧ x ≤ v.high then Jo (n + (x - v.low) * AR l) l xs else (0, 9)
 | _, _ => (n, 0)
theorem Su : ∀ (l : List Vr) (xs : List Int) (n : Int), xs.length = l.length → DO n l xs = Jo (n * AR l) l xs
 | [], [], n, _ => by simp [DO, Jo, AR]
 | [], _ :: _, _, h => by simp at h
 | _ :: _, [], _, h => by simp at h
 | v :: l, x :: xs, n, h => by
   simp only [DO, Jo]
   by_cases c : v.low ≤ x ∧ x ≤ v.high
   · rw [if_pos c, if_pos c, Su l xs _ (by simpa using h), AR, Int.add_mul, Int.mul_assoc]
   · rw [if_neg c, if_neg c]
theorem bA (n : Int) (l : List Vr) (xs : List Int) (i : Nat) (h : i < l.length) (h' : i < xs.length) : DO n (l.drop i) (xs.drop i) = if l[i].low ≤ xs[i] ∧ xs[i] ≤ l[i].high then DO (n * BL l[i] + (xs[i] - l[i].low)) (l.drop (i + 1)) (xs.drop (i + 1)) else (0, 9) := by
 rw [ja h, ja h', DO]
theorem X8 (n : Int) (l : List Vr) (xs : List Int) (i : Nat) (h : i < l.length) (h' : i < xs.length) : Jo n (l.drop i) (xs.drop i) = if l[i].low ≤ xs[i] ∧ xs[i] ≤ l[i].high then Jo (n + (xs[i] - l[i].low) * AR (l.drop (i + 1))) (l.drop (i + 1)) (xs.drop (i + 1)) else (0, 9) := by
 rw [ja h, ja h', Jo]
theorem WO (n : Int) (l : List Vr) (xs : List Int) (i : Nat) (h : l.length ≤ i) : DO n (l.drop i) (xs.drop i) = (n, 0) := by rw [List.drop_of_length_le h]; cases xs.drop i <;> rfl
theorem Wq (n : Int) (l : List Vr) (xs : List Int) (i : Nat) (h : l.length ≤ i) : Jo n (l.drop i) (xs.drop i) = (n, 0) := by rw [List.drop_of_length_le h]; cases xs.drop i <;> rfl
noncomputable def codeF (m : Md) (xs : List Int) : Int × Int := if AT m ≠ 0 then (0, AT m) else if xs.length ≠ m.vars.length then (0, 9) else DO 0 m.vars xs
theorem dG (m : Md) (xs : List Int) (h : AT m = 0) (h' : xs.length = m.vars.length) : codeF m xs = Jo 0 m.vars xs := by
 rw [codeF, if_neg jB, if_neg jB, Su _ _ _ h', Int.zero_mul]
theorem KD (l : List Vr) (i : Nat) (h : i < l.length) : AR (l.drop i) = BL l[i] * AR (l.drop (i + 1)) := by
 rw [ja h, AR]
theorem Lk {n p s d : Int} (h0 : 0 ≤ n) (h1 : n + 1 ≤ p) (hd0 : 0 ≤ d) (hd : d < s) : 0 ≤ n * s ∧ 0 ≤ n * s + d ∧ n * s + d + 1 ≤ p * s := by
 have a1 : 0 ≤ n * s := Int.mul_nonneg h0 jB
 have a2 : (n + 1) * s ≤ p * s := Int.mul_le_mul_of_nonneg_right h1 jB
 rw [Int.add_mul, Int.one_mul] at a2
 omega
theorem bX {n p q s d : Int} (h0 : 0 ≤ n) (h1 : n + s * q ≤ p) (hq : 1 ≤ q) (hd0 : 0 ≤ d) (hd : d < s) : 0 ≤ d * q ∧ 0 ≤ n + d * q ∧ n + d * q + q ≤ p := by
 have a1 : 0 ≤ d * q := Int.mul_nonneg hd0 jB
 have a2 : (d + 1) * q ≤ s * q := Int.mul_le_mul_of_nonneg_right jB jB
 rw [Int.add_mul, Int.one_mul] at a2
 omega
end Go.Sp
