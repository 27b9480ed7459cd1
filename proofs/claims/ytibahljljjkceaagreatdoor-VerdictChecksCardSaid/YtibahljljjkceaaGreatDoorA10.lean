/- A bundle of this claim's own texts: G4 M5. -/
import Derived.Test.YtibahljljjkceaaGreatDoorA5
import Derived.Test.YtibahljljjkceaaGreatDoorA9
set_option linter.unusedVariables false
set_option linter.unusedSimpArgs false
set_option maxRecDepth 100000
set_option maxHeartbeats 4000000
namespace Go.Sp
open Go Go.Av

noncomputable def Eb (vars : Int) : List (List Fo) → Int
 | [] => 0
 | p :: l => if Ca p vars true ≠ 0 then Ca p vars true else Eb vars l
theorem Hx (vars : Int) (l : List (List Fo)) (i : Nat) (h : i < l.length) : Eb vars (l.drop i) = if Ca l[i] vars true ≠ 0 then Ca l[i] vars true else Eb vars (l.drop (i + 1)) := by
 rw [List.drop_eq_getElem_cons h, Eb]
theorem Gx (vars : Int) (l : List (List Fo)) (i : Nat) (h : l.length ≤ i) : Eb vars (l.drop i) = 0 := by rw [List.drop_of_length_le h, Eb]
noncomputable def B3 (m : Md) (l : List (List Fo)) : Int := if AU m ≠ 0 then AU m else if 6 < l.length then 1 else Eb m.vars.length l

def AS : List Vr → Int
 | [] => 1
 | v :: l => BJ v * AS l
theorem Es : ∀ a b : List Vr, AS (a ++ b) = AS a * AS b
 | [], b => by simp [AS]
 | v :: a, b => by simp only [List.cons_append, AS, Es a b, Int.mul_assoc]
structure IC (l : List Vr) : Prop where
 range : ∀ v ∈ l, EA v
 span : ∀ v ∈ l, 1 ≤ BJ v ∧ BJ v ≤ 64
 all : AS l ≤ 4096
theorem EK : ∀ {l : List Vr}, (∀ v ∈ l, 1 ≤ BJ v) → 1 ≤ AS l
 | [], _ => by simp [AS]
 | v :: l, h => by
   have h1 := h v List.mem_cons_self
   have h2 := EK fun w hw => h w (List.mem_cons_of_mem v hw)
   simp only [AS]
   exact Int.le_trans (by omega) (Int.mul_le_mul h1 h2 (by omega) (by omega))
theorem IC.take {l : List Vr} (g : IC l) (i : Nat) : 1 ≤ AS (l.take i) ∧ AS (l.take i) ≤ 4096 ∧ 1 ≤ AS (l.drop i) ∧ AS (l.drop i) ≤ 4096 := by
 have e : AS l = AS (l.take i) * AS (l.drop i) := by rw [← Es, List.take_append_drop]
 have h1 : 1 ≤ AS (l.take i) := EK fun v hv => (g.span v (List.mem_of_mem_take hv)).1
 have h2 : 1 ≤ AS (l.drop i) := EK fun v hv => (g.span v (List.mem_of_mem_drop hv)).1
 have h3 := g.all
 have h4 : AS (l.take i) * 1 ≤ AS (l.take i) * AS (l.drop i) := Int.mul_le_mul_of_nonneg_left h2 (by omega)
 have h5 : 1 * AS (l.drop i) ≤ AS (l.take i) * AS (l.drop i) := Int.mul_le_mul_of_nonneg_right h1 (by omega)
 omega
theorem Lb : ∀ (l : List Vr) (seen : List ByteArray) (n : Int), 1 ≤ n → n ≤ 4096 → GW l seen n = 0 → (∀ v ∈ l, EA v ∧ BJ v ≤ 64) ∧ n * AS l ≤ 4096
 | [], _, n, _, h, _ => ⟨by simp, by simp [AS]; omega⟩
 | v :: l, seen, n, h1, h2, h => by
   rw [GW] at h
   by_cases c1 : ¬ KO v.name
   · rw [if_pos c1] at h; cases h
   rw [if_neg c1] at h
   by_cases c2 : v.name ∈ seen
   · rw [if_pos c2] at h; cases h
   rw [if_neg c2] at h
   by_cases c3 : ¬ EA v
   · rw [if_pos c3] at h; cases h
   rw [if_neg c3] at h
   by_cases c4 : 64 < BJ v
   · rw [if_pos c4] at h; cases h
   rw [if_neg c4] at h
   by_cases c5 : 4096 < n * BJ v
   · rw [if_pos c5] at h; cases h
   rw [if_neg c5] at h
   have hr := Decidable.not_not.1 c3
   have hs : 1 ≤ BJ v := by unfold BJ; have := hr.2.2.1; omega
   have hp : 1 ≤ n * BJ v := Int.le_trans (by omega) (Int.mul_le_mul h1 hs (by omega) (by omega))
   obtain ⟨i1, i2⟩ := Lb l _ _ hp (by omega) h
   refine ⟨fun w hw => ?_, ?_⟩
   · rcases List.mem_cons.1 hw with rfl | hw
     · exact ⟨hr, by omega⟩
     · exact i1 w hw
   · rw [AS, ← Int.mul_assoc]; exact i2
theorem Hk {l : List Vr} (h : Dp l = 0) : IC l := by
 unfold Dp at h
 by_cases c : 6 < l.length
 · rw [if_pos c] at h; cases h
 rw [if_neg c] at h
 obtain ⟨h1, h2⟩ := Lb l [] 1 (by decide) (by decide) h
 exact ⟨fun v hv => (h1 v hv).1, fun v hv => ⟨by unfold BJ; have := (h1 v hv).1.2.2.1; omega, (h1 v hv).2⟩, by simpa using h2⟩
theorem BM {m : Md} (h : AU m = 0) : Dp m.vars = 0 := by
 unfold AU at h
 by_cases c : Dp m.vars ≠ 0
 · rw [if_pos c] at h; exact absurd h c
 · omega
noncomputable def DX (m : Md) : Int × Int := if AU m ≠ 0 then (0, AU m) else (AS m.vars, 0)
theorem Ef (l : List Vr) (i : Nat) (h : i < l.length) : AS (l.take (i + 1)) = AS (l.take i) * BJ l[i] := by
 rw [List.take_succ_eq_append_getElem h, Es]
 simp [AS]
def HW (l : List Vr) (a k : Nat) : Int := AS ((l.drop a).take (k - a))
theorem RG (l : List Vr) (a k : Nat) (ha : a ≤ k) (h : k < l.length) : HW l a (k + 1) = HW l a k * BJ l[k] := by
 unfold HW
 rw [show k + 1 - a = (k - a) + 1 by omega, Ef _ _ (by rw [List.length_drop]; omega)]
 congr 2
 rw [List.getElem_drop]
 congr 1
 omega
theorem Tm (l : List Vr) (a : Nat) : HW l a l.length = AS (l.drop a) := by
 unfold HW
 rw [List.take_of_length_le (by rw [List.length_drop]; omega)]
theorem QW (l : List Vr) (a : Nat) : HW l a a = 1 := by simp [HW, AS]
theorem IC.drop {l : List Vr} (g : IC l) (a : Nat) : IC (l.drop a) where
 range v hv := g.range v (List.mem_of_mem_drop hv)
 span v hv := g.span v (List.mem_of_mem_drop hv)
 all := (g.take a).2.2.2
theorem IC.R {l : List Vr} (g : IC l) (a k : Nat) : 1 ≤ HW l a k ∧ HW l a k ≤ 4096 := by
 have := (g.drop a).take (k - a)
 exact ⟨this.1, this.2.1⟩
end Go.Sp
namespace Go.Proofs.YtibahljljjkceaaGreatDoor
open Go Go.Av Go.Sp

theorem GS : Cal Tryz.prog 103 := Cal.of Tryz.func103 (by kernel_rfl) (by kernel_rfl)
theorem DE : Cal Tryz.prog 80 := Cal.of Tryz.func80 (by kernel_rfl) (by kernel_rfl)
theorem C0 : Cal Tryz.prog 149 := Cal.of Tryz.func149 (by kernel_rfl) (by kernel_rfl)
theorem Bu : Cal Tryz.prog 77 := Cal.of Tryz.func77 (by kernel_rfl) (by kernel_rfl)
theorem A1 : Cal Tryz.prog 38 := Cal.of Tryz.func38 (by kernel_rfl) (by kernel_rfl)
theorem Yg (m : Md) (l : List (List Fo)) : ACr Tryz.prog GP 103 [mdA m, .d (Aw l)] (.int (B3 m l)) := by
 refine AN (ts := [4]) Tryz.f103.ntmps Tryz.func103 rfl rfl rfl (by simp [Tryz.ntmps103]) fun W I => ?_
 by_cases c1 : AU m ≠ 0
 · repeat' (first
    | refine ca A8 (CT _) ?_
    | refine ca CH (kind _ _ _) ?_
    | exact True.intro | refine AD ?_ | refine two ?_ ?_ | refine AB fun c_ => ?_
    | (refine imp fun hc => ?_) <;> try exact cx1 hc
    | refine all fun v_ => ?_)
   refine AH (VS.drop (List.nil_sublist _)) ?_
   ((with_reducible apply rq1); rfl; rfl)
   exact AA (by rw [B3, if_pos c1])
 by_cases c2 : 6 < l.length
 · repeat' (first
    | refine ca A8 (CT _) ?_
    | refine ca CH (kind _ _ _) ?_
    | exact True.intro | refine AD ?_ | refine two ?_ ?_ | refine AB fun c_ => ?_
    | (refine imp fun hc => ?_) <;> try exact cx1 hc
    | refine all fun v_ => ?_)
   refine AH (VS.drop (List.nil_sublist _)) ?_
   ((with_reducible apply rq1); rfl; rfl)
   exact AA (by rw [B3, if_neg c1, if_pos c2])
 have hF : B3 m l = Eb m.vars.length l := by rw [B3, if_neg c1, if_neg c2]
 repeat' (first
  | refine ca A8 (CT _) ?_
  | refine ca CH (kind _ _ _) ?_
  | exact True.intro | refine AD ?_ | refine two ?_ ?_ | refine AB fun c_ => ?_
  | (refine imp fun hc => ?_) <;> try exact cx1 hc
  | refine all fun v_ => ?_)
 refine AG (X := Nat) (fun i => [(2, .val (.pointer (some ⟨v_, 0, none⟩))), (17, .d (Aw l)), (18, .int l.length), (19, .int i)]) (fun _ => [.cells v_ 25 [.d (Aq m.vars), .d (Ad m.rules)]]) (fun i => i ≤ l.length ∧ B3 m l = Eb m.vars.length (l.drop i)) (fun i => l.length - i) 0 ⟨Nat.zero_le _, hF⟩ (VS.of_le ?_) ?_
 · exact leD
 rintro i ⟨h1, h4⟩
 by_cases hi : ¬ i < l.length
 · rw [Gx _ _ i (by omega)] at h4
   repeat' (first
    | refine ca A8 (CT _) ?_
    | refine ca CH (kind _ _ _) ?_
    | exact True.intro | refine AD ?_ | refine two ?_ ?_ | refine AB fun c_ => ?_
    | (refine imp fun hc => ?_) <;> try exact cx1 hc
    | refine all fun v_ => ?_)
   refine AH (VS.drop (List.nil_sublist _)) ?_
   ((with_reducible apply rq1); rfl; rfl)
   exact AA (by rw [h4])
 replace hi := Decidable.not_not.1 hi
 rw [Hx _ _ i hi] at h4
 by_cases c3 : Ca l[i] m.vars.length true ≠ 0
 · rw [if_pos c3] at h4
   repeat' (first
    | refine ca A8 (CT _) ?_
    | refine ca CH (kind _ _ _) ?_
    | exact True.intro | refine AD ?_ | refine two ?_ ?_ | refine AB fun c_ => ?_
    | (refine imp fun hc => ?_) <;> try exact cx1 hc
    | refine all fun v_ => ?_)
   refine AH (VS.drop (List.nil_sublist _)) ?_
   ((with_reducible apply rq1); rfl; rfl)
   exact AA (by rw [h4])
 rw [if_neg c3] at h4
 repeat' (first
  | refine ca A8 (CT _) ?_
  | refine ca CH (kind _ _ _) ?_
  | exact True.intro | refine AD ?_ | refine two ?_ ?_ | refine AB fun c_ => ?_
  | (refine imp fun hc => ?_) <;> try exact cx1 hc
  | refine all fun v_ => ?_)
 refine ⟨i + 1, ⟨by omega, h4⟩, by omega, VS.take (by exact Ap) ?_⟩
 exact leD
theorem Lg (G : List (Nat × List D)) (m : Md) (l : List (List Fo)) : ACr Tryz.prog G 80 [mdA m, .d (Aw l)] (.int (B3 m l)) := by
 refine AC.factI (f := Mf) (xs := l) (.there .here) fun hlt => ?_
 refine AN (ts := [4]) Tryz.f80.ntmps Tryz.func80 rfl rfl rfl (by simp [Tryz.ntmps80]) fun W I => ?_
 by_cases c1 : AU m ≠ 0
 · repeat' (first
    | refine ca Ak (BG _ _) ?_
    | refine ca Ac (BC _ _ _ _) ?_
    | exact True.intro | refine AD ?_ | refine two ?_ ?_ | refine AB fun c_ => ?_
    | (refine imp fun hc => ?_) <;> try exact cx1 hc
    | refine all fun v_ => ?_)
   refine AG (X := Nat × Int) (fun y => [(1, .d (Aw l)), (2, .val (.pointer (some ⟨v_, 0, none⟩))), (5, .int y.2), (6, .int y.1)]) (fun _ => [.cells v_ 25 [.d (Aq m.vars), .d (Ad m.rules)]]) (fun y => y.1 ≤ l.length ∧ B3 m l = (if y.2 ≠ 0 then y.2 else Eb m.vars.length (l.drop y.1))) (fun y => l.length - y.1) (0, AU m) ⟨Nat.zero_le _, by rw [if_pos c1, B3, if_pos c1]⟩ (VS.of_le ?_) ?_
   · exact leD
   rintro ⟨i, e⟩ ⟨h1, h4⟩
   dsimp only at h1 h4 ⊢
   by_cases he : e ≠ 0
   · rw [if_pos he] at h4
     repeat' (first
      | refine ca Ak (BG _ _) ?_
      | refine ca Ac (BC _ _ _ _) ?_
      | exact True.intro | refine AD ?_ | refine two ?_ ?_ | refine AB fun c_ => ?_
      | (refine imp fun hc => ?_) <;> try exact cx1 hc
      | refine all fun v_ => ?_)
     all_goals
      refine AH (VS.drop (List.nil_sublist _)) ?_
      ((with_reducible apply rq1); rfl; rfl)
      exact AA (by rw [h4])
   rw [if_neg he] at h4
   obtain rfl : e = 0 := Decidable.not_not.1 he
   by_cases hi : ¬ i < l.length
   · rw [Gx _ _ i (by omega)] at h4
     repeat' (first
      | refine ca Ak (BG _ _) ?_
      | refine ca Ac (BC _ _ _ _) ?_
      | exact True.intro | refine AD ?_ | refine two ?_ ?_ | refine AB fun c_ => ?_
      | (refine imp fun hc => ?_) <;> try exact cx1 hc
      | refine all fun v_ => ?_)
     refine AH (VS.drop (List.nil_sublist _)) ?_
     ((with_reducible apply rq1); rfl; rfl)
     exact AA (by rw [h4])
   replace hi := Decidable.not_not.1 hi
   rw [Hx _ _ i hi] at h4
   repeat' (first
    | refine ca Ak (BG _ _) ?_
    | refine ca Ac (BC _ _ _ _) ?_
    | exact True.intro | refine AD ?_ | refine two ?_ ?_ | refine AB fun c_ => ?_
    | (refine imp fun hc => ?_) <;> try exact cx1 hc
    | refine all fun v_ => ?_)
   refine ⟨(i + 1, Ca l[i] m.vars.length true), ⟨by dsimp only; omega, h4⟩, by dsimp only; omega, VS.take (by exact AI) ?_⟩
   exact leD
 by_cases c2 : 6 < l.length
 · repeat' (first
    | refine ca Ak (BG _ _) ?_
    | refine ca Ac (BC _ _ _ _) ?_
    | exact True.intro | refine AD ?_ | refine two ?_ ?_ | refine AB fun c_ => ?_
    | (refine imp fun hc => ?_) <;> try exact cx1 hc
    | refine all fun v_ => ?_)
   refine AG (X := Nat × Int) (fun y => [(1, .d (Aw l)), (2, .val (.pointer (some ⟨v_, 0, none⟩))), (5, .int y.2), (6, .int y.1)]) (fun _ => [.cells v_ 25 [.d (Aq m.vars), .d (Ad m.rules)]]) (fun y => y.1 ≤ l.length ∧ B3 m l = (if y.2 ≠ 0 then y.2 else Eb m.vars.length (l.drop y.1))) (fun y => l.length - y.1) (0, 1) ⟨Nat.zero_le _, by rw [if_pos (by decide), B3, if_neg c1, if_pos c2]⟩ (VS.of_le ?_) ?_
   · exact leD
   rintro ⟨i, e⟩ ⟨h1, h4⟩
   dsimp only at h1 h4 ⊢
   by_cases he : e ≠ 0
   · rw [if_pos he] at h4
     repeat' (first
      | refine ca Ak (BG _ _) ?_
      | refine ca Ac (BC _ _ _ _) ?_
      | exact True.intro | refine AD ?_ | refine two ?_ ?_ | refine AB fun c_ => ?_
      | (refine imp fun hc => ?_) <;> try exact cx1 hc
      | refine all fun v_ => ?_)
     all_goals
      refine AH (VS.drop (List.nil_sublist _)) ?_
      ((with_reducible apply rq1); rfl; rfl)
      exact AA (by rw [h4])
   rw [if_neg he] at h4
   obtain rfl : e = 0 := Decidable.not_not.1 he
   by_cases hi : ¬ i < l.length
   · rw [Gx _ _ i (by omega)] at h4
     repeat' (first
      | refine ca Ak (BG _ _) ?_
      | refine ca Ac (BC _ _ _ _) ?_
      | exact True.intro | refine AD ?_ | refine two ?_ ?_ | refine AB fun c_ => ?_
      | (refine imp fun hc => ?_) <;> try exact cx1 hc
      | refine all fun v_ => ?_)
     refine AH (VS.drop (List.nil_sublist _)) ?_
     ((with_reducible apply rq1); rfl; rfl)
     exact AA (by rw [h4])
   replace hi := Decidable.not_not.1 hi
   rw [Hx _ _ i hi] at h4
   repeat' (first
    | refine ca Ak (BG _ _) ?_
    | refine ca Ac (BC _ _ _ _) ?_
    | exact True.intro | refine AD ?_ | refine two ?_ ?_ | refine AB fun c_ => ?_
    | (refine imp fun hc => ?_) <;> try exact cx1 hc
    | refine all fun v_ => ?_)
   refine ⟨(i + 1, Ca l[i] m.vars.length true), ⟨by dsimp only; omega, h4⟩, by dsimp only; omega, VS.take (by exact AI) ?_⟩
   exact leD
 repeat' (first
  | refine ca Ak (BG _ _) ?_
  | refine ca Ac (BC _ _ _ _) ?_
  | exact True.intro | refine AD ?_ | refine two ?_ ?_ | refine AB fun c_ => ?_
  | (refine imp fun hc => ?_) <;> try exact cx1 hc
  | refine all fun v_ => ?_)
 refine AG (X := Nat × Int) (fun y => [(1, .d (Aw l)), (2, .val (.pointer (some ⟨v_, 0, none⟩))), (5, .int y.2), (6, .int y.1)]) (fun _ => [.cells v_ 25 [.d (Aq m.vars), .d (Ad m.rules)]]) (fun y => y.1 ≤ l.length ∧ B3 m l = (if y.2 ≠ 0 then y.2 else Eb m.vars.length (l.drop y.1))) (fun y => l.length - y.1) (0, 0) ⟨Nat.zero_le _, by rw [if_neg (by decide), B3, if_neg c1, if_neg c2]; rfl⟩ (VS.of_le ?_) ?_
 · exact leD
 rintro ⟨i, e⟩ ⟨h1, h4⟩
 dsimp only at h1 h4 ⊢
 by_cases he : e ≠ 0
 · rw [if_pos he] at h4
   repeat' (first
    | refine ca Ak (BG _ _) ?_
    | refine ca Ac (BC _ _ _ _) ?_
    | exact True.intro | refine AD ?_ | refine two ?_ ?_ | refine AB fun c_ => ?_
    | (refine imp fun hc => ?_) <;> try exact cx1 hc
    | refine all fun v_ => ?_)
   all_goals
    refine AH (VS.drop (List.nil_sublist _)) ?_
    ((with_reducible apply rq1); rfl; rfl)
    exact AA (by rw [h4])
 rw [if_neg he] at h4
 obtain rfl : e = 0 := Decidable.not_not.1 he
 by_cases hi : ¬ i < l.length
 · rw [Gx _ _ i (by omega)] at h4
   repeat' (first
    | refine ca Ak (BG _ _) ?_
    | refine ca Ac (BC _ _ _ _) ?_
    | exact True.intro | refine AD ?_ | refine two ?_ ?_ | refine AB fun c_ => ?_
    | (refine imp fun hc => ?_) <;> try exact cx1 hc
    | refine all fun v_ => ?_)
   refine AH (VS.drop (List.nil_sublist _)) ?_
   ((with_reducible apply rq1); rfl; rfl)
   exact AA (by rw [h4])
 replace hi := Decidable.not_not.1 hi
 rw [Hx _ _ i hi] at h4
 repeat' (first
  | refine ca Ak (BG _ _) ?_
  | refine ca Ac (BC _ _ _ _) ?_
  | exact True.intro | refine AD ?_ | refine two ?_ ?_ | refine AB fun c_ => ?_
  | (refine imp fun hc => ?_) <;> try exact cx1 hc
  | refine all fun v_ => ?_)
 refine ⟨(i + 1, Ca l[i] m.vars.length true), ⟨by dsimp only; omega, h4⟩, by dsimp only; omega, VS.take (by exact AI) ?_⟩
 exact leD
theorem Count (m : Md) : ACr Tryz.prog GP 149 [mdA m] (.tup [.int (DX m).1, .int (DX m).2]) := by
 refine AN (ts := [2, 3]) Tryz.f149.ntmps Tryz.func149 rfl rfl rfl (by simp [Tryz.ntmps149]) fun W I => ?_
 by_cases c1 : AU m ≠ 0
 · repeat' (first
    | refine ca A8 (CT _) ?_
    | exact True.intro | refine AD ?_ | refine two ?_ ?_ | refine AB fun c_ => ?_
    | (refine imp fun hc => ?_) <;> try exact cx1 hc
    | refine all fun v_ => ?_)
   refine AH (VS.drop (List.nil_sublist _)) ?_
   ((with_reducible apply rq2); rfl; rfl; rfl)
   exact AA (by rw [DX, if_pos c1])
 have hv := BM (show AU m = 0 by omega)
 have g := Hk hv
 have hl6 := DQ hv
 repeat' (first
  | refine ca A8 (CT _) ?_
  | exact True.intro | refine AD ?_ | refine two ?_ ?_ | refine AB fun c_ => ?_
  | (refine imp fun hc => ?_) <;> try exact cx1 hc
  | refine all fun v_ => ?_)
 refine AG (X := Nat) (fun i => [(5, .int (AS (m.vars.take i))), (14, .d (Aq m.vars)), (15, .int m.vars.length), (16, .int i)]) (fun _ => []) (fun i => i ≤ m.vars.length) (fun i => m.vars.length - i) 0 (Nat.zero_le _) (VS.trans (VS.drop (List.nil_sublist _)) (VS.of_le ?_)) ?_
 · exact leD
 rintro i h1
 by_cases hi : ¬ i < m.vars.length
 · obtain rfl : i = m.vars.length := by omega
   repeat' (first
    | refine ca A8 (CT _) ?_
    | exact True.intro | refine AD ?_ | refine two ?_ ?_ | refine AB fun c_ => ?_
    | (refine imp fun hc => ?_) <;> try exact cx1 hc
    | refine all fun v_ => ?_)
   refine AH (VS.drop (List.nil_sublist _)) ?_
   ((with_reducible apply rq2); rfl; rfl; rfl)
   exact AA (by rw [DX, if_neg c1, List.take_length])
 replace hi := Decidable.not_not.1 hi
 have e := Ef m.vars i hi
 have b1 := g.take i
 have b2 := g.take (i + 1)
 have b3 := g.range _ (List.getElem_mem hi)
 obtain ⟨d1, d2, d3, d4, d5⟩ := b3
 rw [e] at b2
 have hsp : BJ m.vars[i] = m.vars[i].high - m.vars[i].low + 1 := rfl
 rw [hsp] at b2 e
 have hin : A9 (AS (m.vars.take i) * (m.vars[i].high - m.vars[i].low + 1)) := ⟨by omega, by omega⟩
 repeat' (first
  | refine ca A8 (CT _) ?_
  | exact True.intro | refine AD ?_ | refine two ?_ ?_ | refine AB fun c_ => ?_
  | (refine imp fun hc => ?_) <;> try exact cx1 hc
  | refine all fun v_ => ?_)
 refine ⟨i + 1, by omega, by omega, ?_⟩
 rw [e]
 refine VS.trans (VS.drop (List.nil_sublist _)) (VS.of_le ?_)
 exact leD
theorem Ju (G : List (Nat × List D)) (m : Md) (g : IC m.vars) (hl : m.vars.length ≤ 6) (a : Nat) (ha : a ≤ m.vars.length) (x : Int) (hx : x + 1 = a) : ACr Tryz.prog G 77 [mdA m, .int x] (.int (AS (m.vars.drop a))) := by
 refine AN (ts := [4]) Tryz.f77.ntmps Tryz.func77 rfl rfl rfl (by simp [Tryz.ntmps77]) fun W I => ?_
 repeat' (first
  | exact True.intro | refine AD ?_ | refine two ?_ ?_ | refine AB fun c_ => ?_
  | (refine imp fun hc => ?_) <;> try exact cx1 hc
  | refine all fun v_ => ?_)
 refine AG (X := Nat) (fun k => [(2, .val (.pointer (some ⟨v_, 0, none⟩))), (5, .int (HW m.vars a k)), (6, .int k)]) (fun _ => [.cells v_ 25 [.d (Aq m.vars), .d (Ad m.rules)]]) (fun k => a ≤ k ∧ k ≤ m.vars.length) (fun k => m.vars.length - k) a ⟨Nat.le_refl _, ha⟩ ?_ ?_
 · rw [QW]
   refine VS.of_le ?_
   exact leD
 rintro k ⟨h0, h1⟩
 by_cases hk : ¬ k < m.vars.length
 · obtain rfl : k = m.vars.length := by omega
   repeat' (first
    | exact True.intro | refine AD ?_ | refine two ?_ ?_ | refine AB fun c_ => ?_
    | (refine imp fun hc => ?_) <;> try exact cx1 hc
    | refine all fun v_ => ?_)
   refine AH (VS.drop (List.nil_sublist _)) ?_
   ((with_reducible apply rq1); rfl; rfl)
   exact AA (by rw [Tm])
 replace hk := Decidable.not_not.1 hk
 have e := RG m.vars a k h0 hk
 have b1 := g.R a k
 have b2 := g.R a (k + 1)
 obtain ⟨d1, d2, d3, d4, d5⟩ := g.range _ (List.getElem_mem hk)
 rw [e] at b2
 have hsp : BJ m.vars[k] = m.vars[k].high - m.vars[k].low + 1 := rfl
 rw [hsp] at b2 e
 have hin : A9 (HW m.vars a k * (m.vars[k].high - m.vars[k].low + 1)) := ⟨by omega, by omega⟩
 repeat' (first
  | exact True.intro | refine AD ?_ | refine two ?_ ?_ | refine AB fun c_ => ?_
  | (refine imp fun hc => ?_) <;> try exact cx1 hc
  | refine all fun v_ => ?_)
 refine ⟨k + 1, ⟨by omega, by omega⟩, by omega, ?_⟩
 rw [e]
 refine VS.of_le ?_
 exact leD
theorem Gi (G : List (Nat × List D)) (m : Md) : ACr Tryz.prog G 38 [mdA m] (.tup [.int (DX m).1, .int (DX m).2]) := by
 refine AN (ts := [2, 3]) Tryz.f38.ntmps Tryz.func38 rfl rfl rfl (by simp [Tryz.ntmps38]) fun W I => ?_
 by_cases c1 : AU m ≠ 0
 · repeat' (first
    | refine ca Ak (BG _ _) ?_
    | exact True.intro | refine AD ?_ | refine two ?_ ?_ | refine AB fun c_ => ?_
    | (refine imp fun hc => ?_) <;> try exact cx1 hc
    | refine all fun v_ => ?_)
   refine AH (VS.drop (List.nil_sublist _)) ?_
   ((with_reducible apply rq2); rfl; rfl; rfl)
   exact AA (by rw [DX, if_pos c1])
 have hv := BM (show AU m = 0 by omega)
 have E := Ju G m (Hk hv) (DQ hv) 0 (Nat.zero_le _) (-1) (by decide)
 repeat' (first
  | refine ca Ak (BG _ _) ?_
  | refine ca Bu (E) ?_
  | exact True.intro | refine AD ?_ | refine two ?_ ?_ | refine AB fun c_ => ?_
  | (refine imp fun hc => ?_) <;> try exact cx1 hc
  | refine all fun v_ => ?_)
 refine AH (VS.drop (List.nil_sublist _)) ?_
 ((with_reducible apply rq2); rfl; rfl; rfl)
 exact AA (by rw [DX, if_neg c1, List.drop_zero])
end Go.Proofs.YtibahljljjkceaaGreatDoor
