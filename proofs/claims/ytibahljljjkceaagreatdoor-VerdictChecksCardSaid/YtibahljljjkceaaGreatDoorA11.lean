/- A bundle of this claim's own texts: T7 N2 G5. -/
import Derived.Test.YtibahljljjkceaaGreatDoorA2
import Derived.Test.YtibahljljjkceaaGreatDoorA3
import Derived.Test.YtibahljljjkceaaGreatDoorA7
import Derived.Test.YtibahljljjkceaaGreatDoorA10
set_option linter.unusedVariables false
set_option linter.unusedSimpArgs false
set_option maxRecDepth 100000
set_option maxHeartbeats 4000000
namespace Go.Proofs.YtibahljljjkceaaGreatDoor
open Go Go.Av Go.Sp

theorem Cc : Cal Tryz.prog 56 := Cal.of Tryz.func56 (by kernel_rfl) (by kernel_rfl)
theorem CS : Cal Tryz.prog 70 := Cal.of Tryz.func70 (by kernel_rfl) (by kernel_rfl)

theorem Vi ( l : List Fo) (props : Int) : ACr Tryz.prog GP 56 [.d (AO l), .int props] (.tup [.d (AK (AZ l props).1), .int (AZ l props).2]) := by
 refine AN (ts := [4, 5]) 32 Tryz.func56 rfl rfl rfl (by simp) fun W I => ?_
 refine Bs (t := 0) rfl fun hl => ?_
 repeat' (first
  | refine ca GG (Check _ _) ?_
  | refine ca Bg (ahead _ _) ?_
  | exact True.intro | refine AD ?_ | refine two ?_ ?_ | refine AB fun c_ => ?_
  | (refine imp fun hc => ?_) <;> try exact cx1 hc
  | refine all fun v_ => ?_)
 · refine AH (Cn (t := 4) 1 8 rfl) ?_
   ((with_reducible apply rq2); rfl; rfl; rfl)
   refine AA ?_
   rw [AZ, if_pos hc]; rfl
 have hs : AZ l props = (Bq l 0, 0) := by rw [AZ, if_neg hc]
 refine C4 (E := 3) (sz := 1) AW ?_
 refine AG (X := Nat × Sl × List Int) (fun y => [(0, .d (AO l)), (7, .val y.2.1.v), (16, .d (AO l)), (17, .int l.length), (18, .int y.1)]) (fun y => [AM y.2.1.v 3 1 AW y.2.2]) (fun y => y.1 ≤ l.length ∧ y.2.2.length ≤ y.1 ∧ Bq l 0 = y.2.2 ++ Bq (l.drop y.1) y.1) (fun y => l.length - y.1) (0, Sl.nil, []) ⟨Nat.zero_le _, Nat.le_refl _, rfl⟩ (VS.of_le ?_) ?_
 · exact leD
 rintro ⟨i, v, out⟩ ⟨k1, k2, k3⟩
 dsimp only at k1 k2 k3 ⊢
 by_cases hi : i < l.length
 · rw [GZ l i hi] at k3
   repeat' (first
    | refine ca GG (Check _ _) ?_
    | refine ca Bg (ahead _ _) ?_
    | exact True.intro | refine AD ?_ | refine two ?_ ?_ | refine AB fun c_ => ?_
    | (refine imp fun hc => ?_) <;> try exact cx1 hc
    | refine all fun v_ => ?_)
   · rw [if_pos hc] at k3
     refine ⟨(i + 1, v_, out ++ [(i : Int)]), ⟨by dsimp only; omega, by simp; omega, by simpa using k3⟩, by dsimp only; omega, VS.take (by exact Ap) ?_⟩
     exact leD
   · rw [if_neg hc] at k3
     refine ⟨(i + 1, v, out), ⟨by dsimp only; omega, by dsimp only; omega, k3⟩, by dsimp only; omega, VS.take (by exact Ap) ?_⟩
     exact leD
 · rw [Gs l i (by omega), List.append_nil] at k3
   repeat' (first
    | refine ca GG (Check _ _) ?_
    | refine ca Bg (ahead _ _) ?_
    | exact True.intro | refine AD ?_ | refine two ?_ ?_ | refine AB fun c_ => ?_
    | (refine imp fun hc => ?_) <;> try exact cx1 hc
    | refine all fun v_ => ?_)
   refine AH (Bf (t := 4) (eb := 8) rfl rfl (fun x => rfl) (by omega)) ?_
   ((with_reducible apply rq2); rfl; rfl; rfl)
   refine AA ?_
   rw [hs, k3]

theorem NX (G : List (Nat × List D)) ( l : List Fo) (props : Int) : ACr Tryz.prog G 70 [.d (AO l), .int props] (.tup [.d (AK (AZ l props).1), .int (AZ l props).2]) := by
 refine AN (ts := [4, 5]) 32 Tryz.func70 rfl rfl rfl (by simp) fun W I => ?_
 refine Bs (t := 0) rfl fun hl => ?_
 repeat' (first
  | refine ca Ce (Eo _ _ _) ?_
  | refine ca Ar (BQ _ _) ?_
  | exact True.intro | refine AD ?_ | refine two ?_ ?_ | refine AB fun c_ => ?_
  | (refine imp fun hc => ?_) <;> try exact cx1 hc
  | refine all fun v_ => ?_)
 · refine AH (Cn (t := 4) 1 8 rfl) ?_
   ((with_reducible apply rq2); rfl; rfl; rfl)
   refine AA ?_
   rw [AZ, if_pos hc]; rfl
 have hs : AZ l props = (Bq l 0, 0) := by rw [AZ, if_neg hc]
 refine C4 (E := 3) (sz := 1) AW ?_
 refine AG (X := Nat × Sl × List Int) (fun y => [(0, .d (AO l)), (7, .val y.2.1.v), (8, .int y.1)]) (fun y => [AM y.2.1.v 3 1 AW y.2.2]) (fun y => y.1 ≤ l.length ∧ y.2.2.length ≤ y.1 ∧ Bq l 0 = y.2.2 ++ Bq (l.drop y.1) y.1) (fun y => l.length - y.1) (0, Sl.nil, []) ⟨Nat.zero_le _, Nat.le_refl _, rfl⟩ (VS.of_le ?_) ?_
 · exact leD
 rintro ⟨i, v, out⟩ ⟨k1, k2, k3⟩
 dsimp only at k1 k2 k3 ⊢
 by_cases hi : i < l.length
 · rw [GZ l i hi] at k3
   repeat' (first
    | refine ca Ce (Eo _ _ _) ?_
    | refine ca Ar (BQ _ _) ?_
    | exact True.intro | refine AD ?_ | refine two ?_ ?_ | refine AB fun c_ => ?_
    | (refine imp fun hc => ?_) <;> try exact cx1 hc
    | refine all fun v_ => ?_)
   · rw [if_pos hc] at k3
     refine ⟨(i + 1, v_, out ++ [(i : Int)]), ⟨by dsimp only; omega, by simp; omega, by simpa using k3⟩, by dsimp only; omega, VS.take (by exact Ap) ?_⟩
     exact leD
   · rw [if_neg hc] at k3
     refine ⟨(i + 1, v, out), ⟨by dsimp only; omega, by dsimp only; omega, k3⟩, by dsimp only; omega, VS.take (by exact Ap) ?_⟩
     exact leD
 · rw [Gs l i (by omega), List.append_nil] at k3
   repeat' (first
    | refine ca Ce (Eo _ _ _) ?_
    | refine ca Ar (BQ _ _) ?_
    | exact True.intro | refine AD ?_ | refine two ?_ ?_ | refine AB fun c_ => ?_
    | (refine imp fun hc => ?_) <;> try exact cx1 hc
    | refine all fun v_ => ?_)
   refine AH (Bf (t := 4) (eb := 8) rfl rfl (fun x => rfl) (by omega)) ?_
   ((with_reducible apply rq2); rfl; rfl; rfl)
   refine AA ?_
   rw [hs, k3]
end Go.Proofs.YtibahljljjkceaaGreatDoor
namespace Go.Sp
open Go Go.Av
structure Tk where
 model : Md
 props : List (List Fo)
 formula : List Fo
def Tk.cells (t : Tk) : List D := [Aq t.model.vars, Ad t.model.rules, Aw t.props, AO t.formula]
abbrev tkA (t : Tk) : AV := .agg [.d (Aq t.model.vars), .d (Ad t.model.rules), .d (Aw t.props), .d (AO t.formula)]
noncomputable def BH (t : Tk) : Int := if B3 t.model t.props ≠ 0 then B3 t.model t.props else DH t.formula t.props.length
end Go.Sp
namespace Go.Proofs.YtibahljljjkceaaGreatDoor
open Go Go.Av Go.Sp
theorem S7 : Cal Tryz.prog 30 := Cal.of Tryz.func30 (by kernel_rfl) (by kernel_rfl)
theorem Jq : Cal Tryz.prog 15 := Cal.of Tryz.func15 (by kernel_rfl) (by kernel_rfl)
theorem CU : Cal Tryz.prog 18 := Cal.of Tryz.func18 (by kernel_rfl) (by kernel_rfl)
theorem FY : Cal Tryz.prog 97 := Cal.of Tryz.func97 (by kernel_rfl) (by kernel_rfl)
theorem CW : Cal Tryz.prog 113 := Cal.of Tryz.func113 (by kernel_rfl) (by kernel_rfl)
theorem TB {g : Nat} {xs : List D} (h : B0 Tryz.prog (g + 9) 29 xs) : ∃ t : Tk, xs = t.cells := by
  obtain ⟨p0, p1, p2, rfl, h0, h1, h2⟩ := KV Tryz.underlying29 h
  obtain ⟨m, rfl⟩ := Rb h0
  obtain ⟨ps, rfl, _⟩ := Qm h1
  obtain ⟨f, rfl, _⟩ := Iw h2
  exact ⟨⟨m, ps, f⟩, rfl⟩
theorem aN (G : List (Nat × List D)) (a : List (List Fo)) : ACr Tryz.prog G 30 [.d (Aw a)] (.d (Aw a)) := by
 refine AN (ts := [2]) Tryz.f30.ntmps Tryz.func30 rfl rfl rfl (by simp [Tryz.ntmps30]) fun W I => ?_
 refine Bs (t := 0) rfl fun hl => ?_
 repeat' (first
  | refine ca Fm (O2 _ _) ?_
  | exact True.intro | refine AR ?_ | refine two ?_ ?_
  | (refine imp fun hc => ?_) <;> try exact cx hc
  | refine all fun v_ => ?_)
 refine C4 (E := 27) (sz := 1) Mf ?_
 refine D8 (X := Nat × Sl) (fun y => [(0, .d (Aw a)), (3, .val y.2.v), (4, .int y.1)]) (fun y => [AM y.2.v 27 1 Mf (a.take y.1)]) (fun y => y.1 ≤ a.length) (fun y => a.length - y.1) (0, Sl.nil) (Nat.zero_le _) ?_ rfl ?_
 · exact leD
 rintro ⟨i, v⟩ h1
 dsimp only at h1 ⊢
 have hlen : (a.take i).length = i := by rw [List.length_take]; omega
 repeat' (first
  | refine ca Fm (O2 _ _) ?_
  | exact True.intro | refine AR ?_ | refine two ?_ ?_
  | (refine imp fun hc => ?_) <;> try exact cx hc
  | refine all fun v_ => ?_)
 · refine ⟨(i + 1, v_), by dsimp only; omega, by dsimp only; omega, ?_, ?_⟩
   · exact leD
   · dsimp only
     rw [List.take_succ_eq_append_getElem (by omega)]
 · refine AH (Bf (t := 2) (eb := 24) rfl rfl (fun x => rfl) (by rw [hlen]; omega)) ?_
   ((with_reducible apply rq1); rfl; rfl)
   refine AA ?_
   rw [List.take_of_length_le (by omega)]
theorem tasks (G : List (Nat × List D)) (t : Tk) : ACr Tryz.prog G 15 [tkA t] (tkA t) := by
 refine Ec (rs := [.cell 2 29]) Tryz.f15.ntmps Tryz.func15 rfl rfl rfl (by simp [Tryz.ntmps15]) fun W I => ?_
 repeat' (first
  | refine ca RN (Zv _ _) ?_
  | refine ca S7 (aN _ _) ?_
  | refine ca Fm (O2 _ _) ?_
  | exact True.intro | refine AD ?_ | refine two ?_ ?_ | refine AB fun c_ => ?_
  | (refine imp fun hc => ?_) <;> try exact cx1 hc
  | refine all fun v_ => ?_)
 exact Yi (xs := [tkA t]) ⟨Dt rfl (by (with_reducible exact ElC.h)) rfl (by exact Az) rfl, trivial⟩ rfl (h' := []) (List.nil_sublist _) (AA rfl)
theorem EW (G : List (Nat × List D)) (t : Tk) : ACr Tryz.prog G 18 [tkA t, tkA t] (.bool true) := by
 have e2 := A5 (Tb G t.props t.props) rfl
 have e3 := A5 (I4 G t.formula t.formula) rfl
 refine AN (ts := [4]) Tryz.f18.ntmps Tryz.func18 rfl rfl rfl (by simp [Tryz.ntmps18]) fun W I => ?_
 repeat' (first
  | refine ca MF (S8 _ _) ?_
  | refine ca ML (e2) ?_
  | refine ca B8 (e3) ?_
  | exact True.intro | refine AD ?_ | refine two ?_ ?_ | refine AB fun c_ => ?_
  | (refine imp fun hc => ?_) <;> try exact cx1 hc
  | refine all fun v_ => ?_)
 all_goals
  refine AH (VS.drop (List.nil_sublist _)) ?_
  ((with_reducible apply rq1); rfl; rfl)
  exact AA rfl
theorem Wn  (t : Tk) : ACr Tryz.prog GP 97 [tkA t] (.int (BH t)) := by
 have hP := Yg t.model t.props
 have hC := Check t.formula t.props.length
 unfold BH
 generalize B3 t.model t.props = e1 at hP ⊢
 generalize DH t.formula t.props.length = e2 at hC ⊢
 refine AN (ts := [2]) Tryz.f97.ntmps Tryz.func97 rfl rfl rfl (by simp [Tryz.ntmps97]) fun W I => ?_
 by_cases h1 : e1 ≠ 0
 · repeat' (first
    | refine ca GS (hP) ?_
    | refine ca GG (hC) ?_
    | exact True.intro | refine AD ?_ | refine two ?_ ?_ | refine AB fun c_ => ?_
    | (refine imp fun hc => ?_) <;> try exact cx1 hc
    | refine all fun v_ => ?_)
   refine AH (VS.drop (List.nil_sublist _)) ?_
   ((with_reducible apply rq1); rfl; rfl)
   exact AA (by rw [if_pos h1])
 · repeat' (first
    | refine ca GS (hP) ?_
    | refine ca GG (hC) ?_
    | exact True.intro | refine AD ?_ | refine two ?_ ?_ | refine AB fun c_ => ?_
    | (refine imp fun hc => ?_) <;> try exact cx1 hc
    | refine all fun v_ => ?_)
   refine AH (VS.drop (List.nil_sublist _)) ?_
   ((with_reducible apply rq1); rfl; rfl)
   exact AA (by rw [if_neg h1])
theorem Jf (G : List (Nat × List D)) (t : Tk) : ACr Tryz.prog G 113 [tkA t] (.int (BH t)) := by
 have hP := Lg G t.model t.props
 have hC := Eo G t.formula t.props.length
 unfold BH
 generalize B3 t.model t.props = e1 at hP ⊢
 generalize DH t.formula t.props.length = e2 at hC ⊢
 refine AN (ts := [2]) Tryz.f113.ntmps Tryz.func113 rfl rfl rfl (by simp [Tryz.ntmps113]) fun W I => ?_
 by_cases h1 : e1 ≠ 0
 · repeat' (first
    | refine ca DE (hP) ?_
    | refine ca Ce (hC) ?_
    | exact True.intro | refine AD ?_ | refine two ?_ ?_ | refine AB fun c_ => ?_
    | (refine imp fun hc => ?_) <;> try exact cx1 hc
    | refine all fun v_ => ?_)
   refine AH (VS.drop (List.nil_sublist _)) ?_
   ((with_reducible apply rq1); rfl; rfl)
   exact AA (by rw [if_pos h1])
 · repeat' (first
    | refine ca DE (hP) ?_
    | refine ca Ce (hC) ?_
    | exact True.intro | refine AD ?_ | refine two ?_ ?_ | refine AB fun c_ => ?_
    | (refine imp fun hc => ?_) <;> try exact cx1 hc
    | refine all fun v_ => ?_)
   refine AH (VS.drop (List.nil_sublist _)) ?_
   ((with_reducible apply rq1); rfl; rfl)
   exact AA (by rw [if_neg h1])
end Go.Proofs.YtibahljljjkceaaGreatDoor
namespace Go.Sp
open Go Go.Av

def C7 (n : Int) : List Vr → List Int → Int × Int
 | v :: l, x :: xs => if v.low ≤ x ∧ x ≤ v.high then C7 (n * BJ v + (x - v.low)) l xs else (0, 9)
 | _, _ => (n, 0)
def IK (n : Int) : List Vr → List Int → Int × Int
 | v :: l, x :: xs => if v.low ≤ x ∧ x ≤ v.high then IK (n + (x - v.low) * AS l) l xs else (0, 9)
 | _, _ => (n, 0)
theorem Pe : ∀ (l : List Vr) (xs : List Int) (n : Int), xs.length = l.length → C7 n l xs = IK (n * AS l) l xs
 | [], [], n, _ => by simp [C7, IK, AS]
 | [], _ :: _, _, h => by simp at h
 | _ :: _, [], _, h => by simp at h
 | v :: l, x :: xs, n, h => by
   simp only [C7, IK]
   by_cases c : v.low ≤ x ∧ x ≤ v.high
   · rw [if_pos c, if_pos c, Pe l xs _ (by simpa using h), AS, Int.add_mul, Int.mul_assoc]
   · rw [if_neg c, if_neg c]
theorem U5 (n : Int) (l : List Vr) (xs : List Int) (i : Nat) (h : i < l.length) (h' : i < xs.length) : C7 n (l.drop i) (xs.drop i) = if l[i].low ≤ xs[i] ∧ xs[i] ≤ l[i].high then C7 (n * BJ l[i] + (xs[i] - l[i].low)) (l.drop (i + 1)) (xs.drop (i + 1)) else (0, 9) := by
 rw [List.drop_eq_getElem_cons h, List.drop_eq_getElem_cons h', C7]
theorem Ue (n : Int) (l : List Vr) (xs : List Int) (i : Nat) (h : i < l.length) (h' : i < xs.length) : IK n (l.drop i) (xs.drop i) = if l[i].low ≤ xs[i] ∧ xs[i] ≤ l[i].high then IK (n + (xs[i] - l[i].low) * AS (l.drop (i + 1))) (l.drop (i + 1)) (xs.drop (i + 1)) else (0, 9) := by
 rw [List.drop_eq_getElem_cons h, List.drop_eq_getElem_cons h', IK]
theorem Tf (n : Int) (l : List Vr) (xs : List Int) (i : Nat) (h : l.length ≤ i) : C7 n (l.drop i) (xs.drop i) = (n, 0) := by rw [List.drop_of_length_le h]; cases xs.drop i <;> rfl
theorem TP (n : Int) (l : List Vr) (xs : List Int) (i : Nat) (h : l.length ≤ i) : IK n (l.drop i) (xs.drop i) = (n, 0) := by rw [List.drop_of_length_le h]; cases xs.drop i <;> rfl
noncomputable def codeF (m : Md) (xs : List Int) : Int × Int := if AU m ≠ 0 then (0, AU m) else if xs.length ≠ m.vars.length then (0, 9) else C7 0 m.vars xs
theorem Xt (m : Md) (xs : List Int) (h : AU m = 0) (h' : xs.length = m.vars.length) : codeF m xs = IK 0 m.vars xs := by
 rw [codeF, if_neg (by omega), if_neg (by omega), Pe _ _ _ h', Int.zero_mul]
theorem IY (l : List Vr) (i : Nat) (h : i < l.length) : AS (l.drop i) = BJ l[i] * AS (l.drop (i + 1)) := by
 rw [List.drop_eq_getElem_cons h, AS]
theorem KC {n p s d : Int} (h0 : 0 ≤ n) (h1 : n + 1 ≤ p) (hd0 : 0 ≤ d) (hd : d < s) : 0 ≤ n * s ∧ 0 ≤ n * s + d ∧ n * s + d + 1 ≤ p * s := by
 have a1 : 0 ≤ n * s := Int.mul_nonneg h0 (by omega)
 have a2 : (n + 1) * s ≤ p * s := Int.mul_le_mul_of_nonneg_right h1 (by omega)
 rw [Int.add_mul, Int.one_mul] at a2
 omega
theorem WR {n p q s d : Int} (h0 : 0 ≤ n) (h1 : n + s * q ≤ p) (hq : 1 ≤ q) (hd0 : 0 ≤ d) (hd : d < s) : 0 ≤ d * q ∧ 0 ≤ n + d * q ∧ n + d * q + q ≤ p := by
 have a1 : 0 ≤ d * q := Int.mul_nonneg hd0 (by omega)
 have a2 : (d + 1) * q ≤ s * q := Int.mul_le_mul_of_nonneg_right (by omega) (by omega)
 rw [Int.add_mul, Int.one_mul] at a2
 omega
end Go.Sp
