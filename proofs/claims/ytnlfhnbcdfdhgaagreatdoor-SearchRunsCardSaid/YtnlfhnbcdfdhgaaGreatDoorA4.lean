/- Own texts. -/
import Derived.Test.YtnlfhnbcdfdhgaaGreatDoorA3
set_option linter.unusedVariables false
set_option linter.unusedSimpArgs false
set_option maxRecDepth 100000
set_option maxHeartbeats 4000000
namespace Go.Proofs.YtnlfhnbcdfdhgaaGreatDoor
open Go Go.Av Go.Sp
theorem Bv : Cal Tryz.prog 80 := Cal.of Tryz.func80 (by kernel_rfl) (by kernel_rfl)
theorem Ma : Cal Tryz.prog 129 := Cal.of Tryz.func129 (by kernel_rfl) (by kernel_rfl)
theorem HV : Cal Tryz.prog 79 := Cal.of Tryz.func79 (by kernel_rfl) (by kernel_rfl)
theorem As : Cal Tryz.prog 111 := Cal.of Tryz.func111 (by kernel_rfl) (by kernel_rfl)
theorem Cr : Cal Tryz.prog 110 := Cal.of Tryz.func110 (by kernel_rfl) (by kernel_rfl)
theorem ahead (G : List (Nat × List D)) (x : Int) : ACr Tryz.prog G 80 [.int x] (.bool (decide (Ay x))) := by
 refine Cz (ts := [2]) 9 Tryz.func80 rfl rfl rfl (by simp) fun W I => ?_
 repeat' (first | exact jA | refine stp ?_ | refine two ?_ ?_ | refine imp fun hc => ?_; try exact cx hc | refine all fun v_ => ?_)
 all_goals
  ((with_reducible apply rq1); rfl; rfl)
  refine AA (congrArg AV.bool ?_)
  (first | rfl | (refine decide_eq_decide.2 ?_; omega) | (refine (decide_eq_true ?_).symm; omega) | (refine (decide_eq_false ?_).symm; omega) | (refine decide_eq_true ?_; omega) | (refine decide_eq_false ?_; omega))
theorem BW (G : List (Nat × List D)) (x : Int) : ACr Tryz.prog G 111 [.int x] (.bool (decide (Ay x))) := by
 refine Cz (ts := [2]) 5 Tryz.func111 rfl rfl rfl (by simp) fun W I => ?_
 repeat' (first | refine ca AN (In _ _ _ _) ?_ | exact jA | refine stp ?_ | refine two ?_ ?_ | refine imp fun hc => ?_; try exact cx hc | refine all fun v_ => ?_)
 ((with_reducible apply rq1); rfl; rfl)
 exact AA rfl
theorem fits (G : List (Nat × List D)) (a b props : Int) : ACr Tryz.prog G 129 [.agg [.int a, .int b], .int props] (.int (GF a b props)) := by
 refine AK (ts := [4]) 34 Tryz.func129 rfl rfl rfl (by simp) fun W I => ?_
 repeat' (first | refine CI ?_ | exact jA | refine stp ?_ | refine two ?_ ?_ | refine imp fun hc => ?_; try exact cx hc | refine all fun v_ => ?_)
 all_goals
  refine AI jE ?_
  ((with_reducible apply rq1); rfl; rfl)
  refine AA (congrArg AV.int ?_)
  unfold GF
  first
   | (rw [if_pos jB])
   | (rw [if_neg jB, if_pos jB])
   | (rw [if_neg jB, if_neg jB])
theorem Check (l : List Fo) (props : Int) : ACr Tryz.prog GP 79 [.d (AO l), .int props] (.int (DU l props)) := by
 refine AK (ts := [4]) 45 Tryz.func79 rfl rfl rfl (by simp) fun W I => ?_
 refine Bn (t := 0) rfl fun hl => ?_
 repeat' (first | refine ca A1 (Ends _) ?_ | refine ca Ma (fits _ _ _ _) ?_ | refine ca Bv (ahead _ _) ?_ | refine CI ?_ | exact jA | refine stp ?_ | refine two ?_ ?_ | refine imp fun hc => ?_; try exact cx hc | refine all fun v_ => ?_)
 all_goals try (
  refine A0 ?_
  ((with_reducible apply rq1); rfl; rfl)
  refine AA (congrArg AV.int ?_)
  unfold DU
  first
   | (rw [if_pos jB])
   | (rw [if_neg jB, if_pos (by assumption)]))
 have hs : DU l props = Ji l props 0 := by
  unfold DU
  rw [if_neg jB, if_neg (by assumption)]
 refine AG (X := Nat × Nat) (fun y => [(1, .int props), (25, .d (AO l)), (26, .int l.length), (27, .int y.1), (7, .int y.2)]) (fun _ => []) (fun y => y.1 ≤ l.length ∧ y.2 ≤ y.1 ∧ DU l props = Ji (l.drop y.1) props y.2) (fun y => l.length - y.1) (0, 0) ⟨Nat.zero_le _, Nat.le_refl _, hs⟩ (VS.of_le ?_) ?_
 · exact leD
 rintro ⟨i, n⟩ ⟨k1, k2, k3⟩
 dsimp only at k1 k2 k3 ⊢
 by_cases hi : i < l.length
 · rw [Nb l i hi] at k3
   repeat' (first | refine ca A1 (Ends _) ?_ | refine ca Ma (fits _ _ _ _) ?_ | refine ca Bv (ahead _ _) ?_ | refine CI ?_ | exact jA | refine stp ?_ | refine two ?_ ?_ | refine imp fun hc => ?_; try exact cx hc | refine all fun v_ => ?_)
   · refine AI jE ?_
     ((with_reducible apply rq1); rfl; rfl)
     refine AA (congrArg AV.int ?_)
     rw [k3, if_pos hc]
   all_goals rw [if_neg (by assumption)] at k3
   · rw [if_pos hc] at k3
     refine ⟨(i + 1, n + 1), ⟨by dsimp only; omega, jC, k3⟩, jC, vle (jc _) ?_⟩
     exact leD
   · rw [if_neg hc] at k3
     refine ⟨(i + 1, n), ⟨by dsimp only; omega, jC, k3⟩, jC, vle (jc _) ?_⟩
     exact leD
 · rw [LU l i jB] at k3
   repeat' (first | refine ca A1 (Ends _) ?_ | refine ca Ma (fits _ _ _ _) ?_ | refine ca Bv (ahead _ _) ?_ | refine CI ?_ | exact jA | refine stp ?_ | refine two ?_ ?_ | refine imp fun hc => ?_; try exact cx hc | refine all fun v_ => ?_)
   all_goals
    refine A0 ?_
    ((with_reducible apply rq1); rfl; rfl)
    refine AA (congrArg AV.int ?_)
    rw [k3]
    first
     | rw [if_pos jB]
     | rw [if_neg jB]
theorem FN (G : List (Nat × List D)) (l : List Fo) (props : Int) : ACr Tryz.prog G 110 [.d (AO l), .int props] (.int (DU l props)) := by
 refine AK (ts := [4]) 59 Tryz.func110 rfl rfl rfl (by simp) fun W I => ?_
 refine Bn (t := 0) rfl fun hl => ?_
 repeat' (first | refine ca Ck (Jt _ _) ?_ | refine ca AN (In _ _ _ _) ?_ | refine ca As (BW _ _) ?_ | exact jA | refine stp ?_ | refine two ?_ ?_ | refine imp fun hc => ?_; try exact cx hc | refine all fun v_ => ?_)
 all_goals try (
  refine A0 ?_
  ((with_reducible apply rq1); rfl; rfl)
  refine AA (congrArg AV.int ?_)
  unfold DU
  first
   | (rw [if_pos jB])
   | (rw [if_neg jB, if_pos (by assumption)]))
 have hs : DU l props = Ji l props 0 := by
  unfold DU
  rw [if_neg jB, if_neg (by assumption)]
 refine AG (X := Nat × Nat) (fun y => [(0, .d (AO l)), (1, .int props), (8, .int y.1), (7, .int y.2)]) (fun _ => []) (fun y => y.1 ≤ l.length ∧ y.2 ≤ y.1 ∧ DU l props = Ji (l.drop y.1) props y.2) (fun y => l.length - y.1) (0, 0) ⟨Nat.zero_le _, Nat.le_refl _, hs⟩ (VS.of_le ?_) ?_
 · exact leD
 rintro ⟨i, n⟩ ⟨k1, k2, k3⟩
 dsimp only at k1 k2 k3 ⊢
 by_cases hi : i < l.length
 · rw [Nb l i hi] at k3
   unfold GF at k3
   repeat' (first | refine ca Ck (Jt _ _) ?_ | refine ca AN (In _ _ _ _) ?_ | refine ca As (BW _ _) ?_ | exact jA | refine stp ?_ | refine two ?_ ?_ | refine imp fun hc => ?_; try exact cx hc | refine all fun v_ => ?_)
   all_goals first
    | (refine A0 ?_
       ((with_reducible apply rq1); rfl; rfl)
       refine AA (congrArg AV.int ?_)
       rw [k3]
       first
        | (rw [if_pos (by rw [if_pos jB]; decide), if_pos jB])
        | (rw [if_pos (by rw [if_neg jB, if_pos jB]; decide), if_neg jB, if_pos jB]))
    | (rw [if_neg (by rw [if_neg jB, if_neg jB]; decide)] at k3
       first
        | (rw [if_pos (by assumption)] at k3
           refine ⟨(i + 1, n + 1), ⟨by dsimp only; omega, jC, k3⟩, jC, VS.of_le ?_⟩
           exact leD)
        | (rw [if_neg (by assumption)] at k3
           refine ⟨(i + 1, n), ⟨by dsimp only; omega, jC, k3⟩, jC, VS.of_le ?_⟩
           exact leD))
 · rw [LU l i jB] at k3
   repeat' (first | refine ca Ck (Jt _ _) ?_ | refine ca AN (In _ _ _ _) ?_ | refine ca As (BW _ _) ?_ | exact jA | refine stp ?_ | refine two ?_ ?_ | refine imp fun hc => ?_; try exact cx hc | refine all fun v_ => ?_)
   all_goals
    refine A0 ?_
    ((with_reducible apply rq1); rfl; rfl)
    refine AA (congrArg AV.int ?_)
    rw [k3]
    first
     | rw [if_pos jB]
     | rw [if_neg jB]
theorem D5 : Cal Tryz.prog 167 := Cal.of Tryz.func167 (by kernel_rfl) (by kernel_rfl)
theorem aP : Cal Tryz.prog 166 := Cal.of Tryz.func166 (by kernel_rfl) (by kernel_rfl)
theorem H5 : Cal Tryz.prog 133 := Cal.of Tryz.func133 (by kernel_rfl) (by kernel_rfl)
theorem Co : Cal Tryz.prog 190 := Cal.of Tryz.func190 (by kernel_rfl) (by kernel_rfl)
theorem F4 : Cal Tryz.prog 207 := Cal.of Tryz.func207 (by kernel_rfl) (by kernel_rfl)
theorem Fj : Cal Tryz.prog 189 := Cal.of Tryz.func189 (by kernel_rfl) (by kernel_rfl)
theorem FH : Cal Tryz.prog 161 := Cal.of Tryz.func161 (by kernel_rfl) (by kernel_rfl)
theorem Jl (G : List (Nat × List D)) (x : Int) : ACr Tryz.prog G 167 [.int x] (.tup [.bool (decide (DM x)), .bool (decide (GB x)), .bool (decide (okP x))]) := by
 refine Cz (ts := [2, 3, 4]) 21 Tryz.func167 rfl rfl rfl (by simp) fun W I => ?_
 repeat' (first | exact jA | refine stp ?_ | refine two ?_ ?_ | refine imp fun hc => ?_; try exact cx hc | refine all fun v_ => ?_)
 all_goals
  ((with_reducible apply rq3); rfl; rfl; rfl; rfl)
  refine AA (tup3 ?_ ?_ ?_) <;> (first | rfl | (refine decide_eq_decide.2 ?_; omega) | (refine (decide_eq_true ?_).symm; omega) | (refine (decide_eq_false ?_).symm; omega) | (refine decide_eq_true ?_; omega) | (refine decide_eq_false ?_; omega))
theorem Ei (G : List (Nat × List D)) (x : Int) : ACr Tryz.prog G 190 [.int x] (.bool (decide (DM x))) := by
 refine Cz (ts := [2]) 5 Tryz.func190 rfl rfl rfl (by simp) fun W I => ?_
 repeat' (first | refine ca AN (In _ _ _ _) ?_ | exact jA | refine stp ?_ | refine two ?_ ?_ | refine imp fun hc => ?_; try exact cx hc | refine all fun v_ => ?_)
 ((with_reducible apply rq1); rfl; rfl)
 exact AA rfl
theorem J8 (G : List (Nat × List D)) (x : Int) : ACr Tryz.prog G 207 [.int x] (.bool (decide (8 ≤ x ∧ x ≤ 10))) := by
 refine Cz (ts := [2]) 5 Tryz.func207 rfl rfl rfl (by simp) fun W I => ?_
 repeat' (first | refine ca AN (In _ _ _ _) ?_ | exact jA | refine stp ?_ | refine two ?_ ?_ | refine imp fun hc => ?_; try exact cx hc | refine all fun v_ => ?_)
 ((with_reducible apply rq1); rfl; rfl)
 exact AA rfl
theorem op (G : List (Nat × List D)) (a b vars : Int) (h0 : 0 ≤ vars) (h1 : vars ≤ 6) : ACr Tryz.prog G 166 [.agg [.int a, .int b], .int vars] (.int (opZ a b vars)) := by
 refine AK (ts := [4]) 37 Tryz.func166 rfl rfl rfl (by simp) fun W I => ?_
 repeat' (first | refine ca D5 (Jl _ _) ?_ | refine CI ?_ | exact jA | refine stp ?_ | refine two ?_ ?_ | refine imp fun hc => ?_; try exact cx hc | refine all fun v_ => ?_)
 all_goals
  refine AI jE ?_
  ((with_reducible apply rq1); rfl; rfl)
  refine AA (congrArg AV.int ?_)
  unfold opZ
  first
   | (rw [if_pos jB])
   | (rw [if_neg jB, if_pos jB])
   | (rw [if_neg jB, if_neg jB])
theorem typed (G : List (Nat × List D)) : ∀ (m : Nat) (l : List Fo), l.length ≤ m → (Af l).2 = 0 → ACr Tryz.prog G 189 [.d (AO l)] (.int (Ij l)) := by
 intro m
 induction m using Nat.strongRecOn with
 | _ m ih =>
 intro l hm hok
 have hE := JP G l
 have hT := Rl hok
 obtain ⟨_, hwell⟩ := UC hok
 have hs : BY l = ((BY l).1, 0) := by rw [BY, if_neg (by simpa using hok)]
 generalize (BY l).1 = ps at hT hwell hs
 rw [hs] at hE
 obtain ⟨h60, h0, hend, _, _⟩ := B1 (l := l) (es := (Af l).1) (Prod.ext rfl hok)
 have hk0 := Aq l 0 h0
 have hleaf : 0 < ps.length → l[0].kind ≠ 11 ∧ l[0].kind ≠ 12 := by
  intro hps
  have : (BY l).1 = chunks l (partsOf l[0].kind).1.toNat 1 := by rw [BY, if_neg (by simpa using hok), List.getElem?_eq_getElem h0]; rfl
  rw [hs] at this
  dsimp only at this
  have e1 : (partsOf 11).1.toNat = 0 := by decide
  have e2 : (partsOf 12).1.toNat = 0 := by decide
  constructor <;> (intro hk; rw [hk] at this; first | rw [e1] at this | rw [e2] at this
                   rw [this] at hps; exact absurd hps (Nat.lt_irrefl 0))
 refine Cz (ts := [2]) 39 Tryz.func189 rfl rfl rfl (by simp) fun W I => ?_
 refine Bn (t := 0) rfl fun hl => ?_
 repeat' (first | refine ca C2 (hE) ?_ | refine caq Co (Ei _ _) ?_ | refine caq F4 (J8 _ _) ?_ | refine caq Fj (hT') ?_ | exact jA | refine stp ?_ | refine two ?_ ?_ | refine imp fun hc => ?_; try exact cx hc | refine all fun v_ => ?_)
 dsimp only
 refine Bn (t := 3) rfl fun hl3 => ?_
 refine Dn (X := Nat) (fun i => [(0, .d (AO l)), (3, .d (Ar ps)), (5, .int i)]) (fun _ => []) (fun i => i ≤ ps.length ∧ ∀ t ∈ ps.take i, (DM (Ag t 0) ↔ GB (Ag l 0)) ∧ DN t) (fun i => ps.length - i) 0 ⟨Nat.zero_le _, by simp⟩ ?_ rfl ?_
 · exact leD
 rintro i ⟨hi, hg⟩
 by_cases hil : i < ps.length
 · have hw := hwell ps[i] (jb hil)
   have hT' := ih ps[i].length jB ps[i] (Nat.le_refl _) hw.1
   obtain ⟨_, h0', _, _, _⟩ := B1 (l := ps[i]) (es := (Af ps[i]).1) (Prod.ext rfl hw.1)
   have hk1 := Aq ps[i] 0 h0'
   have hleaf' := hleaf jB
   have bad : ¬ ((DM (Ag ps[i] 0) ↔ GB (Ag l 0)) ∧ DN ps[i]) → Ij l = 5 := fun hb => by
    rw [Ij, if_neg]
    intro ht
    exact hb (hT.1 ht _ (jb hil))
   repeat' (first | refine ca C2 (hE) ?_ | refine caq Co (Ei _ _) ?_ | refine caq F4 (J8 _ _) ?_ | refine caq Fj (hT') ?_ | exact jA | refine stp ?_ | refine two ?_ ?_ | refine imp fun hc => ?_; try exact cx hc | refine all fun v_ => ?_)
   · ((with_reducible apply rq1); rfl; rfl)
     refine AA (congrArg AV.int ?_)
     exact (bad fun ⟨_, h⟩ => hc (by rw [Ij, if_pos h])).symm
   · have hbeq : (decide (DM ps[i][0].kind) == decide (8 ≤ l[0].kind ∧ l[0].kind ≤ 10)) = true := by assumption
     have hz : DN ps[i] := by
      unfold Ij at hc
      by_cases h : DN ps[i]
      · exact h
      · rw [if_neg h] at hc; exact absurd (by decide) hc
     refine ⟨i + 1, ⟨by omega, ?_⟩, by omega, ?_, rfl⟩
     · intro t ht
       rw [jZ hil] at ht
       rcases List.mem_append.1 ht with ht | ht
       · exact hg t ht
       · obtain rfl : t = ps[i] := by simpa using ht
         refine ⟨?_, hz⟩
         rw [hk1, hk0]
         simp only [beq_iff_eq, decide_eq_decide] at hbeq
         rw [hbeq]
         constructor <;> intro _ <;> constructor <;> omega
     · exact leD
   · have hbeq : (decide (DM ps[i][0].kind) == decide (8 ≤ l[0].kind ∧ l[0].kind ≤ 10)) = false := by assumption
     ((with_reducible apply rq1); rfl; rfl)
     refine AA (congrArg AV.int ?_)
     refine (bad fun ⟨h, _⟩ => ?_).symm
     rw [hk1, hk0] at h
     have : decide (DM ps[i][0].kind) = decide (8 ≤ l[0].kind ∧ l[0].kind ≤ 10) := by
      rw [decide_eq_decide, h]
      constructor <;> intro _ <;> constructor <;> omega
     rw [this] at hbeq
     simp at hbeq
 · repeat' (first | refine ca C2 (hE) ?_ | refine caq Co (Ei _ _) ?_ | refine caq F4 (J8 _ _) ?_ | refine caq Fj (hT') ?_ | exact jA | refine stp ?_ | refine two ?_ ?_ | refine imp fun hc => ?_; try exact cx hc | refine all fun v_ => ?_)
   ((with_reducible apply rq1); rfl; rfl)
   refine AA (congrArg AV.int ?_)
   rw [List.take_of_length_le jB] at hg
   rw [Ij, if_pos (hT.2 hg)]
theorem Ln (G : List (Nat × List D)) (l : List Fo) (vars : Int) : ACr Tryz.prog G 161 [.d (AO l), .int vars] (.tup [.bool (Cp l vars).1, .int (Cp l vars).2]) := by
 refine AK (ts := [4, 5]) 74 Tryz.func161 rfl rfl rfl (by simp) fun W I => ?_
 refine Bn (t := 0) rfl fun hl => ?_
 repeat' (first | refine ca Ck (Jt _ _) ?_ | refine ca AN (In _ _ _ _) ?_ | refine ca Fj (typed _ _ _ (Nat.le_refl _) hok) ?_ | refine ca Co (Ei _ _) ?_ | refine CI ?_ | exact jA | refine stp ?_ | refine two ?_ ?_ | refine imp fun hc => ?_; try exact cx hc | refine all fun v_ => ?_)
 all_goals try (
  refine A0 ?_
  ((with_reducible apply rq2); rfl; rfl; rfl)
  refine AA ?_
  unfold Cp
  first
   | (rw [if_pos jB])
   | (rw [if_neg jB, if_pos (by assumption)]))
 have hok0 : ¬ (Af l).2 ≠ 0 := by assumption
 have hok : (Af l).2 = 0 := by simpa using hok0
 obtain ⟨h60, h0, hend, _, _⟩ := B1 (l := l) (es := (Af l).1) (Prod.ext rfl hok)
 have hkind : ∀ (i : Nat) (hi : i < l.length), 1 ≤ l[i].kind := fun i hi => by
  have hn := D2 l l.length 0 1 l.length jB jB (by unfold Sp.AM at hend; exact hend) i jB jB
  have he := F3 l i hi
  by_cases hk : 1 ≤ l[i].kind
  · exact hk
  · rw [C4 _ jB, if_pos (by decide)] at he
    rw [he] at hn
    exact absurd hn.1 (by decide)
 have hs : Cp l vars = if I5 l vars ≠ 0 then (false, I5 l vars) else if DN l then (decide (DM (Ag l 0)), 0) else (false, 5) := by
  rw [Cp, if_neg jB, if_neg hok0]
 have hv : 0 ≤ vars ∧ vars ≤ 6 := by omega
 refine AG (X := Nat) (fun i => [(0, .d (AO l)), (1, .int vars), (8, .int i)]) (fun _ => []) (fun i => i ≤ l.length ∧ I5 l vars = I5 (l.drop i) vars) (fun i => l.length - i) 0 ⟨Nat.zero_le _, rfl⟩ (VS.of_le ?_) ?_
 · exact leD
 rintro i ⟨k1, k2⟩
 by_cases hi : i < l.length
 · rw [Qi l i hi] at k2
   have hki := hkind i hi
   repeat' (first | refine ca Ck (Jt _ _) ?_ | refine ca AN (In _ _ _ _) ?_ | refine ca Fj (typed _ _ _ (Nat.le_refl _) hok) ?_ | refine ca Co (Ei _ _) ?_ | refine CI ?_ | exact jA | refine stp ?_ | refine two ?_ ?_ | refine imp fun hc => ?_; try exact cx hc | refine all fun v_ => ?_)
   all_goals first
    | (refine AI jE ?_
       ((with_reducible apply rq2); rfl; rfl; rfl)
       refine AA ?_
       first
        | (have hz : opZ l[i].kind l[i].val vars = 13 := by unfold opZ; rw [if_pos jB]
           rw [hz, if_pos (by decide)] at k2
           rw [hs, k2, if_pos (by decide)])
        | (have hz : opZ l[i].kind l[i].val vars = 2 := by unfold opZ; rw [if_neg jB, if_pos jB]
           rw [hz, if_pos (by decide)] at k2
           rw [hs, k2, if_pos (by decide)]))
    | (have hz : opZ l[i].kind l[i].val vars = 0 := by unfold opZ; rw [if_neg jB, if_neg jB]
       rw [hz, if_neg (by decide)] at k2
       refine ⟨i + 1, ⟨by omega, k2⟩, by omega, vle (jc _) ?_⟩
       exact leD)
 · rw [Ri l i jB] at k2
   rw [k2, if_neg (by decide)] at hs
   repeat' (first | refine ca Ck (Jt _ _) ?_ | refine ca AN (In _ _ _ _) ?_ | refine ca Fj (typed _ _ _ (Nat.le_refl _) hok) ?_ | refine ca Co (Ei _ _) ?_ | refine CI ?_ | exact jA | refine stp ?_ | refine two ?_ ?_ | refine imp fun hc => ?_; try exact cx hc | refine all fun v_ => ?_)
   · refine A0 ?_
     ((with_reducible apply rq2); rfl; rfl; rfl)
     refine AA ?_
     have : ¬ DN l := fun h => hc (by rw [Ij, if_pos h])
     rw [hs, if_neg this]
   · refine A0 ?_
     ((with_reducible apply rq2); rfl; rfl; rfl)
     refine AA ?_
     have : DN l := by
      unfold Ij at hc
      by_cases h : DN l
      · exact h
      · rw [if_neg h] at hc; exact absurd (by decide) hc
     rw [hs, if_pos this, Aq l 0 h0]
end Go.Proofs.YtnlfhnbcdfdhgaaGreatDoor
