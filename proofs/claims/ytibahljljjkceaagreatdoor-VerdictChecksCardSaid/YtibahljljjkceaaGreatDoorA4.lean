/- A bundle of this claim's own texts: T8. -/
import Derived.Test.YtibahljljjkceaaGreatDoorA3
set_option linter.unusedVariables false
set_option linter.unusedSimpArgs false
set_option maxRecDepth 100000
set_option maxHeartbeats 4000000
namespace Go.Proofs.YtibahljljjkceaaGreatDoor
open Go Go.Av Go.Sp

theorem Dn : Cal Tryz.prog 181 := Cal.of Tryz.func181 (by kernel_rfl) (by kernel_rfl)
theorem Vj : Cal Tryz.prog 180 := Cal.of Tryz.func180 (by kernel_rfl) (by kernel_rfl)
theorem Gp : Cal Tryz.prog 150 := Cal.of Tryz.func150 (by kernel_rfl) (by kernel_rfl)
theorem CZ : Cal Tryz.prog 164 := Cal.of Tryz.func164 (by kernel_rfl) (by kernel_rfl)
theorem FH : Cal Tryz.prog 194 := Cal.of Tryz.func194 (by kernel_rfl) (by kernel_rfl)
theorem Ex : Cal Tryz.prog 163 := Cal.of Tryz.func163 (by kernel_rfl) (by kernel_rfl)
theorem Eg : Cal Tryz.prog 126 := Cal.of Tryz.func126 (by kernel_rfl) (by kernel_rfl)
theorem IJ (G : List (Nat × List D)) (x : Int) : ACr Tryz.prog G 181 [.int x] (.tup [.bool (decide (De x)), .bool (decide (Hh x)), .bool (decide (okP x))]) := by
 refine DU (ts := [2, 3, 4]) 21 Tryz.func181 rfl rfl rfl (by simp) fun W I => ?_
 repeat' (first
  | exact True.intro
  | refine stp ?_
  | refine two ?_ ?_
  | (refine imp fun hc => ?_) <;> try exact cx hc
  | refine all fun v_ => ?_)
 all_goals
  ((with_reducible apply rq3); rfl; rfl; rfl; rfl)
  refine AA (tup3 ?_ ?_ ?_) <;> (first | rfl | (refine decide_eq_decide.2 ?_; omega) | (refine (decide_eq_true ?_).symm; omega) | (refine (decide_eq_false ?_).symm; omega) | (refine decide_eq_true ?_; omega) | (refine decide_eq_false ?_; omega))
theorem EG (G : List (Nat × List D)) (x : Int) : ACr Tryz.prog G 164 [.int x] (.bool (decide (De x))) := by
 refine DU (ts := [2]) 5 Tryz.func164 rfl rfl rfl (by simp) fun W I => ?_
 repeat' (first
  | refine ca AL (In _ _ _ _) ?_
  | exact True.intro
  | refine stp ?_
  | refine two ?_ ?_
  | (refine imp fun hc => ?_) <;> try exact cx hc
  | refine all fun v_ => ?_)
 ((with_reducible apply rq1); rfl; rfl)
 exact AA rfl
theorem Ia (G : List (Nat × List D)) (x : Int) : ACr Tryz.prog G 194 [.int x] (.bool (decide (8 ≤ x ∧ x ≤ 10))) := by
 refine DU (ts := [2]) 5 Tryz.func194 rfl rfl rfl (by simp) fun W I => ?_
 repeat' (first
  | refine ca AL (In _ _ _ _) ?_
  | exact True.intro
  | refine stp ?_
  | refine two ?_ ?_
  | (refine imp fun hc => ?_) <;> try exact cx hc
  | refine all fun v_ => ?_)
 ((with_reducible apply rq1); rfl; rfl)
 exact AA rfl
theorem op (G : List (Nat × List D)) (a b vars : Int) (h0 : 0 ≤ vars) (h1 : vars ≤ 6) : ACr Tryz.prog G 180 [.agg [.int a, .int b], .int vars] (.int (opZ a b vars)) := by
 refine AN (ts := [4]) 37 Tryz.func180 rfl rfl rfl (by simp) fun W I => ?_
 repeat' (first
  | refine ca Dn (IJ _ _) ?_
  | refine B6 ?_
  | exact True.intro
  | refine stp ?_
  | refine two ?_ ?_
  | (refine imp fun hc => ?_) <;> try exact cx hc
  | refine all fun v_ => ?_)
 all_goals
  refine AH (VS.drop (List.nil_sublist _)) ?_
  ((with_reducible apply rq1); rfl; rfl)
  refine AA (congrArg AV.int ?_)
  unfold opZ
  first
   | (rw [if_pos (by omega)])
   | (rw [if_neg (by omega), if_pos (by omega)])
   | (rw [if_neg (by omega), if_neg (by omega)])

theorem typed (G : List (Nat × List D)) : ∀ (m : Nat) (l : List Fo), l.length ≤ m → (Ah l).2 = 0 → ACr Tryz.prog G 163 [.d (AO l)] (.int (Hq l)) := by
 intro m
 induction m using Nat.strongRecOn with
 | _ m ih =>
 intro l hm hok
 have hE := H0 G l
 have hT := PC hok
 obtain ⟨_, hwell⟩ := RO hok
 have hs : BS l = ((BS l).1, 0) := by rw [BS, if_neg (by simpa using hok)]
 generalize (BS l).1 = ps at hT hwell hs
 rw [hs] at hE
 obtain ⟨h60, h0, hend, _, _⟩ := Bp (l := l) (es := (Ah l).1) (Prod.ext rfl hok)
 have hk0 := An l 0 h0
 have hleaf : 0 < ps.length → l[0].kind ≠ 11 ∧ l[0].kind ≠ 12 := by
  intro hps
  have : (BS l).1 = chunks l (partsOf l[0].kind).1.toNat 1 := by rw [BS, if_neg (by simpa using hok), List.getElem?_eq_getElem h0]; rfl
  rw [hs] at this
  dsimp only at this
  have e1 : (partsOf 11).1.toNat = 0 := by decide
  have e2 : (partsOf 12).1.toNat = 0 := by decide
  constructor <;> (intro hk; rw [hk] at this; first | rw [e1] at this | rw [e2] at this
                   rw [this] at hps; exact absurd hps (Nat.lt_irrefl 0))
 refine DU (ts := [2]) 39 Tryz.func163 rfl rfl rfl (by simp) fun W I => ?_
 refine Bs (t := 0) rfl fun hl => ?_
 repeat' (first
  | refine ca Cj (hE) ?_
  | refine caq CZ (EG _ _) ?_
  | refine caq FH (Ia _ _) ?_
  | refine caq Ex (hT') ?_
  | exact True.intro
  | refine stp ?_
  | refine two ?_ ?_
  | (refine imp fun hc => ?_) <;> try exact cx hc
  | refine all fun v_ => ?_)
 dsimp only
 refine Bs (t := 3) rfl fun hl3 => ?_
 refine D8 (X := Nat) (fun i => [(0, .d (AO l)), (3, .d (Aw ps)), (5, .int i)]) (fun _ => []) (fun i => i ≤ ps.length ∧ ∀ t ∈ ps.take i, (De (AQ t 0) ↔ Hh (AQ l 0)) ∧ C2 t) (fun i => ps.length - i) 0 ⟨Nat.zero_le _, by simp⟩ ?_ rfl ?_
 · exact leD
 rintro i ⟨hi, hg⟩
 by_cases hil : i < ps.length
 · have hw := hwell ps[i] (List.getElem_mem hil)
   have hT' := ih ps[i].length (by omega) ps[i] (Nat.le_refl _) hw.1
   obtain ⟨_, h0', _, _, _⟩ := Bp (l := ps[i]) (es := (Ah ps[i]).1) (Prod.ext rfl hw.1)
   have hk1 := An ps[i] 0 h0'
   have hleaf' := hleaf (by omega)
   have bad : ¬ ((De (AQ ps[i] 0) ↔ Hh (AQ l 0)) ∧ C2 ps[i]) → Hq l = 5 := fun hb => by
    rw [Hq, if_neg]
    intro ht
    exact hb (hT.1 ht _ (List.getElem_mem hil))
   repeat' (first
    | refine ca Cj (hE) ?_
    | refine caq CZ (EG _ _) ?_
    | refine caq FH (Ia _ _) ?_
    | refine caq Ex (hT') ?_
    | exact True.intro
    | refine stp ?_
    | refine two ?_ ?_
    | (refine imp fun hc => ?_) <;> try exact cx hc
    | refine all fun v_ => ?_)
   · ((with_reducible apply rq1); rfl; rfl)
     refine AA (congrArg AV.int ?_)
     exact (bad fun ⟨_, h⟩ => hc (by rw [Hq, if_pos h])).symm
   · have hbeq : (decide (De ps[i][0].kind) == decide (8 ≤ l[0].kind ∧ l[0].kind ≤ 10)) = true := by assumption
     have hz : C2 ps[i] := by
      unfold Hq at hc
      by_cases h : C2 ps[i]
      · exact h
      · rw [if_neg h] at hc; exact absurd (by decide) hc
     refine ⟨i + 1, ⟨by omega, ?_⟩, by omega, ?_, rfl⟩
     · intro t ht
       rw [List.take_succ_eq_append_getElem hil] at ht
       rcases List.mem_append.1 ht with ht | ht
       · exact hg t ht
       · obtain rfl : t = ps[i] := by simpa using ht
         refine ⟨?_, hz⟩
         rw [hk1, hk0]
         simp only [beq_iff_eq, decide_eq_decide] at hbeq
         rw [hbeq]
         constructor <;> intro _ <;> constructor <;> omega
     · exact leD
   · have hbeq : (decide (De ps[i][0].kind) == decide (8 ≤ l[0].kind ∧ l[0].kind ≤ 10)) = false := by assumption
     ((with_reducible apply rq1); rfl; rfl)
     refine AA (congrArg AV.int ?_)
     refine (bad fun ⟨h, _⟩ => ?_).symm
     rw [hk1, hk0] at h
     have : decide (De ps[i][0].kind) = decide (8 ≤ l[0].kind ∧ l[0].kind ≤ 10) := by
      rw [decide_eq_decide, h]
      constructor <;> intro _ <;> constructor <;> omega
     rw [this] at hbeq
     simp at hbeq
 · repeat' (first
    | refine ca Cj (hE) ?_
    | refine caq CZ (EG _ _) ?_
    | refine caq FH (Ia _ _) ?_
    | refine caq Ex (hT') ?_
    | exact True.intro
    | refine stp ?_
    | refine two ?_ ?_
    | (refine imp fun hc => ?_) <;> try exact cx hc
    | refine all fun v_ => ?_)
   ((with_reducible apply rq1); rfl; rfl)
   refine AA (congrArg AV.int ?_)
   rw [List.take_of_length_le (by omega)] at hg
   rw [Hq, if_pos (hT.2 hg)]

theorem KA (G : List (Nat × List D)) (l : List Fo) (vars : Int) : ACr Tryz.prog G 126 [.d (AO l), .int vars] (.tup [.bool (CY l vars).1, .int (CY l vars).2]) := by
 refine AN (ts := [4, 5]) 74 Tryz.func126 rfl rfl rfl (by simp) fun W I => ?_
 refine Bs (t := 0) rfl fun hl => ?_
 repeat' (first
  | refine ca CX (IS _ _) ?_
  | refine ca AL (In _ _ _ _) ?_
  | refine ca Ex (typed _ _ _ (Nat.le_refl _) hok) ?_
  | refine ca CZ (EG _ _) ?_
  | refine B6 ?_
  | exact True.intro
  | refine stp ?_
  | refine two ?_ ?_
  | (refine imp fun hc => ?_) <;> try exact cx hc
  | refine all fun v_ => ?_)
 all_goals try (
  refine Bi ?_
  ((with_reducible apply rq2); rfl; rfl; rfl)
  refine AA ?_
  unfold CY
  first
   | (rw [if_pos (by omega)])
   | (rw [if_neg (by omega), if_pos (by assumption)]))
 have hok0 : ¬ (Ah l).2 ≠ 0 := by assumption
 have hok : (Ah l).2 = 0 := by simpa using hok0
 obtain ⟨h60, h0, hend, _, _⟩ := Bp (l := l) (es := (Ah l).1) (Prod.ext rfl hok)
 have hkind : ∀ (i : Nat) (hi : i < l.length), 1 ≤ l[i].kind := fun i hi => by
  have hn := Dl l l.length 0 1 l.length (by omega) (by omega) (by unfold Sp.AJ at hend; exact hend) i (by omega) (by omega)
  have he := FT l i hi
  by_cases hk : 1 ≤ l[i].kind
  · exact hk
  · rw [Ck _ (by omega), if_pos (by decide)] at he
    rw [he] at hn
    exact absurd hn.1 (by decide)
 have hs : CY l vars = if Hi l vars ≠ 0 then (false, Hi l vars) else if C2 l then (decide (De (AQ l 0)), 0) else (false, 5) := by
  rw [CY, if_neg (by omega), if_neg hok0]
 have hv : 0 ≤ vars ∧ vars ≤ 6 := by omega
 refine AG (X := Nat) (fun i => [(0, .d (AO l)), (1, .int vars), (8, .int i)]) (fun _ => []) (fun i => i ≤ l.length ∧ Hi l vars = Hi (l.drop i) vars) (fun i => l.length - i) 0 ⟨Nat.zero_le _, rfl⟩ (VS.of_le ?_) ?_
 · exact leD
 rintro i ⟨k1, k2⟩
 by_cases hi : i < l.length
 · rw [Oc l i hi] at k2
   have hki := hkind i hi
   repeat' (first
    | refine ca CX (IS _ _) ?_
    | refine ca AL (In _ _ _ _) ?_
    | refine ca Ex (typed _ _ _ (Nat.le_refl _) hok) ?_
    | refine ca CZ (EG _ _) ?_
    | refine B6 ?_
    | exact True.intro
    | refine stp ?_
    | refine two ?_ ?_
    | (refine imp fun hc => ?_) <;> try exact cx hc
    | refine all fun v_ => ?_)
   all_goals first
    | (refine AH (VS.drop (List.nil_sublist _)) ?_
       ((with_reducible apply rq2); rfl; rfl; rfl)
       refine AA ?_
       first
        | (have hz : opZ l[i].kind l[i].val vars = 13 := by unfold opZ; rw [if_pos (by omega)]
           rw [hz, if_pos (by decide)] at k2
           rw [hs, k2, if_pos (by decide)])
        | (have hz : opZ l[i].kind l[i].val vars = 2 := by unfold opZ; rw [if_neg (by omega), if_pos (by omega)]
           rw [hz, if_pos (by decide)] at k2
           rw [hs, k2, if_pos (by decide)]))
    | (have hz : opZ l[i].kind l[i].val vars = 0 := by unfold opZ; rw [if_neg (by omega), if_neg (by omega)]
       rw [hz, if_neg (by decide)] at k2
       refine ⟨i + 1, ⟨by omega, k2⟩, by omega, vle (List.nil_sublist _) ?_⟩
       exact leD)
 · rw [PN l i (by omega)] at k2
   rw [k2, if_neg (by decide)] at hs
   repeat' (first
    | refine ca CX (IS _ _) ?_
    | refine ca AL (In _ _ _ _) ?_
    | refine ca Ex (typed _ _ _ (Nat.le_refl _) hok) ?_
    | refine ca CZ (EG _ _) ?_
    | refine B6 ?_
    | exact True.intro
    | refine stp ?_
    | refine two ?_ ?_
    | (refine imp fun hc => ?_) <;> try exact cx hc
    | refine all fun v_ => ?_)
   · refine Bi ?_
     ((with_reducible apply rq2); rfl; rfl; rfl)
     refine AA ?_
     have : ¬ C2 l := fun h => hc (by rw [Hq, if_pos h])
     rw [hs, if_neg this]
   · refine Bi ?_
     ((with_reducible apply rq2); rfl; rfl; rfl)
     refine AA ?_
     have : C2 l := by
      unfold Hq at hc
      by_cases h : C2 l
      · exact h
      · rw [if_neg h] at hc; exact absurd (by decide) hc
     rw [hs, if_pos this, An l 0 h0]
end Go.Proofs.YtibahljljjkceaaGreatDoor
