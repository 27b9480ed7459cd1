/- A bundle of this claim's own texts: T10. -/
import Derived.Test.YtibahljljjkceaaGreatDoorA11
import Derived.Test.YtibahljljjkceaaGreatDoorA13
set_option linter.unusedVariables false
set_option linter.unusedSimpArgs false
set_option maxRecDepth 100000
set_option maxHeartbeats 4000000
namespace Go.Proofs.YtibahljljjkceaaGreatDoor
open Go Go.Av Go.Sp

theorem CR : Cal Tryz.prog 144 := Cal.of Tryz.func144 (by kernel_rfl) (by kernel_rfl)
theorem CP : Cal Tryz.prog 145 := Cal.of Tryz.func145 (by kernel_rfl) (by kernel_rfl)
theorem BK : Cal Tryz.prog 100 := Cal.of Tryz.func100 (by kernel_rfl) (by kernel_rfl)
theorem BA : Cal Tryz.prog 119 := Cal.of Tryz.func119 (by kernel_rfl) (by kernel_rfl)
theorem BD : Cal Tryz.prog 159 := Cal.of Tryz.func159 (by kernel_rfl) (by kernel_rfl)
theorem Au : Cal Tryz.prog 115 := Cal.of Tryz.func115 (by kernel_rfl) (by kernel_rfl)
theorem SM (G : List (Nat × List D)) (out : List Bool) (n : Nat) (hb : out.length ≤ 60) (h : n + 1 < out.length) : ACr Tryz.prog G 144 [.pd [Ai out], .pd [.i .i64 n]] (.bool out[n + 1]) := by
 refine DU (ts := [2]) 8 Tryz.func144 rfl rfl rfl (by simp) fun W I => ?_
 repeat' (first
  | exact True.intro
  | refine stp ?_
  | refine two ?_ ?_
  | (refine imp fun hc => ?_) <;> try exact cx hc
  | refine all fun v_ => ?_)
 ((with_reducible apply rq1); rfl; rfl)
 exact AA rfl
theorem XW (G : List (Nat × List D)) (out : List Bool) (es : List Int) (n : Nat) (hb : es.length ≤ 60) (h : n + 1 < es.length) (h0 : 0 ≤ es[n + 1]) (h1 : es[n + 1].toNat < out.length) : ACr Tryz.prog G 145 [.pd [Ai out], .pd [AK es], .pd [.i .i64 n]] (.bool out[es[n + 1].toNat]) := by
 refine DU (ts := [3]) 12 Tryz.func145 rfl rfl rfl (by simp) fun W I => ?_
 repeat' (first
  | exact True.intro
  | refine stp ?_
  | refine two ?_ ?_
  | (refine imp fun hc => ?_) <;> try exact cx hc
  | refine all fun v_ => ?_)
 ((with_reducible apply rq1); rfl; rfl)
 exact AA rfl
theorem TO {p q : Prop} (hp : p) (h : p → q := by
 apply cmp; (focus (first
  | ((with_reducible apply JW); (focus rfl); (focus exact Ev); (focus exact AJ _ _ _ (by omega) (by omega)); (focus rfl))
  | ((with_reducible apply je_call0); (focus rfl); (focus (decide +kernel)); (focus rfl); (focus exact Ev); (focus exact AJ _ _ _ (by omega) (by omega)); (focus rfl))
  ))
 exact fun h => h) : q := h hp
theorem Hp (G : List (Nat × List D)) (l : List Fo) (i : Nat) (hi : i ≤ 1000) : ACr Tryz.prog G 119 [.d (AO l), .int i] (.int (Sp.AJ l (i + 1 : Nat)).1) := by
 refine DU (ts := [4]) 15 Tryz.func119 rfl rfl rfl (by simp) fun W I => ?_
 repeat' (first
  | refine TO ?_
  | exact True.intro
  | refine stp ?_
  | refine two ?_ ?_
  | (refine imp fun hc => ?_) <;> try exact cx hc
  | refine all fun v_ => ?_)
 ((with_reducible apply rq1); rfl; rfl)
 exact AA rfl
theorem XH {j : Nat} (h : j ≤ 6) : 1 ≤ (2 : Int) ^ j ∧ (2 : Int) ^ j ≤ 64 := by
 have : j = 0 ∨ j = 1 ∨ j = 2 ∨ j = 3 ∨ j = 4 ∨ j = 5 ∨ j = 6 := by omega
 rcases this with h | h | h | h | h | h | h <;> subst h <;> decide
theorem Um (c : Int) (j : Nat) : c / 2 ^ j / 2 = c / 2 ^ (j + 1) := by
 rw [Int.ediv_ediv_of_nonneg (by exact_mod_cast Nat.zero_le _), Int.pow_succ]
theorem EJ {p q : Prop} (hp : p) (h : p → q := by
 apply cmp; (focus (first
  | ((with_reducible apply JW); (focus rfl); (focus exact BA); (focus exact Hp _ _ _ (by omega)); (focus rfl))
  | ((with_reducible apply je_call0); (focus rfl); (focus (decide +kernel)); (focus rfl); (focus exact BA); (focus exact Hp _ _ _ (by omega)); (focus rfl))
  ))
 exact fun h => h) : q := h hp
set_option maxHeartbeats 1000000 in
theorem SB (G : List (Nat × List D)) (l : List Fo) (x : List Bool) (c : Int) (g : Hg l x.length) (h0 : 0 ≤ c) (hc1 : c ≤ 1000000) : ∀ (m i : Nat), l.length ≤ i + m → i < l.length →
 ACr Tryz.prog G 159 [.d (AO l), .int i, .d (Ai x), .d (AK (Bq l 0)), .int c] (.bool (tAt l x c i)) := by
 intro m
 induction m with
 | zero => intro i h1 h2; omega
 | succ m ih =>
   intro i hm hi
   have h60 := g.h60
   have hk := g.kind i hi
   have ht := Qa l x c i hi
   unfold Sp.stepT at ht
   rw [An l i hi, Du l i hi] at ht
   refine AN (ts := [10]) 96 Tryz.func159 rfl rfl rfl (by simp) fun W I => ?_
   refine Bs (t := 0) rfl fun hl0 => ?_
   refine Bs (t := 2) rfl fun hl2 => ?_
   by_cases hA : l[i].kind = 13 ∨ l[i].kind = 11 ∨ l[i].kind = 12
   · have hv := g.prop i hi
     by_cases hk13 : l[i].kind = 13
     · obtain ⟨v0, v1⟩ := hv hk13
       repeat' (first
        | refine ca BD (ih1) ?_
        | refine ca BD (ih2) ?_
        | refine EJ ?_
        | exact True.intro
        | refine stp ?_
        | refine two ?_ ?_
        | (refine imp fun hc => ?_) <;> try exact cx hc
        | refine all fun v_ => ?_)
       refine Bi ?_
       ((with_reducible apply rq1); rfl; rfl)
       refine AA (congrArg AV.bool ?_)
       rw [ht, if_pos hk13, List.getElem?_eq_getElem (by omega)]; rfl
     repeat' (first
      | refine ca BD (ih1) ?_
      | refine ca BD (ih2) ?_
      | refine EJ ?_
      | exact True.intro
      | refine stp ?_
      | refine two ?_ ?_
      | (refine imp fun hc => ?_) <;> try exact cx hc
      | refine all fun v_ => ?_)
     all_goals
      refine Bi ?_
      ((with_reducible apply rq1); rfl; rfl)
      refine AA (congrArg AV.bool ?_)
      rw [ht, if_neg hk13]
      first
       | (rw [if_pos (by omega)])
       | (rw [if_neg (by omega), if_pos (by omega)])
   by_cases hB : l[i].kind = 10
   · obtain ⟨q1, q2, q3, q4, q5⟩ := Cu hi (g.well i hi) (by rw [hB]; decide)
     have ih1 : ACr Tryz.prog G 159 [.d (AO l), .int ((i : Int) + 1), .d (Ai x), .d (AK (Bq l 0)), .int c] (.bool (tAt l x c (i + 1))) := ih (i + 1) (by omega) q1
     have ih2 := ih1
     repeat' (first
      | refine ca BD (ih1) ?_
      | refine ca BD (ih2) ?_
      | refine EJ ?_
      | exact True.intro
      | refine stp ?_
      | refine two ?_ ?_
      | (refine imp fun hc => ?_) <;> try exact cx hc
      | refine all fun v_ => ?_)
     refine Bi ?_
     ((with_reducible apply rq1); rfl; rfl)
     refine AA (congrArg AV.bool ?_)
     rw [ht, if_neg (by omega), if_neg (by omega), if_neg (by omega), if_pos hB]
   by_cases hC : l[i].kind = 8 ∨ l[i].kind = 9
   · obtain ⟨q1, q2, q3, q4, q5⟩ := Cu hi (g.well i hi) (by rcases hC with h | h <;> rw [h] <;> decide)
     obtain ⟨r1, r2⟩ := DS hi (g.well i hi) (by rcases hC with h | h <;> rw [h] <;> decide)
     have ih1 : ACr Tryz.prog G 159 [.d (AO l), .int ((i : Int) + 1), .d (Ai x), .d (AK (Bq l 0)), .int c] (.bool (tAt l x c (i + 1))) := ih (i + 1) (by omega) q1
     have ih2 : ACr Tryz.prog G 159 [.d (AO l), .int (Sp.AJ l (i + 1 : Nat)).1, .d (Ai x), .d (AK (Bq l 0)), .int c] (.bool (tAt l x c (second l i))) := by
      rw [q4]; exact ih (second l i) (by omega) r1
     rw [if_pos (show i < second l i by omega), if_neg (by omega), if_neg (by omega), if_neg (by omega), if_neg (by omega)] at ht
     generalize tAt l x c (i + 1) = A at ih1 ht
     generalize tAt l x c (second l i) = B at ih2 ht
     repeat' (first
      | refine ca BD (ih1) ?_
      | refine ca BD (ih2) ?_
      | refine EJ ?_
      | exact True.intro
      | refine stp ?_
      | refine two ?_ ?_
      | (refine imp fun hc => ?_) <;> try exact cx hc
      | refine all fun v_ => ?_)
     all_goals
      refine Bi ?_
      ((with_reducible apply rq1); rfl; rfl)
      refine AA (congrArg AV.bool ?_)
      rw [ht]
      first
       | (rw [if_pos (by omega)]; simp_all)
       | (rw [if_neg (by omega), if_pos (by omega)]; simp_all)
   have hah : Ao l[i].kind := by unfold Ao; omega
   rw [if_neg (by omega), if_neg (by omega), if_neg (by omega), if_neg (by omega), if_neg (by omega), if_neg (by omega)] at ht
   have hlen := DI (l := l)
   have hr6 := g.ah
   have hat := HQ l i hi (by rw [An l i hi]; exact hah) l.length 0 (by omega) (Nat.zero_le _)
   simp only [Ay, Nat.sub_zero, List.drop_zero] at hat
   have hrl := (List.getElem?_eq_some_iff.1 hat).1
   have ih1 := True.intro
   have ih2 := True.intro
   repeat' (first
    | refine ca BD (ih1) ?_
    | refine ca BD (ih2) ?_
    | refine EJ ?_
    | exact True.intro
    | refine stp ?_
    | refine two ?_ ?_
    | (refine imp fun hc => ?_) <;> try exact cx hc
    | refine all fun v_ => ?_)
   refine AG (X := Nat × Int) (fun y => [(1, .int i), (3, .d (AK (Bq l 0))), (4, .int y.2), (13, .int y.1)]) (fun _ => []) (fun y => y.1 ≤ Ay l i ∧ y.2 = c / 2 ^ y.1 ∧ 0 ≤ y.2 ∧ y.2 ≤ 1000000) (fun y => Ay l i - y.1) (0, c) ⟨Nat.zero_le _, by simp, h0, hc1⟩ (VS.of_le ?_) ?_
   · exact leD
   rintro ⟨j, d⟩ ⟨k1, k2, k3, k4⟩
   dsimp only at k1 k2 k3 k4 ⊢
   by_cases hj : j = Ay l i
   · have hgj : (Bq l 0)[j] = (i : Int) := by
      subst hj
      rw [List.getElem?_eq_getElem (by omega)] at hat
      exact Option.some.inj hat
     repeat' (first
      | refine ca BD (ih1) ?_
      | refine ca BD (ih2) ?_
      | refine EJ ?_
      | exact True.intro
      | refine stp ?_
      | refine two ?_ ?_
      | (refine imp fun hc => ?_) <;> try exact cx hc
      | refine all fun v_ => ?_)
     refine Bi ?_
     ((with_reducible apply rq1); rfl; rfl)
     refine AA (congrArg AV.bool ?_)
     rw [ht, MX, ← hj, ← k2]
   · have hgj : (Bq l 0)[j] ≠ (i : Int) := by
      intro e
      obtain ⟨q, z1, z2, z3, z4, z5⟩ := K3 l l.length 0 (by omega) j (i : Int) (by rw [List.drop_zero, List.getElem?_eq_getElem (by omega), e])
      have : q = i := by omega
      subst this
      simp only [Ay] at z5
      omega
     have hh := Um c j
     rw [← k2] at hh
     repeat' (first
      | refine ca BD (ih1) ?_
      | refine ca BD (ih2) ?_
      | refine EJ ?_
      | exact True.intro
      | refine stp ?_
      | refine two ?_ ?_
      | (refine imp fun hc => ?_) <;> try exact cx hc
      | refine all fun v_ => ?_)
     refine ⟨(j + 1, d / 2), ⟨by dsimp only; omega, hh, by dsimp only; omega, by dsimp only; omega⟩, by dsimp only; omega, VS.of_le ?_⟩
     exact leD
theorem GN {p q : Prop} (hp : p) (h : p → q := by
 apply cmp; (focus (first
  | ((with_reducible apply JW); (focus rfl); (focus exact BD); (focus exact SB _ _ _ _ g hc0 (by omega) l.length _ (by omega) (by omega)); (focus rfl))
  | ((with_reducible apply je_call0); (focus rfl); (focus (decide +kernel)); (focus rfl); (focus exact BD); (focus exact SB _ _ _ _ g hc0 (by omega) l.length _ (by omega) (by omega)); (focus rfl))
  ))
 exact fun h => h) : q := h hp
theorem Hr (G : List (Nat × List D)) (l : List Fo) (x : List Bool) (c : Int) : ACr Tryz.prog G 115 [.d (AO l), .d (Ai x), .int c] (.tup [.d (Ai (A0 l x c).1), .int (A0 l x c).2]) := by
 have hA := NX G l x.length
 generalize he : AZ l x.length = p at hA
 obtain ⟨ps, e⟩ := p
 refine AN (ts := [6, 7]) 55 Tryz.func115 rfl rfl rfl (by simp) fun W I => ?_
 refine Bs (t := 0) rfl fun hl0 => ?_
 refine Bs (t := 1) rfl fun hl1 => ?_
 have g := True.intro
 have hc0 := True.intro
 repeat' (first
  | refine ca CS (hA) ?_
  | refine ca AL (In _ _ _ _) ?_
  | refine GN ?_
  | exact True.intro
  | refine stp ?_
  | refine two ?_ ?_
  | (refine imp fun hc => ?_) <;> try exact cx hc
  | refine all fun v_ => ?_)
 · refine AH (Cn (t := 6) 1 1 rfl) ?_
   ((with_reducible apply rq2); rfl; rfl; rfl)
   refine AA ?_
   rw [A0, he, if_pos hc]; rfl
 have e0 : e = 0 := by simpa using hc
 subst e0
 obtain ⟨hF, hps⟩ := Hj he
 clear g hc0
 have g := Eu hF
 have h60 := g.h60
 have hpl : ps.length ≤ 6 := by rw [hps, DI]; exact g.ah
 have hs : A0 l x c = if c < 0 ∨ 2 ^ ps.length ≤ c then ([], 2) else ((List.range l.length).map (tAt l x c), 0) := by
  rw [A0, he]; rfl
 refine D8 (X := Nat) (fun j => [(0, .d (AO l)), (1, .d (Ai x)), (2, .int c), (8, .d (AK ps)), (10, .int (2 ^ j)), (11, .int j)]) (fun _ => []) (fun j => j ≤ ps.length) (fun j => ps.length - j) 0 (Nat.zero_le _) ?_ rfl ?_
 · exact leD
 rintro j hj
 have hp6 := XH (j := j) (by omega)
 by_cases hjl : j < ps.length
 · repeat' (first
    | refine ca CS (hA) ?_
    | refine ca AL (In _ _ _ _) ?_
    | refine GN ?_
    | exact True.intro
    | refine stp ?_
    | refine two ?_ ?_
    | (refine imp fun hc => ?_) <;> try exact cx hc
    | refine all fun v_ => ?_)
   refine ⟨j + 1, by omega, by omega, ?_, rfl⟩
   have := Int.pow_succ 2 j
   exact leD
 have hj2 : j = ps.length := by omega
 by_cases hcr : c < 0 ∨ 2 ^ j ≤ c
 · have hc0 := True.intro
   repeat' (first
    | refine ca CS (hA) ?_
    | refine ca AL (In _ _ _ _) ?_
    | refine GN ?_
    | exact True.intro
    | refine stp ?_
    | refine two ?_ ?_
    | (refine imp fun hc => ?_) <;> try exact cx hc
    | refine all fun v_ => ?_)
   refine AH (Cn (t := 6) 1 1 rfl) ?_
   ((with_reducible apply rq2); rfl; rfl; rfl)
   refine AA ?_
   rw [hs, if_pos (by rw [← hj2]; exact hcr)]; rfl
 have hc0 : 0 ≤ c := by omega
 repeat' (first
  | refine ca CS (hA) ?_
  | refine ca AL (In _ _ _ _) ?_
  | refine GN ?_
  | exact True.intro
  | refine stp ?_
  | refine two ?_ ?_
  | (refine imp fun hc => ?_) <;> try exact cx hc
  | refine all fun v_ => ?_)
 subst hps
 refine C4 (E := 4) (sz := 1) Dq ?_
 refine D8 (X := Nat × Value) (fun y => [(0, .d (AO l)), (1, .d (Ai x)), (2, .int c), (8, .d (AK (Bq l 0))), (12, .val y.2), (13, .int y.1)]) (fun y => [AM y.2 4 1 Dq ((List.range y.1).map (tAt l x c))]) (fun y => y.1 ≤ l.length) (fun y => l.length - y.1) (0, .slice none 0 0) (Nat.zero_le _) ?_ rfl ?_
 · exact leD
 rintro ⟨i, v⟩ h1
 dsimp only at h1 ⊢
 have hlen : ((List.range i).map (tAt l x c)).length = i := by simp
 repeat' (first
  | refine ca CS (hA) ?_
  | refine ca AL (In _ _ _ _) ?_
  | refine GN ?_
  | exact True.intro
  | refine stp ?_
  | refine two ?_ ?_
  | (refine imp fun hc => ?_) <;> try exact cx hc
  | refine all fun v_ => ?_)
 · refine ⟨(i + 1, v_), by dsimp only; omega, by dsimp only; omega, ?_, ?_⟩
   · exact leD
   · dsimp only
     rw [List.range_succ, List.map_append]; rfl
 · refine AH (Bf (t := 6) (eb := 1) rfl rfl (fun x => rfl) (by rw [hlen]; omega)) ?_
   ((with_reducible apply rq2); rfl; rfl; rfl)
   refine AA ?_
   have : i = l.length := by omega
   rw [hs, if_neg (by rw [← hj2]; exact hcr), this]
end Go.Proofs.YtibahljljjkceaaGreatDoor
