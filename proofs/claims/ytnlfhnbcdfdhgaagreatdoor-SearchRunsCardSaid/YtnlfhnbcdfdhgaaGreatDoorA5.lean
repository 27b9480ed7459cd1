/- Own texts. -/
import Derived.Test.YtnlfhnbcdfdhgaaGreatDoorA4
set_option linter.unusedVariables false
set_option linter.unusedSimpArgs false
set_option maxRecDepth 100000
set_option maxHeartbeats 4000000
namespace Go.Proofs.YtnlfhnbcdfdhgaaGreatDoor
open Go Go.Av Go.Sp
theorem Fl {p q : Prop} (hp : p) (h : p → q := by
 apply cmp; (focus (first
  | ((with_reducible apply GR); rfl; exact aP; (focus exact op _ _ _ _ jB jB); rfl)
  | ((with_reducible apply Cs); rfl; decide +kernel; rfl; exact aP; (focus exact op _ _ _ _ jB jB); rfl)
  ))
 exact fun h => h) : q := h hp
theorem Ye (l : List Fo) (vars : Int) : ACr Tryz.prog GP 133 [.d (AO l), .int vars] (.tup [.bool (Cp l vars).1, .int (Cp l vars).2]) := by
 have hE := Ends l
 generalize he : Af l = p at hE
 obtain ⟨es, e⟩ := p
 refine AK (ts := [4, 5]) 100 Tryz.func133 rfl rfl rfl (by simp) fun W I => ?_
 refine Bn (t := 0) rfl fun hl => ?_
 repeat' (first | refine ca A1 (hE) ?_ | refine Fl ?_ | refine ca D5 (Jl _ _) ?_ | refine CI ?_ | exact jA | refine stp ?_ | refine two ?_ ?_ | refine imp fun hc => ?_; try exact cx hc | refine all fun v_ => ?_)
 all_goals try (
  refine A0 ?_
  ((with_reducible apply rq2); rfl; rfl; rfl)
  refine AA ?_
  unfold Cp
  first
   | (rw [if_pos jB])
   | (rw [if_neg jB, he, if_pos (by assumption)]))
 have hok0 : ¬ e ≠ 0 := by assumption
 have e0 : e = 0 := by simpa using hok0
 subst e0
 obtain ⟨h60, h0, hend, hlen, hes⟩ := B1 he
 have hs : Cp l vars = if I5 l vars ≠ 0 then (false, I5 l vars) else if DN l then (decide (DM (Ag l 0)), 0) else (false, 5) := by
  rw [Cp, if_neg jB, he, if_neg (by simp)]
 have hv : 0 ≤ vars ∧ vars ≤ 6 := by omega
 have hall : ∀ (i : Nat) (hi : i < l.length), (Sp.AM l i).2 = 0 := fun i hi =>
  (D2 l l.length 0 1 l.length jB jB (by unfold Sp.AM at hend; exact hend) i jB jB).1
 dsimp only
 refine AG (X := Nat) (fun i => [(0, .d (AO l)), (1, .int vars), (6, .d (AJ es)), (37, .d (AO l)), (38, .int l.length), (39, .int i)]) (fun _ => []) (fun i => i ≤ l.length ∧ I5 l vars = I5 (l.drop i) vars) (fun i => l.length - i) 0 ⟨Nat.zero_le _, rfl⟩ (VS.of_le ?_) ?_
 · exact leD
 rintro i ⟨k1, k2⟩
 by_cases hi : i < l.length
 · rw [Qi l i hi] at k2
   repeat' (first | refine ca A1 (hE) ?_ | refine Fl ?_ | refine ca D5 (Jl _ _) ?_ | refine CI ?_ | exact jA | refine stp ?_ | refine two ?_ ?_ | refine imp fun hc => ?_; try exact cx hc | refine all fun v_ => ?_)
   · refine AI jE ?_
     ((with_reducible apply rq2); rfl; rfl; rfl)
     refine AA ?_
     rw [if_pos hc] at k2
     rw [hs, k2, if_pos hc]
   · rw [if_neg hc] at k2
     refine ⟨i + 1, ⟨by omega, k2⟩, by omega, vle (jc _) ?_⟩
     exact leD
 rw [Ri l i jB] at k2
 rw [k2, if_neg (by decide)] at hs
 repeat' (first | refine ca A1 (hE) ?_ | refine Fl ?_ | refine ca D5 (Jl _ _) ?_ | refine CI ?_ | exact jA | refine stp ?_ | refine two ?_ ?_ | refine imp fun hc => ?_; try exact cx hc | refine all fun v_ => ?_)
 refine AG (X := Nat) (fun i => [(0, .d (AO l)), (6, .d (AJ es)), (50, .d (AO l)), (51, .int l.length), (52, .int i)]) (fun _ => []) (fun i => i ≤ l.length ∧ ∀ q, q < i → MM l q) (fun i => l.length - i) 0 ⟨Nat.zero_le _, fun q hq => by omega⟩ (VS.of_le ?_) ?_
 · exact leD
 rintro i ⟨g1, g2⟩
 by_cases hi : i < l.length
 · have hki := Aq l i hi
   have hei := hes i jB
   have hbi := Ak l i (hall i hi)
   have w0 := EF.start hi (hall i hi)
   generalize hn : (partsOf l[i].kind).1.toNat = n at w0
   have hty : MM l i ↔ ∀ p ∈ C6 l (n - 0) (i + 1), IK l i p := by unfold MM; rw [hki, hn, Nat.sub_zero]
   repeat' (first | refine ca A1 (hE) ?_ | refine Fl ?_ | refine ca D5 (Jl _ _) ?_ | refine CI ?_ | exact jA | refine stp ?_ | refine two ?_ ?_ | refine imp fun hc => ?_; try exact cx hc | refine all fun v_ => ?_)
   refine AG (X := Nat × Nat) (fun y => [(0, .d (AO l)), (6, .d (AJ es)), (11, .int i), (14, .bool (decide (GB l[i].kind))), (16, .int y.2), (50, .d (AO l)), (51, .int l.length), (52, .int i)]) (fun _ => [])
    (fun y => EF l n y.1 y.2 (Sp.AM l i).1.toNat ∧ (MM l i ↔ ∀ p ∈ C6 l (n - y.1) y.2, IK l i p)) (fun y => n - y.1) (0, i + 1) ⟨w0, hty⟩ (vle (jc _) ?_) ?_
   · exact leD
   rintro ⟨j, k⟩ ⟨w, hk⟩
   dsimp only at w hk ⊢
   have wlt := w.lt
   by_cases hj : j < n
   · obtain ⟨q1, q2, q3, q4⟩ := w.next hj
     have hkl : k < l.length := by omega
     have hkk := Aq l k hkl
     have hek := hes k jB
     have e1 : n - j = (n - (j + 1)) + 1 := by omega
     rw [e1] at hk
     simp only [C6, List.mem_cons, forall_eq_or_imp] at hk
     repeat' (first | refine ca A1 (hE) ?_ | refine Fl ?_ | refine ca D5 (Jl _ _) ?_ | refine CI ?_ | exact jA | refine stp ?_ | refine two ?_ ?_ | refine imp fun hc => ?_; try exact cx hc | refine all fun v_ => ?_)
     · have hf : IK l i k := by
        unfold IK
        rw [hkk, hki]
        simp only [beq_iff_eq, decide_eq_decide] at hc
        exact hc
       refine ⟨(j + 1, (Sp.AM l k).1.toNat), ⟨q4, ?_⟩, jC, VS.of_le ?_⟩
       · rw [hk]
         exact ⟨fun h => h.2, fun h => ⟨hf, h⟩⟩
       · exact leD
     · have hf : ¬ IK l i k := by
        unfold IK
        rw [hkk, hki]
        intro h
        rw [beq_eq_false_iff_ne] at hc
        exact hc (decide_eq_decide.2 h)
       refine A0 ?_
       ((with_reducible apply rq2); rfl; rfl; rfl)
       refine AA ?_
       have : ¬ DN l := fun h => hf (hk.1 (h i hi)).1
       rw [hs, if_neg this]
   · have hjn : j = n := by have := w.le; omega
     repeat' (first | refine ca A1 (hE) ?_ | refine Fl ?_ | refine ca D5 (Jl _ _) ?_ | refine CI ?_ | exact jA | refine stp ?_ | refine two ?_ ?_ | refine imp fun hc => ?_; try exact cx hc | refine all fun v_ => ?_)
     refine ⟨i + 1, ⟨by omega, fun q hq => ?_⟩, by omega, VS.of_le ?_⟩
     · by_cases hqi : q < i
       · exact g2 q hqi
       · obtain rfl : q = i := by omega
         refine hk.2 fun p hp => ?_
         rw [hjn, Nat.sub_self] at hp
         simp [C6] at hp
     · exact leD
 · repeat' (first | refine ca A1 (hE) ?_ | refine Fl ?_ | refine ca D5 (Jl _ _) ?_ | refine CI ?_ | exact jA | refine stp ?_ | refine two ?_ ?_ | refine imp fun hc => ?_; try exact cx hc | refine all fun v_ => ?_)
   refine A0 ?_
   ((with_reducible apply rq2); rfl; rfl; rfl)
   refine AA ?_
   have : DN l := fun q hq => g2 q jB
   rw [hs, if_pos this, Aq l 0 h0]
end Go.Proofs.YtnlfhnbcdfdhgaaGreatDoor
namespace Go.Sp
open Go Go.Av
structure Vr where
 name : ByteArray
 low : Int
 high : Int
 init : Int
def Vr.cells (v : Vr) : List D := [.s v.name, .i .i64 v.low, .i .i64 v.high, .i .i64 v.init]
abbrev Au (l : List Vr) : D := .l 4 40 (l.map Vr.cells)
structure St where
 var : Int
 val : List Fo
def St.cells (s : St) : List D := [.i .i64 s.var, AO s.val]
abbrev GU (l : List St) : D := .l 2 32 (l.map St.cells)
structure Ru where
 guard : List Fo
 sets : List St
def Ru.cells (r : Ru) : List D := [AO r.guard, GU r.sets]
abbrev Ae (l : List Ru) : D := .l 2 48 (l.map Ru.cells)
structure Md where
 vars : List Vr
 rules : List Ru
def Md.cells (m : Md) : List D := [Au m.vars, Ae m.rules]
abbrev mdA (m : Md) : AV := .agg [.d (Au m.vars), .d (Ae m.rules)]
def Mi (i : Nat) (c : UInt8) : Prop := (97 ≤ c.toNat ∧ c.toNat ≤ 122) ∨ (48 ≤ c.toNat ∧ c.toNat ≤ 57 ∧ i ≠ 0)
instance (i : Nat) (c : UInt8) : Decidable (Mi i c) := by unfold Mi; infer_instance
abbrev fp : ByteArray := ⟨#[121, 101, 115]⟩
abbrev noS : ByteArray := ⟨#[110, 111]⟩
def Lv (s : ByteArray) : Prop := (1 ≤ s.data.toList.length ∧ s.data.toList.length ≤ 8) ∧ s ≠ fp ∧ s ≠ noS ∧ ∀ (i : Nat) (h : i < s.data.toList.length), Mi i s.data.toList[i]
noncomputable instance (s : ByteArray) : Decidable (Lv s) := Classical.propDecidable _
noncomputable instance (a : ByteArray) (l : List ByteArray) : Decidable (a ∈ l) := Classical.propDecidable _
def BL (v : Vr) : Int := v.high - v.low + 1
def Ed (v : Vr) : Prop := -1000 ≤ v.low ∧ v.high ≤ 1000 ∧ v.low ≤ v.high ∧ v.low ≤ v.init ∧ v.init ≤ v.high
instance (v : Vr) : Decidable (Ed v) := by unfold Ed; infer_instance
noncomputable def HB : List Vr → List ByteArray → Int → Int
 | [], _, _ => 0
 | v :: l, seen, n =>
   if ¬ Lv v.name then 6 else if v.name ∈ seen then 7 else if ¬ Ed v then 2 else if 64 < BL v then 1 else if 4096 < n * BL v then 1 else HB l (seen ++ [v.name]) (n * BL v)
noncomputable def Dx (l : List Vr) : Int := if 6 < l.length then 1 else HB l [] 1
theorem Sm (l : List Vr) (i : Nat) (h : i < l.length) (seen : List ByteArray) (n : Int) : HB (l.drop i) seen n =
 if ¬ Lv l[i].name then 6 else if l[i].name ∈ seen then 7 else if ¬ Ed l[i] then 2 else if 64 < BL l[i] then 1 else if 4096 < n * BL l[i] then 1 else HB (l.drop (i + 1)) (seen ++ [l[i].name]) (n * BL l[i]) := by
 rw [ja h, HB]
theorem Pc (l : List Vr) (i : Nat) (h : l.length ≤ i) (seen : List ByteArray) (n : Int) : HB (l.drop i) seen n = 0 := by rw [List.drop_of_length_le h, HB]
noncomputable def Cn (l : List Fo) (vars : Int) (Jl : Bool) : Int := if (Cp l vars).2 ≠ 0 then (Cp l vars).2 else if (Cp l vars).1 ≠ Jl then 5 else 0
noncomputable def H7 (vars : Int) : List St → List Int → Int
 | [], _ => 0
 | s :: l, seen => if ¬ (0 ≤ s.var ∧ s.var < vars) then 2 else if s.var ∈ seen then 7 else if Cn s.val vars false ≠ 0 then Cn s.val vars false else H7 vars l (seen ++ [s.var])
noncomputable def EP (r : Ru) (vars : Int) : Int := if 6 < r.sets.length then 1 else if Cn r.guard vars true ≠ 0 then Cn r.guard vars true else H7 vars r.sets []
theorem TA (vars : Int) (l : List St) (i : Nat) (h : i < l.length) (seen : List Int) : H7 vars (l.drop i) seen =
 if ¬ (0 ≤ l[i].var ∧ l[i].var < vars) then 2 else if l[i].var ∈ seen then 7 else if Cn l[i].val vars false ≠ 0 then Cn l[i].val vars false else H7 vars (l.drop (i + 1)) (seen ++ [l[i].var]) := by
 rw [ja h, H7]
theorem PB (vars : Int) (l : List St) (i : Nat) (h : l.length ≤ i) (seen : List Int) : H7 vars (l.drop i) seen = 0 := by rw [List.drop_of_length_le h, H7]
noncomputable def Eb (vars : Int) : List Ru → Int
 | [] => 0
 | r :: l => if EP r vars ≠ 0 then EP r vars else Eb vars l
theorem O0 (vars : Int) (l : List Ru) (i : Nat) (h : i < l.length) : Eb vars (l.drop i) = if EP l[i] vars ≠ 0 then EP l[i] vars else Eb vars (l.drop (i + 1)) := by
 rw [ja h, Eb]
theorem Na (vars : Int) (l : List Ru) (i : Nat) (h : l.length ≤ i) : Eb vars (l.drop i) = 0 := by rw [List.drop_of_length_le h, Eb]
noncomputable def AT (m : Md) : Int := if Dx m.vars ≠ 0 then Dx m.vars else if 12 < m.rules.length then 1 else Eb m.vars.length m.rules
end Go.Sp
namespace Go.Proofs.YtnlfhnbcdfdhgaaGreatDoor
open Go Go.Av Go.Sp
theorem Cy : Cal Tryz.prog 193 := Cal.of Tryz.func193 (by kernel_rfl) (by kernel_rfl)
theorem Gd : Cal Tryz.prog 206 := Cal.of Tryz.func206 (by kernel_rfl) (by kernel_rfl)
theorem CR : Cal Tryz.prog 131 := Cal.of Tryz.func131 (by kernel_rfl) (by kernel_rfl)
theorem Aa : Cal Tryz.prog 160 := Cal.of Tryz.func160 (by kernel_rfl) (by kernel_rfl)
theorem iX {p q : Prop} (hp : p) (h : p → q := by
 apply cmp; (focus ((with_reducible apply jp); (focus ((with_reducible apply Di); rfl; rfl; rfl; exact A6)); rfl))
 exact fun h => h) : q := h hp
theorem iZ {p q : Prop} (hp : p) (h : p → q := by
 apply cmp; (focus ((with_reducible apply jp); (focus ((with_reducible apply C3); rfl; rfl)); rfl))
 exact fun h => h) : q := h hp
theorem ig {p q : Prop} (hp : p) (h : p → q := by
 apply cmp; (focus ((with_reducible apply Dd); (iterate 4 rfl); omega; rfl))
 exact fun h => h) : q := h hp
theorem name (G : List (Nat × List D)) (s : ByteArray) : ACr Tryz.prog G 193 [.val (.string s)] (.bool (decide (Lv s))) := by
 refine AK (ts := [2]) Tryz.f193.ntmps Tryz.func193 rfl rfl rfl (by simp [Tryz.ntmps193]) fun W I => ?_
 repeat' (first | refine iZ ?_ | refine iX ?_ | refine ig ?_ | exact jA | refine AF ?_ | refine two ?_ ?_ | refine AB fun c_ => ?_ | refine imp fun hc => ?_; try exact cx1 hc | refine all fun v_ => ?_)
 all_goals first
  | (refine AI jE ?_
     ((with_reducible apply rq1); rfl; rfl)
     refine AA (congrArg AV.bool (decide_eq_false ?_).symm)
     rintro ⟨⟨a1, a2⟩, a3, a4, a5⟩
     first
      | omega
      | exact a3 ((Eo _ _).1 hc)
      | exact a4 ((Eo _ _).1 hc)
      | (have hz := (Eo _ _).1 hc; subst hz; simp at a1))
  | skip
 rename_i q1 q2 q3
 have n1 : s ≠ fp := fun e => by rw [(Eo _ _).2 e] at q3; cases q3
 have n2 : s ≠ noS := fun e => by rw [(Eo _ _).2 e] at hc; cases hc
 have n0 : 1 ≤ s.data.toList.length := by
  rcases Nat.eq_zero_or_pos s.data.toList.length with h0 | h0
  · exfalso
    have : s = ⟨#[]⟩ := by
     obtain ⟨a⟩ := s
     have : a = #[] := by
      apply Array.toList_inj.1
      simpa using h0
     rw [this]
    rw [(Eo _ _).2 this] at q1; cases q1
  · exact h0
 refine AG (X := Nat) (fun i => [(21, .d (CT s.data.toList)), (22, .int s.data.toList.length), (23, .int i)]) (fun _ => []) (fun i => i ≤ s.data.toList.length ∧ ∀ j (h : j < s.data.toList.length), j < i → Mi j s.data.toList[j]) (fun i => s.data.toList.length - i) 0 ⟨Nat.zero_le _, fun _ _ h => absurd h (Nat.not_lt_zero _)⟩ (VS.of_le ?_) ?_
 · exact leD
 rintro i ⟨h1, h2⟩
 by_cases hi : ¬ i < s.data.toList.length
 · repeat' (first | refine iZ ?_ | refine iX ?_ | refine ig ?_ | exact jA | refine AF ?_ | refine two ?_ ?_ | refine AB fun c_ => ?_ | refine imp fun hc => ?_; try exact cx1 hc | refine all fun v_ => ?_)
   refine AI jE ?_
   ((with_reducible apply rq1); rfl; rfl)
   exact AA (congrArg AV.bool (decide_eq_true ⟨⟨n0, by omega⟩, n1, n2, fun j h => h2 j h jB⟩).symm)
 replace hi := jY hi
 by_cases hl : Mi i s.data.toList[i]
 · have hl' := hl
   unfold Mi at hl'
   repeat' (first | refine iZ ?_ | refine iX ?_ | refine ig ?_ | exact jA | refine AF ?_ | refine two ?_ ?_ | refine AB fun c_ => ?_ | refine imp fun hc => ?_; try exact cx1 hc | refine all fun v_ => ?_)
   all_goals
    refine ⟨i + 1, ⟨by omega, fun j hj hji => ?_⟩, by omega, VS.of_le ?_⟩
    · by_cases e : j = i
      · subst e; exact hl
      · exact h2 j hj jB
    · exact leD
 · have hl' := hl
   unfold Mi at hl'
   repeat' (first | refine iZ ?_ | refine iX ?_ | refine ig ?_ | exact jA | refine AF ?_ | refine two ?_ ?_ | refine AB fun c_ => ?_ | refine imp fun hc => ?_; try exact cx1 hc | refine all fun v_ => ?_)
   all_goals
    refine AI jE ?_
    ((with_reducible apply rq1); rfl; rfl)
    exact AA (congrArg AV.bool (decide_eq_false fun k => hl (k.2.2.2 i hi)).symm)
theorem WH (G : List (Nat × List D)) (s : ByteArray) : ACr Tryz.prog G 206 [.val (.string s)] (.bool (decide (Lv s))) := by
 refine AK (ts := [2]) Tryz.f206.ntmps Tryz.func206 rfl rfl rfl (by simp [Tryz.ntmps206]) fun W I => ?_
 by_cases c1 : ¬ (1 ≤ (s.data.toList.length : Int) ∧ (s.data.toList.length : Int) ≤ 8)
 · have e1 := Dg (In G s.data.toList.length 1 8) c1
   repeat' (first | refine iZ ?_ | refine iX ?_ | refine ig ?_ | refine ca AN (e1) ?_ | exact jA | refine AF ?_ | refine two ?_ ?_ | refine AB fun c_ => ?_ | refine imp fun hc => ?_; try exact cx1 hc | refine all fun v_ => ?_)
   refine AI jE ?_
   ((with_reducible apply rq1); rfl; rfl)
   exact AA (congrArg AV.bool (decide_eq_false fun k => by have := k.1; omega).symm)
 replace c1 := jY c1
 have e1 := A7 (In G s.data.toList.length 1 8) c1
 repeat' (first | refine iZ ?_ | refine iX ?_ | refine ig ?_ | refine ca AN (e1) ?_ | exact jA | refine AF ?_ | refine two ?_ ?_ | refine AB fun c_ => ?_ | refine imp fun hc => ?_; try exact cx1 hc | refine all fun v_ => ?_)
 all_goals first
  | (refine AI jE ?_
     ((with_reducible apply rq1); rfl; rfl)
     refine AA (congrArg AV.bool (decide_eq_false ?_).symm)
     rintro ⟨⟨a1, a2⟩, a3, a4, a5⟩
     first
      | exact a3 ((Eo _ _).1 hc)
      | exact a4 ((Eo _ _).1 hc))
  | skip
 rename_i q3
 have n1 : s ≠ fp := fun e => by rw [(Eo _ _).2 e] at q3; cases q3
 have n2 : s ≠ noS := fun e => by rw [(Eo _ _).2 e] at hc; cases hc
 refine AG (X := Nat) (fun i => [(0, .val (.string s)), (3, .int i)]) (fun _ => []) (fun i => i ≤ s.data.toList.length ∧ ∀ j (h : j < s.data.toList.length), j < i → Mi j s.data.toList[j]) (fun i => s.data.toList.length - i) 0 ⟨Nat.zero_le _, fun _ _ h => absurd h (Nat.not_lt_zero _)⟩ (VS.of_le ?_) ?_
 · exact leD
 rintro i ⟨h1, h2⟩
 by_cases hi : ¬ i < s.data.toList.length
 · repeat' (first | refine iZ ?_ | refine iX ?_ | refine ig ?_ | refine ca AN (e1) ?_ | exact jA | refine AF ?_ | refine two ?_ ?_ | refine AB fun c_ => ?_ | refine imp fun hc => ?_; try exact cx1 hc | refine all fun v_ => ?_)
   refine AI jE ?_
   ((with_reducible apply rq1); rfl; rfl)
   exact AA (congrArg AV.bool (decide_eq_true ⟨⟨by omega, by omega⟩, n1, n2, fun j h => h2 j h jB⟩).symm)
 replace hi := jY hi
 by_cases hl : Mi i s.data.toList[i]
 · have hl' := hl
   unfold Mi at hl'
   repeat' (first | refine iZ ?_ | refine iX ?_ | refine ig ?_ | refine ca AN (In _ _ _ _) ?_ | exact jA | refine AF ?_ | refine two ?_ ?_ | refine AB fun c_ => ?_ | refine imp fun hc => ?_; try exact cx1 hc | refine all fun v_ => ?_)
   all_goals
    refine ⟨i + 1, ⟨by omega, fun j hj hji => ?_⟩, by omega, VS.of_le ?_⟩
    · by_cases e : j = i
      · subst e; exact hl
      · exact h2 j hj jB
    · exact leD
 · have hl' := hl
   unfold Mi at hl'
   repeat' (first | refine iZ ?_ | refine iX ?_ | refine ig ?_ | refine ca AN (In _ _ _ _) ?_ | exact jA | refine AF ?_ | refine two ?_ ?_ | refine AB fun c_ => ?_ | refine imp fun hc => ?_; try exact cx1 hc | refine all fun v_ => ?_)
   all_goals
    refine AI jE ?_
    ((with_reducible apply rq1); rfl; rfl)
    exact AA (congrArg AV.bool (decide_eq_false fun k => hl (k.2.2.2 i hi)).symm)
theorem kind (l : List Fo) (vars : Int) (t : Bool) : ACr Tryz.prog GP 131 [.d (AO l), .int vars, .bool t] (.int (Cn l vars t)) := by
 refine AK (ts := [6]) Tryz.f131.ntmps Tryz.func131 rfl rfl rfl (by simp [Tryz.ntmps131]) fun W I => ?_
 repeat' (first | refine ca H5 (Ye _ _) ?_ | exact jA | refine AF ?_ | refine two ?_ ?_ | refine AB fun c_ => ?_ | refine imp fun hc => ?_; try exact cx1 hc | refine all fun v_ => ?_)
 all_goals
  refine AI jE ?_
  ((with_reducible apply rq1); rfl; rfl)
  refine AA (congrArg AV.int ?_)
  unfold Cn
  first
   | (rw [if_pos jB]; done)
   | (rw [if_neg jB, if_pos (by simp_all)]; done)
   | (rw [if_neg jB, if_neg (by simp_all)]; omega)
   | (simp_all; done)
theorem BD (G : List (Nat × List D)) (l : List Fo) (vars : Int) (t : Bool) : ACr Tryz.prog G 160 [.d (AO l), .int vars, .bool t] (.int (Cn l vars t)) := by
 refine AK (ts := [6]) Tryz.f160.ntmps Tryz.func160 rfl rfl rfl (by simp [Tryz.ntmps160]) fun W I => ?_
 repeat' (first | refine ca FH (Ln _ _ _) ?_ | exact jA | refine AF ?_ | refine two ?_ ?_ | refine AB fun c_ => ?_ | refine imp fun hc => ?_; try exact cx1 hc | refine all fun v_ => ?_)
 all_goals
  refine AI jE ?_
  ((with_reducible apply rq1); rfl; rfl)
  refine AA (congrArg AV.int ?_)
  unfold Cn
  first
   | (rw [if_pos jB]; done)
   | (rw [if_neg jB, if_pos (by simp_all)]; done)
   | (rw [if_neg jB, if_neg (by simp_all)]; omega)
   | (simp_all; done)
end Go.Proofs.YtnlfhnbcdfdhgaaGreatDoor
