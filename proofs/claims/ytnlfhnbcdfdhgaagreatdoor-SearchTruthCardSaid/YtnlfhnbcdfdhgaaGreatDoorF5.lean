/- A bundle of this claim's own texts: T9 G3 M1. -/
import Derived.Test.YtnlfhnbcdfdhgaaGreatDoorF2
import Derived.Test.YtnlfhnbcdfdhgaaGreatDoorF3
import Derived.Test.YtnlfhnbcdfdhgaaGreatDoorF4
set_option linter.unusedVariables false
set_option linter.unusedSimpArgs false
set_option maxRecDepth 100000
set_option maxHeartbeats 4000000
namespace Go.Proofs.YtnlfhnbcdfdhgaaGreatDoor
open Go Go.Av Go.Sp

theorem Eu {p q : Prop} (hp : p) (h : p → q := by
 apply cmp; (focus (first
  | ((with_reducible apply Dg); (focus rfl); (focus exact Ww); (focus exact op _ _ _ _ (by omega) (by omega)); (focus rfl))
  | ((with_reducible apply Bc); (focus rfl); (focus (decide +kernel)); (focus rfl); (focus exact Ww); (focus exact op _ _ _ _ (by omega) (by omega)); (focus rfl))
  ))
 exact fun h => h) : q := h hp
theorem Yt (l : List Fo) (vars : Int) : ACr Tryz.prog GP 133 [.d (AO l), .int vars] (.tup [.bool (Cp l vars).1, .int (Cp l vars).2]) := by
 have hE := Ends l
 generalize he : Aw l = p at hE
 obtain ⟨es, e⟩ := p
 refine AJ (ts := [4, 5]) 100 Tryz.func133 rfl rfl rfl (by simp) fun W I => ?_
 refine DB (t := 0) rfl fun hl => ?_
 repeat' (first
  | refine ca Am (hE) ?_
  | refine Eu ?_
  | refine ca DC (IA _ _) ?_
  | refine CH ?_
  | exact True.intro
  | refine stp ?_
  | refine two ?_ ?_
  | (refine imp fun hc => ?_) <;> try exact cx hc
  | refine all fun v_ => ?_)
 all_goals try (
  refine A6 ?_
  ((with_reducible apply rq2); rfl; rfl; rfl)
  refine AB ?_
  unfold Cp
  first
   | (rw [if_pos (by omega)])
   | (rw [if_neg (by omega), he, if_pos (by assumption)]))
 have hok0 : ¬ e ≠ 0 := by assumption
 have e0 : e = 0 := by simpa using hok0
 subst e0
 obtain ⟨h60, h0, hend, hlen, hes⟩ := Ct he
 have hs : Cp l vars = if IX l vars ≠ 0 then (false, IX l vars) else if II l then (decide (C6 (BJ l 0)), 0) else (false, 5) := by
  rw [Cp, if_neg (by omega), he, if_neg (by simp)]
 have hv : 0 ≤ vars ∧ vars ≤ 6 := by omega
 have hall : ∀ (i : Nat) (hi : i < l.length), (Sp.AR l i).2 = 0 := fun i hi =>
  (Ja l l.length 0 1 l.length (by omega) (by omega) (by unfold Sp.AR at hend; exact hend) i (by omega) (by omega)).1
 dsimp only
 refine AM (X := Nat) (fun i => [(0, .d (AO l)), (1, .int vars), (6, .d (AK es)), (37, .d (AO l)), (38, .int l.length), (39, .int i)]) (fun _ => []) (fun i => i ≤ l.length ∧ IX l vars = IX (l.drop i) vars) (fun i => l.length - i) 0 ⟨Nat.zero_le _, rfl⟩ (VS.of_le ?_) ?_
 · exact leD
 rintro i ⟨k1, k2⟩
 by_cases hi : i < l.length
 · rw [UQ l i hi] at k2
   repeat' (first
    | refine ca Am (hE) ?_
    | refine Eu ?_
    | refine ca DC (IA _ _) ?_
    | refine CH ?_
    | exact True.intro
    | refine stp ?_
    | refine two ?_ ?_
    | (refine imp fun hc => ?_) <;> try exact cx hc
    | refine all fun v_ => ?_)
   · refine AN (VS.drop (List.nil_sublist _)) ?_
     ((with_reducible apply rq2); rfl; rfl; rfl)
     refine AB ?_
     rw [if_pos hc] at k2
     rw [hs, k2, if_pos hc]
   · rw [if_neg hc] at k2
     refine ⟨i + 1, ⟨by omega, k2⟩, by omega, vle (List.nil_sublist _) ?_⟩
     exact leD
 rw [YI l i (by omega)] at k2
 rw [k2, if_neg (by decide)] at hs
 repeat' (first
  | refine ca Am (hE) ?_
  | refine Eu ?_
  | refine ca DC (IA _ _) ?_
  | refine CH ?_
  | exact True.intro
  | refine stp ?_
  | refine two ?_ ?_
  | (refine imp fun hc => ?_) <;> try exact cx hc
  | refine all fun v_ => ?_)
 refine AM (X := Nat) (fun i => [(0, .d (AO l)), (6, .d (AK es)), (50, .d (AO l)), (51, .int l.length), (52, .int i)]) (fun _ => []) (fun i => i ≤ l.length ∧ ∀ q, q < i → Od l q) (fun i => l.length - i) 0 ⟨Nat.zero_le _, fun q hq => by omega⟩ (VS.of_le ?_) ?_
 · exact leD
 rintro i ⟨g1, g2⟩
 by_cases hi : i < l.length
 · have hki := Bq l i hi
   have hei := hes i (by omega)
   have hbi := A7 l i (hall i hi)
   have w0 := Ew.start hi (hall i hi)
   generalize hn : (partsOf l[i].kind).1.toNat = n at w0
   have hty : Od l i ↔ ∀ p ∈ EK l (n - 0) (i + 1), JJ l i p := by unfold Od; rw [hki, hn, Nat.sub_zero]
   repeat' (first
    | refine ca Am (hE) ?_
    | refine Eu ?_
    | refine ca DC (IA _ _) ?_
    | refine CH ?_
    | exact True.intro
    | refine stp ?_
    | refine two ?_ ?_
    | (refine imp fun hc => ?_) <;> try exact cx hc
    | refine all fun v_ => ?_)
   refine AM (X := Nat × Nat) (fun y => [(0, .d (AO l)), (6, .d (AK es)), (11, .int i), (14, .bool (decide (GV l[i].kind))), (16, .int y.2), (50, .d (AO l)), (51, .int l.length), (52, .int i)]) (fun _ => [])
    (fun y => Ew l n y.1 y.2 (Sp.AR l i).1.toNat ∧ (Od l i ↔ ∀ p ∈ EK l (n - y.1) y.2, JJ l i p)) (fun y => n - y.1) (0, i + 1) ⟨w0, hty⟩ (vle (List.nil_sublist _) ?_) ?_
   · exact leD
   rintro ⟨j, k⟩ ⟨w, hk⟩
   dsimp only at w hk ⊢
   have wlt := w.lt
   by_cases hj : j < n
   · obtain ⟨q1, q2, q3, q4⟩ := w.next hj
     have hkl : k < l.length := by omega
     have hkk := Bq l k hkl
     have hek := hes k (by omega)
     have e1 : n - j = (n - (j + 1)) + 1 := by omega
     rw [e1] at hk
     simp only [EK, List.mem_cons, forall_eq_or_imp] at hk
     repeat' (first
      | refine ca Am (hE) ?_
      | refine Eu ?_
      | refine ca DC (IA _ _) ?_
      | refine CH ?_
      | exact True.intro
      | refine stp ?_
      | refine two ?_ ?_
      | (refine imp fun hc => ?_) <;> try exact cx hc
      | refine all fun v_ => ?_)
     · have hf : JJ l i k := by
        unfold JJ
        rw [hkk, hki]
        simp only [beq_iff_eq, decide_eq_decide] at hc
        exact hc
       refine ⟨(j + 1, (Sp.AR l k).1.toNat), ⟨q4, ?_⟩, by dsimp only; omega, VS.of_le ?_⟩
       · rw [hk]
         exact ⟨fun h => h.2, fun h => ⟨hf, h⟩⟩
       · exact leD
     · have hf : ¬ JJ l i k := by
        unfold JJ
        rw [hkk, hki]
        intro h
        rw [beq_eq_false_iff_ne] at hc
        exact hc (decide_eq_decide.2 h)
       refine A6 ?_
       ((with_reducible apply rq2); rfl; rfl; rfl)
       refine AB ?_
       have : ¬ II l := fun h => hf (hk.1 (h i hi)).1
       rw [hs, if_neg this]
   · have hjn : j = n := by have := w.le; omega
     repeat' (first
      | refine ca Am (hE) ?_
      | refine Eu ?_
      | refine ca DC (IA _ _) ?_
      | refine CH ?_
      | exact True.intro
      | refine stp ?_
      | refine two ?_ ?_
      | (refine imp fun hc => ?_) <;> try exact cx hc
      | refine all fun v_ => ?_)
     refine ⟨i + 1, ⟨by omega, fun q hq => ?_⟩, by omega, VS.of_le ?_⟩
     · by_cases hqi : q < i
       · exact g2 q hqi
       · obtain rfl : q = i := by omega
         refine hk.2 fun p hp => ?_
         rw [hjn, Nat.sub_self] at hp
         simp [EK] at hp
     · exact leD
 · repeat' (first
    | refine ca Am (hE) ?_
    | refine Eu ?_
    | refine ca DC (IA _ _) ?_
    | refine CH ?_
    | exact True.intro
    | refine stp ?_
    | refine two ?_ ?_
    | (refine imp fun hc => ?_) <;> try exact cx hc
    | refine all fun v_ => ?_)
   refine A6 ?_
   ((with_reducible apply rq2); rfl; rfl; rfl)
   refine AB ?_
   have : II l := fun q hq => g2 q (by omega)
   rw [hs, if_pos this, Bq l 0 h0]
end Go.Proofs.YtnlfhnbcdfdhgaaGreatDoor
namespace Go.Sp
open Go Go.Av

structure Vr where
 name : ByteArray
 low : Int
 high : Int
 init : Int
def Vr.cells (v : Vr) : List D := [.s v.name, .i .i64 v.low, .i .i64 v.high, .i .i64 v.init]
abbrev BT (l : List Vr) : D := .l 4 40 (l.map Vr.cells)
structure St where
 var : Int
 val : List Fo
def St.cells (s : St) : List D := [.i .i64 s.var, AO s.val]
abbrev Tw (l : List St) : D := .l 2 32 (l.map St.cells)
structure Ru where
 guard : List Fo
 sets : List St
def Ru.cells (r : Ru) : List D := [AO r.guard, Tw r.sets]
abbrev A2 (l : List Ru) : D := .l 2 48 (l.map Ru.cells)
structure Md where
 vars : List Vr
 rules : List Ru
abbrev mdA (m : Md) : AV := .agg [.d (BT m.vars), .d (A2 m.rules)]

def Mg (i : Nat) (c : UInt8) : Prop := (97 ≤ c.toNat ∧ c.toNat ≤ 122) ∨ (48 ≤ c.toNat ∧ c.toNat ≤ 57 ∧ i ≠ 0)
instance (i : Nat) (c : UInt8) : Decidable (Mg i c) := by unfold Mg; infer_instance
abbrev fG : ByteArray := ⟨#[121, 101, 115]⟩
abbrev noS : ByteArray := ⟨#[110, 111]⟩
def KF (s : ByteArray) : Prop := (1 ≤ s.data.toList.length ∧ s.data.toList.length ≤ 8) ∧ s ≠ fG ∧ s ≠ noS ∧ ∀ (i : Nat) (h : i < s.data.toList.length), Mg i s.data.toList[i]
noncomputable instance (s : ByteArray) : Decidable (KF s) := Classical.propDecidable _

noncomputable instance (a : ByteArray) (l : List ByteArray) : Decidable (a ∈ l) := Classical.propDecidable _
def BD (v : Vr) : Int := v.high - v.low + 1
def D5 (v : Vr) : Prop := -1000 ≤ v.low ∧ v.high ≤ 1000 ∧ v.low ≤ v.high ∧ v.low ≤ v.init ∧ v.init ≤ v.high
instance (v : Vr) : Decidable (D5 v) := by unfold D5; infer_instance
noncomputable def Fa : List Vr → List ByteArray → Int → Int
 | [], _, _ => 0
 | v :: l, seen, n =>
   if ¬ KF v.name then 6 else if v.name ∈ seen then 7 else if ¬ D5 v then 2 else if 64 < BD v then 1 else if 4096 < n * BD v then 1 else Fa l (seen ++ [v.name]) (n * BD v)
noncomputable def Ez (l : List Vr) : Int := if 6 < l.length then 1 else Fa l [] 1
theorem Ye (l : List Vr) (i : Nat) (h : i < l.length) (seen : List ByteArray) (n : Int) : Fa (l.drop i) seen n =
 if ¬ KF l[i].name then 6 else if l[i].name ∈ seen then 7 else if ¬ D5 l[i] then 2 else if 64 < BD l[i] then 1 else if 4096 < n * BD l[i] then 1 else Fa (l.drop (i + 1)) (seen ++ [l[i].name]) (n * BD l[i]) := by
 rw [List.drop_eq_getElem_cons h, Fa]
theorem V9 (l : List Vr) (i : Nat) (h : l.length ≤ i) (seen : List ByteArray) (n : Int) : Fa (l.drop i) seen n = 0 := by rw [List.drop_of_length_le h, Fa]

noncomputable def Cj (l : List Fo) (vars : Int) (IA : Bool) : Int := if (Cp l vars).2 ≠ 0 then (Cp l vars).2 else if (Cp l vars).1 ≠ IA then 5 else 0
noncomputable def FL (vars : Int) : List St → List Int → Int
 | [], _ => 0
 | s :: l, seen => if ¬ (0 ≤ s.var ∧ s.var < vars) then 2 else if s.var ∈ seen then 7 else if Cj s.val vars false ≠ 0 then Cj s.val vars false else FL vars l (seen ++ [s.var])
noncomputable def ED (r : Ru) (vars : Int) : Int := if 6 < r.sets.length then 1 else if Cj r.guard vars true ≠ 0 then Cj r.guard vars true else FL vars r.sets []
theorem YE (vars : Int) (l : List St) (i : Nat) (h : i < l.length) (seen : List Int) : FL vars (l.drop i) seen =
 if ¬ (0 ≤ l[i].var ∧ l[i].var < vars) then 2 else if l[i].var ∈ seen then 7 else if Cj l[i].val vars false ≠ 0 then Cj l[i].val vars false else FL vars (l.drop (i + 1)) (seen ++ [l[i].var]) := by
 rw [List.drop_eq_getElem_cons h, FL]
theorem Us (vars : Int) (l : List St) (i : Nat) (h : l.length ≤ i) (seen : List Int) : FL vars (l.drop i) seen = 0 := by rw [List.drop_of_length_le h, FL]
noncomputable def D0 (vars : Int) : List Ru → Int
 | [] => 0
 | r :: l => if ED r vars ≠ 0 then ED r vars else D0 vars l
theorem Vc (vars : Int) (l : List Ru) (i : Nat) (h : i < l.length) : D0 vars (l.drop i) = if ED l[i] vars ≠ 0 then ED l[i] vars else D0 vars (l.drop (i + 1)) := by
 rw [List.drop_eq_getElem_cons h, D0]
theorem R3 (vars : Int) (l : List Ru) (i : Nat) (h : l.length ≤ i) : D0 vars (l.drop i) = 0 := by rw [List.drop_of_length_le h, D0]
noncomputable def Ag (m : Md) : Int := if Ez m.vars ≠ 0 then Ez m.vars else if 12 < m.rules.length then 1 else D0 m.vars.length m.rules
end Go.Sp
namespace Go.Proofs.YtnlfhnbcdfdhgaaGreatDoor
open Go Go.Av Go.Sp

theorem CK : Cal Tryz.prog 193 := Cal.of Tryz.func193 (by kernel_rfl) (by kernel_rfl)
theorem Bw : Cal Tryz.prog 131 := Cal.of Tryz.func131 (by kernel_rfl) (by kernel_rfl)
theorem name (G : List (Nat × List D)) (s : ByteArray) : ACr Tryz.prog G 193 [.val (.string s)] (.bool (decide (KF s))) := by
 refine AJ (ts := [2]) Tryz.f193.ntmps Tryz.func193 rfl rfl rfl (by simp [Tryz.ntmps193]) fun W I => ?_
 repeat' (first
  | ((with_reducible apply jp); (focus ((with_reducible apply GU); rfl; rfl)); (focus rfl))
  | ((with_reducible apply jp); (focus ((with_reducible apply pu_at_str); rfl; rfl; rfl; (focus exact Af))); (focus rfl))
  | ((with_reducible apply Hi); (focus rfl); (focus rfl); (focus rfl); (focus rfl); (focus omega); (focus rfl))
  | exact True.intro | refine AG ?_ | refine two ?_ ?_ | refine AF fun c_ => ?_
  | (refine imp fun hc => ?_) <;> try exact cx1 hc
  | refine all fun v_ => ?_)
 all_goals first
  | (refine AN (VS.drop (List.nil_sublist _)) ?_
     ((with_reducible apply rq1); rfl; rfl)
     refine AB (congrArg AV.bool (decide_eq_false ?_).symm)
     rintro ⟨⟨a1, a2⟩, a3, a4, a5⟩
     first
      | omega
      | exact a3 ((IJ _ _).1 hc)
      | exact a4 ((IJ _ _).1 hc)
      | (have hz := (IJ _ _).1 hc; subst hz; simp at a1))
  | skip
 rename_i q1 q2 q3
 have n1 : s ≠ fG := fun e => by rw [(IJ _ _).2 e] at q3; cases q3
 have n2 : s ≠ noS := fun e => by rw [(IJ _ _).2 e] at hc; cases hc
 have n0 : 1 ≤ s.data.toList.length := by
  rcases Nat.eq_zero_or_pos s.data.toList.length with h0 | h0
  · exfalso
    have : s = ⟨#[]⟩ := by
     obtain ⟨a⟩ := s
     have : a = #[] := by
      apply Array.toList_inj.1
      simpa using h0
     rw [this]
    rw [(IJ _ _).2 this] at q1; cases q1
  · exact h0
 refine AM (X := Nat) (fun i => [(21, .d (B0 s.data.toList)), (22, .int s.data.toList.length), (23, .int i)]) (fun _ => []) (fun i => i ≤ s.data.toList.length ∧ ∀ j (h : j < s.data.toList.length), j < i → Mg j s.data.toList[j]) (fun i => s.data.toList.length - i) 0 ⟨Nat.zero_le _, fun _ _ h => absurd h (Nat.not_lt_zero _)⟩ (VS.of_le ?_) ?_
 · exact leD
 rintro i ⟨h1, h2⟩
 by_cases hi : ¬ i < s.data.toList.length
 · repeat' (first
    | ((with_reducible apply jp); (focus ((with_reducible apply GU); rfl; rfl)); (focus rfl))
    | ((with_reducible apply jp); (focus ((with_reducible apply pu_at_str); rfl; rfl; rfl; (focus exact Af))); (focus rfl))
    | ((with_reducible apply Hi); (focus rfl); (focus rfl); (focus rfl); (focus rfl); (focus omega); (focus rfl))
    | exact True.intro | refine AG ?_ | refine two ?_ ?_ | refine AF fun c_ => ?_
    | (refine imp fun hc => ?_) <;> try exact cx1 hc
    | refine all fun v_ => ?_)
   refine AN (VS.drop (List.nil_sublist _)) ?_
   ((with_reducible apply rq1); rfl; rfl)
   exact AB (congrArg AV.bool (decide_eq_true ⟨⟨n0, by omega⟩, n1, n2, fun j h => h2 j h (by omega)⟩).symm)
 replace hi := Decidable.not_not.1 hi
 by_cases hl : Mg i s.data.toList[i]
 · have hl' := hl
   unfold Mg at hl'
   repeat' (first
    | ((with_reducible apply jp); (focus ((with_reducible apply GU); rfl; rfl)); (focus rfl))
    | ((with_reducible apply jp); (focus ((with_reducible apply pu_at_str); rfl; rfl; rfl; (focus exact Af))); (focus rfl))
    | ((with_reducible apply Hi); (focus rfl); (focus rfl); (focus rfl); (focus rfl); (focus omega); (focus rfl))
    | exact True.intro | refine AG ?_ | refine two ?_ ?_ | refine AF fun c_ => ?_
    | (refine imp fun hc => ?_) <;> try exact cx1 hc
    | refine all fun v_ => ?_)
   all_goals
    refine ⟨i + 1, ⟨by omega, fun j hj hji => ?_⟩, by omega, VS.of_le ?_⟩
    · by_cases e : j = i
      · subst e; exact hl
      · exact h2 j hj (by omega)
    · exact leD
 · have hl' := hl
   unfold Mg at hl'
   repeat' (first
    | ((with_reducible apply jp); (focus ((with_reducible apply GU); rfl; rfl)); (focus rfl))
    | ((with_reducible apply jp); (focus ((with_reducible apply pu_at_str); rfl; rfl; rfl; (focus exact Af))); (focus rfl))
    | ((with_reducible apply Hi); (focus rfl); (focus rfl); (focus rfl); (focus rfl); (focus omega); (focus rfl))
    | exact True.intro | refine AG ?_ | refine two ?_ ?_ | refine AF fun c_ => ?_
    | (refine imp fun hc => ?_) <;> try exact cx1 hc
    | refine all fun v_ => ?_)
   all_goals
    refine AN (VS.drop (List.nil_sublist _)) ?_
    ((with_reducible apply rq1); rfl; rfl)
    exact AB (congrArg AV.bool (decide_eq_false fun k => hl (k.2.2.2 i hi)).symm)
theorem kind (l : List Fo) (vars : Int) (t : Bool) : ACr Tryz.prog GP 131 [.d (AO l), .int vars, .bool t] (.int (Cj l vars t)) := by
 refine AJ (ts := [6]) Tryz.f131.ntmps Tryz.func131 rfl rfl rfl (by simp [Tryz.ntmps131]) fun W I => ?_
 repeat' (first
  | refine ca GJ (Yt _ _) ?_
  | exact True.intro | refine AG ?_ | refine two ?_ ?_ | refine AF fun c_ => ?_
  | (refine imp fun hc => ?_) <;> try exact cx1 hc
  | refine all fun v_ => ?_)
 all_goals
  refine AN (VS.drop (List.nil_sublist _)) ?_
  ((with_reducible apply rq1); rfl; rfl)
  refine AB (congrArg AV.int ?_)
  unfold Cj
  first
   | (rw [if_pos (by omega)]; done)
   | (rw [if_neg (by omega), if_pos (by simp_all)]; done)
   | (rw [if_neg (by omega), if_neg (by simp_all)]; omega)
   | (simp_all; done)
end Go.Proofs.YtnlfhnbcdfdhgaaGreatDoor
