/- A bundle of this claim's own texts: G4 M5 G5. -/
import Derived.Test.YtnlfhnbcdfdhgaaGreatDoorF5
import Derived.Test.YtnlfhnbcdfdhgaaGreatDoorF7
set_option linter.unusedVariables false
set_option linter.unusedSimpArgs false
set_option maxRecDepth 100000
set_option maxHeartbeats 4000000
namespace Go.Sp
open Go Go.Av

noncomputable def DX (vars : Int) : List (List Fo) → Int
 | [] => 0
 | p :: l => if Cj p vars true ≠ 0 then Cj p vars true else DX vars l
theorem VI (vars : Int) (l : List (List Fo)) (i : Nat) (h : i < l.length) : DX vars (l.drop i) = if Cj l[i] vars true ≠ 0 then Cj l[i] vars true else DX vars (l.drop (i + 1)) := by
 rw [List.drop_eq_getElem_cons h, DX]
theorem SQ (vars : Int) (l : List (List Fo)) (i : Nat) (h : l.length ≤ i) : DX vars (l.drop i) = 0 := by rw [List.drop_of_length_le h, DX]
noncomputable def Cd (m : Md) (l : List (List Fo)) : Int := if Ag m ≠ 0 then Ag m else if 6 < l.length then 1 else DX m.vars.length l

def AQ : List Vr → Int
 | [] => 1
 | v :: l => BD v * AQ l
theorem Ea : ∀ a b : List Vr, AQ (a ++ b) = AQ a * AQ b
 | [], b => by simp [AQ]
 | v :: a, b => by simp only [List.cons_append, AQ, Ea a b, Int.mul_assoc]
structure JN (l : List Vr) : Prop where
 range : ∀ v ∈ l, D5 v
 span : ∀ v ∈ l, 1 ≤ BD v ∧ BD v ≤ 64
 all : AQ l ≤ 4096
theorem Dy : ∀ {l : List Vr}, (∀ v ∈ l, 1 ≤ BD v) → 1 ≤ AQ l
 | [], _ => by simp [AQ]
 | v :: l, h => by
   have h1 := h v List.mem_cons_self
   have h2 := Dy fun w hw => h w (List.mem_cons_of_mem v hw)
   simp only [AQ]
   exact Int.le_trans (by omega) (Int.mul_le_mul h1 h2 (by omega) (by omega))
theorem JN.take {l : List Vr} (g : JN l) (i : Nat) : 1 ≤ AQ (l.take i) ∧ AQ (l.take i) ≤ 4096 ∧ 1 ≤ AQ (l.drop i) ∧ AQ (l.drop i) ≤ 4096 := by
 have e : AQ l = AQ (l.take i) * AQ (l.drop i) := by rw [← Ea, List.take_append_drop]
 have h1 : 1 ≤ AQ (l.take i) := Dy fun v hv => (g.span v (List.mem_of_mem_take hv)).1
 have h2 : 1 ≤ AQ (l.drop i) := Dy fun v hv => (g.span v (List.mem_of_mem_drop hv)).1
 have h3 := g.all
 have h4 : AQ (l.take i) * 1 ≤ AQ (l.take i) * AQ (l.drop i) := Int.mul_le_mul_of_nonneg_left h2 (by omega)
 have h5 : 1 * AQ (l.drop i) ≤ AQ (l.take i) * AQ (l.drop i) := Int.mul_le_mul_of_nonneg_right h1 (by omega)
 omega
theorem Le : ∀ (l : List Vr) (seen : List ByteArray) (n : Int), 1 ≤ n → n ≤ 4096 → Fa l seen n = 0 → (∀ v ∈ l, D5 v ∧ BD v ≤ 64) ∧ n * AQ l ≤ 4096
 | [], _, n, _, h, _ => ⟨by simp, by simp [AQ]; omega⟩
 | v :: l, seen, n, h1, h2, h => by
   rw [Fa] at h
   by_cases c1 : ¬ KF v.name
   · rw [if_pos c1] at h; cases h
   rw [if_neg c1] at h
   by_cases c2 : v.name ∈ seen
   · rw [if_pos c2] at h; cases h
   rw [if_neg c2] at h
   by_cases c3 : ¬ D5 v
   · rw [if_pos c3] at h; cases h
   rw [if_neg c3] at h
   by_cases c4 : 64 < BD v
   · rw [if_pos c4] at h; cases h
   rw [if_neg c4] at h
   by_cases c5 : 4096 < n * BD v
   · rw [if_pos c5] at h; cases h
   rw [if_neg c5] at h
   have hr := Decidable.not_not.1 c3
   have hs : 1 ≤ BD v := by unfold BD; have := hr.2.2.1; omega
   have hp : 1 ≤ n * BD v := Int.le_trans (by omega) (Int.mul_le_mul h1 hs (by omega) (by omega))
   obtain ⟨i1, i2⟩ := Le l _ _ hp (by omega) h
   refine ⟨fun w hw => ?_, ?_⟩
   · rcases List.mem_cons.1 hw with rfl | hw
     · exact ⟨hr, by omega⟩
     · exact i1 w hw
   · rw [AQ, ← Int.mul_assoc]; exact i2
theorem KI {l : List Vr} (h : Ez l = 0) : JN l := by
 unfold Ez at h
 by_cases c : 6 < l.length
 · rw [if_pos c] at h; cases h
 rw [if_neg c] at h
 obtain ⟨h1, h2⟩ := Le l [] 1 (by decide) (by decide) h
 exact ⟨fun v hv => (h1 v hv).1, fun v hv => ⟨by unfold BD; have := (h1 v hv).1.2.2.1; omega, (h1 v hv).2⟩, by simpa using h2⟩
theorem Be {m : Md} (h : Ag m = 0) : Ez m.vars = 0 := by
 unfold Ag at h
 by_cases c : Ez m.vars ≠ 0
 · rw [if_pos c] at h; exact absurd h c
 · omega
noncomputable def IF (m : Md) : Int × Int := if Ag m ≠ 0 then (0, Ag m) else (AQ m.vars, 0)
theorem Gj (l : List Vr) (i : Nat) (h : i < l.length) : AQ (l.take (i + 1)) = AQ (l.take i) * BD l[i] := by
 rw [List.take_succ_eq_append_getElem h, Ea]
 simp [AQ]
def cE (l : List Vr) (a k : Nat) : Int := AQ ((l.drop a).take (k - a))
theorem JN.drop {l : List Vr} (g : JN l) (a : Nat) : JN (l.drop a) where
 range v hv := g.range v (List.mem_of_mem_drop hv)
 span v hv := g.span v (List.mem_of_mem_drop hv)
 all := (g.take a).2.2.2
theorem JN.R {l : List Vr} (g : JN l) (a k : Nat) : 1 ≤ cE l a k ∧ cE l a k ≤ 4096 := by
 have := (g.drop a).take (k - a)
 exact ⟨this.1, this.2.1⟩
end Go.Sp
namespace Go.Proofs.YtnlfhnbcdfdhgaaGreatDoor
open Go Go.Av Go.Sp

theorem F8 : Cal Tryz.prog 81 := Cal.of Tryz.func81 (by kernel_rfl) (by kernel_rfl)
theorem Ca : Cal Tryz.prog 132 := Cal.of Tryz.func132 (by kernel_rfl) (by kernel_rfl)
theorem bq (m : Md) (l : List (List Fo)) : ACr Tryz.prog GP 81 [mdA m, .d (BU l)] (.int (Cd m l)) := by
 refine AJ (ts := [4]) Tryz.f81.ntmps Tryz.func81 rfl rfl rfl (by simp [Tryz.ntmps81]) fun W I => ?_
 by_cases c1 : Ag m ≠ 0
 · repeat' (first
    | refine ca Aq (CE _) ?_
    | refine ca Bw (kind _ _ _) ?_
    | exact True.intro | refine AG ?_ | refine two ?_ ?_ | refine AF fun c_ => ?_
    | (refine imp fun hc => ?_) <;> try exact cx1 hc
    | refine all fun v_ => ?_)
   refine AN (VS.drop (List.nil_sublist _)) ?_
   ((with_reducible apply rq1); rfl; rfl)
   exact AB (by rw [Cd, if_pos c1])
 by_cases c2 : 6 < l.length
 · repeat' (first
    | refine ca Aq (CE _) ?_
    | refine ca Bw (kind _ _ _) ?_
    | exact True.intro | refine AG ?_ | refine two ?_ ?_ | refine AF fun c_ => ?_
    | (refine imp fun hc => ?_) <;> try exact cx1 hc
    | refine all fun v_ => ?_)
   refine AN (VS.drop (List.nil_sublist _)) ?_
   ((with_reducible apply rq1); rfl; rfl)
   exact AB (by rw [Cd, if_neg c1, if_pos c2])
 have hF : Cd m l = DX m.vars.length l := by rw [Cd, if_neg c1, if_neg c2]
 repeat' (first
  | refine ca Aq (CE _) ?_
  | refine ca Bw (kind _ _ _) ?_
  | exact True.intro | refine AG ?_ | refine two ?_ ?_ | refine AF fun c_ => ?_
  | (refine imp fun hc => ?_) <;> try exact cx1 hc
  | refine all fun v_ => ?_)
 refine AM (X := Nat) (fun i => [(2, .val (.pointer (some ⟨v_, 0, none⟩))), (17, .d (BU l)), (18, .int l.length), (19, .int i)]) (fun _ => [.cells v_ 25 [.d (BT m.vars), .d (A2 m.rules)]]) (fun i => i ≤ l.length ∧ Cd m l = DX m.vars.length (l.drop i)) (fun i => l.length - i) 0 ⟨Nat.zero_le _, hF⟩ (VS.of_le ?_) ?_
 · exact leD
 rintro i ⟨h1, h4⟩
 by_cases hi : ¬ i < l.length
 · rw [SQ _ _ i (by omega)] at h4
   repeat' (first
    | refine ca Aq (CE _) ?_
    | refine ca Bw (kind _ _ _) ?_
    | exact True.intro | refine AG ?_ | refine two ?_ ?_ | refine AF fun c_ => ?_
    | (refine imp fun hc => ?_) <;> try exact cx1 hc
    | refine all fun v_ => ?_)
   refine AN (VS.drop (List.nil_sublist _)) ?_
   ((with_reducible apply rq1); rfl; rfl)
   exact AB (by rw [h4])
 replace hi := Decidable.not_not.1 hi
 rw [VI _ _ i hi] at h4
 by_cases c3 : Cj l[i] m.vars.length true ≠ 0
 · rw [if_pos c3] at h4
   repeat' (first
    | refine ca Aq (CE _) ?_
    | refine ca Bw (kind _ _ _) ?_
    | exact True.intro | refine AG ?_ | refine two ?_ ?_ | refine AF fun c_ => ?_
    | (refine imp fun hc => ?_) <;> try exact cx1 hc
    | refine all fun v_ => ?_)
   refine AN (VS.drop (List.nil_sublist _)) ?_
   ((with_reducible apply rq1); rfl; rfl)
   exact AB (by rw [h4])
 rw [if_neg c3] at h4
 repeat' (first
  | refine ca Aq (CE _) ?_
  | refine ca Bw (kind _ _ _) ?_
  | exact True.intro | refine AG ?_ | refine two ?_ ?_ | refine AF fun c_ => ?_
  | (refine imp fun hc => ?_) <;> try exact cx1 hc
  | refine all fun v_ => ?_)
 refine ⟨i + 1, ⟨by omega, h4⟩, by omega, VS.take (by exact AW) ?_⟩
 exact leD
theorem Count (m : Md) : ACr Tryz.prog GP 132 [mdA m] (.tup [.int (IF m).1, .int (IF m).2]) := by
 refine AJ (ts := [2, 3]) Tryz.f132.ntmps Tryz.func132 rfl rfl rfl (by simp [Tryz.ntmps132]) fun W I => ?_
 by_cases c1 : Ag m ≠ 0
 · repeat' (first
    | refine ca Aq (CE _) ?_
    | exact True.intro | refine AG ?_ | refine two ?_ ?_ | refine AF fun c_ => ?_
    | (refine imp fun hc => ?_) <;> try exact cx1 hc
    | refine all fun v_ => ?_)
   refine AN (VS.drop (List.nil_sublist _)) ?_
   ((with_reducible apply rq2); rfl; rfl; rfl)
   exact AB (by rw [IF, if_pos c1])
 have hv := Be (show Ag m = 0 by omega)
 have g := KI hv
 have hl6 := He hv
 repeat' (first
  | refine ca Aq (CE _) ?_
  | exact True.intro | refine AG ?_ | refine two ?_ ?_ | refine AF fun c_ => ?_
  | (refine imp fun hc => ?_) <;> try exact cx1 hc
  | refine all fun v_ => ?_)
 refine AM (X := Nat) (fun i => [(5, .int (AQ (m.vars.take i))), (14, .d (BT m.vars)), (15, .int m.vars.length), (16, .int i)]) (fun _ => []) (fun i => i ≤ m.vars.length) (fun i => m.vars.length - i) 0 (Nat.zero_le _) (VS.trans (VS.drop (List.nil_sublist _)) (VS.of_le ?_)) ?_
 · exact leD
 rintro i h1
 by_cases hi : ¬ i < m.vars.length
 · obtain rfl : i = m.vars.length := by omega
   repeat' (first
    | refine ca Aq (CE _) ?_
    | exact True.intro | refine AG ?_ | refine two ?_ ?_ | refine AF fun c_ => ?_
    | (refine imp fun hc => ?_) <;> try exact cx1 hc
    | refine all fun v_ => ?_)
   refine AN (VS.drop (List.nil_sublist _)) ?_
   ((with_reducible apply rq2); rfl; rfl; rfl)
   exact AB (by rw [IF, if_neg c1, List.take_length])
 replace hi := Decidable.not_not.1 hi
 have e := Gj m.vars i hi
 have b1 := g.take i
 have b2 := g.take (i + 1)
 have b3 := g.range _ (List.getElem_mem hi)
 obtain ⟨d1, d2, d3, d4, d5⟩ := b3
 rw [e] at b2
 have hsp : BD m.vars[i] = m.vars[i].high - m.vars[i].low + 1 := rfl
 rw [hsp] at b2 e
 have hin : AX (AQ (m.vars.take i) * (m.vars[i].high - m.vars[i].low + 1)) := ⟨by omega, by omega⟩
 repeat' (first
  | refine ca Aq (CE _) ?_
  | exact True.intro | refine AG ?_ | refine two ?_ ?_ | refine AF fun c_ => ?_
  | (refine imp fun hc => ?_) <;> try exact cx1 hc
  | refine all fun v_ => ?_)
 refine ⟨i + 1, by omega, by omega, ?_⟩
 rw [e]
 refine VS.trans (VS.drop (List.nil_sublist _)) (VS.of_le ?_)
 exact leD
end Go.Proofs.YtnlfhnbcdfdhgaaGreatDoor
namespace Go.Sp
open Go Go.Av

def Dh (n : Int) : List Vr → List Int → Int × Int
 | v :: l, x :: xs => if v.low ≤ x ∧ x ≤ v.high then Dh (n * BD v + (x - v.low)) l xs else (0, 9)
 | _, _ => (n, 0)
theorem XI (n : Int) (l : List Vr) (xs : List Int) (i : Nat) (h : i < l.length) (h' : i < xs.length) : Dh n (l.drop i) (xs.drop i) = if l[i].low ≤ xs[i] ∧ xs[i] ≤ l[i].high then Dh (n * BD l[i] + (xs[i] - l[i].low)) (l.drop (i + 1)) (xs.drop (i + 1)) else (0, 9) := by
 rw [List.drop_eq_getElem_cons h, List.drop_eq_getElem_cons h', Dh]
theorem Ut (n : Int) (l : List Vr) (xs : List Int) (i : Nat) (h : l.length ≤ i) : Dh n (l.drop i) (xs.drop i) = (n, 0) := by rw [List.drop_of_length_le h]; cases xs.drop i <;> rfl
noncomputable def codeF (m : Md) (xs : List Int) : Int × Int := if Ag m ≠ 0 then (0, Ag m) else if xs.length ≠ m.vars.length then (0, 9) else Dh 0 m.vars xs
theorem Lw (l : List Vr) (i : Nat) (h : i < l.length) : AQ (l.drop i) = BD l[i] * AQ (l.drop (i + 1)) := by
 rw [List.drop_eq_getElem_cons h, AQ]
theorem KE {n p s d : Int} (h0 : 0 ≤ n) (h1 : n + 1 ≤ p) (hd0 : 0 ≤ d) (hd : d < s) : 0 ≤ n * s ∧ 0 ≤ n * s + d ∧ n * s + d + 1 ≤ p * s := by
 have a1 : 0 ≤ n * s := Int.mul_nonneg h0 (by omega)
 have a2 : (n + 1) * s ≤ p * s := Int.mul_le_mul_of_nonneg_right h1 (by omega)
 rw [Int.add_mul, Int.one_mul] at a2
 omega
end Go.Sp
