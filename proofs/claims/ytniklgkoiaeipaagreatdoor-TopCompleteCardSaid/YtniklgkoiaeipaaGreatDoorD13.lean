/- A bundle of this claim's own texts: G4 M5 G5. -/
import Derived.Test.YtniklgkoiaeipaaGreatDoorD2
import Derived.Test.YtniklgkoiaeipaaGreatDoorD12
set_option linter.unusedVariables false
set_option linter.unusedSimpArgs false
set_option maxRecDepth 100000
set_option maxHeartbeats 4000000
namespace Go.Sp
open Go Go.Av

noncomputable def propsE (vars : Int) : List (List Fo) → Int
 | [] => 0
 | p :: l => if kindF p vars true ≠ 0 then kindF p vars true else propsE vars l
theorem propsE_at (vars : Int) (l : List (List Fo)) (i : Nat) (h : i < l.length) : propsE vars (l.drop i) = if kindF l[i] vars true ≠ 0 then kindF l[i] vars true else propsE vars (l.drop (i + 1)) := by
 rw [List.drop_eq_getElem_cons h, propsE]
theorem propsE_end (vars : Int) (l : List (List Fo)) (i : Nat) (h : l.length ≤ i) : propsE vars (l.drop i) = 0 := by rw [List.drop_of_length_le h, propsE]
noncomputable def propsF (m : Md) (l : List (List Fo)) : Int := if modelF m ≠ 0 then modelF m else if 6 < l.length then 1 else propsE m.vars.length l

def prodV : List Vr → Int
 | [] => 1
 | v :: l => spanV v * prodV l
theorem prodV_append : ∀ a b : List Vr, prodV (a ++ b) = prodV a * prodV b
 | [], b => by simp [prodV]
 | v :: a, b => by simp only [List.cons_append, prodV, prodV_append a b, Int.mul_assoc]
structure GoodV (l : List Vr) : Prop where
 range : ∀ v ∈ l, rangeV v
 span : ∀ v ∈ l, 1 ≤ spanV v ∧ spanV v ≤ 64
 all : prodV l ≤ 4096
theorem prodV_pos : ∀ {l : List Vr}, (∀ v ∈ l, 1 ≤ spanV v) → 1 ≤ prodV l
 | [], _ => by simp [prodV]
 | v :: l, h => by
   have h1 := h v List.mem_cons_self
   have h2 := prodV_pos fun w hw => h w (List.mem_cons_of_mem v hw)
   simp only [prodV]
   exact Int.le_trans (by omega) (Int.mul_le_mul h1 h2 (by omega) (by omega))
theorem GoodV.take {l : List Vr} (g : GoodV l) (i : Nat) : 1 ≤ prodV (l.take i) ∧ prodV (l.take i) ≤ 4096 ∧ 1 ≤ prodV (l.drop i) ∧ prodV (l.drop i) ≤ 4096 := by
 have e : prodV l = prodV (l.take i) * prodV (l.drop i) := by rw [← prodV_append, List.take_append_drop]
 have h1 : 1 ≤ prodV (l.take i) := prodV_pos fun v hv => (g.span v (List.mem_of_mem_take hv)).1
 have h2 : 1 ≤ prodV (l.drop i) := prodV_pos fun v hv => (g.span v (List.mem_of_mem_drop hv)).1
 have h3 := g.all
 have h4 : prodV (l.take i) * 1 ≤ prodV (l.take i) * prodV (l.drop i) := Int.mul_le_mul_of_nonneg_left h2 (by omega)
 have h5 : 1 * prodV (l.drop i) ≤ prodV (l.take i) * prodV (l.drop i) := Int.mul_le_mul_of_nonneg_right h1 (by omega)
 omega
theorem varsE_good : ∀ (l : List Vr) (seen : List ByteArray) (n : Int), 1 ≤ n → n ≤ 4096 → varsE l seen n = 0 → (∀ v ∈ l, rangeV v ∧ spanV v ≤ 64) ∧ n * prodV l ≤ 4096
 | [], _, n, _, h, _ => ⟨by simp, by simp [prodV]; omega⟩
 | v :: l, seen, n, h1, h2, h => by
   rw [varsE] at h
   by_cases c1 : ¬ nameP v.name
   · rw [if_pos c1] at h; cases h
   rw [if_neg c1] at h
   by_cases c2 : v.name ∈ seen
   · rw [if_pos c2] at h; cases h
   rw [if_neg c2] at h
   by_cases c3 : ¬ rangeV v
   · rw [if_pos c3] at h; cases h
   rw [if_neg c3] at h
   by_cases c4 : 64 < spanV v
   · rw [if_pos c4] at h; cases h
   rw [if_neg c4] at h
   by_cases c5 : 4096 < n * spanV v
   · rw [if_pos c5] at h; cases h
   rw [if_neg c5] at h
   have hr := Decidable.not_not.1 c3
   have hs : 1 ≤ spanV v := by unfold spanV; have := hr.2.2.1; omega
   have hp : 1 ≤ n * spanV v := Int.le_trans (by omega) (Int.mul_le_mul h1 hs (by omega) (by omega))
   obtain ⟨i1, i2⟩ := varsE_good l _ _ hp (by omega) h
   refine ⟨fun w hw => ?_, ?_⟩
   · rcases List.mem_cons.1 hw with rfl | hw
     · exact ⟨hr, by omega⟩
     · exact i1 w hw
   · rw [prodV, ← Int.mul_assoc]; exact i2
theorem goodV {l : List Vr} (h : varsF l = 0) : GoodV l := by
 unfold varsF at h
 by_cases c : 6 < l.length
 · rw [if_pos c] at h; cases h
 rw [if_neg c] at h
 obtain ⟨h1, h2⟩ := varsE_good l [] 1 (by decide) (by decide) h
 exact ⟨fun v hv => (h1 v hv).1, fun v hv => ⟨by unfold spanV; have := (h1 v hv).1.2.2.1; omega, (h1 v hv).2⟩, by simpa using h2⟩
theorem modelF_vars {m : Md} (h : modelF m = 0) : varsF m.vars = 0 := by
 unfold modelF at h
 by_cases c : varsF m.vars ≠ 0
 · rw [if_pos c] at h; exact absurd h c
 · omega
noncomputable def countF (m : Md) : Int × Int := if modelF m ≠ 0 then (0, modelF m) else (prodV m.vars, 0)
theorem prodV_take_succ (l : List Vr) (i : Nat) (h : i < l.length) : prodV (l.take (i + 1)) = prodV (l.take i) * spanV l[i] := by
 rw [List.take_succ_eq_append_getElem h, prodV_append]
 simp [prodV]
end Go.Sp
namespace Go.Proofs.YtniklgkoiaeipaaGreatDoor
open Go Go.Av Go.Sp

theorem cal_Props : Cal Tryz.prog 90 := Cal.of Tryz.func90 (by kernel_rfl) (by kernel_rfl)
theorem cal_Count : Cal Tryz.prog 77 := Cal.of Tryz.func77 (by kernel_rfl) (by kernel_rfl)
theorem armXM5_1 {p q : Prop} (hp : p) (h : p → q := by
 apply cmp; (focus (first
  | ((with_reducible apply call0); (focus rfl); (focus exact cal_MdCheck); (focus exact MdCheck _); (focus rfl))
  | ((with_reducible apply je_call0); (focus rfl); (focus (decide +kernel)); (focus rfl); (focus exact cal_MdCheck); (focus exact MdCheck _); (focus rfl))
  | ((with_reducible apply call0); (focus rfl); (focus exact cal_kind); (focus exact kind _ _ _); (focus rfl))
  | ((with_reducible apply je_call0); (focus rfl); (focus (decide +kernel)); (focus rfl); (focus exact cal_kind); (focus exact kind _ _ _); (focus rfl))
  ))
 exact fun h => h) : q := h hp
theorem Props (m : Md) (l : List (List Fo)) : ACr Tryz.prog GP 90 [mdA m, .d (termsD l)] (.int (propsF m l)) := by
 refine AC_ofV (ts := [4]) Tryz.f90.ntmps Tryz.func90 rfl rfl rfl (by simp [Tryz.ntmps90]) fun W I => ?_
 by_cases c1 : modelF m ≠ 0
 · repeat' (first
    | refine armXM5_1 ?_
    | exact True.intro | refine stpH ?_ | refine two ?_ ?_ | refine allc fun c_ => ?_
    | (refine imp fun hc => ?_) <;> try exact cx1 hc
    | refine all fun v_ => ?_)
   refine retv (VS.drop (List.nil_sublist _)) ?_
   ((with_reducible apply rq1); rfl; rfl)
   exact ret_eq (by rw [propsF, if_pos c1])
 by_cases c2 : 6 < l.length
 · repeat' (first
    | refine armXM5_1 ?_
    | exact True.intro | refine stpH ?_ | refine two ?_ ?_ | refine allc fun c_ => ?_
    | (refine imp fun hc => ?_) <;> try exact cx1 hc
    | refine all fun v_ => ?_)
   refine retv (VS.drop (List.nil_sublist _)) ?_
   ((with_reducible apply rq1); rfl; rfl)
   exact ret_eq (by rw [propsF, if_neg c1, if_pos c2])
 have hF : propsF m l = propsE m.vars.length l := by rw [propsF, if_neg c1, if_neg c2]
 repeat' (first
  | refine armXM5_1 ?_
  | exact True.intro | refine stpH ?_ | refine two ?_ ?_ | refine allc fun c_ => ?_
  | (refine imp fun hc => ?_) <;> try exact cx1 hc
  | refine all fun v_ => ?_)
 refine J_loopV (X := Nat) (fun i => [(2, .val (.pointer (some ⟨v_, 0, none⟩))), (17, .d (termsD l)), (18, .int l.length), (19, .int i)]) (fun _ => [.cells v_ 25 [.d (varsD m.vars), .d (rulesD m.rules)]]) (fun i => i ≤ l.length ∧ propsF m l = propsE m.vars.length (l.drop i)) (fun i => l.length - i) 0 ⟨Nat.zero_le _, hF⟩ (VS.of_le ?_) ?_
 · exact leD
 rintro i ⟨h1, h4⟩
 by_cases hi : ¬ i < l.length
 · rw [propsE_end _ _ i (by omega)] at h4
   repeat' (first
    | refine armXM5_1 ?_
    | exact True.intro | refine stpH ?_ | refine two ?_ ?_ | refine allc fun c_ => ?_
    | (refine imp fun hc => ?_) <;> try exact cx1 hc
    | refine all fun v_ => ?_)
   refine retv (VS.drop (List.nil_sublist _)) ?_
   ((with_reducible apply rq1); rfl; rfl)
   exact ret_eq (by rw [h4])
 replace hi := Decidable.not_not.1 hi
 rw [propsE_at _ _ i hi] at h4
 by_cases c3 : kindF l[i] m.vars.length true ≠ 0
 · rw [if_pos c3] at h4
   repeat' (first
    | refine armXM5_1 ?_
    | exact True.intro | refine stpH ?_ | refine two ?_ ?_ | refine allc fun c_ => ?_
    | (refine imp fun hc => ?_) <;> try exact cx1 hc
    | refine all fun v_ => ?_)
   refine retv (VS.drop (List.nil_sublist _)) ?_
   ((with_reducible apply rq1); rfl; rfl)
   exact ret_eq (by rw [h4])
 rw [if_neg c3] at h4
 repeat' (first
  | refine armXM5_1 ?_
  | exact True.intro | refine stpH ?_ | refine two ?_ ?_ | refine allc fun c_ => ?_
  | (refine imp fun hc => ?_) <;> try exact cx1 hc
  | refine all fun v_ => ?_)
 refine ⟨i + 1, ⟨by omega, h4⟩, by omega, VS.take (by exact takeD) ?_⟩
 exact leD
theorem armXM5_3 {p q : Prop} (hp : p) (h : p → q := by
 apply cmp; (focus (first
  | ((with_reducible apply call0); (focus rfl); (focus exact cal_MdCheck); (focus exact MdCheck _); (focus rfl))
  | ((with_reducible apply je_call0); (focus rfl); (focus (decide +kernel)); (focus rfl); (focus exact cal_MdCheck); (focus exact MdCheck _); (focus rfl))
  ))
 exact fun h => h) : q := h hp
theorem Count (m : Md) : ACr Tryz.prog GP 77 [mdA m] (.tup [.int (countF m).1, .int (countF m).2]) := by
 refine AC_ofV (ts := [2, 3]) Tryz.f77.ntmps Tryz.func77 rfl rfl rfl (by simp [Tryz.ntmps77]) fun W I => ?_
 by_cases c1 : modelF m ≠ 0
 · repeat' (first
    | refine armXM5_3 ?_
    | exact True.intro | refine stpH ?_ | refine two ?_ ?_ | refine allc fun c_ => ?_
    | (refine imp fun hc => ?_) <;> try exact cx1 hc
    | refine all fun v_ => ?_)
   refine retv (VS.drop (List.nil_sublist _)) ?_
   ((with_reducible apply rq2); rfl; rfl; rfl)
   exact ret_eq (by rw [countF, if_pos c1])
 have hv := modelF_vars (show modelF m = 0 by omega)
 have g := goodV hv
 have hl6 := varsF_len hv
 repeat' (first
  | refine armXM5_3 ?_
  | exact True.intro | refine stpH ?_ | refine two ?_ ?_ | refine allc fun c_ => ?_
  | (refine imp fun hc => ?_) <;> try exact cx1 hc
  | refine all fun v_ => ?_)
 refine J_loopV (X := Nat) (fun i => [(5, .int (prodV (m.vars.take i))), (14, .d (varsD m.vars)), (15, .int m.vars.length), (16, .int i)]) (fun _ => []) (fun i => i ≤ m.vars.length) (fun i => m.vars.length - i) 0 (Nat.zero_le _) (VS.trans (VS.drop (List.nil_sublist _)) (VS.of_le ?_)) ?_
 · exact leD
 rintro i h1
 by_cases hi : ¬ i < m.vars.length
 · obtain rfl : i = m.vars.length := by omega
   repeat' (first
    | refine armXM5_3 ?_
    | exact True.intro | refine stpH ?_ | refine two ?_ ?_ | refine allc fun c_ => ?_
    | (refine imp fun hc => ?_) <;> try exact cx1 hc
    | refine all fun v_ => ?_)
   refine retv (VS.drop (List.nil_sublist _)) ?_
   ((with_reducible apply rq2); rfl; rfl; rfl)
   exact ret_eq (by rw [countF, if_neg c1, List.take_length])
 replace hi := Decidable.not_not.1 hi
 have e := prodV_take_succ m.vars i hi
 have b1 := g.take i
 have b2 := g.take (i + 1)
 have b3 := g.range _ (List.getElem_mem hi)
 obtain ⟨d1, d2, d3, d4, d5⟩ := b3
 rw [e] at b2
 have hsp : spanV m.vars[i] = m.vars[i].high - m.vars[i].low + 1 := rfl
 rw [hsp] at b2 e
 have hin : inI64 (prodV (m.vars.take i) * (m.vars[i].high - m.vars[i].low + 1)) := ⟨by omega, by omega⟩
 repeat' (first
  | refine armXM5_3 ?_
  | exact True.intro | refine stpH ?_ | refine two ?_ ?_ | refine allc fun c_ => ?_
  | (refine imp fun hc => ?_) <;> try exact cx1 hc
  | refine all fun v_ => ?_)
 refine ⟨i + 1, by omega, by omega, ?_⟩
 rw [e]
 refine VS.trans (VS.drop (List.nil_sublist _)) (VS.of_le ?_)
 exact leD
end Go.Proofs.YtniklgkoiaeipaaGreatDoor
namespace Go.Sp
open Go Go.Av

def codeE (n : Int) : List Vr → List Int → Int × Int
 | v :: l, x :: xs => if v.low ≤ x ∧ x ≤ v.high then codeE (n * spanV v + (x - v.low)) l xs else (0, 9)
 | _, _ => (n, 0)
theorem codeE_at (n : Int) (l : List Vr) (xs : List Int) (i : Nat) (h : i < l.length) (h' : i < xs.length) : codeE n (l.drop i) (xs.drop i) = if l[i].low ≤ xs[i] ∧ xs[i] ≤ l[i].high then codeE (n * spanV l[i] + (xs[i] - l[i].low)) (l.drop (i + 1)) (xs.drop (i + 1)) else (0, 9) := by
 rw [List.drop_eq_getElem_cons h, List.drop_eq_getElem_cons h', codeE]
theorem codeE_end (n : Int) (l : List Vr) (xs : List Int) (i : Nat) (h : l.length ≤ i) : codeE n (l.drop i) (xs.drop i) = (n, 0) := by rw [List.drop_of_length_le h]; cases xs.drop i <;> rfl
noncomputable def codeF (m : Md) (xs : List Int) : Int × Int := if modelF m ≠ 0 then (0, modelF m) else if xs.length ≠ m.vars.length then (0, 9) else codeE 0 m.vars xs
theorem prodV_drop (l : List Vr) (i : Nat) (h : i < l.length) : prodV (l.drop i) = spanV l[i] * prodV (l.drop (i + 1)) := by
 rw [List.drop_eq_getElem_cons h, prodV]
theorem horner_step {n p s d : Int} (h0 : 0 ≤ n) (h1 : n + 1 ≤ p) (hd0 : 0 ≤ d) (hd : d < s) : 0 ≤ n * s ∧ 0 ≤ n * s + d ∧ n * s + d + 1 ≤ p * s := by
 have a1 : 0 ≤ n * s := Int.mul_nonneg h0 (by omega)
 have a2 : (n + 1) * s ≤ p * s := Int.mul_le_mul_of_nonneg_right h1 (by omega)
 rw [Int.add_mul, Int.one_mul] at a2
 omega
end Go.Sp
