/- A bundle of this claim's own texts: M1 E7 Br. -/
import Derived.ProofKit
import Derived.Carry
import Derived.Lib.LaidTab
import Derived.Deep.Slices
import Derived.Below
import Derived.ChangeSame
import Derived.WideKeyArgs
import Derived.ShutString
import Derived.OpenShut
import Derived.Test.YtajnpfgelpkijaaGreatDoorZ1
import Derived.Test.YtajnpfgelpkijaaGreatDoorZ2
import Derived.Test.YtajnpfgelpkijaaGreatDoorZ5
set_option linter.unusedVariables false
set_option linter.unusedSimpArgs false
set_option maxRecDepth 100000
set_option maxHeartbeats 4000000
namespace Go.Proofs.YtajnpfgelpkijaaGreatDoor
open Go Go.Av Go.Sp

theorem cal_name : Cal Tryz.prog 156 := Cal.of Tryz.func156 (by kernel_rfl) (by kernel_rfl)
theorem cal_NameMay : Cal Tryz.prog 152 := Cal.of Tryz.func152 (by kernel_rfl) (by kernel_rfl)
theorem cal_kind : Cal Tryz.prog 90 := Cal.of Tryz.func90 (by kernel_rfl) (by kernel_rfl)
theorem cal_kindFault : Cal Tryz.prog 82 := Cal.of Tryz.func82 (by kernel_rfl) (by kernel_rfl)
theorem name (G : List (Nat × List D)) (s : ByteArray) : ACr Tryz.prog G 156 [.val (.string s)] (.bool (decide (nameP s))) := by
 refine AC_ofV (ts := [2]) Tryz.f156.ntmps Tryz.func156 rfl rfl rfl (by simp [Tryz.ntmps156]) fun W I => ?_
 repeat' (first
  | ((with_reducible apply jp); (focus ((with_reducible apply pu_len_str); rfl; rfl)); (focus rfl))
  | ((with_reducible apply jp); (focus ((with_reducible apply pu_at_str); rfl; rfl; rfl; (focus exact bndD))); (focus rfl))
  | ((with_reducible apply jstrbytes); (focus rfl); (focus rfl); (focus rfl); (focus rfl); (focus omega); (focus rfl))
  | exact True.intro | refine stpH ?_ | refine two ?_ ?_ | refine allc fun c_ => ?_
  | (refine imp fun hc => ?_) <;> try exact cx1 hc
  | refine all fun v_ => ?_)
 all_goals first
  | (refine retv (VS.drop (List.nil_sublist _)) ?_
     ((with_reducible apply rq1); rfl; rfl)
     refine ret_eq (congrArg AV.bool (decide_eq_false ?_).symm)
     rintro ⟨⟨a1, a2⟩, a3, a4, a5⟩
     first
      | omega
      | exact a3 ((ba_beq _ _).1 hc)
      | exact a4 ((ba_beq _ _).1 hc)
      | (have hz := (ba_beq _ _).1 hc; subst hz; simp at a1))
  | skip
 rename_i q1 q2 q3
 have n1 : s ≠ yesS := fun e => by rw [(ba_beq _ _).2 e] at q3; cases q3
 have n2 : s ≠ noS := fun e => by rw [(ba_beq _ _).2 e] at hc; cases hc
 have n0 : 1 ≤ s.data.toList.length := by
  rcases Nat.eq_zero_or_pos s.data.toList.length with h0 | h0
  · exfalso
    have : s = ⟨#[]⟩ := by
     obtain ⟨a⟩ := s
     have : a = #[] := by
      apply Array.toList_inj.1
      simpa using h0
     rw [this]
    rw [(ba_beq _ _).2 this] at q1; cases q1
  · exact h0
 refine J_loopV (X := Nat) (fun i => [(21, .d (bytesD s.data.toList)), (22, .int s.data.toList.length), (23, .int i)]) (fun _ => []) (fun i => i ≤ s.data.toList.length ∧ ∀ j (h : j < s.data.toList.length), j < i → letP j s.data.toList[j]) (fun i => s.data.toList.length - i) 0 ⟨Nat.zero_le _, fun _ _ h => absurd h (Nat.not_lt_zero _)⟩ (VS.of_le ?_) ?_
 · exact leD
 rintro i ⟨h1, h2⟩
 by_cases hi : ¬ i < s.data.toList.length
 · repeat' (first
    | ((with_reducible apply jp); (focus ((with_reducible apply pu_len_str); rfl; rfl)); (focus rfl))
    | ((with_reducible apply jp); (focus ((with_reducible apply pu_at_str); rfl; rfl; rfl; (focus exact bndD))); (focus rfl))
    | ((with_reducible apply jstrbytes); (focus rfl); (focus rfl); (focus rfl); (focus rfl); (focus omega); (focus rfl))
    | exact True.intro | refine stpH ?_ | refine two ?_ ?_ | refine allc fun c_ => ?_
    | (refine imp fun hc => ?_) <;> try exact cx1 hc
    | refine all fun v_ => ?_)
   refine retv (VS.drop (List.nil_sublist _)) ?_
   ((with_reducible apply rq1); rfl; rfl)
   exact ret_eq (congrArg AV.bool (decide_eq_true ⟨⟨n0, by omega⟩, n1, n2, fun j h => h2 j h (by omega)⟩).symm)
 replace hi := Decidable.not_not.1 hi
 by_cases hl : letP i s.data.toList[i]
 · have hl' := hl
   unfold letP at hl'
   repeat' (first
    | ((with_reducible apply jp); (focus ((with_reducible apply pu_len_str); rfl; rfl)); (focus rfl))
    | ((with_reducible apply jp); (focus ((with_reducible apply pu_at_str); rfl; rfl; rfl; (focus exact bndD))); (focus rfl))
    | ((with_reducible apply jstrbytes); (focus rfl); (focus rfl); (focus rfl); (focus rfl); (focus omega); (focus rfl))
    | exact True.intro | refine stpH ?_ | refine two ?_ ?_ | refine allc fun c_ => ?_
    | (refine imp fun hc => ?_) <;> try exact cx1 hc
    | refine all fun v_ => ?_)
   all_goals
    refine ⟨i + 1, ⟨by omega, fun j hj hji => ?_⟩, by omega, VS.of_le ?_⟩
    · by_cases e : j = i
      · subst e; exact hl
      · exact h2 j hj (by omega)
    · exact leD
 · have hl' := hl
   unfold letP at hl'
   repeat' (first
    | ((with_reducible apply jp); (focus ((with_reducible apply pu_len_str); rfl; rfl)); (focus rfl))
    | ((with_reducible apply jp); (focus ((with_reducible apply pu_at_str); rfl; rfl; rfl; (focus exact bndD))); (focus rfl))
    | ((with_reducible apply jstrbytes); (focus rfl); (focus rfl); (focus rfl); (focus rfl); (focus omega); (focus rfl))
    | exact True.intro | refine stpH ?_ | refine two ?_ ?_ | refine allc fun c_ => ?_
    | (refine imp fun hc => ?_) <;> try exact cx1 hc
    | refine all fun v_ => ?_)
   all_goals
    refine retv (VS.drop (List.nil_sublist _)) ?_
    ((with_reducible apply rq1); rfl; rfl)
    exact ret_eq (congrArg AV.bool (decide_eq_false fun k => hl (k.2.2.2 i hi)).symm)
theorem NameMay (G : List (Nat × List D)) (s : ByteArray) : ACr Tryz.prog G 152 [.val (.string s)] (.bool (decide (nameP s))) := by
 refine AC_ofV (ts := [2]) Tryz.f152.ntmps Tryz.func152 rfl rfl rfl (by simp [Tryz.ntmps152]) fun W I => ?_
 by_cases c1 : ¬ (1 ≤ (s.data.toList.length : Int) ∧ (s.data.toList.length : Int) ≤ 8)
 · have e1 := ACr_false (In G s.data.toList.length 1 8) c1
   repeat' (first
    | ((with_reducible apply jp); (focus ((with_reducible apply pu_len_str); rfl; rfl)); (focus rfl))
    | ((with_reducible apply jp); (focus ((with_reducible apply pu_at_str); rfl; rfl; rfl; (focus exact bndD))); (focus rfl))
    | ((with_reducible apply jstrbytes); (focus rfl); (focus rfl); (focus rfl); (focus rfl); (focus omega); (focus rfl))
    | refine ca cal_In (e1) ?_
    | exact True.intro | refine stpH ?_ | refine two ?_ ?_ | refine allc fun c_ => ?_
    | (refine imp fun hc => ?_) <;> try exact cx1 hc
    | refine all fun v_ => ?_)
   refine retv (VS.drop (List.nil_sublist _)) ?_
   ((with_reducible apply rq1); rfl; rfl)
   exact ret_eq (congrArg AV.bool (decide_eq_false fun k => by have := k.1; omega).symm)
 replace c1 := Decidable.not_not.1 c1
 have e1 := ACr_true (In G s.data.toList.length 1 8) c1
 repeat' (first
  | ((with_reducible apply jp); (focus ((with_reducible apply pu_len_str); rfl; rfl)); (focus rfl))
  | ((with_reducible apply jp); (focus ((with_reducible apply pu_at_str); rfl; rfl; rfl; (focus exact bndD))); (focus rfl))
  | ((with_reducible apply jstrbytes); (focus rfl); (focus rfl); (focus rfl); (focus rfl); (focus omega); (focus rfl))
  | refine ca cal_In (e1) ?_
  | exact True.intro | refine stpH ?_ | refine two ?_ ?_ | refine allc fun c_ => ?_
  | (refine imp fun hc => ?_) <;> try exact cx1 hc
  | refine all fun v_ => ?_)
 all_goals first
  | (refine retv (VS.drop (List.nil_sublist _)) ?_
     ((with_reducible apply rq1); rfl; rfl)
     refine ret_eq (congrArg AV.bool (decide_eq_false ?_).symm)
     rintro ⟨⟨a1, a2⟩, a3, a4, a5⟩
     first
      | exact a3 ((ba_beq _ _).1 hc)
      | exact a4 ((ba_beq _ _).1 hc))
  | skip
 rename_i q3
 have n1 : s ≠ yesS := fun e => by rw [(ba_beq _ _).2 e] at q3; cases q3
 have n2 : s ≠ noS := fun e => by rw [(ba_beq _ _).2 e] at hc; cases hc
 refine J_loopV (X := Nat) (fun i => [(0, .val (.string s)), (3, .int i)]) (fun _ => []) (fun i => i ≤ s.data.toList.length ∧ ∀ j (h : j < s.data.toList.length), j < i → letP j s.data.toList[j]) (fun i => s.data.toList.length - i) 0 ⟨Nat.zero_le _, fun _ _ h => absurd h (Nat.not_lt_zero _)⟩ (VS.of_le ?_) ?_
 · exact leD
 rintro i ⟨h1, h2⟩
 by_cases hi : ¬ i < s.data.toList.length
 · repeat' (first
    | ((with_reducible apply jp); (focus ((with_reducible apply pu_len_str); rfl; rfl)); (focus rfl))
    | ((with_reducible apply jp); (focus ((with_reducible apply pu_at_str); rfl; rfl; rfl; (focus exact bndD))); (focus rfl))
    | ((with_reducible apply jstrbytes); (focus rfl); (focus rfl); (focus rfl); (focus rfl); (focus omega); (focus rfl))
    | refine ca cal_In (e1) ?_
    | exact True.intro | refine stpH ?_ | refine two ?_ ?_ | refine allc fun c_ => ?_
    | (refine imp fun hc => ?_) <;> try exact cx1 hc
    | refine all fun v_ => ?_)
   refine retv (VS.drop (List.nil_sublist _)) ?_
   ((with_reducible apply rq1); rfl; rfl)
   exact ret_eq (congrArg AV.bool (decide_eq_true ⟨⟨by omega, by omega⟩, n1, n2, fun j h => h2 j h (by omega)⟩).symm)
 replace hi := Decidable.not_not.1 hi
 by_cases hl : letP i s.data.toList[i]
 · have hl' := hl
   unfold letP at hl'
   repeat' (first
    | ((with_reducible apply jp); (focus ((with_reducible apply pu_len_str); rfl; rfl)); (focus rfl))
    | ((with_reducible apply jp); (focus ((with_reducible apply pu_at_str); rfl; rfl; rfl; (focus exact bndD))); (focus rfl))
    | ((with_reducible apply jstrbytes); (focus rfl); (focus rfl); (focus rfl); (focus rfl); (focus omega); (focus rfl))
    | refine ca cal_In (In _ _ _ _) ?_
    | exact True.intro | refine stpH ?_ | refine two ?_ ?_ | refine allc fun c_ => ?_
    | (refine imp fun hc => ?_) <;> try exact cx1 hc
    | refine all fun v_ => ?_)
   all_goals
    refine ⟨i + 1, ⟨by omega, fun j hj hji => ?_⟩, by omega, VS.of_le ?_⟩
    · by_cases e : j = i
      · subst e; exact hl
      · exact h2 j hj (by omega)
    · exact leD
 · have hl' := hl
   unfold letP at hl'
   repeat' (first
    | ((with_reducible apply jp); (focus ((with_reducible apply pu_len_str); rfl; rfl)); (focus rfl))
    | ((with_reducible apply jp); (focus ((with_reducible apply pu_at_str); rfl; rfl; rfl; (focus exact bndD))); (focus rfl))
    | ((with_reducible apply jstrbytes); (focus rfl); (focus rfl); (focus rfl); (focus rfl); (focus omega); (focus rfl))
    | refine ca cal_In (In _ _ _ _) ?_
    | exact True.intro | refine stpH ?_ | refine two ?_ ?_ | refine allc fun c_ => ?_
    | (refine imp fun hc => ?_) <;> try exact cx1 hc
    | refine all fun v_ => ?_)
   all_goals
    refine retv (VS.drop (List.nil_sublist _)) ?_
    ((with_reducible apply rq1); rfl; rfl)
    exact ret_eq (congrArg AV.bool (decide_eq_false fun k => hl (k.2.2.2 i hi)).symm)
theorem kind (l : List Fo) (vars : Int) (t : Bool) : ACr Tryz.prog GP 90 [.d (opsD l), .int vars, .bool t] (.int (kindF l vars t)) := by
 refine AC_ofV (ts := [6]) Tryz.f90.ntmps Tryz.func90 rfl rfl rfl (by simp [Tryz.ntmps90]) fun W I => ?_
 repeat' (first
  | refine ca cal_ECheck (ECheck _ _) ?_
  | exact True.intro | refine stpH ?_ | refine two ?_ ?_ | refine allc fun c_ => ?_
  | (refine imp fun hc => ?_) <;> try exact cx1 hc
  | refine all fun v_ => ?_)
 all_goals
  refine retv (VS.drop (List.nil_sublist _)) ?_
  ((with_reducible apply rq1); rfl; rfl)
  refine ret_eq (congrArg AV.int ?_)
  unfold kindF
  first
   | (rw [if_pos (by omega)]; done)
   | (rw [if_neg (by omega), if_pos (by simp_all)]; done)
   | (rw [if_neg (by omega), if_neg (by simp_all)]; omega)
   | (simp_all; done)
theorem kindFault (G : List (Nat × List D)) (l : List Fo) (vars : Int) (t : Bool) : ACr Tryz.prog G 82 [.d (opsD l), .int vars, .bool t] (.int (kindF l vars t)) := by
 refine AC_ofV (ts := [6]) Tryz.f82.ntmps Tryz.func82 rfl rfl rfl (by simp [Tryz.ntmps82]) fun W I => ?_
 repeat' (first
  | refine ca cal_ExprChecked (ExprChecked _ _ _) ?_
  | exact True.intro | refine stpH ?_ | refine two ?_ ?_ | refine allc fun c_ => ?_
  | (refine imp fun hc => ?_) <;> try exact cx1 hc
  | refine all fun v_ => ?_)
 all_goals
  refine retv (VS.drop (List.nil_sublist _)) ?_
  ((with_reducible apply rq1); rfl; rfl)
  refine ret_eq (congrArg AV.int ?_)
  unfold kindF
  first
   | (rw [if_pos (by omega)]; done)
   | (rw [if_neg (by omega), if_pos (by simp_all)]; done)
   | (rw [if_neg (by omega), if_neg (by simp_all)]; omega)
   | (simp_all; done)
end Go.Proofs.YtajnpfgelpkijaaGreatDoor
namespace Go.Av
open Go Go.Instr
theorem AC.factU {α β : Type} {f : α → List D} {e : β → List D} {g : α → List β} {xs : List α} {P : Program} {G : List (Nat × List D)} {fn : FuncId} {args : List AV} {h : H} {Q : AE → H → Prop} {sz eb sz' eb' : Nat} (u : Nat) (hu : ∀ a, (f a)[u]? = some (.l sz' eb' ((g a).map e))) (hm : InA (.l sz eb (xs.map f)) args)
 (hac : (∀ a ∈ xs, (g a).length * eb' ≤ 140737488355328) → AC P G fn args h Q) : AC P G fn args h Q := by
 intro I W vs h1 h2 h3 h4 h5
 obtain ⟨v, hv⟩ := hm.rel h5
 refine hac (fun a ha => ?_) I W vs h1 h2 h3 h4 h5
 obtain ⟨j, hj, rfl⟩ := List.getElem_of_mem ha
 have key : ∀ rows, rows = xs.map f → Rel W I (.l sz eb rows) v → ∃ w, Rel W I (.l sz' eb' ((g xs[j]).map e)) w := fun rows hr hrel => by
  have hrow : rows[j]? = some (f xs[j]) := by rw [hr, List.getElem?_map, List.getElem?_eq_getElem hj]; rfl
  cases hrel with
  | nil => simp at hrow
  | emp => simp at hrow
  | l _ _ _ ad cap css hI hcap hm hb hsz hc hr => exact ⟨_, hr j u _ _ hrow (hu _)⟩
 obtain ⟨w, hw⟩ := key _ rfl hv
 have := (Rel.len_le hw).1
 rwa [List.length_map] at this
def Eq4 (P : Program) (T : TypeId) : Prop := P.eqGuardType P.depth T = false ∧ ∀ (s : ByteArray) (a b c : Int) w, (Op.equalIn 10000 T (.agg #[.string s, .int .i64 a, .int .i64 b, .int .i64 c]) (.agg #[.string s, .int .i64 a, .int .i64 b, .int .i64 c])).run P w = .ok true w
section
variable {P : Program} {G : List (Nat × List D)} {ρ : Env} {h : H} {dst : Option Tmp} {ty : TypeId} {pos : String} {after : Array Edge} {g : Option (Nat × Bool)}
theorem pu_neq4 {T T' : TypeId} {x y : Operand} {s : ByteArray} {a b c : Int} (hT : Eq4 P T) (hx : evO ρ x = some (.agg [.val (.string s), .int a, .int b, .int c])) (hy : evO ρ y = some (.agg [.val (.string s), .int a, .int b, .int c])) :
 Pure P G ⟨dst, .binOp .neq T x y T', ty, pos, after, g⟩ ρ h (.bool false) :=
 pure_free fun w I _ ac k => ⟨_, rfl, fun w' => by
  obtain ⟨vs, e1, r1⟩ := rel_as (k.ev x) (ev_of_evO hx)
  obtain ⟨us, e2, r2⟩ := rel_as (k.ev y) (ev_of_evO hy)
  obtain ⟨rfl⟩ : vs = [.string s, .int .i64 a, .int .i64 b, .int .i64 c] := by
   match vs, r1 with
   | [p, q, r, t], ⟨h1, h2, h3, h4, _⟩ => cases h1; cases h2; cases h3; cases h4; rfl
  obtain ⟨rfl⟩ : us = [.string s, .int .i64 a, .int .i64 b, .int .i64 c] := by
   match us, r2 with
   | [p, q, r, t], ⟨h1, h2, h3, h4, _⟩ => cases h1; cases h2; cases h3; cases h4; rfl
  simp [execOp, e1, e2, run_eqGuard_agg _ _ _ _ _ _ _ hT.1, run_neq_struct, hT.2]⟩
theorem pu_func1 {f : FuncId} {x : Operand} {u : Value} (hx : evO ρ x = some (.val u)) : Pure P G ⟨dst, .makeFunc (.func f) #[] #[x], ty, pos, after, g⟩ ρ h (.val (.func (.func f) #[] #[u])) :=
 pure_free fun w I _ a hs => ⟨_, rfl, fun w' => by
  have e1 := rel_val (hs.ev x) (ev_of_evO hx)
  simp [execOp, Instr.makeFunc, e1]⟩
end
open Go

def RelL (w : World) (I : Nat → Prop) : List D → List Value → Prop
 | [], [] => True
 | x :: xs, c :: cs => Rel w I x c ∧ RelL w I xs cs
 | _, _ => False
theorem RelL.length {w : World} {I : Nat → Prop} : ∀ {xs : List D} {cs : List Value}, RelL w I xs cs → xs.length = cs.length
 | [], [], _ => rfl
 | _ :: _, _ :: _, ⟨_, h⟩ => by simp [RelL.length h]
theorem RelL.get {w : World} {I : Nat → Prop} : ∀ {xs : List D} {cs : List Value}, RelL w I xs cs → ∀ (u : Nat) (x : D), xs[u]? = some x → ∃ c, cs[u]? = some c ∧ Rel w I x c
 | [], [], _, _, _, h => by simp at h
 | x :: xs, c :: cs, ⟨h1, h2⟩, u, y, h => by
   cases u with
   | zero => simp at h; subst h; exact ⟨c, rfl, h1⟩
   | succ u => simpa using RelL.get h2 u y (by simpa using h)
theorem RelL.append {w : World} {I : Nat → Prop} : ∀ {xs ys : List D} {cs ds : List Value}, RelL w I xs cs → RelL w I ys ds → RelL w I (xs ++ ys) (cs ++ ds)
 | [], _, [], _, _, h => h
 | _ :: _, _, _ :: _, _, ⟨h1, h2⟩, h => ⟨h1, RelL.append h2 h⟩
theorem RelL.av {w : World} {I : Nat → Prop} : ∀ {xs : List D} {cs : List Value}, RelL w I xs cs → AV.rels w I (xs.map D.av) cs
 | [], [], _ => trivial
 | _ :: _, _ :: _, ⟨h1, h2⟩ => ⟨D.av_rel h1, RelL.av h2⟩

def Conf (P : Program) : Nat → TypeId → List D → Prop
 | 0, _, _ => False
 | fuel + 1, t, xs =>
   match P.underlying t with
   | some .bool => ∃ b, xs = [.b b]
   | some (.int k) => ∃ n, xs = [.i k n] ∧ (Lit.int k n).wf = true
   | some .string => ∃ s, xs = [.s s] ∧ s.size ≤ 140737488355328
   | some (.slice e) => ∃ rows, xs = [.l (P.cellsOf e) (P.bytesOf e) rows] ∧ (∀ r ∈ rows, Conf P fuel e r) ∧ rows.length * P.bytesOf e ≤ 140737488351232
   | some (.struct fs) => ∃ parts : List (List D), xs = parts.flatten ∧ parts.length = fs.size ∧ ∀ (i : Nat) (f : Field) (p : List D), fs[i]? = some f → parts[i]? = some p → Conf P fuel f.type p
   | some (.array n e) => ∃ parts : List (List D), xs = parts.flatten ∧ parts.length = n ∧ ∀ p ∈ parts, Conf P fuel e p
   | _ => False

def contig (P : Program) : Nat → List Field → Bool
 | _, [] => true
 | off, f :: fs => f.offset == off && contig P (off + P.cellsOf f.type) fs
def plainB (P : Program) : Nat → TypeId → Bool
 | 0, _ => false
 | fuel + 1, t =>
   match P.underlying t with
   | some .bool | some (.int _) | some .string => true
   | some (.slice e) => decide (0 < P.cellsOf e) && plainB P fuel e
   | some (.struct fs) => contig P 0 fs.toList && (fs.toList.map fun f => P.cellsOf f.type).sum == P.cellsOf t && fs.toList.all fun f => plainB P fuel f.type
   | some (.array n e) => P.cellsOf t == n * P.cellsOf e && plainB P fuel e
   | _ => false

theorem mem_weightsAll {H : Type} {P : Program} {e : TypeId} : ∀ {ds : List (DataW H)} {d : DataW H}, d ∈ ds → ∀ x ∈ d.weights P e, x ∈ DataW.weightsAll P e ds
 | d' :: ds, d, h, x, hx => by
   simp only [DataW.weightsAll, List.mem_append]
   rcases List.mem_cons.1 h with rfl | h
   · exact .inl hx
   · exact .inr (mem_weightsAll h x hx)
theorem mem_weightsEach {H : Type} {P : Program} : ∀ {ts : List TypeId} {ds : List (DataW H)} (i : Nat) (t : TypeId) (d : DataW H), ts[i]? = some t → ds[i]? = some d → ∀ x ∈ d.weights P t, x ∈ DataW.weightsEach P ts ds
 | [], _, i, t, d, h, _, _, _ => by simp at h
 | _ :: _, [], i, t, d, _, h, _, _ => by simp at h
 | t' :: ts, d' :: ds, i, t, d, h1, h2, x, hx => by
   simp only [DataW.weightsEach, List.mem_append]
   cases i with
   | zero => simp at h1 h2; subst h1; subst h2; exact .inl hx
   | succ i => exact .inr (mem_weightsEach i t d (by simpa using h1) (by simpa using h2) x hx)

theorem mapM_length {α β : Type} {f : α → Option β} : ∀ {l : List α} {r : List β}, l.mapM f = some r → r.length = l.length
 | [], r, h => by simp at h; subst h; rfl
 | x :: l, r, h => by
   simp only [List.mapM_cons, Option.bind_eq_bind, Option.bind_eq_some_iff, Option.pure_def, Option.some.injEq] at h
   obtain ⟨b, _, r', hr', rfl⟩ := h
   simp [mapM_length hr']

theorem cells?_spec {w : World} {a : Addr} {n : Nat} {cs : List Value} (h : w.cells? 0 a n = some cs) : cs.length = n ∧ ∀ (u : Nat) (c : Value), cs[u]? = some c → w.cell? (a.add u) = some c := by
 unfold World.cells? at h
 simp only [Nat.zero_le, if_true] at h
 have hl := mapM_length h
 simp at hl
 refine ⟨hl, fun u c hc => ?_⟩
 have hu : u < n := by rw [← hl]; exact (List.getElem?_eq_some_iff.1 hc).1
 obtain ⟨b, hb, hf⟩ := Lib.mapM_at h u u (by simp [hu])
 rw [hc] at hb
 cases hb
 exact hf

mutual
def D.bulk : D → Nat
 | .l _ _ rows => bulkR rows + 1
 | .s x => x.size + 1
 | _ => 1
def bulkS : List D → Nat
 | [] => 0
 | x :: xs => x.bulk + bulkS xs
def bulkR : List (List D) → Nat
 | [] => 0
 | r :: rs => bulkS r + bulkR rs
end
theorem bulkS_append : ∀ xs ys : List D, bulkS (xs ++ ys) = bulkS xs + bulkS ys
 | [], ys => by simp [bulkS]
 | x :: xs, ys => by rw [List.cons_append, bulkS, bulkS, bulkS_append xs ys]; omega
theorem bulkS_flatten : ∀ rows : List (List D), bulkS rows.flatten = bulkR rows
 | [] => by simp [bulkS, bulkR]
 | r :: rows => by rw [List.flatten_cons, bulkS_append, bulkR, bulkS_flatten rows]
theorem bulkR_le {β : Type} {f : β → List D} {g : β → Nat} : ∀ {l : List β}, (∀ i ∈ l, bulkS (f i) ≤ g i) → bulkR (l.map f) ≤ (l.map g).sum
 | [], _ => by simp [bulkR]
 | i :: l, h => by
   have := bulkR_le (l := l) fun j hj => h j (List.mem_cons_of_mem _ hj)
   have := h i (by simp)
   simp only [List.map_cons, bulkR, List.sum_cons]
   omega
structure BulkOk {H : Type} (B : DataW H → Nat) : Prop where
 lit : ∀ l, 1 ≤ B (.lit l)
 str : ∀ l, l.length + 1 ≤ B (.lit (.string l))
 nil : 1 ≤ B .nil
 slice : ∀ es sp, (es.map B).sum + 1 ≤ B (.slice es sp)
 agg : ∀ ps, (ps.map B).sum + 1 ≤ B (.agg ps)

theorem bridge {H : Type} {enc : TypeId × Value → H} {P : Program} {W : World} (B : DataW H → Nat) : ∀ (g : Nat) (fuel : Nat) (t : TypeId) (cs : List Value) (d : DataW H) (ps : List MemPlace),
 DataW.trod enc P W 0 (fun _ => true) true fuel t cs = some (d, ps) → plainB P g t = true → (∀ x ∈ d.weights P t, x ≤ reachBytes) → ∃ xs, RelL W (fun b => b < W.heap.size) xs cs ∧ Conf P g t xs ∧ (BulkOk B → bulkS xs ≤ B d)
 | 0, _, _, _, _, _, _, h, _ => by simp [plainB] at h
 | g + 1, fuel, t, cs, d, ps, h, hp, hw => by
   unfold plainB at hp
   unfold Conf
   cases hu : P.underlying t with
   | none => rw [hu] at hp; simp at hp
   | some td =>
     rw [hu] at hp
     cases td with
     | bool =>
       obtain ⟨b, rfl, he⟩ := DataW.trod_bool hu h
       refine ⟨[.b b], ⟨.b b, trivial⟩, ⟨b, rfl⟩, fun hB => ?_⟩
       cases he
       simpa [bulkS, D.bulk] using hB.lit _
     | int k =>
       obtain ⟨n, rfl, he, hwf⟩ := DataW.trod_int hu h
       refine ⟨[.i k n], ⟨.i k n, trivial⟩, ⟨n, rfl, hwf⟩, fun hB => ?_⟩
       cases he
       simpa [bulkS, D.bulk] using hB.lit _
     | string =>
       obtain ⟨s, rfl, he, hs⟩ := DataW.trod_string hu h
       cases he
       have := hw s.data.toList.length (by unfold DataW.weights; exact List.mem_singleton.2 rfl)
       simp only [reachBytes] at this
       have e : s.size = s.data.toList.length := by rw [Array.length_toList]; rfl
       refine ⟨[.s s], ⟨.s s, trivial⟩, ⟨s, rfl, by omega⟩, fun hB => ?_⟩
       have := hB.str s.data.toList
       simp only [bulkS, D.bulk]
       omega
     | slice e =>
       simp only [Bool.and_eq_true, decide_eq_true_eq] at hp
       obtain ⟨hc0, hpe⟩ := hp
       rcases Go.Deep.open_slice hu h with ⟨rfl, he⟩ | ⟨a, len, cap, m, n, Df, Pl, rfl, _, hlc, hcm, hm, hx, hel⟩
       · refine ⟨[.l (P.cellsOf e) (P.bytesOf e) []], ⟨.nil _ _, trivial⟩, ⟨[], rfl, by simp, by simp⟩, fun hB => ?_⟩
         cases he
         simpa [bulkS, D.bulk, bulkR] using hB.nil
       · simp only [if_true] at hm
         subst hm
         have hd : d = .slice ((List.range len).map Df) ((List.range (m - len)).map fun j => Df (len + j)) := congrArg Prod.fst hx
         subst hd
         simp only [DataW.weights, hu] at hw
         have hbytes := hw _ (List.mem_cons_self ..)
         simp only [List.length_map, List.length_range, reachBytes] at hbytes
         have key : ∀ i, ∃ r : List D, i < len → ∃ cs', W.cells? 0 (a.add (i * P.cellsOf e)) (P.cellsOf e) = some cs' ∧ RelL W (fun b => b < W.heap.size) r cs' ∧ Conf P g e r ∧ (BulkOk B → bulkS r ≤ B (Df i)) := fun i => by
          by_cases hi : i < len
          · obtain ⟨cs', hcs, htr⟩ := hel i (by omega)
            obtain ⟨r, h1, h2, h3⟩ := bridge B g n e cs' (Df i) (Pl i) htr hpe fun x hx' => hw x (List.mem_cons_of_mem _ (List.mem_append.2 (.inl (mem_weightsAll (List.mem_map.2 ⟨i, List.mem_range.2 hi, rfl⟩) x hx'))))
            exact ⟨r, fun _ => ⟨cs', hcs, h1, h2, h3⟩⟩
          · exact ⟨[], fun h => absurd h hi⟩
         let rf : Nat → List D := fun i => Classical.choose (key i)
         have hrf : ∀ i, i < len → ∃ cs', W.cells? 0 (a.add (i * P.cellsOf e)) (P.cellsOf e) = some cs' ∧ RelL W (fun b => b < W.heap.size) (rf i) cs' ∧ Conf P g e (rf i) ∧ (BulkOk B → bulkS (rf i) ≤ B (Df i)) := fun i => Classical.choose_spec (key i)
         have hget : ∀ (j : Nat) (r : List D), ((List.range len).map rf)[j]? = some r → j < len ∧ r = rf j := fun j r hj => by
          have hlt : j < len := by
           have := (List.getElem?_eq_some_iff.1 hj).1
           simpa using this
          rw [List.getElem?_map, List.getElem?_range hlt] at hj
          simp at hj
          exact ⟨hlt, hj.symm⟩
         have hlen : ((List.range len).map rf).length = len := by simp
         have hconf : ∀ r ∈ (List.range len).map rf, Conf P g e r := fun r hr => by
          obtain ⟨i, hi, rfl⟩ := List.mem_map.1 hr
          obtain ⟨_, _, _, h3, _⟩ := hrf i (List.mem_range.1 hi)
          exact h3
         have hsz : ∀ r ∈ (List.range len).map rf, r.length = P.cellsOf e := fun r hr => by
          obtain ⟨i, hi, rfl⟩ := List.mem_map.1 hr
          obtain ⟨cs', h1, h2, _⟩ := hrf i (List.mem_range.1 hi)
          rw [h2.length]; exact (cells?_spec h1).1
         have hlb : len * P.bytesOf e ≤ 140737488351232 := Nat.le_trans (Nat.mul_le_mul_right _ (show len ≤ len + (m - len) by omega)) hbytes
         have hbk : BulkOk B → bulkS [.l (P.cellsOf e) (P.bytesOf e) ((List.range len).map rf)] ≤ B (.slice ((List.range len).map Df) ((List.range (m - len)).map fun j => Df (len + j))) := fun hB => by
          have h1 := bulkR_le (f := rf) (g := fun i => B (Df i)) (l := List.range len) fun i hi => by
           obtain ⟨_, _, _, _, h3⟩ := hrf i (List.mem_range.1 hi)
           exact h3 hB
          have h2 := hB.slice ((List.range len).map Df) ((List.range (m - len)).map fun j => Df (len + j))
          rw [List.map_map] at h2
          simp only [bulkS, D.bulk]
          simp only [Function.comp_def] at h2
          omega
         refine ⟨[.l (P.cellsOf e) (P.bytesOf e) ((List.range len).map rf)], ⟨?_, trivial⟩, ⟨_, rfl, hconf, by rw [hlen]; exact hlb⟩, hbk⟩
         by_cases hm0 : m = 0
         · have h0 : len = 0 := by omega
           subst h0; subst hm0
           exact .emp _ _ a
         · have hcell : ∃ v, W.cell? a = some v := by
            obtain ⟨cs', hcs, _⟩ := hel 0 (by omega)
            obtain ⟨h1, h2⟩ := cells?_spec hcs
            rw [Nat.zero_mul] at h2
            have h0 : 0 < cs'.length := by omega
            exact ⟨cs'[0], by have := h2 0 _ (List.getElem?_eq_getElem h0); simpa [Addr.add] using this⟩
           obtain ⟨v, hv⟩ := hcell
           have hblk : a.block < W.heap.size := World.block_lt_of_cell? _ _ hv
           let css : Nat → Nat → Value := fun j u => (W.cell? (a.add (j * P.cellsOf e + u))).getD undef
           have hval : ∀ (j u : Nat) (r : List D) (x : D), ((List.range len).map rf)[j]? = some r → r[u]? = some x → W.cell? (a.add (j * P.cellsOf e + u)) = some (css j u) ∧ Rel W (fun b => b < W.heap.size) x (css j u) := fun j u r x hj hx => by
            obtain ⟨hlt, rfl⟩ := hget j r hj
            obtain ⟨cs', h1, h2, _⟩ := hrf j hlt
            obtain ⟨c, hc, hrel⟩ := h2.get u x hx
            have hcell := (cells?_spec h1).2 u c hc
            rw [Addr.add_add] at hcell
            simp only [css, hcell, Option.getD_some]
            exact ⟨trivial, hrel⟩
           have := Rel.l (w := W) (I := fun b => b < W.heap.size) (P.cellsOf e) (P.bytesOf e) ((List.range len).map rf) a m css hblk (by rw [hlen]; exact hlc) hcm (by rw [hlen]; omega) hsz (fun j u r x hj hx => (hval j u r x hj hx).1) (fun j u r x hj hx => (hval j u r x hj hx).2)
           rwa [hlen] at this
     | struct fs =>
       simp only [Bool.and_eq_true, List.all_eq_true, beq_iff_eq] at hp
       obtain ⟨⟨hco, hsum⟩, hpf⟩ := hp
       obtain ⟨ys, n, _, hx, hlc, hyl, hf⟩ := DataW.trod_struct hu h
       have hd : d = .agg (ys.map (·.1)) := congrArg Prod.fst hx
       subst hd
       simp only [DataW.weights, hu] at hw
       have key : ∀ i : Nat, ∃ r : List D, ∀ f : Field, fs[i]? = some f → RelL W (fun b => b < W.heap.size) r ((cs.drop f.offset).take (P.cellsOf f.type)) ∧ Conf P g f.type r ∧ (BulkOk B → bulkS r ≤ ((ys[i]?).map fun y => B y.1).getD 0) := fun i => by
        cases hfi : fs[i]? with
        | none => exact ⟨[], fun f hff => absurd hff (by simp)⟩
        | some f =>
          have hi : i < fs.size := (Array.getElem?_eq_some_iff.1 hfi).1
          have hyi : ys[i]? = some ys[i] := List.getElem?_eq_getElem (by omega)
          have htr := hf i f hfi
          rw [hyi] at htr
          have hmem : f ∈ fs.toList := by
           rw [← Array.getElem?_toList] at hfi
           exact List.mem_of_getElem? hfi
          obtain ⟨r, h1, h2, h3⟩ := bridge B g n f.type _ (ys[i]).1 (ys[i]).2 htr (hpf f hmem) fun x hx' => hw x (mem_weightsEach i f.type (ys[i]).1 (by rw [List.getElem?_map, Array.getElem?_toList, hfi]; rfl) (by rw [List.getElem?_map, hyi]; rfl) x hx')
          exact ⟨r, fun f' hf' => by rw [← Option.some.inj hf']; exact ⟨h1, h2, fun hB => by rw [hyi]; exact h3 hB⟩⟩
       let pf : Nat → List D := fun i => Classical.choose (key i)
       have hpf' : ∀ (i : Nat) (f : Field), fs[i]? = some f → RelL W (fun b => b < W.heap.size) (pf i) ((cs.drop f.offset).take (P.cellsOf f.type)) ∧ Conf P g f.type (pf i) ∧ (BulkOk B → bulkS (pf i) ≤ ((ys[i]?).map fun y => B y.1).getD 0) := fun i => Classical.choose_spec (key i)
       have walk : ∀ (l : List Field) (i off : Nat), (∀ j f, l[j]? = some f → fs[i + j]? = some f) → contig P off l = true → off + (l.map fun f => P.cellsOf f.type).sum = cs.length → RelL W (fun b => b < W.heap.size) ((List.range' i l.length).map pf).flatten (cs.drop off) := by
        intro l
        induction l with
        | nil => intro i off _ _ hs; simp at hs; subst hs; simp [RelL]
        | cons f l ih =>
          intro i off hl hc hs
          simp only [contig, Bool.and_eq_true, beq_iff_eq] at hc
          obtain ⟨ho, hc⟩ := hc
          simp only [List.map_cons, List.sum_cons] at hs
          have h0 := (hpf' i f (by simpa using hl 0 f rfl)).1
          rw [ho] at h0
          have h1 := ih (i + 1) (off + P.cellsOf f.type) (fun j f' hj => by have := hl (j + 1) f' (by simpa using hj); rwa [← Nat.add_assoc, Nat.add_right_comm] at this) hc (by omega)
          rw [List.length_cons, List.range'_succ, List.map_cons, List.flatten_cons]
          have e : cs.drop off = (cs.drop off).take (P.cellsOf f.type) ++ cs.drop (off + P.cellsOf f.type) := by
           rw [← List.drop_drop, List.take_append_drop]
          rw [e]
          exact h0.append h1
       have hbk : BulkOk B → bulkS ((List.range' 0 fs.size).map pf).flatten ≤ B (.agg (ys.map (·.1))) := fun hB => by
        have h1 := bulkR_le (f := pf) (g := fun i => ((ys[i]?).map fun y => B y.1).getD 0) (l := List.range' 0 fs.size) fun i hi => by
         have hi : i < fs.size := by simpa using hi
         exact (hpf' i fs[i] (Array.getElem?_eq_getElem hi)).2.2 hB
        have h2 := hB.agg (ys.map (·.1))
        rw [List.map_map] at h2
        have e : (List.range' 0 fs.size).map (fun i => ((ys[i]?).map fun y => B y.1).getD 0) = ys.map (B ∘ (·.1)) := by
         apply List.ext_getElem
         · simp [hyl]
         · intro i h1 h2
           have hi : i < ys.length := by simpa using h2
           simp [List.getElem?_eq_getElem hi]
        rw [e] at h1
        rw [bulkS_flatten]
        omega
       refine ⟨((List.range' 0 fs.size).map pf).flatten, ?_, ⟨(List.range' 0 fs.size).map pf, rfl, by simp, fun i f p hfi hpi => ?_⟩, hbk⟩
       · have := walk fs.toList 0 0 (fun j f hj => by simpa using hj) hco (by rw [hlc, ← hsum]; simp)
         simpa using this
       · have hi : i < fs.size := (Array.getElem?_eq_some_iff.1 hfi).1
         rw [List.getElem?_map, List.getElem?_range' hi] at hpi
         simp at hpi
         subst hpi
         exact (hpf' i f hfi).2.1
     | array m e =>
       simp only [Bool.and_eq_true, beq_iff_eq] at hp
       obtain ⟨hsum, hpe⟩ := hp
       obtain ⟨ys, n, _, hx, hlc, hyl, hf⟩ := DataW.trod_array hu h
       have hd : d = .agg (ys.map (·.1)) := congrArg Prod.fst hx
       subst hd
       simp only [DataW.weights, hu] at hw
       have key : ∀ i : Nat, ∃ r : List D, i < m → RelL W (fun b => b < W.heap.size) r ((cs.drop (i * P.cellsOf e)).take (P.cellsOf e)) ∧ Conf P g e r ∧ (BulkOk B → bulkS r ≤ ((ys[i]?).map fun y => B y.1).getD 0) := fun i => by
        by_cases hi : i < m
        · have hil : i < ys.length := by omega
          have hyi : ys[i]? = some ys[i] := List.getElem?_eq_getElem hil
          have htr := hf i hi
          rw [hyi] at htr
          obtain ⟨r, h1, h2, h3⟩ := bridge B g n e _ (ys[i]).1 (ys[i]).2 htr hpe fun x hx' => hw x (mem_weightsAll (List.mem_map.2 ⟨_, List.getElem_mem hil, rfl⟩) x hx')
          exact ⟨r, fun _ => ⟨h1, h2, fun hB => by rw [hyi]; exact h3 hB⟩⟩
        · exact ⟨[], fun h => absurd h hi⟩
       let pf : Nat → List D := fun i => Classical.choose (key i)
       have hpf' : ∀ i : Nat, i < m → RelL W (fun b => b < W.heap.size) (pf i) ((cs.drop (i * P.cellsOf e)).take (P.cellsOf e)) ∧ Conf P g e (pf i) ∧ (BulkOk B → bulkS (pf i) ≤ ((ys[i]?).map fun y => B y.1).getD 0) := fun i => Classical.choose_spec (key i)
       have walk : ∀ (k i : Nat), i + k = m → RelL W (fun b => b < W.heap.size) ((List.range' i k).map pf).flatten (cs.drop (i * P.cellsOf e)) := by
        intro k
        induction k with
        | zero =>
          intro i hi
          have : cs.length ≤ i * P.cellsOf e := by rw [hlc, hsum, show i = m by omega]; exact Nat.le_refl _
          rw [List.drop_of_length_le this]; simp [RelL]
        | succ k ih =>
          intro i hi
          have h0 := (hpf' i (by omega)).1
          have h1 := ih (i + 1) (by omega)
          rw [Nat.succ_mul] at h1
          rw [List.range'_succ, List.map_cons, List.flatten_cons]
          have e : cs.drop (i * P.cellsOf e) = (cs.drop (i * P.cellsOf e)).take (P.cellsOf e) ++ cs.drop (i * P.cellsOf e + P.cellsOf e) := by
           rw [← List.drop_drop, List.take_append_drop]
          rw [e]
          exact h0.append h1
       have hbk : BulkOk B → bulkS ((List.range' 0 m).map pf).flatten ≤ B (.agg (ys.map (·.1))) := fun hB => by
        have h1 := bulkR_le (f := pf) (g := fun i => ((ys[i]?).map fun y => B y.1).getD 0) (l := List.range' 0 m) fun i hi => by
         have hi : i < m := by simpa using hi
         exact (hpf' i hi).2.2 hB
        have h2 := hB.agg (ys.map (·.1))
        rw [List.map_map] at h2
        have e : (List.range' 0 m).map (fun i => ((ys[i]?).map fun y => B y.1).getD 0) = ys.map (B ∘ (·.1)) := by
         apply List.ext_getElem
         · simp [hyl]
         · intro i h1 h2
           have hi : i < ys.length := by simpa using h2
           simp [List.getElem?_eq_getElem hi]
        rw [e] at h1
        rw [bulkS_flatten]
        omega
       refine ⟨((List.range' 0 m).map pf).flatten, ?_, ⟨(List.range' 0 m).map pf, rfl, by simp, fun p hp => ?_⟩, hbk⟩
       · have := walk m 0 (by omega)
         rwa [Nat.zero_mul, List.drop_zero] at this
       · obtain ⟨i, hi, rfl⟩ := List.mem_map.1 hp
         exact (hpf' i (by simpa using hi)).2.1
     | _ => simp at hp

def isStructB (P : Program) (t : TypeId) : Bool := match P.underlying t with | some (.struct _) | some (.array _ _) => true | _ => false
def oneAV : List D → AV
 | [x] => x.av
 | _ => .any
def argAV (b : Bool) (xs : List D) : AV := if b then .agg (xs.map D.av) else oneAV xs

theorem arg_rel {P : Program} {W : World} {I : Nat → Prop} {g base : Nat} {t : TypeId} {xs : List D} {v : Value} (hc : Conf P g t xs) (hr : RelL W I xs v.cells.toList) (ho : Value.okWide P W .any base t v) : AV.rel W I (argAV (isStructB P t) xs) v := by
 cases g with
 | zero => exact hc.elim
 | succ g =>
   unfold Conf at hc
   unfold argAV isStructB
   have one : ∀ {x : D}, xs = [x] → v.oneCell' = true → AV.rel W I (oneAV xs) v := fun hx hv => by
    subst hx
    rw [cells_one hv] at hr
    exact D.av_rel hr.1
   cases hu : P.underlying t with
   | none => rw [hu] at hc; exact hc.elim
   | some td =>
     rw [hu] at hc
     cases td with
     | bool => obtain ⟨b, hx⟩ := hc; obtain ⟨_, rfl⟩ := WideShapes.okWide_bool hu ho; simp only [Bool.false_eq_true, if_false]; exact one hx rfl
     | int k => obtain ⟨n, hx, _⟩ := hc; obtain ⟨_, rfl⟩ := WideShapes.okWide_int hu ho; simp only [Bool.false_eq_true, if_false]; exact one hx rfl
     | string => obtain ⟨s, hx, _⟩ := hc; obtain ⟨_, rfl⟩ := WideShapes.okWide_string hu ho; simp only [Bool.false_eq_true, if_false]; exact one hx rfl
     | slice e => obtain ⟨rows, hx, _⟩ := hc; obtain ⟨_, _, _, rfl⟩ := WideShapes.okWide_slice hu ho; simp only [Bool.false_eq_true, if_false]; exact one hx rfl
     | struct fs =>
       unfold Value.okWide at ho
       rw [hu] at ho
       obtain ⟨cs, rfl, _, _⟩ := ho
       simp only [if_true]
       exact ⟨cs.toList, by simp, hr.av⟩
     | array n e =>
       unfold Value.okWide at ho
       rw [hu] at ho
       obtain ⟨cs, rfl, _, _⟩ := ho
       simp only [if_true]
       exact ⟨cs.toList, by simp, hr.av⟩
     | _ => exact hc.elim

section
open Go.RowKit Go.WideShapes Go.ChangeShapes
variable {H : Type} {enc : TypeId × Value → H} {P : Program}
theorem post_of_below {f : Func} {s : ChangeSpec} {apart fresh handsOn again : Bool} {W W' : World} {args : Array Value} {v : Value} {ds gs : List (DataW H)} {before pa pv : List MemPlace}
 (hW : DataW.Whole enc P f.params.toList s.vars apart W args.toList ds gs before)
 (hres : ∀ (b : Nat) (sp : Nat → Bool) (hd : Bool), DataW.TrodAll enc P W' b sp hd f.resultTypes.toList (v.resultList f.resultTypes.size) (s.fn H (ds ++ gs)).results [])
 (hargs : ∀ sp : Nat → Bool, (∀ p ∈ before, sp p.block = true) → DataW.TrodAll enc P W' 0 sp true f.params.toList args.toList (s.fn H (ds ++ gs)).args pa)
 (hvars : ∀ sp : Nat → Bool, (∀ p ∈ before, sp p.block = true) → DataW.TrodVars enc P W' sp s.vars (s.fn H (ds ++ gs)).vars pv)
 (hps : before = pa ++ pv) (hb : Below W.heap.size W W')
 (hok : ∀ (j : Nat) (t : TypeId) (r : Value), f.resultTypes[j]? = some t → (v.resultList f.resultTypes.size)[j]? = some r → Value.okWide P W' .any 0 t r) :
 s.post enc P f apart fresh handsOn again W args v W' := by
 have hlt : ∀ p ∈ before, p.block < W.heap.size := fun p hp => hW.lt p hp
 have hold : ∀ p ∈ before, (fun b => decide (b < W.heap.size)) p.block = true := fun p hp => by simpa using hlt p hp
 refine ⟨ds, gs, before, [], pa, pv, hW, hres _ _ _, hargs _ hold, hvars _ hold, World.keptBut_mono (fun p hp => ⟨hp, ?_⟩) (hb.frame (· ∈ before)), fun _ => ?_⟩
 · rw [hps, List.mem_append] at hp
   exact Or.inr hp
 · obtain ⟨_, _, _, _, _, hz, hn⟩ := hW
   refine ⟨hok, _, _, ([] ++ pa) ++ pv, ⟨[] ++ pa, pv, trodAll_append (hargs _ (fun _ _ => rfl)) (hres _ _ _), hvars _ (fun _ _ => rfl), rfl, ?_, ?_⟩, ?_⟩
   · intro b off hp
     have hin : MemPlace.cell b off ∈ before := by rw [hps]; simpa using hp
     rw [hb.frozen (hlt _ hin)]
     exact hz b off hin
   · intro ha
     have := hn ha
     rw [hps] at this
     simpa using this
   · intro p hp _
     rw [hps]
     simpa using hp

theorem trodAll_stays (hl : laidOutB P = true) {W W' : World} : ∀ {ts : List TypeId} {vs : List Value} {ds : List (DataW H)} {ps : List MemPlace}, (∀ t ∈ ts, P.readableRec t = true ∧ t < P.types.size) → DataW.TrodAll enc P W 0 (fun _ => true) true ts vs ds ps → (∀ p ∈ ps, W.sameAt W' p) →
 ∀ sp : Nat → Bool, (∀ p ∈ ps, sp p.block = true) → DataW.TrodAll enc P W' 0 sp true ts vs ds ps
 | [], [], [], _, _, h, _, _, _ => h
 | t :: ts, v :: vs, d :: ds, ps, ht, ⟨p, q, h1, h2, e⟩, hs, sp, hsp => by
   subst e
   exact ⟨p, q, WideElems.Trod_stays hl (ht t (by simp)).1 (ht t (by simp)).2 h1 (fun x hx => hs x (by simp [hx])) (fun x hx => hsp x (by simp [hx])),
    trodAll_stays hl (fun t ht' => ht t (by simp [ht'])) h2 (fun x hx => hs x (by simp [hx])) sp (fun x hx => hsp x (by simp [hx])), rfl⟩

theorem bridgeAll {W : World} {base g : Nat} (B : DataW H → Nat) : ∀ {ts : List TypeId} {vs : List Value} {ds : List (DataW H)} {ps : List MemPlace}, (∀ t ∈ ts, plainB P g t = true) → DataW.TrodAll enc P W 0 (fun _ => true) true ts vs ds ps →
 (∀ (j : Nat) t v, ts[j]? = some t → vs[j]? = some v → Value.okWide P W .any base t v) → (∀ x ∈ DataW.weightsEach P ts ds, x ≤ reachBytes) →
 ∃ xss : List (List D), xss.length = ts.length ∧ (∀ (j : Nat) t xs, ts[j]? = some t → xss[j]? = some xs → Conf P g t xs) ∧ AV.rels W (fun b => b < W.heap.size) ((ts.zip xss).map fun p => argAV (isStructB P p.1) p.2) vs ∧ (BulkOk B → bulkR xss ≤ (ds.map B).sum)
 | [], [], [], _, _, _, _, _ => ⟨[], rfl, by simp, trivial, fun _ => by simp [bulkR]⟩
 | t :: ts, v :: vs, d :: ds, _, hp, ⟨p, q, ⟨fuel, h1⟩, h2, _⟩, hv, hw => by
   simp only [DataW.weightsEach, List.mem_append] at hw
   obtain ⟨xs, r1, r2, r3⟩ := bridge B g fuel t v.cells.toList d p h1 (hp t (by simp)) fun x hx => hw x (.inl hx)
   obtain ⟨xss, i1, i2, i3, i4⟩ := bridgeAll B (fun t ht => hp t (by simp [ht])) h2 (fun j t v h1 h2 => hv (j + 1) t v (by simpa using h1) (by simpa using h2)) fun x hx => hw x (.inr hx)
   refine ⟨xs :: xss, by simp [i1], fun j t' xs' h1 h2 => ?_, ⟨arg_rel r2 r1 (hv 0 t v rfl rfl), i3⟩, fun hB => by
    have := r3 hB
    have := i4 hB
    simp only [bulkR, List.map_cons, List.sum_cons]
    omega⟩
   cases j with
   | zero => simp at h1 h2; subst h1; subst h2; exact r2
   | succ j => exact i2 j t' xs' (by simpa using h1) (by simpa using h2)

theorem law_ofB {f : FuncId} {fn : Func} {s : ChangeSpec} {G : List (Nat × List D)} {g : Nat} {tb : TypeId} {W : World} {base : Nat} {args : Array Value} {ds gs : List (DataW H)} {before : List MemPlace}
 (hl : laidOutB P = true) (hpar : ∀ t ∈ fn.params.toList, plainB P g t = true ∧ P.readableRec t = true ∧ t < P.types.size) (hres : fn.resultTypes = #[tb]) (htb : P.underlying tb = some .bool) (hvars : s.vars = [])
 (hspec : ∀ ds : List (DataW H), ds.length = fn.params.toList.length → (s.fn H (ds ++ [])).results = [.lit (.bool true)] ∧ (s.fn H (ds ++ [])).args = ds ∧ (s.fn H (ds ++ [])).vars = [])
 (B : DataW H → Nat)
 (hac : ∀ xss : List (List D), xss.length = fn.params.toList.length → (∀ (j : Nat) t xs, fn.params.toList[j]? = some t → xss[j]? = some xs → Conf P g t xs) → (BulkOk B → bulkR xss ≤ (ds.map B).sum) → ACr P G f ((fn.params.toList.zip xss).map fun p => argAV (isStructB P p.1) p.2) (.bool true))
 (hG : ∀ q ∈ G, PD W (fun b => b < W.heap.size) q.2 ⟨q.1, 0, none⟩)
 (hval : ∀ (j : Nat) t v, fn.params[j]? = some t → args[j]? = some v → Value.okWide P W .any base t v)
 (hW : DataW.Whole enc P fn.params.toList s.vars false W args.toList ds gs before)
 (hsize : (DataW.weightsEach P fn.params.toList ds).all (· ≤ reachBytes) = true) :
 Calls P f args W fun e W' => ∃ v, e = .returned v ∧ s.post enc P fn false true false false W args v W' := by
 have hW' := hW
 obtain ⟨p, q, hA, hV, rfl, hfz, hnd⟩ := hW
 rw [hvars] at hV
 obtain ⟨rfl, rfl⟩ : gs = [] ∧ q = [] := by cases gs <;> simp_all [DataW.TrodVars]
 obtain ⟨xss, x1, x2, x3, x4⟩ := bridgeAll B (g := g) (base := base) (fun t ht => (hpar t ht).1) hA (fun j t v h1 h2 => hval j t v (by simpa using h1) (by simpa using h2)) (fun x hx => by simpa using List.all_eq_true.1 hsize x hx)
 have hcall := hac xss x1 x2 x4 (fun b => b < W.heap.size) W args.toList (by simp) (by simp [blks]) (fun b hb => ⟨hb, by simp [blks]⟩) hG x3
 rw [Array.toArray_toList] at hcall
 refine hcall.mono fun e W' hpost => ?_
 obtain ⟨r, h', I', ⟨rfl, rfl⟩, hok, hrel⟩ := hpost
 cases e with
 | panicked ch => exact hrel.elim
 | outgrown => exact hrel.elim
 | returned v =>
   have hv : v = .bool true := hrel
   subst hv
   refine ⟨_, rfl, ?_⟩
   have hb : Below W.heap.size W W' := ⟨hok.os, hok.tape, hok.output, hok.size, fun k hk => hok.keep k hk (by simp [blks])⟩
   have hdl : ds.length = fn.params.toList.length := by
    have : ∀ {ts : List TypeId} {vs : List Value} {ds : List (DataW H)} {ps : List MemPlace}, DataW.TrodAll enc P W 0 (fun _ => true) true ts vs ds ps → ds.length = ts.length := by
     intro ts
     induction ts with
     | nil => intro vs ds ps h; cases vs <;> cases ds <;> simp_all [DataW.TrodAll]
     | cons t ts ih =>
       intro vs ds ps h
       cases vs with
       | nil => cases h
       | cons v vs =>
         cases ds with
         | nil => cases h
         | cons d ds => obtain ⟨_, _, _, h2, _⟩ := h; simp [ih h2]
    exact this hA
   obtain ⟨e1, e2, e3⟩ := hspec ds hdl
   refine post_of_below (pa := p) (pv := []) hW' (fun b sp hd => ?_) (fun sp hsp => ?_) (fun sp _ => ?_) rfl hb ?_
   · rw [e1, hres]
     simp only [Value.resultList, List.size_toArray, List.length_cons, List.length_nil, if_true]
     exact trodAll_mk1 (shut_bool htb true)
   · rw [e2]
     exact trodAll_stays hl (fun t ht => (hpar t ht).2) hA (fun x hx => hb.same (hW'.lt x (by simp [hx]))) sp (fun x hx => hsp x (by simp [hx]))
   · rw [hvars, e3]; rfl
   · exact ok_one hres rfl (okWide_bool_mk htb true)
theorem law_of {f : FuncId} {fn : Func} {s : ChangeSpec} {G : List (Nat × List D)} {g : Nat} {tb : TypeId} {W : World} {base : Nat} {args : Array Value} {ds gs : List (DataW H)} {before : List MemPlace}
 (hl : laidOutB P = true) (hpar : ∀ t ∈ fn.params.toList, plainB P g t = true ∧ P.readableRec t = true ∧ t < P.types.size) (hres : fn.resultTypes = #[tb]) (htb : P.underlying tb = some .bool) (hvars : s.vars = [])
 (hspec : ∀ ds : List (DataW H), ds.length = fn.params.toList.length → (s.fn H (ds ++ [])).results = [.lit (.bool true)] ∧ (s.fn H (ds ++ [])).args = ds ∧ (s.fn H (ds ++ [])).vars = [])
 (hac : ∀ xss : List (List D), xss.length = fn.params.toList.length → (∀ (j : Nat) t xs, fn.params.toList[j]? = some t → xss[j]? = some xs → Conf P g t xs) → ACr P G f ((fn.params.toList.zip xss).map fun p => argAV (isStructB P p.1) p.2) (.bool true))
 (hG : ∀ q ∈ G, PD W (fun b => b < W.heap.size) q.2 ⟨q.1, 0, none⟩)
 (hval : ∀ (j : Nat) t v, fn.params[j]? = some t → args[j]? = some v → Value.okWide P W .any base t v)
 (hW : DataW.Whole enc P fn.params.toList s.vars false W args.toList ds gs before)
 (hsize : (DataW.weightsEach P fn.params.toList ds).all (· ≤ reachBytes) = true) :
 Calls P f args W fun e W' => ∃ v, e = .returned v ∧ s.post enc P fn false true false false W args v W' :=
 law_ofB hl hpar hres htb hvars hspec (fun _ => 0) (fun xss h1 h2 _ => hac xss h1 h2) hG hval hW hsize
end

theorem conf_string_of {P : Program} {g : Nat} {t : TypeId} {xs : List D} (hu : P.underlying t = some .string) (h : Conf P (g + 1) t xs) : ∃ s, xs = [.s s] ∧ s.size ≤ 140737488355328 := by unfold Conf at h; rw [hu] at h; exact h
end Go.Av
