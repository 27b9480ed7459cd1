/-
 PLAIN, NO PROGRAM: the logic over values: bounds of rows within rows, structs of a text and three numbers (over E6).
-/
import Derived.Test.YtnlfhnbcdfdhgaaE6
namespace Go.Av
open Go Go.Instr
set_option linter.unusedVariables false
set_option linter.unusedSimpArgs false
/-! ### Rows within rows that came in -/
theorem AC.factU {α β : Type} {f : α → List D} {e : β → List D} {g : α → List β} {xs : List α} {P : Program} {G : List (Nat × List D)} {fn : FuncId} {args : List AV} {h : H} {Q : AE → H → Prop} {sz eb sz' eb' : Nat} (u : Nat) (hu : ∀ a, (f a)[u]? = some (.l sz' eb' ((g a).map e))) (hm : InA (.l sz eb (xs.map f)) args)
 (hac : (∀ a ∈ xs, (g a).length * eb' ≤ 140737488355328) → AC P G fn args h Q) : AC P G fn args h Q := by
 intro I W vs h1 h2 h3 h4 h5
 obtain ⟨v, hv⟩ := hm.rel h5
 refine hac (fun a ha => ?_) I W vs h1 h2 h3 h4 h5
 obtain ⟨j, hj, rfl⟩ := List.getElem_of_mem ha
 have key : ∀ rows, rows = xs.map f → Rel W I (.l sz eb rows) v → ∃ w, Rel W I (.l sz' eb' ((g xs[j]).map e)) w := fun rows hr hrel => by
  have hrow : rows[j]? = some (f xs[j]) := by rw [hr, List.getElem?_map, List.getElem?_eq_getElem hj]; rfl
  cases hrel with
  | nil => simp at hrow
  | emp => simp at hrow
  | l _ _ _ ad cap css hI hcap hm hb hsz hc hr => exact ⟨_, hr j u _ _ hrow (hu _)⟩
 obtain ⟨w, hw⟩ := key _ rfl hv
 have := (Rel.len_le hw).1
 rwa [List.length_map] at this
/-- The type's values: a text and three numbers; a value is equal to itself. -/
def Eq4 (P : Program) (T : TypeId) : Prop := P.eqGuardType P.depth T = false ∧ ∀ (s : ByteArray) (a b c : Int) w, (Op.equalIn 10000 T (.agg #[.string s, .int .i64 a, .int .i64 b, .int .i64 c]) (.agg #[.string s, .int .i64 a, .int .i64 b, .int .i64 c])).run P w = .ok true w
section
variable {P : Program} {G : List (Nat × List D)} {ρ : Env} {h : H} {dst : Option Tmp} {ty : TypeId} {pos : String} {after : Array Edge} {g : Option (Nat × Bool)}
theorem pu_neq4 {T T' : TypeId} {x y : Operand} {s : ByteArray} {a b c : Int} (hT : Eq4 P T) (hx : evO ρ x = some (.agg [.val (.string s), .int a, .int b, .int c])) (hy : evO ρ y = some (.agg [.val (.string s), .int a, .int b, .int c])) :
 Pure P G ⟨dst, .binOp .neq T x y T', ty, pos, after, g⟩ ρ h (.bool false) :=
 pure_free fun w I _ ac k => ⟨_, rfl, fun w' => by
  obtain ⟨vs, e1, r1⟩ := rel_as (k.ev x) (ev_of_evO hx)
  obtain ⟨us, e2, r2⟩ := rel_as (k.ev y) (ev_of_evO hy)
  obtain ⟨rfl⟩ : vs = [.string s, .int .i64 a, .int .i64 b, .int .i64 c] := by
   match vs, r1 with
   | [p, q, r, t], ⟨h1, h2, h3, h4, _⟩ => cases h1; cases h2; cases h3; cases h4; rfl
  obtain ⟨rfl⟩ : us = [.string s, .int .i64 a, .int .i64 b, .int .i64 c] := by
   match us, r2 with
   | [p, q, r, t], ⟨h1, h2, h3, h4, _⟩ => cases h1; cases h2; cases h3; cases h4; rfl
  simp [execOp, e1, e2, run_eqGuard_agg _ _ _ _ _ _ _ hT.1, run_neq_struct, hT.2]⟩
theorem pu_func1 {f : FuncId} {x : Operand} {u : Value} (hx : evO ρ x = some (.val u)) : Pure P G ⟨dst, .makeFunc (.func f) #[] #[x], ty, pos, after, g⟩ ρ h (.val (.func (.func f) #[] #[u])) :=
 pure_free fun w I _ a hs => ⟨_, rfl, fun w' => by
  have e1 := rel_val (hs.ev x) (ev_of_evO hx)
  simp [execOp, Instr.makeFunc, e1]⟩
theorem pu_func0 {f : FuncId} : Pure P G ⟨dst, .makeFunc (.func f) #[] #[], ty, pos, after, g⟩ ρ h (.val (.func (.func f) #[] #[])) :=
 pure_free fun w I _ a hs => ⟨_, rfl, fun w' => by simp [execOp, Instr.makeFunc]⟩
end
end Go.Av
