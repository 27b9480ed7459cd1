/- A bundle of this claim's own texts: K2. -/
import Derived.Test.YtniklgkoiaeipaaGreatDoorD4
set_option linter.unusedVariables false
set_option linter.unusedSimpArgs false
set_option maxRecDepth 100000
set_option maxHeartbeats 4000000
namespace Go.Proofs.YtniklgkoiaeipaaGreatDoor
open Go Go.Av Go.Sp
section
variable (G : List (Nat × List D)) (bg : Nat) (raw : List Fo) (vars props : Int)
theorem app2 {α : Type} (out : List α) (o : α) (x y : List α) : out ++ [o] ++ x ++ y = out ++ o :: (x ++ y) := by simp
theorem app1 {α : Type} (out : List α) (o : α) (x : List α) : out ++ [o] ++ x = out ++ o :: x := by simp
theorem len2 {α : Type} (a : Nat) (o : α) (x y : List α) : a + 1 + x.length + y.length = a + (o :: (x ++ y)).length := by simp; omega
theorem len1 {α : Type} (a : Nat) (o : α) (x : List α) : a + 1 + x.length = a + (o :: x).length := by simp; omega
theorem armXK2_1 {p q : Prop} (hp : p) (h : p → q := by
 apply cmp; (focus (first
  | ((with_reducible apply call0); (focus rfl); (focus exact cal_picked); (focus exact picked G (tk raw a).kind 5 (by decide) (tk_ok hr a).1); (focus rfl))
  | ((with_reducible apply je_call0); (focus rfl); (focus (decide +kernel)); (focus rfl); (focus exact cal_picked); (focus exact picked G (tk raw a).kind 5 (by decide) (tk_ok hr a).1); (focus rfl))
  | ((with_reducible apply call0); (focus rfl); (focus exact cal_picked); (focus exact picked G (tk raw a).kind 2 (by decide) (tk_ok hr a).1); (focus rfl))
  | ((with_reducible apply je_call0); (focus rfl); (focus (decide +kernel)); (focus rfl); (focus exact cal_picked); (focus exact picked G (tk raw a).kind 2 (by decide) (tk_ok hr a).1); (focus rfl))
  | ((with_reducible apply call0); (focus rfl); (focus exact cal_picked); (focus exact picked G (tk raw a).val 9 (by decide) (tk_ok hr a).2); (focus rfl))
  | ((with_reducible apply je_call0); (focus rfl); (focus (decide +kernel)); (focus rfl); (focus exact cal_picked); (focus exact picked G (tk raw a).val 9 (by decide) (tk_ok hr a).2); (focus rfl))
  | ((with_reducible apply call0); (focus rfl); (focus exact cal_picked); (focus exact picked G (tk raw a).val vars hv.1 (tk_ok hr a).2); (focus rfl))
  | ((with_reducible apply je_call0); (focus rfl); (focus (decide +kernel)); (focus rfl); (focus exact cal_picked); (focus exact picked G (tk raw a).val vars hv.1 (tk_ok hr a).2); (focus rfl))
  ))
 exact fun h => h) : q := h hp
theorem numNode (hr : rawOk raw) (hv : 0 < vars ∧ vars ≤ 1000) (t : Int) (d a : Nat) (hd : d ≤ 100) (x y : List Fo) (q : Sl) (out : List Fo) (ha : a ≤ 400) (ho : out.length + x.length ≤ 1999) (hk : 2 ≤ numK raw (d + 1) a)
 (ihx : ∀ (q : Sl) (out' : List Fo), out'.length ≤ out.length + 1 → GrT 125 G bg raw vars props t (((d + 1 : Nat) : Int) - 1) (a + 1) q out' x t)
 (ihy : ∀ (q : Sl) (out' : List Fo), out'.length ≤ out.length + 1 + x.length → GrT 125 G bg raw vars props t (((d + 1 : Nat) : Int) - 1) (a + 1 + x.length) q out' y t) :
 GrT 125 G bg raw vars props t (((d + 1 : Nat) : Int)) (a) q out (⟨numK raw (d + 1) a + 1, 0⟩ :: (x ++ y)) t := by
 have h5 := pkb (tk raw a).kind (many := 5) (by decide)
 have h2 := pkb (tk raw a).kind (many := 2) (by decide)
 have hb := numK_bound raw (d + 1) a
 have c1 : ¬ 14 < a + 1 := fun c => by
  have : numK raw (d + 1) a = pk (tk raw a).kind 2 := if_pos (.inr c)
  omega
 have e : numK raw (d + 1) a = pk (tk raw a).kind 5 := if_neg (fun k => k.elim (by omega) c1)
 have e2 : (⟨numK raw (d + 1) a + 1, 0⟩ : Fo) = ⟨3 + pk (tk raw a).kind 5 - 2, 0⟩ := by rw [e]; congr 1; omega
 rw [e2]
 have l1 : ∀ o : Fo, (out ++ [o]).length = out.length + 1 := fun o => by simp
 have l2 : ∀ o : Fo, (out ++ [o] ++ x).length = out.length + 1 + x.length := fun o => by simp; omega
 unfold GrT
 refine AC_ofV (ts := []) Tryz.f125.ntmps Tryz.func125 rfl rfl rfl (by simp [Tryz.ntmps125]) fun W I => ?_
 repeat' (first
  | refine armXK2_1 ?_
  | ((with_reducible apply callG); (focus rfl); (focus exact cal_take); (focus exact take G bg raw vars props a t q.v (by omega)); (focus exact takeD); (focus rfl); (focus exact appD))
  | ((with_reducible apply callG); (focus rfl); (focus exact cal_gput); (focus exact gput G bg raw vars props (a + 1) t q out (3 + pk (tk raw a).kind 5 - 2) 0 (by omega)); (focus exact takeD); (focus rfl); (focus exact appD))
  | exact True.intro | refine stpH ?_ | refine two ?_ ?_ | refine allc fun c_ => ?_
  | (refine imp fun hc => ?_) <;> try exact cx1 hc
  | refine all fun v_ => ?_)
 obtain ⟨q1, rfl⟩ : ∃ x, x = v_ := ⟨v_, rfl⟩
 repeat' (first
  | ((with_reducible apply callG); (focus rfl); (focus exact cal_number); (focus exact ihx q1 _ (Nat.le_of_eq (l1 ⟨3 + pk (tk raw a).kind 5 - 2, 0⟩))); (focus exact takeD); (focus rfl); (focus exact appD))
  | exact True.intro | refine stpH ?_ | refine two ?_ ?_ | refine allc fun c_ => ?_
  | (refine imp fun hc => ?_) <;> try exact cx1 hc
  | refine all fun v_ => ?_)
 obtain ⟨q2, rfl⟩ : ∃ x, x = v_ := ⟨v_, rfl⟩
 repeat' (first
  | ((with_reducible apply callG); (focus rfl); (focus exact cal_number); (focus exact ihy q2 _ (Nat.le_of_eq (l2 ⟨3 + pk (tk raw a).kind 5 - 2, 0⟩))); (focus exact takeD); (focus rfl); (focus exact appD))
  | exact True.intro | refine stpH ?_ | refine two ?_ ?_ | refine allc fun c_ => ?_
  | (refine imp fun hc => ?_) <;> try exact cx1 hc
  | refine all fun v_ => ?_)
 refine retv (VS.take (hc := [.cells bg 119 [.d (opsD raw), .int ((a + 1 + x.length + y.length : Nat) : Int), .int vars, .int props, .int (t), .val v_.v], rowE v_.v 62 2 Fo.cells (out ++ [⟨3 + pk (tk raw a).kind 5 - 2, 0⟩] ++ x ++ y)]) (by exact takedD) (Env.le_refl _)) ?_
 exact ⟨v_, rfl, by rw [app2, len2 a ⟨3 + pk (tk raw a).kind 5 - 2, 0⟩]⟩
theorem number (hr : rawOk raw) (hv : 0 < vars ∧ vars ≤ 1000) (t : Int) : ∀ (d a : Nat) (q : Sl) (out : List Fo), a + 2 ^ (d + 1) ≤ 400 → out.length + 2 ^ (d + 1) ≤ 2000 → GrT 125 G bg raw vars props t ((d : Int)) (a) q out (numG raw vars d a) t
 | 0, a, q, out, ha, ho => numLeaf G bg raw vars props hr hv t 0 a q out (by omega) (by omega) ((numK_bound raw 0 a).2.2 rfl)
 | d + 1, a, q, out, ha, ho => by
   have e : 2 ^ (d + 1 + 1) = 2 * 2 ^ (d + 1) := by rw [Nat.pow_succ]; omega
   have hp : 0 < 2 ^ (d + 1) := Nat.two_pow_pos (d + 1)
   have hx := numG_len raw vars d (a + 1)
   have hc : ((d + 1 : Nat) : Int) - 1 = (d : Int) := by omega
   by_cases hk : numK raw (d + 1) a < 2
   · rw [numG, if_pos hk]
     exact numLeaf G bg raw vars props hr hv t (d + 1) a q out (by omega) (by omega) hk
   · rw [numG, if_neg hk]
     refine numNode G bg raw vars props hr hv t d a (by have := @Nat.lt_two_pow_self d; omega) _ _ q out (by omega) (by omega) (by omega) (fun q' out' ho' => ?_) (fun q' out' ho' => ?_)
     · rw [hc]
       exact number hr hv t d (a + 1) q' out' (by omega) (by omega)
     · rw [hc]
       exact number hr hv t d _ q' out' (by omega) (by omega)
end
end Go.Proofs.YtniklgkoiaeipaaGreatDoor
