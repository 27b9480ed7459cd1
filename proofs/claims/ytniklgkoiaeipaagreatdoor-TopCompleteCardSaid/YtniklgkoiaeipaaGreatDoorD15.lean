/- A bundle of this claim's own texts: G9 Y1. -/
import Derived.Test.YtniklgkoiaeipaaGreatDoorD1
import Derived.Test.YtniklgkoiaeipaaGreatDoorD3
import Derived.Test.YtniklgkoiaeipaaGreatDoorD9
import Derived.Test.YtniklgkoiaeipaaGreatDoorD14
set_option linter.unusedVariables false
set_option linter.unusedSimpArgs false
set_option maxRecDepth 100000
set_option maxHeartbeats 4000000
namespace Go.Sp
open Go Go.Av

def limP (n : Int) : Prop := -1000000 ≤ n ∧ n ≤ 1000000
instance (n : Int) : Decidable (limP n) := by unfold limP; infer_instance
def ovr (n : Int) : Option Int := if limP n then some n else none
def opV (k v : Int) (env : List Int) (a b : Int) : Int :=
 if k = 1 then v else if k = 2 then (env[v.toNat]?).getD 0 else if k = 3 then a + b else if k = 4 then a - b else if k = 5 then a * b
 else if k = 6 then (if a = b then 1 else 0) else if k = 7 then (if a < b then 1 else 0) else if k = 8 then (if a = 1 ∧ b = 1 then 1 else 0)
 else if k = 9 then (if a = 1 ∨ b = 1 then 1 else 0) else if k = 10 then (if a = 0 then 1 else 0) else if k = 11 then 1 else 0
abbrev np (l : List Fo) (i : Nat) : Int := (partsOf (kindAt l i)).1
def stepE (l : List Fo) (env : List Int) (i : Nat) (a b : Option Int) : Option Int :=
 (if 1 ≤ np l i then a else some 0).bind fun x => (if 2 ≤ np l i then b else some 0).bind fun y => ovr (opV (kindAt l i) (valAt l i) env x y)
def evm (l : List Fo) (env : List Int) : Nat → Nat → Option Int
 | 0, _ => none
 | m + 1, i => if i < l.length then stepE l env i (evm l env m (i + 1)) (if i < second l i then evm l env m (second l i) else none) else none
def evAt (l : List Fo) (env : List Int) (i : Nat) : Option Int := evm l env (l.length - i) i
theorem evm_enough (l : List Fo) (env : List Int) : ∀ (m i : Nat), l.length ≤ i + m → evm l env m i = evAt l env i := by
 intro m
 induction m using Nat.strongRecOn with
 | _ m ih =>
 intro i h
 unfold evAt
 by_cases hi : i < l.length
 · obtain ⟨m', rfl⟩ : ∃ m', m = m' + 1 := ⟨m - 1, by omega⟩
   obtain ⟨k, hk⟩ : ∃ k, l.length - i = k + 1 := ⟨l.length - i - 1, by omega⟩
   rw [hk]
   have e : ∀ j, i < j → evm l env m' j = evm l env k j := fun j hj => by
    rw [ih m' (by omega) j (by omega)]
    by_cases hkm : k < m' + 1
    · rw [ih k hkm j (by omega)]
    · omega
   simp only [evm, if_pos hi]
   rw [e (i + 1) (by omega)]
   by_cases h2 : i < second l i
   · rw [if_pos h2, if_pos h2, e _ h2]
   · rw [if_neg h2, if_neg h2]
 · rw [show l.length - i = 0 by omega]
   cases m with
   | zero => rfl
   | succ m => simp only [evm, if_neg hi]
theorem evAt_eq (l : List Fo) (env : List Int) (i : Nat) (hi : i < l.length) : evAt l env i = stepE l env i (evAt l env (i + 1)) (if i < second l i then evAt l env (second l i) else none) := by
 rw [← evm_enough l env (l.length - (i + 1)) (i + 1) (by omega)]
 conv => lhs; rw [evAt, show l.length - i = (l.length - (i + 1)) + 1 by omega, evm, if_pos hi]
 by_cases h2 : i < second l i
 · rw [if_pos h2, if_pos h2, evm_enough l env _ (second l i) (by omega)]
 · rw [if_neg h2, if_neg h2]
structure GoodE (l : List Fo) (vars : Int) : Prop where
 h60 : l.length ≤ 60
 pos : 0 < l.length
 well : ∀ (i : Nat) (_ : i < l.length), (endOf l i).2 = 0
 op : ∀ (i : Nat) (hi : i < l.length), opZ l[i].kind l[i].val vars = 0
 typed : typedP l
 ends : (endsOf l).2 = 0
theorem opsE_ok (l : List Fo) (vars : Int) : ∀ (m i : Nat), l.length = i + m → opsE (l.drop i) vars = 0 → ∀ (q : Nat) (hq : q < l.length), i ≤ q → opZ l[q].kind l[q].val vars = 0
 | 0, i, h, _, q, hq, hi => by omega
 | m + 1, i, h, he, q, hq, hi => by
   rw [opsE_at l i (by omega)] at he
   by_cases c : opZ l[i].kind l[i].val vars ≠ 0
   · rw [if_pos c] at he; exact absurd he c
   · rw [if_neg c] at he
     by_cases e : q = i
     · subst e; exact Decidable.not_not.1 c
     · exact opsE_ok l vars m (i + 1) (by omega) he q hq (by omega)
theorem goodE_of {l : List Fo} {vars : Int} (h : (exprC l vars).2 = 0) : GoodE l vars ∧ 0 ≤ vars ∧ vars ≤ 6 := by
 unfold exprC at h
 by_cases h1 : vars < 0 ∨ 6 < vars
 · rw [if_pos h1] at h; exact absurd h (by decide)
 rw [if_neg h1] at h
 by_cases h2 : (endsOf l).2 ≠ 0
 · rw [if_pos h2] at h; exact absurd h h2
 rw [if_neg h2] at h
 by_cases h3 : opsE l vars ≠ 0
 · rw [if_pos h3] at h; exact absurd h h3
 rw [if_neg h3] at h
 by_cases h4 : typedP l
 · obtain ⟨k1, k2, k3, k4, k5⟩ := endsOf_ok (l := l) (es := (endsOf l).1) (Prod.ext rfl (Decidable.not_not.1 h2))
   exact ⟨⟨k1, k2, all_well (Decidable.not_not.1 h2), fun i hi => opsE_ok l vars l.length 0 (by omega) (Decidable.not_not.1 h3) i hi (Nat.zero_le _), h4, Decidable.not_not.1 h2⟩, by omega, by omega⟩
 · rw [if_neg h4] at h; exact absurd h (by decide)
theorem GoodE.kind {l : List Fo} {vars : Int} (g : GoodE l vars) {i : Nat} (hi : i < l.length) : 1 ≤ l[i].kind ∧ l[i].kind ≤ 12 ∧ (l[i].kind = 1 → -1000 ≤ l[i].val ∧ l[i].val ≤ 1000) ∧ (l[i].kind = 2 → 0 ≤ l[i].val ∧ l[i].val < vars) := by
 have h := g.op i hi
 unfold opZ at h
 by_cases c : ¬ okP l[i].kind
 · rw [if_pos c] at h; exact absurd h (by decide)
 rw [if_neg c] at h
 by_cases c2 : (l[i].kind = 1 ∧ (l[i].val < -1000 ∨ 1000 < l[i].val)) ∨ (l[i].kind = 2 ∧ (l[i].val < 0 ∨ vars ≤ l[i].val)) ∨ (2 < l[i].kind ∧ l[i].val ≠ 0)
 · rw [if_pos c2] at h; exact absurd h (by decide)
 omega
theorem GoodE.parts {l : List Fo} {vars : Int} (g : GoodE l vars) {i : Nat} (hi : i < l.length) :
 (np l i = 0 ∧ (endOf l i).1 = (i : Int) + 1) ∨
 (np l i = 1 ∧ i + 1 < l.length ∧ (endOf l i).1 = (endOf l (i + 1 : Nat)).1) ∨
 (np l i = 2 ∧ i + 1 < l.length ∧ i + 1 < second l i ∧ second l i < l.length ∧ (endOf l (i + 1 : Nat)).1 = (second l i : Nat) ∧ (endOf l i).1 = (endOf l (second l i : Nat)).1) := by
 have hk := kindAt_eq l i hi
 have he := endOf_at l i hi
 have hw := g.well i hi
 have wk := well_kind hi hw
 rw [if_neg (fun h => h wk)] at he
 have hb := partsOf_le l[i].kind
 unfold np
 rw [hk]
 generalize hn : (partsOf l[i].kind).1 = n at he hb ⊢
 by_cases h0 : n = 0
 · subst h0
   rw [if_pos (by decide)] at he
   exact .inl ⟨rfl, by rw [he]⟩
 rw [if_neg (by omega)] at he
 obtain ⟨q1, q2, q3, q4, q5⟩ := first_in hi hw (by omega)
 by_cases h1 : n = 1
 · subst h1
   refine .inr (.inl ⟨rfl, q1, ?_⟩)
   rw [he]; unfold endOf; rw [Int.toNat_natCast]; rfl
 · have h2 : n = 2 := by omega
   subst h2
   obtain ⟨r1, r2⟩ := second_in hi hw hn
   refine .inr (.inr ⟨rfl, q1, q3, r1, q4, ?_⟩)
   have e := scan_next l (i + 1) 1 (by decide)
   rw [if_neg (fun h => h q2), q4] at e
   rw [he, show (1 : Int) + 2 - 1 = 1 + 1 by decide, show ((i : Int) + 1) = ((i + 1 : Nat) : Int) by omega, e]
   unfold endOf; rw [Int.toNat_natCast]
inductive Stk (l : List Fo) (f : Nat → Int) : Nat → List Int → Prop where
 | nil {i : Nat} (h : l.length ≤ i) : Stk l f i []
 | cons {i : Nat} {S : List Int} (hi : i < l.length) (h : Stk l f (endOf l i).1.toNat S) : Stk l f i (S ++ [f i])
theorem Stk.inv {l : List Fo} {f : Nat → Int} {i : Nat} {S : List Int} (h : Stk l f i S) (hi : i < l.length) : ∃ S', S = S' ++ [f i] ∧ Stk l f (endOf l i).1.toNat S' := by
 cases h with
 | nil h => omega
 | cons _ h => exact ⟨_, rfl, h⟩
theorem Stk.fin {l : List Fo} {f : Nat → Int} {i : Nat} {S : List Int} (h : Stk l f i S) (hi : l.length ≤ i) : S = [] := by
 cases h with
 | nil h => rfl
 | cons h' _ => omega
theorem ev_bit {l : List Fo} {env : List Int} {i : Nat} (hi : i < l.length) (hk : makesP (kindAt l i)) {v : Int} (h : evAt l env i = some v) : v = 0 ∨ v = 1 := by
 rw [evAt_eq l env i hi, stepE] at h
 obtain ⟨a, _, h⟩ := Option.bind_eq_some_iff.1 h
 obtain ⟨b, _, h⟩ := Option.bind_eq_some_iff.1 h
 unfold ovr at h
 split at h
 · cases h
   unfold opV
   rw [if_neg (by omega), if_neg (by omega), if_neg (by omega), if_neg (by omega), if_neg (by omega)]
   split
   · split <;> simp
   split
   · split <;> simp
   split
   · split <;> simp
   split
   · split <;> simp
   split
   · split <;> simp
   split <;> simp
 · cases h
theorem ev_lim {l : List Fo} {env : List Int} {i : Nat} (hi : i < l.length) {v : Int} (h : evAt l env i = some v) : limP v := by
 rw [evAt_eq l env i hi, stepE] at h
 obtain ⟨a, _, h⟩ := Option.bind_eq_some_iff.1 h
 obtain ⟨b, _, h⟩ := Option.bind_eq_some_iff.1 h
 unfold ovr at h
 split at h
 · cases h; assumption
 · cases h
def wk (l : List Fo) (env : List Int) : Int × Int := match evAt l env 0 with | some n => (n, 0) | none => (0, 8)
def evalF (l : List Fo) (env : List Int) : Int × Int :=
 if (exprC l env.length).2 ≠ 0 then (0, (exprC l env.length).2) else if ∀ v ∈ env, limP v then wk l env else (0, 2)
end Go.Sp
namespace Go.Proofs.YtniklgkoiaeipaaGreatDoor
open Go Go.Av Go.Sp
theorem cal_pop : Cal Tryz.prog 139 := Cal.of Tryz.func139 (by kernel_rfl) (by kernel_rfl)
theorem cal_flag : Cal Tryz.prog 184 := Cal.of Tryz.func184 (by kernel_rfl) (by kernel_rfl)
theorem mul_lim {x y : Int} (hx : limP x) (hy : limP y) : inI64 (x * y) := by
 have h : (x * y).natAbs ≤ 1000000 * 1000000 := by
  rw [Int.natAbs_mul]
  unfold limP at hx hy
  exact Nat.mul_le_mul (by omega) (by omega)
 generalize x * y = z at h
 unfold inI64; omega
theorem pop0 (G : List (Nat × List D)) (bm : Nat) (env xs : List Int) (n : Nat) (q : Sl) (hl : xs.length = n + 1) (hS : n ≤ 1000) : AC Tryz.prog G 139 [.val (.pointer (some ⟨bm, 0, none⟩))] [.cells bm 189 [.val q.v, .d (intsD env)], rowE q.v 3 1 intC xs] fun r h => ∃ v : Sl, r = .ret (.int (xs[n]'(by omega))) ∧ h = [.cells bm 189 [.val v.v, .d (intsD env)], rowE v.v 3 1 intC (xs.take n)] := by
 refine AC_ofV (ts := [2]) Tryz.f139.ntmps Tryz.func139 rfl rfl rfl (by simp [Tryz.ntmps139]) fun W I => ?_
 have hn : ((xs.length : Int) - 1).toNat = n := by omega
 repeat' (first
  | exact True.intro | refine stpH ?_ | refine two ?_ ?_ | refine allc fun c_ => ?_
  | (refine imp fun hc => ?_) <;> try exact cx1 hc
  | refine all fun v_ => ?_)
 refine retv (VS.cut (q := q) (f := intC) (xs := xs) (E := 3) (sz := 1) (n := ((xs.length : Int) - 1).toNat) (h' := [.cells bm 189 [.val (q.cut ((xs.length : Int) - 1).toNat).v, .d (intsD env)], rowE (q.cut ((xs.length : Int) - 1).toNat).v 3 1 intC (xs.take ((xs.length : Int) - 1).toNat)]) (by exact updD) (fun _ => rfl) (by omega)) ?_
 ((with_reducible apply rq1); rfl; rfl)
 refine ⟨q.cut ((xs.length : Int) - 1).toNat, ?_, by rw [hn]⟩
 simp only [hn]
 rfl
theorem pop (G : List (Nat × List D)) (bm : Nat) (env S : List Int) (a : Int) (q : Sl) (hS : S.length ≤ 1000) : AC Tryz.prog G 139 [.val (.pointer (some ⟨bm, 0, none⟩))] [.cells bm 189 [.val q.v, .d (intsD env)], rowE q.v 3 1 intC (S ++ [a])] fun r h => ∃ v : Sl, r = .ret (.int a) ∧ h = [.cells bm 189 [.val v.v, .d (intsD env)], rowE v.v 3 1 intC S] := by
 have := pop0 G bm env (S ++ [a]) S.length q (by simp) hS
 simp only [List.getElem_append_right (Nat.le_refl _), Nat.sub_self, List.getElem_cons_zero, List.take_left] at this
 exact this
theorem flag (G : List (Nat × List D)) (b : Bool) : ACr Tryz.prog G 184 [.bool b] (.int (if b = true then 1 else 0)) := by
 refine AC_ofV (ts := [2]) Tryz.f184.ntmps Tryz.func184 rfl rfl rfl (by simp [Tryz.ntmps184]) fun W I => ?_
 cases b
 all_goals
  repeat' (first
   | exact True.intro | refine stpH ?_ | refine two ?_ ?_ | refine allc fun c_ => ?_
   | (refine imp fun hc => ?_) <;> try exact cx1 hc
   | refine all fun v_ => ?_)
  refine retv0 ?_
  ((with_reducible apply rq1); rfl; rfl)
  exact ret_eq rfl
theorem cal_do1 : Cal Tryz.prog 180 := Cal.of Tryz.func180 (by kernel_rfl) (by kernel_rfl)
theorem armXY1_1 {p q : Prop} (hp : p) (h : p → q := by
 apply cmp; (focus (first
  | ((with_reducible apply call0); (focus rfl); (focus exact cal_flag); (focus exact flag _ _); (focus rfl))
  | ((with_reducible apply je_call0); (focus rfl); (focus (decide +kernel)); (focus rfl); (focus exact cal_flag); (focus exact flag _ _); (focus rfl))
  ))
 exact fun h => h) : q := h hp
theorem clo1 (G : List (Nat × List D)) (ba bb : Nat) (x y : Int) (hx : limP x) (hy : limP y) : AC Tryz.prog G 180 [.val (.pointer (some ⟨ba, 0, none⟩)), .val (.pointer (some ⟨bb, 0, none⟩))] [.cells ba 3 [.int x], .cells bb 3 [.int y]] fun r h => ∃ v : Unit, r = .ret (.int (x + y)) ∧ h = [.cells ba 3 [.int x], .cells bb 3 [.int y]] := by
 have hm := mul_lim hx hy
 unfold limP at hx hy
 refine AC_ofV (ts := [2]) Tryz.f180.ntmps Tryz.func180 rfl rfl rfl (by simp [Tryz.ntmps180]) fun W I => ?_
 repeat' (first
  | refine armXY1_1 ?_
  | exact True.intro | refine stpH ?_ | refine two ?_ ?_ | refine allc fun c_ => ?_
  | (refine imp fun hc => ?_) <;> try exact cx1 hc
  | refine all fun v_ => ?_)
 refine retv0 ?_
 ((with_reducible apply rq1); rfl; rfl)
 exact ⟨(), rfl, rfl⟩
theorem cal_do2 : Cal Tryz.prog 181 := Cal.of Tryz.func181 (by kernel_rfl) (by kernel_rfl)
theorem clo2 (G : List (Nat × List D)) (ba bb : Nat) (x y : Int) (hx : limP x) (hy : limP y) : AC Tryz.prog G 181 [.val (.pointer (some ⟨ba, 0, none⟩)), .val (.pointer (some ⟨bb, 0, none⟩))] [.cells ba 3 [.int x], .cells bb 3 [.int y]] fun r h => ∃ v : Unit, r = .ret (.int (x - y)) ∧ h = [.cells ba 3 [.int x], .cells bb 3 [.int y]] := by
 have hm := mul_lim hx hy
 unfold limP at hx hy
 refine AC_ofV (ts := [2]) Tryz.f181.ntmps Tryz.func181 rfl rfl rfl (by simp [Tryz.ntmps181]) fun W I => ?_
 repeat' (first
  | refine armXY1_1 ?_
  | exact True.intro | refine stpH ?_ | refine two ?_ ?_ | refine allc fun c_ => ?_
  | (refine imp fun hc => ?_) <;> try exact cx1 hc
  | refine all fun v_ => ?_)
 refine retv0 ?_
 ((with_reducible apply rq1); rfl; rfl)
 exact ⟨(), rfl, rfl⟩
theorem cal_do3 : Cal Tryz.prog 182 := Cal.of Tryz.func182 (by kernel_rfl) (by kernel_rfl)
theorem clo3 (G : List (Nat × List D)) (ba bb : Nat) (x y : Int) (hx : limP x) (hy : limP y) : AC Tryz.prog G 182 [.val (.pointer (some ⟨ba, 0, none⟩)), .val (.pointer (some ⟨bb, 0, none⟩))] [.cells ba 3 [.int x], .cells bb 3 [.int y]] fun r h => ∃ v : Unit, r = .ret (.int (x * y)) ∧ h = [.cells ba 3 [.int x], .cells bb 3 [.int y]] := by
 have hm := mul_lim hx hy
 unfold limP at hx hy
 refine AC_ofV (ts := [2]) Tryz.f182.ntmps Tryz.func182 rfl rfl rfl (by simp [Tryz.ntmps182]) fun W I => ?_
 repeat' (first
  | refine armXY1_1 ?_
  | exact True.intro | refine stpH ?_ | refine two ?_ ?_ | refine allc fun c_ => ?_
  | (refine imp fun hc => ?_) <;> try exact cx1 hc
  | refine all fun v_ => ?_)
 refine retv0 ?_
 ((with_reducible apply rq1); rfl; rfl)
 exact ⟨(), rfl, rfl⟩
theorem cal_do4 : Cal Tryz.prog 183 := Cal.of Tryz.func183 (by kernel_rfl) (by kernel_rfl)
theorem clo4 (G : List (Nat × List D)) (ba bb : Nat) (x y : Int) (hx : limP x) (hy : limP y) : AC Tryz.prog G 183 [.val (.pointer (some ⟨ba, 0, none⟩)), .val (.pointer (some ⟨bb, 0, none⟩))] [.cells ba 3 [.int x], .cells bb 3 [.int y]] fun r h => ∃ v : Unit, r = .ret (.int (if decide (x = y) = true then 1 else 0)) ∧ h = [.cells ba 3 [.int x], .cells bb 3 [.int y]] := by
 have hm := mul_lim hx hy
 unfold limP at hx hy
 refine AC_ofV (ts := [2]) Tryz.f183.ntmps Tryz.func183 rfl rfl rfl (by simp [Tryz.ntmps183]) fun W I => ?_
 repeat' (first
  | refine armXY1_1 ?_
  | exact True.intro | refine stpH ?_ | refine two ?_ ?_ | refine allc fun c_ => ?_
  | (refine imp fun hc => ?_) <;> try exact cx1 hc
  | refine all fun v_ => ?_)
 refine retv0 ?_
 ((with_reducible apply rq1); rfl; rfl)
 exact ⟨(), rfl, rfl⟩
theorem cal_do5 : Cal Tryz.prog 185 := Cal.of Tryz.func185 (by kernel_rfl) (by kernel_rfl)
theorem clo5 (G : List (Nat × List D)) (ba bb : Nat) (x y : Int) (hx : limP x) (hy : limP y) : AC Tryz.prog G 185 [.val (.pointer (some ⟨ba, 0, none⟩)), .val (.pointer (some ⟨bb, 0, none⟩))] [.cells ba 3 [.int x], .cells bb 3 [.int y]] fun r h => ∃ v : Unit, r = .ret (.int (if decide (x < y) = true then 1 else 0)) ∧ h = [.cells ba 3 [.int x], .cells bb 3 [.int y]] := by
 have hm := mul_lim hx hy
 unfold limP at hx hy
 refine AC_ofV (ts := [2]) Tryz.f185.ntmps Tryz.func185 rfl rfl rfl (by simp [Tryz.ntmps185]) fun W I => ?_
 repeat' (first
  | refine armXY1_1 ?_
  | exact True.intro | refine stpH ?_ | refine two ?_ ?_ | refine allc fun c_ => ?_
  | (refine imp fun hc => ?_) <;> try exact cx1 hc
  | refine all fun v_ => ?_)
 refine retv0 ?_
 ((with_reducible apply rq1); rfl; rfl)
 exact ⟨(), rfl, rfl⟩
theorem cal_do6 : Cal Tryz.prog 186 := Cal.of Tryz.func186 (by kernel_rfl) (by kernel_rfl)
theorem clo6 (G : List (Nat × List D)) (ba bb : Nat) (x y : Int) (hx : limP x) (hy : limP y) : AC Tryz.prog G 186 [.val (.pointer (some ⟨ba, 0, none⟩)), .val (.pointer (some ⟨bb, 0, none⟩))] [.cells ba 3 [.int x], .cells bb 3 [.int y]] fun r h => ∃ v : Unit, r = .ret (.int (bits .and .i64 x y)) ∧ h = [.cells ba 3 [.int x], .cells bb 3 [.int y]] := by
 have hm := mul_lim hx hy
 unfold limP at hx hy
 refine AC_ofV (ts := [2]) Tryz.f186.ntmps Tryz.func186 rfl rfl rfl (by simp [Tryz.ntmps186]) fun W I => ?_
 repeat' (first
  | refine armXY1_1 ?_
  | exact True.intro | refine stpH ?_ | refine two ?_ ?_ | refine allc fun c_ => ?_
  | (refine imp fun hc => ?_) <;> try exact cx1 hc
  | refine all fun v_ => ?_)
 refine retv0 ?_
 ((with_reducible apply rq1); rfl; rfl)
 exact ⟨(), rfl, rfl⟩
theorem cal_do7 : Cal Tryz.prog 187 := Cal.of Tryz.func187 (by kernel_rfl) (by kernel_rfl)
theorem clo7 (G : List (Nat × List D)) (ba bb : Nat) (x y : Int) (hx : limP x) (hy : limP y) : AC Tryz.prog G 187 [.val (.pointer (some ⟨ba, 0, none⟩)), .val (.pointer (some ⟨bb, 0, none⟩))] [.cells ba 3 [.int x], .cells bb 3 [.int y]] fun r h => ∃ v : Unit, r = .ret (.int (bits .or .i64 x y)) ∧ h = [.cells ba 3 [.int x], .cells bb 3 [.int y]] := by
 have hm := mul_lim hx hy
 unfold limP at hx hy
 refine AC_ofV (ts := [2]) Tryz.f187.ntmps Tryz.func187 rfl rfl rfl (by simp [Tryz.ntmps187]) fun W I => ?_
 repeat' (first
  | refine armXY1_1 ?_
  | exact True.intro | refine stpH ?_ | refine two ?_ ?_ | refine allc fun c_ => ?_
  | (refine imp fun hc => ?_) <;> try exact cx1 hc
  | refine all fun v_ => ?_)
 refine retv0 ?_
 ((with_reducible apply rq1); rfl; rfl)
 exact ⟨(), rfl, rfl⟩

end Go.Proofs.YtniklgkoiaeipaaGreatDoor
