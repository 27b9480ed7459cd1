/- A bundle of this claim's own texts: N6 G15 G16 G18 E8 E9 G19 G24 G25 H3 K5. -/
import Derived.Laws.Cover3
import Derived.Test.YtniklgkoiaeipaaGreatDoorD2
import Derived.Test.YtniklgkoiaeipaaGreatDoorD6
import Derived.Test.YtniklgkoiaeipaaGreatDoorD7
import Derived.Test.YtniklgkoiaeipaaGreatDoorD8
import Derived.Test.YtniklgkoiaeipaaGreatDoorD14
import Derived.Test.YtniklgkoiaeipaaGreatDoorD17
import Derived.Test.YtniklgkoiaeipaaGreatDoorD18
import Derived.Test.YtniklgkoiaeipaaGreatDoorD20
set_option linter.unusedVariables false
set_option linter.unusedSimpArgs false
set_option maxRecDepth 100000
set_option maxHeartbeats 4000000
namespace Go.Sp
open Go Go.Av
theorem aheads_few (l : List Fo) (p : Int) : (aheadsOf l p).1.length ≤ 6 := by
 unfold aheadsOf
 by_cases h : formF l p ≠ 0
 · rw [if_pos h]; exact Nat.zero_le _
 · rw [if_neg h, aheads_len]; exact (good_of (Decidable.not_not.1 h)).ah
def claimsF (t : Tk) : Nat := 2 ^ (aheadsOf t.formula t.props.length).1.length
theorem pow64 {n : Nat} (h : n ≤ 6) : 1 ≤ 2 ^ n ∧ 2 ^ n ≤ 64 := by
 have : n = 0 ∨ n = 1 ∨ n = 2 ∨ n = 3 ∨ n = 4 ∨ n = 5 ∨ n = 6 := by omega
 rcases this with rfl | rfl | rfl | rfl | rfl | rfl | rfl <;> decide
theorem claims_few (t : Tk) : 1 ≤ claimsF t ∧ claimsF t ≤ 64 := pow64 (aheads_few _ _)
theorem taskF_ok {t : Tk} (h : taskF t = 0) : propsF t.model t.props = 0 ∧ formF t.formula t.props.length = 0 ∧ modelF t.model = 0 := by
 unfold taskF at h
 by_cases c : propsF t.model t.props ≠ 0
 · rw [if_pos c] at h; exact absurd h c
 · rw [if_neg c] at h
   exact ⟨Decidable.not_not.1 c, h, (propsF_few (Decidable.not_not.1 c)).1⟩
noncomputable abbrev firstF (m : Md) : Int := (codeF m (inits m)).1
theorem first_ok {m : Md} (h : modelF m = 0) : (codeF m (inits m)).2 = 0 ∧ 0 ≤ firstF m ∧ firstF m < prodV m.vars := by
 have hl : (inits m).length = m.vars.length := by simp [inits]
 have h2 : (codeF m (inits m)).2 = 0 := by
  rw [code_of h hl]
  refine codeE_all _ _ _ fun i h1 h2 => ?_
  have := (goodV (modelF_vars h)).range m.vars[i] (List.getElem_mem h1)
  unfold rangeV at this
  simp only [inits, List.getElem_map]
  omega
 exact ⟨h2, codeF_bound h hl h2⟩
noncomputable abbrev lettF (t : Tk) (c : Int) : List Bool := (List.range t.props.length).map (letAt t.props (valsT t.model.vars c))
theorem lettF_ok {t : Tk} (h : taskF t = 0) {c : Int} (h0 : 0 ≤ c) (h1 : c < prodV t.model.vars) : letF t.model t.props c = (lettF t c, 0) := by
 obtain ⟨a1, a2, a3⟩ := taskF_ok h
 have hv : valsF t.model c = (valsT t.model.vars c, 0) := by unfold valsF; rw [if_neg (fun k => k a3), if_pos ⟨h0, h1⟩]
 unfold letF
 rw [if_neg (fun k => k a1), hv, if_neg (by simp)]
theorem lettF_len (t : Tk) (c : Int) : (lettF t c).length = t.props.length := by simp
theorem claims_eq {t : Tk} (h : taskF t = 0) : claimsF t = 2 ^ rank t.formula t.formula.length := by
 unfold claimsF aheadsOf
 rw [if_neg (fun k => k (taskF_ok h).2.1), aheads_len]
theorem truths_ok {t : Tk} (h : taskF t = 0) (x : List Bool) (hx : x.length = t.props.length) {c : Int} (h0 : 0 ≤ c) (h1 : c < claimsF t) : truthsOf t.formula x c = ((List.range t.formula.length).map (tAt t.formula x c), 0) := by
 have hf : formF t.formula x.length = 0 := by rw [hx]; exact (taskF_ok h).2.1
 have ha : aheadsOf t.formula x.length = (aheadL t.formula 0, 0) := by unfold aheadsOf; rw [if_neg (fun k => k hf)]
 unfold truthsOf
 rw [ha, if_neg (by simp), if_neg]
 rw [aheads_len]
 rw [claims_eq h] at h1
 have e : ((2 ^ rank t.formula t.formula.length : Nat) : Int) = 2 ^ rank t.formula t.formula.length := by simp
 omega
theorem truths_cons {l : List Fo} (h : 0 < l.length) (f : Nat → Bool) : ∃ r, (List.range l.length).map f = f 0 :: r := by
 cases hl : l.length with
 | zero => omega
 | succ n => exact ⟨_, by rw [List.range_succ_eq_map, List.map_cons]⟩
noncomputable def beginL (t : Tk) (n : Nat) : List Fo := ((List.range n).filter fun c : Nat => !tAt t.formula (lettF t (firstF t.model)) c 0).map fun c : Nat => ⟨firstF t.model, c⟩
theorem beginL_yes {t : Tk} {n : Nat} (h : tAt t.formula (lettF t (firstF t.model)) n 0 = false) : beginL t (n + 1) = beginL t n ++ [⟨firstF t.model, n⟩] := by
 unfold beginL
 rw [List.range_succ, List.filter_append, List.map_append]
 simp [h]
theorem beginL_no {t : Tk} {n : Nat} (h : tAt t.formula (lettF t (firstF t.model)) n 0 = true) : beginL t (n + 1) = beginL t n := by
 unfold beginL
 rw [List.range_succ, List.filter_append, List.map_append]
 simp [h]
theorem beginL_len (t : Tk) (n : Nat) : (beginL t n).length ≤ n := by
 unfold beginL
 rw [List.length_map]
 exact Nat.le_trans (List.length_filter_le _ _) (by simp)
noncomputable def beginF (t : Tk) : List Fo × Int := if taskF t ≠ 0 then ([], taskF t) else (beginL t (claimsF t), 0)
end Go.Sp
namespace Go.Proofs.YtniklgkoiaeipaaGreatDoor
open Go Go.Av Go.Sp
theorem cal_claims : Cal Tryz.prog 86 := Cal.of Tryz.func86 (by kernel_rfl) (by kernel_rfl)
theorem cal_Begin : Cal Tryz.prog 42 := Cal.of Tryz.func42 (by kernel_rfl) (by kernel_rfl)
theorem armXN6_1 {p q : Prop} (hp : p) (h : p → q := by
 apply cmp; (focus (first
  | ((with_reducible apply call0); (focus rfl); (focus exact cal_Ahead); (focus exact hA); (focus rfl))
  | ((with_reducible apply je_call0); (focus rfl); (focus (decide +kernel)); (focus rfl); (focus exact cal_Ahead); (focus exact hA); (focus rfl))
  ))
 exact fun h => h) : q := h hp
theorem claims (t : Tk) : ACr Tryz.prog GP 86 [tkA t] (.int (claimsF t)) := by
 have hA := Ahead t.formula t.props.length
 have hfew := aheads_few t.formula t.props.length
 unfold claimsF
 generalize aheadsOf t.formula t.props.length = q at hA hfew ⊢
 obtain ⟨ps, e⟩ := q
 dsimp only at hA hfew ⊢
 have hp := pow64 hfew
 have hi : (1 : Int) * 2 ^ (ps.length : Int).toNat = ((2 ^ ps.length : Nat) : Int) := by simp
 refine AC_ofV (ts := [2]) Tryz.f86.ntmps Tryz.func86 rfl rfl rfl (by simp [Tryz.ntmps86]) fun W I => ?_
 have hin : inI64 ((1 : Int) * 2 ^ (ps.length : Int).toNat) := by rw [hi]; generalize (2 ^ ps.length : Nat) = x at hp ⊢; unfold inI64; omega
 repeat' (first
  | refine armXN6_1 ?_
  | exact True.intro | refine stpH ?_ | refine two ?_ ?_ | refine allc fun c_ => ?_
  | (refine imp fun hc => ?_) <;> try exact cx1 hc
  | refine all fun v_ => ?_)
 refine retv (VS.drop (List.nil_sublist _)) ?_
 ((with_reducible apply rq1); rfl; rfl)
 exact ret_eq (by rw [← hi])
theorem armXN6_3 {p q : Prop} (hp : p) (h : p → q := by
 apply cmp; (focus (first
  | ((with_reducible apply call0); (focus rfl); (focus exact cal_PCheck); (focus exact hP); (focus rfl))
  | ((with_reducible apply je_call0); (focus rfl); (focus (decide +kernel)); (focus rfl); (focus exact cal_PCheck); (focus exact hP); (focus rfl))
  ))
 exact fun h => h) : q := h hp
theorem armXN6_4 {p q : Prop} (hp : p) (h : p → q := by
 apply cmp; (focus (first
  | ((with_reducible apply call0); (focus rfl); (focus exact cal_PCheck); (focus exact hP); (focus rfl))
  | ((with_reducible apply je_call0); (focus rfl); (focus (decide +kernel)); (focus rfl); (focus exact cal_PCheck); (focus exact hP); (focus rfl))
  | ((with_reducible apply call0); (focus rfl); (focus exact cal_First); (focus exact hF); (focus rfl))
  | ((with_reducible apply je_call0); (focus rfl); (focus (decide +kernel)); (focus rfl); (focus exact cal_First); (focus exact hF); (focus rfl))
  | ((with_reducible apply call0); (focus rfl); (focus exact cal_Letter); (focus exact hL); (focus rfl))
  | ((with_reducible apply je_call0); (focus rfl); (focus (decide +kernel)); (focus rfl); (focus exact cal_Letter); (focus exact hL); (focus rfl))
  | ((with_reducible apply call0); (focus rfl); (focus exact cal_claims); (focus exact hM); (focus rfl))
  | ((with_reducible apply je_call0); (focus rfl); (focus (decide +kernel)); (focus rfl); (focus exact cal_claims); (focus exact hM); (focus rfl))
  ))
 exact fun h => h) : q := h hp
theorem armXN6_5 {p q : Prop} (hp : p) (h : p → q := by
 apply cmp; (focus (first
  | ((with_reducible apply call0); (focus rfl); (focus exact cal_Truths); (focus exact hT); (focus rfl))
  | ((with_reducible apply je_call0); (focus rfl); (focus (decide +kernel)); (focus rfl); (focus exact cal_Truths); (focus exact hT); (focus rfl))
  ))
 exact fun h => h) : q := h hp
theorem Begin (t : Tk) : ACr Tryz.prog GP 42 [tkA t] (.tup [.d (opsD (beginF t).1), .int (beginF t).2]) := by
 have hP := PCheck t
 unfold beginF
 refine AC_ofV (ts := [2, 3]) Tryz.f42.ntmps Tryz.func42 rfl rfl rfl (by simp [Tryz.ntmps42]) fun W I => ?_
 by_cases h1 : taskF t ≠ 0
 · rw [if_pos h1]
   generalize taskF t = e at hP h1
   repeat' (first
    | refine armXN6_3 ?_
    | exact True.intro | refine stpH ?_ | refine two ?_ ?_ | refine allc fun c_ => ?_
    | (refine imp fun hc => ?_) <;> try exact cx1 hc
    | refine all fun v_ => ?_)
   refine retv (VS.trans (VS.drop (List.nil_sublist _)) (vnil (t := 2) 2 16 rfl)) ?_
   ((with_reducible apply rq2); rfl; rfl; rfl)
   exact ret_eq rfl
 rw [if_neg h1]
 replace h1 := Decidable.not_not.1 h1
 rw [h1] at hP
 obtain ⟨a1, a2, a3⟩ := taskF_ok h1
 obtain ⟨f1, f2, f3⟩ := first_ok a3
 have gf := good_of a2
 have hpos := gf.pos
 have h60 := gf.h60
 have hF : ACr Tryz.prog GP 36 [mdA t.model] (.tup [.int (firstF t.model), .int 0]) := by
  have h := First t.model
  rw [f1] at h
  exact h
 have hL := Letter t.model t.props (firstF t.model)
 have hM := claims t
 rw [lettF_ok h1 f2 f3] at hL
 dsimp only at hL
 obtain ⟨m1, m2⟩ := claims_few t
 have hll := lettF_len t (firstF t.model)
 have hin : ∀ n : Nat, n < claimsF t → truthsOf t.formula (lettF t (firstF t.model)) n = ((List.range t.formula.length).map (tAt t.formula (lettF t (firstF t.model)) n), 0) := fun n hn => truths_ok h1 _ hll (by omega) (by omega)
 have hyes := fun n => beginL_yes (t := t) (n := n)
 have hno := fun n => beginL_no (t := t) (n := n)
 have hbl := beginL_len t
 have hb0 : beginL t 0 = [] := rfl
 generalize beginL t = B at hyes hno hbl hb0 ⊢
 generalize lettF t (firstF t.model) = lt at hL hll hin hyes hno
 generalize firstF t.model = fst at hF hL f2 f3 hyes hno
 generalize claimsF t = N at hM m1 m2 hin ⊢
 repeat' (first
  | refine armXN6_4 ?_
  | exact True.intro | refine stpH ?_ | refine two ?_ ?_ | refine allc fun c_ => ?_
  | (refine imp fun hc => ?_) <;> try exact cx1 hc
  | refine all fun v_ => ?_)
 refine jrow (E := 98) (sz := 2) Fo.cells ?_
 refine J_loopV (X := Nat × Sl) (fun y => [(1, .val (.pointer (some ⟨v_, 0, none⟩))), (5, .int fst), (7, .d (boolsD lt)), (9, .val y.2.v), (34, .int N), (35, .int y.1)]) (fun y => [rowE y.2.v 98 2 Fo.cells (B y.1), .cells v_ 29 [.d (varsD t.model.vars), .d (rulesD t.model.rules), .d (termsD t.props), .d (opsD t.formula)]]) (fun y => y.1 ≤ N) (fun y => N - y.1) (0, Sl.nil) (Nat.zero_le _) (VS.take (by rw [hb0]; exact takedD) ?_) ?_
 · exact leD
 rintro ⟨i, q⟩ hi
 dsimp only at hi ⊢
 have hbi := hbl i
 by_cases hil : i < N
 · have hT := Truths t.formula lt i
   rw [hin i hil] at hT
   have hyes := hyes i
   have hno := hno i
   obtain ⟨rest, hr⟩ := truths_cons hpos (tAt t.formula lt i)
   rw [hr] at hT
   dsimp only at hT
   cases hb : tAt t.formula lt i 0 with
   | true =>
     rw [hb] at hT
     have hno := hno hb
     repeat' (first
      | refine armXN6_5 ?_
      | ((with_reducible apply (japU1 (f := Fo.cells) (u := ⟨fst, (i : Int)⟩))); (focus rfl); (focus rfl); (focus (with_reducible exact ElC.h)); (focus exact updqD); (focus rfl); (focus rfl); (focus rfl); (focus rfl); (focus exact bndD); (focus exact bndD))
      | exact True.intro | refine stpH ?_ | refine two ?_ ?_ | refine allc fun c_ => ?_
      | (refine imp fun hc => ?_) <;> try exact cx1 hc
      | refine all fun v_ => ?_)
     refine ⟨(i + 1, q), by dsimp only; omega, by dsimp only; omega, VS.take (by dsimp only; rw [hno]; exact takedD) ?_⟩
     exact leD
   | false =>
     rw [hb] at hT
     have hyes := hyes hb
     repeat' (first
      | refine armXN6_5 ?_
      | ((with_reducible apply (japU1 (f := Fo.cells) (u := ⟨fst, (i : Int)⟩))); (focus rfl); (focus rfl); (focus (with_reducible exact ElC.h)); (focus exact updqD); (focus rfl); (focus rfl); (focus rfl); (focus rfl); (focus exact bndD); (focus exact bndD))
      | exact True.intro | refine stpH ?_ | refine two ?_ ?_ | refine allc fun c_ => ?_
      | (refine imp fun hc => ?_) <;> try exact cx1 hc
      | refine all fun v_ => ?_)
     refine ⟨(i + 1, v_), by dsimp only; omega, by dsimp only; omega, VS.take (by dsimp only; rw [hyes]; exact takedD) ?_⟩
     exact leD
 obtain rfl : i = N := by omega
 repeat' (first
  | exact True.intro | refine stpH ?_ | refine two ?_ ?_ | refine allc fun c_ => ?_
  | (refine imp fun hc => ?_) <;> try exact cx1 hc
  | refine all fun v_ => ?_)
 refine retv (VS.trans (vfreeze (t := 2) (eb := 16) rfl rfl (fun x => rfl) (by omega)) (VS.drop (List.nil_sublist _))) ?_
 ((with_reducible apply rq2); rfl; rfl; rfl)
 exact ret_eq rfl
end Go.Proofs.YtniklgkoiaeipaaGreatDoor
namespace Go.Sp
open Go Go.Av

theorem codesL_succ (m : Md) (vs : List Int) (l : List Ru) (i : Nat) (h : i < l.length) : codesL m vs (l.take (i + 1)) = codesL m vs (l.take i) ++ (match afterF m l[i] vs with | none => [] | some out => [(codeF m out).1]) := by
 unfold codesL
 rw [List.take_succ_eq_append_getElem h, List.filterMap_append, List.filterMap_cons, List.filterMap_nil]
 cases afterF m l[i] vs <;> rfl
theorem codesL_none {m : Md} {vs : List Int} {l : List Ru} {i : Nat} (h : i < l.length) (ho : afterF m l[i] vs = none) : codesL m vs (l.take (i + 1)) = codesL m vs (l.take i) := by
 rw [codesL_succ m vs l i h, ho, List.append_nil]
theorem codesL_some {m : Md} {vs : List Int} {l : List Ru} {i : Nat} {out : List Int} (h : i < l.length) (ho : afterF m l[i] vs = some out) : codesL m vs (l.take (i + 1)) = codesL m vs (l.take i) ++ [(codeF m out).1] := by
 rw [codesL_succ m vs l i h, ho]
theorem codesL_len (m : Md) (vs : List Int) (l : List Ru) : (codesL m vs l).length ≤ l.length := List.length_filterMap_le _ _
theorem compact_len (l : List Int) (n : Nat) (hn : l.length ≤ n) : (Lib.compact l).length ≤ n := by
 unfold Lib.compact Lib.compactUpTo
 rw [List.length_map]
 exact Nat.le_trans (List.length_filter_le _ _) (by simpa using hn)
theorem upTo_len (k : Nat) (l : List Int) : (upTo k l).length ≤ k := by
 unfold upTo
 rw [List.length_map]
 exact Nat.le_trans (List.length_filter_le _ _) (by simp)
theorem upTo_nil (n : Nat) : upTo n [] = [] := by
 unfold upTo; simp
theorem nextF_err {m : Md} {c : Int} (h : (valsF m c).2 ≠ 0) : nextF m c = ([], (valsF m c).2) := by unfold nextF; rw [if_pos h]
theorem nextF_ok {m : Md} {c : Int} (h : (valsF m c).2 = 0) : nextF m c = (if codesL m (valsT m.vars c) m.rules = [] then [c] else upTo (prodV m.vars).toNat (codesL m (valsT m.vars c) m.rules), 0) := by
 obtain ⟨_, _, _, e⟩ := valsF_ok h
 unfold nextF
 rw [if_neg (fun k => k h), e]
theorem modelF_few {m : Md} (h : modelF m = 0) : m.rules.length ≤ 12 := by
 have hv := modelF_vars h
 unfold modelF at h
 rw [if_neg (fun k => k hv)] at h
 by_cases c : 12 < m.rules.length
 · rw [if_pos c] at h; exact absurd h (by decide)
 · omega
theorem states_nat {m : Md} (h : modelF m = 0) : ∃ n : Nat, prodV m.vars = n ∧ 1 ≤ n ∧ n ≤ 4096 := by
 have g := goodV (modelF_vars h)
 have h1 := prodV_pos fun v hv => (g.span v hv).1
 have h2 := g.all
 exact ⟨(prodV m.vars).toNat, by omega, by omega, by omega⟩

theorem nextF_range {m : Md} (hm : modelF m = 0) (c : Int) : ∀ x ∈ (nextF m c).1, 0 ≤ x ∧ x < prodV m.vars := fun x hx => by
 by_cases h : (valsF m c).2 ≠ 0
 · rw [nextF_err h] at hx; cases hx
 · rw [nextF_ok (Decidable.not_not.1 h)] at hx
   obtain ⟨_, h0, h1, _⟩ := valsF_ok (Decidable.not_not.1 h)
   dsimp only at hx
   by_cases hc : codesL m (valsT m.vars c) m.rules = []
   · rw [if_pos hc] at hx; rw [List.mem_singleton.1 hx]; exact ⟨h0, h1⟩
   · rw [if_neg hc] at hx
     have := upTo_range hx
     obtain ⟨n, hn, _, _⟩ := states_nat hm
     rw [hn] at this ⊢
     rw [Int.toNat_natCast] at this
     exact ⟨this.1, this.2.1⟩
noncomputable def nxM (m : Md) (c : Nat) : List Nat := (nextF m c).1.map Int.toNat
theorem nxM_mem {m : Md} (hm : modelF m = 0) (c k : Nat) : k ∈ nxM m c ↔ (k : Int) ∈ (nextF m c).1 := by
 unfold nxM
 rw [List.mem_map]
 constructor
 · rintro ⟨x, hx, rfl⟩
   rwa [Int.toNat_of_nonneg (nextF_range hm c x hx).1]
 · intro h; exact ⟨k, h, Int.toNat_natCast k⟩
noncomputable def reachL (m : Md) (n : Nat) : List Int := ((List.range n).filter fun c => decide (fromP (nxM m) [(firstF m).toNat] c)).map Int.ofNat
noncomputable def reachF (m : Md) : List Int × Int := if modelF m ≠ 0 then ([], modelF m) else (reachL m (prodV m.vars).toNat, 0)
structure RM (m : Md) (n : Nat) (i : Nat) (xs : List Int) : Prop where
 nodup : xs.Nodup
 range : ∀ x ∈ xs, 0 ≤ x ∧ x < n
 sound : ∀ x ∈ xs, fromP (nxM m) [(firstF m).toNat] x.toNat
 first : firstF m ∈ xs
 done : ∀ (j : Nat) (h : j < xs.length), j < i → ∀ y ∈ (nextF m xs[j]).1, y ∈ xs
theorem nodup_len : ∀ (n : Nat) (xs : List Int), xs.Nodup → (∀ x ∈ xs, 0 ≤ x ∧ x < (n : Int)) → xs.length ≤ n
 | 0, [], _, _ => Nat.le_refl _
 | 0, x :: _, _, h => by have := h x List.mem_cons_self; omega
 | n + 1, xs, hn, h => by
   have ih := nodup_len n (xs.erase n) (hn.erase _) fun x hx => by
    have h1 := h x (List.mem_of_mem_erase hx)
    have h2 : x ≠ n := fun e => by
     subst e
     exact (List.Nodup.not_mem_erase hn) hx
    omega
   have := List.length_erase (a := (n : Int)) (l := xs)
   split at this <;> omega
theorem RM.len {m : Md} {n i : Nat} {xs : List Int} (r : RM m n i xs) : xs.length ≤ n := nodup_len n xs r.nodup r.range
theorem RM.start {m : Md} {n : Nat} (hm : modelF m = 0) (hn : prodV m.vars = n) : RM m n 0 [firstF m] := by
 obtain ⟨_, f1, f2⟩ := first_ok hm
 refine ⟨by simp, fun x hx => ?_, fun x hx => ?_, by simp, fun j _ h => absurd h (Nat.not_lt_zero j)⟩
 · rw [List.mem_singleton.1 hx]; omega
 · rw [List.mem_singleton.1 hx]; exact ⟨_, List.mem_singleton.2 rfl, .refl _⟩
theorem RM.fin {m : Md} {n i : Nat} {xs : List Int} (hm : modelF m = 0) (r : RM m n i xs) (hi : xs.length ≤ i) : sortI xs = reachL m n := by
 rw [sort_up n xs r.range r.nodup]
 unfold upTo reachL
 refine congrArg (List.map Int.ofNat) (List.filter_congr fun c hc => decide_eq_decide.2 ?_)
 constructor
 · intro h; have := r.sound _ h; rwa [Int.toNat_natCast] at this
 · rintro ⟨j, hj, hr⟩
   rw [List.mem_singleton.1 hj] at hr
   have key : ∀ k, Rch (nxM m) (firstF m).toNat k → (k : Int) ∈ xs := fun k hk => by
    induction hk with
    | refl => rw [Int.toNat_of_nonneg (r.range _ r.first).1]; exact r.first
    | step _ e ih =>
      obtain ⟨j, hj, he⟩ := List.getElem_of_mem ih
      refine r.done j hj (by omega) _ ?_
      rw [he]; exact (nxM_mem hm _ _).1 e
   exact key c hr
theorem RM.add {m : Md} {n i : Nat} {xs : List Int} (hm : modelF m = 0) (hn : prodV m.vars = n) (r : RM m n i xs) (hi : i < xs.length) {y : Int} (hy : y ∈ (nextF m xs[i]).1) (hno : y ∉ xs) : RM m n i (xs ++ [y]) := by
 have hr := nextF_range hm _ y hy
 have hxi := r.range xs[i] (List.getElem_mem hi)
 refine ⟨List.nodup_append.2 ⟨r.nodup, by simp, fun a ha b hb e => ?_⟩, fun x hx => ?_, fun x hx => ?_, List.mem_append_left _ r.first, fun j h hj z hz => ?_⟩
 · rw [List.mem_singleton.1 hb] at e; exact hno (e ▸ ha)
 · rcases List.mem_append.1 hx with h | h
   · exact r.range x h
   · rw [List.mem_singleton.1 h]; omega
 · rcases List.mem_append.1 hx with h | h
   · exact r.sound x h
   · rw [List.mem_singleton.1 h]
     obtain ⟨u, hu, hp⟩ := r.sound xs[i] (List.getElem_mem hi)
     refine ⟨u, hu, hp.step ((nxM_mem hm _ _).2 ?_)⟩
     rw [Int.toNat_of_nonneg hr.1, Int.toNat_of_nonneg hxi.1]; exact hy
 · rw [List.getElem_append_left (by omega)] at hz
   exact List.mem_append_left _ (r.done j (by omega) hj z hz)
theorem RM.next {m : Md} {n i : Nat} {xs : List Int} (r : RM m n i xs) (hi : i < xs.length) (h : ∀ y ∈ (nextF m xs[i]).1, y ∈ xs) : RM m n (i + 1) xs :=
 ⟨r.nodup, r.range, r.sound, r.first, fun j hj hlt y hy => by
  by_cases e : j = i
  · subst e; exact h y hy
  · exact r.done j hj (by omega) y hy⟩

noncomputable def folB (t : Tk) (st cl c : Int) (d : Int) : Bool := decide (kept t.formula (tAt t.formula (lettF t st) cl) (tAt t.formula (lettF t c) d))
theorem follows_ok {t : Tk} (h : taskF t = 0) {st cl c d : Int} (h0 : 0 ≤ cl) (h1 : cl < claimsF t) (h2 : 0 ≤ d) (h3 : d < claimsF t) : followsOf t.formula (lettF t st) cl (lettF t c) d = (folB t st cl c d, 0) := by
 have e1 := truths_ok h (lettF t st) (lettF_len t st) h0 h1
 have e2 := truths_ok h (lettF t c) (lettF_len t c) h2 h3
 unfold followsOf
 rw [if_neg (by simp), e1, e2, if_neg (by simp), if_neg (by simp)]
 rfl
noncomputable def folL (t : Tk) (st cl c : Int) (k : Nat) : List Fo := ((List.range k).filter fun d : Nat => folB t st cl c d).map fun d : Nat => ⟨c, d⟩
theorem folL_yes {t : Tk} {st cl c : Int} {k : Nat} (h : folB t st cl c k = true) : folL t st cl c (k + 1) = folL t st cl c k ++ [⟨c, k⟩] := by
 unfold folL
 rw [List.range_succ, List.filter_append, List.map_append]
 simp [h]
theorem folL_no {t : Tk} {st cl c : Int} {k : Nat} (h : folB t st cl c k = false) : folL t st cl c (k + 1) = folL t st cl c k := by
 unfold folL
 rw [List.range_succ, List.filter_append, List.map_append]
 simp [h]
theorem folL_len (t : Tk) (st cl c : Int) (k : Nat) : (folL t st cl c k).length ≤ k := by
 unfold folL
 rw [List.length_map]
 exact Nat.le_trans (List.length_filter_le _ _) (by simp)
noncomputable def behL (t : Tk) (st cl : Int) (cs : List Int) : List Fo := cs.flatMap fun c => folL t st cl c (claimsF t)
theorem behL_succ (t : Tk) (st cl : Int) (cs : List Int) (i : Nat) (h : i < cs.length) : behL t st cl (cs.take (i + 1)) = behL t st cl (cs.take i) ++ folL t st cl cs[i] (claimsF t) := by
 unfold behL
 rw [List.take_succ_eq_append_getElem h, List.flatMap_append]
 simp
theorem behL_len (t : Tk) (st cl : Int) : ∀ cs : List Int, (behL t st cl cs).length ≤ cs.length * 64
 | [] => by simp [behL]
 | c :: cs => by
   have ih := behL_len t st cl cs
   have h1 := folL_len t st cl c (claimsF t)
   have h2 := (claims_few t).2
   have e : behL t st cl (c :: cs) = folL t st cl c (claimsF t) ++ behL t st cl cs := by simp [behL]
   rw [e, List.length_append, List.length_cons]
   omega
noncomputable def behindF (t : Tk) (st cl : Int) : List Fo × Int :=
 if taskF t ≠ 0 then ([], taskF t)
 else if ¬ ((0 ≤ st ∧ st < prodV t.model.vars) ∧ 0 ≤ cl ∧ cl < claimsF t) then ([], 9)
 else (behL t st cl (nextF t.model st).1, 0)
theorem nextF_len {m : Md} (hm : modelF m = 0) (c : Int) : (nextF m c).1.length ≤ 4096 := by
 by_cases h : (valsF m c).2 ≠ 0
 · rw [nextF_err h]; exact Nat.zero_le _
 · rw [nextF_ok (Decidable.not_not.1 h)]
   obtain ⟨n, hn, n1, n2⟩ := states_nat hm
   dsimp only
   split
   · simp
   · rw [hn, Int.toNat_natCast]; exact Nat.le_trans (upTo_len _ _) n2
end Go.Sp
namespace Go.Av
open Go

section
variable {k : Kx} {Q : Exit → Env → H → Prop} {ρ : Env} {h : H} {ops : Array Oper} {l : List Oper} {d : Nat} {ty : TypeId} {pos : String} {after : Array Edge}
theorem jeq_nil {α : Type} {f : α → List D} {xs : List α} {T T' E : TypeId} {x y : Operand} {sz eb : Nat} (hx : evO ρ x = some (.d (.l sz eb (xs.map f)))) (hy : evO ρ y = some (.val (.slice none 0 0))) (hT : k.P.underlying T = some (.slice E)) (hd : Nat.blt d k.n = true)
 (hj : Two (Imp (xs = []) (JL k ops l Q ((d, .bool true) :: ρ) h)) (JL k ops l Q ((d, .bool false) :: ρ) h)) : JL k ops (⟨some d, .binOp .eql T x y T', ty, pos, after, none⟩ :: l) Q ρ h := by
 refine JL_eff rfl (fun t ht => by cases ht; exact blt hd) fun I a w h1 h2 => ?_
 have ex : Rel w I (.l sz eb (xs.map f)) (a.eval x) := by have := h2.ev x; rw [ev_of_evO hx] at this; exact this
 have ey : a.eval y = .slice none 0 0 := rel_val (h2.ev y) (ev_of_evO hy)
 have key : ∀ (ad : Option Addr) (n c : Nat), a.eval x = .slice ad n c → (execOp a.eval ⟨some d, .binOp .eql T x y T', ty, pos, after, none⟩).run k.P w = .ok (.value (.bool ad.isNone)) w := by
  intro ad n c e
  have r : (binOp .eql T (.slice ad n c) (.slice none 0 0)).run k.P w = .ok (.bool ad.isNone) w := by
   simp only [binOp]
   simp [run_equal_slice_nil w T E ad n c hT]
  simp [execOp, e, ey, eqGuard_at_slice, r]
 have go : ∀ b, (b = true → xs = []) → JL k ops l Q (put ρ (some d) (.bool b)) h := by
  intro b hb
  cases b with
  | true => exact hj.1.get (hb rfl)
  | false => exact hj.2
 generalize hR : xs.map f = R at ex
 generalize hv : a.eval x = v at ex key
 cases ex with
 | nil => exact ⟨_, w, I, .bool true, h, key _ _ _ rfl, h1, h2, rfl, go true fun _ => List.map_eq_nil_iff.1 hR⟩
 | emp => exact ⟨_, w, I, .bool false, h, key _ _ _ rfl, h1, h2, rfl, go false fun h => (by cases h)⟩
 | l => exact ⟨_, w, I, .bool false, h, key _ _ _ rfl, h1, h2, rfl, go false fun h => (by cases h)⟩
end
open Go Go.Instr

structure KeyF (P : Program) (KT : TypeId) {α : Type} (kv : α → Value) [DecidableEq α] : Prop where
 find : ∀ {β : Type} (vv : β → Value) (ps : List (α × β)) (a : α) (w : World), ∃ r : Option (Nat × Value), (findKey KT (kv a) (mapEs (entL kv vv ps) 0)).run P w = .ok r w ∧ r.map (·.2) = (getM ps a).map vv
 easy : ∀ (e : Bool) (a : α) (w : World), (checkKey e 10000 KT (kv a)).run P w = .ok () w
section
variable {α β : Type} [DecidableEq α] {kv : α → Value}
theorem run_asking {P : Program} {KT : TypeId} (he : ∀ a b w, (Op.equal KT (kv a) (kv b)).run P w = .ok (decide (a = b)) w) (vv : β → Value) (a : α) : ∀ (ps : List (α × β)) (i j : Nat) (w : World),
 ∃ r : Option (Nat × Value), (findAsking KT (kv a) (mapEs (entL kv vv ps) i) j).run P w = .ok r w ∧ r.map (·.2) = (getM ps a).map vv
 | [], i, j, w => ⟨none, rfl, rfl⟩
 | (b, c) :: ps, i, j, w => by
   by_cases h : a = b
   · subst h
     refine ⟨some (j, vv c), ?_, by simp [getM]⟩
     simp [entL, mapEs, findAsking, he]
   · obtain ⟨r, h1, h2⟩ := run_asking he vv a ps (i + 1) (j + 1) w
     have hb : ¬ b = a := fun k => h k.symm
     refine ⟨r, ?_, by rw [h2]; simp [getM, hb]⟩
     have e : mapEs (entL kv vv ((b, c) :: ps)) i = ⟨kv b, vv c, i⟩ :: mapEs (entL kv vv ps) (i + 1) := rfl
     rw [e, findAsking]
     simp [he, h, h1]
theorem keyF_struct {P : Program} {KT : TypeId} {fs : Array Field} (hK : P.underlying KT = some (.struct fs)) (he : ∀ a b w, (Op.equal KT (kv a) (kv b)).run P w = .ok (decide (a = b)) w)
 (hc : ∀ e a w, (checkKey e 10000 KT (kv a)).run P w = .ok () w) : KeyF P KT kv where
 easy := hc
 find vv ps a w := by
  cases ps with
  | nil => exact ⟨none, by simp [findKey, run_underlying hK, entL, mapEs, findNow], rfl⟩
  | cons p ps =>
    obtain ⟨r, h1, h2⟩ := run_asking he vv a (p :: ps) 0 0 w
    refine ⟨r, ?_, h2⟩
    have e : findNow (.struct fs) (kv a) (mapEs (entL kv vv (p :: ps)) 0) 0 = none := by
     have e1 : mapEs (entL kv vv (p :: ps)) 0 = ⟨kv p.1, vv p.2, 0⟩ :: mapEs (entL kv vv ps) 1 := rfl
     rw [e1, findNow]
     have e2 : sameNow (.struct fs) (kv a) (kv p.1) = none := by unfold sameNow; split <;> simp_all
     simp only [e2]
    simp [findKey, run_underlying hK, e, h1]
end
section
variable {k : Kx} {Q : Exit → Env → H → Prop} {ρ : Env} {h h' : H} {ops : Array Oper} {l : List Oper} {ty : TypeId} {pos : String} {after : Array Edge}
theorem js_putF {α β : Type} [DecidableEq α] {kv : α → Value} {vv : β → Value} {T KT ET : TypeId} (K : KeyF k.P KT kv) {x y u : Operand} {r s : AV} {b : Nat} {ps : List (α × β)} {a : α} {c : β}
 (hx : evO ρ x = some (.val (.map (some b)))) (hy : evO ρ y = some s) (hs : ∀ w I v, AV.rel w I s v → v = kv a) (hv : evO ρ u = some r) (hr : ∀ w I v, AV.rel w I r v → v = vv c) (hT : k.P.underlying T = some (.map KT ET))
 (hu : Upd (.raw b (mapO (entL kv vv ps))) (.raw b (mapO (entL kv vv (ps ++ [(a, c)])))) h h') (hno : getM ps a = none)
 (hj : JL k ops l Q ρ h') : JL k ops (⟨none, .mapUpdate T x y u, ty, pos, after, none⟩ :: l) Q ρ h := by
 obtain ⟨h1, h2, rfl, rfl⟩ := hu.split
 refine JL_eff_skip rfl rfl fun I ac w k1 k2 => ?_
 have e1 := rel_val (k2.ev x) (ev_of_evO hx)
 have e2 := hs _ _ _ (rel_as (k2.ev y) (ev_of_evO hy))
 have e3 := hr _ _ _ (rel_as (k2.ev u) (ev_of_evO hv))
 have hb : w.heap[b]? = some (mapO (entL kv vv ps)) := k1.ent (.raw b (mapO (entL kv vv ps))) (by simp)
 obtain ⟨q, hfind, hq⟩ := K.find vv ps a w
 obtain rfl : q = none := by
  rw [hno] at hq
  cases q with
  | none => rfl
  | some _ => cases hq
 have hnew : Obj.map (mapEs (entL kv vv ps) 0 ++ [(⟨kv a, vv c, (entL kv vv ps).length⟩ : MapEntry)]).toArray ((entL kv vv ps).length + 1) = mapO (entL kv vv (ps ++ [(a, c)])) := by
  have e : entL kv vv (ps ++ [(a, c)]) = entL kv vv ps ++ [(kv a, vv c)] := by simp [entL]
  unfold mapO
  rw [e, mapEs_append]
  simp [mapEs]
 obtain ⟨g1, g2⟩ := k1.write (w' := { w with heap := w.heap.setIfInBounds b (mapO (entL kv vv (ps ++ [(a, c)]))) }) (e' := .raw b (mapO (entL kv vv (ps ++ [(a, c)])))) (b := b) rfl rfl rfl rfl rfl (by simp)
  (fun x hx => by simp [Array.getElem?_setIfInBounds, Ne.symm hx]) (by
   have hlt := (Array.getElem?_eq_some_iff.1 hb).1
   show _ = _
   simp [Array.getElem?_setIfInBounds, hlt])
 refine ⟨{ w with heap := w.heap.setIfInBounds b (mapO (entL kv vv (ps ++ [(a, c)]))) }, I, h1 ++ .raw b (mapO (entL kv vv (ps ++ [(a, c)]))) :: h2, ?_, g1, k2.mono g2 (fun _ h => h), hj⟩
 have hobj : (getObj b).run k.P w = .ok (.map (mapEs (entL kv vv ps) 0).toArray (entL kv vv ps).length) w := by simp [getObj, Sem.run, hb, mapO]
 have hset := run_setM (P := k.P) (w := w) (r := b) (mapO (entL kv vv (ps ++ [(a, c)]))) (es := (mapEs (entL kv vv ps) 0).toArray) (clock := (entL kv vv ps).length) hb
 simp only [execOp, e1, e2, e3, mapUpdate]
 simp [run_underlying hT, hobj, K.easy false a w, hfind, hnew, hset]
end
section
variable {P : Program} {G : List (Nat × List D)} {ρ : Env} {h : H} {dst : Option Tmp} {ty : TypeId} {pos : String} {after : Array Edge} {g : Option (Nat × Bool)}
theorem pu_lookF {α β : Type} [DecidableEq α] {kv : α → Value} {vv : β → Value} {T KT ET : TypeId} (K : KeyF P KT kv) {x y : Operand} {s : AV} {b : Nat} {ps : List (α × β)} {a : α} {z : Value} {sz eb : Nat}
 (hx : evO ρ x = some (.val (.map (some b)))) (hy : evO ρ y = some s) (hs : ∀ w I v, AV.rel w I s v → v = kv a) (hT : P.underlying T = some (.map KT ET)) (hE : El P ET z sz eb) (hm : Ent.raw b (mapO (entL kv vv ps)) ∈ h) :
 Pure P G ⟨dst, .lookup T x y true, ty, pos, after, g⟩ ρ h (.tup [.val (((getM ps a).map vv).getD z), .bool (getM ps a).isSome]) := by
 intro c I n ac w _ hok hs'
 obtain ⟨i, hi, hz, _, _⟩ := hE.get
 have e1 := rel_val (hs'.ev x) (ev_of_evO hx)
 have e2 := hs _ _ _ (rel_as (hs'.ev y) (ev_of_evO hy))
 have hb : w.heap[b]? = some (mapO (entL kv vv ps)) := hok.ent _ hm
 refine ⟨.tuple #[((getM ps a).map vv).getD z, .bool (getM ps a).isSome], ⟨[_, _], rfl, rfl, rfl, trivial⟩, fun w' hw' => ?_⟩
 have hb' : w'.heap[b]? = some (mapO (entL kv vv ps)) := (hw'.own b (mem_blks hm rfl)).trans hb
 have hobj : (getObj b).run P w' = .ok (.map (mapEs (entL kv vv ps) 0).toArray (entL kv vv ps).length) w' := by simp [getObj, Sem.run, hb', mapO]
 obtain ⟨r, hr1, hr2⟩ := K.find vv ps a w'
 simp only [execOp, e1, e2, lookup]
 cases r with
 | none =>
   have hr3 : (getM ps a).map vv = none := hr2.symm
   have hr4 : getM ps a = none := by simpa using hr3
   simp [run_underlying hT, hobj, K.easy _ a w', hr1, hr4, zeroValue, typeInfo, hi, hz]
 | some r =>
   obtain ⟨j, v⟩ := r
   have hr3 : (getM ps a).map vv = some v := hr2.symm
   obtain ⟨bb, hb1, hb2⟩ := Option.map_eq_some_iff.1 hr3
   simp [run_underlying hT, hobj, K.easy _ a w', hr1, hb1, hb2]
theorem pu_load_row_agg {α : Type} {f : α → List D} {xs : List α} {T E : TypeId} {x : Operand} {q : Sl} {j sz eb : Nat} {z : Value} (hT : isAggB P T = some true) (hE : El P T z sz eb) (hx : evO ρ x = some (.val (.pointer (some (q.at (j * sz)))))) (hm : rowE q.v E sz f xs ∈ h) (hsz : ∀ a, (f a).length = sz) (hj : j < xs.length) :
 Pure P G ⟨dst, .load T x, ty, pos, after, g⟩ ρ h (.agg ((f xs[j]).map D.av)) := by
 intro cx I m a w _ hok hs
 obtain ⟨i, hi, _, rfl, _⟩ := hE.get
 obtain ⟨gb, cap, cur, rfl, hg, hnc, hcm, hcs, hrel⟩ := Ent.row_form (hok.ent _ hm) (by omega)
 have e1 : a.eval x = .pointer (some ⟨gb, j * i.size, none⟩) := rel_val (hs.ev x) (ev_of_evO hx)
 have hle : (j + 1) * i.size ≤ xs.length * i.size := Nat.mul_le_mul_right _ hj
 rw [Nat.add_mul, Nat.one_mul] at hle
 have hcl : xs.length * i.size ≤ cur.toList.length := by
  have e : cur.toList.length = cap * i.size := hcs
  rw [e]; exact Nat.mul_le_mul_right _ hnc
 have hfl : ∀ l : List α, ((l.map f).flatten).length = l.length * i.size := fun l => by
  rw [flatten_length _ fun r hr => by obtain ⟨b, _, rfl⟩ := List.mem_map.1 hr; exact hsz b, List.length_map]
 have hsplit : (xs.map f).flatten = ((xs.take j).map f).flatten ++ (f xs[j] ++ ((xs.drop (j + 1)).map f).flatten) := by
  have e : xs = xs.take j ++ xs[j] :: xs.drop (j + 1) := by rw [← List.drop_eq_getElem_cons hj, List.take_append_drop]
  have e2 : ((xs.take j ++ xs[j] :: xs.drop (j + 1)).map f).flatten = (xs.map f).flatten := by rw [← e]
  rw [List.map_append, List.map_cons, List.flatten_append, List.flatten_cons] at e2
  exact e2.symm
 have htl : ((xs.take j).map f).flatten.length = j * i.size := by rw [hfl, List.length_take, Nat.min_eq_left (by omega)]
 have hl1 : ((((xs.map f).flatten.map D.av).drop (j * i.size)).take i.size) = (f xs[j]).map D.av := by
  rw [hsplit, List.map_append, List.map_append, List.drop_left' (by rw [List.length_map, htl]), List.take_left' (by rw [List.length_map, hsz])]
 have hr1 : ((cur.toList.take (xs.length * i.size)).drop (j * i.size)).take i.size = (cur.toList.drop (j * i.size)).take i.size := by
  rw [List.drop_take, List.take_take, Nat.min_eq_left (by omega)]
 have hrels := rels_take i.size (rels_drop (j * i.size) hrel)
 rw [hl1, hr1] at hrels
 refine ⟨.agg ((cur.toList.drop (j * i.size)).take i.size).toArray, ⟨_, rfl, hrels⟩, fun w' hw' => ?_⟩
 have hheap : w'.heap[gb]? = some (.cells cur E (0, 0)) := (hw'.own gb (mem_blks hm rfl)).trans hg
 have hload := run_loadCells_list (P := P) w' ⟨gb, j * i.size, none⟩ ((cur.toList.drop (j * i.size)).take i.size) fun u v hv => by
  rw [Addr.add_lit, cell_of_row w' gb (j * i.size + u) cur E (0, 0) hheap]
  rw [List.getElem?_take] at hv
  split at hv
  · rw [List.getElem?_drop] at hv; simpa using hv
  · cases hv
 have hln : ((cur.toList.drop (j * i.size)).take i.size).length = i.size := by
  rw [List.length_take, List.length_drop]; omega
 rw [hln] at hload
 simp [execOp, e1, Instr.loadAt, Instr.sureAddr, loadVar, run_isAgg hT, sizeOf, typeInfo, hi, hload]
end
end Go.Av
namespace Go.Sp
open Go Go.Av

instance : DecidableEq Fo := fun a b => decidable_of_iff (a.kind = b.kind ∧ a.val = b.val) ⟨fun h => Fo.ext' h.1 h.2, fun h => by subst h; exact ⟨rfl, rfl⟩⟩
def plc (b : Fo) : List Fo → Nat
 | [] => 0
 | a :: l => if a = b then 0 else plc b l + 1
theorem plc_le (b : Fo) : ∀ l : List Fo, plc b l ≤ l.length
 | [] => Nat.le_refl _
 | a :: l => by
   have := plc_le b l
   rw [plc]; split
   · exact Nat.zero_le _
   · simp; omega
theorem plc_in {b : Fo} : ∀ {l : List Fo}, b ∈ l ↔ plc b l < l.length
 | [] => by simp [plc]
 | a :: l => by
   rw [List.mem_cons, plc]
   by_cases h : a = b
   · rw [if_pos h]; simp [h]
   · rw [if_neg h, List.length_cons, plc_in (l := l)]
     exact ⟨fun k => k.elim (fun e => absurd e.symm h) (fun k => by omega), fun k => .inr (by omega)⟩
theorem plc_out {b : Fo} {l : List Fo} (h : b ∉ l) : plc b l = l.length := by
 have h1 := plc_le b l
 have h2 : ¬ plc b l < l.length := fun k => h (plc_in.2 k)
 omega
def addS (sp : List Fo) (b : Fo) : List Fo := if b ∈ sp then sp else sp ++ [b]
theorem addS_in {sp : List Fo} {b : Fo} (h : b ∈ sp) : addS sp b = sp := if_pos h
theorem addS_out {sp : List Fo} {b : Fo} (h : b ∉ sp) : addS sp b = sp ++ [b] := if_neg h
theorem addS_len (sp : List Fo) (b : Fo) : sp.length ≤ (addS sp b).length := by
 unfold addS; split
 · exact Nat.le_refl _
 · simp
def rndF : List Fo → List Fo → List Fo × List Int
 | sp, [] => (sp, [])
 | sp, b :: bs => ((rndF (addS sp b) bs).1, (plc b sp : Int) :: (rndF (addS sp b) bs).2)
theorem rndF_len : ∀ (bs sp : List Fo), sp.length ≤ (rndF sp bs).1.length
 | [], sp => Nat.le_refl _
 | b :: bs, sp => Nat.le_trans (addS_len sp b) (rndF_len bs _)
theorem rndF_places : ∀ (bs sp : List Fo), (rndF sp bs).2.length = bs.length
 | [], sp => rfl
 | b :: bs, sp => by rw [rndF]; simp [rndF_places bs]
structure Exp where
 spots : List Fo
 next : List (List Int)
 sets : List Int
noncomputable def expF (t : Tk) : Nat → Nat → List Fo → List (List Int) → List Int → Option Exp
 | 0, _, _, _, _ => none
 | f + 1, i, sp, nx, st =>
   match sp[i]? with
   | none => some ⟨sp, nx, st⟩
   | some s =>
     if 20000 < (rndF sp (behindF t s.kind s.val).1).1.length then none
     else expF t f (i + 1) (rndF sp (behindF t s.kind s.val).1).1 (nx ++ [(rndF sp (behindF t s.kind s.val).1).2]) (st ++ [(meetsOf t.formula (letF t.model t.props s.kind).1 s.val).1])
theorem expF_end (t : Tk) (f i : Nat) (sp : List Fo) (nx : List (List Int)) (st : List Int) (h : sp.length ≤ i) : expF t (f + 1) i sp nx st = some ⟨sp, nx, st⟩ := by
 rw [expF, List.getElem?_eq_none h]
theorem expF_full (t : Tk) (f i : Nat) (sp : List Fo) (nx : List (List Int)) (st : List Int) (h : i < sp.length) (hl : 20000 < (rndF sp (behindF t sp[i].kind sp[i].val).1).1.length) : expF t (f + 1) i sp nx st = none := by
 rw [expF, List.getElem?_eq_getElem h]; exact if_pos hl
theorem expF_at (t : Tk) (f i : Nat) (sp : List Fo) (nx : List (List Int)) (st : List Int) (h : i < sp.length) (hl : ¬ 20000 < (rndF sp (behindF t sp[i].kind sp[i].val).1).1.length) : expF t (f + 1) i sp nx st = expF t f (i + 1) (rndF sp (behindF t sp[i].kind sp[i].val).1).1 (nx ++ [(rndF sp (behindF t sp[i].kind sp[i].val).1).2]) (st ++ [(meetsOf t.formula (letF t.model t.props sp[i].kind).1 sp[i].val).1]) := by
 rw [expF, List.getElem?_eq_getElem h]; exact if_neg hl
noncomputable def exploreF (t : Tk) : Option Exp × Int :=
 if taskF t ≠ 0 then (none, taskF t)
 else match expF t 20002 0 (beginF t).1 [] [] with
  | none => (none, 12)
  | some e => (some e, 0)
theorem begin_nodup (t : Tk) (n : Nat) : (beginL t n).Nodup := by
 unfold beginL
 refine List.Pairwise.map _ (fun a b h e => h ?_) ((List.nodup_range (n := n)).filter _)
 have := congrArg Fo.val e
 exact Int.ofNat.inj this
def spV (s : Fo) : Value := .agg #[.int .i64 s.kind, .int .i64 s.val]
def natV (n : Nat) : Value := .int .i64 n
def plcs (sp : List Fo) : List (Fo × Nat) := sp.zipIdx
theorem plcs_snoc (sp : List Fo) (b : Fo) : plcs (sp ++ [b]) = plcs sp ++ [(b, sp.length)] := by
 unfold plcs; rw [List.zipIdx_append]; simp
theorem getM_plcs (b : Fo) : ∀ (sp : List Fo) (i : Nat), getM (sp.zipIdx i) b = if b ∈ sp then some (plc b sp + i) else none
 | [], i => by simp [getM]
 | a :: sp, i => by
   have ih := getM_plcs b sp (i + 1)
   rw [List.zipIdx_cons]
   by_cases h : a = b
   · subst h
     simp [getM, plc]
   · have hb : ¬ b = a := fun e => h e.symm
     have e : getM ((a, i) :: sp.zipIdx (i + 1)) b = getM (sp.zipIdx (i + 1)) b := by simp [getM, h]
     rw [e, ih, plc, if_neg h]
     by_cases hm : b ∈ sp
     · rw [if_pos hm, if_pos (List.mem_cons_of_mem _ hm)]; congr 1; omega
     · rw [if_neg hm, if_neg (fun k => by rcases List.mem_cons.1 k with k | k; exact hb k; exact hm k)]
theorem getM_in {b : Fo} {sp : List Fo} (h : b ∈ sp) : getM (plcs sp) b = some (plc b sp) := by
 have := getM_plcs b sp 0
 rw [if_pos h] at this; exact this
theorem getM_out {b : Fo} {sp : List Fo} (h : b ∉ sp) : getM (plcs sp) b = none := by
 have := getM_plcs b sp 0
 rw [if_neg h] at this; exact this

theorem addS_mem {sp : List Fo} {b c : Fo} : c ∈ addS sp b ↔ c ∈ sp ∨ c = b := by
 unfold addS
 by_cases h : b ∈ sp
 · rw [if_pos h]; exact ⟨.inl, fun k => k.elim id fun e => e ▸ h⟩
 · rw [if_neg h]; simp
theorem addS_pre (sp : List Fo) (b : Fo) : ∃ r, addS sp b = sp ++ r := by
 unfold addS
 split
 · exact ⟨[], by simp⟩
 · exact ⟨[b], rfl⟩
theorem rndF_pre : ∀ (bs sp : List Fo), ∃ r, (rndF sp bs).1 = sp ++ r
 | [], sp => ⟨[], by simp [rndF]⟩
 | b :: bs, sp => by
   obtain ⟨r, h⟩ := addS_pre sp b
   obtain ⟨r', h'⟩ := rndF_pre bs (addS sp b)
   exact ⟨r ++ r', by rw [rndF]; dsimp only; rw [h', h, List.append_assoc]⟩
theorem rndF_mem : ∀ (bs sp : List Fo) (c : Fo), c ∈ (rndF sp bs).1 ↔ c ∈ sp ∨ c ∈ bs
 | [], sp, c => by simp [rndF]
 | b :: bs, sp, c => by
   rw [rndF]; dsimp only
   rw [rndF_mem bs, addS_mem, List.mem_cons, or_assoc]
theorem addS_nodup {sp : List Fo} (h : sp.Nodup) (b : Fo) : (addS sp b).Nodup := by
 unfold addS
 by_cases hb : b ∈ sp
 · rw [if_pos hb]; exact h
 · rw [if_neg hb, List.nodup_append]
   exact ⟨h, by simp, fun x hx y hy e => by rw [List.mem_singleton.1 hy] at e; exact hb (e ▸ hx)⟩
theorem rndF_nodup : ∀ (bs : List Fo) {sp : List Fo}, sp.Nodup → (rndF sp bs).1.Nodup
 | [], _, h => h
 | b :: bs, _, h => rndF_nodup bs (addS_nodup h b)
theorem plc_get {b : Fo} : ∀ {l : List Fo}, b ∈ l → l[plc b l]? = some b
 | [], h => by cases h
 | a :: l, h => by
   rw [plc]
   by_cases e : a = b
   · rw [if_pos e, e]; rfl
   · rw [if_neg e, List.getElem?_cons_succ]
     exact plc_get ((List.mem_cons.1 h).resolve_left fun k => e k.symm)
theorem addS_get (sp : List Fo) (b : Fo) : (addS sp b)[plc b sp]? = some b := by
 unfold addS
 by_cases h : b ∈ sp
 · rw [if_pos h]; exact plc_get h
 · rw [if_neg h, plc_out h]; simp
theorem pre_get {α : Type} {a b r : List α} (h : b = a ++ r) {i : Nat} {x : α} (hx : a[i]? = some x) : b[i]? = some x := by
 rw [h, List.getElem?_append_left (List.getElem?_eq_some_iff.1 hx).1]; exact hx
theorem rndF_get : ∀ (bs sp : List Fo) (k : Nat) (b : Fo), bs[k]? = some b → ∃ p : Nat, (rndF sp bs).2[k]? = some (p : Int) ∧ (rndF sp bs).1[p]? = some b
 | [], _, k, b, h => by simp at h
 | c :: bs, sp, 0, b, h => by
   simp at h; subst h
   refine ⟨plc c sp, by simp [rndF], ?_⟩
   obtain ⟨r, hr⟩ := rndF_pre bs (addS sp c)
   exact pre_get hr (addS_get sp c)
 | c :: bs, sp, k + 1, b, h => by
   obtain ⟨p, h1, h2⟩ := rndF_get bs (addS sp c) k b (by simpa using h)
   exact ⟨p, by rw [rndF]; simpa using h1, h2⟩
noncomputable def spF (t : Tk) : Nat → List Fo
 | 0 => (beginF t).1
 | i + 1 => match (spF t i)[i]? with
   | none => spF t i
   | some s => (rndF (spF t i) (behindF t s.kind s.val).1).1
noncomputable def plF (t : Tk) (i : Nat) : List Int := match (spF t i)[i]? with
 | none => []
 | some s => (rndF (spF t i) (behindF t s.kind s.val).1).2
noncomputable def seF (t : Tk) (i : Nat) : Int := match (spF t i)[i]? with
 | none => 0
 | some s => (meetsOf t.formula (letF t.model t.props s.kind).1 s.val).1
theorem spF_pre (t : Tk) (i : Nat) : ∀ d, ∃ r, spF t (i + d) = spF t i ++ r
 | 0 => ⟨[], by simp⟩
 | d + 1 => by
   obtain ⟨r, h⟩ := spF_pre t i d
   rw [← Nat.add_assoc, spF]
   split
   · exact ⟨r, h⟩
   · obtain ⟨r', h'⟩ := rndF_pre _ (spF t (i + d))
     exact ⟨r ++ r', by rw [h', h, List.append_assoc]⟩
theorem spF_le (t : Tk) {i j : Nat} (h : i ≤ j) : (spF t i).length ≤ (spF t j).length := by
 obtain ⟨r, hr⟩ := spF_pre t i (j - i)
 rw [show i + (j - i) = j by omega] at hr
 rw [hr, List.length_append]; omega
theorem spF_at (t : Tk) {i j k : Nat} (h : i ≤ j) {s : Fo} (hs : (spF t i)[k]? = some s) : (spF t j)[k]? = some s := by
 obtain ⟨r, hr⟩ := spF_pre t i (j - i)
 rw [show i + (j - i) = j by omega] at hr
 exact pre_get hr hs
theorem spF_nodup (t : Tk) : ∀ i, (spF t i).Nodup
 | 0 => by
   unfold spF beginF
   split
   · exact List.nodup_nil
   · exact begin_nodup _ _
 | i + 1 => by
   rw [spF]
   split
   · exact spF_nodup t i
   · exact rndF_nodup _ (spF_nodup t i)
theorem expF_tells (t : Tk) : ∀ (f i : Nat) (nx : List (List Int)) (st : List Int) (e : Exp), expF t f i (spF t i) nx st = some e →
 ∃ d, e = ⟨spF t (i + d), nx ++ (List.range d).map (fun j => plF t (i + j)), st ++ (List.range d).map (fun j => seF t (i + j))⟩ ∧ (spF t (i + d)).length ≤ i + d ∧ ∀ j, j < d → i + j < (spF t (i + j)).length ∧ (spF t (i + j + 1)).length ≤ 20000
 | 0, i, nx, st, e, h => by rw [expF] at h; cases h
 | f + 1, i, nx, st, e, h => by
   by_cases hi : i < (spF t i).length
   · by_cases hl : 20000 < (rndF (spF t i) (behindF t (spF t i)[i].kind (spF t i)[i].val).1).1.length
     · rw [expF_full t f i _ nx st hi hl] at h; cases h
     · rw [expF_at t f i _ nx st hi hl] at h
       have hg : (spF t i)[i]? = some (spF t i)[i] := List.getElem?_eq_getElem hi
       have e1 : spF t (i + 1) = (rndF (spF t i) (behindF t (spF t i)[i].kind (spF t i)[i].val).1).1 := by rw [spF, hg]
       have e2 : plF t i = (rndF (spF t i) (behindF t (spF t i)[i].kind (spF t i)[i].val).1).2 := by rw [plF, hg]
       have e3 : seF t i = (meetsOf t.formula (letF t.model t.props (spF t i)[i].kind).1 (spF t i)[i].val).1 := by rw [seF, hg]
       rw [← e1, ← e2, ← e3] at h
       rw [← e1] at hl
       obtain ⟨d, h1, h2, h3⟩ := expF_tells t f (i + 1) _ _ e h
       refine ⟨d + 1, ?_, by rw [show i + (d + 1) = i + 1 + d by omega]; exact h2, fun j hj => ?_⟩
       · rw [h1, show i + (d + 1) = i + 1 + d by omega]
         congr 1
         · rw [List.append_assoc]
           congr 1
           rw [List.range_succ_eq_map, List.map_cons, List.map_map]
           simp only [List.singleton_append, Nat.add_zero, List.cons.injEq, true_and]
           exact List.map_congr_left fun j _ => by show _ = plF t (i + (j + 1)); rw [show i + (j + 1) = i + 1 + j by omega]
         · rw [List.append_assoc]
           congr 1
           rw [List.range_succ_eq_map, List.map_cons, List.map_map]
           simp only [List.singleton_append, Nat.add_zero, List.cons.injEq, true_and]
           exact List.map_congr_left fun j _ => by show _ = seF t (i + (j + 1)); rw [show i + (j + 1) = i + 1 + j by omega]
       · cases j with
         | zero => exact ⟨hi, by show (spF t (i + 1)).length ≤ _; omega⟩
         | succ j =>
           have := h3 j (by omega)
           rw [show i + (j + 1) = i + 1 + j by omega]
           exact this
   · rw [expF_end t f i _ nx st (by omega)] at h
     cases h
     exact ⟨0, by simp, by simpa using hi, fun j hj => absurd hj (Nat.not_lt_zero j)⟩
structure Grown (t : Tk) (e : Exp) : Prop where
 task : taskF t = 0
 spots : e.spots = spF t e.spots.length
 next : e.next = (List.range e.spots.length).map (plF t)
 sets : e.sets = (List.range e.spots.length).map (seF t)
 few : e.spots.length ≤ 20000
 room : ∀ j, j < e.spots.length → j < (spF t j).length
theorem grown_of {t : Tk} {e : Exp} (h : exploreF t = (some e, 0)) : Grown t e := by
 unfold exploreF at h
 by_cases ht : taskF t ≠ 0
 · rw [if_pos ht] at h; simp at h
 rw [if_neg ht] at h
 cases hx : expF t 20002 0 (beginF t).1 [] [] with
 | none => rw [hx] at h; simp at h
 | some e' =>
   rw [hx] at h
   simp only [Prod.mk.injEq, Option.some.injEq, and_true] at h
   subst h
   obtain ⟨d, h1, h2, h3⟩ := expF_tells t 20002 0 [] [] e' hx
   simp only [Nat.zero_add, List.nil_append] at h1 h2 h3
   have hd : (spF t d).length = d := by
    cases d with
    | zero => omega
    | succ d =>
      have h4 := (h3 d (by omega)).1
      have h5 := spF_le t (i := d) (j := d + 1) (by omega)
      omega
   have hs : e'.spots = spF t d := by rw [h1]
   have hl : e'.spots.length = d := by rw [hs, hd]
   refine ⟨Decidable.not_not.1 ht, by rw [hl]; exact hs, by rw [hl, h1], by rw [hl, h1], ?_, fun j hj => (h3 j (by omega)).1⟩
   rw [hl]
   cases d with
   | zero => omega
   | succ d => have := (h3 d (by omega)).2; omega
section
variable {t : Tk} {e : Exp}
theorem Grown.at (g : Grown t e) {j : Nat} (h : j < e.spots.length) : (spF t j)[j]? = some e.spots[j] := by
 have h1 := g.room j h
 have h2 := spF_at t (Nat.le_of_lt h) (List.getElem?_eq_getElem h1)
 rw [← g.spots, List.getElem?_eq_getElem h] at h2
 rw [h2, List.getElem?_eq_getElem h1]
theorem Grown.step (g : Grown t e) {j : Nat} (h : j < e.spots.length) : spF t (j + 1) = (rndF (spF t j) (behindF t e.spots[j].kind e.spots[j].val).1).1 ∧ plF t j = (rndF (spF t j) (behindF t e.spots[j].kind e.spots[j].val).1).2 := by
 rw [spF, plF, g.at h]; exact ⟨rfl, rfl⟩
theorem Grown.nodup (g : Grown t e) : e.spots.Nodup := by rw [g.spots]; exact spF_nodup t _
theorem Grown.get (g : Grown t e) {p : Nat} {b : Fo} (h : (spF t e.spots.length)[p]? = some b) : e.spots[p]? = some b := by
 have hs := g.spots
 generalize e.spots.length = n at hs h
 rw [hs]; exact h
theorem Grown.leads (g : Grown t e) {j : Nat} (h : j < e.spots.length) {y : Int} (hy : y ∈ plF t j) : ∃ p : Nat, y = p ∧ ∃ b, e.spots[p]? = some b ∧ b ∈ (behindF t e.spots[j].kind e.spots[j].val).1 := by
 rw [(g.step h).2] at hy
 obtain ⟨k, hk, rfl⟩ := List.getElem_of_mem hy
 have hl := rndF_places (behindF t e.spots[j].kind e.spots[j].val).1 (spF t j)
 have hk' : k < (behindF t e.spots[j].kind e.spots[j].val).1.length := by omega
 obtain ⟨p, h1, h2⟩ := rndF_get (behindF t e.spots[j].kind e.spots[j].val).1 (spF t j) k _ (List.getElem?_eq_getElem hk')
 rw [List.getElem?_eq_getElem hk] at h1
 refine ⟨p, Option.some.inj h1, _, ?_, List.getElem_mem hk'⟩
 rw [← (g.step h).1] at h2
 exact g.get (spF_at t (by omega) h2)
theorem Grown.stepped (g : Grown t e) {j : Nat} (h : j < e.spots.length) {b : Fo} (hb : b ∈ (behindF t e.spots[j].kind e.spots[j].val).1) : ∃ p : Nat, (p : Int) ∈ plF t j ∧ e.spots[p]? = some b := by
 obtain ⟨k, hk, rfl⟩ := List.getElem_of_mem hb
 obtain ⟨p, h1, h2⟩ := rndF_get (behindF t e.spots[j].kind e.spots[j].val).1 (spF t j) k _ (List.getElem?_eq_getElem hk)
 refine ⟨p, ?_, ?_⟩
 · rw [(g.step h).2]; exact List.mem_of_getElem? h1
 · rw [← (g.step h).1] at h2
   exact g.get (spF_at t (by omega) h2)
theorem Grown.first (g : Grown t e) {p : Nat} (h : p < (beginF t).1.length) : e.spots[p]? = some (beginF t).1[p] :=
 g.get (spF_at t (i := 0) (Nat.zero_le _) (List.getElem?_eq_getElem h))
theorem Grown.init (g : Grown t e) : (beginF t).1.length ≤ e.spots.length := by
 rw [g.spots]; exact spF_le t (i := 0) (Nat.zero_le _)
end

abbrev vldP (t : Tk) (b : Fo) : Prop := (0 ≤ b.kind ∧ b.kind < prodV t.model.vars) ∧ 0 ≤ b.val ∧ b.val < claimsF t
theorem begin_mem {t : Tk} (h : taskF t = 0) (b : Fo) : b ∈ (beginF t).1 ↔ b.kind = firstF t.model ∧ ∃ c : Nat, b.val = c ∧ c < claimsF t ∧ tAt t.formula (lettF t (firstF t.model)) c 0 = false := by
 unfold beginF
 rw [if_neg (fun k => k h)]
 unfold beginL
 rw [List.mem_map]
 constructor
 · rintro ⟨c, hc, rfl⟩
   rw [List.mem_filter, List.mem_range] at hc
   exact ⟨rfl, c, rfl, hc.1, by simpa using hc.2⟩
 · rintro ⟨h1, c, h2, h3, h4⟩
   refine ⟨c, by rw [List.mem_filter, List.mem_range]; exact ⟨h3, by simpa using h4⟩, ?_⟩
   exact Fo.ext' h1.symm h2.symm
theorem behind_mem {t : Tk} (h : taskF t = 0) {s : Fo} (hs : vldP t s) (b : Fo) : b ∈ (behindF t s.kind s.val).1 ↔ b.kind ∈ (nextF t.model s.kind).1 ∧ ∃ c : Nat, b.val = c ∧ c < claimsF t ∧ folB t s.kind s.val b.kind c = true := by
 unfold behindF
 rw [if_neg (fun k => k h), if_neg (fun k => k hs)]
 unfold behL
 rw [List.mem_flatMap]
 constructor
 · rintro ⟨x, hx, hb⟩
   unfold folL at hb
   obtain ⟨c, hc, rfl⟩ := List.mem_map.1 hb
   rw [List.mem_filter, List.mem_range] at hc
   exact ⟨hx, c, rfl, hc.1, hc.2⟩
 · rintro ⟨h1, c, h2, h3, h4⟩
   refine ⟨b.kind, h1, ?_⟩
   unfold folL
   rw [List.mem_map]
   exact ⟨c, by rw [List.mem_filter, List.mem_range]; exact ⟨h3, h4⟩, Fo.ext' rfl h2.symm⟩
theorem begin_vld {t : Tk} (h : taskF t = 0) {b : Fo} (hb : b ∈ (beginF t).1) : vldP t b := by
 obtain ⟨h1, c, h2, h3, _⟩ := (begin_mem h b).1 hb
 have hf := first_ok (taskF_ok h).2.2
 exact ⟨h1 ▸ hf.2, by omega, by omega⟩
theorem behind_vld {t : Tk} (h : taskF t = 0) {s b : Fo} (hb : b ∈ (behindF t s.kind s.val).1) : vldP t b := by
 by_cases hs : vldP t s
 · obtain ⟨h1, c, h2, h3, _⟩ := (behind_mem h hs b).1 hb
   exact ⟨nextF_range (taskF_ok h).2.2 _ _ h1, by omega, by omega⟩
 · unfold behindF at hb
   rw [if_neg (fun k => k h), if_pos hs] at hb
   cases hb
theorem spF_vld {t : Tk} (h : taskF t = 0) : ∀ i, ∀ b ∈ spF t i, vldP t b
 | 0, b, hb => begin_vld h hb
 | i + 1, b, hb => by
   rw [spF] at hb
   cases hs : (spF t i)[i]? with
   | none => rw [hs] at hb; exact spF_vld h i b hb
   | some s =>
     rw [hs] at hb
     rcases (rndF_mem _ _ _).1 hb with hb | hb
     · exact spF_vld h i b hb
     · exact behind_vld h hb
def grF (t : Tk) (e : Exp) (n : Nat) : Gr := ⟨e.spots, n, e.next, e.sets, (aheadsOf t.formula t.props.length).1.length⟩
noncomputable def gnF (t : Tk) (e : Exp) : Gn := ⟨e.spots, (beginF t).1.length, e.next.map (·.map Int.toNat), e.sets.map Int.toNat, (aheadsOf t.formula t.props.length).1.length⟩
theorem mets_claim (l : List Fo) (A : Nat → Bool) : ∀ n, mets l A n = claimAt l (fun q _ => metAt l A q) 0 n
 | 0 => rfl
 | n + 1 => by rw [mets, claimAt, mets_claim l A n]
section
variable {t : Tk} {e : Exp}
theorem Grown.vld (g : Grown t e) : ∀ b ∈ e.spots, vldP t b := fun b hb => by rw [g.spots] at hb; exact spF_vld g.task _ b hb
theorem Grown.set (g : Grown t e) {j : Nat} (h : j < e.spots.length) : seF t j = mets t.formula (tAt t.formula (lettF t e.spots[j].kind) e.spots[j].val) t.formula.length := by
 have hv := g.vld _ (List.getElem_mem h)
 rw [seF, g.at h]
 dsimp only
 rw [lettF_ok g.task hv.1.1 hv.1.2]
 unfold meetsOf
 rw [truths_ok g.task _ (lettF_len t _) hv.2.1 hv.2.2, if_neg (by simp)]
theorem Grown.many (g : Grown t e) : (aheadsOf t.formula t.props.length).1.length = rank t.formula t.formula.length := by
 unfold aheadsOf
 rw [if_neg (fun k => k (taskF_ok g.task).2.1), aheads_len]
theorem Grown.gr (g : Grown t e) : (gnF t e).gr = grF t e (beginF t).1.length := by
 unfold gnF grF Gn.gr
 dsimp only
 congr 1
 · rw [List.map_map, g.next, List.map_map]
   refine List.map_congr_left fun j hj => ?_
   have hj := List.mem_range.1 hj
   exact nat_list fun k hk => by obtain ⟨p, rfl, _⟩ := g.leads hj hk; exact Int.natCast_nonneg p
 · rw [g.sets]
   refine nat_list fun k hk => ?_
   obtain ⟨j, hj, rfl⟩ := List.mem_map.1 hk
   rw [g.set (List.mem_range.1 hj)]
   exact (mets_bound _ _ _).1
theorem Grown.nx (g : Grown t e) {j : Nat} (h : j < e.spots.length) (k : Nat) : k ∈ (gnF t e).nx j ↔ (k : Int) ∈ plF t j := by
 have hl : j < (gnF t e).next.length := by simp [gnF, g.next, h]
 rw [Gn.nx_get _ _ hl]
 have e1 : (gnF t e).next[j] = (plF t j).map Int.toNat := by simp [gnF, g.next]
 rw [e1, List.mem_map]
 constructor
 · rintro ⟨y, hy, rfl⟩
   obtain ⟨p, rfl, _⟩ := g.leads h hy
   simpa using hy
 · intro hk
   exact ⟨_, hk, by simp⟩
theorem Grown.nset (g : Grown t e) {j : Nat} (h : j < e.spots.length) : ni (gnF t e).sets j = (seF t j).toNat := by
 have hl : j < (gnF t e).sets.length := by simp [gnF, g.sets, h]
 rw [ni_get _ _ hl]
 simp [gnF, g.sets]
theorem Grown.bit (g : Grown t e) {j : Nat} (h : j < e.spots.length) {q : Nat} (hq : q < t.formula.length) (ha : aheadP (kindAt t.formula q)) : (ni (gnF t e).sets j).testBit (rank t.formula q) = metAt t.formula (tAt t.formula (lettF t e.spots[j].kind) e.spots[j].val) q := by
 rw [g.nset h, g.set h, mets_claim]
 have hb := claimAt_bound t.formula (fun q _ => metAt t.formula (tAt t.formula (lettF t e.spots[j].kind) e.spots[j].val) q) 0 t.formula.length
 have hc := bitAt_claim t.formula (fun q _ => metAt t.formula (tAt t.formula (lettF t e.spots[j].kind) e.spots[j].val) q) 0 t.formula.length q hq ha
 rw [← hc]
 unfold bitAt
 generalize claimAt t.formula _ 0 t.formula.length = c at hb
 obtain ⟨n, rfl⟩ := Int.eq_ofNat_of_zero_le hb.1
 rw [Int.toNat_natCast]
 have := bit_div n (rank t.formula q)
 by_cases h : n.testBit (rank t.formula q) = true
 · rw [h]; exact (decide_eq_true (this.2 h)).symm
 · rw [Bool.not_eq_true] at h
   rw [h]
   exact (decide_eq_false (fun k => by rw [this.1 k] at h; cases h)).symm
theorem Grown.ok (g : Grown t e) : (gnF t e).ok where
 size := g.few
 next := by simp [gnF, g.next]
 sets := by simp [gnF, g.sets]
 init := g.init
 many := aheads_few _ _
 to := fun i h k hk => by
  have hi : i < e.spots.length := by simpa [gnF, g.next] using h
  have : k ∈ (gnF t e).nx i := by rw [Gn.nx_get _ _ h]; exact hk
  obtain ⟨p, hp, b, hb, _⟩ := g.leads hi ((g.nx hi k).1 this)
  obtain rfl : k = p := by omega
  exact (List.getElem?_eq_some_iff.1 hb).1
 bits := fun i h => by
  have hi : i < e.spots.length := by simpa [gnF, g.sets] using h
  have := g.nset hi
  rw [ni_get _ _ h] at this
  rw [this, g.set hi]
  have hb := mets_bound t.formula (tAt t.formula (lettF t e.spots[i].kind) e.spots[i].val) t.formula.length
  show _ < 2 ^ (aheadsOf t.formula t.props.length).1.length
  rw [g.many]
  have e2 : ((2 ^ rank t.formula t.formula.length : Nat) : Int) = 2 ^ rank t.formula t.formula.length := by simp
  omega
end
def runP (m : Md) (π : Nat → Int) : Prop := π 0 = firstF m ∧ ∀ i, π (i + 1) ∈ (nextF m (π i)).1
noncomputable def sigF (t : Tk) (π : Nat → Int) (i v : Nat) : Bool := ((lettF t (π i))[v]?).getD false
noncomputable def keepsP (t : Tk) (π : Nat → Int) : Prop := iAt t.formula (sigF t π) 0 0 = true
def holdsP (t : Tk) : Prop := ∀ π, runP t.model π → keepsP t π
theorem runP.range {t : Tk} (h : taskF t = 0) {π : Nat → Int} (r : runP t.model π) : ∀ i, 0 ≤ π i ∧ π i < prodV t.model.vars
 | 0 => by rw [r.1]; exact (first_ok (taskF_ok h).2.2).2
 | i + 1 => nextF_range (taskF_ok h).2.2 _ _ (r.2 i)
section
variable {t : Tk} {e : Exp}
theorem Grown.edge (g : Grown t e) {i j : Nat} (hi : i < e.spots.length) (h : j ∈ (gnF t e).nx i) : ∃ (hj : j < e.spots.length), e.spots[j].kind ∈ (nextF t.model e.spots[i].kind).1 ∧ kept t.formula (tAt t.formula (lettF t e.spots[i].kind) e.spots[i].val) (tAt t.formula (lettF t e.spots[j].kind) e.spots[j].val) := by
 obtain ⟨p, hp, b, hb, hm⟩ := g.leads hi ((g.nx hi j).1 h)
 obtain rfl : j = p := by omega
 obtain ⟨hj, rfl⟩ := List.getElem?_eq_some_iff.1 hb
 obtain ⟨h1, c, h2, _, h4⟩ := (behind_mem g.task (g.vld _ (List.getElem_mem hi)) _).1 hm
 refine ⟨hj, h1, ?_⟩
 unfold folB at h4
 rw [h2]
 exact of_decide_eq_true h4
theorem Grown.bad (g : Grown t e) {ω : Nat → Nat} (h0 : ω 0 < (beginF t).1.length) (hs : ∀ i, ω (i + 1) ∈ (gnF t e).nx (ω i)) (hf : ∀ s, s < (gnF t e).many → ∀ i, ∃ j, i ≤ j ∧ (ni (gnF t e).sets (ω j)).testBit s = true) (π : Nat → Int) (hπ : ∀ i, (e.spots[ω i]?).map Fo.kind = some (π i)) : runP t.model π ∧ ¬ keepsP t π := by
 have hin := g.init
 have hlt : ∀ i, ω i < e.spots.length := fun i => by
  cases i with
  | zero => omega
  | succ i => exact (gnF t e).nx_lt g.ok _ _ (hs i)
 have hπ' : ∀ i, π i = (e.spots[ω i]'(hlt i)).kind := fun i => by
  have := hπ i
  rw [List.getElem?_eq_getElem (hlt i)] at this
  exact (Option.some.inj this).symm
 have hb : e.spots[ω 0]'(hlt 0) ∈ (beginF t).1 := by
  have := g.first h0
  rw [List.getElem?_eq_getElem (hlt 0)] at this
  rw [Option.some.inj this]; exact List.getElem_mem h0
 obtain ⟨b1, c, b2, b3, b4⟩ := (begin_mem g.task _).1 hb
 refine ⟨⟨by rw [hπ']; exact b1, fun i => ?_⟩, fun hk => ?_⟩
 · obtain ⟨_, h1, _⟩ := g.edge (hlt i) (hs i)
   rw [hπ', hπ']; exact h1
 · have hx : sigF t π = fun i v => ((lettF t ((e.spots[ω i]'(hlt i)).kind))[v]?).getD false := by
    funext i v; unfold sigF; rw [hπ']
   have key := claims_true (good_of (taskF_ok g.task).2.1) (fun i => lettF t ((e.spots[ω i]'(hlt i)).kind)) (fun i => (e.spots[ω i]'(hlt i)).val)
    (fun i => (g.edge (hlt i) (hs i)).2.2)
    (fun q hq ha i => by
     have hr : rank t.formula q < (gnF t e).many := by
      show _ < (aheadsOf t.formula t.props.length).1.length
      rw [g.many]
      have h1 := rank_mono t.formula (t.formula.length - (q + 1)) (q + 1)
      rw [show q + 1 + (t.formula.length - (q + 1)) = t.formula.length by omega] at h1
      simp only [rank, if_pos ha] at h1
      omega
     obtain ⟨j, hj, hb⟩ := hf _ hr i
     rw [g.bit (hlt j) hq ha] at hb
     exact ⟨j, hj, hb⟩)
   unfold keepsP at hk
   rw [hx, ← key] at hk
   rw [b1, b2, b4] at hk
   cases hk
theorem Grown.good (g : Grown t e) {π : Nat → Int} (r : runP t.model π) (hk : ¬ keepsP t π) : ∃ h, h < e.spots.length ∧ goodP (gnF t e) h := by
 have hgf := good_of (taskF_ok g.task).2.1
 have hr := r.range g.task
 let c : Nat → Int := claimI t.formula (sigF t π)
 have hc : ∀ i, ∃ n : Nat, c i = n ∧ n < claimsF t := fun i => by
  have := claimI_bound t.formula (sigF t π) i
  rw [claims_eq g.task]
  have e2 : ((2 ^ rank t.formula t.formula.length : Nat) : Int) = 2 ^ rank t.formula t.formula.length := by simp
  obtain ⟨n, hn⟩ := Int.eq_ofNat_of_zero_le this.1
  exact ⟨n, hn, by rw [hn, ← e2] at this; omega⟩
 have hvl : ∀ i, vldP t ⟨π i, c i⟩ := fun i => by obtain ⟨n, h1, h2⟩ := hc i; exact ⟨hr i, by dsimp only; omega, by dsimp only; omega⟩
 have hx : ∀ i v, ((lettF t (π i))[v]?).getD false = sigF t π i v := fun i v => rfl
 have hb0 : (⟨π 0, c 0⟩ : Fo) ∈ (beginF t).1 := by
  obtain ⟨n, h1, h2⟩ := hc 0
  refine (begin_mem g.task _).2 ⟨r.1, n, h1, h2, ?_⟩
  rw [← h1, ← r.1]
  rw [tAt_claimI hgf (sigF t π) _ 0 (hx 0) t.formula.length 0 (by omega) hgf.pos]
  unfold keepsP at hk
  rwa [Bool.not_eq_true] at hk
 have hst : ∀ i, (⟨π (i + 1), c (i + 1)⟩ : Fo) ∈ (behindF t (π i) (c i)).1 := fun i => by
  obtain ⟨n, h1, h2⟩ := hc (i + 1)
  refine (behind_mem g.task (hvl i) _).2 ⟨r.2 i, n, h1, h2, ?_⟩
  unfold folB
  refine decide_eq_true ?_
  dsimp only
  rw [← h1]
  exact kept_claimI hgf (sigF t π) _ _ i (hx i) (hx (i + 1))
 have hall : ∀ i, ∃ p : Nat, e.spots[p]? = some ⟨π i, c i⟩ := fun i => by
  induction i with
  | zero =>
    obtain ⟨p, hp, h1⟩ := List.getElem_of_mem hb0
    exact ⟨p, by rw [g.first hp, h1]⟩
  | succ i ih =>
    obtain ⟨p, hp⟩ := ih
    obtain ⟨hpl, hpe⟩ := List.getElem?_eq_some_iff.1 hp
    obtain ⟨q, _, h2⟩ := g.stepped hpl (b := ⟨π (i + 1), c (i + 1)⟩) (by rw [hpe]; exact hst i)
    exact ⟨q, h2⟩
 let ω : Nat → Nat := fun i => Classical.choose (hall i)
 have hω : ∀ i, e.spots[ω i]? = some ⟨π i, c i⟩ := fun i => Classical.choose_spec (hall i)
 have uniq : ∀ {p q : Nat} {b : Fo}, e.spots[p]? = some b → e.spots[q]? = some b → p = q := fun {p q b} h1 h2 => by
  obtain ⟨hp, e1⟩ := List.getElem?_eq_some_iff.1 h1
  obtain ⟨hq, e2⟩ := List.getElem?_eq_some_iff.1 h2
  exact (List.getElem_inj g.nodup).1 (e1.trans e2.symm)
 have hin := g.init
 refine path_good (π := ω) g.ok ?_ (fun i => ?_) (fun s hs i => ?_)
 · obtain ⟨p, hp, h1⟩ := List.getElem_of_mem hb0
   have := uniq (hω 0) (by rw [g.first hp, h1])
   rw [this]; exact hp
 · obtain ⟨hp, hpe⟩ := List.getElem?_eq_some_iff.1 (hω i)
   obtain ⟨q, h1, h2⟩ := g.stepped hp (b := ⟨π (i + 1), c (i + 1)⟩) (by rw [hpe]; exact hst i)
   rw [uniq (hω (i + 1)) h2, g.nx hp]
   exact h1
 · have hs' : s < rank t.formula t.formula.length := by rw [← g.many]; exact hs
   obtain ⟨q, hq, ha, rfl⟩ : ∃ q, q < t.formula.length ∧ aheadP (kindAt t.formula q) ∧ rank t.formula q = s := by
    have h1 := aheadL_length t.formula t.formula.length 0 (by omega)
    simp only [rank, List.drop_zero, Nat.add_zero] at h1
    obtain ⟨q, _, _, h3, h4, h5⟩ := aheadL_get t.formula t.formula.length 0 (by omega) s _ (List.getElem?_eq_getElem (by rw [List.drop_zero, h1]; exact hs'))
    exact ⟨q, h3, h4, by simpa [rank] using h5⟩
   obtain ⟨j, hj, hm⟩ := met_claimI hgf (sigF t π) (fun i => lettF t (π i)) hx hq ha i
   obtain ⟨hp, hpe⟩ := List.getElem?_eq_some_iff.1 (hω j)
   refine ⟨j, hj, ?_⟩
   rw [g.bit hp hq ha, hpe]
   exact hm
theorem Grown.holds (g : Grown t e) : (fairOf (grF t e (beginF t).1.length)).2 ≠ 0 ↔ holdsP t := by
 rw [← g.gr, fairOf_ok g.ok]
 constructor
 · intro h π r
   by_cases hk : keepsP t π
   · exact hk
   · obtain ⟨i, hi, hg⟩ := g.good r hk
     exfalso
     obtain ⟨k, hk1, hk2⟩ := least_of (p := fun i => i < e.spots.length ∧ goodP (gnF t e) i) i ⟨hi, hg⟩
     rw [fairN_at (g := gnF t e) (i := k) (fun j hj hg => by have := hk2 j ⟨by have := hk1.1; omega, hg⟩; omega) hk1.1 hk1.2] at h
     exact h rfl
 · intro h he
   by_cases c : ∃ i, i < e.spots.length ∧ goodP (gnF t e) i
   · obtain ⟨i, hi, hg⟩ := c
     obtain ⟨stem, loop, hfit⟩ := good_lasso g.ok hi hg
     obtain ⟨h1, h2⟩ := g.bad (ω := fun i => ni (stem ++ loop) (momI stem.length (stem ++ loop).length i)) hfit.start hfit.way hfit.meets (fun i => ((e.spots[ni (stem ++ loop) (momI stem.length (stem ++ loop).length i)]?).map Fo.kind).getD 0) (fun i => by
      have hl : ∀ i, ni (stem ++ loop) (momI stem.length (stem ++ loop).length i) < e.spots.length := fun i => by
       cases i with
       | zero => have := hfit.start; have := g.init; show ni _ 0 < _; exact Nat.lt_of_lt_of_le hfit.start g.init
       | succ i => exact (gnF t e).nx_lt g.ok _ _ (hfit.way i)
      rw [List.getElem?_eq_getElem (hl i)]; rfl)
     exact h2 (h _ h1)
   · rw [fairN_none (g := gnF t e) (fun j hj hg => c ⟨j, hj, hg⟩)] at he
     cases he
end

structure Pl where
 guard : List Fo
 var : Int
 value : List Fo
 both : Bool
def Pl.cells (p : Pl) : List D := [opsD p.guard, .i .i64 p.var, opsD p.value, .b p.both]
abbrev plansD (l : List Pl) : D := .l 4 64 (l.map Pl.cells)
structure De where
 s0 : Int
 s1 : Int
 l0 : Int
 l1 : Int
 i0 : Int
 i1 : Int
 rules : List Pl
def De.cells (d : De) : List D := [.i .i64 d.s0, .i .i64 d.s1, .i .i64 d.l0, .i .i64 d.l1, .i .i64 d.i0, .i .i64 d.i1, plansD d.rules]
abbrev deA (d : De) : AV := .agg [.int d.s0, .int d.s1, .int d.l0, .int d.l1, .int d.i0, .int d.i1, .d (plansD d.rules)]
abbrev xS : ByteArray := ⟨#[120]⟩
abbrev y2S : ByteArray := ⟨#[121, 50]⟩
def lowG (l : Int) : Int := pk l 3 - 1
def highG (s l : Int) : Int := lowG l + pk s 4
def initG (s l i : Int) : Int := lowG l + pk i (highG s l - lowG l + 1)
def varG (n : ByteArray) (s l i : Int) : Vr := ⟨n, lowG l, highG s l, initG s l i⟩
def setsG (p : Pl) : List St := ⟨pk p.var 2, numG p.value 2 2 0⟩ :: (if p.both then [⟨1 - pk p.var 2, [⟨2, pk p.var 2⟩]⟩] else [])
def ruleG (p : Pl) : Ru := ⟨truG p.guard 2 3 0, setsG p⟩
def modG (d : De) : Md := ⟨[varG xS d.s0 d.l0 d.i0, varG y2S d.s1 d.l1 d.i1], (d.rules.take 5).map ruleG⟩
def propsG : List (List Fo) := [[⟨7, 0⟩, ⟨2, 0⟩, ⟨1, 1⟩], [⟨7, 0⟩, ⟨2, 0⟩, ⟨2, 1⟩], [⟨6, 0⟩, ⟨2, 0⟩, ⟨2, 1⟩]]
def tskG (d : De) (f : List Fo) : Tk := ⟨modG d, propsG, f⟩
theorem varG_span (n : ByteArray) (s l i : Int) : rangeV (varG n s l i) ∧ 1 ≤ spanV (varG n s l i) ∧ spanV (varG n s l i) ≤ 4 := by
 have h1 := pk_bound l (many := 3) (by decide)
 have h2 := pk_bound s (many := 4) (by decide)
 have h3 := pk_bound i (many := highG s l - lowG l + 1) (by unfold highG; omega)
 unfold rangeV spanV varG initG
 dsimp only
 unfold highG lowG at *
 omega
theorem nameX : nameP xS := by
 refine ⟨⟨by decide, by decide⟩, ?_, ?_, fun i h => ?_⟩
 · intro h; exact absurd (congrArg (fun b : ByteArray => b.data.toList.length) h) (by decide)
 · intro h; exact absurd (congrArg (fun b : ByteArray => b.data.toList.length) h) (by decide)
 · have : i < 1 := h
   obtain rfl : i = 0 := by omega
   show letP 0 (120 : UInt8)
   exact .inl ⟨by decide, by decide⟩
theorem nameY : nameP y2S := by
 refine ⟨⟨by decide, by decide⟩, ?_, ?_, fun i h => ?_⟩
 · intro h; exact absurd (congrArg (fun b : ByteArray => b.data.toList.length) h) (by decide)
 · intro h; exact absurd (congrArg (fun b : ByteArray => b.data.toList) h) (by decide)
 · have : i < 2 := h
   have : i = 0 ∨ i = 1 := by omega
   rcases this with rfl | rfl
   · show letP 0 (121 : UInt8)
     exact .inl ⟨by decide, by decide⟩
   · show letP 1 (50 : UInt8)
     exact .inr ⟨by decide, by decide, by decide⟩
theorem prod16 {p q : Int} (hp : 1 ≤ p ∧ p ≤ 4) (hq : 1 ≤ q ∧ q ≤ 4) : 1 ≤ p * q ∧ p * q ≤ 16 := by
 have : p = 1 ∨ p = 2 ∨ p = 3 ∨ p = 4 := by omega
 rcases this with rfl | rfl | rfl | rfl <;> omega
theorem varsF_G (d : De) : varsF (modG d).vars = 0 := by
 obtain ⟨r0, a0, b0⟩ := varG_span xS d.s0 d.l0 d.i0
 obtain ⟨r1, a1, b1⟩ := varG_span y2S d.s1 d.l1 d.i1
 have hp := prod16 ⟨a0, b0⟩ ⟨a1, b1⟩
 unfold varsF modG
 dsimp only
 rw [if_neg (by simp), varsE, if_neg (fun c => c nameX), if_neg List.not_mem_nil, if_neg (fun c => c r0), if_neg (by omega), if_neg (by omega), varsE, if_neg (fun c => c nameY), if_neg, if_neg (fun c => c r1), if_neg (by omega), if_neg, varsE]
 · rw [Int.one_mul]; omega
 · intro h
   have h2 : y2S = xS := List.mem_singleton.1 h
   exact absurd (congrArg (fun b : ByteArray => b.data.toList.length) h2) (by decide)
theorem prodV_G (d : De) : 1 ≤ prodV (modG d).vars ∧ prodV (modG d).vars ≤ 16 := by
 obtain ⟨r0, a0, b0⟩ := varG_span xS d.s0 d.l0 d.i0
 obtain ⟨r1, a1, b1⟩ := varG_span y2S d.s1 d.l1 d.i1
 have hp := prod16 ⟨a0, b0⟩ ⟨a1, b1⟩
 unfold modG
 rw [prodV, prodV, prodV, Int.mul_one]
 exact hp
theorem ruleF_G (p : Pl) : ruleF (ruleG p) 2 = 0 := by
 have hv := pk_bound p.var (many := 2) (by decide)
 have hg := (truG_wf p.guard 2 3 0).kind0 (by have := truG_three p.guard 2; omega) (by decide)
 have hn := (numG_wf p.value 2 2 0).kind0 (by have := numG_two p.value 2 0; omega) (by decide)
 unfold ruleF ruleG setsG
 dsimp only
 rw [if_neg (by split <;> simp), if_neg (fun c => c hg), setsE, if_neg (fun c => c hv), if_neg List.not_mem_nil, if_neg (fun c => c hn)]
 split
 · have hw : WfE (ExK 2) false [⟨2, pk p.var 2⟩] := .leaf (o := ⟨2, pk p.var 2⟩) (by
    unfold ExK opZ
    dsimp only
    rw [if_neg (by omega), if_neg (by omega)]) rfl
   have hk := hw.kind0 (by simp) (by decide)
   rw [setsE, if_neg (fun c => c (by dsimp only; omega)), if_neg, if_neg (fun c => c hk), setsE]
   intro h
   have h2 : (1 : Int) - pk p.var 2 = pk p.var 2 := List.mem_singleton.1 h
   omega
 · rw [setsE]
theorem rulesE_ok (n : Int) : ∀ l : List Ru, (∀ r ∈ l, ruleF r n = 0) → rulesE n l = 0
 | [], _ => rfl
 | r :: l, h => by
   rw [rulesE, if_neg (fun c => c (h r List.mem_cons_self))]
   exact rulesE_ok n l fun x hx => h x (List.mem_cons_of_mem _ hx)
theorem modelF_G (d : De) : modelF (modG d) = 0 := by
 unfold modelF
 rw [if_neg (fun c => c (varsF_G d)), if_neg]
 · refine rulesE_ok _ _ fun r hr => ?_
   obtain ⟨p, _, rfl⟩ := List.mem_map.1 hr
   exact ruleF_G p
 · unfold modG
   rw [List.length_map, List.length_take]
   omega
theorem propsF_G (d : De) : propsF (modG d) propsG = 0 := by
 have h : ∀ a b c : Fo, a.kind = 6 ∨ a.kind = 7 → ExK 2 a → b.kind = 2 → ExK 2 b → c.kind = 1 ∨ c.kind = 2 → ExK 2 c → kindF [a, b, c] 2 true = 0 := fun a b c ha ka hb kb hc kc => by
  have w : WfE (ExK 2) (decide (makesP a.kind)) (a :: ([b] ++ [c])) := by
   refine .two ka (by rcases ha with e | e <;> rw [e] <;> rfl) ?_ ?_
   · have : decide (takesP a.kind) = decide (makesP b.kind) := by rcases ha with e | e <;> rw [e, hb] <;> rfl
     rw [this]; exact .leaf kb (by rw [hb]; rfl)
   · have : decide (takesP a.kind) = decide (makesP c.kind) := by rcases ha with e | e <;> rcases hc with f | f <;> rw [e, f] <;> rfl
     rw [this]; exact .leaf kc (by rcases hc with e | e <;> rw [e] <;> rfl)
  have e : decide (makesP a.kind) = true := by rcases ha with e | e <;> rw [e] <;> rfl
  rw [e] at w
  exact w.kind0 (by simp) (by decide)
 unfold propsF
 rw [if_neg (fun c => c (modelF_G d)), if_neg (by decide)]
 show propsE 2 propsG = 0
 unfold propsG
 rw [propsE, if_neg (fun c => c (h _ _ _ (.inr rfl) rfl rfl rfl (.inl rfl) rfl)), propsE, if_neg (fun c => c (h _ _ _ (.inr rfl) rfl rfl rfl (.inr rfl) rfl)), propsE, if_neg (fun c => c (h _ _ _ (.inl rfl) rfl rfl rfl (.inr rfl) rfl)), propsE]
structure FoG (f : List Fo) : Prop where
 wf : Wf (FoK 3) f
 len : f.length ≤ 60
 ah : nAh f ≤ 6
theorem taskF_G (d : De) {f : List Fo} (h : FoG f) : taskF (tskG d f) = 0 := by
 unfold taskF tskG
 dsimp only
 rw [if_neg (fun c => c (propsF_G d))]
 exact h.wf.form h.len h.ah (by decide)
theorem spF_few {t : Tk} (h : taskF t = 0) (hp : prodV t.model.vars ≤ 16) (i : Nat) : (spF t i).length ≤ 1024 := by
 have hc := claims_few t
 have hv := spF_vld h i
 have hn : ((spF t i).map fun b => b.kind * 64 + b.val).Nodup := by
  unfold List.Nodup
  rw [List.pairwise_map]
  refine List.Pairwise.imp_of_mem ?_ (spF_nodup t i)
  intro a b ha hb hne he
  have h1 := hv a ha
  have h2 := hv b hb
  unfold vldP at h1 h2
  refine hne (Fo.ext' ?_ ?_) <;> omega
 have := nodup_len 1024 _ hn fun x hx => by
  obtain ⟨b, hb, rfl⟩ := List.mem_map.1 hx
  have h1 := hv b hb
  unfold vldP at h1
  omega
 rwa [List.length_map] at this
theorem expF_some (t : Tk) {B : Nat} (hB : ∀ i, (spF t i).length ≤ B) (h2 : B ≤ 20000) : ∀ (f i : Nat) (nx : List (List Int)) (st : List Int), i ≤ B → B + 2 ≤ f + i → ∃ e, expF t f i (spF t i) nx st = some e
 | 0, i, nx, st, h, h' => by omega
 | f + 1, i, nx, st, h, h' => by
   by_cases hi : i < (spF t i).length
   · have hg : (spF t i)[i]? = some (spF t i)[i] := List.getElem?_eq_getElem hi
     have e1 : spF t (i + 1) = (rndF (spF t i) (behindF t (spF t i)[i].kind (spF t i)[i].val).1).1 := by rw [spF, hg]
     have hl := hB (i + 1)
     rw [e1] at hl
     rw [expF_at t f i _ nx st hi (by omega), ← e1]
     have := hB i
     exact expF_some t hB h2 f (i + 1) _ _ (by omega) (by omega)
   · exact ⟨_, expF_end t f i _ nx st (by omega)⟩
theorem explore_room {t : Tk} (h : taskF t = 0) (hp : prodV t.model.vars ≤ 16) : ∃ e, exploreF t = (some e, 0) := by
 obtain ⟨e, he⟩ := expF_some t (spF_few h hp) (by decide) 20002 0 [] [] (by omega) (by omega)
 refine ⟨e, ?_⟩
 have he' : expF t 20002 0 (beginF t).1 [] [] = some e := he
 unfold exploreF
 rw [if_neg (fun c => c h), he']
theorem explore_G (d : De) {f : List Fo} (h : FoG f) : ∃ e, exploreF (tskG d f) = (some e, 0) := explore_room (taskF_G d h) (prodV_G d).2
theorem nextF_ne {m : Md} (hm : modelF m = 0) {c : Int} (h0 : 0 ≤ c) (h1 : c < prodV m.vars) : (nextF m c).1 ≠ [] := by
 have hv : valsF m c = (valsT m.vars c, 0) := by unfold valsF; rw [if_neg (fun k => k hm), if_pos ⟨h0, h1⟩]
 have hr := codesL_range hm (InV.vals hm h0 h1)
 rw [nextF_ok (by rw [hv])]
 dsimp only
 by_cases e : codesL m (valsT m.vars c) m.rules = []
 · rw [if_pos e]; simp
 · rw [if_neg e]
   cases hl : codesL m (valsT m.vars c) m.rules with
   | nil => exact absurd hl e
   | cons x xs =>
     rw [hl] at hr
     intro k
     have hx : x ∈ upTo (prodV m.vars).toNat (x :: xs) := (mem_upTo (fun y hy => by have := hr y hy; omega) x).2 List.mem_cons_self
     rw [k] at hx; cases hx
noncomputable def goF (m : Md) (c : Int) : Int := ((nextF m c).1.head?).getD 0
noncomputable def wayF (m : Md) (c : Int) : Nat → Int
 | 0 => c
 | i + 1 => goF m (wayF m c i)
theorem goF_mem {m : Md} (hm : modelF m = 0) {c : Int} (h0 : 0 ≤ c) (h1 : c < prodV m.vars) : goF m c ∈ (nextF m c).1 := by
 have := nextF_ne hm h0 h1
 unfold goF
 cases h : (nextF m c).1 with
 | nil => exact absurd h this
 | cons x xs => simp
theorem wayF_range {m : Md} (hm : modelF m = 0) {c : Int} (h0 : 0 ≤ c) (h1 : c < prodV m.vars) : ∀ i, 0 ≤ wayF m c i ∧ wayF m c i < prodV m.vars
 | 0 => ⟨h0, h1⟩
 | i + 1 => by
   have := wayF_range hm h0 h1 i
   exact nextF_range hm _ _ (goF_mem hm this.1 this.2)
theorem wayF_next {m : Md} (hm : modelF m = 0) {c : Int} (h0 : 0 ≤ c) (h1 : c < prodV m.vars) (i : Nat) : wayF m c (i + 1) ∈ (nextF m (wayF m c i)).1 := by
 have := wayF_range hm h0 h1 i
 exact goF_mem hm this.1 this.2
theorem run_some {m : Md} (hm : modelF m = 0) : ∃ π, runP m π := by
 have hf := first_ok hm
 exact ⟨wayF m (firstF m), rfl, wayF_next hm hf.2.1 hf.2.2⟩
theorem run_through {m : Md} (hm : modelF m = 0) {c : Nat} (h : fromP (nxM m) [(firstF m).toNat] c) : ∃ π, runP m π ∧ ∃ j, π j = c := by
 have hf := first_ok hm
 obtain ⟨a, ha, hr⟩ := h
 rw [List.mem_singleton.1 ha] at hr
 clear ha
 generalize hz : (firstF m).toNat = z at hr
 induction hr with
 | refl =>
   subst hz
   obtain ⟨π, hp⟩ := run_some hm
   exact ⟨π, hp, 0, by rw [hp.1]; omega⟩
 | @step j k hs he ih =>
   obtain ⟨π, hp, n, hn⟩ := ih
   have hk := (nxM_mem hm j k).1 he
   have hkr := nextF_range hm _ _ hk
   refine ⟨fun x => if x ≤ n then π x else wayF m k (x - n - 1), ⟨?_, fun x => ?_⟩, n + 1, ?_⟩
   · dsimp only; rw [if_pos (Nat.zero_le _)]; exact hp.1
   · dsimp only
     by_cases c1 : x + 1 ≤ n
     · rw [if_pos c1, if_pos (by omega)]; exact hp.2 x
     · rw [if_neg c1]
       by_cases c2 : x ≤ n
       · obtain rfl : x = n := by omega
         rw [if_pos c2, show x + 1 - x - 1 = 0 by omega, hn]; exact hk
       · rw [if_neg c2, show x + 1 - n - 1 = (x - n - 1) + 1 by omega]
         exact wayF_next hm hkr.1 hkr.2 _
   · dsimp only
     rw [if_neg (by omega), show n + 1 - n - 1 = 0 by omega]; rfl
theorem run_reached {m : Md} (hm : modelF m = 0) {π : Nat → Int} (hp : runP m π) : ∀ j, ∃ c : Nat, π j = c ∧ fromP (nxM m) [(firstF m).toNat] c
 | 0 => by
   have hf := first_ok hm
   exact ⟨(firstF m).toNat, by rw [hp.1]; omega, _, List.mem_singleton.2 rfl, .refl _⟩
 | j + 1 => by
   obtain ⟨c, h1, a, ha, hr⟩ := run_reached hm hp j
   have hs := hp.2 j
   have hg := nextF_range hm _ _ hs
   refine ⟨(π (j + 1)).toNat, by omega, a, ha, .step hr ((nxM_mem hm _ _).2 ?_)⟩
   rw [← h1, show (((π (j + 1)).toNat : Nat) : Int) = π (j + 1) by omega]
   exact hs
end Go.Sp
namespace Go.Proofs.YtniklgkoiaeipaaGreatDoor
open Go Go.Av Go.Sp
theorem cal_KFormula : Cal Tryz.prog 23 := Cal.of Tryz.func23 (by kernel_rfl) (by kernel_rfl)
theorem cal_KTruth : Cal Tryz.prog 73 := Cal.of Tryz.func73 (by kernel_rfl) (by kernel_rfl)
theorem cal_KNumber : Cal Tryz.prog 74 := Cal.of Tryz.func74 (by kernel_rfl) (by kernel_rfl)
theorem cal_kjoined : Cal Tryz.prog 68 := Cal.of Tryz.func68 (by kernel_rfl) (by kernel_rfl)
theorem cal_KJoined : Cal Tryz.prog 25 := Cal.of Tryz.func25 (by kernel_rfl) (by kernel_rfl)
theorem cal_kprops : Cal Tryz.prog 76 := Cal.of Tryz.func76 (by kernel_rfl) (by kernel_rfl)
theorem cal_KProps : Cal Tryz.prog 83 := Cal.of Tryz.func83 (by kernel_rfl) (by kernel_rfl)
theorem KFormula (G : List (Nat × List D)) (raw : List Fo) (hr : rawOk raw) (t : Nat) (ht : t ≤ 100) : ACr Tryz.prog G 23 [.d (opsD raw), .int 3, .int t] (.d (opsD (formG raw t))) := by
 have hl := (formG_wf raw t).2.2
 have hF := fun bg => formula G bg raw 0 3 hr (by decide) 4 0 t Sl.nil [] (by decide) (by decide) (by decide) ht
 refine AC_ofV (ts := [6]) Tryz.f23.ntmps Tryz.func23 rfl rfl rfl (by simp [Tryz.ntmps23]) fun W I => ?_
 repeat' (first
  | exact True.intro | refine stpH ?_ | refine two ?_ ?_ | refine allc fun c_ => ?_
  | (refine imp fun hc => ?_) <;> try exact cx1 hc
  | refine all fun v_ => ?_)
 obtain ⟨bg, rfl⟩ : ∃ x, x = v_ := ⟨v_, rfl⟩
 refine JL_vs (VS.trans (VS.nilrow 62 2) (VS.take (hc := [.cells bg 119 [.d (opsD raw), .int ((0 : Nat) : Int), .int 0, .int 3, .int t, .val Sl.nil.v], rowE Sl.nil.v 62 2 Fo.cells []]) (by exact takedD) (Env.le_refl _))) ?_
 repeat' (first
  | ((with_reducible apply callG); (focus rfl); (focus exact cal_formula); (focus exact hF bg); (focus exact takeD); (focus rfl); (focus exact appD))
  | exact True.intro | refine stpH ?_ | refine two ?_ ?_ | refine allc fun c_ => ?_
  | (refine imp fun hc => ?_) <;> try exact cx1 hc
  | refine all fun v_ => ?_)
 refine retv (VS.trans (VS.take (hc := [rowE v_.v 62 2 Fo.cells (formG raw t)]) (by exact takedD) (Env.le_refl _)) (vfreeze (t := 6) (eb := 16) rfl rfl (fun x => rfl) (by omega))) ?_
 ((with_reducible apply rq1); rfl; rfl)
 exact ret_eq rfl
theorem KTruth (G : List (Nat × List D)) (raw : List Fo) (hr : rawOk raw) : ACr Tryz.prog G 73 [.d (opsD raw), .int 2] (.d (opsD (truG raw 2 3 0))) := by
 have hl := truG_three raw 2
 have hF := fun bg => gtruth G bg raw 2 0 hr (by decide) 0 3 0 Sl.nil [] (by decide) (by decide) (by decide)
 refine AC_ofV (ts := [4]) Tryz.f73.ntmps Tryz.func73 rfl rfl rfl (by simp [Tryz.ntmps73]) fun W I => ?_
 repeat' (first
  | exact True.intro | refine stpH ?_ | refine two ?_ ?_ | refine allc fun c_ => ?_
  | (refine imp fun hc => ?_) <;> try exact cx1 hc
  | refine all fun v_ => ?_)
 obtain ⟨bg, rfl⟩ : ∃ x, x = v_ := ⟨v_, rfl⟩
 refine JL_vs (VS.trans (VS.nilrow 62 2) (VS.take (hc := [.cells bg 119 [.d (opsD raw), .int ((0 : Nat) : Int), .int 2, .int 0, .int 0, .val Sl.nil.v], rowE Sl.nil.v 62 2 Fo.cells []]) (by exact takedD) (Env.le_refl _))) ?_
 repeat' (first
  | ((with_reducible apply callG); (focus rfl); (focus exact cal_gtruth); (focus exact hF bg); (focus exact takeD); (focus rfl); (focus exact appD))
  | exact True.intro | refine stpH ?_ | refine two ?_ ?_ | refine allc fun c_ => ?_
  | (refine imp fun hc => ?_) <;> try exact cx1 hc
  | refine all fun v_ => ?_)
 refine retv (VS.trans (VS.take (hc := [rowE v_.v 62 2 Fo.cells (truG raw 2 3 0)]) (by exact takedD) (Env.le_refl _)) (vfreeze (t := 4) (eb := 16) rfl rfl (fun x => rfl) (by omega))) ?_
 ((with_reducible apply rq1); rfl; rfl)
 exact ret_eq rfl
theorem KNumber (G : List (Nat × List D)) (raw : List Fo) (hr : rawOk raw) : ACr Tryz.prog G 74 [.d (opsD raw), .int 2] (.d (opsD (numG raw 2 2 0))) := by
 have hl := numG_two raw 2 0
 have hF := fun bg => number G bg raw 2 0 hr (by decide) 0 2 0 Sl.nil [] (by decide) (by decide)
 refine AC_ofV (ts := [4]) Tryz.f74.ntmps Tryz.func74 rfl rfl rfl (by simp [Tryz.ntmps74]) fun W I => ?_
 repeat' (first
  | exact True.intro | refine stpH ?_ | refine two ?_ ?_ | refine allc fun c_ => ?_
  | (refine imp fun hc => ?_) <;> try exact cx1 hc
  | refine all fun v_ => ?_)
 obtain ⟨bg, rfl⟩ : ∃ x, x = v_ := ⟨v_, rfl⟩
 refine JL_vs (VS.trans (VS.nilrow 62 2) (VS.take (hc := [.cells bg 119 [.d (opsD raw), .int ((0 : Nat) : Int), .int 2, .int 0, .int 0, .val Sl.nil.v], rowE Sl.nil.v 62 2 Fo.cells []]) (by exact takedD) (Env.le_refl _))) ?_
 repeat' (first
  | ((with_reducible apply callG); (focus rfl); (focus exact cal_number); (focus exact hF bg); (focus exact takeD); (focus rfl); (focus exact appD))
  | exact True.intro | refine stpH ?_ | refine two ?_ ?_ | refine allc fun c_ => ?_
  | (refine imp fun hc => ?_) <;> try exact cx1 hc
  | refine all fun v_ => ?_)
 refine retv (VS.trans (VS.take (hc := [rowE v_.v 62 2 Fo.cells (numG raw 2 2 0)]) (by exact takedD) (Env.le_refl _)) (vfreeze (t := 4) (eb := 16) rfl rfl (fun x => rfl) (by omega))) ?_
 ((with_reducible apply rq1); rfl; rfl)
 exact ret_eq rfl
theorem flat_take (ls : List (List Fo)) (i : Nat) (h : i < ls.length) : (ls.take (i + 1)).flatten = (ls.take i).flatten ++ ls[i] := by
 rw [List.take_succ_eq_append_getElem h, List.flatten_append]; simp
theorem flat_few (ls : List (List Fo)) (i : Nat) : (ls.take i).flatten.length ≤ ls.flatten.length := by
 conv => rhs; rw [← List.take_append_drop i ls, List.flatten_append, List.length_append]
 omega
theorem kjoined (G : List (Nat × List D)) (kind : Int) (ls : List (List Fo)) (hl : ls.flatten.length ≤ 1000) : ACr Tryz.prog G 68 [.int kind, .d (termsD ls)] (.d (opsD (⟨kind, 0⟩ :: ls.flatten))) := by
 refine AC.factI (f := termC) (xs := ls) (.there .here) fun hls => ?_
 refine AC_ofV (ts := [4]) Tryz.f68.ntmps Tryz.func68 rfl rfl rfl (by simp [Tryz.ntmps68]) fun W I => ?_
 repeat' (first
  | ((with_reducible apply (jrow_a1 (f := Fo.cells) (u := ⟨kind, 0⟩))); (focus rfl); (focus rfl); (focus rfl); (focus (with_reducible exact ElC.h)); (focus exact fun _ => rfl); (focus rfl); (focus rfl); (focus rfl))
  | with_reducible apply J_seq
  | with_reducible apply J_region
  | with_reducible apply J_block
  | with_reducible apply JL_nil
  | ((with_reducible apply jp); (focus exact pureD); (focus rfl))
  | with_reducible apply tq_normal
  | refine all fun v_ => ?_)
 refine J_loopV (X := Nat × Sl) (fun y => [(1, .d (termsD ls)), (5, .val y.2.v), (6, .int y.1)]) (fun y => [rowE y.2.v 62 2 Fo.cells (⟨kind, 0⟩ :: (ls.take y.1).flatten)]) (fun y => y.1 ≤ ls.length) (fun y => ls.length - y.1) (0, v_) (Nat.zero_le _) (VS.take (by dsimp only; rw [List.take_zero, List.flatten_nil]; exact takedD) ?_) ?_
 · exact leD
 rintro ⟨i, q⟩ hi
 dsimp only at hi ⊢
 have hf := flat_few ls i
 by_cases hil : i < ls.length
 · have et := flat_take ls i hil
   have hf1 := flat_few ls (i + 1)
   rw [et, List.length_append] at hf1
   have hc1 : ((⟨kind, 0⟩ : Fo) :: (ls.take i).flatten).length = (ls.take i).flatten.length + 1 := rfl
   repeat' (first
    | exact True.intro | refine stpH ?_ | refine two ?_ ?_ | refine allc fun c_ => ?_
    | (refine imp fun hc => ?_) <;> try exact cx1 hc
    | refine all fun v_ => ?_)
   refine ⟨(i + 1, v_), by dsimp only; omega, by dsimp only; omega, VS.take (by dsimp only; rw [et, ← List.cons_append]; exact takedD) ?_⟩
   exact leD
 obtain rfl : i = ls.length := by omega
 rw [List.take_length]
 have hc1 : ((⟨kind, 0⟩ : Fo) :: ls.flatten).length = ls.flatten.length + 1 := rfl
 repeat' (first
  | exact True.intro | refine stpH ?_ | refine two ?_ ?_ | refine allc fun c_ => ?_
  | (refine imp fun hc => ?_) <;> try exact cx1 hc
  | refine all fun v_ => ?_)
 refine retv (vfreeze (t := 4) (eb := 16) rfl rfl (fun x => rfl) (by omega)) ?_
 ((with_reducible apply rq1); rfl; rfl)
 exact ret_eq rfl
theorem armXK5_1 {p q : Prop} (hp : p) (h : p → q := by
 apply cmp; (focus (first
  | ((with_reducible apply call0); (focus rfl); (focus exact cal_kjoined); (focus exact hJ); (focus rfl))
  | ((with_reducible apply je_call0); (focus rfl); (focus (decide +kernel)); (focus rfl); (focus exact cal_kjoined); (focus exact hJ); (focus rfl))
  ))
 exact fun h => h) : q := h hp
theorem KJoined (G : List (Nat × List D)) (kind : Int) (ls : List (List Fo)) (hl : ls.flatten.length ≤ 1000) : ACr Tryz.prog G 25 [.int kind, .d (termsD ls)] (.d (opsD (⟨kind, 0⟩ :: ls.flatten))) := by
 have hJ := kjoined G kind ls hl
 refine AC_ofV (ts := [4]) Tryz.f25.ntmps Tryz.func25 rfl rfl rfl (by simp [Tryz.ntmps25]) fun W I => ?_
 repeat' (first
  | refine armXK5_1 ?_
  | exact True.intro | refine stpH ?_ | refine two ?_ ?_ | refine allc fun c_ => ?_
  | (refine imp fun hc => ?_) <;> try exact cx1 hc
  | refine all fun v_ => ?_)
 refine retv0 ?_
 ((with_reducible apply rq1); rfl; rfl)
 exact ret_eq rfl
theorem armXK5_2 {p q : Prop} (hp : p) (h : p → q := by
 apply cmp; (focus (first
  | ((with_reducible apply call0); (focus rfl); (focus exact cal_kjoined); (focus exact h1); (focus rfl))
  | ((with_reducible apply je_call0); (focus rfl); (focus (decide +kernel)); (focus rfl); (focus exact cal_kjoined); (focus exact h1); (focus rfl))
  | ((with_reducible apply call0); (focus rfl); (focus exact cal_kjoined); (focus exact h2); (focus rfl))
  | ((with_reducible apply je_call0); (focus rfl); (focus (decide +kernel)); (focus rfl); (focus exact cal_kjoined); (focus exact h2); (focus rfl))
  | ((with_reducible apply call0); (focus rfl); (focus exact cal_kjoined); (focus exact h3); (focus rfl))
  | ((with_reducible apply je_call0); (focus rfl); (focus (decide +kernel)); (focus rfl); (focus exact cal_kjoined); (focus exact h3); (focus rfl))
  ))
 exact fun h => h) : q := h hp
theorem kprops (G : List (Nat × List D)) : ACr Tryz.prog G 76 [] (.d (termsD propsG)) := by
 have h1 := kjoined G 7 [[⟨2, 0⟩], [⟨1, 1⟩]] (by decide)
 have h2 := kjoined G 7 [[⟨2, 0⟩], [⟨2, 1⟩]] (by decide)
 have h3 := kjoined G 6 [[⟨2, 0⟩], [⟨2, 1⟩]] (by decide)
 refine AC_ofV (ts := [0]) Tryz.f76.ntmps Tryz.func76 rfl rfl rfl (by simp [Tryz.ntmps76]) fun W I => ?_
 repeat' (first
  | refine armXK5_2 ?_
  | ((with_reducible apply jbuild_list2); (focus rfl); (focus rfl); (focus rfl); (focus (with_reducible exact ElC.h)); (focus rfl); (focus rfl))
  | ((with_reducible apply jbuild_list3); (focus rfl); (focus rfl); (focus rfl); (focus rfl); (focus (with_reducible exact ElC.h)); (focus rfl); (focus rfl))
  | exact True.intro | refine stpH ?_ | refine two ?_ ?_ | refine allc fun c_ => ?_
  | (refine imp fun hc => ?_) <;> try exact cx1 hc
  | refine all fun v_ => ?_)
 refine retv0 ?_
 ((with_reducible apply rq1); rfl; rfl)
 exact ret_eq rfl
theorem armXK5_3 {p q : Prop} (hp : p) (h : p → q := by
 apply cmp; (focus (first
  | ((with_reducible apply call0); (focus rfl); (focus exact cal_kprops); (focus exact hP); (focus rfl))
  | ((with_reducible apply je_call0); (focus rfl); (focus (decide +kernel)); (focus rfl); (focus exact cal_kprops); (focus exact hP); (focus rfl))
  ))
 exact fun h => h) : q := h hp
theorem KProps (G : List (Nat × List D)) : ACr Tryz.prog G 83 [] (.d (termsD propsG)) := by
 have hP := kprops G
 refine AC_ofV (ts := [0]) Tryz.f83.ntmps Tryz.func83 rfl rfl rfl (by simp [Tryz.ntmps83]) fun W I => ?_
 repeat' (first
  | refine armXK5_3 ?_
  | exact True.intro | refine stpH ?_ | refine two ?_ ?_ | refine allc fun c_ => ?_
  | (refine imp fun hc => ?_) <;> try exact cx1 hc
  | refine all fun v_ => ?_)
 refine retv0 ?_
 ((with_reducible apply rq1); rfl; rfl)
 exact ret_eq rfl
end Go.Proofs.YtniklgkoiaeipaaGreatDoor
