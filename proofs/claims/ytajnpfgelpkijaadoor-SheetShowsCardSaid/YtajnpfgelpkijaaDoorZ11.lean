/- A bundle of this claim's own texts: T7 Sf G9 G5 G6 G12 N2 G35 G36 G39 G42 R2 G46. -/
import Derived.Lib.ItoaNum
import Derived.Test.YtajnpfgelpkijaaDoorZ2
import Derived.Test.YtajnpfgelpkijaaDoorZ3
import Derived.Test.YtajnpfgelpkijaaDoorZ4
import Derived.Test.YtajnpfgelpkijaaDoorZ7
import Derived.Test.YtajnpfgelpkijaaDoorZ10
set_option linter.unusedVariables false
set_option linter.unusedSimpArgs false
set_option maxRecDepth 100000
set_option maxHeartbeats 4000000
namespace Go.Proofs.YtajnpfgelpkijaaDoor
open Go Go.Av Go.Sp

end Go.Proofs.YtajnpfgelpkijaaDoor
namespace Go.Sp
open Go.Av

def rank (l : List Fo) : Nat → Nat
 | 0 => 0
 | i + 1 => rank l i + if aheadP (kindAt l i) then 1 else 0
def bitAt (claim : Int) (j : Nat) : Bool := decide (claim / 2 ^ j % 2 = 1)
def valAt (l : List Fo) (i : Nat) : Int := (l[i]?.map Fo.val).getD 0
def second (l : List Fo) (i : Nat) : Nat := (endOf l (i + 1 : Nat)).1.toNat
def stepT (l : List Fo) (x : List Bool) (c : Int) (i : Nat) (a b : Bool) : Bool :=
 if kindAt l i = 13 then (x[(valAt l i).toNat]?).getD false
 else if kindAt l i = 11 then true
 else if kindAt l i = 12 then false
 else if kindAt l i = 10 then !a
 else if kindAt l i = 8 then a && b
 else if kindAt l i = 9 then a || b
 else bitAt c (rank l i)
def tv (l : List Fo) (x : List Bool) (c : Int) : Nat → Nat → Bool
 | 0, _ => false
 | m + 1, i => if i < l.length then stepT l x c i (tv l x c m (i + 1)) (if i < second l i then tv l x c m (second l i) else false) else false
def tAt (l : List Fo) (x : List Bool) (c : Int) (i : Nat) : Bool := tv l x c (l.length - i) i
theorem rank_succ (l : List Fo) (i : Nat) (hi : i < l.length) : rank l (i + 1) = rank l i + if aheadP l[i].kind then 1 else 0 := by
 simp only [rank, kindAt_eq l i hi]
theorem rank_mono (l : List Fo) : ∀ (m i : Nat), rank l i ≤ rank l (i + m)
 | 0, i => Nat.le_refl _
 | m + 1, i => by have := rank_mono l m i; rw [← Nat.add_assoc]; simp only [rank]; omega
theorem formE_ok (l : List Fo) (p : Int) : ∀ (m i n : Nat), l.length = i + m → formE (l.drop i) p n = 0 → (∀ (q : Nat) (hq : q < l.length), i ≤ q → fitsZ l[q].kind l[q].val p = 0) ∧ n + (rank l l.length - rank l i) ≤ 6
 | 0, i, n, h, he => by
   rw [formE_end l i (by omega)] at he
   refine ⟨fun q hq hi => by omega, ?_⟩
   rw [h, Nat.add_zero, Nat.sub_self]
   by_cases h6 : 6 < n
   · rw [if_pos h6] at he; exact absurd he (by decide)
   · omega
 | m + 1, i, n, h, he => by
   rw [formE_at l i (by omega)] at he
   by_cases h1 : fitsZ l[i].kind l[i].val p ≠ 0
   · rw [if_pos h1] at he; exact absurd he h1
   rw [if_neg h1] at he
   obtain ⟨g1, g2⟩ := formE_ok l p m (i + 1) _ (by omega) he
   have hr := rank_succ l i (by omega)
   have hm := rank_mono l m (i + 1)
   rw [show i + 1 + m = l.length by omega] at hm
   refine ⟨fun q hq hi => ?_, ?_⟩
   · by_cases hqi : q = i
     · subst hqi; simpa using h1
     · exact g1 q hq (by omega)
   · by_cases hc : aheadP l[i].kind
     · rw [if_pos hc] at g2 hr; omega
     · rw [if_neg hc] at g2 hr; omega
theorem formF_ok {l : List Fo} {p : Int} (h : formF l p = 0) : 0 ≤ p ∧ p ≤ 6 ∧ (endsOf l).2 = 0 ∧ (∀ (q : Nat) (hq : q < l.length), fitsZ l[q].kind l[q].val p = 0) ∧ rank l l.length ≤ 6 := by
 unfold formF at h
 by_cases h1 : p < 0 ∨ 6 < p
 · rw [if_pos h1] at h; exact absurd h (by decide)
 rw [if_neg h1] at h
 by_cases h2 : (endsOf l).2 ≠ 0
 · rw [if_pos h2] at h; exact absurd h h2
 rw [if_neg h2] at h
 obtain ⟨g1, g2⟩ := formE_ok l p l.length 0 0 (by omega) (by simpa using h)
 refine ⟨by omega, by omega, by simpa using h2, fun q hq => g1 q hq (Nat.zero_le _), ?_⟩
 simp only [rank] at g2
 omega
theorem all_well {l : List Fo} (h : (endsOf l).2 = 0) : ∀ (i : Nat) (_ : i < l.length), (endOf l i).2 = 0 := by
 obtain ⟨_, _, hend, _, _⟩ := endsOf_ok (l := l) (es := (endsOf l).1) (Prod.ext rfl h)
 intro i hi
 exact (scan_nest l l.length 0 1 l.length (by omega) (by omega) (by unfold endOf at hend; exact hend) i (by omega) (by omega)).1
theorem well_kind {l : List Fo} {i : Nat} (hi : i < l.length) (h : (endOf l i).2 = 0) : (partsOf l[i].kind).2 = 0 := by
 have he := endOf_at l i hi
 by_cases h1 : (partsOf l[i].kind).2 ≠ 0
 · rw [if_pos h1] at he; rw [he] at h; exact absurd h h1
 · simpa using h1
structure GoodF (l : List Fo) (p : Int) : Prop where
 h60 : l.length ≤ 60
 pos : 0 < l.length
 well : ∀ (i : Nat) (_ : i < l.length), (endOf l i).2 = 0
 kind : ∀ (i : Nat) (hi : i < l.length), 8 ≤ l[i].kind ∧ l[i].kind ≤ 18
 prop : ∀ (i : Nat) (hi : i < l.length), l[i].kind = 13 → 0 ≤ l[i].val ∧ l[i].val < p
 ah : rank l l.length ≤ 6
 ends : (endsOf l).2 = 0
structure TDone (l : List Fo) (x : List Bool) (c : Int) (i : Nat) (out : List Bool) : Prop where
 len : out.length = l.length
 done : ∀ j, i ≤ j → j < l.length → out[j]? = some (tAt l x c j)
 rest : ∀ j, j < i → j < l.length → out[j]? = some false
theorem TDone.get {l : List Fo} {x : List Bool} {c : Int} {i : Nat} {out : List Bool} (d : TDone l x c i out) {j : Nat} (h1 : i ≤ j) (h2 : j < l.length) (h3 : j < out.length) : out[j] = tAt l x c j := by
 have := d.done j h1 h2
 rw [List.getElem?_eq_getElem h3] at this
 exact Option.some.inj this
open Go Go.Av

structure GoodE (l : List Fo) (vars : Int) : Prop where
 h60 : l.length ≤ 60
 pos : 0 < l.length
 well : ∀ (i : Nat) (_ : i < l.length), (endOf l i).2 = 0
 op : ∀ (i : Nat) (hi : i < l.length), opZ l[i].kind l[i].val vars = 0
 typed : typedP l
 ends : (endsOf l).2 = 0
theorem opsE_ok (l : List Fo) (vars : Int) : ∀ (m i : Nat), l.length = i + m → opsE (l.drop i) vars = 0 → ∀ (q : Nat) (hq : q < l.length), i ≤ q → opZ l[q].kind l[q].val vars = 0
 | 0, i, h, _, q, hq, hi => by omega
 | m + 1, i, h, he, q, hq, hi => by
   rw [opsE_at l i (by omega)] at he
   by_cases c : opZ l[i].kind l[i].val vars ≠ 0
   · rw [if_pos c] at he; exact absurd he c
   · rw [if_neg c] at he
     by_cases e : q = i
     · subst e; exact Decidable.not_not.1 c
     · exact opsE_ok l vars m (i + 1) (by omega) he q hq (by omega)
theorem goodE_of {l : List Fo} {vars : Int} (h : (exprC l vars).2 = 0) : GoodE l vars ∧ 0 ≤ vars ∧ vars ≤ 6 := by
 unfold exprC at h
 by_cases h1 : vars < 0 ∨ 6 < vars
 · rw [if_pos h1] at h; exact absurd h (by decide)
 rw [if_neg h1] at h
 by_cases h2 : (endsOf l).2 ≠ 0
 · rw [if_pos h2] at h; exact absurd h h2
 rw [if_neg h2] at h
 by_cases h3 : opsE l vars ≠ 0
 · rw [if_pos h3] at h; exact absurd h h3
 rw [if_neg h3] at h
 by_cases h4 : typedP l
 · obtain ⟨k1, k2, k3, k4, k5⟩ := endsOf_ok (l := l) (es := (endsOf l).1) (Prod.ext rfl (Decidable.not_not.1 h2))
   exact ⟨⟨k1, k2, all_well (Decidable.not_not.1 h2), fun i hi => opsE_ok l vars l.length 0 (by omega) (Decidable.not_not.1 h3) i hi (Nat.zero_le _), h4, Decidable.not_not.1 h2⟩, by omega, by omega⟩
 · rw [if_neg h4] at h; exact absurd h (by decide)



theorem rulesE_good (n : Int) : ∀ (l : List Ru), rulesE n l = 0 → ∀ r ∈ l, ruleF r n = 0
 | [], _, r, hr => by cases hr
 | r :: l, h, q, hq => by
   rw [rulesE] at h
   by_cases c : ruleF r n ≠ 0
   · rw [if_pos c] at h; exact absurd h c
   · rw [if_neg c] at h
     rcases List.mem_cons.1 hq with rfl | hq
     · exact Decidable.not_not.1 c
     · exact rulesE_good n l h q hq
theorem setsE_good (n : Int) : ∀ (l : List St) (seen : List Int), setsE n l seen = 0 → (∀ s ∈ l, 0 ≤ s.var ∧ s.var < n ∧ kindF s.val n false = 0 ∧ s.var ∉ seen) ∧ (l.map St.var).Nodup
 | [], _, _ => ⟨fun s hs => (by cases hs), List.nodup_nil⟩
 | s :: l, seen, h => by
   rw [setsE] at h
   by_cases c1 : ¬ (0 ≤ s.var ∧ s.var < n)
   · rw [if_pos c1] at h; exact absurd h (by decide)
   rw [if_neg c1] at h
   by_cases c2 : s.var ∈ seen
   · rw [if_pos c2] at h; exact absurd h (by decide)
   rw [if_neg c2] at h
   by_cases c3 : kindF s.val n false ≠ 0
   · rw [if_pos c3] at h; exact absurd h c3
   rw [if_neg c3] at h
   obtain ⟨i1, i2⟩ := setsE_good n l _ h
   refine ⟨fun q hq => ?_, ?_⟩
   · rcases List.mem_cons.1 hq with rfl | hq
     · exact ⟨by omega, by omega, Decidable.not_not.1 c3, c2⟩
     · obtain ⟨a, b, c, d⟩ := i1 q hq
       exact ⟨a, b, c, fun hm => d (List.mem_append_left _ hm)⟩
   · rw [List.map_cons, List.nodup_cons]
     refine ⟨fun hm => ?_, i2⟩
     obtain ⟨q, hq, he⟩ := List.mem_map.1 hm
     exact (i1 q hq).2.2.2 (he ▸ List.mem_append_right _ (List.mem_singleton.2 rfl))
theorem kindF_ok {l : List Fo} {n : Int} {t : Bool} (h : kindF l n t = 0) : exprC l n = (t, 0) := by
 unfold kindF at h
 by_cases c : (exprC l n).2 ≠ 0
 · rw [if_pos c] at h; exact absurd h c
 rw [if_neg c] at h
 by_cases c2 : (exprC l n).1 ≠ t
 · rw [if_pos c2] at h; exact absurd h (by decide)
 · exact Prod.ext (Decidable.not_not.1 c2) (Decidable.not_not.1 c)
theorem modelF_few {m : Md} (h : modelF m = 0) : m.rules.length ≤ 12 := by
 have hv := modelF_vars h
 unfold modelF at h
 rw [if_neg (fun k => k hv)] at h
 by_cases c : 12 < m.rules.length
 · rw [if_pos c] at h; exact absurd h (by decide)
 · omega
theorem propsF_few {m : Md} {l : List (List Fo)} (h : propsF m l = 0) : modelF m = 0 ∧ l.length ≤ 6 := by
 unfold propsF at h
 by_cases c1 : modelF m ≠ 0
 · rw [if_pos c1] at h; exact absurd h c1
 rw [if_neg c1] at h
 by_cases c2 : 6 < l.length
 · rw [if_pos c2] at h; exact absurd h (by decide)
 · exact ⟨Decidable.not_not.1 c1, by omega⟩
structure Tk where
 model : Md
 props : List (List Fo)
 formula : List Fo
def Tk.cells (t : Tk) : List D := [varsD t.model.vars, rulesD t.model.rules, termsD t.props, opsD t.formula]
abbrev tkA (t : Tk) : AV := .agg [.d (varsD t.model.vars), .d (rulesD t.model.rules), .d (termsD t.props), .d (opsD t.formula)]
noncomputable def taskF (t : Tk) : Int := if propsF t.model t.props ≠ 0 then propsF t.model t.props else formF t.formula t.props.length
theorem taskF_ok {t : Tk} (h : taskF t = 0) : propsF t.model t.props = 0 ∧ formF t.formula t.props.length = 0 ∧ modelF t.model = 0 := by
 unfold taskF at h
 by_cases c : propsF t.model t.props ≠ 0
 · rw [if_pos c] at h; exact absurd h c
 · rw [if_neg c] at h
   exact ⟨Decidable.not_not.1 c, h, (propsF_few (Decidable.not_not.1 c)).1⟩
end Go.Sp
namespace Go.Proofs.YtajnpfgelpkijaaDoor
open Go Go.Av Go.Sp
theorem cal_terms : Cal Tryd.prog 9 := Cal.of Tryd.func9 (by kernel_rfl) (by kernel_rfl)
theorem cal_tasks : Cal Tryd.prog 4 := Cal.of Tryd.func4 (by kernel_rfl) (by kernel_rfl)
theorem cal_sameTask : Cal Tryd.prog 7 := Cal.of Tryd.func7 (by kernel_rfl) (by kernel_rfl)
theorem cal_PCheck : Cal Tryd.prog 11 := Cal.of Tryd.func11 (by kernel_rfl) (by kernel_rfl)
theorem cal_TaskFault : Cal Tryd.prog 17 := Cal.of Tryd.func17 (by kernel_rfl) (by kernel_rfl)
theorem conf_Task {g : Nat} {xs : List D} (h : Conf Tryd.prog (g + 9) 29 xs) : ∃ t : Tk, xs = t.cells := by
  obtain ⟨p0, p1, p2, rfl, h0, h1, h2⟩ := conf_struct3_of Tryd.underlying29 h
  obtain ⟨m, rfl⟩ := conf_Model h0
  obtain ⟨ps, rfl, _⟩ := conf_terms h1
  obtain ⟨f, rfl, _⟩ := conf_ops h2
  exact ⟨⟨m, ps, f⟩, rfl⟩
theorem terms (G : List (Nat × List D)) (a : List (List Fo)) : ACr Tryd.prog G 9 [.d (termsD a)] (.d (termsD a)) := by
 refine AC_ofV (ts := [2]) Tryd.f9.ntmps Tryd.func9 rfl rfl rfl (by simp [Tryd.ntmps9]) fun W I => ?_
 refine jfact (t := 0) rfl fun hl => ?_
 repeat' (first
  | refine ca cal_ops (opsU _ _) ?_
  | exact True.intro | refine stpA ?_ | refine two ?_ ?_
  | (refine imp fun hc => ?_) <;> try exact cx hc
  | refine all fun v_ => ?_)
 refine jrow (E := 27) (sz := 1) termC ?_
 refine J_loop (X := Nat × Sl) (fun y => [(0, .d (termsD a)), (3, .val y.2.v), (4, .int y.1)]) (fun y => [rowE y.2.v 27 1 termC (a.take y.1)]) (fun y => y.1 ≤ a.length) (fun y => a.length - y.1) (0, Sl.nil) (Nat.zero_le _) ?_ rfl ?_
 · exact leD
 rintro ⟨i, v⟩ h1
 dsimp only at h1 ⊢
 have hlen : (a.take i).length = i := by rw [List.length_take]; omega
 repeat' (first
  | refine ca cal_ops (opsU _ _) ?_
  | exact True.intro | refine stpA ?_ | refine two ?_ ?_
  | (refine imp fun hc => ?_) <;> try exact cx hc
  | refine all fun v_ => ?_)
 · refine ⟨(i + 1, v_), by dsimp only; omega, by dsimp only; omega, ?_, ?_⟩
   · exact leD
   · dsimp only
     rw [List.take_succ_eq_append_getElem (by omega)]
 · refine retv (vfreeze (t := 2) (eb := 24) rfl rfl (fun x => rfl) (by rw [hlen]; omega)) ?_
   ((with_reducible apply rq1); rfl; rfl)
   refine ret_eq ?_
   rw [List.take_of_length_le (by omega)]
theorem tasks (G : List (Nat × List D)) (t : Tk) : ACr Tryd.prog G 4 [tkA t] (tkA t) := by
 refine AC_ofR (rs := [.cell 2 29]) Tryd.f4.ntmps Tryd.func4 rfl rfl rfl (by simp [Tryd.ntmps4]) fun W I => ?_
 repeat' (first
  | refine ca cal_models (models _ _) ?_
  | refine ca cal_terms (terms _ _) ?_
  | refine ca cal_ops (opsU _ _) ?_
  | exact True.intro | refine stpH ?_ | refine two ?_ ?_ | refine allc fun c_ => ?_
  | (refine imp fun hc => ?_) <;> try exact cx1 hc
  | refine all fun v_ => ?_)
 exact retr0 (xs := [tkA t]) ⟨rv_agg rfl (by (with_reducible exact ElC.h)) rfl (by exact memD) rfl, trivial⟩ rfl (h' := []) (List.nil_sublist _) (ret_eq rfl)
theorem sameTask (G : List (Nat × List D)) (t : Tk) : ACr Tryd.prog G 7 [tkA t, tkA t] (.bool true) := by
 have e2 := ACr_true (sameTerms G t.props t.props) rfl
 have e3 := ACr_true (sameOps G t.formula t.formula) rfl
 refine AC_ofV (ts := [4]) Tryd.f7.ntmps Tryd.func7 rfl rfl rfl (by simp [Tryd.ntmps7]) fun W I => ?_
 repeat' (first
  | refine ca cal_sameModel (sameModel _ _) ?_
  | refine ca cal_sameTerms (e2) ?_
  | refine ca cal_sameOps (e3) ?_
  | exact True.intro | refine stpH ?_ | refine two ?_ ?_ | refine allc fun c_ => ?_
  | (refine imp fun hc => ?_) <;> try exact cx1 hc
  | refine all fun v_ => ?_)
 all_goals
  refine retv (VS.drop (List.nil_sublist _)) ?_
  ((with_reducible apply rq1); rfl; rfl)
  exact ret_eq rfl
theorem PCheck  (t : Tk) : ACr Tryd.prog GP 11 [tkA t] (.int (taskF t)) := by
 have hP := Props t.model t.props
 have hC := Check t.formula t.props.length
 unfold taskF
 generalize propsF t.model t.props = e1 at hP ⊢
 generalize formF t.formula t.props.length = e2 at hC ⊢
 refine AC_ofV (ts := [2]) Tryd.f11.ntmps Tryd.func11 rfl rfl rfl (by simp [Tryd.ntmps11]) fun W I => ?_
 by_cases h1 : e1 ≠ 0
 · repeat' (first
    | refine ca cal_Props (hP) ?_
    | refine ca cal_Check (hC) ?_
    | exact True.intro | refine stpH ?_ | refine two ?_ ?_ | refine allc fun c_ => ?_
    | (refine imp fun hc => ?_) <;> try exact cx1 hc
    | refine all fun v_ => ?_)
   refine retv (VS.drop (List.nil_sublist _)) ?_
   ((with_reducible apply rq1); rfl; rfl)
   exact ret_eq (by rw [if_pos h1])
 · repeat' (first
    | refine ca cal_Props (hP) ?_
    | refine ca cal_Check (hC) ?_
    | exact True.intro | refine stpH ?_ | refine two ?_ ?_ | refine allc fun c_ => ?_
    | (refine imp fun hc => ?_) <;> try exact cx1 hc
    | refine all fun v_ => ?_)
   refine retv (VS.drop (List.nil_sublist _)) ?_
   ((with_reducible apply rq1); rfl; rfl)
   exact ret_eq (by rw [if_neg h1])
theorem TaskFault (G : List (Nat × List D)) (t : Tk) : ACr Tryd.prog G 17 [tkA t] (.int (taskF t)) := by
 have hP := PropsFault G t.model t.props
 have hC := FormulaFault G t.formula t.props.length
 unfold taskF
 generalize propsF t.model t.props = e1 at hP ⊢
 generalize formF t.formula t.props.length = e2 at hC ⊢
 refine AC_ofV (ts := [2]) Tryd.f17.ntmps Tryd.func17 rfl rfl rfl (by simp [Tryd.ntmps17]) fun W I => ?_
 by_cases h1 : e1 ≠ 0
 · repeat' (first
    | refine ca cal_PropsFault (hP) ?_
    | refine ca cal_FormulaFault (hC) ?_
    | exact True.intro | refine stpH ?_ | refine two ?_ ?_ | refine allc fun c_ => ?_
    | (refine imp fun hc => ?_) <;> try exact cx1 hc
    | refine all fun v_ => ?_)
   refine retv (VS.drop (List.nil_sublist _)) ?_
   ((with_reducible apply rq1); rfl; rfl)
   exact ret_eq (by rw [if_pos h1])
 · repeat' (first
    | refine ca cal_PropsFault (hP) ?_
    | refine ca cal_FormulaFault (hC) ?_
    | exact True.intro | refine stpH ?_ | refine two ?_ ?_ | refine allc fun c_ => ?_
    | (refine imp fun hc => ?_) <;> try exact cx1 hc
    | refine all fun v_ => ?_)
   refine retv (VS.drop (List.nil_sublist _)) ?_
   ((with_reducible apply rq1); rfl; rfl)
   exact ret_eq (by rw [if_neg h1])
end Go.Proofs.YtajnpfgelpkijaaDoor
namespace Go.Sp
open Go Go.Av

def markL (k : Int) : List UInt8 := (marksL[k.toNat]?).getD []
def wordL (vars : List Vr) (o : Fo) : List UInt8 :=
 if o.kind = 1 then Lib.itoa o.val
 else if o.kind = 2 then ((vars[o.val.toNat]?).map fun v => v.name.data.toList).getD []
 else if o.kind = 13 then 80 :: Lib.itoa o.val
 else markL o.kind
def termL (vars : List Vr) (l : List Fo) : List UInt8 := l.flatMap fun o => 32 :: wordL vars o
theorem termL_snoc (vars : List Vr) (l : List Fo) (o : Fo) : termL vars (l ++ [o]) = termL vars l ++ 32 :: wordL vars o := by unfold termL; simp
theorem termL_at (vars : List Vr) (l : List Fo) (i : Nat) (h : i < l.length) : termL vars (l.take (i + 1)) = termL vars (l.take i) ++ 32 :: wordL vars l[i] := by
 rw [List.take_succ_eq_append_getElem h, termL_snoc]
def varW : List UInt8 := [118, 97, 114, 32]
def ruleW : List UInt8 := [114, 117, 108, 101]
def setW : List UInt8 := [115, 101, 116, 32]
def propW : List UInt8 := [112, 114, 111, 112]
def checkW : List UInt8 := [99, 104, 101, 99, 107]
def varL (v : Vr) : List UInt8 := varW ++ v.name.data.toList ++ 32 :: Lib.itoa v.low ++ 32 :: Lib.itoa v.high ++ 32 :: Lib.itoa v.init ++ [10]
def setL (vars : List Vr) (s : St) : List UInt8 := setW ++ ((vars[s.var.toNat]?).map fun v => v.name.data.toList).getD [] ++ termL vars s.val ++ [10]
def ruleL (vars : List Vr) (r : Ru) : List UInt8 := ruleW ++ termL vars r.guard ++ [10] ++ r.sets.flatMap (setL vars)
def propL (vars : List Vr) (l : List Fo) : List UInt8 := propW ++ termL vars l ++ [10]
def checkL (vars : List Vr) (l : List Fo) : List UInt8 := checkW ++ termL vars l ++ [10]
def shownL (t : Tk) : List UInt8 := t.model.vars.flatMap varL ++ t.model.rules.flatMap (ruleL t.model.vars) ++ t.props.flatMap (propL t.model.vars) ++ checkL t.model.vars t.formula
noncomputable def shownF (t : Tk) : ByteArray × Int := if taskF t ≠ 0 then (.empty, taskF t) else (tx (shownL t), 0)
theorem flat_at {α : Type} (f : α → List UInt8) (l : List α) (i : Nat) (h : i < l.length) : (l.take (i + 1)).flatMap f = (l.take i).flatMap f ++ f l[i] := by
 rw [List.take_succ_eq_append_getElem h, List.flatMap_append]; simp
theorem dec_small {n : Nat} (h : n < 10) : Lib.decDigits n = [UInt8.ofNat (48 + n)] := by rw [Lib.decDigits, dif_pos h]
theorem dec_big {n : Nat} (h : ¬ n < 10) : Lib.decDigits n = Lib.decDigits (n / 10) ++ [UInt8.ofNat (48 + n % 10)] := by rw [Lib.decDigits, dif_neg h]
theorem dec_len (n : Nat) : ∀ k, n < 10 ^ k → 0 < k → (Lib.decDigits n).length ≤ k := by
 induction n using Nat.strongRecOn with
 | _ n ih =>
   intro k hk h0
   by_cases h : n < 10
   · rw [dec_small h]; simp only [List.length_cons, List.length_nil]; omega
   · obtain ⟨j, rfl⟩ : ∃ j, k = j + 1 := ⟨k - 1, by omega⟩
     have hj : 0 < j := by
      rcases Nat.eq_zero_or_pos j with rfl | hj
      · simp at hk; omega
      · exact hj
     rw [Nat.pow_succ] at hk
     have := ih (n / 10) (by omega) j (by omega) hj
     rw [dec_big h, List.length_append]
     simp only [List.length_cons, List.length_nil]; omega
theorem itoa_neg {n : Int} (h : n < 0) : Lib.itoa n = 45 :: Lib.itoa (-n) := by
 unfold Lib.itoa
 rw [if_pos h, if_neg (by omega), show (-n).toNat = n.natAbs by omega]
theorem itoa_len {n : Int} (h1 : -2000000000 ≤ n) (h2 : n ≤ 2000000000) : (Lib.itoa n).length ≤ 11 := by
 unfold Lib.itoa
 split
 · have := dec_len n.natAbs 10 (by omega) (by decide)
   rw [List.length_cons]; omega
 · have := dec_len n.toNat 10 (by omega) (by decide)
   omega
structure OpP (nv np : Int) (o : Fo) : Prop where
 lo : 1 ≤ o.kind
 hi : o.kind ≤ 18
 num : o.kind = 1 → -1000 ≤ o.val ∧ o.val ≤ 1000
 var : o.kind = 2 → 0 ≤ o.val ∧ o.val < nv
 prop : o.kind = 13 → 0 ≤ o.val ∧ o.val < np
 none : o.kind ≠ 1 → o.kind ≠ 2 → o.kind ≠ 13 → o.val = 0
theorem OpP.of_expr {o : Fo} {nv np : Int} (h : opZ o.kind o.val nv = 0) : OpP nv np o := by
 unfold opZ at h
 by_cases h1 : ¬ okP o.kind
 · rw [if_pos h1] at h; cases h
 rw [if_neg h1] at h
 have h1' : 1 ≤ o.kind ∧ o.kind ≤ 12 := Decidable.not_not.1 h1
 by_cases h2 : (o.kind = 1 ∧ (o.val < -1000 ∨ 1000 < o.val)) ∨ (o.kind = 2 ∧ (o.val < 0 ∨ nv ≤ o.val)) ∨ (2 < o.kind ∧ o.val ≠ 0)
 · rw [if_pos h2] at h; cases h
 exact ⟨by omega, by omega, fun e => by omega, fun e => by omega, fun e => by omega, fun e1 e2 e3 => by omega⟩
theorem OpP.of_form {o : Fo} {nv np : Int} (h : fitsZ o.kind o.val np = 0) (hp : (partsOf o.kind).2 = 0) : OpP nv np o := by
 have hk : ¬ (o.kind < 1 ∨ 18 < o.kind) := fun k => by rw [partsOf_no _ k] at hp; cases hp
 unfold fitsZ at h
 by_cases h1 : o.kind < 8
 · rw [if_pos h1] at h; cases h
 rw [if_neg h1] at h
 by_cases h2 : (o.kind = 13 ∧ (o.val < 0 ∨ np ≤ o.val)) ∨ (o.kind ≠ 13 ∧ o.val ≠ 0)
 · rw [if_pos h2] at h; cases h
 exact ⟨by omega, by omega, fun e => by omega, fun e => by omega, fun e => by omega, fun e1 e2 e3 => by omega⟩
structure TmP (nv np : Int) (l : List Fo) : Prop where
 few : l.length ≤ 60
 pos : 0 < l.length
 ops : ∀ o ∈ l, OpP nv np o
theorem TmP.of_kind {l : List Fo} {nv np : Int} {b : Bool} (h : kindF l nv b = 0) : TmP nv np l := by
 have h1 := kindF_ok h
 obtain ⟨g, _, _⟩ := goodE_of (l := l) (vars := nv) (by rw [h1])
 refine ⟨g.h60, g.pos, fun o ho => ?_⟩
 obtain ⟨i, hi, rfl⟩ := List.getElem_of_mem ho
 exact .of_expr (g.op i hi)
theorem TmP.of_form {l : List Fo} {nv np : Int} (h : formF l np = 0) : TmP nv np l := by
 obtain ⟨_, _, he, hf, _⟩ := formF_ok h
 obtain ⟨h60, hpos, _, _, _⟩ := endsOf_ok (l := l) (es := (endsOf l).1) (Prod.ext rfl he)
 refine ⟨h60, hpos, fun o ho => ?_⟩
 obtain ⟨i, hi, rfl⟩ := List.getElem_of_mem ho
 exact .of_form (hf i hi) (well_kind hi (all_well he i hi))
structure TkP (t : Tk) : Prop where
 vars6 : t.model.vars.length ≤ 6
 names : ∀ v ∈ t.model.vars, nameP v.name
 range : ∀ v ∈ t.model.vars, -1000 ≤ v.low ∧ v.low ≤ 1000 ∧ -1000 ≤ v.high ∧ v.high ≤ 1000 ∧ -1000 ≤ v.init ∧ v.init ≤ 1000
 nodup : (t.model.vars.map Vr.name).Nodup
 rules : t.model.rules.length ≤ 12
 guards : ∀ r ∈ t.model.rules, TmP t.model.vars.length 0 r.guard
 sets6 : ∀ r ∈ t.model.rules, r.sets.length ≤ 6
 sets : ∀ r ∈ t.model.rules, ∀ s ∈ r.sets, 0 ≤ s.var ∧ s.var < t.model.vars.length ∧ TmP t.model.vars.length 0 s.val
 props6 : t.props.length ≤ 6
 props : ∀ p ∈ t.props, TmP t.model.vars.length 0 p
 form : TmP t.model.vars.length t.props.length t.formula
theorem varsE_names : ∀ (l : List Vr) (seen : List ByteArray) (n : Int), varsE l seen n = 0 → (∀ v ∈ l, nameP v.name ∧ rangeV v ∧ v.name ∉ seen) ∧ (l.map Vr.name).Nodup
 | [], _, _, _ => ⟨fun v h => (by cases h), List.nodup_nil⟩
 | v :: l, seen, n, h => by
   rw [varsE] at h
   by_cases c1 : ¬ nameP v.name
   · rw [if_pos c1] at h; cases h
   rw [if_neg c1] at h
   by_cases c2 : v.name ∈ seen
   · rw [if_pos c2] at h; cases h
   rw [if_neg c2] at h
   by_cases c3 : ¬ rangeV v
   · rw [if_pos c3] at h; cases h
   rw [if_neg c3] at h
   by_cases c4 : 64 < spanV v
   · rw [if_pos c4] at h; cases h
   rw [if_neg c4] at h
   by_cases c5 : 4096 < n * spanV v
   · rw [if_pos c5] at h; cases h
   rw [if_neg c5] at h
   obtain ⟨h1, h2⟩ := varsE_names l _ _ h
   refine ⟨fun w hw => ?_, ?_⟩
   · rcases List.mem_cons.1 hw with rfl | hw
     · exact ⟨Decidable.not_not.1 c1, Decidable.not_not.1 c3, c2⟩
     · obtain ⟨a1, a2, a3⟩ := h1 w hw
       exact ⟨a1, a2, fun k => a3 (List.mem_append.2 (.inl k))⟩
   · rw [List.map_cons, List.nodup_cons]
     refine ⟨fun k => ?_, h2⟩
     obtain ⟨w, hw, e⟩ := List.mem_map.1 k
     exact (h1 w hw).2.2 (by rw [e]; simp)
theorem propsE_good (n : Int) : ∀ l : List (List Fo), propsE n l = 0 → ∀ p ∈ l, kindF p n true = 0
 | [], _, r, h => by cases h
 | a :: l, h, r, hr => by
   rw [propsE] at h
   by_cases c : kindF a n true ≠ 0
   · rw [if_pos c] at h; exact absurd h c
   rw [if_neg c] at h
   rcases List.mem_cons.1 hr with rfl | hr
   · exact Decidable.not_not.1 c
   · exact propsE_good n l h r hr
theorem ruleF_good {r : Ru} {n : Int} (h : ruleF r n = 0) : r.sets.length ≤ 6 ∧ kindF r.guard n true = 0 ∧ ∀ s ∈ r.sets, 0 ≤ s.var ∧ s.var < n ∧ kindF s.val n false = 0 := by
 unfold ruleF at h
 by_cases c1 : 6 < r.sets.length
 · rw [if_pos c1] at h; cases h
 rw [if_neg c1] at h
 by_cases c2 : kindF r.guard n true ≠ 0
 · rw [if_pos c2] at h; exact absurd h c2
 rw [if_neg c2] at h
 refine ⟨by omega, Decidable.not_not.1 c2, fun s hs => ?_⟩
 obtain ⟨a, b, c, _⟩ := (setsE_good n r.sets [] h).1 s hs
 exact ⟨a, b, c⟩
theorem TkP.of {t : Tk} (h : taskF t = 0) : TkP t := by
 obtain ⟨hp, hf, hm⟩ := taskF_ok h
 have hv := modelF_vars hm
 have hv' := hv
 unfold varsF at hv'
 by_cases c6 : 6 < t.model.vars.length
 · rw [if_pos c6] at hv'; cases hv'
 rw [if_neg c6] at hv'
 obtain ⟨n1, n2⟩ := varsE_names _ _ _ hv'
 have hr : rulesE t.model.vars.length t.model.rules = 0 := by
  have h12 := modelF_few hm
  unfold modelF at hm
  rw [if_neg (fun k => k hv), if_neg (by omega)] at hm
  exact hm
 have hpe : t.props.length ≤ 6 ∧ propsE t.model.vars.length t.props = 0 := by
  unfold propsF at hp
  rw [if_neg (fun k => k hm)] at hp
  by_cases c : 6 < t.props.length
  · rw [if_pos c] at hp; cases hp
  · rw [if_neg c] at hp; exact ⟨by omega, hp⟩
 have hrg := rulesE_good _ _ hr
 exact
 { vars6 := by omega
   names := fun v hv => (n1 v hv).1
   range := fun v hv => by obtain ⟨a, b, c, d, e⟩ := (n1 v hv).2.1; omega
   nodup := n2
   rules := modelF_few hm
   guards := fun r hr => .of_kind (ruleF_good (hrg r hr)).2.1
   sets6 := fun r hr => (ruleF_good (hrg r hr)).1
   sets := fun r hr s hs => by
    obtain ⟨a, b, c⟩ := (ruleF_good (hrg r hr)).2.2 s hs
    exact ⟨a, b, .of_kind c⟩
   props6 := hpe.1
   props := fun p hp => .of_kind (propsE_good _ _ hpe.2 p hp)
   form := .of_form hf }
theorem name_len {s : ByteArray} (h : nameP s) : s.data.toList.length ≤ 8 := h.1.2
theorem mark_len (k : Int) : (markL k).length ≤ 3 := by
 unfold markL
 cases h : marksL[k.toNat]? with
 | none => exact Nat.zero_le _
 | some l =>
   have := List.mem_of_getElem? h
   have key : ∀ l ∈ marksL, l.length ≤ 3 := by decide
   exact key l this
theorem word_len {vars : List Vr} (hn : ∀ v ∈ vars, nameP v.name) {o : Fo} {np : Int} (h : OpP vars.length np o) (hp : np ≤ 6) : (wordL vars o).length ≤ 12 := by
 unfold wordL
 split
 · have := h.num (by assumption)
   have := itoa_len (n := o.val) (by omega) (by omega)
   omega
 split
 · have hv := h.var (by assumption)
   have hi : o.val.toNat < vars.length := by omega
   rw [List.getElem?_eq_getElem hi]
   have := name_len (hn _ (List.getElem_mem hi))
   simp only [Option.map_some, Option.getD_some]; omega
 split
 · have := h.prop (by assumption)
   have := itoa_len (n := o.val) (by omega) (by omega)
   rw [List.length_cons]; omega
 · have := mark_len o.kind; omega
theorem term_len {vars : List Vr} (hn : ∀ v ∈ vars, nameP v.name) {np : Int} (hp : np ≤ 6) : ∀ l : List Fo, (∀ o ∈ l, OpP vars.length np o) → (termL vars l).length ≤ 13 * l.length
 | [], _ => Nat.zero_le _
 | o :: l, h => by
   have h1 := word_len hn (h o List.mem_cons_self) hp
   have h2 := term_len hn hp l fun x hx => h x (List.mem_cons_of_mem _ hx)
   have e : termL vars (o :: l) = 32 :: wordL vars o ++ termL vars l := by unfold termL; simp
   rw [e, List.length_append, List.length_cons, List.length_cons]; omega
def varN (vars : List Vr) (i : Int) : List UInt8 := ((vars[i.toNat]?).map fun v => v.name.data.toList).getD []
section
variable {vs : List Vr} (hn : ∀ v ∈ vs, nameP v.name) (hd : (vs.map Vr.name).Nodup)
include hn hd
end
theorem flat_len {α : Type} {f : α → List UInt8} {k : Nat} : ∀ (l : List α), (∀ x ∈ l, (f x).length ≤ k) → (l.flatMap f).length ≤ k * l.length
 | [], _ => Nat.zero_le _
 | x :: l, h => by
   have h1 := h x List.mem_cons_self
   have h2 := flat_len l fun y hy => h y (List.mem_cons_of_mem _ hy)
   rw [List.flatMap_cons, List.length_append, List.length_cons, Nat.mul_succ]; omega
theorem varL_len {v : Vr} (hn : nameP v.name) (h : -1000 ≤ v.low ∧ v.low ≤ 1000 ∧ -1000 ≤ v.high ∧ v.high ≤ 1000 ∧ -1000 ≤ v.init ∧ v.init ≤ 1000) : (varL v).length ≤ 50 := by
 have h0 := name_len hn
 have h1 := itoa_len (n := v.low) (by omega) (by omega)
 have h2 := itoa_len (n := v.high) (by omega) (by omega)
 have h3 := itoa_len (n := v.init) (by omega) (by omega)
 unfold varL varW
 simp only [List.length_append, List.length_cons, List.length_nil]; omega
theorem varN_len {vars : List Vr} (hn : ∀ v ∈ vars, nameP v.name) (i : Int) : (varN vars i).length ≤ 8 := by
 unfold varN
 by_cases h : i.toNat < vars.length
 · rw [List.getElem?_eq_getElem h]; exact name_len (hn _ (List.getElem_mem h))
 · rw [List.getElem?_eq_none (by omega)]; exact Nat.zero_le _
theorem setL_len {vars : List Vr} (hn : ∀ v ∈ vars, nameP v.name) {s : St} {k : Nat} (h : ∀ o ∈ s.val, OpP vars.length 0 o) (hk : s.val.length ≤ k) : (setL vars s).length ≤ 13 + 13 * k := by
 have h1 := varN_len hn s.var
 have h2 := term_len hn (by decide) s.val h
 unfold varN at h1
 unfold setL setW
 simp only [List.length_append, List.length_cons, List.length_nil]; omega
theorem ruleL_len {vars : List Vr} (hn : ∀ v ∈ vars, nameP v.name) {r : Ru} {g n k : Nat} (h : ∀ o ∈ r.guard, OpP vars.length 0 o) (hg : r.guard.length ≤ g) (hs : r.sets.length ≤ n) (h2 : ∀ s ∈ r.sets, (∀ o ∈ s.val, OpP vars.length 0 o) ∧ s.val.length ≤ k) : (ruleL vars r).length ≤ 5 + 13 * g + (13 + 13 * k) * n := by
 have h1 := term_len hn (by decide) r.guard h
 have h3 := flat_len (f := setL vars) (k := 13 + 13 * k) r.sets fun s hs => setL_len hn (h2 s hs).1 (h2 s hs).2
 have h4 := Nat.mul_le_mul_left (13 + 13 * k) hs
 unfold ruleL ruleW
 simp only [List.length_append, List.length_cons, List.length_nil]; omega
theorem propL_len {vars : List Vr} (hn : ∀ v ∈ vars, nameP v.name) {p : List Fo} {k : Nat} (h : ∀ o ∈ p, OpP vars.length 0 o) (hk : p.length ≤ k) : (propL vars p).length ≤ 5 + 13 * k := by
 have h1 := term_len hn (by decide) p h
 unfold propL propW
 simp only [List.length_append, List.length_cons, List.length_nil]; omega
theorem checkL_len {vars : List Vr} (hn : ∀ v ∈ vars, nameP v.name) {np : Int} (hp : np ≤ 6) {p : List Fo} {k : Nat} (h : ∀ o ∈ p, OpP vars.length np o) (hk : p.length ≤ k) : (checkL vars p).length ≤ 6 + 13 * k := by
 have h1 := term_len hn hp p h
 unfold checkL checkW
 simp only [List.length_append, List.length_cons, List.length_nil]; omega
theorem shownL_size {t : Tk} (h : TkP t) {nv nr g n k np p f : Nat} (hv : t.model.vars.length ≤ nv) (hr : t.model.rules.length ≤ nr) (h1 : ∀ r ∈ t.model.rules, r.guard.length ≤ g ∧ r.sets.length ≤ n ∧ ∀ s ∈ r.sets, s.val.length ≤ k)
 (hp : t.props.length ≤ np) (h2 : ∀ q ∈ t.props, q.length ≤ p) (hf : t.formula.length ≤ f) : (shownL t).length ≤ 50 * nv + (5 + 13 * g + (13 + 13 * k) * n) * nr + (5 + 13 * p) * np + (6 + 13 * f) := by
 have a1 := flat_len (f := varL) (k := 50) t.model.vars fun v hv => varL_len (h.names v hv) (h.range v hv)
 have a2 := flat_len (f := ruleL t.model.vars) (k := 5 + 13 * g + (13 + 13 * k) * n) t.model.rules fun r hr => ruleL_len h.names (h.guards r hr).ops (h1 r hr).1 (h1 r hr).2.1 fun s hs => ⟨(h.sets r hr s hs).2.2.ops, (h1 r hr).2.2 s hs⟩
 have a3 := flat_len (f := propL t.model.vars) (k := 5 + 13 * p) t.props fun q hq => propL_len h.names (h.props q hq).ops (h2 q hq)
 have np6 : (t.props.length : Int) ≤ 6 := by have := h.props6; omega
 have a4 := checkL_len h.names np6 h.form.ops hf
 have b1 := Nat.mul_le_mul_left 50 hv
 have b2 := Nat.mul_le_mul_left (5 + 13 * g + (13 + 13 * k) * n) hr
 have b3 := Nat.mul_le_mul_left (5 + 13 * p) hp
 unfold shownL
 rw [List.length_append, List.length_append, List.length_append]; omega
theorem shownL_big {t : Tk} (h : TkP t) : (shownL t).length ≤ 80000 := by
 have := shownL_size h (nv := 6) (nr := 12) (g := 60) (n := 6) (k := 60) (np := 6) (p := 60) (f := 60) h.vars6 h.rules
  (fun r hr => ⟨(h.guards r hr).few, h.sets6 r hr, fun s hs => (h.sets r hr s hs).2.2.few⟩) h.props6 (fun q hq => (h.props q hq).few) h.form.few
 omega
end Go.Sp
namespace Go.Av
open Go
theorem pu_byte_string {P : Program} {G : List (Nat × List D)} {ρ : Env} {h : H} {dst : Option Tmp} {ty : TypeId} {pos : String} {after : Array Edge} {g : Option (Nat × Bool)} {S T e : TypeId} {x : Operand} {b : UInt8} (hx : evO ρ x = some (.d (.l 1 1 [byteC b]))) (hS : P.underlying S = some (.slice e)) (he : P.underlying e = some (.int .u8)) (hT : P.underlying T = some .string) : Pure P G ⟨dst, .convert S T x, ty, pos, after, g⟩ ρ h (.val (.string (Go.Sp.tx [b]))) :=
 pu_bytes_string (l := [b]) hx hS he hT
end Go.Av
namespace Go.Proofs.YtajnpfgelpkijaaDoor
open Go Go.Av Go.Sp
theorem cal_Itoa : Cal Tryd.prog 13 := Cal.of Tryd.func13 (by kernel_rfl) (by kernel_rfl)
theorem cal_Dec : Cal Tryd.prog 18 := Cal.of Tryd.func18 (by kernel_rfl) (by kernel_rfl)
theorem cal_markOf : Cal Tryd.prog 42 := Cal.of Tryd.func42 (by kernel_rfl) (by kernel_rfl)
theorem cal_opWord : Cal Tryd.prog 29 := Cal.of Tryd.func29 (by kernel_rfl) (by kernel_rfl)
theorem cal_termWords : Cal Tryd.prog 19 := Cal.of Tryd.func19 (by kernel_rfl) (by kernel_rfl)
theorem gPow : Tryd.prog.globalNamed "internal/strconv.uint64pow10" = some 1 := by kernel_rfl
theorem Itoa (n : Int) (h0 : -9223372036854775808 ≤ n) (h1 : n ≤ 9223372036854775807) : ACr Tryd.prog GP 13 [.int n] (.val (.string (tx (Lib.itoa n)))) := by
 refine ACr_leave (us := [.int .i64 n]) fun w I hg => ?_
 have htab : Lib.TabIs Tryd.prog w "internal/strconv.uint64pow10" .u64 Lib.pow10Tab := by
  obtain ⟨c, _, hr⟩ := (hg _ GP_pow).2 0 _ rfl
  cases hr with
  | sm p b o v hI hw hc hq h1 =>
    obtain ⟨rfl, t, fr, rfl⟩ := hq
    unfold Lib.TabIs World.var?
    rw [gPow, Option.bind_some, hw]
 refine (Any.strconv_Itoa Tryd.laysM171 n h0 h1 w htab).mono ?_
 rintro e w' ⟨rfl, k, os, rfl⟩
 exact ⟨rfl, below_drew_grow w k os⟩
theorem dec_u8 {n : Nat} (h : n < 10) : UInt8.ofNat (48 + n) = UInt8.ofInt (48 + (n : Int)) := by
 have : n = 0 ∨ n = 1 ∨ n = 2 ∨ n = 3 ∨ n = 4 ∨ n = 5 ∨ n = 6 ∨ n = 7 ∨ n = 8 ∨ n = 9 := by omega
 rcases this with rfl | rfl | rfl | rfl | rfl | rfl | rfl | rfl | rfl | rfl <;> rfl
theorem DecN (G : List (Nat × List D)) : ∀ n : Nat, n ≤ 2000000000 → ACr Tryd.prog G 18 [.int n] (.val (.string (tx (Lib.decDigits n)))) := by
 intro n
 induction n using Nat.strongRecOn with
 | _ n ih0 =>
   intro hn
   refine AC_ofV (ts := [2]) Tryd.f18.ntmps Tryd.func18 rfl rfl rfl (by simp [Tryd.ntmps18]) fun W I => ?_
   by_cases h10 : n < 10
   · repeat' (first
      | refine ca cal_Dec (ih) ?_
      | ((with_reducible apply jp); (focus ((with_reducible apply pu_byte_string); rfl; rfl; rfl; rfl)); (focus rfl))
      | exact True.intro | refine stpH ?_ | refine two ?_ ?_ | refine allc fun c_ => ?_
      | (refine imp fun hc => ?_) <;> try exact cx1 hc
      | refine all fun v_ => ?_)
     refine retv (VS.drop (List.nil_sublist _)) ?_
     ((with_reducible apply rq1); rfl; rfl)
     exact ret_eq (by rw [dec_small h10, dec_u8 h10])
   have ih : ACr Tryd.prog G 18 [.int ((n : Int) / 10)] (.val (.string (tx (Lib.decDigits (n / 10))))) := ih0 (n / 10) (by omega) (by omega)
   have hl := dec_len (n / 10) 11 (by omega) (by omega)
   repeat' (first
    | refine ca cal_Dec (ih) ?_
    | ((with_reducible apply jp); (focus ((with_reducible apply pu_byte_string); rfl; rfl; rfl; rfl)); (focus rfl))
    | exact True.intro | refine stpH ?_ | refine two ?_ ?_ | refine allc fun c_ => ?_
    | (refine imp fun hc => ?_) <;> try exact cx1 hc
    | refine all fun v_ => ?_)
   all_goals
    refine retv (VS.drop (List.nil_sublist _)) ?_
    ((with_reducible apply rq1); rfl; rfl)
    exact ret_eq (by rw [dec_big h10, dec_u8 (n := n % 10) (by omega)]; rfl)
theorem DecI (G : List (Nat × List D)) (n : Int) (h0 : -2000000000 ≤ n) (h1 : n ≤ 2000000000) : ACr Tryd.prog G 18 [.int n] (.val (.string (tx (Lib.itoa n)))) := by
 by_cases hn : n < 0
 · have ih := DecN G n.natAbs (by omega)
   have e : ((n.natAbs : Nat) : Int) = -n := by omega
   rw [e] at ih
   have hi : Lib.itoa n = 45 :: Lib.decDigits n.natAbs := by
    rw [itoa_neg hn]; unfold Lib.itoa; rw [if_neg (by omega)]; congr 2; omega
   have hl := dec_len n.natAbs 11 (by omega) (by omega)
   rw [hi]
   refine AC_ofV (ts := [2]) Tryd.f18.ntmps Tryd.func18 rfl rfl rfl (by simp [Tryd.ntmps18]) fun W I => ?_
   repeat' (first
    | refine ca cal_Dec (ih) ?_
    | ((with_reducible apply jp); (focus ((with_reducible apply pu_byte_string); rfl; rfl; rfl; rfl)); (focus rfl))
    | exact True.intro | refine stpH ?_ | refine two ?_ ?_ | refine allc fun c_ => ?_
    | (refine imp fun hc => ?_) <;> try exact cx1 hc
    | refine all fun v_ => ?_)
   refine retv (VS.drop (List.nil_sublist _)) ?_
   ((with_reducible apply rq1); rfl; rfl)
   exact ret_eq rfl
 · have ih := DecN G n.toNat (by omega)
   have e : ((n.toNat : Nat) : Int) = n := by omega
   rw [e] at ih
   have hi : Lib.itoa n = Lib.decDigits n.toNat := by unfold Lib.itoa; rw [if_neg hn]
   rw [hi]
   exact ih
theorem markL_none {k : Int} (h3 : k ≠ 3) (h4 : k ≠ 4) (h5 : k ≠ 5) (h6 : k ≠ 6) (h7 : k ≠ 7) (h8 : k ≠ 8) (h9 : k ≠ 9) (h10 : k ≠ 10) (h11 : k ≠ 11) (h12 : k ≠ 12) (h14 : k ≠ 14) (h15 : k ≠ 15) (h16 : k ≠ 16) (h17 : k ≠ 17) (h18 : k ≠ 18) : markL k = [] := by
 unfold markL
 by_cases h : k.toNat ≤ 18
 · have : k.toNat = 0 ∨ k.toNat = 1 ∨ k.toNat = 2 ∨ k.toNat = 13 := by omega
   rcases this with e | e | e | e <;> rw [e] <;> rfl
 · rw [List.getElem?_eq_none (by show 19 ≤ _; omega)]; rfl
theorem markOf (G : List (Nat × List D)) (k : Int) : ACr Tryd.prog G 42 [.int k] (.val (.string (tx (markL k)))) := by
 refine AC_ofV (ts := [2]) Tryd.f42.ntmps Tryd.func42 rfl rfl rfl (by simp [Tryd.ntmps42]) fun W I => ?_
 repeat' (first
  | exact True.intro
  | refine stp ?_
  | refine two ?_ ?_
  | (refine imp fun hc => ?_) <;> try exact cx hc
  | refine all fun v_ => ?_)
 all_goals
  refine retv (VS.drop (List.nil_sublist _)) ?_
  ((with_reducible apply rq1); rfl; rfl)
  refine ret_eq ?_
  first
  | (subst_vars; rfl)
  | (rw [markL_none (by assumption) (by assumption) (by assumption) (by assumption) (by assumption) (by assumption) (by assumption) (by assumption) (by assumption) (by assumption) (by assumption) (by assumption) (by assumption) (by assumption) (by assumption)])
theorem armXR2_1 {p q : Prop} (hp : p) (h : p → q := by
 apply cmp; (focus (first
  | ((with_reducible apply call0); (focus rfl); (focus exact cal_Dec); (focus exact DecI G o.val (by omega) (by omega)); (focus rfl))
  | ((with_reducible apply je_call0); (focus rfl); (focus (decide +kernel)); (focus rfl); (focus exact cal_Dec); (focus exact DecI G o.val (by omega) (by omega)); (focus rfl))
  ))
 exact fun h => h) : q := h hp
theorem opWord (G : List (Nat × List D)) (m : Md) (o : Fo) (np : Int) (hn : ∀ v ∈ m.vars, nameP v.name) (ho : OpP m.vars.length np o) (hp : np ≤ 6) : ACr Tryd.prog G 29 [mdA m, .agg [.int o.kind, .int o.val]] (.val (.string (tx (wordL m.vars o)))) := by
 have a1 := ho.lo
 have a2 := ho.hi
 unfold wordL
 refine AC_ofV (ts := [4]) Tryd.f29.ntmps Tryd.func29 rfl rfl rfl (by simp [Tryd.ntmps29]) fun W I => ?_
 by_cases h1 : o.kind = 1
 · have hv := ho.num h1
   rw [if_pos h1]
   repeat' (first
    | refine armXR2_1 ?_
    | refine ca cal_markOf (markOf G o.kind) ?_
    | exact True.intro | refine stpH ?_ | refine two ?_ ?_ | refine allc fun c_ => ?_
    | (refine imp fun hc => ?_) <;> try exact cx1 hc
    | refine all fun v_ => ?_)
   refine retv (VS.drop (List.nil_sublist _)) ?_
   ((with_reducible apply rq1); rfl; rfl)
   exact ret_eq rfl
 rw [if_neg h1]
 by_cases h2 : o.kind = 2
 · have hv := ho.var h2
   have hlt : o.val.toNat < m.vars.length := by omega
   rw [if_pos h2, List.getElem?_eq_getElem hlt]
   repeat' (first
    | refine armXR2_1 ?_
    | refine ca cal_markOf (markOf G o.kind) ?_
    | exact True.intro | refine stpH ?_ | refine two ?_ ?_ | refine allc fun c_ => ?_
    | (refine imp fun hc => ?_) <;> try exact cx1 hc
    | refine all fun v_ => ?_)
   refine retv (VS.drop (List.nil_sublist _)) ?_
   ((with_reducible apply rq1); rfl; rfl)
   exact ret_eq (by simp only [Option.map_some, Option.getD_some, tx_list]; rfl)
 rw [if_neg h2]
 by_cases h13 : o.kind = 13
 · have hv := ho.prop h13
   have hl := itoa_len (n := o.val) (by omega) (by omega)
   rw [if_pos h13]
   repeat' (first
    | refine armXR2_1 ?_
    | refine ca cal_markOf (markOf G o.kind) ?_
    | exact True.intro | refine stpH ?_ | refine two ?_ ?_ | refine allc fun c_ => ?_
    | (refine imp fun hc => ?_) <;> try exact cx1 hc
    | refine all fun v_ => ?_)
   refine retv (VS.drop (List.nil_sublist _)) ?_
   ((with_reducible apply rq1); rfl; rfl)
   exact ret_eq rfl
 rw [if_neg h13]
 repeat' (first
  | refine armXR2_1 ?_
  | refine ca cal_markOf (markOf G o.kind) ?_
  | exact True.intro | refine stpH ?_ | refine two ?_ ?_ | refine allc fun c_ => ?_
  | (refine imp fun hc => ?_) <;> try exact cx1 hc
  | refine all fun v_ => ?_)
 refine retv (VS.drop (List.nil_sublist _)) ?_
 ((with_reducible apply rq1); rfl; rfl)
 exact ret_eq rfl
theorem termWords (G : List (Nat × List D)) (m : Md) (l : List Fo) (np : Int) (hn : ∀ v ∈ m.vars, nameP v.name) (h : ∀ o ∈ l, OpP m.vars.length np o) (hp : np ≤ 6) (h60 : l.length ≤ 60) : ACr Tryd.prog G 19 [mdA m, .d (opsD l)] (.val (.string (tx (termL m.vars l)))) := by
 refine AC_ofV (ts := [4]) Tryd.f19.ntmps Tryd.func19 rfl rfl rfl (by simp [Tryd.ntmps19]) fun W I => ?_
 refine jfact (t := 1) rfl fun hfact => ?_
 repeat' (first
  | refine ca cal_opWord (opWord G m l[i] np hn (h _ (List.getElem_mem hi)) hp) ?_
  | exact True.intro | refine stpH ?_ | refine two ?_ ?_ | refine allc fun c_ => ?_
  | (refine imp fun hc => ?_) <;> try exact cx1 hc
  | refine all fun v_ => ?_)
 refine J_loopV (X := Nat) (fun i => [(1, .d (opsD l)), (2, .val (.pointer (some ⟨v_, 0, none⟩))), (5, .val (.string (tx (termL m.vars (l.take i))))), (6, .int i)]) (fun _ => [.cells v_ 25 [.d (varsD m.vars), .d (rulesD m.rules)]]) (fun i => i ≤ l.length) (fun i => l.length - i) 0 (Nat.zero_le _) (VS.take (by exact takedD) ?_) ?_
 · exact leD
 rintro i hi0
 by_cases hi : i < l.length
 · have e := termL_at m.vars l i hi
   have hl := term_len hn hp (l.take i) fun o ho => h o (List.mem_of_mem_take ho)
   have hl2 : (l.take i).length = i := by rw [List.length_take]; omega
   have hw := word_len hn (h _ (List.getElem_mem hi)) hp
   rw [hl2] at hl
   generalize termL m.vars (l.take i) = s at e hl ⊢
   have e : termL m.vars (l.take (i + 1)) = (s ++ [32]) ++ wordL m.vars l[i] := by rw [e]; simp
   repeat' (first
    | refine ca cal_opWord (opWord G m l[i] np hn (h _ (List.getElem_mem hi)) hp) ?_
    | exact True.intro | refine stpH ?_ | refine two ?_ ?_ | refine allc fun c_ => ?_
    | (refine imp fun hc => ?_) <;> try exact cx1 hc
    | refine all fun v_ => ?_)
   all_goals
    refine ⟨i + 1, by omega, by omega, VS.take (by exact takedD) ?_⟩
    rw [e]
    exact leD
 obtain rfl : i = l.length := by omega
 rw [List.take_length]
 repeat' (first
  | refine ca cal_opWord (opWord G m l[i] np hn (h _ (List.getElem_mem hi)) hp) ?_
  | exact True.intro | refine stpH ?_ | refine two ?_ ?_ | refine allc fun c_ => ?_
  | (refine imp fun hc => ?_) <;> try exact cx1 hc
  | refine all fun v_ => ?_)
 refine retv (VS.drop (List.nil_sublist _)) ?_
 ((with_reducible apply rq1); rfl; rfl)
 exact ret_eq rfl
end Go.Proofs.YtajnpfgelpkijaaDoor
namespace Go.Sp
open Go Go.Av
theorem flat_take_len {α : Type} (f : α → List UInt8) (l : List α) (i : Nat) : ((l.take i).flatMap f).length ≤ (l.flatMap f).length := by
 have h : l.flatMap f = (l.take i).flatMap f ++ (l.drop i).flatMap f := by rw [← List.flatMap_append, List.take_append_drop]
 rw [h, List.length_append]; omega
theorem flat_one_len {α : Type} (f : α → List UInt8) (l : List α) (i : Nat) (h : i < l.length) : (f l[i]).length ≤ (l.flatMap f).length := by
 have h1 := flat_take_len f l (i + 1)
 rw [flat_at f l i h, List.length_append] at h1
 omega
structure TkL (t : Tk) : Prop where
 all : (t.model.vars.flatMap varL).length + (t.model.rules.flatMap (ruleL t.model.vars)).length + (t.props.flatMap (propL t.model.vars)).length + (checkL t.model.vars t.formula).length ≤ 80000
theorem TkL.of {t : Tk} (h : TkP t) : TkL t := ⟨by
 have := shownL_big h
 unfold shownL at this
 simp only [List.length_append] at this
 omega⟩
theorem setL_eq {vars : List Vr} {s : St} (h : s.var.toNat < vars.length) : setL vars s = setW ++ vars[s.var.toNat].name.data.toList ++ (termL vars s.val ++ [10]) := by
 unfold setL
 rw [List.getElem?_eq_getElem h]
 simp
theorem ruleL_eq (vars : List Vr) (r : Ru) : ruleL vars r = ruleW ++ (termL vars r.guard ++ [10]) ++ r.sets.flatMap (setL vars) := by
 unfold ruleL; simp
theorem propL_eq (vars : List Vr) (l : List Fo) : propL vars l = propW ++ (termL vars l ++ [10]) := by unfold propL; simp
theorem checkL_eq (vars : List Vr) (l : List Fo) : checkL vars l = checkW ++ (termL vars l ++ [10]) := by unfold checkL; simp
end Go.Sp
