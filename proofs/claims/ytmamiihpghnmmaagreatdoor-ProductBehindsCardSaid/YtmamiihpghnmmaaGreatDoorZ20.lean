/- A bundle of this claim's own texts: G15 G16 Sg G18 E8 N3 Q2 Q3 N7 N5. -/
import Derived.Laws.Cover3
import Derived.Shelf.Sort.Plain
import Derived.Shelf.Slices.In.SortNone
import Derived.Shelf.Slices.CompactI
import Derived.Test.YtmamiihpghnmmaaGreatDoorProg
import Derived.Test.YtmamiihpghnmmaaGreatDoorZ1
import Derived.Test.YtmamiihpghnmmaaGreatDoorZ2
import Derived.Test.YtmamiihpghnmmaaGreatDoorZ8
import Derived.Test.YtmamiihpghnmmaaGreatDoorZ11
import Derived.Test.YtmamiihpghnmmaaGreatDoorZ16
import Derived.Test.YtmamiihpghnmmaaGreatDoorZ19
namespace Go.Sp
open Go Go.Av
set_option linter.unusedVariables false
set_option linter.unusedSimpArgs false

theorem codesL_succ (m : Md) (vs : List Int) (l : List Ru) (i : Nat) (h : i < l.length) : codesL m vs (l.take (i + 1)) = codesL m vs (l.take i) ++ (match afterF m l[i] vs with | none => [] | some out => [(codeF m out).1]) := by
  unfold codesL
  rw [List.take_succ_eq_append_getElem h, List.filterMap_append, List.filterMap_cons, List.filterMap_nil]
  cases afterF m l[i] vs <;> rfl
theorem codesL_none {m : Md} {vs : List Int} {l : List Ru} {i : Nat} (h : i < l.length) (ho : afterF m l[i] vs = none) : codesL m vs (l.take (i + 1)) = codesL m vs (l.take i) := by
  rw [codesL_succ m vs l i h, ho, List.append_nil]
theorem codesL_some {m : Md} {vs : List Int} {l : List Ru} {i : Nat} {out : List Int} (h : i < l.length) (ho : afterF m l[i] vs = some out) : codesL m vs (l.take (i + 1)) = codesL m vs (l.take i) ++ [(codeF m out).1] := by
  rw [codesL_succ m vs l i h, ho]
theorem codesL_len (m : Md) (vs : List Int) (l : List Ru) : (codesL m vs l).length ≤ l.length := List.length_filterMap_le _ _
theorem compact_len (l : List Int) (n : Nat) (hn : l.length ≤ n) : (Lib.compact l).length ≤ n := by
  unfold Lib.compact Lib.compactUpTo
  rw [List.length_map]
  exact Nat.le_trans (List.length_filter_le _ _) (by simpa using hn)
theorem upTo_succ (k : Nat) (l : List Int) : upTo (k + 1) l = upTo k l ++ (if (k : Int) ∈ l then [(k : Int)] else []) := by
  unfold upTo
  rw [List.range_succ, List.filter_append, List.map_append]
  by_cases h : (k : Int) ∈ l <;> simp [h]
theorem upTo_len (k : Nat) (l : List Int) : (upTo k l).length ≤ k := by
  unfold upTo
  rw [List.length_map]
  exact Nat.le_trans (List.length_filter_le _ _) (by simp)
theorem upTo_nil (n : Nat) : upTo n [] = [] := by
  unfold upTo; simp
def isR (n : Nat) (l : List Int) : List Bool := (List.range n).map fun c : Nat => decide ((c : Int) ∈ l)
theorem isR_nil (n : Nat) : isR n [] = List.replicate n false := by
  unfold isR
  refine List.ext_getElem (by simp) fun i h1 h2 => ?_
  simp
theorem isR_len (n : Nat) (l : List Int) : (isR n l).length = n := by simp [isR]
theorem isR_get (n : Nat) (l : List Int) (i : Nat) (h : i < (isR n l).length) : (isR n l)[i] = decide ((i : Int) ∈ l) := by simp [isR]
theorem isR_put (n : Nat) (l : List Int) (c : Int) (h0 : 0 ≤ c) : (isR n l).set c.toNat true = isR n (l ++ [c]) := by
  refine List.ext_getElem (by simp [isR]) fun i h1 h2 => ?_
  rw [List.getElem_set, isR_get]
  by_cases h : c.toNat = i
  · rw [if_pos h]
    have : (i : Int) = c := by omega
    rw [isR_get]
    simp [this]
  · rw [if_neg h, isR_get]
    have : ¬ (i : Int) = c := by omega
    simp [this]
theorem nextF_err {m : Md} {c : Int} (h : (valsF m c).2 ≠ 0) : nextF m c = ([], (valsF m c).2) := by unfold nextF; rw [if_pos h]
theorem nextF_ok {m : Md} {c : Int} (h : (valsF m c).2 = 0) : nextF m c = (if codesL m (valsT m.vars c) m.rules = [] then [c] else upTo (prodV m.vars).toNat (codesL m (valsT m.vars c) m.rules), 0) := by
  obtain ⟨_, _, _, e⟩ := valsF_ok h
  unfold nextF
  rw [if_neg (fun k => k h), e]
theorem modelF_few {m : Md} (h : modelF m = 0) : m.rules.length ≤ 12 := by
  have hv := modelF_vars h
  unfold modelF at h
  rw [if_neg (fun k => k hv)] at h
  by_cases c : 12 < m.rules.length
  · rw [if_pos c] at h; exact absurd h (by decide)
  · omega
theorem afterC_at {m : Md} {code : Int} {vs : List Int} (hv : valsF m code = (vs, 0)) (i : Nat) (h : i < m.rules.length) : (afterF m m.rules[i] vs = none → afterC m code i = (0, 11)) ∧ ∀ out, afterF m m.rules[i] vs = some out → afterC m code i = codeF m out := by
  have e := afterC_yes hv (rule := i) (by omega) (by simpa using h)
  simp only [Int.toNat_natCast] at e
  rw [e]
  exact ⟨fun ho => by rw [ho], fun out ho => by rw [ho]⟩
theorem states_nat {m : Md} (h : modelF m = 0) : ∃ n : Nat, prodV m.vars = n ∧ 1 ≤ n ∧ n ≤ 4096 := by
  have g := goodV (modelF_vars h)
  have h1 := prodV_pos fun v hv => (g.span v hv).1
  have h2 := g.all
  exact ⟨(prodV m.vars).toNat, by omega, by omega, by omega⟩
end Go.Sp
namespace Go.Sp
open Go Go.Av
set_option linter.unusedVariables false
set_option linter.unusedSimpArgs false

theorem nextF_range {m : Md} (hm : modelF m = 0) (c : Int) : ∀ x ∈ (nextF m c).1, 0 ≤ x ∧ x < prodV m.vars := fun x hx => by
  by_cases h : (valsF m c).2 ≠ 0
  · rw [nextF_err h] at hx; cases hx
  · rw [nextF_ok (Decidable.not_not.1 h)] at hx
    obtain ⟨_, h0, h1, _⟩ := valsF_ok (Decidable.not_not.1 h)
    dsimp only at hx
    by_cases hc : codesL m (valsT m.vars c) m.rules = []
    · rw [if_pos hc] at hx; rw [List.mem_singleton.1 hx]; exact ⟨h0, h1⟩
    · rw [if_neg hc] at hx
      have := upTo_range hx
      obtain ⟨n, hn, _, _⟩ := states_nat hm
      rw [hn] at this ⊢
      rw [Int.toNat_natCast] at this
      exact ⟨this.1, this.2.1⟩
noncomputable def nxM (m : Md) (c : Nat) : List Nat := (nextF m c).1.map Int.toNat
structure RM (m : Md) (n : Nat) (i : Nat) (xs : List Int) : Prop where
  nodup : xs.Nodup
  range : ∀ x ∈ xs, 0 ≤ x ∧ x < n
  sound : ∀ x ∈ xs, fromP (nxM m) [(firstF m).toNat] x.toNat
  first : firstF m ∈ xs
  done : ∀ (j : Nat) (h : j < xs.length), j < i → ∀ y ∈ (nextF m xs[j]).1, y ∈ xs
end Go.Sp
namespace Go.Sp
open Go.Av
set_option linter.unusedVariables false
set_option linter.unusedSimpArgs false

def lawB (k : Int) (a1 s b b1 : Bool) : Bool := if k = 14 then b1 else if k = 17 then a1 || b else if k = 18 then a1 && b else if k = 15 then s || (a1 && b) else s && (a1 || b)
theorem lawB_second {k : Int} (a1 u v b b1 : Bool) (hk : aheadP k) (hu : k = 15 ∨ k = 16 → u = v) : lawB k a1 u b b1 = lawB k a1 v b b1 := by
  by_cases h : k = 15 ∨ k = 16
  · rw [hu h]
  · unfold aheadP at hk
    unfold lawB
    by_cases h14 : k = 14
    · rw [if_pos h14, if_pos h14]
    by_cases h17 : k = 17
    · rw [if_neg h14, if_neg h14, if_pos h17, if_pos h17]
    rw [if_neg h14, if_neg h14, if_neg h17, if_neg h17, if_pos (by omega), if_pos (by omega)]
def keptAt (l : List Fo) (A B : Nat → Bool) (i : Nat) : Prop := aheadP (kindAt l i) → A i = lawB (kindAt l i) (A (i + 1)) (A (second l i)) (B i) (B (i + 1))
instance (l : List Fo) (A B : Nat → Bool) (i : Nat) : Decidable (keptAt l A B i) := by unfold keptAt; infer_instance
def kept (l : List Fo) (A B : Nat → Bool) : Prop := ∀ i, i < l.length → keptAt l A B i
instance (l : List Fo) (A B : Nat → Bool) : Decidable (kept l A B) := by unfold kept; infer_instance
def followsOf (l : List Fo) (x : List Bool) (c : Int) (y : List Bool) (d : Int) : Bool × Int :=
  if x.length ≠ y.length then (false, 1)
  else if (truthsOf l x c).2 ≠ 0 then (false, (truthsOf l x c).2)
  else if (truthsOf l y d).2 ≠ 0 then (false, (truthsOf l y d).2)
  else (decide (kept l (tAt l x c) (tAt l y d)), 0)
structure TV (l : List Fo) (a : List Bool) (A : Nat → Bool) : Prop where
  len : a.length = l.length
  get : ∀ (i : Nat) (h : i < a.length), a[i] = A i
theorem truthsOf_ok {l : List Fo} {x : List Bool} {c : Int} {a : List Bool} (h : truthsOf l x c = (a, 0)) : GoodF l x.length ∧ TV l a (tAt l x c) := by
  unfold truthsOf at h
  by_cases h1 : (aheadsOf l x.length).2 ≠ 0
  · rw [if_pos h1] at h; simp at h; exact absurd h.2 h1
  rw [if_neg h1] at h
  by_cases h2 : c < 0 ∨ 2 ^ (aheadsOf l x.length).1.length ≤ c
  · rw [if_pos h2] at h; simp at h
  rw [if_neg h2] at h
  simp only [Prod.mk.injEq, and_true] at h
  subst h
  have := aheadsOf_ok (l := l) (p := x.length) (ps := (aheadsOf l x.length).1) (Prod.ext rfl (by simpa using h1))
  exact ⟨good_of this.1, by simp, fun i hi => by simp⟩
end Go.Sp
namespace Go.Sp
open Go Go.Av
set_option linter.unusedVariables false
set_option linter.unusedSimpArgs false

noncomputable def folB (t : Tk) (st cl c : Int) (d : Int) : Bool := decide (kept t.formula (tAt t.formula (lettF t st) cl) (tAt t.formula (lettF t c) d))
theorem follows_ok {t : Tk} (h : taskF t = 0) {st cl c d : Int} (h0 : 0 ≤ cl) (h1 : cl < claimsF t) (h2 : 0 ≤ d) (h3 : d < claimsF t) : followsOf t.formula (lettF t st) cl (lettF t c) d = (folB t st cl c d, 0) := by
  have e1 := truths_ok h (lettF t st) (lettF_len t st) h0 h1
  have e2 := truths_ok h (lettF t c) (lettF_len t c) h2 h3
  unfold followsOf
  rw [if_neg (by simp), e1, e2, if_neg (by simp), if_neg (by simp)]
  rfl
noncomputable def folL (t : Tk) (st cl c : Int) (k : Nat) : List Fo := ((List.range k).filter fun d : Nat => folB t st cl c d).map fun d : Nat => ⟨c, d⟩
theorem folL_yes {t : Tk} {st cl c : Int} {k : Nat} (h : folB t st cl c k = true) : folL t st cl c (k + 1) = folL t st cl c k ++ [⟨c, k⟩] := by
  unfold folL
  rw [List.range_succ, List.filter_append, List.map_append]
  simp [h]
theorem folL_no {t : Tk} {st cl c : Int} {k : Nat} (h : folB t st cl c k = false) : folL t st cl c (k + 1) = folL t st cl c k := by
  unfold folL
  rw [List.range_succ, List.filter_append, List.map_append]
  simp [h]
theorem folL_len (t : Tk) (st cl c : Int) (k : Nat) : (folL t st cl c k).length ≤ k := by
  unfold folL
  rw [List.length_map]
  exact Nat.le_trans (List.length_filter_le _ _) (by simp)
noncomputable def behL (t : Tk) (st cl : Int) (cs : List Int) : List Fo := cs.flatMap fun c => folL t st cl c (claimsF t)
theorem behL_succ (t : Tk) (st cl : Int) (cs : List Int) (i : Nat) (h : i < cs.length) : behL t st cl (cs.take (i + 1)) = behL t st cl (cs.take i) ++ folL t st cl cs[i] (claimsF t) := by
  unfold behL
  rw [List.take_succ_eq_append_getElem h, List.flatMap_append]
  simp
theorem behL_len (t : Tk) (st cl : Int) : ∀ cs : List Int, (behL t st cl cs).length ≤ cs.length * 64
  | [] => by simp [behL]
  | c :: cs => by
    have ih := behL_len t st cl cs
    have h1 := folL_len t st cl c (claimsF t)
    have h2 := (claims_few t).2
    have e : behL t st cl (c :: cs) = folL t st cl c (claimsF t) ++ behL t st cl cs := by simp [behL]
    rw [e, List.length_append, List.length_cons]
    omega
noncomputable def behindF (t : Tk) (st cl : Int) : List Fo × Int :=
  if taskF t ≠ 0 then ([], taskF t)
  else if ¬ ((0 ≤ st ∧ st < prodV t.model.vars) ∧ 0 ≤ cl ∧ cl < claimsF t) then ([], 9)
  else (behL t st cl (nextF t.model st).1, 0)
theorem nextF_len {m : Md} (hm : modelF m = 0) (c : Int) : (nextF m c).1.length ≤ 4096 := by
  by_cases h : (valsF m c).2 ≠ 0
  · rw [nextF_err h]; exact Nat.zero_le _
  · rw [nextF_ok (Decidable.not_not.1 h)]
    obtain ⟨n, hn, n1, n2⟩ := states_nat hm
    dsimp only
    split
    · simp
    · rw [hn, Int.toNat_natCast]; exact Nat.le_trans (upTo_len _ _) n2
end Go.Sp
namespace Go.Av
open Go
set_option linter.unusedVariables false
set_option linter.unusedSimpArgs false

section
variable {k : Kx} {Q : Exit → Env → H → Prop} {ρ : Env} {h : H} {ops : Array Oper} {l : List Oper} {d : Nat} {ty : TypeId} {pos : String} {after : Array Edge}
theorem jeq_nil {α : Type} {f : α → List D} {xs : List α} {T T' E : TypeId} {x y : Operand} {sz eb : Nat} (hx : evO ρ x = some (.d (.l sz eb (xs.map f)))) (hy : evO ρ y = some (.val (.slice none 0 0))) (hT : k.P.underlying T = some (.slice E)) (hd : Nat.blt d k.n = true)
    (hj : Two (Imp (xs = []) (JL k ops l Q ((d, .bool true) :: ρ) h)) (JL k ops l Q ((d, .bool false) :: ρ) h)) : JL k ops (⟨some d, .binOp .eql T x y T', ty, pos, after, none⟩ :: l) Q ρ h := by
  refine JL_eff rfl (fun t ht => by cases ht; exact blt hd) fun I a w h1 h2 => ?_
  have ex : Rel w I (.l sz eb (xs.map f)) (a.eval x) := by have := h2.ev x; rw [ev_of_evO hx] at this; exact this
  have ey : a.eval y = .slice none 0 0 := rel_val (h2.ev y) (ev_of_evO hy)
  have key : ∀ (ad : Option Addr) (n c : Nat), a.eval x = .slice ad n c → (execOp a.eval ⟨some d, .binOp .eql T x y T', ty, pos, after, none⟩).run k.P w = .ok (.value (.bool ad.isNone)) w := by
    intro ad n c e
    have r : (binOp .eql T (.slice ad n c) (.slice none 0 0)).run k.P w = .ok (.bool ad.isNone) w := by
      simp only [binOp]
      simp [run_equal_slice_nil w T E ad n c hT]
    simp [execOp, e, ey, eqGuard_at_slice, r]
  have go : ∀ b, (b = true → xs = []) → JL k ops l Q (put ρ (some d) (.bool b)) h := by
    intro b hb
    cases b with
    | true => exact hj.1.get (hb rfl)
    | false => exact hj.2
  generalize hR : xs.map f = R at ex
  generalize hv : a.eval x = v at ex key
  cases ex with
  | nil => exact ⟨_, w, I, .bool true, h, key _ _ _ rfl, h1, h2, rfl, go true fun _ => List.map_eq_nil_iff.1 hR⟩
  | emp => exact ⟨_, w, I, .bool false, h, key _ _ _ rfl, h1, h2, rfl, go false fun h => (by cases h)⟩
  | l => exact ⟨_, w, I, .bool false, h, key _ _ _ rfl, h1, h2, rfl, go false fun h => (by cases h)⟩
end
end Go.Av
namespace Go.Proofs.YtmamiihpghnmmaaGreatDoor
open Go Go.Av Go.Sp
set_option linter.unusedVariables false
set_option linter.unusedSimpArgs false
set_option maxRecDepth 100000
set_option maxHeartbeats 4000000
theorem cal_CloneI : Cal Tryz.prog 145 := Cal.of Tryz.func145 (by kernel_rfl) (by kernel_rfl)
theorem cal_after : Cal Tryz.prog 103 := Cal.of Tryz.func103 (by kernel_rfl) (by kernel_rfl)
theorem cal_AfterRule : Cal Tryz.prog 75 := Cal.of Tryz.func75 (by kernel_rfl) (by kernel_rfl)
theorem CloneI (G : List (Nat × List D)) (xs : List Int) : AC Tryz.prog G 145 [.d (intsD xs)] [] fun r h => ∃ q : Sl, r = .ret (.val q.v) ∧ h = [rowE q.v 3 1 intC xs] := by
  refine AC_ofV (ts := [2]) Tryz.f145.ntmps Tryz.func145 rfl rfl rfl (by simp [Tryz.ntmps145]) fun W I => ?_
  refine jfact (t := 0) rfl fun hl => ?_
  all_goals haveI fA_ : FlagA := ⟨⟩
  repeat' (first
    | ((with_reducible apply jeq_nil); (focus rfl); (focus rfl); (focus rfl); (focus rfl))
    | ((with_reducible apply (jbuild0S intC)); (focus rfl); (focus (with_reducible exact ElC.h)); (focus rfl))
    | exact True.intro
    | refine stp ?_
    | refine two ?_ ?_
    | (refine imp fun hc => ?_) <;> try (first | contradiction | (exfalso; omega))
    | refine all fun v_ => ?_)
  all_goals clear fA_
  · subst hc
    refine retv (VS.nilrow 3 1) ?_
    ((with_reducible apply rq1); rfl; rfl)
    exact ⟨Sl.nil, rfl, rfl⟩
  · refine retv0 ?_
    ((with_reducible apply rq1); rfl; rfl)
    exact ⟨v_, rfl, rfl⟩
theorem after (m : Md) (hm : modelF m = 0) (r : Ru) (hr : r ∈ m.rules) (vs : List Int) (g : InV m vs) : ACr Tryz.prog GP 103 [mdA m, ruA r, .d (intsD vs)] (.tup [.d (intsD ((afterF m r vs).getD [])), .bool (afterF m r vs).isSome]) := by
  have gr := goodR hm hr
  have hl6 := varsF_len (modelF_vars hm)
  have hln := g.len
  have hfew := gr.few
  have hG := Eval r.guard vs
  refine AC_ofV (ts := [6, 7]) Tryz.f103.ntmps Tryz.func103 rfl rfl rfl (by simp [Tryz.ntmps103]) fun W I => ?_
  have hb := evalF_bit (l := r.guard) (vs := vs) (by rw [hln]; exact gr.guard) (g.lim hm)
  by_cases h0 : evalF r.guard vs ≠ (1, 0)
  · rw [afterF_guard h0]
    rcases hb with hb | hb | hb
    · rw [hb] at hG
      dsimp only at hG
      all_goals haveI fA_ : FlagA := ⟨⟩
      all_goals haveI fH_ : FlagH := ⟨⟩
      repeat' (first
        | ((with_reducible apply call0); (focus rfl); (focus exact cal_Eval); (focus exact hG); (focus rfl))
        | ((with_reducible apply je_call0); (focus rfl); (focus (decide +kernel)); (focus rfl); (focus exact cal_Eval); (focus exact hG); (focus rfl))
        | exact True.intro
        | refine stp ?_
        | refine two ?_ ?_
        | refine allc fun c_ => ?_
        | (refine imp fun hc => ?_) <;> try (first | contradiction | (exfalso; omega) | (exfalso; exact absurd (of_dT hc) (by assumption)) | (exfalso; exact of_dF hc (by assumption)))
        | refine all fun v_ => ?_)
      all_goals clear fA_ fH_
      refine retv (VS.trans (VS.drop (List.nil_sublist _)) (vnil (t := 6) 1 8 rfl)) ?_
      ((with_reducible apply rq2); rfl; rfl; rfl)
      exact ret_eq rfl
    · rw [hb] at hG
      dsimp only at hG
      all_goals haveI fA_ : FlagA := ⟨⟩
      all_goals haveI fH_ : FlagH := ⟨⟩
      repeat' (first
        | ((with_reducible apply call0); (focus rfl); (focus exact cal_Eval); (focus exact hG); (focus rfl))
        | ((with_reducible apply je_call0); (focus rfl); (focus (decide +kernel)); (focus rfl); (focus exact cal_Eval); (focus exact hG); (focus rfl))
        | exact True.intro
        | refine stp ?_
        | refine two ?_ ?_
        | refine allc fun c_ => ?_
        | (refine imp fun hc => ?_) <;> try (first | contradiction | (exfalso; omega) | (exfalso; exact absurd (of_dT hc) (by assumption)) | (exfalso; exact of_dF hc (by assumption)))
        | refine all fun v_ => ?_)
      all_goals clear fA_ fH_
      refine retv (VS.trans (VS.drop (List.nil_sublist _)) (vnil (t := 6) 1 8 rfl)) ?_
      ((with_reducible apply rq2); rfl; rfl; rfl)
      exact ret_eq rfl
    · exact absurd hb h0
  replace h0 := Decidable.not_not.1 h0
  rw [h0] at hG
  dsimp only at hG
  all_goals haveI fA_ : FlagA := ⟨⟩
  all_goals haveI fH_ : FlagH := ⟨⟩
  repeat' (first
    | ((with_reducible apply call0); (focus rfl); (focus exact cal_Eval); (focus exact hG); (focus rfl))
    | ((with_reducible apply je_call0); (focus rfl); (focus (decide +kernel)); (focus rfl); (focus exact cal_Eval); (focus exact hG); (focus rfl))
    | ((with_reducible apply callE1); (focus rfl); (focus exact cal_CloneI); (focus exact CloneI _ _); (focus rfl))
    | ((with_reducible apply je_callE); (focus rfl); (focus (decide +kernel)); (focus rfl); (focus exact cal_CloneI); (focus exact CloneI _ _); (focus rfl))
    | exact True.intro
    | refine stp ?_
    | refine two ?_ ?_
    | refine allc fun c_ => ?_
    | (refine imp fun hc => ?_) <;> try (first | contradiction | (exfalso; omega) | (exfalso; exact absurd (of_dT hc) (by assumption)) | (exfalso; exact of_dF hc (by assumption)))
    | refine all fun v_ => ?_)
  all_goals clear fA_ fH_
  rename_i bm br _
  refine J_loopV (X := Nat) (fun i => [(2, .d (intsD vs)), (3, .val (.pointer (some ⟨bm, 0, none⟩))), (10, .val v_.v), (32, .d (setsD r.sets)), (33, .int r.sets.length), (34, .int i)]) (fun i => [rowE v_.v 3 1 intC (setAll vs (r.sets.take i) vs), .cells bm 25 [.d (varsD m.vars), .d (rulesD m.rules)]]) (fun i => i ≤ r.sets.length ∧ ∀ s ∈ r.sets.take i, setOk m vs s) (fun i => r.sets.length - i) 0 ⟨Nat.zero_le _, fun s hs => (by cases hs)⟩ (VS.take (by ((repeat (first | exact Take.nil | ((with_reducible apply Take.cons); (focus ((repeat (first | exact Sel.here | with_reducible apply Sel.there)); done))))); done)) ?_) ?_
  · repeat (first
      | exact Env.le_nil _
      | refine Env.le_cons (AV.le_refl _) ?_
      | refine Env.le_cons (AV.le_int rfl (by first | rfl | omega | (dsimp only; omega))) ?_)
  rintro i ⟨hi, hok⟩
  have hsl := setAll_length vs (r.sets.take i) vs
  by_cases hil : i < r.sets.length
  · have hs := List.getElem_mem hil
    obtain ⟨a1, a2, a3⟩ := gr.sets _ hs
    have a4 : r.sets[i].var.toNat < m.vars.length := by omega
    have hE := Eval r.sets[i].val vs
    have hx := fun n e (he : evalF r.sets[i].val vs = (n, e)) => setOk_iff (m := m) (vs := vs) (s := r.sets[i]) (n := n) (e := e) he (by omega)
    have hn := setAll_succ vs r.sets i hil
    generalize evalF r.sets[i].val vs = p at hE hx hn
    obtain ⟨n, e⟩ := p
    have hx := hx n e rfl
    dsimp only at hE hn
    by_cases hgood : setOk m vs r.sets[i]
    · have hx := hx.1 hgood
      obtain ⟨rfl, x1, x2⟩ := hx
      all_goals haveI fA_ : FlagA := ⟨⟩
      all_goals haveI fH_ : FlagH := ⟨⟩
      repeat' (first
        | ((with_reducible apply call0); (focus rfl); (focus exact cal_Eval); (focus exact hE); (focus rfl))
        | ((with_reducible apply je_call0); (focus rfl); (focus (decide +kernel)); (focus rfl); (focus exact cal_Eval); (focus exact hE); (focus rfl))
        | exact True.intro
        | refine stp ?_
        | refine two ?_ ?_
        | refine allc fun c_ => ?_
        | (refine imp fun hc => ?_) <;> try (first | contradiction | (exfalso; omega) | (exfalso; exact absurd (of_dT hc) (by assumption)) | (exfalso; exact of_dF hc (by assumption)))
        | refine all fun v_ => ?_)
      all_goals clear fA_ fH_
      refine ⟨i + 1, ⟨by omega, fun s h => ?_⟩, by omega, ?_⟩
      · rw [List.take_succ_eq_append_getElem hil] at h
        rcases List.mem_append.1 h with h | h
        · exact hok s h
        · rw [List.mem_singleton.1 h]; exact hgood
      · rw [hn]
        refine VS.take (by ((repeat (first | exact Take.nil | ((with_reducible apply Take.cons); (focus ((repeat (first | exact Sel.here | with_reducible apply Sel.there)); done))))); done)) ?_
        repeat (first
          | exact Env.le_nil _
          | refine Env.le_cons (AV.le_refl _) ?_
          | refine Env.le_cons (AV.le_int rfl (by first | rfl | omega | (dsimp only; omega))) ?_)
    · rw [afterF_set hs hgood]
      by_cases x0 : e ≠ 0
      · all_goals haveI fA_ : FlagA := ⟨⟩
        all_goals haveI fH_ : FlagH := ⟨⟩
        repeat' (first
          | ((with_reducible apply call0); (focus rfl); (focus exact cal_Eval); (focus exact hE); (focus rfl))
          | ((with_reducible apply je_call0); (focus rfl); (focus (decide +kernel)); (focus rfl); (focus exact cal_Eval); (focus exact hE); (focus rfl))
          | exact True.intro
          | refine stp ?_
          | refine two ?_ ?_
          | refine allc fun c_ => ?_
          | (refine imp fun hc => ?_) <;> try (first | contradiction | (exfalso; omega) | (exfalso; exact absurd (of_dT hc) (by assumption)) | (exfalso; exact of_dF hc (by assumption)))
          | refine all fun v_ => ?_)
        all_goals clear fA_ fH_
        refine retv (VS.trans (VS.drop (List.nil_sublist _)) (vnil (t := 6) 1 8 rfl)) ?_
        ((with_reducible apply rq2); rfl; rfl; rfl)
        exact ret_eq rfl
      replace x0 := Decidable.not_not.1 x0
      subst x0
      by_cases x1 : n < m.vars[r.sets[i].var.toNat].low
      · all_goals haveI fA_ : FlagA := ⟨⟩
        all_goals haveI fH_ : FlagH := ⟨⟩
        repeat' (first
          | ((with_reducible apply call0); (focus rfl); (focus exact cal_Eval); (focus exact hE); (focus rfl))
          | ((with_reducible apply je_call0); (focus rfl); (focus (decide +kernel)); (focus rfl); (focus exact cal_Eval); (focus exact hE); (focus rfl))
          | exact True.intro
          | refine stp ?_
          | refine two ?_ ?_
          | refine allc fun c_ => ?_
          | (refine imp fun hc => ?_) <;> try (first | contradiction | (exfalso; omega) | (exfalso; exact absurd (of_dT hc) (by assumption)) | (exfalso; exact of_dF hc (by assumption)))
          | refine all fun v_ => ?_)
        all_goals clear fA_ fH_
        refine retv (VS.trans (VS.drop (List.nil_sublist _)) (vnil (t := 6) 1 8 rfl)) ?_
        ((with_reducible apply rq2); rfl; rfl; rfl)
        exact ret_eq rfl
      by_cases x2 : m.vars[r.sets[i].var.toNat].high < n
      · all_goals haveI fA_ : FlagA := ⟨⟩
        all_goals haveI fH_ : FlagH := ⟨⟩
        repeat' (first
          | ((with_reducible apply call0); (focus rfl); (focus exact cal_Eval); (focus exact hE); (focus rfl))
          | ((with_reducible apply je_call0); (focus rfl); (focus (decide +kernel)); (focus rfl); (focus exact cal_Eval); (focus exact hE); (focus rfl))
          | exact True.intro
          | refine stp ?_
          | refine two ?_ ?_
          | refine allc fun c_ => ?_
          | (refine imp fun hc => ?_) <;> try (first | contradiction | (exfalso; omega) | (exfalso; exact absurd (of_dT hc) (by assumption)) | (exfalso; exact of_dF hc (by assumption)))
          | refine all fun v_ => ?_)
        all_goals clear fA_ fH_
        refine retv (VS.trans (VS.drop (List.nil_sublist _)) (vnil (t := 6) 1 8 rfl)) ?_
        ((with_reducible apply rq2); rfl; rfl; rfl)
        exact ret_eq rfl
      exact absurd (hx.2 ⟨rfl, by omega, by omega⟩) hgood
  obtain rfl : i = r.sets.length := by omega
  rw [List.take_length] at hok hsl ⊢
  rw [afterF_some h0 hok]
  all_goals haveI fA_ : FlagA := ⟨⟩
  all_goals haveI fH_ : FlagH := ⟨⟩
  repeat' (first
    | exact True.intro
    | refine stp ?_
    | refine two ?_ ?_
    | refine allc fun c_ => ?_
    | (refine imp fun hc => ?_) <;> try (first | contradiction | (exfalso; omega) | (exfalso; exact absurd (of_dT hc) (by assumption)) | (exfalso; exact of_dF hc (by assumption)))
    | refine all fun v_ => ?_)
  all_goals clear fA_ fH_
  refine retv (VS.trans (vfreeze (t := 6) (eb := 8) rfl rfl (fun x => rfl) (by omega)) (VS.drop (List.nil_sublist _))) ?_
  ((with_reducible apply rq2); rfl; rfl; rfl)
  exact ret_eq rfl
end Go.Proofs.YtmamiihpghnmmaaGreatDoor
namespace Go.Proofs
open Go.Shelf
set_option linter.unusedVariables false
set_option linter.unusedSimpArgs false
def Tryz.lays189_ren : Go.Shelf.Ren := ⟨fun | 189 => 105 | 125 => 147 | 257 => 146 | 128 => 170 | 129 => 171 | 294 => 161 | 295 => 162 | 296 => 163 | 297 => 164 | 298 => 165 | 299 => 166 | 216 => 167 | 300 => 168 | 301 => 169 | 328 => 181 | 329 => 182 | 330 => 183 | 331 => 184 | 332 => 185 | 215 => 186 | 343 => 187 | n => n, fun | 28 => 39 | 3 => 3 | 46 => 175 | 0 => 0 | 51 => 199 | 53 => 201 | 4 => 4 | 183 => 192 | 182 => 191 | 131 => 85 | 5 => 5 | 9 => 9 | 218 => 209 | 222 => 213 | 228 => 215 | 229 => 216 | n => n, fun | n => n⟩
theorem Tryz.lays189 : Go.Proofs.Lays.n189 Tryz.prog Tryz.lays189_ren := {
  mixed := by kernel_rfl
  f125 := Tryz.func147.trans (congrArg some (by kernel_rfl))
  f128 := Tryz.func170.trans (congrArg some (by kernel_rfl))
  f129 := Tryz.func171.trans (congrArg some (by kernel_rfl))
  f189 := Tryz.func105.trans (congrArg some (by kernel_rfl))
  f215 := Tryz.func186.trans (congrArg some (by kernel_rfl))
  f216 := Tryz.func167.trans (congrArg some (by kernel_rfl))
  f257 := Tryz.func146.trans (congrArg some (by kernel_rfl))
  f294 := Tryz.func161.trans (congrArg some (by kernel_rfl))
  f295 := Tryz.func162.trans (congrArg some (by kernel_rfl))
  f296 := Tryz.func163.trans (congrArg some (by kernel_rfl))
  f297 := Tryz.func164.trans (congrArg some (by kernel_rfl))
  f298 := Tryz.func165.trans (congrArg some (by kernel_rfl))
  f299 := Tryz.func166.trans (congrArg some (by kernel_rfl))
  f300 := Tryz.func168.trans (congrArg some (by kernel_rfl))
  f301 := Tryz.func169.trans (congrArg some (by kernel_rfl))
  f328 := Tryz.func181.trans (congrArg some (by kernel_rfl))
  f329 := Tryz.func182.trans (congrArg some (by kernel_rfl))
  f330 := Tryz.func183.trans (congrArg some (by kernel_rfl))
  f331 := Tryz.func184.trans (congrArg some (by kernel_rfl))
  f332 := Tryz.func185.trans (congrArg some (by kernel_rfl))
  f343 := Tryz.func187.trans (congrArg some (by kernel_rfl))
  t0 := Tryz.underlying0
  a0 := Tryz.isAgg0
  z0 := Tryz.sizeOf0
  v0 := Tryz.zeroValue0
  t3 := Tryz.underlying3
  a3 := Tryz.isAgg3
  z3 := Tryz.sizeOf3
  v3 := Tryz.zeroValue3
  t4 := Tryz.underlying4
  a4 := Tryz.isAgg4
  z4 := Tryz.sizeOf4
  v4 := Tryz.zeroValue4
  t5 := Tryz.underlying5
  a5 := Tryz.isAgg5
  z5 := Tryz.sizeOf5
  v5 := Tryz.zeroValue5
  t9 := Tryz.underlying9
  a9 := Tryz.isAgg9
  z9 := Tryz.sizeOf9
  v9 := Tryz.zeroValue9
  t28 := Tryz.underlying39
  a28 := Tryz.isAgg39
  z28 := Tryz.sizeOf39
  v28 := Tryz.zeroValue39
  t46 := Tryz.underlying175
  a46 := Tryz.isAgg175
  z46 := Tryz.sizeOf175
  v46 := Tryz.zeroValue175
  t51 := Tryz.underlying199
  a51 := Tryz.isAgg199
  z51 := Tryz.sizeOf199
  v51 := Tryz.zeroValue199
  t53 := Tryz.underlying201
  a53 := Tryz.isAgg201
  z53 := Tryz.sizeOf201
  v53 := Tryz.zeroValue201
  t131 := Tryz.underlying85
  a131 := Tryz.isAgg85
  z131 := Tryz.sizeOf85
  v131 := Tryz.zeroValue85
  t182 := Tryz.underlying191
  a182 := Tryz.isAgg191
  z182 := Tryz.sizeOf191
  v182 := Tryz.zeroValue191
  t183 := Tryz.underlying192
  a183 := Tryz.isAgg192
  z183 := Tryz.sizeOf192
  v183 := Tryz.zeroValue192
  t218 := Tryz.underlying209
  a218 := Tryz.isAgg209
  z218 := Tryz.sizeOf209
  v218 := Tryz.zeroValue209
  t222 := Tryz.underlying213
  a222 := Tryz.isAgg213
  z222 := Tryz.sizeOf213
  v222 := Tryz.zeroValue213
  t228 := Tryz.underlying215
  a228 := Tryz.isAgg215
  z228 := Tryz.sizeOf215
  v228 := Tryz.zeroValue215
  t229 := Tryz.underlying216
  a229 := Tryz.isAgg216
  z229 := Tryz.sizeOf216
  v229 := Tryz.zeroValue216 }
def Tryz.lays20_ren : Go.Shelf.Ren := ⟨fun | 20 => 106 | n => n, fun | 22 => 39 | 3 => 3 | 4 => 4 | 0 => 0 | n => n, fun | n => n⟩
theorem Tryz.lays20 : Go.Proofs.Lays2.n20 Tryz.prog Tryz.lays20_ren := {
  mixed := by kernel_rfl
  f20 := Tryz.func106.trans (congrArg some (by kernel_rfl))
  t0 := Tryz.underlying0
  a0 := Tryz.isAgg0
  z0 := Tryz.sizeOf0
  v0 := Tryz.zeroValue0
  t3 := Tryz.underlying3
  a3 := Tryz.isAgg3
  z3 := Tryz.sizeOf3
  v3 := Tryz.zeroValue3
  t4 := Tryz.underlying4
  a4 := Tryz.isAgg4
  z4 := Tryz.sizeOf4
  v4 := Tryz.zeroValue4
  t22 := Tryz.underlying39
  a22 := Tryz.isAgg39
  z22 := Tryz.sizeOf39
  v22 := Tryz.zeroValue39
  i3 := by kernel_rfl }
end Go.Proofs
namespace Go.Proofs.YtmamiihpghnmmaaGreatDoor
open Go Go.Av Go.Sp
set_option linter.unusedVariables false
set_option linter.unusedSimpArgs false
set_option maxRecDepth 100000
set_option maxHeartbeats 4000000
theorem cal_SortI : Cal Tryz.prog 105 := Cal.of Tryz.func105 (by kernel_rfl) (by kernel_rfl)
theorem cal_CompactI : Cal Tryz.prog 106 := Cal.of Tryz.func106 (by kernel_rfl) (by kernel_rfl)
theorem cal_IndexI : Cal Tryz.prog 120 := Cal.of Tryz.func120 (by kernel_rfl) (by kernel_rfl)
theorem cal_ContainsI : Cal Tryz.prog 81 := Cal.of Tryz.func81 (by kernel_rfl) (by kernel_rfl)
theorem SortI (G : List (Nat × List D)) (q : Sl) (xs : List Int) (hb : xs.length < 4611686018427387904) : AC Tryz.prog G 105 [.val q.v] [rowE q.v 3 1 intC xs] fun e h => e = .ret (.tup []) ∧ h = [rowE q.v 3 1 intC (sortI xs)] :=
  AC_sortI q xs hb (fun blk cap zs w h1 h2 h3 => Any.slices_Sort_int Tryz.lays189 blk 0 cap zs w h1 h2 h3) fun w => Any.slices_Sort_int_none Tryz.lays189 none 0 w
theorem CompactI (G : List (Nat × List D)) (q : Sl) (xs : List Int) (hb : xs.length ≤ 9223372036854775807) (hk : (Lib.compact xs).length ≤ xs.length) : AC Tryz.prog G 106 [.val q.v] [rowE q.v 3 1 intC xs] fun e h => ∃ q' : Sl, e = .ret (.val q'.v) ∧ h = [rowE q'.v 3 1 intC (Lib.compact xs)] :=
  AC_compactI q xs hb hk (fun blk cap zs w h1 h2 h3 => Any.slices_Compact_int Tryz.lays20 blk 0 cap zs w h1 h2 h3) fun w => Any.slices_Compact_int_empty Tryz.lays20 none 0 w
def indexZ (v : Int) : List Int → Nat → Int
  | [], _ => -1
  | x :: l, i => if v = x then i else indexZ v l (i + 1)
theorem indexZ_at (v : Int) (l : List Int) (i : Nat) (h : i < l.length) : indexZ v (l.drop i) i = if v = l[i] then (i : Int) else indexZ v (l.drop (i + 1)) (i + 1) := by
  rw [List.drop_eq_getElem_cons h, indexZ]
theorem indexZ_end (v : Int) (l : List Int) (i : Nat) (h : l.length ≤ i) : indexZ v (l.drop i) i = -1 := by
  rw [List.drop_of_length_le h, indexZ]
theorem indexZ_in (v : Int) : ∀ (l : List Int) (i : Nat), 0 ≤ indexZ v l i ↔ v ∈ l
  | [], i => by simp [indexZ]
  | x :: l, i => by
    rw [indexZ, List.mem_cons]
    by_cases h : v = x
    · rw [if_pos h]; exact ⟨fun _ => .inl h, fun _ => by omega⟩
    · rw [if_neg h, indexZ_in v l (i + 1)]; exact ⟨.inr, fun k => k.resolve_left h⟩
theorem IndexI (G : List (Nat × List D)) (l : List Int) (v : Int) : ACr Tryz.prog G 120 [.d (intsD l), .int v] (.int (indexZ v l 0)) := by
  refine AC_ofV (ts := [4]) Tryz.f120.ntmps Tryz.func120 rfl rfl rfl (by simp [Tryz.ntmps120]) fun W I => ?_
  refine jfact (t := 0) rfl fun hl => ?_
  all_goals haveI fA_ : FlagA := ⟨⟩
  all_goals haveI fH_ : FlagH := ⟨⟩
  repeat' (first
    | exact True.intro
    | refine stp ?_
    | refine two ?_ ?_
    | refine allc fun c_ => ?_
    | (refine imp fun hc => ?_) <;> try (first | contradiction | (exfalso; omega) | (exfalso; exact absurd (of_dT hc) (by assumption)) | (exfalso; exact of_dF hc (by assumption)))
    | refine all fun v_ => ?_)
  all_goals clear fA_ fH_
  refine J_loopV (X := Nat) (fun i => [(0, .d (intsD l)), (1, .int v), (7, .int l.length), (8, .int i)]) (fun _ => []) (fun i => i ≤ l.length ∧ indexZ v l 0 = indexZ v (l.drop i) i) (fun i => l.length - i) 0 ⟨Nat.zero_le _, rfl⟩ (VS.of_le ?_) ?_
  · repeat (first
      | exact Env.le_nil _
      | refine Env.le_cons (AV.le_refl _) ?_
      | refine Env.le_cons (AV.le_int rfl (by first | rfl | omega | (dsimp only; omega))) ?_)
  rintro i ⟨h1, h2⟩
  by_cases hi : i < l.length
  · rw [indexZ_at v l i hi] at h2
    by_cases hv : v = l[i]
    · rw [if_pos hv] at h2
      all_goals haveI fA_ : FlagA := ⟨⟩
      all_goals haveI fH_ : FlagH := ⟨⟩
      repeat' (first
        | exact True.intro
        | refine stp ?_
        | refine two ?_ ?_
        | refine allc fun c_ => ?_
        | (refine imp fun hc => ?_) <;> try (first | contradiction | (exfalso; omega) | (exfalso; exact absurd (of_dT hc) (by assumption)) | (exfalso; exact of_dF hc (by assumption)))
        | refine all fun v_ => ?_)
      all_goals clear fA_ fH_
      refine retv0 ?_
      ((with_reducible apply rq1); rfl; rfl)
      exact ret_eq (by rw [h2])
    · rw [if_neg hv] at h2
      all_goals haveI fA_ : FlagA := ⟨⟩
      all_goals haveI fH_ : FlagH := ⟨⟩
      repeat' (first
        | exact True.intro
        | refine stp ?_
        | refine two ?_ ?_
        | refine allc fun c_ => ?_
        | (refine imp fun hc => ?_) <;> try (first | contradiction | (exfalso; omega) | (exfalso; exact absurd (of_dT hc) (by assumption)) | (exfalso; exact of_dF hc (by assumption)))
        | refine all fun v_ => ?_)
      all_goals clear fA_ fH_
      refine ⟨i + 1, ⟨by omega, h2⟩, by omega, VS.of_le ?_⟩
      repeat (first
        | exact Env.le_nil _
        | refine Env.le_cons (AV.le_refl _) ?_
        | refine Env.le_cons (AV.le_int rfl (by first | rfl | omega | (dsimp only; omega))) ?_)
  rw [indexZ_end v l i (by omega)] at h2
  all_goals haveI fA_ : FlagA := ⟨⟩
  all_goals haveI fH_ : FlagH := ⟨⟩
  repeat' (first
    | exact True.intro
    | refine stp ?_
    | refine two ?_ ?_
    | refine allc fun c_ => ?_
    | (refine imp fun hc => ?_) <;> try (first | contradiction | (exfalso; omega) | (exfalso; exact absurd (of_dT hc) (by assumption)) | (exfalso; exact of_dF hc (by assumption)))
    | refine all fun v_ => ?_)
  all_goals clear fA_ fH_
  refine retv0 ?_
  ((with_reducible apply rq1); rfl; rfl)
  exact ret_eq (by rw [h2])
theorem ContainsI (G : List (Nat × List D)) (l : List Int) (v : Int) : ACr Tryz.prog G 81 [.d (intsD l), .int v] (.bool (decide (v ∈ l))) := by
  refine AC_ofV (ts := [4]) Tryz.f81.ntmps Tryz.func81 rfl rfl rfl (by simp [Tryz.ntmps81]) fun W I => ?_
  all_goals haveI fA_ : FlagA := ⟨⟩
  all_goals haveI fH_ : FlagH := ⟨⟩
  repeat' (first
    | ((with_reducible apply call0); (focus rfl); (focus exact cal_IndexI); (focus exact IndexI _ _ _); (focus rfl))
    | ((with_reducible apply je_call0); (focus rfl); (focus (decide +kernel)); (focus rfl); (focus exact cal_IndexI); (focus exact IndexI _ _ _); (focus rfl))
    | exact True.intro
    | refine stp ?_
    | refine two ?_ ?_
    | refine allc fun c_ => ?_
    | (refine imp fun hc => ?_) <;> try (first | contradiction | (exfalso; omega) | (exfalso; exact absurd (of_dT hc) (by assumption)) | (exfalso; exact of_dF hc (by assumption)))
    | refine all fun v_ => ?_)
  all_goals clear fA_ fH_
  refine retv0 ?_
  ((with_reducible apply rq1); rfl; rfl)
  refine ret_eq (congrArg AV.bool ?_)
  exact decide_eq_decide.2 (indexZ_in v l 0)
end Go.Proofs.YtmamiihpghnmmaaGreatDoor
namespace Go.Proofs.YtmamiihpghnmmaaGreatDoor
open Go Go.Av Go.Sp
set_option linter.unusedVariables false
set_option linter.unusedSimpArgs false
set_option maxRecDepth 100000
set_option maxHeartbeats 4000000
theorem cal_next : Cal Tryz.prog 64 := Cal.of Tryz.func64 (by kernel_rfl) (by kernel_rfl)
theorem cal_Next : Cal Tryz.prog 25 := Cal.of Tryz.func25 (by kernel_rfl) (by kernel_rfl)
theorem SortU (G : List (Nat × List D)) (q : Sl) (xs : List Int) (hb : xs.length < 4611686018427387904) : AC Tryz.prog G 105 [.val q.v] [rowE q.v 3 1 intC xs] fun e h => ∃ _ : Unit, e = .ret (.tup []) ∧ h = [rowE q.v 3 1 intC (sortI xs)] :=
  (SortI G q xs hb).mono fun _ _ h => ⟨(), h.1, h.2⟩
theorem CompactU (G : List (Nat × List D)) (q : Sl) (xs : List Int) (hb : xs.length ≤ 1000000) : AC Tryz.prog G 106 [.val q.v] [rowE q.v 3 1 intC xs] fun e h => ∃ q' : Sl, e = .ret (.val q'.v) ∧ h = [rowE q'.v 3 1 intC (Lib.compact xs)] :=
  CompactI G q xs (by omega) (compact_len xs _ (Nat.le_refl _))
theorem next (m : Md) (hm : modelF m = 0) (vs : List Int) (g : InV m vs) : AC Tryz.prog GP 64 [mdA m, .d (intsD vs)] [] fun e h => ∃ q : Sl, e = .ret (.val q.v) ∧ h = [rowE q.v 3 1 intC (Lib.compact (sortI (codesL m vs m.rules)))] := by
  have h12 := modelF_few hm
  refine AC_ofV (ts := [4]) Tryz.f64.ntmps Tryz.func64 rfl rfl rfl (by simp [Tryz.ntmps64]) fun W I => ?_
  all_goals haveI fA_ : FlagA := ⟨⟩
  all_goals haveI fH_ : FlagH := ⟨⟩
  repeat' (first
    | exact True.intro
    | refine stp ?_
    | refine two ?_ ?_
    | refine allc fun c_ => ?_
    | (refine imp fun hc => ?_) <;> try (first | contradiction | (exfalso; omega) | (exfalso; exact absurd (of_dT hc) (by assumption)) | (exfalso; exact of_dF hc (by assumption)))
    | refine all fun v_ => ?_)
  all_goals clear fA_ fH_
  obtain ⟨bm, rfl⟩ : ∃ x, x = v_ := ⟨v_, rfl⟩
  refine jrow (E := 3) (sz := 1) intC ?_
  refine J_loopV (X := Nat × Sl) (fun y => [(1, .d (intsD vs)), (2, .val (.pointer (some ⟨bm, 0, none⟩))), (5, .val y.2.v), (13, .d (rulesD m.rules)), (14, .int m.rules.length), (15, .int y.1)]) (fun y => [rowE y.2.v 3 1 intC (codesL m vs (m.rules.take y.1)), .cells bm 25 [.d (varsD m.vars), .d (rulesD m.rules)]]) (fun y => y.1 ≤ m.rules.length) (fun y => m.rules.length - y.1) (0, Sl.nil) (Nat.zero_le _) (VS.take (by ((repeat (first | exact Take.nil | ((with_reducible apply Take.cons); (focus ((repeat (first | exact Sel.here | with_reducible apply Sel.there)); done))))); done)) ?_) ?_
  · repeat (first
      | exact Env.le_nil _
      | refine Env.le_cons (AV.le_refl _) ?_
      | refine Env.le_cons (AV.le_int rfl (by first | rfl | omega | (dsimp only; omega))) ?_)
  rintro ⟨i, q⟩ hi
  dsimp only at hi ⊢
  have hln := codesL_len m vs (m.rules.take i)
  rw [List.length_take] at hln
  by_cases hil : i < m.rules.length
  · have hr := List.getElem_mem hil
    have hA := after m hm _ hr vs g
    cases ho : afterF m m.rules[i] vs with
    | none =>
      have hs := codesL_none hil ho
      rw [ho] at hA
      simp only [Option.getD_none, Option.isSome_none] at hA
      all_goals haveI fA_ : FlagA := ⟨⟩
      all_goals haveI fH_ : FlagH := ⟨⟩
      repeat' (first
        | ((with_reducible apply call0); (focus rfl); (focus exact cal_after); (focus exact hA); (focus rfl))
        | ((with_reducible apply je_call0); (focus rfl); (focus (decide +kernel)); (focus rfl); (focus exact cal_after); (focus exact hA); (focus rfl))
        | exact True.intro
        | refine stp ?_
        | refine two ?_ ?_
        | refine allc fun c_ => ?_
        | (refine imp fun hc => ?_) <;> try (first | contradiction | (exfalso; omega) | (exfalso; exact absurd (of_dT hc) (by assumption)) | (exfalso; exact of_dF hc (by assumption)))
        | refine all fun v_ => ?_)
      all_goals clear fA_ fH_
      refine ⟨(i + 1, q), by dsimp only; omega, by dsimp only; omega, VS.take (by dsimp only; rw [hs]; ((repeat (first | exact Take.nil | ((with_reducible apply Take.cons); (focus ((repeat (first | exact Sel.here | with_reducible apply Sel.there)); done))))); done)) ?_⟩
      repeat (first
        | exact Env.le_nil _
        | refine Env.le_cons (AV.le_refl _) ?_
        | refine Env.le_cons (AV.le_int rfl (by first | rfl | omega | (dsimp only; omega))) ?_)
    | some out =>
      have hs := codesL_some hil ho
      rw [ho] at hA
      simp only [Option.getD_some, Option.isSome_some] at hA
      all_goals haveI fA_ : FlagA := ⟨⟩
      all_goals haveI fH_ : FlagH := ⟨⟩
      repeat' (first
        | ((with_reducible apply call0); (focus rfl); (focus exact cal_after); (focus exact hA); (focus rfl))
        | ((with_reducible apply je_call0); (focus rfl); (focus (decide +kernel)); (focus rfl); (focus exact cal_after); (focus exact hA); (focus rfl))
        | ((with_reducible apply call0); (focus rfl); (focus exact cal_Code); (focus exact Code _ _); (focus rfl))
        | ((with_reducible apply je_call0); (focus rfl); (focus (decide +kernel)); (focus rfl); (focus exact cal_Code); (focus exact Code _ _); (focus rfl))
        | exact True.intro
        | refine stp ?_
        | refine two ?_ ?_
        | refine allc fun c_ => ?_
        | (refine imp fun hc => ?_) <;> try (first | contradiction | (exfalso; omega) | (exfalso; exact absurd (of_dT hc) (by assumption)) | (exfalso; exact of_dF hc (by assumption)))
        | refine all fun v_ => ?_)
      all_goals clear fA_ fH_
      refine ⟨(i + 1, v_), by dsimp only; omega, by dsimp only; omega, VS.take (by dsimp only; rw [hs]; ((repeat (first | exact Take.nil | ((with_reducible apply Take.cons); (focus ((repeat (first | exact Sel.here | with_reducible apply Sel.there)); done))))); done)) ?_⟩
      repeat (first
        | exact Env.le_nil _
        | refine Env.le_cons (AV.le_refl _) ?_
        | refine Env.le_cons (AV.le_int rfl (by first | rfl | omega | (dsimp only; omega))) ?_)
  obtain rfl : i = m.rules.length := by omega
  rw [List.take_length] at hln ⊢
  generalize codesL m vs m.rules = cs at hln ⊢
  have hsl := sortI_length cs
  all_goals haveI fA_ : FlagA := ⟨⟩
  all_goals haveI fH_ : FlagH := ⟨⟩
  repeat' (first
    | ((with_reducible apply callG); (focus rfl); (focus exact cal_SortI); (focus exact SortU GP q cs (by omega)); (focus ((repeat (first | with_reducible exact Take.nil | ((with_reducible apply Take.cons); (focus ((repeat (first | with_reducible exact Sel.here | with_reducible apply Sel.there)); done))))); done)); (focus rfl); (focus (intro v_; (repeat (first | exact App.nil | apply App.cons)); done)))
    | ((with_reducible apply callG); (focus rfl); (focus exact cal_CompactI); (focus exact CompactU GP q (sortI cs) (by omega)); (focus ((repeat (first | with_reducible exact Take.nil | ((with_reducible apply Take.cons); (focus ((repeat (first | with_reducible exact Sel.here | with_reducible apply Sel.there)); done))))); done)); (focus rfl); (focus (intro v_; (repeat (first | exact App.nil | apply App.cons)); done)))
    | exact True.intro
    | refine stp ?_
    | refine two ?_ ?_
    | refine allc fun c_ => ?_
    | (refine imp fun hc => ?_) <;> try (first | contradiction | (exfalso; omega) | (exfalso; exact absurd (of_dT hc) (by assumption)) | (exfalso; exact of_dF hc (by assumption)))
    | refine all fun v_ => ?_)
  all_goals clear fA_ fH_
  refine retv (VS.drop (h' := [rowE v_.v 3 1 intC (Lib.compact (sortI cs))]) (by (repeat (first | exact List.nil_sublist _ | (with_reducible apply List.Sublist.cons_cons) | apply List.Sublist.cons)))) ?_
  ((with_reducible apply rq1); rfl; rfl)
  exact ⟨v_, rfl, rfl⟩
theorem Next (m : Md) (code : Int) : ACr Tryz.prog GP 25 [mdA m, .int code] (.tup [.d (intsD (nextF m code).1), .int (nextF m code).2]) := by
  have hV := Values m code
  refine AC_ofV (ts := [4, 5]) Tryz.f25.ntmps Tryz.func25 rfl rfl rfl (by simp [Tryz.ntmps25]) fun W I => ?_
  by_cases h1 : (valsF m code).2 ≠ 0
  · rw [nextF_err h1]
    all_goals haveI fA_ : FlagA := ⟨⟩
    all_goals haveI fH_ : FlagH := ⟨⟩
    repeat' (first
      | ((with_reducible apply call0); (focus rfl); (focus exact cal_Values); (focus exact hV); (focus rfl))
      | ((with_reducible apply je_call0); (focus rfl); (focus (decide +kernel)); (focus rfl); (focus exact cal_Values); (focus exact hV); (focus rfl))
      | exact True.intro
      | refine stp ?_
      | refine two ?_ ?_
      | refine allc fun c_ => ?_
      | (refine imp fun hc => ?_) <;> try (first | contradiction | (exfalso; omega) | (exfalso; exact absurd (of_dT hc) (by assumption)) | (exfalso; exact of_dF hc (by assumption)))
      | refine all fun v_ => ?_)
    all_goals clear fA_ fH_
    refine retv (VS.trans (VS.drop (List.nil_sublist _)) (vnil (t := 4) 1 8 rfl)) ?_
    ((with_reducible apply rq2); rfl; rfl; rfl)
    exact ret_eq rfl
  rw [nextF_ok (Decidable.not_not.1 h1)]
  obtain ⟨hm, c0, c1, hF⟩ := valsF_ok (Decidable.not_not.1 h1)
  have g := InV.vals hm c0 c1
  rw [hF] at hV
  dsimp only at hV
  clear h1
  have hN := next m hm _ g
  have hr := codesL_range hm g
  obtain ⟨n, hn, n1, n2⟩ := states_nat hm
  rw [hn] at hr ⊢
  rw [compact_sort n _ hr] at hN
  generalize codesL m (valsT m.vars code) m.rules = cs at hN hr ⊢
  have hul := upTo_len n cs
  rw [Int.toNat_natCast]
  by_cases hcs : cs = []
  · subst hcs
    rw [upTo_nil] at hN hul
    rw [if_pos rfl]
    all_goals haveI fA_ : FlagA := ⟨⟩
    all_goals haveI fH_ : FlagH := ⟨⟩
    repeat' (first
      | ((with_reducible apply call0); (focus rfl); (focus exact cal_Values); (focus exact hV); (focus rfl))
      | ((with_reducible apply je_call0); (focus rfl); (focus (decide +kernel)); (focus rfl); (focus exact cal_Values); (focus exact hV); (focus rfl))
      | ((with_reducible apply callE1); (focus rfl); (focus exact cal_next); (focus exact hN); (focus rfl))
      | ((with_reducible apply je_callE); (focus rfl); (focus (decide +kernel)); (focus rfl); (focus exact cal_next); (focus exact hN); (focus rfl))
      | exact True.intro
      | refine stp ?_
      | refine two ?_ ?_
      | refine allc fun c_ => ?_
      | (refine imp fun hc => ?_) <;> try (first | contradiction | (exfalso; omega) | (exfalso; exact absurd (of_dT hc) (by assumption)) | (exfalso; exact of_dF hc (by assumption)))
      | refine all fun v_ => ?_)
    all_goals clear fA_ fH_
    refine retv (VS.trans (vfreeze (t := 4) (eb := 8) rfl rfl (fun x => rfl) (by simp)) (VS.drop (List.nil_sublist _))) ?_
    ((with_reducible apply rq2); rfl; rfl; rfl)
    exact ret_eq rfl
  · rw [if_neg hcs]
    have hu0 : 0 < (upTo n cs).length := by
      obtain ⟨x, hx⟩ := List.exists_mem_of_ne_nil _ hcs
      exact List.length_pos_of_mem ((mem_upTo hr x).2 hx)
    all_goals haveI fA_ : FlagA := ⟨⟩
    all_goals haveI fH_ : FlagH := ⟨⟩
    repeat' (first
      | ((with_reducible apply call0); (focus rfl); (focus exact cal_Values); (focus exact hV); (focus rfl))
      | ((with_reducible apply je_call0); (focus rfl); (focus (decide +kernel)); (focus rfl); (focus exact cal_Values); (focus exact hV); (focus rfl))
      | ((with_reducible apply callE1); (focus rfl); (focus exact cal_next); (focus exact hN); (focus rfl))
      | ((with_reducible apply je_callE); (focus rfl); (focus (decide +kernel)); (focus rfl); (focus exact cal_next); (focus exact hN); (focus rfl))
      | exact True.intro
      | refine stp ?_
      | refine two ?_ ?_
      | refine allc fun c_ => ?_
      | (refine imp fun hc => ?_) <;> try (first | contradiction | (exfalso; omega) | (exfalso; exact absurd (of_dT hc) (by assumption)) | (exfalso; exact of_dF hc (by assumption)))
      | refine all fun v_ => ?_)
    all_goals clear fA_ fH_
    refine retv (VS.trans (vfreeze (t := 4) (eb := 8) rfl rfl (fun x => rfl) (by omega)) (VS.drop (List.nil_sublist _))) ?_
    ((with_reducible apply rq2); rfl; rfl; rfl)
    exact ret_eq rfl
end Go.Proofs.YtmamiihpghnmmaaGreatDoor
namespace Go.Proofs.YtmamiihpghnmmaaGreatDoor
open Go Go.Av Go.Sp
set_option linter.unusedVariables false
set_option linter.unusedSimpArgs false
set_option maxRecDepth 100000
set_option maxHeartbeats 4000000
theorem AfterRule (G : List (Nat × List D)) (m : Md) (code rule : Int) : ACr Tryz.prog G 75 [mdA m, .int code, .int rule] (.tup [.int (afterC m code rule).1, .int (afterC m code rule).2]) := by
  refine AC.factI (f := Ru.cells) (xs := m.rules) (.agg (.there .here)) fun hlr => ?_
  have hV := ValuesOf G m code
  refine AC_ofV (ts := [6, 7]) Tryz.f75.ntmps Tryz.func75 rfl rfl rfl (by simp [Tryz.ntmps75]) fun W I => ?_
  by_cases h1 : (valsF m code).2 ≠ 0
  · rw [afterC_err h1]
    all_goals haveI fA_ : FlagA := ⟨⟩
    all_goals haveI fH_ : FlagH := ⟨⟩
    repeat' (first
      | ((with_reducible apply call0); (focus rfl); (focus exact cal_ValuesOf); (focus exact hV); (focus rfl))
      | ((with_reducible apply je_call0); (focus rfl); (focus (decide +kernel)); (focus rfl); (focus exact cal_ValuesOf); (focus exact hV); (focus rfl))
      | ((with_reducible apply call0); (focus rfl); (focus exact cal_In); (focus exact In _ _ _ _); (focus rfl))
      | ((with_reducible apply je_call0); (focus rfl); (focus (decide +kernel)); (focus rfl); (focus exact cal_In); (focus exact In _ _ _ _); (focus rfl))
      | exact True.intro
      | refine stp ?_
      | refine two ?_ ?_
      | refine allc fun c_ => ?_
      | (refine imp fun hc => ?_) <;> try (first | contradiction | (exfalso; omega) | (exfalso; exact absurd (of_dT hc) (by assumption)) | (exfalso; exact of_dF hc (by assumption)))
      | refine all fun v_ => ?_)
    all_goals clear fA_ fH_
    refine retv (VS.drop (List.nil_sublist _)) ?_
    ((with_reducible apply rq2); rfl; rfl; rfl)
    exact ret_eq rfl
  obtain ⟨hm, c0, c1, hF⟩ := valsF_ok (Decidable.not_not.1 h1)
  have g := InV.vals hm c0 c1
  rw [hF] at hV
  dsimp only at hV
  clear h1
  by_cases h2 : ¬ (0 ≤ rule ∧ rule ≤ (m.rules.length : Int) - 1)
  · rw [afterC_no hF (by omega)]
    all_goals haveI fA_ : FlagA := ⟨⟩
    all_goals haveI fH_ : FlagH := ⟨⟩
    repeat' (first
      | ((with_reducible apply call0); (focus rfl); (focus exact cal_ValuesOf); (focus exact hV); (focus rfl))
      | ((with_reducible apply je_call0); (focus rfl); (focus (decide +kernel)); (focus rfl); (focus exact cal_ValuesOf); (focus exact hV); (focus rfl))
      | ((with_reducible apply call0); (focus rfl); (focus exact cal_In); (focus exact In _ _ _ _); (focus rfl))
      | ((with_reducible apply je_call0); (focus rfl); (focus (decide +kernel)); (focus rfl); (focus exact cal_In); (focus exact In _ _ _ _); (focus rfl))
      | exact True.intro
      | refine stp ?_
      | refine two ?_ ?_
      | refine allc fun c_ => ?_
      | (refine imp fun hc => ?_) <;> try (first | contradiction | (exfalso; omega) | (exfalso; exact absurd (of_dT hc) (by assumption)) | (exfalso; exact of_dF hc (by assumption)))
      | refine all fun v_ => ?_)
    all_goals clear fA_ fH_
    refine retv (VS.drop (List.nil_sublist _)) ?_
    ((with_reducible apply rq2); rfl; rfl; rfl)
    exact ret_eq rfl
  replace h2 := Decidable.not_not.1 h2
  have h4 : rule.toNat < m.rules.length := by omega
  rw [afterC_yes hF (by omega) h4]
  have hr := List.getElem_mem h4
  generalize valsT m.vars code = vs at hV g ⊢
  have gr := goodR hm hr
  have hl6 := varsF_len (modelF_vars hm)
  have hln := g.len
  have hfew := gr.few
  have hE := Evaluated G m.rules[rule.toNat].guard vs
  by_cases h5 : evalF m.rules[rule.toNat].guard vs ≠ (1, 0)
  · rw [afterF_guard h5]
    generalize evalF m.rules[rule.toNat].guard vs = p at hE h5
    obtain ⟨n, e⟩ := p
    dsimp only at hE
    by_cases h6 : e ≠ 0
    · all_goals haveI fA_ : FlagA := ⟨⟩
      all_goals haveI fH_ : FlagH := ⟨⟩
      repeat' (first
        | ((with_reducible apply call0); (focus rfl); (focus exact cal_ValuesOf); (focus exact hV); (focus rfl))
        | ((with_reducible apply je_call0); (focus rfl); (focus (decide +kernel)); (focus rfl); (focus exact cal_ValuesOf); (focus exact hV); (focus rfl))
        | ((with_reducible apply call0); (focus rfl); (focus exact cal_In); (focus exact In _ _ _ _); (focus rfl))
        | ((with_reducible apply je_call0); (focus rfl); (focus (decide +kernel)); (focus rfl); (focus exact cal_In); (focus exact In _ _ _ _); (focus rfl))
        | ((with_reducible apply call0); (focus rfl); (focus exact cal_Evaluated); (focus exact hE); (focus rfl))
        | ((with_reducible apply je_call0); (focus rfl); (focus (decide +kernel)); (focus rfl); (focus exact cal_Evaluated); (focus exact hE); (focus rfl))
        | exact True.intro
        | refine stp ?_
        | refine two ?_ ?_
        | refine allc fun c_ => ?_
        | (refine imp fun hc => ?_) <;> try (first | contradiction | (exfalso; omega) | (exfalso; exact absurd (of_dT hc) (by assumption)) | (exfalso; exact of_dF hc (by assumption)))
        | refine all fun v_ => ?_)
      all_goals clear fA_ fH_
      refine retv (VS.drop (List.nil_sublist _)) ?_
      ((with_reducible apply rq2); rfl; rfl; rfl)
      exact ret_eq rfl
    by_cases h7 : n ≠ 1
    · all_goals haveI fA_ : FlagA := ⟨⟩
      all_goals haveI fH_ : FlagH := ⟨⟩
      repeat' (first
        | ((with_reducible apply call0); (focus rfl); (focus exact cal_ValuesOf); (focus exact hV); (focus rfl))
        | ((with_reducible apply je_call0); (focus rfl); (focus (decide +kernel)); (focus rfl); (focus exact cal_ValuesOf); (focus exact hV); (focus rfl))
        | ((with_reducible apply call0); (focus rfl); (focus exact cal_In); (focus exact In _ _ _ _); (focus rfl))
        | ((with_reducible apply je_call0); (focus rfl); (focus (decide +kernel)); (focus rfl); (focus exact cal_In); (focus exact In _ _ _ _); (focus rfl))
        | ((with_reducible apply call0); (focus rfl); (focus exact cal_Evaluated); (focus exact hE); (focus rfl))
        | ((with_reducible apply je_call0); (focus rfl); (focus (decide +kernel)); (focus rfl); (focus exact cal_Evaluated); (focus exact hE); (focus rfl))
        | exact True.intro
        | refine stp ?_
        | refine two ?_ ?_
        | refine allc fun c_ => ?_
        | (refine imp fun hc => ?_) <;> try (first | contradiction | (exfalso; omega) | (exfalso; exact absurd (of_dT hc) (by assumption)) | (exfalso; exact of_dF hc (by assumption)))
        | refine all fun v_ => ?_)
      all_goals clear fA_ fH_
      refine retv (VS.drop (List.nil_sublist _)) ?_
      ((with_reducible apply rq2); rfl; rfl; rfl)
      exact ret_eq rfl
    exact absurd (Prod.ext (by dsimp only; omega) (by dsimp only; omega)) h5
  replace h5 := Decidable.not_not.1 h5
  rw [h5] at hE
  dsimp only at hE
  all_goals haveI fA_ : FlagA := ⟨⟩
  all_goals haveI fH_ : FlagH := ⟨⟩
  repeat' (first
    | ((with_reducible apply call0); (focus rfl); (focus exact cal_ValuesOf); (focus exact hV); (focus rfl))
    | ((with_reducible apply je_call0); (focus rfl); (focus (decide +kernel)); (focus rfl); (focus exact cal_ValuesOf); (focus exact hV); (focus rfl))
    | ((with_reducible apply call0); (focus rfl); (focus exact cal_In); (focus exact In _ _ _ _); (focus rfl))
    | ((with_reducible apply je_call0); (focus rfl); (focus (decide +kernel)); (focus rfl); (focus exact cal_In); (focus exact In _ _ _ _); (focus rfl))
    | ((with_reducible apply call0); (focus rfl); (focus exact cal_Evaluated); (focus exact hE); (focus rfl))
    | ((with_reducible apply je_call0); (focus rfl); (focus (decide +kernel)); (focus rfl); (focus exact cal_Evaluated); (focus exact hE); (focus rfl))
    | exact True.intro
    | refine stp ?_
    | refine two ?_ ?_
    | refine allc fun c_ => ?_
    | (refine imp fun hc => ?_) <;> try (first | contradiction | (exfalso; omega) | (exfalso; exact absurd (of_dT hc) (by assumption)) | (exfalso; exact of_dF hc (by assumption)))
    | refine all fun v_ => ?_)
  all_goals clear fA_ fH_
  obtain ⟨br, rfl⟩ : ∃ x, x = v_ := ⟨v_, rfl⟩
  obtain ⟨bm, rfl⟩ : ∃ x, x = v_ := ⟨v_, rfl⟩
  generalize hR : m.rules[rule.toNat] = r at hr gr hfew h5 hE ⊢
  clear hR
  refine jrow (E := 3) (sz := 1) intC ?_
  refine J_loopV (X := Nat × Sl) (fun y => [(3, .val (.pointer (some ⟨bm, 0, none⟩))), (8, .d (intsD vs)), (10, .val (.pointer (some ⟨br, 0, none⟩))), (13, .val y.2.v), (14, .int y.1)]) (fun y => [rowE y.2.v 3 1 intC ((List.range y.1).map (updAt vs r.sets)), .cells bm 25 [.d (varsD m.vars), .d (rulesD m.rules)], .cells br 111 [.d (opsD r.guard), .d (setsD r.sets)]]) (fun y => y.1 ≤ vs.length ∧ ∀ s ∈ r.sets, s.var < y.1 → (evalF s.val vs).2 = 0) (fun y => vs.length - y.1) (0, Sl.nil) ⟨Nat.zero_le _, fun s hs h => ?_⟩ (VS.take (by ((repeat (first | exact Take.nil | ((with_reducible apply Take.cons); (focus ((repeat (first | exact Sel.here | with_reducible apply Sel.there)); done))))); done)) ?_) ?_
  · have := (gr.sets s hs).1
    dsimp only at h
    omega
  · repeat (first
      | exact Env.le_nil _
      | refine Env.le_cons (AV.le_refl _) ?_
      | refine Env.le_cons (AV.le_int rfl (by first | rfl | omega | (dsimp only; omega))) ?_)
  rintro ⟨i, q⟩ ⟨hi, hok⟩
  dsimp only at hi hok ⊢
  have hlj : ((List.range i).map (updAt vs r.sets)).length = i := by simp
  by_cases hil : i < vs.length
  · have hat : updAt vs r.sets i = upd vs (r.sets.drop 0) i vs[i] := by rw [updAt, List.getElem?_eq_getElem hil]; rfl
    have hsn : (List.range (i + 1)).map (updAt vs r.sets) = (List.range i).map (updAt vs r.sets) ++ [updAt vs r.sets i] := by simp [List.range_succ]
    all_goals haveI fA_ : FlagA := ⟨⟩
    all_goals haveI fH_ : FlagH := ⟨⟩
    repeat' (first
      | exact True.intro
      | refine stp ?_
      | refine two ?_ ?_
      | refine allc fun c_ => ?_
      | (refine imp fun hc => ?_) <;> try (first | contradiction | (exfalso; omega) | (exfalso; exact absurd (of_dT hc) (by assumption)) | (exfalso; exact of_dF hc (by assumption)))
      | refine all fun v_ => ?_)
    all_goals clear fA_ fH_
    refine J_loopV (X := Nat × Int) (fun y => [(3, .val (.pointer (some ⟨bm, 0, none⟩))), (8, .d (intsD vs)), (10, .val (.pointer (some ⟨br, 0, none⟩))), (13, .val q.v), (14, .int i), (15, .int y.2), (16, .int y.1)]) (fun _ => [rowE q.v 3 1 intC ((List.range i).map (updAt vs r.sets)), .cells bm 25 [.d (varsD m.vars), .d (rulesD m.rules)], .cells br 111 [.d (opsD r.guard), .d (setsD r.sets)]]) (fun y => y.1 ≤ r.sets.length ∧ updAt vs r.sets i = upd vs (r.sets.drop y.1) i y.2 ∧ ∀ s ∈ r.sets.take y.1, s.var = i → (evalF s.val vs).2 = 0) (fun y => r.sets.length - y.1) (0, vs[i]) ⟨Nat.zero_le _, hat, fun s hs => (by cases hs)⟩ (VS.take (by ((repeat (first | exact Take.nil | ((with_reducible apply Take.cons); (focus ((repeat (first | exact Sel.here | with_reducible apply Sel.there)); done))))); done)) ?_) ?_
    · repeat (first
        | exact Env.le_nil _
        | refine Env.le_cons (AV.le_refl _) ?_
        | refine Env.le_cons (AV.le_int rfl (by first | rfl | omega | (dsimp only; omega))) ?_)
    rintro ⟨k, x⟩ ⟨hk, hx, hok2⟩
    dsimp only at hk hx hok2 ⊢
    by_cases hkl : k < r.sets.length
    · have hs := List.getElem_mem hkl
      obtain ⟨a1, a2, a3⟩ := gr.sets _ hs
      rw [upd_at vs r.sets k hkl] at hx
      have htk : ∀ s, s ∈ r.sets.take (k + 1) → s ∈ r.sets.take k ∨ s = r.sets[k] := fun s h => by
        rw [List.take_succ_eq_append_getElem hkl] at h
        rcases List.mem_append.1 h with h | h
        · exact .inl h
        · exact .inr (List.mem_singleton.1 h)
      by_cases hv : r.sets[k].var ≠ i
      · rw [if_neg (by omega)] at hx
        all_goals haveI fA_ : FlagA := ⟨⟩
        all_goals haveI fH_ : FlagH := ⟨⟩
        repeat' (first
          | exact True.intro
          | refine stp ?_
          | refine two ?_ ?_
          | refine allc fun c_ => ?_
          | (refine imp fun hc => ?_) <;> try (first | contradiction | (exfalso; omega) | (exfalso; exact absurd (of_dT hc) (by assumption)) | (exfalso; exact of_dF hc (by assumption)))
          | refine all fun v_ => ?_)
        all_goals clear fA_ fH_
        refine ⟨(k + 1, x), ⟨by dsimp only; omega, hx, fun s h he => ?_⟩, by dsimp only; omega, VS.take (by ((repeat (first | exact Take.nil | ((with_reducible apply Take.cons); (focus ((repeat (first | exact Sel.here | with_reducible apply Sel.there)); done))))); done)) ?_⟩
        · rcases htk s h with h | rfl
          · exact hok2 s h he
          · exact absurd he hv
        · repeat (first
            | exact Env.le_nil _
            | refine Env.le_cons (AV.le_refl _) ?_
            | refine Env.le_cons (AV.le_int rfl (by first | rfl | omega | (dsimp only; omega))) ?_)
      rw [if_pos (by omega)] at hx
      have hE2 := Evaluated G r.sets[k].val vs
      have hno : (evalF r.sets[k].val vs).2 ≠ 0 → afterF m r vs = none := fun h => afterF_set hs fun k => h k.1
      have hyes : (evalF r.sets[k].val vs).2 = 0 → ∀ s ∈ r.sets.take (k + 1), s.var = i → (evalF s.val vs).2 = 0 := fun h0 s h he => by
        rcases htk s h with h | rfl
        · exact hok2 s h he
        · exact h0
      generalize evalF r.sets[k].val vs = p at hE2 hx hno hyes
      obtain ⟨n, e⟩ := p
      dsimp only at hE2 hx hno hyes
      by_cases he : e ≠ 0
      · rw [hno he]
        all_goals haveI fA_ : FlagA := ⟨⟩
        all_goals haveI fH_ : FlagH := ⟨⟩
        repeat' (first
          | ((with_reducible apply call0); (focus rfl); (focus exact cal_Evaluated); (focus exact hE2); (focus rfl))
          | ((with_reducible apply je_call0); (focus rfl); (focus (decide +kernel)); (focus rfl); (focus exact cal_Evaluated); (focus exact hE2); (focus rfl))
          | exact True.intro
          | refine stp ?_
          | refine two ?_ ?_
          | refine allc fun c_ => ?_
          | (refine imp fun hc => ?_) <;> try (first | contradiction | (exfalso; omega) | (exfalso; exact absurd (of_dT hc) (by assumption)) | (exfalso; exact of_dF hc (by assumption)))
          | refine all fun v_ => ?_)
        all_goals clear fA_ fH_
        refine retv (VS.drop (List.nil_sublist _)) ?_
        ((with_reducible apply rq2); rfl; rfl; rfl)
        exact ret_eq rfl
      all_goals haveI fA_ : FlagA := ⟨⟩
      all_goals haveI fH_ : FlagH := ⟨⟩
      repeat' (first
        | ((with_reducible apply call0); (focus rfl); (focus exact cal_Evaluated); (focus exact hE2); (focus rfl))
        | ((with_reducible apply je_call0); (focus rfl); (focus (decide +kernel)); (focus rfl); (focus exact cal_Evaluated); (focus exact hE2); (focus rfl))
        | exact True.intro
        | refine stp ?_
        | refine two ?_ ?_
        | refine allc fun c_ => ?_
        | (refine imp fun hc => ?_) <;> try (first | contradiction | (exfalso; omega) | (exfalso; exact absurd (of_dT hc) (by assumption)) | (exfalso; exact of_dF hc (by assumption)))
        | refine all fun v_ => ?_)
      all_goals clear fA_ fH_
      refine ⟨(k + 1, n), ⟨by dsimp only; omega, hx, hyes (Decidable.not_not.1 he)⟩, by dsimp only; omega, VS.take (by ((repeat (first | exact Take.nil | ((with_reducible apply Take.cons); (focus ((repeat (first | exact Sel.here | with_reducible apply Sel.there)); done))))); done)) ?_⟩
      repeat (first
        | exact Env.le_nil _
        | refine Env.le_cons (AV.le_refl _) ?_
        | refine Env.le_cons (AV.le_int rfl (by first | rfl | omega | (dsimp only; omega))) ?_)
    obtain rfl : k = r.sets.length := by omega
    rw [upd_end vs r.sets _ (Nat.le_refl _)] at hx
    rw [List.take_length] at hok2
    rw [hx] at hsn
    all_goals haveI fA_ : FlagA := ⟨⟩
    all_goals haveI fH_ : FlagH := ⟨⟩
    repeat' (first
      | exact True.intro
      | refine stp ?_
      | refine two ?_ ?_
      | refine allc fun c_ => ?_
      | (refine imp fun hc => ?_) <;> try (first | contradiction | (exfalso; omega) | (exfalso; exact absurd (of_dT hc) (by assumption)) | (exfalso; exact of_dF hc (by assumption)))
      | refine all fun v_ => ?_)
    all_goals clear fA_ fH_
    refine ⟨(i + 1, v_), ⟨by dsimp only; omega, fun s hs h => ?_⟩, by dsimp only; omega, ?_⟩
    · by_cases h0 : s.var = i
      · exact hok2 s hs h0
      · dsimp only at h
        exact hok s hs (by omega)
    · dsimp only
      rw [hsn]
      refine VS.take (by ((repeat (first | exact Take.nil | ((with_reducible apply Take.cons); (focus ((repeat (first | exact Sel.here | with_reducible apply Sel.there)); done))))); done)) ?_
      repeat (first
        | exact Env.le_nil _
        | refine Env.le_cons (AV.le_refl _) ?_
        | refine Env.le_cons (AV.le_int rfl (by first | rfl | omega | (dsimp only; omega))) ?_)
  obtain rfl : i = vs.length := by omega
  have hev : ∀ s ∈ r.sets, (evalF s.val vs).2 = 0 := fun s hs => hok s hs (by have := (gr.sets s hs).2.1; omega)
  have hfin := after_ref hm hr g h5 hev
  rw [← setAll_upd vs r.sets]
  have hsl := setAll_length vs r.sets vs
  have hC := CodeOf G m (setAll vs r.sets vs)
  refine J_vs (vdat (h1 := []) (h' := [.cells bm 25 [.d (varsD m.vars), .d (rulesD m.rules)], .cells br 111 [.d (opsD r.guard), .d (setsD r.sets)]]) 8 rfl rfl (fun _ => rfl) (by omega) (CvE.cons (t := 13) rfl .here (CvE.refl _ _ _)) (CvH.refl _)) ?_
  generalize setAll vs r.sets vs = out at hfin hC hsl ⊢
  generalize hp : codeF m out = p at hfin hC
  obtain ⟨c, e⟩ := p
  dsimp only at hC hfin
  rcases hfin with ⟨f1, f2⟩ | ⟨f1, f2⟩
  · subst f1
    rw [f2]
    all_goals haveI fA_ : FlagA := ⟨⟩
    all_goals haveI fH_ : FlagH := ⟨⟩
    repeat' (first
      | ((with_reducible apply call0); (focus rfl); (focus exact cal_CodeOf); (focus exact hC); (focus rfl))
      | ((with_reducible apply je_call0); (focus rfl); (focus (decide +kernel)); (focus rfl); (focus exact cal_CodeOf); (focus exact hC); (focus rfl))
      | exact True.intro
      | refine stp ?_
      | refine two ?_ ?_
      | refine allc fun c_ => ?_
      | (refine imp fun hc => ?_) <;> try (first | contradiction | (exfalso; omega) | (exfalso; exact absurd (of_dT hc) (by assumption)) | (exfalso; exact of_dF hc (by assumption)))
      | refine all fun v_ => ?_)
    all_goals clear fA_ fH_
    refine retv (VS.drop (List.nil_sublist _)) ?_
    ((with_reducible apply rq2); rfl; rfl; rfl)
    refine ret_eq ?_
    dsimp only
    rw [hp]
  · rw [f2]
    all_goals haveI fA_ : FlagA := ⟨⟩
    all_goals haveI fH_ : FlagH := ⟨⟩
    repeat' (first
      | ((with_reducible apply call0); (focus rfl); (focus exact cal_CodeOf); (focus exact hC); (focus rfl))
      | ((with_reducible apply je_call0); (focus rfl); (focus (decide +kernel)); (focus rfl); (focus exact cal_CodeOf); (focus exact hC); (focus rfl))
      | exact True.intro
      | refine stp ?_
      | refine two ?_ ?_
      | refine allc fun c_ => ?_
      | (refine imp fun hc => ?_) <;> try (first | contradiction | (exfalso; omega) | (exfalso; exact absurd (of_dT hc) (by assumption)) | (exfalso; exact of_dF hc (by assumption)))
      | refine all fun v_ => ?_)
    all_goals clear fA_ fH_
    refine retv (VS.drop (List.nil_sublist _)) ?_
    ((with_reducible apply rq2); rfl; rfl; rfl)
    exact ret_eq rfl
end Go.Proofs.YtmamiihpghnmmaaGreatDoor
