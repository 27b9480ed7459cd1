/- A bundle of this claim's own texts: W9 W11 K9 G17 N11. -/
import Derived.Test.YtniklgkoiaeipaaGreatDoorD2
import Derived.Test.YtniklgkoiaeipaaGreatDoorD14
import Derived.Test.YtniklgkoiaeipaaGreatDoorD17
import Derived.Test.YtniklgkoiaeipaaGreatDoorD19
import Derived.Test.YtniklgkoiaeipaaGreatDoorD21
import Derived.Test.YtniklgkoiaeipaaGreatDoorD23
import Derived.Test.YtniklgkoiaeipaaGreatDoorD35
import Derived.Test.YtniklgkoiaeipaaGreatDoorD36
import Derived.Test.YtniklgkoiaeipaaGreatDoorD39
set_option linter.unusedVariables false
set_option linter.unusedSimpArgs false
set_option maxRecDepth 100000
set_option maxHeartbeats 4000000
namespace Go.Proofs.YtniklgkoiaeipaaGreatDoor
open Go Go.Av Go.Sp

theorem tab_new (l : List Fo) (al : List (List Bool)) (s : Nat) : ((List.replicate l.length ()).map fun _ => AV.val (.slice none 0 0)) = tabR l al s l.length := by rw [tabR_start]; simp
theorem armXW9_1 {p q : Prop} (hp : p) (h : p → q := by
 apply cmp; (focus (first
  | ((with_reducible apply call0); (focus rfl); (focus exact cal_Check); (focus exact hC); (focus rfl))
  | ((with_reducible apply je_call0); (focus rfl); (focus (decide +kernel)); (focus rfl); (focus exact cal_Check); (focus exact hC); (focus rfl))
  ))
 exact fun h => h) : q := h hp
theorem open_1 (l : List Fo) (w : Wd) (p : Int) (h : formF l p ≠ 0) : ACr Tryz.prog GP 126 [.d (opsD l), wdA w, .int p] (.tup [.val (.pointer none), .int (formF l p)]) := by
 have hC := Check l p
 refine AC_ofV (ts := [6, 7]) Tryz.f126.ntmps Tryz.func126 rfl rfl rfl (by simp [Tryz.ntmps126]) fun W I => ?_
 repeat' (first
  | refine armXW9_1 ?_
  | exact True.intro | refine stpH ?_ | refine two ?_ ?_ | refine allc fun c_ => ?_
  | (refine imp fun hc => ?_) <;> try exact cx1 hc
  | refine all fun v_ => ?_)
 refine retv (VS.drop (List.nil_sublist _)) ?_
 ((with_reducible apply rq2); rfl; rfl; rfl)
 exact ret_eq rfl
theorem armXW9_2 {p q : Prop} (hp : p) (h : p → q := by
 apply cmp; (focus (first
  | ((with_reducible apply call0); (focus rfl); (focus exact cal_Check); (focus exact hC); (focus rfl))
  | ((with_reducible apply je_call0); (focus rfl); (focus (decide +kernel)); (focus rfl); (focus exact cal_Check); (focus exact hC); (focus rfl))
  | ((with_reducible apply call0); (focus rfl); (focus exact cal_WCheck); (focus exact WCheck _ _ _); (focus rfl))
  | ((with_reducible apply je_call0); (focus rfl); (focus (decide +kernel)); (focus rfl); (focus exact cal_WCheck); (focus exact WCheck _ _ _); (focus rfl))
  ))
 exact fun h => h) : q := h hp
theorem open_2 (l : List Fo) (w : Wd) (p : Int) (h : formF l p = 0) (h2 : wordF w p ≠ 0) : ACr Tryz.prog GP 126 [.d (opsD l), wdA w, .int p] (.tup [.val (.pointer none), .int (wordF w p)]) := by
 have hC := Check l p
 rw [h] at hC
 refine AC_ofV (ts := [6, 7]) Tryz.f126.ntmps Tryz.func126 rfl rfl rfl (by simp [Tryz.ntmps126]) fun W I => ?_
 repeat' (first
  | refine armXW9_2 ?_
  | exact True.intro | refine stpH ?_ | refine two ?_ ?_ | refine allc fun c_ => ?_
  | (refine imp fun hc => ?_) <;> try exact cx1 hc
  | refine all fun v_ => ?_)
 refine retv (VS.drop (List.nil_sublist _)) ?_
 ((with_reducible apply rq2); rfl; rfl; rfl)
 exact ret_eq rfl
theorem wordF_ok {w : Wd} {p : Int} (h : wordF w p = 0) : 0 ≤ p ∧ p ≤ 6 ∧ w.stem.length ≤ 12 ∧ 1 ≤ w.loop.length ∧ w.loop.length ≤ 12 ∧ ∀ l ∈ w.stem ++ w.loop, (l.length : Int) = p := by
 unfold wordF at h
 split at h
 · exact absurd h (by decide)
 · rename_i h1
   split at h
   · exact absurd h (by decide)
   · rename_i h2
     split at h
     · rename_i h3
       exact ⟨by omega, by omega, by omega, by omega, by omega, h3⟩
     · exact absurd h (by decide)
theorem armXW9_3 {p q : Prop} (hp : p) (h : p → q := by
 apply cmp; (focus (first
  | ((with_reducible apply call0); (focus rfl); (focus exact cal_Check); (focus exact hC); (focus rfl))
  | ((with_reducible apply je_call0); (focus rfl); (focus (decide +kernel)); (focus rfl); (focus exact cal_Check); (focus exact hC); (focus rfl))
  | ((with_reducible apply call0); (focus rfl); (focus exact cal_WCheck); (focus exact hW); (focus rfl))
  | ((with_reducible apply je_call0); (focus rfl); (focus (decide +kernel)); (focus rfl); (focus exact cal_WCheck); (focus exact hW); (focus rfl))
  | ((with_reducible apply call0); (focus rfl); (focus exact cal_Ends); (focus exact hE); (focus rfl))
  | ((with_reducible apply je_call0); (focus rfl); (focus (decide +kernel)); (focus rfl); (focus exact cal_Ends); (focus exact hE); (focus rfl))
  ))
 exact fun h => h) : q := h hp
theorem armXW9_4 {p q : Prop} (hp : p) (h : p → q := by
 apply cmp; (focus (first
  | ((with_reducible apply call0); (focus rfl); (focus exact cal_ConcatB); (focus exact E); (focus rfl))
  | ((with_reducible apply je_call0); (focus rfl); (focus (decide +kernel)); (focus rfl); (focus exact cal_ConcatB); (focus exact E); (focus rfl))
  ))
 exact fun h => h) : q := h hp
theorem open_0 (l : List Fo) (w : Wd) (p : Int) (h : formF l p = 0) (h2 : wordF w p = 0) : AC Tryz.prog GP 126 [.d (opsD l), wdA w, .int p] [] fun r h => ∃ v : Nat × Nat, r = .ret (.tup [.val (.pointer (some ⟨v.1, 0, none⟩)), .int 0]) ∧
 h = [.cells v.1 177 [.d (opsD l), .d (intsD (endsOf l).1), .d (lettD (w.stem ++ w.loop)), .int w.stem.length, .val (.slice (some ⟨v.2, 0, none⟩) l.length l.length)], .cells v.2 72 (tabR l (w.stem ++ w.loop) w.stem.length 0)] := by
 have hC := Check l p
 rw [h] at hC
 have hW := WCheck GP w p
 rw [h2] at hW
 have hE := Ends l
 have g := good_of h
 have h60 := g.h60
 obtain ⟨k1, k2, k3, k4, k5, k6⟩ := wordF_ok h2
 obtain ⟨_, _, _, hlen, hes⟩ := endsOf_ok (l := l) (es := (endsOf l).1) (Prod.ext rfl g.ends)
 rw [g.ends] at hE
 generalize (endsOf l).1 = es at hE hlen hes ⊢
 have E := ConcatB GP [w.stem, w.loop] (by simp; omega)
 rw [show [w.stem, w.loop].flatten = w.stem ++ w.loop by simp] at E
 have hal : (w.stem ++ w.loop).length = w.stem.length + w.loop.length := List.length_append
 refine AC_ofV (ts := [6, 7]) Tryz.f126.ntmps Tryz.func126 rfl rfl rfl (by simp [Tryz.ntmps126]) fun W I => ?_
 repeat' (first
  | refine armXW9_3 ?_
  | exact True.intro | refine stp2 ?_ | refine two ?_ ?_ | refine allc fun c_ => ?_
  | (refine imp fun hc => ?_) <;> try exact cx hc
  | refine all fun v_ => ?_)
 refine ⟨?_⟩
 rename Nat => bw
 refine J_cutT (X := Nat × Nat) (fun y => [(0, .d (opsD l)), (12, .val (.pointer (some ⟨y.1, 0, none⟩)))]) (fun y => [.cells y.1 177 [.d (opsD l), .d (intsD es), .d (lettD (w.stem ++ w.loop)), .int w.stem.length, .val (.slice (some ⟨y.2, 0, none⟩) l.length l.length)], .cells y.2 72 ((List.replicate l.length ()).map fun _ => AV.val (.slice none 0 0))]) ?_ ?_
 · repeat' (first
    | ((with_reducible apply jbuild_list2); (focus rfl); (focus rfl); (focus rfl); (focus (with_reducible exact ElC.h)); (focus rfl); (focus rfl))
    | refine armXW9_4 ?_
    | ((with_reducible apply (jmk (fun _ : Unit => .val (.slice none 0 0)) ())); (focus rfl); (focus rfl); (focus (with_reducible exact ElC.h)); (focus rfl); (focus rfl); (focus omega); (focus omega); (focus rfl))
    | exact True.intro | refine stpH ?_ | refine two ?_ ?_ | refine allc fun c_ => ?_
    | (refine imp fun hc => ?_) <;> try exact cx1 hc
    | refine all fun v_ => ?_)
   all_goals
    refine ⟨(_, _), VS.take (by exact takedD) ?_⟩
    exact leD
 rintro ⟨bt, br⟩
 dsimp only
 rw [tab_new l (w.stem ++ w.loop) w.stem.length]
 repeat' (first
  | exact True.intro | refine stpH ?_ | refine two ?_ ?_ | refine allc fun c_ => ?_
  | (refine imp fun hc => ?_) <;> try exact cx1 hc
  | refine all fun v_ => ?_)
 refine J_loopV (X := Nat) (fun i => [(12, .val (.pointer (some ⟨bt, 0, none⟩))), (13, .int ((i : Int) - 1))]) (fun i => [.cells bt 177 [.d (opsD l), .d (intsD es), .d (lettD (w.stem ++ w.loop)), .int w.stem.length, .val (.slice (some ⟨br, 0, none⟩) l.length l.length)], .cells br 72 (tabR l (w.stem ++ w.loop) w.stem.length i)]) (fun i => i ≤ l.length) (fun i => i) l.length (Nat.le_refl _) (VS.of_le ?_) ?_
 · exact leD
 intro i hi
 cases i with
 | zero =>
   repeat' (first
    | exact True.intro | refine stpH ?_ | refine two ?_ ?_ | refine allc fun c_ => ?_
    | (refine imp fun hc => ?_) <;> try exact cx1 hc
    | refine all fun v_ => ?_)
   refine retv0 ?_
   ((with_reducible apply rq2); rfl; rfl; rfl)
   exact ⟨(bt, br), rfl, rfl⟩
 | succ m =>
   have hm : m < l.length := by omega
   have hm1 : ((m + 1 : Nat) : Int) - 1 = (m : Int) := by omega
   have F := fill l p es (w.stem ++ w.loop) w.stem.length bt br m (tabR l (w.stem ++ w.loop) w.stem.length (m + 1)) g (fun j hj => k6 _ (List.getElem_mem hj)) (by omega) (by omega) hm (by omega) hes (tabR_len _ _ _ _) (fun j h1 h2 => tabR_get (by omega) h2)
   rw [tabR_set hm] at F
   rw [hm1]
   repeat' (first
    | ((with_reducible apply callG); (focus rfl); (focus exact cal_fill); (focus exact F); (focus exact takeD); (focus rfl); (focus exact appD))
    | exact True.intro | refine stpH ?_ | refine two ?_ ?_ | refine allc fun c_ => ?_
    | (refine imp fun hc => ?_) <;> try exact cx1 hc
    | refine all fun v_ => ?_)
   refine ⟨m, by omega, by omega, VS.of_le ?_⟩
   exact leD

theorem cal_Moments : Cal Tryz.prog 75 := Cal.of Tryz.func75 (by kernel_rfl) (by kernel_rfl)
theorem cal_WHolds : Cal Tryz.prog 31 := Cal.of Tryz.func31 (by kernel_rfl) (by kernel_rfl)
abbrev wal (w : Wd) : List (List Bool) := w.stem ++ w.loop
noncomputable def momsF (l : List Fo) (w : Wd) (p : Int) : List Bool × Int := if formF l p ≠ 0 then ([], formF l p) else if wordF w p ≠ 0 then ([], wordF w p) else (wRow l (wal w) w.stem.length 0, 0)
theorem armXW11_4 {p q : Prop} (hp : p) (h : p → q := by
 apply cmp; (focus (first
  | ((with_reducible apply call0); (focus rfl); (focus exact cal_wopen); (focus exact E); (focus rfl))
  | ((with_reducible apply je_call0); (focus rfl); (focus (decide +kernel)); (focus rfl); (focus exact cal_wopen); (focus exact E); (focus rfl))
  ))
 exact fun h => h) : q := h hp
theorem Moments (l : List Fo) (w : Wd) (p : Int) : ACr Tryz.prog GP 75 [.d (opsD l), wdA w, .int p] (.tup [.d (boolsD (momsF l w p).1), .int (momsF l w p).2]) := by
 refine AC_ofV (ts := [6, 7]) Tryz.f75.ntmps Tryz.func75 rfl rfl rfl (by simp [Tryz.ntmps75]) fun W I => ?_
 by_cases h1 : formF l p = 0
 · by_cases h2 : wordF w p = 0
   · have E := open_0 l w p h1 h2
     have g := good_of h1
     have hpos := g.pos
     have hT : (tabR l (w.stem ++ w.loop) w.stem.length 0)[0]? = some (.d (boolsD (wRow l (w.stem ++ w.loop) w.stem.length 0))) := tabR_get (Nat.le_refl _) hpos
     generalize tabR l (w.stem ++ w.loop) w.stem.length 0 = R at E hT
     repeat' (first
      | ((with_reducible apply callG); (focus rfl); (focus exact cal_wopen); (focus exact E); (focus exact takeD); (focus rfl); (focus exact appD))
      | exact True.intro | refine stpH ?_ | refine two ?_ ?_ | refine allc fun c_ => ?_
      | (refine imp fun hc => ?_) <;> try exact cx1 hc
      | refine all fun v_ => ?_)
     refine retv (VS.drop (List.nil_sublist _)) ?_
     skip
     ((with_reducible apply rq2); rfl; rfl; rfl)
     refine ret_eq ?_
     rw [momsF, if_neg (fun h => h h1), if_neg (fun h => h h2)]
   · have E := open_2 l w p h1 h2
     repeat' (first
      | refine armXW11_4 ?_
      | exact True.intro | refine stpH ?_ | refine two ?_ ?_ | refine allc fun c_ => ?_
      | (refine imp fun hc => ?_) <;> try exact cx1 hc
      | refine all fun v_ => ?_)
     refine retv (VS.trans (VS.drop (List.nil_sublist _)) (vnil (t := 6) 1 1 rfl)) ?_
     ((with_reducible apply rq2); rfl; rfl; rfl)
     refine ret_eq ?_
     rw [momsF, if_neg (fun h => h h1), if_pos h2]; rfl
 · have E := open_1 l w p h1
   repeat' (first
    | refine armXW11_4 ?_
    | exact True.intro | refine stpH ?_ | refine two ?_ ?_ | refine allc fun c_ => ?_
    | (refine imp fun hc => ?_) <;> try exact cx1 hc
    | refine all fun v_ => ?_)
   refine retv (VS.trans (VS.drop (List.nil_sublist _)) (vnil (t := 6) 1 1 rfl)) ?_
   ((with_reducible apply rq2); rfl; rfl; rfl)
   refine ret_eq ?_
   rw [momsF, if_pos h1]; rfl
noncomputable def holdsF (l : List Fo) (w : Wd) (p : Int) : Bool × Int := if (momsF l w p).2 ≠ 0 then (false, (momsF l w p).2) else (((momsF l w p).1[0]?).getD false, 0)
theorem momsF_ok {l : List Fo} {w : Wd} {p : Int} (h : (momsF l w p).2 = 0) : 0 < (momsF l w p).1.length := by
 unfold momsF at h ⊢
 by_cases h1 : formF l p ≠ 0
 · rw [if_pos h1] at h; exact absurd h h1
 rw [if_neg h1] at h ⊢
 by_cases h2 : wordF w p ≠ 0
 · rw [if_pos h2] at h; exact absurd h h2
 rw [if_neg h2]
 have := wordF_ok (Decidable.not_not.1 h2)
 simp [wRow]; omega
theorem armXW11_5 {p q : Prop} (hp : p) (h : p → q := by
 apply cmp; (focus (first
  | ((with_reducible apply call0); (focus rfl); (focus exact cal_Moments); (focus exact E); (focus rfl))
  | ((with_reducible apply je_call0); (focus rfl); (focus (decide +kernel)); (focus rfl); (focus exact cal_Moments); (focus exact E); (focus rfl))
  ))
 exact fun h => h) : q := h hp
theorem WHolds  (l : List Fo) (w : Wd) (p : Int) : ACr Tryz.prog GP 31 [.d (opsD l), wdA w, .int p] (.tup [.bool (holdsF l w p).1, .int (holdsF l w p).2]) := by
 have E := Moments l w p
 have hk := momsF_ok (l := l) (w := w) (p := p)
 unfold holdsF
 generalize momsF l w p = q at E hk ⊢
 obtain ⟨r, e⟩ := q
 dsimp only at E hk ⊢
 refine AC_ofV (ts := [6, 7]) Tryz.f31.ntmps Tryz.func31 rfl rfl rfl (by simp [Tryz.ntmps31]) fun W I => ?_
 by_cases he : e = 0
 · have hr := hk he
   repeat' (first
    | refine armXW11_5 ?_
    | exact True.intro | refine stpH ?_ | refine two ?_ ?_ | refine allc fun c_ => ?_
    | (refine imp fun hc => ?_) <;> try exact cx1 hc
    | refine all fun v_ => ?_)
   refine retv (VS.drop (List.nil_sublist _)) ?_
   skip
   ((with_reducible apply rq2); rfl; rfl; rfl)
   refine ret_eq ?_
   rw [if_neg (fun h => h he), List.getElem?_eq_getElem hr]; rfl
 · repeat' (first
    | refine armXW11_5 ?_
    | exact True.intro | refine stpH ?_ | refine two ?_ ?_ | refine allc fun c_ => ?_
    | (refine imp fun hc => ?_) <;> try exact cx1 hc
    | refine all fun v_ => ?_)
   refine retv (VS.drop (List.nil_sublist _)) ?_
   skip
   ((with_reducible apply rq2); rfl; rfl; rfl)
   refine ret_eq ?_
   rw [if_pos he]
theorem holds_one {f : List Fo} (hf : FoG f) (x : List Bool) (hx : x.length = 3) : holdsF f ⟨[], [x]⟩ 3 = (wAt f [x] 0 0 0, 0) := by
 have h1 := hf.wf.form hf.len hf.ah (p := 3) (by decide)
 have hm : momsF f ⟨[], [x]⟩ 3 = ([wAt f [x] 0 0 0], 0) := by
  unfold momsF
  rw [if_neg (fun c => c h1), if_neg (fun c => c (wordF_0 (by decide) ⟨Nat.zero_le _, Nat.le_refl _, (by decide : (1 : Nat) ≤ 12)⟩ (fun i hi => by
   have hi1 : i < 1 := hi
   obtain rfl : i = 0 := by omega
   show (x.length : Int) = 3
   omega)))]
  rfl
 unfold holdsF
 rw [hm]
 rfl
end Go.Proofs.YtniklgkoiaeipaaGreatDoor
namespace Go.Sp
open Go Go.Av

def at0 (l : List Int) (i : Nat) : Int := (l[i]?).getD 0
theorem at0_get (l : List Int) (i : Nat) (h : i < l.length) : at0 l i = l[i] := by simp [at0, List.getElem?_eq_getElem h]
def leadsP (m : Md) (n : Nat) (A : List Int) (i : Nat) : Prop := (0 ≤ at0 A i ∧ at0 A i < n) ∧ at0 A (i + 1) ∈ (nextF m (at0 A i)).1
def runsP (m : Md) (n : Nat) (A : List Int) : Prop := ∀ i, i + 1 < A.length → leadsP m n A i
noncomputable instance (m : Md) (n : Nat) (A : List Int) : Decidable (runsP m n A) := Classical.propDecidable _
def roundL (stem loop : List Int) : List Int := stem ++ loop ++ loop.take 1
noncomputable def runF (m : Md) (stem loop : List Int) : Bool × Int :=
 if modelF m ≠ 0 then (false, modelF m)
 else if loop = [] ∨ (stem ++ loop).head? ≠ some (firstF m) then (false, 0)
 else (decide (runsP m (prodV m.vars).toNat (roundL stem loop)), 0)
theorem runF_no {m : Md} {stem loop : List Int} (h0 : modelF m = 0) (h : loop = [] ∨ (stem ++ loop).head? ≠ some (firstF m)) : runF m stem loop = (false, 0) := by
 unfold runF; rw [if_neg (fun k => k h0), if_pos h]
theorem runF_at {m : Md} {n : Nat} {stem loop : List Int} {b : Bool} (h0 : modelF m = 0) (hn : prodV m.vars = n) (h1 : loop ≠ []) (h2 : (stem ++ loop).head? = some (firstF m)) (hb : b = true ↔ runsP m n (roundL stem loop)) : runF m stem loop = (b, 0) := by
 unfold runF
 rw [if_neg (fun k => k h0), if_neg (fun k => k.elim h1 fun k => k h2), hn, Int.toNat_natCast]
 congr 1
 cases b with
 | true => exact decide_eq_true (hb.1 rfl)
 | false => exact decide_eq_false fun k => by have := hb.2 k; cases this
end Go.Sp
namespace Go.Proofs.YtniklgkoiaeipaaGreatDoor
open Go Go.Av Go.Sp
theorem cal_GrowI : Cal Tryz.prog 128 := Cal.of Tryz.func128 (by kernel_rfl) (by kernel_rfl)
theorem cal_ConcatI : Cal Tryz.prog 78 := Cal.of Tryz.func78 (by kernel_rfl) (by kernel_rfl)
theorem cal_Runs : Cal Tryz.prog 33 := Cal.of Tryz.func33 (by kernel_rfl) (by kernel_rfl)
theorem GrowI (G : List (Nat × List D)) (n : Nat) (hn : n ≤ 2000000) : AC Tryz.prog G 128 [.val (.slice none 0 0), .int n] [] fun r h => ∃ q : Sl, r = .ret (.val q.v) ∧ h = [rowE q.v 3 1 intC []] := by
 refine AC_ofV (ts := [4]) Tryz.f128.ntmps Tryz.func128 rfl rfl rfl (by simp [Tryz.ntmps128]) fun W I => ?_
 by_cases h0 : 0 < n
 · repeat' (first
    | ((with_reducible apply jp); (focus ((with_reducible apply pu_cap); rfl; rfl)); (focus rfl))
    | ((with_reducible apply jp); (focus ((with_reducible apply pu_slice_nil); rfl; rfl; rfl; (focus (with_reducible exact ElC.h)))); (focus rfl))
    | ((with_reducible apply (japp_zeros (n := n) intC 0 (.i .i64 0))); (focus rfl); (focus rfl); (focus omega); (focus rfl); (focus rfl); (focus (with_reducible exact ElC.h)); (focus rfl); (focus rfl); (focus exact fun w I => rfl); (focus omega); (focus omega); (focus omega); (focus rfl))
    | exact True.intro | refine stpH ?_ | refine two ?_ ?_ | refine allc fun c_ => ?_
    | (refine imp fun hc => ?_) <;> try exact cx1 hc
    | refine all fun v_ => ?_)
   refine retv0 ?_
   ((with_reducible apply rq1); rfl; rfl)
   exact ⟨v_, rfl, rfl⟩
 · obtain rfl : n = 0 := by omega
   repeat' (first
    | ((with_reducible apply jp); (focus ((with_reducible apply pu_cap); rfl; rfl)); (focus rfl))
    | ((with_reducible apply jp); (focus ((with_reducible apply pu_slice_nil); rfl; rfl; rfl; (focus (with_reducible exact ElC.h)))); (focus rfl))
    | ((with_reducible apply (japp_zeros (n := n) intC 0 (.i .i64 0))); (focus rfl); (focus rfl); (focus omega); (focus rfl); (focus rfl); (focus (with_reducible exact ElC.h)); (focus rfl); (focus rfl); (focus exact fun w I => rfl); (focus omega); (focus omega); (focus omega); (focus rfl))
    | exact True.intro | refine stpH ?_ | refine two ?_ ?_ | refine allc fun c_ => ?_
    | (refine imp fun hc => ?_) <;> try exact cx1 hc
    | refine all fun v_ => ?_)
   refine retv (VS.nilrow 3 1) ?_
   ((with_reducible apply rq1); rfl; rfl)
   exact ⟨Sl.nil, rfl, rfl⟩
def sumI (ls : List (List Int)) (i : Nat) : Nat := ((ls.take i).flatten).length
theorem sumI_succ (ls : List (List Int)) (i : Nat) (h : i < ls.length) : sumI ls (i + 1) = sumI ls i + ls[i].length := by
 unfold sumI
 rw [List.take_succ_eq_append_getElem h, List.flatten_append, List.length_append]; simp
theorem flat_succ (ls : List (List Int)) (i : Nat) (h : i < ls.length) : (ls.take (i + 1)).flatten = (ls.take i).flatten ++ ls[i] := by
 rw [List.take_succ_eq_append_getElem h, List.flatten_append]; simp
theorem sumI_le (ls : List (List Int)) (i : Nat) (h : i ≤ ls.length) : sumI ls i ≤ ls.flatten.length := by
 have e : ls.flatten = (ls.take i).flatten ++ (ls.drop i).flatten := by rw [← List.flatten_append, List.take_append_drop]
 unfold sumI
 rw [e, List.length_append]; omega
theorem ConcatI (G : List (Nat × List D)) (ls : List (List Int)) (hs : ls.flatten.length ≤ 2000000) : ACr Tryz.prog G 78 [.d (.l 1 24 (ls.map fun l => [intsD l]))] (.d (intsD ls.flatten)) := by
 refine AC_ofV (ts := [2]) Tryz.f78.ntmps Tryz.func78 rfl rfl rfl (by simp [Tryz.ntmps78]) fun W I => ?_
 refine jfact (t := 0) rfl fun hl => ?_
 repeat' (first
  | exact True.intro | refine stpH ?_ | refine two ?_ ?_ | refine allc fun c_ => ?_
  | (refine imp fun hc => ?_) <;> try exact cx1 hc
  | refine all fun v_ => ?_)
 refine J_loopV (X := Nat) (fun i => [(0, .d (.l 1 24 (ls.map fun l => [intsD l]))), (3, .int (sumI ls i)), (9, .d (.l 1 24 (ls.map fun l => [intsD l]))), (10, .int ls.length), (11, .int i)]) (fun _ => []) (fun i => i ≤ ls.length) (fun i => ls.length - i) 0 (Nat.zero_le _) (VS.of_le ?_) ?_
 · exact leD
 rintro i h1
 by_cases hi : i < ls.length
 · have e1 := sumI_succ ls i hi
   have e2 := sumI_le ls (i + 1) hi
   repeat' (first
    | exact True.intro | refine stpH ?_ | refine two ?_ ?_ | refine allc fun c_ => ?_
    | (refine imp fun hc => ?_) <;> try exact cx1 hc
    | refine all fun v_ => ?_)
   refine ⟨i + 1, by omega, by omega, VS.of_le ?_⟩
   exact leD
 obtain rfl : i = ls.length := by omega
 have e2 := sumI_le ls ls.length (Nat.le_refl _)
 repeat' (first
  | ((with_reducible apply callG); (focus rfl); (focus exact cal_GrowI); (focus exact GrowI G (sumI ls ls.length) (by omega)); (focus exact takeD); (focus rfl); (focus exact appD))
  | exact True.intro | refine stpH ?_ | refine two ?_ ?_ | refine allc fun c_ => ?_
  | (refine imp fun hc => ?_) <;> try exact cx1 hc
  | refine all fun v_ => ?_)
 refine J_loopV (X := Nat × Sl) (fun y => [(6, .val y.2.v), (25, .d (.l 1 24 (ls.map fun l => [intsD l]))), (26, .int ls.length), (27, .int y.1)]) (fun y => [rowE y.2.v 3 1 intC (ls.take y.1).flatten]) (fun y => y.1 ≤ ls.length) (fun y => ls.length - y.1) (0, v_) (Nat.zero_le _) (VS.take (by exact takedD) ?_) ?_
 · exact leD
 rintro ⟨i, q⟩ h1
 dsimp only at h1 ⊢
 by_cases hi : i < ls.length
 · have e1 := flat_succ ls i hi
   have e3 := sumI_succ ls i hi
   have e2 := sumI_le ls (i + 1) hi
   unfold sumI at e2 e3
   repeat' (first
    | exact True.intro | refine stpA ?_ | refine two ?_ ?_
    | (refine imp fun hc => ?_) <;> try exact cx hc
    | refine all fun v_ => ?_)
   refine ⟨(i + 1, v_), by dsimp only; omega, by dsimp only; omega, VS.take (by dsimp only; rw [e1]; exact takedD) ?_⟩
   exact leD
 obtain rfl : i = ls.length := by omega
 rw [List.take_length]
 repeat' (first
  | exact True.intro | refine stpA ?_ | refine two ?_ ?_
  | (refine imp fun hc => ?_) <;> try exact cx hc
  | refine all fun v_ => ?_)
 refine retv (vfreeze (t := 2) (eb := 8) rfl rfl (fun x => rfl) (by omega)) ?_
 ((with_reducible apply rq1); rfl; rfl)
 exact ret_eq rfl
end Go.Proofs.YtniklgkoiaeipaaGreatDoor
