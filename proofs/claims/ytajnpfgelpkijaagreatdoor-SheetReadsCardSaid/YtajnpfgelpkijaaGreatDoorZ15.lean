/- A bundle of this claim's own texts: R8. -/
import Derived.Test.YtajnpfgelpkijaaGreatDoorZ11
import Derived.Test.YtajnpfgelpkijaaGreatDoorZ12
import Derived.Test.YtajnpfgelpkijaaGreatDoorZ14
set_option linter.unusedVariables false
set_option linter.unusedSimpArgs false
set_option maxRecDepth 100000
set_option maxHeartbeats 4000000
namespace Go.Proofs.YtajnpfgelpkijaaGreatDoor
open Go Go.Av Go.Sp
theorem cal_pline : Cal Tryz.prog 13 := Cal.of Tryz.func13 (by kernel_rfl) (by kernel_rfl)
abbrev pdH (bp : Nat) (d : Pq) (qv qr qs qp : Sl) : H := [.cells bp 57 [.val qv.v, .val qr.v, .val qp.v, .d (opsD d.form)], rowE qv.v 68 4 Vr.cells d.vars, rowE qr.v 72 2 ruX (d.rl qs), rowE qs.v 75 2 St.cells d.sets, rowE qp.v 27 1 termC d.props]
structure PqL (d : Pq) : Prop where
 vars : d.vars.length ≤ 50000
 done : d.done.length ≤ 50000
 sets : d.sets.length ≤ 50000
 props : d.props.length ≤ 50000
abbrev vrA (v : Vr) : List AV := [.val (.string v.name), .int v.low, .int v.high, .int v.init]
theorem pad_set_no {t : Tk} {r : Ln} (h : ¬ (0 < r.length ∧ 0 < t.model.rules.length)) : padLine atoiV t (setU :: r) = t := by
 unfold padLine
 dsimp only
 rw [if_neg (by decide), if_neg (by decide), if_pos rfl, if_neg h]
theorem pad_set_yes {t : Tk} {w : List UInt8} {r : Ln} (h : 0 < t.model.rules.length) : padLine atoiV t (setU :: w :: r) = ⟨⟨t.model.vars, addSet t.model.rules ⟨varI t.model.vars w, r.map (padOp atoiV t.model.vars)⟩⟩, t.props, t.formula⟩ := by
 unfold padLine
 dsimp only
 rw [if_neg (by decide), if_neg (by decide), if_pos rfl, if_pos ⟨by simp, h⟩]
 rfl
theorem pad_other {t : Tk} {w : List UInt8} {r : Ln} (h1 : w ≠ varU) (h2 : w ≠ ruleW) (h3 : w ≠ setU) (h4 : w ≠ propW) (h5 : w ≠ checkW) : padLine atoiV t (w :: r) = t := by
 unfold padLine
 dsimp only
 rw [if_neg h1, if_neg h2, if_neg h3, if_neg h4, if_neg h5]
theorem pd_freeze (bp : Nat) (d : Pq) (qv qr qs qp : Sl) (hok : d.ok) (hl : d.sets.length ≤ 50000) {ρ : Env} : VS ρ (pdH bp d qv qr qs qp) ρ [.cells bp 57 [.val qv.v, .val qr.v, .val qp.v, .d (opsD d.form)], rowE qv.v 68 4 Vr.cells d.vars, rowE qr.v 72 2 ruX (d.rules.map ruD), rowE qp.v 27 1 termC d.props] := by
 cases hc : d.cur with
 | none =>
   have e : d.rl qs = d.rules.map ruD := by unfold Pq.rl Pq.rules; rw [hc]; simp
   unfold pdH
   rw [e]
   exact VS.take (by exact takedD) (Env.le_refl _)
 | some g =>
   have e1 : d.rl qs = d.done.map ruD ++ [(g, slD qs)] := by unfold Pq.rl; rw [hc]
   have e2 : d.rules.map ruD = d.done.map ruD ++ [(g, setsD d.sets)] := by unfold Pq.rules; rw [hc, List.map_append]; rfl
   have e3 : rowE qr.v 72 2 ruX (d.rules.map ruD) = Ent.row qr.v (d.rl qs).length 72 2 ((((d.done.map ruD ++ [(g, setsD d.sets)]).map ruX).flatten).map D.av) := by
    unfold rowE
    rw [e2, e1]; simp only [List.length_append, List.length_cons, List.length_nil]
   rw [e3]
   unfold pdH
   have e4 : rowE qr.v 72 2 ruX (d.rl qs) = Ent.row qr.v (d.rl qs).length 72 2 ((((d.done.map ruD ++ [(g, slD qs)]).map ruX).flatten).map D.av) := by
    unfold rowE
    rw [e1]
   rw [e4]
   exact vdat (h1 := [_, _, _]) (h2 := [_]) (f := St.cells) (xs := d.sets) (v := qs.v) 32 rfl rfl (fun _ => rfl) (by omega) (CvE.refl _ _ _) (.keep (.keep (.row (Cvs.lastU (pre := [opsD g]) (post := []) _ rfl rfl rfl) (.refl _))))
theorem pline (bp : Nat) (d : Pq) (qv qr qs qp : Sl) (w0 : List UInt8) (r : Ln) (hok : d.ok) (hL : PqL d) (hw : ∀ w ∈ r, w.length ≤ 100000) (hl : r.length ≤ 90000) : AC Tryz.prog GP 13 [.val (.pointer (some ⟨bp, 0, none⟩)), .d (linD (w0 :: r))] (pdH bp d qv qr qs qp) fun e h => ∃ y : {d' : Pq // d'.ok ∧ d'.tk = padLine atoiV d.tk (w0 :: r)} × Sl × Sl × Sl × Sl, e = .ret (.tup []) ∧ h = pdH bp y.1.1 y.2.1 y.2.2.1 y.2.2.2.1 y.2.2.2.2 := by
 obtain ⟨l1, l2, l3, l4⟩ := hL
 have hv : d.vars.length ≤ 100000 := by omega
 have hl' : r.length ≤ 100000 := by omega
 refine AC_ofV (ts := []) Tryz.f13.ntmps Tryz.func13 rfl rfl rfl (by simp [Tryz.ntmps13]) fun W I => ?_
 repeat' (first
  | refine cag cal_pterm (pterm bp qv (.val qr.v) (.val qp.v) (.d (opsD d.form)) d.vars r hv hw hl') ?_
  | exact True.intro | refine stp0 ?_ | refine two ?_ ?_ | refine allc fun c_ => ?_
  | (refine imp fun hc => ?_) <;> try exact cx hc
  | refine all fun v_ => ?_)
 · -- var
   have e0 : w0 = varU := tx_eq hc
   obtain ⟨bv, rfl⟩ : ∃ x, x = v_ := ⟨v_, rfl⟩
   refine J_loopV (X := Nat) (fun i => [(0, .val (.pointer (some ⟨bp, 0, none⟩))), (5, .val (.pointer (some ⟨bv, 0, none⟩))), (23, .d (linD r)), (24, .int r.length), (25, .int i)]) (fun i => .cells bv 68 (vrA (padVar atoiV (r.take i))) :: pdH bp d qv qr qs qp) (fun i => i ≤ r.length) (fun i => r.length - i) 0 (Nat.zero_le _) (VS.take (by exact takedD) ?_) ?_
   · exact leD
   intro i hi0
   by_cases hi : i < r.length
   · have hA := Atoi r[i] (hw _ (List.getElem_mem hi))
     by_cases i0 : i = 0
     · subst i0
       repeat' (first
        | refine ca cal_Atoi (hA) ?_
        | exact True.intro | refine stpA ?_ | refine two ?_ ?_
        | (refine imp fun hc => ?_) <;> try exact cx hc
        | refine all fun v_ => ?_)
       refine ⟨1, by omega, by omega, VS.take (by rw [padVar_s0 _ _ hi]; exact takedD) ?_⟩
       exact leD
     by_cases i1 : i = 1
     · subst i1
       repeat' (first
        | refine ca cal_Atoi (hA) ?_
        | exact True.intro | refine stpA ?_ | refine two ?_ ?_
        | (refine imp fun hc => ?_) <;> try exact cx hc
        | refine all fun v_ => ?_)
       refine ⟨2, by omega, by omega, VS.take (by rw [padVar_s1 _ _ hi]; exact takedD) ?_⟩
       exact leD
     by_cases i2 : i = 2
     · subst i2
       repeat' (first
        | refine ca cal_Atoi (hA) ?_
        | exact True.intro | refine stpA ?_ | refine two ?_ ?_
        | (refine imp fun hc => ?_) <;> try exact cx hc
        | refine all fun v_ => ?_)
       refine ⟨3, by omega, by omega, VS.take (by rw [padVar_s2 _ _ hi]; exact takedD) ?_⟩
       exact leD
     by_cases i3 : i = 3
     · subst i3
       repeat' (first
        | refine ca cal_Atoi (hA) ?_
        | exact True.intro | refine stpA ?_ | refine two ?_ ?_
        | (refine imp fun hc => ?_) <;> try exact cx hc
        | refine all fun v_ => ?_)
       refine ⟨4, by omega, by omega, VS.take (by rw [padVar_s3 _ _ hi]; exact takedD) ?_⟩
       exact leD
     repeat' (first
      | refine ca cal_Atoi (hA) ?_
      | exact True.intro | refine stpA ?_ | refine two ?_ ?_
      | (refine imp fun hc => ?_) <;> try exact cx hc
      | refine all fun v_ => ?_)
     refine ⟨i + 1, by omega, by omega, VS.take (by rw [padVar_s4 _ _ (by omega : 4 ≤ i)]; exact takedD) ?_⟩
     exact leD
   obtain rfl : i = r.length := by omega
   rw [List.take_length]
   repeat' (first
    | ((with_reducible apply (jbuild_agg (cs := Vr.cells (padVar atoiV r)))); (focus rfl); (focus rfl); (focus (with_reducible exact ElC.h)); (focus rfl); (focus rfl); (focus rfl); (focus rfl); (focus rfl))
    | ((with_reducible apply (japU1 (f := Vr.cells) (u := padVar atoiV r))); (focus rfl); (focus rfl); (focus (with_reducible exact ElC.h)); (focus exact updqD); (focus rfl); (focus rfl); (focus rfl); (focus rfl); (focus exact bndD); (focus exact bndD))
    | exact True.intro | refine stp0 ?_ | refine two ?_ ?_ | refine allc fun c_ => ?_
    | (refine imp fun hc => ?_) <;> try exact cx hc
    | refine all fun v_ => ?_)
   refine ⟨?_⟩
   refine J_region_HB [rowE qv.v 68 4 Vr.cells d.vars] mixed rfl (by (repeat ((with_reducible apply Hd.cons); (focus rfl))); exact Hd.nil) (by (repeat (with_reducible apply len_cons)); exact len_nil) (by decide +kernel) (by exact takeD) ?_
   repeat' (first
    | ((with_reducible apply (jbuild_agg (cs := Vr.cells (padVar atoiV r)))); (focus rfl); (focus rfl); (focus (with_reducible exact ElC.h)); (focus rfl); (focus rfl); (focus rfl); (focus rfl); (focus rfl))
    | ((with_reducible apply (japU1 (f := Vr.cells) (u := padVar atoiV r))); (focus rfl); (focus rfl); (focus (with_reducible exact ElC.h)); (focus exact updqD); (focus rfl); (focus rfl); (focus rfl); (focus rfl); (focus exact bndD); (focus exact bndD))
    | exact True.intro | refine stpH ?_ | refine two ?_ ?_ | refine allc fun c_ => ?_
    | (refine imp fun hc => ?_) <;> try exact cx1 hc
    | refine all fun v_ => ?_)
   all_goals
    refine retv (VS.take (hc := pdH bp ⟨d.vars ++ [padVar atoiV r], d.done, d.cur, d.sets, d.props, d.form⟩ v_ qr qs qp) (by exact takedD) (Env.le_refl _)) ?_
    exact ⟨⟨⟨⟨d.vars ++ [padVar atoiV r], d.done, d.cur, d.sets, d.props, d.form⟩, hok, by subst e0; rfl⟩, v_, qr, qs, qp⟩, rfl, rfl⟩
 · -- rule
   rename_i c1
   have e0 : w0 = ruleW := tx_eq hc
   have hK := pterm bp qv (.val qr.v) (.val qp.v) (.d (opsD d.form)) d.vars r hv hw hl'
   have hrl : (d.rules.map ruD).length ≤ 60000 := by
    rw [List.length_map, ← Pq.rl_len d qs]; unfold Pq.rl; rw [List.length_append, List.length_map]
    cases d.cur <;> simp <;> omega
   refine ⟨J_vs (pd_freeze bp d qv qr qs qp hok l3) ?_⟩
   refine J_region_HB [.cells bp 57 [.val qv.v, .val qr.v, .val qp.v, .d (opsD d.form)], rowE qv.v 68 4 Vr.cells d.vars, rowE qr.v 72 2 ruX (d.rules.map ruD)] mixed rfl (by (repeat ((with_reducible apply Hd.cons); (focus rfl))); exact Hd.nil) (by (repeat (with_reducible apply len_cons)); exact len_nil) (by decide +kernel) (by exact takeD) ?_
   repeat' (first
    | refine cag cal_pterm (hK) ?_
    | ((with_reducible apply (jbuild_agg (cs := ruX (r.map (padOp atoiV d.vars), .ve (.slice none 0 0) rfl)))); (focus rfl); (focus rfl); (focus (with_reducible exact ElC.h)); (focus rfl); (focus rfl); (focus rfl); (focus rfl); (focus rfl))
    | ((with_reducible apply (japU1 (f := ruX) (u := (r.map (padOp atoiV d.vars), .ve (.slice none 0 0) rfl)))); (focus rfl); (focus rfl); (focus (with_reducible exact ElC.h)); (focus exact updqD); (focus rfl); (focus rfl); (focus rfl); (focus rfl); (focus exact bndD); (focus exact bndD))
    | exact True.intro | refine stpH ?_ | refine two ?_ ?_ | refine allc fun c_ => ?_
    | (refine imp fun hc => ?_) <;> try exact cx1 hc
    | refine all fun v_ => ?_)
   all_goals
    refine retv (VS.trans (VS.nilrow 75 2) (VS.take (hc := pdH bp (d.rule (r.map (padOp atoiV d.vars))) qv v_ Sl.nil qp) (by exact takedD) (Env.le_refl _))) ?_
    exact ⟨⟨⟨d.rule (r.map (padOp atoiV d.vars)), (fun h => by cases h), by subst e0; rfl⟩, qv, v_, Sl.nil, qp⟩, rfl, rfl⟩
 · -- set
   rename_i c1 c2 c3 c4
   have e0 : w0 = setU := tx_eq c3
   have hlr : 0 < r.length := by simp only [List.length_cons] at c4; omega
   obtain ⟨w1, r2, rfl⟩ : ∃ w1 r2, r = w1 :: r2 := by
    cases r with
    | nil => cases hlr
    | cons a b => exact ⟨a, b, rfl⟩
   obtain ⟨g, hcur⟩ : ∃ g, d.cur = some g := by
    cases hcur : d.cur with
    | some g => exact ⟨g, rfl⟩
    | none =>
      have e : d.rl qs = [] := by unfold Pq.rl; rw [hcur, (hok hcur).1]; rfl
      rw [e] at hc; exact absurd hc (by decide)
   have hrl : d.rl qs = d.done.map ruD ++ [(g, slD qs)] := by unfold Pq.rl; rw [hcur]
   have hw2 : ∀ w ∈ r2, w.length ≤ 100000 := fun w h => hw w (List.mem_cons_of_mem _ h)
   have hl2 : r2.length ≤ 100000 := by simp only [List.length_cons] at hl; omega
   have hV := pvar GP bp qv (.val qr.v) (.val qp.v) (.d (opsD d.form)) d.vars w1 hv
   have hK := pterm bp qv (.val qr.v) (.val qp.v) (.d (opsD d.form)) d.vars r2 hv hw2 hl2
   have hlen : (d.done.map ruD ++ [(g, slD qs)]).length = d.done.length + 1 := by simp
   have hj : d.done.length < (d.done.map ruD ++ [(g, slD qs)]).length := by omega
   have hat : (d.done.map ruD ++ [(g, slD qs)])[d.done.length]'hj = (g, slD qs) := by
    rw [List.getElem_append_right (by rw [List.length_map]; exact Nat.le_refl _)]; simp
   have hld : (ruX ((d.done.map ruD ++ [(g, slD qs)])[d.done.length]'hj))[1]? = some (slD qs) := by rw [hat]; rfl
   have hst : ∀ q' : Sl, (ruX (g, slD q')).map D.av = ((ruX ((d.done.map ruD ++ [(g, slD qs)])[d.done.length]'hj)).map D.av).set 1 (.val q'.v) := fun q' => by rw [hat]; rfl
   have hset : ∀ q' : Sl, (d.done.map ruD ++ [(g, slD qs)]).set d.done.length (g, slD q') = d.done.map ruD ++ [(g, slD q')] := fun q' => by
    rw [List.set_append_right _ _ (by rw [List.length_map]; exact Nat.le_refl _)]; simp
   have ej : (((d.done.map ruD ++ [(g, slD qs)]).length : Int) - 1).toNat = d.done.length := by omega
   have hru : 0 < d.tk.model.rules.length := by
    show 0 < d.rules.length
    rw [← Pq.rl_len d qs, hrl, hlen]; omega
   have hrl2 : ∀ q' : Sl, ({ d with sets := d.sets ++ [⟨varI d.vars w1, r2.map (padOp atoiV d.vars)⟩] } : Pq).rl q' = d.done.map ruD ++ [(g, slD q')] := fun q' => by unfold Pq.rl; dsimp only; rw [hcur]
   unfold pdH
   rw [hrl] at hc ⊢
   refine ⟨?_⟩
   repeat' (first
    | exact True.intro | refine stp1 ?_ | refine two ?_ ?_ | refine allc fun c_ => ?_
    | (refine imp fun hc => ?_) <;> try exact cx hc
    | refine all fun v_ => ?_)
   rw [ej]
   refine ⟨?_⟩
   refine J_region_HB [.cells bp 57 [.val qv.v, .val qr.v, .val qp.v, .d (opsD d.form)], rowE qv.v 68 4 Vr.cells d.vars, rowE qs.v 75 2 St.cells d.sets] mixed rfl (by (repeat ((with_reducible apply Hd.cons); (focus rfl))); exact Hd.nil) (by (repeat (with_reducible apply len_cons)); exact len_nil) (by decide +kernel) (by exact takeD) ?_
   repeat' (first
    | refine cag cal_pvar (hV) ?_
    | refine cag cal_pterm (hK) ?_
    | ((with_reducible apply (jbuild_agg (cs := St.cells ⟨varI d.vars w1, r2.map (padOp atoiV d.vars)⟩))); (focus rfl); (focus rfl); (focus (with_reducible exact ElC.h)); (focus rfl); (focus rfl); (focus rfl); (focus rfl); (focus rfl))
    | ((with_reducible apply (japU1 (f := St.cells) (u := ⟨varI d.vars w1, r2.map (padOp atoiV d.vars)⟩))); (focus rfl); (focus rfl); (focus (with_reducible exact ElC.h)); (focus exact updqD); (focus rfl); (focus rfl); (focus rfl); (focus rfl); (focus exact bndD); (focus exact bndD))
    | ((with_reducible apply (js_rowu (f := ruX) (a := (g, slD v_)) (xs := d.done.map ruD ++ [(g, slD qs)]) (j := d.done.length) (u := 1) (sz := 2))); (focus rfl); (focus rfl); (focus (with_reducible exact ElC.h)); (focus rfl); (focus exact fun _ => rfl); (focus decide); (focus exact hst v_); (focus exact updD))
    | exact True.intro | refine stpH ?_ | refine two ?_ ?_ | refine allc fun c_ => ?_
    | (refine imp fun hc => ?_) <;> try exact cx1 hc
    | refine all fun v_ => ?_)
   all_goals rw [hat]
   repeat' (first
    | refine cag cal_pvar (hV) ?_
    | refine cag cal_pterm (hK) ?_
    | ((with_reducible apply (jbuild_agg (cs := St.cells ⟨varI d.vars w1, r2.map (padOp atoiV d.vars)⟩))); (focus rfl); (focus rfl); (focus (with_reducible exact ElC.h)); (focus rfl); (focus rfl); (focus rfl); (focus rfl); (focus rfl))
    | ((with_reducible apply (japU1 (f := St.cells) (u := ⟨varI d.vars w1, r2.map (padOp atoiV d.vars)⟩))); (focus rfl); (focus rfl); (focus (with_reducible exact ElC.h)); (focus exact updqD); (focus rfl); (focus rfl); (focus rfl); (focus rfl); (focus exact bndD); (focus exact bndD))
    | ((with_reducible apply (js_rowu (f := ruX) (a := (g, slD v_)) (xs := d.done.map ruD ++ [(g, slD qs)]) (j := d.done.length) (u := 1) (sz := 2))); (focus rfl); (focus rfl); (focus (with_reducible exact ElC.h)); (focus rfl); (focus exact fun _ => rfl); (focus decide); (focus exact hst v_); (focus exact updD))
    | exact True.intro | refine stpH ?_ | refine two ?_ ?_ | refine allc fun c_ => ?_
    | (refine imp fun hc => ?_) <;> try exact cx1 hc
    | refine all fun v_ => ?_)
   all_goals rw [hset v_]
   all_goals
    refine retv (VS.take (hc := pdH bp (d.set ⟨varI d.vars w1, r2.map (padOp atoiV d.vars)⟩) qv qr v_ qp) (by unfold pdH Pq.set; rw [hrl2 v_]; exact takedD) (Env.le_refl _)) ?_
    exact ⟨⟨⟨d.set ⟨varI d.vars w1, r2.map (padOp atoiV d.vars)⟩, fun h => (by rw [show (d.set _).cur = d.cur from rfl, hcur] at h; cases h), by subst e0; rw [Pq.set_tk d _ hcur]; exact (pad_set_yes hru).symm⟩, qv, qr, v_, qp⟩, rfl, rfl⟩
 · -- set, but there is no rule
   rename_i c1 c2 c3 c4
   have e0 : w0 = setU := tx_eq c3
   rw [Pq.rl_len] at hc
   refine retv (VS.take (hc := pdH bp d qv qr qs qp) (by exact takedD) (Env.le_refl _)) ?_
   exact ⟨⟨⟨d, hok, by subst e0; exact (pad_set_no (fun k => hc (by exact_mod_cast k.2))).symm⟩, qv, qr, qs, qp⟩, rfl, rfl⟩
 · -- set, but nothing more
   rename_i c1 c2 c3
   have e0 : w0 = setU := tx_eq c3
   refine retv (VS.take (hc := pdH bp d qv qr qs qp) (by exact takedD) (Env.le_refl _)) ?_
   exact ⟨⟨⟨d, hok, by subst e0; exact (pad_set_no (fun k => hc (by simp only [List.length_cons]; omega))).symm⟩, qv, qr, qs, qp⟩, rfl, rfl⟩
 · -- prop
   rename_i c1 c2 c3
   have e0 : w0 = propW := tx_eq hc
   have hK := pterm bp qv (.val qr.v) (.val qp.v) (.d (opsD d.form)) d.vars r hv hw hl'
   refine ⟨?_⟩
   refine J_region_HB [.cells bp 57 [.val qv.v, .val qr.v, .val qp.v, .d (opsD d.form)], rowE qv.v 68 4 Vr.cells d.vars, rowE qp.v 27 1 termC d.props] mixed rfl (by (repeat ((with_reducible apply Hd.cons); (focus rfl))); exact Hd.nil) (by (repeat (with_reducible apply len_cons)); exact len_nil) (by decide +kernel) (by exact takeD) ?_
   repeat' (first
    | refine cag cal_pterm (hK) ?_
    | ((with_reducible apply (japU1 (f := termC) (u := r.map (padOp atoiV d.vars)))); (focus rfl); (focus rfl); (focus (with_reducible exact ElC.h)); (focus exact updqD); (focus rfl); (focus rfl); (focus rfl); (focus rfl); (focus exact bndD); (focus exact bndD))
    | exact True.intro | refine stpH ?_ | refine two ?_ ?_ | refine allc fun c_ => ?_
    | (refine imp fun hc => ?_) <;> try exact cx1 hc
    | refine all fun v_ => ?_)
   all_goals
    refine retv (VS.take (hc := pdH bp ⟨d.vars, d.done, d.cur, d.sets, d.props ++ [r.map (padOp atoiV d.vars)], d.form⟩ qv qr qs v_) (by exact takedD) (Env.le_refl _)) ?_
    exact ⟨⟨⟨⟨d.vars, d.done, d.cur, d.sets, d.props ++ [r.map (padOp atoiV d.vars)], d.form⟩, hok, by subst e0; rfl⟩, qv, qr, qs, v_⟩, rfl, rfl⟩
 · -- check
   rename_i c1 c2 c3 c4
   have e0 : w0 = checkW := tx_eq hc
   refine retv (VS.take (hc := pdH bp ⟨d.vars, d.done, d.cur, d.sets, d.props, r.map (padOp atoiV d.vars)⟩ qv qr qs qp) (by exact takedD) (Env.le_refl _)) ?_
   exact ⟨⟨⟨⟨d.vars, d.done, d.cur, d.sets, d.props, r.map (padOp atoiV d.vars)⟩, hok, by subst e0; rfl⟩, qv, qr, qs, qp⟩, rfl, rfl⟩
 · rename_i c1 c2 c3 c4
   refine retv (VS.take (hc := pdH bp d qv qr qs qp) (by exact takedD) (Env.le_refl _)) ?_
   exact ⟨⟨⟨d, hok, (pad_other (tx_ne c1) (tx_ne c2) (tx_ne c3) (tx_ne c4) (tx_ne hc)).symm⟩, qv, qr, qs, qp⟩, rfl, rfl⟩
end Go.Proofs.YtajnpfgelpkijaaGreatDoor
