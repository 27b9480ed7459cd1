/- A bundle of this claim's own texts: R8. -/
import Derived.Test.YtajnpfgelpkijaaGreatDoorA7
import Derived.Test.YtajnpfgelpkijaaGreatDoorA18
import Derived.Test.YtajnpfgelpkijaaGreatDoorA27
set_option linter.unusedVariables false
set_option linter.unusedSimpArgs false
set_option maxRecDepth 100000
set_option maxHeartbeats 4000000
namespace Go.Proofs.YtajnpfgelpkijaaGreatDoor
open Go Go.Av Go.Sp
theorem Wb : Cal Tryz.prog 13 := Cal.of Tryz.func13 (by kernel_rfl) (by kernel_rfl)
abbrev pdH (bp : Nat) (d : Pq) (qv qr qs qp : Sl) : H := [.cells bp 57 [.val qv.v, .val qr.v, .val qp.v, .d (AN d.form)], AF qv.v 68 4 Vr.cells d.vars, AF qr.v 72 2 ruX (d.rl qs), AF qs.v 75 2 St.cells d.sets, AF qp.v 27 1 Jc d.props]
structure PqL (d : Pq) : Prop where
 vars : d.vars.length ≤ 50000
 done : d.done.length ≤ 50000
 sets : d.sets.length ≤ 50000
 props : d.props.length ≤ 50000
abbrev vrA (v : Vr) : List AV := [.val (.string v.name), .int v.low, .int v.high, .int v.init]
theorem MI {t : Tk} {r : Ln} (h : ¬ (0 < r.length ∧ 0 < t.model.rules.length)) : BW Ae t (Kr :: r) = t := by
 unfold BW
 dsimp only
 rw [if_neg (by decide), if_neg (by decide), if_pos rfl, if_neg h]
theorem QS {t : Tk} {w : List UInt8} {r : Ln} (h : 0 < t.model.rules.length) : BW Ae t (Kr :: w :: r) = ⟨⟨t.model.vars, FU t.model.rules ⟨Be t.model.vars w, r.map (A4 Ae t.model.vars)⟩⟩, t.props, t.formula⟩ := by
 unfold BW
 dsimp only
 rw [if_neg (by decide), if_neg (by decide), if_pos rfl, if_pos ⟨by simp, h⟩]
 rfl
theorem VN {t : Tk} {w : List UInt8} {r : Ln} (h1 : w ≠ QT) (h2 : w ≠ HS) (h3 : w ≠ Kr) (h4 : w ≠ Hb) (h5 : w ≠ Ep) : BW Ae t (w :: r) = t := by
 unfold BW
 dsimp only
 rw [if_neg h1, if_neg h2, if_neg h3, if_neg h4, if_neg h5]
theorem Ny (bp : Nat) (d : Pq) (qv qr qs qp : Sl) (hok : d.ok) (hl : d.sets.length ≤ 50000) {ρ : Env} : VS ρ (pdH bp d qv qr qs qp) ρ [.cells bp 57 [.val qv.v, .val qr.v, .val qp.v, .d (AN d.form)], AF qv.v 68 4 Vr.cells d.vars, AF qr.v 72 2 ruX (d.rules.map ruD), AF qp.v 27 1 Jc d.props] := by
 cases hc : d.cur with
 | none =>
   have e : d.rl qs = d.rules.map ruD := by unfold Pq.rl Pq.rules; rw [hc]; simp
   unfold pdH
   rw [e]
   exact VS.take (by exact AB) (Env.le_refl _)
 | some g =>
   have e1 : d.rl qs = d.done.map ruD ++ [(g, slD qs)] := by unfold Pq.rl; rw [hc]
   have e2 : d.rules.map ruD = d.done.map ruD ++ [(g, Kc d.sets)] := by unfold Pq.rules; rw [hc, List.map_append]; rfl
   have e3 : AF qr.v 72 2 ruX (d.rules.map ruD) = Ent.row qr.v (d.rl qs).length 72 2 ((((d.done.map ruD ++ [(g, Kc d.sets)]).map ruX).flatten).map D.av) := by
    unfold AF
    rw [e2, e1]; simp only [List.length_append, List.length_cons, List.length_nil]
   rw [e3]
   unfold pdH
   have e4 : AF qr.v 72 2 ruX (d.rl qs) = Ent.row qr.v (d.rl qs).length 72 2 ((((d.done.map ruD ++ [(g, slD qs)]).map ruX).flatten).map D.av) := by
    unfold AF
    rw [e1]
   rw [e4]
   exact Gh (h1 := [_, _, _]) (h2 := [_]) (f := St.cells) (xs := d.sets) (v := qs.v) 32 rfl rfl (fun _ => rfl) (by omega) (CvE.refl _ _ _) (.keep (.keep (.row (Cvs.lastU (pre := [AN g]) (post := []) _ rfl rfl rfl) (.refl _))))
theorem fk (bp : Nat) (d : Pq) (qv qr qs qp : Sl) (w0 : List UInt8) (r : Ln) (hok : d.ok) (hL : PqL d) (hw : ∀ w ∈ r, w.length ≤ 100000) (hl : r.length ≤ 90000) : AC Tryz.prog GP 13 [.val (.pointer (some ⟨bp, 0, none⟩)), .d (Y9 (w0 :: r))] (pdH bp d qv qr qs qp) fun e h => ∃ y : {d' : Pq // d'.ok ∧ d'.tk = BW Ae d.tk (w0 :: r)} × Sl × Sl × Sl × Sl, e = .ret (.tup []) ∧ h = pdH bp y.1.1 y.2.1 y.2.2.1 y.2.2.2.1 y.2.2.2.2 := by
 obtain ⟨l1, l2, l3, l4⟩ := hL
 have hv : d.vars.length ≤ 100000 := by omega
 have hl' : r.length ≤ 100000 := by omega
 refine AK (ts := []) Tryz.f13.ntmps Tryz.func13 rfl rfl rfl (by simp [Tryz.ntmps13]) fun W I => ?_
 repeat' (first
  | refine cag F4 (UW bp qv (.val qr.v) (.val qp.v) (.d (AN d.form)) d.vars r hv hw hl') ?_
  | exact True.intro | refine cM ?_ | refine two ?_ ?_ | refine AG fun c_ => ?_
  | (refine imp fun hc => ?_) <;> try exact cx hc
  | refine all fun v_ => ?_)
 · -- var
   have e0 : w0 = QT := IF hc
   obtain ⟨bv, rfl⟩ : ∃ x, x = v_ := ⟨v_, rfl⟩
   refine AL (X := Nat) (fun i => [(0, .val (.pointer (some ⟨bp, 0, none⟩))), (5, .val (.pointer (some ⟨bv, 0, none⟩))), (23, .d (Y9 r)), (24, .int r.length), (25, .int i)]) (fun i => .cells bv 68 (vrA (CV Ae (r.take i))) :: pdH bp d qv qr qs qp) (fun i => i ≤ r.length) (fun i => r.length - i) 0 (Nat.zero_le _) (VS.take (by exact AB) ?_) ?_
   · exact leD
   intro i hi0
   by_cases hi : i < r.length
   · have hA := Atoi r[i] (hw _ (List.getElem_mem hi))
     by_cases i0 : i = 0
     · subst i0
       repeat' (first
        | refine ca Bu (hA) ?_
        | exact True.intro | refine AM ?_ | refine two ?_ ?_
        | (refine imp fun hc => ?_) <;> try exact cx hc
        | refine all fun v_ => ?_)
       refine ⟨1, by omega, by omega, VS.take (by rw [Vo _ _ hi]; exact AB) ?_⟩
       exact leD
     by_cases i1 : i = 1
     · subst i1
       repeat' (first
        | refine ca Bu (hA) ?_
        | exact True.intro | refine AM ?_ | refine two ?_ ?_
        | (refine imp fun hc => ?_) <;> try exact cx hc
        | refine all fun v_ => ?_)
       refine ⟨2, by omega, by omega, VS.take (by rw [VL _ _ hi]; exact AB) ?_⟩
       exact leD
     by_cases i2 : i = 2
     · subst i2
       repeat' (first
        | refine ca Bu (hA) ?_
        | exact True.intro | refine AM ?_ | refine two ?_ ?_
        | (refine imp fun hc => ?_) <;> try exact cx hc
        | refine all fun v_ => ?_)
       refine ⟨3, by omega, by omega, VS.take (by rw [Vn _ _ hi]; exact AB) ?_⟩
       exact leD
     by_cases i3 : i = 3
     · subst i3
       repeat' (first
        | refine ca Bu (hA) ?_
        | exact True.intro | refine AM ?_ | refine two ?_ ?_
        | (refine imp fun hc => ?_) <;> try exact cx hc
        | refine all fun v_ => ?_)
       refine ⟨4, by omega, by omega, VS.take (by rw [WC _ _ hi]; exact AB) ?_⟩
       exact leD
     repeat' (first
      | refine ca Bu (hA) ?_
      | exact True.intro | refine AM ?_ | refine two ?_ ?_
      | (refine imp fun hc => ?_) <;> try exact cx hc
      | refine all fun v_ => ?_)
     refine ⟨i + 1, by omega, by omega, VS.take (by rw [WH _ _ (by omega : 4 ≤ i)]; exact AB) ?_⟩
     exact leD
   obtain rfl : i = r.length := by omega
   rw [List.take_length]
   repeat' (first
    | ((with_reducible apply (Ar (cs := Vr.cells (CV Ae r)))); (focus rfl); (focus rfl); (focus (with_reducible exact ElC.h)); (focus rfl); (focus rfl); (focus rfl); (focus rfl); (focus rfl))
    | ((with_reducible apply (Bm (f := Vr.cells) (u := CV Ae r))); (focus rfl); (focus rfl); (focus (with_reducible exact ElC.h)); (focus exact BT); (focus rfl); (focus rfl); (focus rfl); (focus rfl); (focus exact Ad); (focus exact Ad))
    | exact True.intro | refine cM ?_ | refine two ?_ ?_ | refine AG fun c_ => ?_
    | (refine imp fun hc => ?_) <;> try exact cx hc
    | refine all fun v_ => ?_)
   refine ⟨?_⟩
   refine BC [AF qv.v 68 4 Vr.cells d.vars] mixed rfl (by (repeat ((with_reducible apply Hd.cons); (focus rfl))); exact Hd.nil) (by (repeat (with_reducible apply Aa)); exact len_nil) (by decide +kernel) (by exact AS) ?_
   repeat' (first
    | ((with_reducible apply (Ar (cs := Vr.cells (CV Ae r)))); (focus rfl); (focus rfl); (focus (with_reducible exact ElC.h)); (focus rfl); (focus rfl); (focus rfl); (focus rfl); (focus rfl))
    | ((with_reducible apply (Bm (f := Vr.cells) (u := CV Ae r))); (focus rfl); (focus rfl); (focus (with_reducible exact ElC.h)); (focus exact BT); (focus rfl); (focus rfl); (focus rfl); (focus rfl); (focus exact Ad); (focus exact Ad))
    | exact True.intro | refine AJ ?_ | refine two ?_ ?_ | refine AG fun c_ => ?_
    | (refine imp fun hc => ?_) <;> try exact cx1 hc
    | refine all fun v_ => ?_)
   all_goals
    refine AO (VS.take (hc := pdH bp ⟨d.vars ++ [CV Ae r], d.done, d.cur, d.sets, d.props, d.form⟩ v_ qr qs qp) (by exact AB) (Env.le_refl _)) ?_
    exact ⟨⟨⟨⟨d.vars ++ [CV Ae r], d.done, d.cur, d.sets, d.props, d.form⟩, hok, by subst e0; rfl⟩, v_, qr, qs, qp⟩, rfl, rfl⟩
 · -- rule
   rename_i c1
   have e0 : w0 = HS := IF hc
   have hK := UW bp qv (.val qr.v) (.val qp.v) (.d (AN d.form)) d.vars r hv hw hl'
   have hrl : (d.rules.map ruD).length ≤ 60000 := by
    rw [List.length_map, ← Pq.rl_len d qs]; unfold Pq.rl; rw [List.length_append, List.length_map]
    cases d.cur <;> simp <;> omega
   refine ⟨Rh (Ny bp d qv qr qs qp hok l3) ?_⟩
   refine BC [.cells bp 57 [.val qv.v, .val qr.v, .val qp.v, .d (AN d.form)], AF qv.v 68 4 Vr.cells d.vars, AF qr.v 72 2 ruX (d.rules.map ruD)] mixed rfl (by (repeat ((with_reducible apply Hd.cons); (focus rfl))); exact Hd.nil) (by (repeat (with_reducible apply Aa)); exact len_nil) (by decide +kernel) (by exact AS) ?_
   repeat' (first
    | refine cag F4 (hK) ?_
    | ((with_reducible apply (Ar (cs := ruX (r.map (A4 Ae d.vars), .ve (.slice none 0 0) rfl)))); (focus rfl); (focus rfl); (focus (with_reducible exact ElC.h)); (focus rfl); (focus rfl); (focus rfl); (focus rfl); (focus rfl))
    | ((with_reducible apply (Bm (f := ruX) (u := (r.map (A4 Ae d.vars), .ve (.slice none 0 0) rfl)))); (focus rfl); (focus rfl); (focus (with_reducible exact ElC.h)); (focus exact BT); (focus rfl); (focus rfl); (focus rfl); (focus rfl); (focus exact Ad); (focus exact Ad))
    | exact True.intro | refine AJ ?_ | refine two ?_ ?_ | refine AG fun c_ => ?_
    | (refine imp fun hc => ?_) <;> try exact cx1 hc
    | refine all fun v_ => ?_)
   all_goals
    refine AO (VS.trans (VS.nilrow 75 2) (VS.take (hc := pdH bp (d.rule (r.map (A4 Ae d.vars))) qv v_ Sl.nil qp) (by exact AB) (Env.le_refl _))) ?_
    exact ⟨⟨⟨d.rule (r.map (A4 Ae d.vars)), (fun h => by cases h), by subst e0; rfl⟩, qv, v_, Sl.nil, qp⟩, rfl, rfl⟩
 · -- set
   rename_i c1 c2 c3 c4
   have e0 : w0 = Kr := IF c3
   have hlr : 0 < r.length := by simp only [List.length_cons] at c4; omega
   obtain ⟨w1, r2, rfl⟩ : ∃ w1 r2, r = w1 :: r2 := by
    cases r with
    | nil => cases hlr
    | cons a b => exact ⟨a, b, rfl⟩
   obtain ⟨g, hcur⟩ : ∃ g, d.cur = some g := by
    cases hcur : d.cur with
    | some g => exact ⟨g, rfl⟩
    | none =>
      have e : d.rl qs = [] := by unfold Pq.rl; rw [hcur, (hok hcur).1]; rfl
      rw [e] at hc; exact absurd hc (by decide)
   have hrl : d.rl qs = d.done.map ruD ++ [(g, slD qs)] := by unfold Pq.rl; rw [hcur]
   have hw2 : ∀ w ∈ r2, w.length ≤ 100000 := fun w h => hw w (List.mem_cons_of_mem _ h)
   have hl2 : r2.length ≤ 100000 := by simp only [List.length_cons] at hl; omega
   have hV := fZ GP bp qv (.val qr.v) (.val qp.v) (.d (AN d.form)) d.vars w1 hv
   have hK := UW bp qv (.val qr.v) (.val qp.v) (.d (AN d.form)) d.vars r2 hv hw2 hl2
   have hlen : (d.done.map ruD ++ [(g, slD qs)]).length = d.done.length + 1 := by simp
   have hj : d.done.length < (d.done.map ruD ++ [(g, slD qs)]).length := by omega
   have hat : (d.done.map ruD ++ [(g, slD qs)])[d.done.length]'hj = (g, slD qs) := by
    rw [List.getElem_append_right (by rw [List.length_map]; exact Nat.le_refl _)]; simp
   have hld : (ruX ((d.done.map ruD ++ [(g, slD qs)])[d.done.length]'hj))[1]? = some (slD qs) := by rw [hat]; rfl
   have hst : ∀ q' : Sl, (ruX (g, slD q')).map D.av = ((ruX ((d.done.map ruD ++ [(g, slD qs)])[d.done.length]'hj)).map D.av).set 1 (.val q'.v) := fun q' => by rw [hat]; rfl
   have hset : ∀ q' : Sl, (d.done.map ruD ++ [(g, slD qs)]).set d.done.length (g, slD q') = d.done.map ruD ++ [(g, slD q')] := fun q' => by
    rw [List.set_append_right _ _ (by rw [List.length_map]; exact Nat.le_refl _)]; simp
   have ej : (((d.done.map ruD ++ [(g, slD qs)]).length : Int) - 1).toNat = d.done.length := by omega
   have hru : 0 < d.tk.model.rules.length := by
    show 0 < d.rules.length
    rw [← Pq.rl_len d qs, hrl, hlen]; omega
   have hrl2 : ∀ q' : Sl, ({ d with sets := d.sets ++ [⟨Be d.vars w1, r2.map (A4 Ae d.vars)⟩] } : Pq).rl q' = d.done.map ruD ++ [(g, slD q')] := fun q' => by unfold Pq.rl; dsimp only; rw [hcur]
   unfold pdH
   rw [hrl] at hc ⊢
   refine ⟨?_⟩
   repeat' (first
    | exact True.intro | refine Xm ?_ | refine two ?_ ?_ | refine AG fun c_ => ?_
    | (refine imp fun hc => ?_) <;> try exact cx hc
    | refine all fun v_ => ?_)
   rw [ej]
   refine ⟨?_⟩
   refine BC [.cells bp 57 [.val qv.v, .val qr.v, .val qp.v, .d (AN d.form)], AF qv.v 68 4 Vr.cells d.vars, AF qs.v 75 2 St.cells d.sets] mixed rfl (by (repeat ((with_reducible apply Hd.cons); (focus rfl))); exact Hd.nil) (by (repeat (with_reducible apply Aa)); exact len_nil) (by decide +kernel) (by exact AS) ?_
   repeat' (first
    | refine cag Ex (hV) ?_
    | refine cag F4 (hK) ?_
    | ((with_reducible apply (Ar (cs := St.cells ⟨Be d.vars w1, r2.map (A4 Ae d.vars)⟩))); (focus rfl); (focus rfl); (focus (with_reducible exact ElC.h)); (focus rfl); (focus rfl); (focus rfl); (focus rfl); (focus rfl))
    | ((with_reducible apply (Bm (f := St.cells) (u := ⟨Be d.vars w1, r2.map (A4 Ae d.vars)⟩))); (focus rfl); (focus rfl); (focus (with_reducible exact ElC.h)); (focus exact BT); (focus rfl); (focus rfl); (focus rfl); (focus rfl); (focus exact Ad); (focus exact Ad))
    | ((with_reducible apply (U7 (f := ruX) (a := (g, slD v_)) (xs := d.done.map ruD ++ [(g, slD qs)]) (j := d.done.length) (u := 1) (sz := 2))); (focus rfl); (focus rfl); (focus (with_reducible exact ElC.h)); (focus rfl); (focus exact fun _ => rfl); (focus decide); (focus exact hst v_); (focus exact B6))
    | exact True.intro | refine AJ ?_ | refine two ?_ ?_ | refine AG fun c_ => ?_
    | (refine imp fun hc => ?_) <;> try exact cx1 hc
    | refine all fun v_ => ?_)
   all_goals rw [hat]
   repeat' (first
    | refine cag Ex (hV) ?_
    | refine cag F4 (hK) ?_
    | ((with_reducible apply (Ar (cs := St.cells ⟨Be d.vars w1, r2.map (A4 Ae d.vars)⟩))); (focus rfl); (focus rfl); (focus (with_reducible exact ElC.h)); (focus rfl); (focus rfl); (focus rfl); (focus rfl); (focus rfl))
    | ((with_reducible apply (Bm (f := St.cells) (u := ⟨Be d.vars w1, r2.map (A4 Ae d.vars)⟩))); (focus rfl); (focus rfl); (focus (with_reducible exact ElC.h)); (focus exact BT); (focus rfl); (focus rfl); (focus rfl); (focus rfl); (focus exact Ad); (focus exact Ad))
    | ((with_reducible apply (U7 (f := ruX) (a := (g, slD v_)) (xs := d.done.map ruD ++ [(g, slD qs)]) (j := d.done.length) (u := 1) (sz := 2))); (focus rfl); (focus rfl); (focus (with_reducible exact ElC.h)); (focus rfl); (focus exact fun _ => rfl); (focus decide); (focus exact hst v_); (focus exact B6))
    | exact True.intro | refine AJ ?_ | refine two ?_ ?_ | refine AG fun c_ => ?_
    | (refine imp fun hc => ?_) <;> try exact cx1 hc
    | refine all fun v_ => ?_)
   all_goals rw [hset v_]
   all_goals
    refine AO (VS.take (hc := pdH bp (d.set ⟨Be d.vars w1, r2.map (A4 Ae d.vars)⟩) qv qr v_ qp) (by unfold pdH Pq.set; rw [hrl2 v_]; exact AB) (Env.le_refl _)) ?_
    exact ⟨⟨⟨d.set ⟨Be d.vars w1, r2.map (A4 Ae d.vars)⟩, fun h => (by rw [show (d.set _).cur = d.cur from rfl, hcur] at h; cases h), by subst e0; rw [Pq.set_tk d _ hcur]; exact (QS hru).symm⟩, qv, qr, v_, qp⟩, rfl, rfl⟩
 · -- set, but there is no rule
   rename_i c1 c2 c3 c4
   have e0 : w0 = Kr := IF c3
   rw [Pq.rl_len] at hc
   refine AO (VS.take (hc := pdH bp d qv qr qs qp) (by exact AB) (Env.le_refl _)) ?_
   exact ⟨⟨⟨d, hok, by subst e0; exact (MI (fun k => hc (by exact_mod_cast k.2))).symm⟩, qv, qr, qs, qp⟩, rfl, rfl⟩
 · -- set, but nothing more
   rename_i c1 c2 c3
   have e0 : w0 = Kr := IF c3
   refine AO (VS.take (hc := pdH bp d qv qr qs qp) (by exact AB) (Env.le_refl _)) ?_
   exact ⟨⟨⟨d, hok, by subst e0; exact (MI (fun k => hc (by simp only [List.length_cons]; omega))).symm⟩, qv, qr, qs, qp⟩, rfl, rfl⟩
 · -- prop
   rename_i c1 c2 c3
   have e0 : w0 = Hb := IF hc
   have hK := UW bp qv (.val qr.v) (.val qp.v) (.d (AN d.form)) d.vars r hv hw hl'
   refine ⟨?_⟩
   refine BC [.cells bp 57 [.val qv.v, .val qr.v, .val qp.v, .d (AN d.form)], AF qv.v 68 4 Vr.cells d.vars, AF qp.v 27 1 Jc d.props] mixed rfl (by (repeat ((with_reducible apply Hd.cons); (focus rfl))); exact Hd.nil) (by (repeat (with_reducible apply Aa)); exact len_nil) (by decide +kernel) (by exact AS) ?_
   repeat' (first
    | refine cag F4 (hK) ?_
    | ((with_reducible apply (Bm (f := Jc) (u := r.map (A4 Ae d.vars)))); (focus rfl); (focus rfl); (focus (with_reducible exact ElC.h)); (focus exact BT); (focus rfl); (focus rfl); (focus rfl); (focus rfl); (focus exact Ad); (focus exact Ad))
    | exact True.intro | refine AJ ?_ | refine two ?_ ?_ | refine AG fun c_ => ?_
    | (refine imp fun hc => ?_) <;> try exact cx1 hc
    | refine all fun v_ => ?_)
   all_goals
    refine AO (VS.take (hc := pdH bp ⟨d.vars, d.done, d.cur, d.sets, d.props ++ [r.map (A4 Ae d.vars)], d.form⟩ qv qr qs v_) (by exact AB) (Env.le_refl _)) ?_
    exact ⟨⟨⟨⟨d.vars, d.done, d.cur, d.sets, d.props ++ [r.map (A4 Ae d.vars)], d.form⟩, hok, by subst e0; rfl⟩, qv, qr, qs, v_⟩, rfl, rfl⟩
 · -- check
   rename_i c1 c2 c3 c4
   have e0 : w0 = Ep := IF hc
   refine AO (VS.take (hc := pdH bp ⟨d.vars, d.done, d.cur, d.sets, d.props, r.map (A4 Ae d.vars)⟩ qv qr qs qp) (by exact AB) (Env.le_refl _)) ?_
   exact ⟨⟨⟨⟨d.vars, d.done, d.cur, d.sets, d.props, r.map (A4 Ae d.vars)⟩, hok, by subst e0; rfl⟩, qv, qr, qs, qp⟩, rfl, rfl⟩
 · rename_i c1 c2 c3 c4
   refine AO (VS.take (hc := pdH bp d qv qr qs qp) (by exact AB) (Env.le_refl _)) ?_
   exact ⟨⟨⟨d, hok, (VN (KQ c1) (KQ c2) (KQ c3) (KQ c4) (KQ hc)).symm⟩, qv, qr, qs, qp⟩, rfl, rfl⟩
end Go.Proofs.YtajnpfgelpkijaaGreatDoor
