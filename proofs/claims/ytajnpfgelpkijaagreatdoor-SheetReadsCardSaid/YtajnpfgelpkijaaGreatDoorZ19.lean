/- A bundle of this claim's own texts: R16 R18. -/
import Derived.Test.YtajnpfgelpkijaaGreatDoorZ17
set_option linter.unusedVariables false
set_option linter.unusedSimpArgs false
set_option maxRecDepth 100000
set_option maxHeartbeats 4000000
namespace Go.Proofs.YtajnpfgelpkijaaGreatDoor
open Go Go.Av Go.Sp
theorem tr_rule {s : List UInt8} {W : World} {I : Nat → Prop} {br bt i f tm : Nat} {ws : List (List UInt8)} {d : Pq} {qv qr qs qp : Sl} {L w0 : List UInt8} {r : List (List UInt8)} (hs : ¬ 10000 < s.length) (hI : RdI s i f tm ws d) (hR : RdL s i f tm ws d L w0 r) (hi : i < s.length) (hten : s[i] = 10) (h3 : ¬ tm = 3) (k : w0 = ruleW) (c : tm < 2) : RdGo s W I br bt (i, f, tm, ws, d, qv, qr, qs, qp) := by
 obtain ⟨hi0, hcut, hN, hok, hrd, htm, hone⟩ := hI
 obtain ⟨hcut2, hW, hsl, hbad, hgo⟩ := hR
 obtain ⟨l1, l2, l3, l4, l5⟩ := Pq.count hN hok
 have hfi := hcut.le
 have hlen : (w0 :: r).length = r.length + 1 := rfl
 have h10 : ¬ ((s[i].toNat : Int) ≠ 10) := by rw [hten]; decide
 intro x Q2 hx hq2
 cases hx
 dsimp only [rdS, rdH]
 have hg := hgo ⟨⟨d.vars, d.rules ++ [⟨r.map (opF d.vars), []⟩]⟩, d.props, d.form⟩ 1 (by rw [k]; exact lineR_F (LineR.rule (q := ⟨d.tk, tm⟩) c r))
 have hrl : (d.rules.map ruD).length ≤ 60000 := by rw [List.length_map]; omega
 have hK := rtermOf GP qv qr d.vars (w0 :: r) 1 (by simp) (by omega) (by omega)
 simp only [List.drop_succ_cons, List.drop_zero] at hK
 have fV : ¬ ((tx w0 == ⟨#[118, 97, 114]⟩) = true) := fun h => absurd (k.symm.trans (tx_eq (w := varU) h)) (by decide)
 have fR : ¬ ((tx w0 == ⟨#[114, 117, 108, 101]⟩) = false) := fun h => tx_ne (w := ruleW) h k
 have fS : ¬ ((tx w0 == ⟨#[115, 101, 116]⟩) = true) := fun h => absurd (k.symm.trans (tx_eq (w := setU) h)) (by decide)
 have fP : ¬ ((tx w0 == ⟨#[112, 114, 111, 112]⟩) = true) := fun h => absurd (k.symm.trans (tx_eq (w := propW) h)) (by decide)
 have fC : ¬ ((tx w0 == ⟨#[99, 104, 101, 99, 107]⟩) = true) := fun h => absurd (k.symm.trans (tx_eq (w := checkW) h)) (by decide)
 repeat' (first
  | ((with_reducible apply jp); (focus (first | ((with_reducible apply pu_lenT); rfl; rfl) | ((with_reducible apply pu_eqT); rfl; rfl) | ((with_reducible apply pu_neT); rfl; rfl) | ((with_reducible apply pu_atT); rfl; rfl; rfl; omega))); (focus rfl))
  | refine allocD ?_
  | refine ca cal_wordsOf (hW) ?_
  | exact True.intro | refine stp0 ?_ | refine two ?_ ?_ | refine allc fun c_ => ?_
  | (refine imp fun hc => ?_) <;> try exact cx1 hc
  | refine all fun v_ => ?_)
 refine ⟨J_vs (h' := [.cells bt 29 [.val qv.v, .val qr.v, .val qp.v, .d (opsD d.form)], rowE qv.v 68 4 Vr.cells d.vars, rowE qr.v 72 2 ruX (d.rules.map ruD), rowE qp.v 27 1 termC d.props, .cells br 29 [.val (.slice none 0 0), .val (.slice none 0 0), .val (.slice none 0 0), .val (.slice none 0 0)]]) (VS.trans (VS.take (hc := [.cells bt 29 [.val qv.v, .val qr.v, .val qp.v, .d (opsD d.form)], rowE qv.v 68 4 Vr.cells d.vars, rowE qr.v 72 2 ruX (d.rl qs), rowE qs.v 75 2 St.cells d.sets, rowE qp.v 27 1 termC d.props, .cells br 29 [.val (.slice none 0 0), .val (.slice none 0 0), .val (.slice none 0 0), .val (.slice none 0 0)]]) (by exact takedD) (Env.le_refl _)) (VS.frame (tk_freeze bt d qv qr qs qp hok (by omega)) [.cells br 29 [.val (.slice none 0 0), .val (.slice none 0 0), .val (.slice none 0 0), .val (.slice none 0 0)]])) ?_⟩
 refine J_region_HB [rowE qv.v 68 4 Vr.cells d.vars, rowE qr.v 72 2 ruX (d.rules.map ruD)] mixed rfl (by (repeat ((with_reducible apply Hd.cons); (focus rfl))); exact Hd.nil) (by (repeat (with_reducible apply len_cons)); exact len_nil) (by decide +kernel) (by exact takeD) ?_
 repeat' (first
  | refine cag cal_termOf (hK) ?_
  | ((with_reducible apply (jbuild_agg (cs := ruX (r.map (opF d.vars), .ve (.slice none 0 0) rfl)))); (focus rfl); (focus rfl); (focus (with_reducible exact ElC.h)); (focus rfl); (focus rfl); (focus rfl); (focus rfl); (focus rfl))
  | ((with_reducible apply (japU1 (f := ruX) (u := (r.map (opF d.vars), .ve (.slice none 0 0) rfl)))); (focus rfl); (focus rfl); (focus (with_reducible exact ElC.h)); (focus exact updqD); (focus rfl); (focus rfl); (focus rfl); (focus rfl); (focus exact bndD); (focus exact bndD))
  | exact True.intro | refine stpH ?_ | refine two ?_ ?_ | refine allc fun c_ => ?_
  | (refine imp fun hc => ?_) <;> try exact cx1 hc
  | refine all fun v_ => ?_)
 all_goals
  refine ⟨(i + 1, i + 1, 1, ws ++ [L], d.rule (r.map (opF d.vars)), qv, v_, Sl.nil, qp), ⟨by dsimp only; omega, hcut2, hg.1, (fun h => by cases h), hg.2, (by show (1 : Nat) ≤ 3; decide), fun _ h => by cases h⟩, by dsimp only; omega, VS.trans (VS.nilrow 75 2) (VS.take (by exact takedD) ?_)⟩
  exact leD
theorem tr_prop {s : List UInt8} {W : World} {I : Nat → Prop} {br bt i f tm : Nat} {ws : List (List UInt8)} {d : Pq} {qv qr qs qp : Sl} {L w0 : List UInt8} {r : List (List UInt8)} (hs : ¬ 10000 < s.length) (hI : RdI s i f tm ws d) (hR : RdL s i f tm ws d L w0 r) (hi : i < s.length) (hten : s[i] = 10) (h3 : ¬ tm = 3) (k : w0 = propW) : RdGo s W I br bt (i, f, tm, ws, d, qv, qr, qs, qp) := by
 obtain ⟨hi0, hcut, hN, hok, hrd, htm, hone⟩ := hI
 obtain ⟨hcut2, hW, hsl, hbad, hgo⟩ := hR
 obtain ⟨l1, l2, l3, l4, l5⟩ := Pq.count hN hok
 have hfi := hcut.le
 have hlen : (w0 :: r).length = r.length + 1 := rfl
 have h10 : ¬ ((s[i].toNat : Int) ≠ 10) := by rw [hten]; decide
 intro x Q2 hx hq2
 cases hx
 dsimp only [rdS, rdH]
 have hg := hgo ⟨d.tk.model, d.props ++ [r.map (opF d.vars)], d.form⟩ 2 (by rw [k]; exact lineR_F (LineR.prop (q := ⟨d.tk, tm⟩) h3 r))
 have hK := rtermOf GP qv qr d.vars (w0 :: r) 1 (by simp) (by omega) (by omega)
 simp only [List.drop_succ_cons, List.drop_zero] at hK
 have fV : ¬ ((tx w0 == ⟨#[118, 97, 114]⟩) = true) := fun h => absurd (k.symm.trans (tx_eq (w := varU) h)) (by decide)
 have fR : ¬ ((tx w0 == ⟨#[114, 117, 108, 101]⟩) = true) := fun h => absurd (k.symm.trans (tx_eq (w := ruleW) h)) (by decide)
 have fS : ¬ ((tx w0 == ⟨#[115, 101, 116]⟩) = true) := fun h => absurd (k.symm.trans (tx_eq (w := setU) h)) (by decide)
 have fP : ¬ ((tx w0 == ⟨#[112, 114, 111, 112]⟩) = false) := fun h => tx_ne (w := propW) h k
 have fC : ¬ ((tx w0 == ⟨#[99, 104, 101, 99, 107]⟩) = true) := fun h => absurd (k.symm.trans (tx_eq (w := checkW) h)) (by decide)
 repeat' (first
  | ((with_reducible apply jp); (focus (first | ((with_reducible apply pu_lenT); rfl; rfl) | ((with_reducible apply pu_eqT); rfl; rfl) | ((with_reducible apply pu_neT); rfl; rfl) | ((with_reducible apply pu_atT); rfl; rfl; rfl; omega))); (focus rfl))
  | refine allocD ?_
  | refine ca cal_wordsOf (hW) ?_
  | exact True.intro | refine stp0 ?_ | refine two ?_ ?_ | refine allc fun c_ => ?_
  | (refine imp fun hc => ?_) <;> try exact cx1 hc
  | refine all fun v_ => ?_)
 refine ⟨?_⟩
 refine J_region_HB [rowE qv.v 68 4 Vr.cells d.vars, rowE qp.v 27 1 termC d.props] mixed rfl (by (repeat ((with_reducible apply Hd.cons); (focus rfl))); exact Hd.nil) (by (repeat (with_reducible apply len_cons)); exact len_nil) (by decide +kernel) (by exact takeD) ?_
 repeat' (first
  | refine cag cal_termOf (hK) ?_
  | ((with_reducible apply (japU1 (f := termC) (u := r.map (opF d.vars)))); (focus rfl); (focus rfl); (focus (with_reducible exact ElC.h)); (focus exact updqD); (focus rfl); (focus rfl); (focus rfl); (focus rfl); (focus exact bndD); (focus exact bndD))
  | exact True.intro | refine stpH ?_ | refine two ?_ ?_ | refine allc fun c_ => ?_
  | (refine imp fun hc => ?_) <;> try exact cx1 hc
  | refine all fun v_ => ?_)
 all_goals
  refine ⟨(i + 1, i + 1, 2, ws ++ [L], ⟨d.vars, d.done, d.cur, d.sets, d.props ++ [r.map (opF d.vars)], d.form⟩, qv, qr, qs, v_), ⟨by dsimp only; omega, hcut2, hg.1, hok, hg.2, (by show (2 : Nat) ≤ 3; decide), fun h => by cases h⟩, by dsimp only; omega, VS.take (by exact takedD) ?_⟩
  exact leD
end Go.Proofs.YtajnpfgelpkijaaGreatDoor
