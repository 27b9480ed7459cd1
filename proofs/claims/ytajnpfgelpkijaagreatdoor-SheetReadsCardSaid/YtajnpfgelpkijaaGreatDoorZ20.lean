/- A bundle of this claim's own texts: R17. -/
import Derived.Test.YtajnpfgelpkijaaGreatDoorZ17
set_option linter.unusedVariables false
set_option linter.unusedSimpArgs false
set_option maxRecDepth 100000
set_option maxHeartbeats 4000000
namespace Go.Proofs.YtajnpfgelpkijaaGreatDoor
open Go Go.Av Go.Sp
theorem tr_set {s : List UInt8} {W : World} {I : Nat → Prop} {br bt i f tm : Nat} {ws : List (List UInt8)} {d : Pq} {qv qr qs qp : Sl} {L w0 : List UInt8} {r : List (List UInt8)} (hs : ¬ 10000 < s.length) (hI : RdI s i f tm ws d) (hR : RdL s i f tm ws d L w0 r) (hi : i < s.length) (hten : s[i] = 10) (h3 : ¬ tm = 3) (k : w0 = setU) (c : tm = 1 ∧ 0 < r.length) : RdGo s W I br bt (i, f, tm, ws, d, qv, qr, qs, qp) := by
 obtain ⟨hi0, hcut, hN, hok, hrd, htm, hone⟩ := hI
 obtain ⟨hcut2, hW, hsl, hbad, hgo⟩ := hR
 obtain ⟨l1, l2, l3, l4, l5⟩ := Pq.count hN hok
 have hfi := hcut.le
 have hlen : (w0 :: r).length = r.length + 1 := rfl
 have h10 : ¬ ((s[i].toNat : Int) ≠ 10) := by rw [hten]; decide
 intro x Q2 hx hq2
 cases hx
 dsimp only [rdS, rdH]
 obtain ⟨c1, c2⟩ := c
 obtain ⟨w1, r2, rfl⟩ : ∃ w1 r2, r = w1 :: r2 := by
  cases r with
  | nil => cases c2
  | cons a b => exact ⟨a, b, rfl⟩
 obtain ⟨g, hcur⟩ : ∃ g, d.cur = some g := by
  cases hcur : d.cur with
  | some g => exact ⟨g, rfl⟩
  | none => exact absurd hcur (hone c1)
 have hlen2 : (w1 :: r2).length = r2.length + 1 := rfl
 have hrl : d.rl qs = d.done.map ruD ++ [(g, slD qs)] := by unfold Pq.rl; rw [hcur]
 have hV := rvarOf GP qv qr d.vars w1 (by omega)
 have hK := rtermOf GP qv qr d.vars (w0 :: w1 :: r2) 2 (by simp) (by omega) (by omega)
 simp only [List.drop_succ_cons, List.drop_zero] at hK
 have hll : (d.done.map ruD ++ [(g, slD qs)]).length = d.done.length + 1 := by simp
 have hj : d.done.length < (d.done.map ruD ++ [(g, slD qs)]).length := by omega
 have hat : (d.done.map ruD ++ [(g, slD qs)])[d.done.length]'hj = (g, slD qs) := by
  rw [List.getElem_append_right (by rw [List.length_map]; exact Nat.le_refl _)]; simp
 have hst : ∀ q' : Sl, (ruX (g, slD q')).map D.av = ((ruX ((d.done.map ruD ++ [(g, slD qs)])[d.done.length]'hj)).map D.av).set 1 (.val q'.v) := fun q' => by rw [hat]; rfl
 have hset : ∀ q' : Sl, (d.done.map ruD ++ [(g, slD qs)]).set d.done.length (g, slD q') = d.done.map ruD ++ [(g, slD q')] := fun q' => by
  rw [List.set_append_right _ _ (by rw [List.length_map]; exact Nat.le_refl _)]; simp
 have ej : (((d.done.map ruD ++ [(g, slD qs)]).length : Int) - 1).toNat = d.done.length := by omega
 have hrl2 : ∀ q' : Sl, ({ d with sets := d.sets ++ [⟨varI d.vars w1, r2.map (opF d.vars)⟩] } : Pq).rl q' = d.done.map ruD ++ [(g, slD q')] := fun q' => by unfold Pq.rl; dsimp only; rw [hcur]
 have hg := hgo (d.set ⟨varI d.vars w1, r2.map (opF d.vars)⟩).tk 1 (by rw [k, Pq.set_tk d _ hcur]; exact lineR_F (LineR.set (q := ⟨d.tk, tm⟩) c1 w1 r2))
 have fV : ¬ ((tx w0 == ⟨#[118, 97, 114]⟩) = true) := fun h => absurd (k.symm.trans (tx_eq (w := varU) h)) (by decide)
 have fR : ¬ ((tx w0 == ⟨#[114, 117, 108, 101]⟩) = true) := fun h => absurd (k.symm.trans (tx_eq (w := ruleW) h)) (by decide)
 have fS : ¬ ((tx w0 == ⟨#[115, 101, 116]⟩) = false) := fun h => tx_ne (w := setU) h k
 have fP : ¬ ((tx w0 == ⟨#[112, 114, 111, 112]⟩) = true) := fun h => absurd (k.symm.trans (tx_eq (w := propW) h)) (by decide)
 have fC : ¬ ((tx w0 == ⟨#[99, 104, 101, 99, 107]⟩) = true) := fun h => absurd (k.symm.trans (tx_eq (w := checkW) h)) (by decide)
 unfold tkH
 rw [hrl]
 repeat' (first
  | ((with_reducible apply jp); (focus (first | ((with_reducible apply pu_lenT); rfl; rfl) | ((with_reducible apply pu_eqT); rfl; rfl) | ((with_reducible apply pu_neT); rfl; rfl) | ((with_reducible apply pu_atT); rfl; rfl; rfl; omega))); (focus rfl))
  | refine allocD ?_
  | refine ca cal_wordsOf (hW) ?_
  | exact True.intro | refine stp0 ?_ | refine two ?_ ?_ | refine allc fun c_ => ?_
  | (refine imp fun hc => ?_) <;> try exact cx1 hc
  | refine all fun v_ => ?_)
 rw [show ((d.done.map ruD ++ [(g, slD qs)]).length : Int) - 1 = (d.done.length : Int) by omega]
 refine ⟨?_⟩
 refine J_region_HB [rowE qv.v 68 4 Vr.cells d.vars, rowE qs.v 75 2 St.cells d.sets] mixed rfl (by (repeat ((with_reducible apply Hd.cons); (focus rfl))); exact Hd.nil) (by (repeat (with_reducible apply len_cons)); exact len_nil) (by decide +kernel) (by exact takeD) ?_
 repeat' (first
  | refine cag cal_varOf (hV) ?_
  | refine cag cal_termOf (hK) ?_
  | ((with_reducible apply (jbuild_agg (cs := St.cells ⟨varI d.vars w1, r2.map (opF d.vars)⟩))); (focus rfl); (focus rfl); (focus (with_reducible exact ElC.h)); (focus rfl); (focus rfl); (focus rfl); (focus rfl); (focus rfl))
  | ((with_reducible apply (japU1 (f := St.cells) (u := ⟨varI d.vars w1, r2.map (opF d.vars)⟩))); (focus rfl); (focus rfl); (focus (with_reducible exact ElC.h)); (focus exact updqD); (focus rfl); (focus rfl); (focus rfl); (focus rfl); (focus exact bndD); (focus exact bndD))
  | ((with_reducible apply (js_rowu (f := ruX) (a := (g, slD v_)) (xs := d.done.map ruD ++ [(g, slD qs)]) (j := d.done.length) (u := 1) (sz := 2))); (focus rfl); (focus rfl); (focus (with_reducible exact ElC.h)); (focus rfl); (focus exact fun _ => rfl); (focus decide); (focus exact hst v_); (focus exact updD))
  | exact True.intro | refine stpH ?_ | refine two ?_ ?_ | refine allc fun c_ => ?_
  | (refine imp fun hc => ?_) <;> try exact cx1 hc
  | refine all fun v_ => ?_)
 all_goals rw [hat]
 repeat' (first
  | refine cag cal_varOf (hV) ?_
  | refine cag cal_termOf (hK) ?_
  | ((with_reducible apply (jbuild_agg (cs := St.cells ⟨varI d.vars w1, r2.map (opF d.vars)⟩))); (focus rfl); (focus rfl); (focus (with_reducible exact ElC.h)); (focus rfl); (focus rfl); (focus rfl); (focus rfl); (focus rfl))
  | ((with_reducible apply (japU1 (f := St.cells) (u := ⟨varI d.vars w1, r2.map (opF d.vars)⟩))); (focus rfl); (focus rfl); (focus (with_reducible exact ElC.h)); (focus exact updqD); (focus rfl); (focus rfl); (focus rfl); (focus rfl); (focus exact bndD); (focus exact bndD))
  | ((with_reducible apply (js_rowu (f := ruX) (a := (g, slD v_)) (xs := d.done.map ruD ++ [(g, slD qs)]) (j := d.done.length) (u := 1) (sz := 2))); (focus rfl); (focus rfl); (focus (with_reducible exact ElC.h)); (focus rfl); (focus exact fun _ => rfl); (focus decide); (focus exact hst v_); (focus exact updD))
  | exact True.intro | refine stpH ?_ | refine two ?_ ?_ | refine allc fun c_ => ?_
  | (refine imp fun hc => ?_) <;> try exact cx1 hc
  | refine all fun v_ => ?_)
 all_goals rw [hset v_]
 all_goals
  refine ⟨(i + 1, i + 1, 1, ws ++ [L], d.set ⟨varI d.vars w1, r2.map (opF d.vars)⟩, qv, qr, v_, qp), ⟨by dsimp only; omega, hcut2, hg.1, (fun h => by rw [show (d.set _).cur = d.cur from rfl, hcur] at h; cases h), hg.2, (by show (1 : Nat) ≤ 3; decide), fun _ => by rw [show (d.set _).cur = d.cur from rfl, hcur]; exact fun h => by cases h⟩, by dsimp only; omega, VS.take (hc := .cells br 29 [.val (.slice none 0 0), .val (.slice none 0 0), .val (.slice none 0 0), .val (.slice none 0 0)] :: [.cells bt 29 [.val qv.v, .val qr.v, .val qp.v, .d (opsD d.form)], rowE qv.v 68 4 Vr.cells d.vars, rowE qr.v 72 2 ruX (({ d with sets := d.sets ++ [⟨varI d.vars w1, r2.map (opF d.vars)⟩] } : Pq).rl v_), rowE v_.v 75 2 St.cells (d.sets ++ [⟨varI d.vars w1, r2.map (opF d.vars)⟩]), rowE qp.v 27 1 termC d.props]) (by rw [hrl2 v_]; exact takedD) ?_⟩
  exact leD
end Go.Proofs.YtajnpfgelpkijaaGreatDoor
