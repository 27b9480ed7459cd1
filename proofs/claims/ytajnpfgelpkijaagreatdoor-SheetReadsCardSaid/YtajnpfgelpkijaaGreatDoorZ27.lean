/- A bundle of this claim's own texts: R22. -/
import Derived.Test.YtajnpfgelpkijaaGreatDoorZ18
import Derived.Test.YtajnpfgelpkijaaGreatDoorZ19
import Derived.Test.YtajnpfgelpkijaaGreatDoorZ20
import Derived.Test.YtajnpfgelpkijaaGreatDoorZ21
import Derived.Test.YtajnpfgelpkijaaGreatDoorZ22
import Derived.Test.YtajnpfgelpkijaaGreatDoorZ24
set_option linter.unusedVariables false
set_option linter.unusedSimpArgs false
set_option maxRecDepth 100000
set_option maxHeartbeats 4000000
namespace Go.Proofs.YtajnpfgelpkijaaGreatDoor
open Go Go.Av Go.Sp
theorem TaskRead (s : List UInt8) : ACr Tryz.prog GP 6 [.val (.string (tx s))] (.tup [tkA (readF 1 3 (tx s)).1, .int (readF 1 3 (tx s)).2]) := by
 refine AC_ofR (rs := [.cell 2 29, .tmp 3]) Tryz.f6.ntmps Tryz.func6 rfl rfl rfl (by simp [Tryz.ntmps6]) fun W I => ?_
 by_cases hs : 10000 < s.length
 · have e0 : readF 1 3 (tx s) = (tk0, 1) := by unfold readF; rw [if_pos (by rw [tx_size]; omega)]
   repeat' (first
    | ((with_reducible apply jp); (focus (first | ((with_reducible apply pu_lenT); rfl; rfl) | ((with_reducible apply pu_eqT); rfl; rfl) | ((with_reducible apply pu_neT); rfl; rfl) | ((with_reducible apply pu_atT); rfl; rfl; rfl; omega))); (focus rfl))
    | refine allocD ?_
    | exact True.intro | refine stpA ?_ | refine two ?_ ?_
    | (refine imp fun hc => ?_) <;> try exact cx hc
    | refine all fun v_ => ?_)
   exact retrl (xs := [.agg [.val (.slice none 0 0), .val (.slice none 0 0), .val (.slice none 0 0), .val (.slice none 0 0)], .int 1]) (ys := [tkA tk0, .int 1]) vid ⟨rv_agg rfl (by (with_reducible exact ElC.h)) rfl (by exact memD) rfl, rv_tmp rfl, trivial⟩ ⟨AV.le_agg ⟨AV.le_nil 4 40, AV.le_nil 2 48, AV.le_nil 1 24, AV.le_nil 2 16, trivial⟩, AV.le_refl _, trivial⟩ rfl (h' := []) (List.nil_sublist _) ⟨by rw [e0]; rfl, rfl⟩
 repeat' (first
  | ((with_reducible apply jp); (focus (first | ((with_reducible apply pu_lenT); rfl; rfl) | ((with_reducible apply pu_eqT); rfl; rfl) | ((with_reducible apply pu_neT); rfl; rfl) | ((with_reducible apply pu_atT); rfl; rfl; rfl; omega))); (focus rfl))
  | refine allocD ?_
  | exact True.intro | refine stpA ?_ | refine two ?_ ?_
  | (refine imp fun hc => ?_) <;> try exact cx hc
  | refine all fun v_ => ?_)
 rename_i br
 obtain ⟨bt, rfl⟩ : ∃ x, x = v_ := ⟨v_, rfl⟩
 refine J_loopV (X := RdX) (rdS s br bt) (rdH br bt) (fun y => RdI s y.1 y.2.1 y.2.2.1 y.2.2.2.1 y.2.2.2.2.1) (fun y => s.length - y.1) (0, 0, 0, [], pq0, Sl.nil, Sl.nil, Sl.nil, Sl.nil) ⟨Nat.zero_le _, CutI.start 10 s, TkN.zero, pq0_ok, rfl, Nat.zero_le _, fun h => (by cases h)⟩
  (VS.trans (VS.take (hc := [.cells bt 29 [.val (.slice none 0 0), .val (.slice none 0 0), .val (.slice none 0 0), .val (.slice none 0 0)], .cells br 29 [.val (.slice none 0 0), .val (.slice none 0 0), .val (.slice none 0 0), .val (.slice none 0 0)]]) (by exact takedD) (by exact leD))
  (VS.trans (VS.trans (VS.nilrow 53 2) (vdat (f := Fo.cells) (xs := []) (h1 := []) (h' := [.cells bt 29 [.val (.slice none 0 0), .val (.slice none 0 0), .val (.slice none 0 0), .d (opsD [])], .cells br 29 [.val (.slice none 0 0), .val (.slice none 0 0), .val (.slice none 0 0), .val (.slice none 0 0)]]) 16 rfl rfl (fun _ => rfl) (by decide) (CvE.refl _ _ _) (CvH.cells (.cons (.same _) (.cons (.same _) (.cons (.same _) (.cons .here .nil)))) (.refl _))))
  (VS.trans (VS.nilrow 68 4) (VS.trans (VS.nilrow 72 2) (VS.trans (VS.nilrow 75 2) (VS.trans (VS.nilrow 27 1) (VS.take (by exact takedD) (Env.le_refl _)))))))) ?_
 rintro ⟨i, f, tm, ws, d, qv, qr, qs, qp⟩ ⟨hi0, hcut, hN, hok, hrd, htm, hone⟩
 dsimp only at hi0 hcut hN hok hrd htm hone
 dsimp only [rdS, rdH]
 obtain ⟨l1, l2, l3, l4, l5⟩ := Pq.count hN hok
 have hfi := hcut.le
 by_cases hi : i < s.length
 · by_cases hten : s[i] = 10
   · obtain ⟨L, hL⟩ : ∃ L, L = (s.drop f).take (i - f) := ⟨_, rfl⟩
     have hcut2 := hcut.cut hi hten
     rw [← hL] at hcut2
     have hLl : L.length ≤ 10000 := by rw [hL, List.length_take, List.length_drop]; omega
     have hW := rwordsOf GP L (by omega)
     have hsl := spl_len 32 L
     obtain ⟨w0, r, hsp⟩ : ∃ w0 r, spl 32 L = w0 :: r := by
      cases h : spl 32 L with
      | nil => exact absurd h (spl_ne 32 _)
      | cons a b => exact ⟨a, b, rfl⟩
     have hbad : lineF ⟨d.tk, tm⟩ (w0 :: r) = none → readF 1 3 (tx s) = (tk0, 3) := fun h => readF_bad (by omega) hcut2 hrd (by rw [hsp]; exact h)
     have hgo : ∀ q' tm', lineF ⟨d.tk, tm⟩ (w0 :: r) = some ⟨q', tm'⟩ → TkN (i + 1) q' ∧ readL ⟨tk0, 0⟩ ((ws ++ [L]).map (spl 32)) = some ⟨q', tm'⟩ := fun q' tm' h => ⟨TkN.lineF (q := ⟨d.tk, tm⟩) hN h, readL_next hrd (by rw [hsp]; exact h)⟩
     rw [hsp] at hW hsl
     rw [show (w0 :: r).length = r.length + 1 from rfl] at hsl
     rw [hL, show (s.drop f).take (i - f) = (s.drop (f : Int).toNat).take ((i : Int).toNat - (f : Int).toNat) from rfl] at hW
     have hRL : RdL s i f tm ws d L w0 r := ⟨hcut2, hW, by omega, hbad, hgo⟩
     have hRI : RdI s i f tm ws d := ⟨hi0, hcut, hN, hok, hrd, htm, hone⟩
     have hend : RdGo s W I br bt (i, f, tm, ws, d, qv, qr, qs, qp) := by
      by_cases h3 : tm = 3
      · exact tr_done hs hRI hRL hi hten h3
      by_cases k1 : w0 = varU
      · by_cases c : tm = 0 ∧ r.length = 4
        · exact tr_var hs hRI hRL hi hten h3 k1 c
        · exact tr_novar hs hRI hRL hi hten h3 k1 c
      by_cases k2 : w0 = ruleW
      · by_cases c : tm < 2
        · exact tr_rule hs hRI hRL hi hten h3 k2 c
        · exact tr_norule hs hRI hRL hi hten h3 k2 c
      by_cases k3 : w0 = setU
      · by_cases c : tm = 1 ∧ 0 < r.length
        · exact tr_set hs hRI hRL hi hten h3 k3 c
        · exact tr_noset hs hRI hRL hi hten h3 k3 c
      by_cases k4 : w0 = propW
      · exact tr_prop hs hRI hRL hi hten h3 k4
      by_cases k5 : w0 = checkW
      · exact tr_check hs hRI hRL hi hten h3 k5
      exact tr_other hs hRI hRL hi hten h3 k1 k2 k3 k4 k5
     exact hend _ _ rfl (fun ρ h hq => hq)
   · have hten' : s[i].toNat ≠ 10 := fun e => hten (UInt8.toNat_inj.1 e)
     have h10 : ¬ ((s[i].toNat : Int) = 10) := by omega
     repeat' (first
      | ((with_reducible apply jp); (focus (first | ((with_reducible apply pu_lenT); rfl; rfl) | ((with_reducible apply pu_eqT); rfl; rfl) | ((with_reducible apply pu_neT); rfl; rfl) | ((with_reducible apply pu_atT); rfl; rfl; rfl; omega))); (focus rfl))
      | refine allocD ?_
      | exact True.intro | refine stpA ?_ | refine two ?_ ?_
      | (refine imp fun hc => ?_) <;> try exact cx hc
      | refine all fun v_ => ?_)
     all_goals
      refine ⟨(i + 1, f, tm, ws, d, qv, qr, qs, qp), ⟨by dsimp only; omega, hcut.on hi hten, ⟨Nat.le_succ_of_le hN.vars, Nat.le_succ_of_le hN.rules, fun r hr => Nat.le_succ_of_le (hN.sets r hr), Nat.le_succ_of_le hN.props⟩, hok, hrd, htm, hone⟩, by dsimp only; omega, VS.take (by exact takedD) ?_⟩
      exact leD
 obtain rfl : i = s.length := by omega
 have hend := readF_end (by omega) hcut hrd
 refine J_vs (h' := [.cells bt 29 [.d (varsD d.tk.model.vars), .d (rulesD d.tk.model.rules), .d (termsD d.tk.props), .d (opsD d.tk.formula)], .cells br 29 [.val (.slice none 0 0), .val (.slice none 0 0), .val (.slice none 0 0), .val (.slice none 0 0)]]) (VS.trans (VS.take (hc := [.cells bt 29 [.val qv.v, .val qr.v, .val qp.v, .d (opsD d.form)], rowE qv.v 68 4 Vr.cells d.vars, rowE qr.v 72 2 ruX (d.rl qs), rowE qs.v 75 2 St.cells d.sets, rowE qp.v 27 1 termC d.props, .cells br 29 [.val (.slice none 0 0), .val (.slice none 0 0), .val (.slice none 0 0), .val (.slice none 0 0)]]) (by exact takedD) (Env.le_refl _)) (VS.frame (tk_all bt d qv qr qs qp hok (by omega) (by omega) (by omega) (by omega)) [.cells br 29 [.val (.slice none 0 0), .val (.slice none 0 0), .val (.slice none 0 0), .val (.slice none 0 0)]])) ?_
 have hT := TaskFault GP d.tk
 by_cases c : tm = 3 ∧ f = s.length ∧ taskF d.tk = 0
 · rw [if_pos c] at hend
   obtain ⟨c1, c2, c3⟩ := c
   repeat' (first
    | ((with_reducible apply jp); (focus (first | ((with_reducible apply pu_lenT); rfl; rfl) | ((with_reducible apply pu_eqT); rfl; rfl) | ((with_reducible apply pu_neT); rfl; rfl) | ((with_reducible apply pu_atT); rfl; rfl; rfl; omega))); (focus rfl))
    | refine allocD ?_
    | refine ca cal_TaskFault (hT) ?_
    | exact True.intro | refine stpH ?_ | refine two ?_ ?_ | refine allc fun c_ => ?_
    | (refine imp fun hc => ?_) <;> try exact cx1 hc
    | refine all fun v_ => ?_)
   rw [hend]
   exact retr (VS.of_le (Env.le_refl _)) (xs := [tkA d.tk, .int 0]) ⟨rv_agg rfl (by (with_reducible exact ElC.h)) rfl (by exact memD) rfl, rv_tmp rfl, trivial⟩ rfl (h' := []) (List.nil_sublist _) ⟨rfl, rfl⟩
 · rw [if_neg c] at hend
   repeat' (first
    | ((with_reducible apply jp); (focus (first | ((with_reducible apply pu_lenT); rfl; rfl) | ((with_reducible apply pu_eqT); rfl; rfl) | ((with_reducible apply pu_neT); rfl; rfl) | ((with_reducible apply pu_atT); rfl; rfl; rfl; omega))); (focus rfl))
    | refine allocD ?_
    | refine ca cal_TaskFault (hT) ?_
    | exact True.intro | refine stpH ?_ | refine two ?_ ?_ | refine allc fun c_ => ?_
    | (refine imp fun hc => ?_) <;> try exact cx1 hc
    | refine all fun v_ => ?_)
   all_goals exact retrl (xs := [.agg [.val (.slice none 0 0), .val (.slice none 0 0), .val (.slice none 0 0), .val (.slice none 0 0)], .int 3]) (ys := [tkA tk0, .int 3]) vid ⟨rv_agg rfl (by (with_reducible exact ElC.h)) rfl (by exact memD) rfl, rv_tmp rfl, trivial⟩ ⟨AV.le_agg ⟨AV.le_nil 4 40, AV.le_nil 2 48, AV.le_nil 1 24, AV.le_nil 2 16, trivial⟩, AV.le_refl _, trivial⟩ rfl (h' := []) (List.nil_sublist _) ⟨by rw [hend]; rfl, rfl⟩
end Go.Proofs.YtajnpfgelpkijaaGreatDoor
