/- A bundle of this claim's own texts: R10. -/
import Derived.Test.YtajnpfgelpkijaaGreatDoorZ11
import Derived.Test.YtajnpfgelpkijaaGreatDoorZ15
import Derived.Test.YtajnpfgelpkijaaGreatDoorZ16
import Derived.Test.YtajnpfgelpkijaaGreatDoorZ25
set_option linter.unusedVariables false
set_option linter.unusedSimpArgs false
set_option maxRecDepth 100000
set_option maxHeartbeats 4000000
namespace Go.Proofs.YtajnpfgelpkijaaGreatDoor
open Go Go.Av Go.Sp Go.RowKit
theorem cal_Lines : Cal Tryz.prog 12 := Cal.of Tryz.func12 (by kernel_rfl) (by kernel_rfl)
theorem cal_Read : Cal Tryz.prog 5 := Cal.of Tryz.func5 (by kernel_rfl) (by kernel_rfl)
theorem bls_pad : Bls Tryz.prog 57 [.slice none 0 0, .slice none 0 0, .slice none 0 0, .slice none 0 0] [(0, 4)] := by unfold Bls; kernel_rfl
instance instR10_1 : BlsC Tryz.prog 57 [.slice none 0 0, .slice none 0 0, .slice none 0 0, .slice none 0 0] [(0, 4)] := ⟨bls_pad⟩
theorem pd_all (bp : Nat) (d : Pq) (qv qr qs qp : Sl) (hok : d.ok) (hv : d.vars.length ≤ 50000) (hs : d.sets.length ≤ 50000) (hr : d.rules.length ≤ 50000) (hp : d.props.length ≤ 50000) {ρ : Env} :
 VS ρ (pdH bp d qv qr qs qp) ρ [.cells bp 57 [.d (varsD d.tk.model.vars), .d (rulesD d.tk.model.rules), .d (termsD d.tk.props), .d (opsD d.tk.formula)]] := by
 refine VS.trans (pd_freeze bp d qv qr qs qp hok hs) ?_
 have er : (d.rules.map ruD).map ruX = d.rules.map Ru.cells := by rw [List.map_map]; rfl
 have e1 : (D.l 2 48 ((d.rules.map ruD).map ruX)) = rulesD d.rules := by rw [er]
 refine VS.trans (vdat (h1 := [_]) (h2 := [_, _]) (f := Vr.cells) (xs := d.vars) (v := qv.v) 40 rfl rfl (fun _ => rfl) (by omega) (CvE.refl _ _ _) (.cells (.cons .here (.cons (.same _) (.cons (.same _) (.cons (.same _) .nil)))) (.refl _))) ?_
 refine VS.trans (vdat (h1 := [_]) (h2 := [_]) (f := ruX) (xs := d.rules.map ruD) (v := qr.v) 48 rfl rfl (fun _ => rfl) (by rw [List.length_map]; omega) (CvE.refl _ _ _) (.cells (.cons (.same _) (.cons .here (.cons (.same _) (.cons (.same _) .nil)))) (.refl _))) ?_
 rw [e1]
 exact vdat (h1 := [_]) (h2 := []) (f := termC) (xs := d.props) (v := qp.v) 24 rfl rfl (fun _ => rfl) (by omega) (CvE.refl _ _ _) (.cells (.cons (.same _) (.cons (.same _) (.cons .here (.cons (.same _) .nil)))) (.refl _))
def RdH (bc br bp : Nat) (pre : List (List UInt8)) (h : H) : Prop := ∃ d qv qr qs qp, h = .cells bc 55 [.val (.pointer (some ⟨bp, 0, none⟩))] :: .cells br 29 [.val (.slice none 0 0), .val (.slice none 0 0), .val (.slice none 0 0), .val (.slice none 0 0)] :: pdH bp d qv qr qs qp ∧ d.ok ∧ d.tk = pre.foldl (fun t w => padLine atoiV t (spl 32 (Lib.trimSuffix w [10]))) tk0
theorem Read (s : List UInt8) : ACr Tryz.prog GP 5 [.val (.string (tx s))] (.tup [tkA (progF atoiV 1 3 (tx s)).1, .int (progF atoiV 1 3 (tx s)).2]) := by
 refine AC_ofM Tryz.f5.ntmps Tryz.func5 rfl rfl (by simp [Tryz.ntmps5]) fun W I => ?_
 have hnone := postM_none (P := Tryz.prog) (fn := Tryz.f5) (G := GP) (W := W) (I := I) (h := []) (Q := fun e h => e = .ret (.tup [tkA (progF atoiV 1 3 (tx s)).1, .int (progF atoiV 1 3 (tx s)).2]) ∧ h = []) (rs := [.cell 2 29, .tmp 3]) (n := Tryz.f5.ntmps) rfl
 refine JP_seq ?_ hnone
 repeat' (first
  | ((with_reducible apply jp); (focus (first | ((with_reducible apply pu_lenT); rfl; rfl) | ((with_reducible apply pu_eqT); rfl; rfl) | ((with_reducible apply pu_neT); rfl; rfl) | ((with_reducible apply pu_atT); rfl; rfl; rfl; omega))); (focus rfl))
  | refine allocD ?_
  | refine cag cal_Lines (Lines s) ?_
  | exact True.intro | refine stpA ?_ | refine two ?_ ?_
  | (refine imp fun hc => ?_) <;> try exact cx hc
  | refine all fun v_ => ?_)
 refine JP_seq ?_ hnone
 repeat' (first
  | ((with_reducible apply jp); (focus (first | ((with_reducible apply pu_lenT); rfl; rfl) | ((with_reducible apply pu_eqT); rfl; rfl) | ((with_reducible apply pu_neT); rfl; rfl) | ((with_reducible apply pu_atT); rfl; rfl; rfl; omega))); (focus rfl))
  | refine allocD ?_
  | refine cag cal_Lines (Lines s) ?_
  | exact True.intro | refine stpA ?_ | refine two ?_ ?_
  | (refine imp fun hc => ?_) <;> try exact cx hc
  | refine all fun v_ => ?_)
 · have e0 : progF atoiV 1 3 (tx s) = (tk0, 1) := by unfold progF; rw [if_pos (by rw [tx_size]; omega)]
   exact retrl (xs := [.agg [.val (.slice none 0 0), .val (.slice none 0 0), .val (.slice none 0 0), .val (.slice none 0 0)], .int 1]) (ys := [tkA tk0, .int 1]) vid ⟨rv_agg rfl (by (with_reducible exact ElC.h)) rfl (by exact memD) rfl, rv_tmp rfl, trivial⟩ ⟨AV.le_agg ⟨AV.le_nil 4 40, AV.le_nil 2 48, AV.le_nil 1 24, AV.le_nil 2 16, trivial⟩, AV.le_refl _, trivial⟩ rfl (h' := []) (List.nil_sublist _) ⟨by rw [e0]; rfl, rfl⟩
 refine JP_seq ?_ hnone
 repeat' (first
  | ((with_reducible apply jp); (focus (first | ((with_reducible apply pu_lenT); rfl; rfl) | ((with_reducible apply pu_eqT); rfl; rfl) | ((with_reducible apply pu_neT); rfl; rfl) | ((with_reducible apply pu_atT); rfl; rfl; rfl; omega))); (focus rfl))
  | refine allocD ?_
  | refine cag cal_Lines (Lines s) ?_
  | exact True.intro | refine stpA ?_ | refine two ?_ ?_
  | (refine imp fun hc => ?_) <;> try exact cx hc
  | refine all fun v_ => ?_)
 rename_i br bp
 obtain ⟨bc, rfl⟩ : ∃ x, x = v_ := ⟨v_, rfl⟩
 refine JP_two (JP_seq (Q := fun _ _ _ => False) ?_ (fun e a w hl => by obtain ⟨_, _, _, _, _, _, hf⟩ := hl; exact hf.elim))
 repeat' (first
  | ((with_reducible apply jp); (focus (first | ((with_reducible apply pu_lenT); rfl; rfl) | ((with_reducible apply pu_eqT); rfl; rfl) | ((with_reducible apply pu_neT); rfl; rfl) | ((with_reducible apply pu_atT); rfl; rfl; rfl; omega))); (focus rfl))
  | refine allocD ?_
  | refine cag cal_Lines (Lines s) ?_
  | exact True.intro | refine stpA ?_ | refine two ?_ ?_
  | (refine imp fun hc => ?_) <;> try exact cx hc
  | refine all fun v_ => ?_)
 obtain ⟨bl, rfl⟩ : ∃ x, x = v_ := ⟨v_, rfl⟩
 refine JP_block (JP_vs (ρ' := [(0, .val (.string (tx s))), (2, .val (.pointer (some ⟨br, 0, none⟩))), (4, .val (.pointer (some ⟨bc, 0, none⟩))), (15, .val (lnF bl))]) (h' := lnC bl s :: .cells bc 55 [.val (.pointer (some ⟨bp, 0, none⟩))] :: .cells br 29 [.val (.slice none 0 0), .val (.slice none 0 0), .val (.slice none 0 0), .val (.slice none 0 0)] :: pdH bp pq0 Sl.nil Sl.nil Sl.nil Sl.nil)
  (VS.trans (VS.take (hc := [.cells bp 57 [.val (.slice none 0 0), .val (.slice none 0 0), .val (.slice none 0 0), .val (.slice none 0 0)], lnC bl s, .cells bc 55 [.val (.pointer (some ⟨bp, 0, none⟩))], .cells br 29 [.val (.slice none 0 0), .val (.slice none 0 0), .val (.slice none 0 0), .val (.slice none 0 0)]]) (by exact takedD) (by exact leD))
  (VS.trans (VS.trans (VS.nilrow 53 2) (vdat (f := Fo.cells) (xs := []) (h1 := []) (h' := [.cells bp 57 [.val (.slice none 0 0), .val (.slice none 0 0), .val (.slice none 0 0), .d (opsD [])], lnC bl s, .cells bc 55 [.val (.pointer (some ⟨bp, 0, none⟩))], .cells br 29 [.val (.slice none 0 0), .val (.slice none 0 0), .val (.slice none 0 0), .val (.slice none 0 0)]]) 16 rfl rfl (fun _ => rfl) (by decide) (CvE.refl _ _ _) (CvH.cells (.cons (.same _) (.cons (.same _) (.cons (.same _) (.cons .here .nil)))) (.refl _))))
  (VS.trans (VS.nilrow 68 4) (VS.trans (VS.nilrow 72 2) (VS.trans (VS.nilrow 75 2) (VS.trans (VS.nilrow 27 1) (VS.take (by exact takedD) (Env.le_refl _)))))))) ?_)
 refine JP_range (gf := 36) (lb := #[.pointer (some ⟨bl, 0, none⟩)]) (hb := lnC bl) (s := s) (Hs := RdH bc br bp) (all := linesE s) (dt := fun pre x rest => pre ++ x :: linesE rest = linesE s) (p := 16) (q := 5) rfl (enters_of Tryz.func36 (by kernel_rfl) rfl) (Exact.nil.cons.cons.cons.cons) (blt rfl) (blt rfl) ?_ ?_ ?_ ?_ ⟨pq0, Sl.nil, Sl.nil, Sl.nil, Sl.nil, rfl, pq0_ok, rfl⟩
 · exact fun l F hy I2 W2 h hF ok => LinesGo _ _ _ bl s l F (by omega) hy I2 W2 h hF ok
 · intro l a v W2 K hv hK
   refine wpIn_region_lit (l := [_]) (wpListIn_plain rfl fun K2 hK2 => ⟨fun f hf => trivial, ?_⟩)
   rw [show (Oper.semAt (Fence.wide.inRound l).round a.eval ⟨some 5, .assign (.tmp 16), 9, "sheet.go:140", #[], none⟩).run Tryz.prog W2 = .ok (.value v) W2 by
    have e1 : a.eval (.tmp 16) = v := by simp [Act.eval, hv]
    rw [Fence.inRound_round, Oper.semAt_some _ _ _ (fun c h => by cases h)]
    simp [execOp, e1]]
   exact hK2 _ _ (wpListIn_nil hK)
 · rintro l e1 e2 pre x rest _ hd ⟨d, qv, qr, qs, qp, rfl, hok, htk⟩ I2 a W2 ok sf hdf
   have hx : x ∈ linesE s := by rw [← hd]; simp
   have hxl : x.length ≤ s.length := line_len _ s (Nat.le_refl _) x hx
   have hpre : pre.length ≤ s.length + 1 := by
    have := lines_len s
    rw [← hd] at this
    simp only [List.length_append, List.length_cons] at this
    omega
   have hN : TkN (0 + pre.length) d.tk := by rw [htk]; exact TkN.fold atoiV (fun w => spl 32 (Lib.trimSuffix w [10])) pre 0 tk0 TkN.zero
   have hC := Pq.count hN hok
   have htl := trim_len x
   have hT := TrimSuffix x (by omega)
   have hS := Split (Lib.trimSuffix x [10]) (by omega)
   have hsl := spl_len 32 (Lib.trimSuffix x [10])
   have hsw := spl_word_len 32 (Lib.trimSuffix x [10])
   obtain ⟨w0, r, hsp⟩ : ∃ w0 r, spl 32 (Lib.trimSuffix x [10]) = w0 :: r := by
    cases h : spl 32 (Lib.trimSuffix x [10]) with
    | nil => exact absurd h (spl_ne 32 _)
    | cons a b => exact ⟨a, b, rfl⟩
   rw [hsp] at hS hsl hsw
   simp only [List.length_cons] at hsl
   have hP := pline bp d qv qr qs qp w0 r hok ⟨by omega, by omega, by omega, by omega⟩ (fun w hw => by have := hsw w (List.mem_cons_of_mem _ hw); omega) (by omega)
   refine wpIn_block ?_
   refine wpIn_mono (JR_region_HB (Q := fun e ρ h => e = .normal ∧ ∃ h', RdH bc br bp (pre ++ [x]) h' ∧ VS ρ h [] (lnC bl rest :: e1 :: e2 :: h')) l [.cells bp 57 [.val qv.v, .val qr.v, .val qp.v, .d (opsD d.form)], rowE qv.v 68 4 Vr.cells d.vars, rowE qr.v 72 2 ruX (d.rl qs), rowE qs.v 75 2 St.cells d.sets, rowE qp.v 27 1 termC d.props] mixed rfl (by (repeat ((with_reducible apply Hd.cons); (focus rfl))); exact Hd.nil) (by (repeat (with_reducible apply len_cons)); exact len_nil) (by decide +kernel) (by decide +kernel) (by exact takeD) (fun _ _ h => by cases h.1) ?_ ok sf hdf) ?_
   · repeat' (first
      | refine ca cal_TrimSuffix (hT) ?_
      | refine ca cal_Split (hS) ?_
      | refine cag cal_pline (hP) ?_
      | exact True.intro | refine stpH ?_ | refine two ?_ ?_ | refine allc fun c_ => ?_
      | (refine imp fun hc => ?_) <;> try exact cx1 hc
      | refine all fun v_ => ?_)
     refine ⟨_, ⟨v_.1.1, v_.2.1, v_.2.2.1, v_.2.2.2.1, v_.2.2.2.2, rfl, v_.1.2.1, ?_⟩, VS.take (by exact takedD) (Env.le_nil _)⟩
     rw [v_.1.2.2, List.foldl_append, ← htk, ← hsp, List.foldl_cons, List.foldl_nil]
   · rintro e a3 W3 ⟨I3, ρ3, h3, k1, k2, k3, rfl, h', hR, v⟩
     obtain ⟨I4, m1, _⟩ := v _ _ _ _ _ k1 k2
     exact ⟨rfl, I4, h', hR, m1⟩
 · rintro D e1 r _ ⟨d, qv, qr, qs, qp, rfl, hok, htk⟩ I2 a W2 ok sf hdf
   have hN : TkN (0 + (linesE s).length) d.tk := by rw [htk]; exact TkN.fold atoiV (fun w => spl 32 (Lib.trimSuffix w [10])) (linesE s) 0 tk0 TkN.zero
   have hC := Pq.count hN hok
   have hll := lines_len s
   have hS := Show d.tk
   have hF : padF atoiV s = d.tk := by rw [htk, padF_lines]
   have hF2 : progF atoiV 1 3 (tx s) = if (shownF d.tk).2 = 0 ∧ (shownF d.tk).1 = tx s then (d.tk, 0) else (tk0, 3) := by
    unfold progF
    rw [if_neg (by rw [tx_size]; omega)]
    rw [show (tx s).data.toList = s from rfl, hF]
   obtain ⟨u, hu⟩ : ∃ u, (shownF d.tk).1 = tx u := ⟨_, (tx_list _).symm⟩
   rw [hu] at hF2 hS
   refine wp_mono ((?_ : J ⟨Tryz.prog, ⟨W, I, blks [], GP⟩, Tryz.f5.ntmps, [{ target := .collected D, args := #[] }]⟩ _ (retM Tryz.prog GP [.cell 2 29, .tmp 3] D fun e h => e = .ret (.tup [tkA (progF atoiV 1 3 (tx s)).1, .int (progF atoiV 1 3 (tx s)).2]) ∧ h = []) _ _) I2 a W2 ok sf hdf) (postM_one rfl)
   refine J_vs (h' := [.cells bp 57 [.d (varsD d.tk.model.vars), .d (rulesD d.tk.model.rules), .d (termsD d.tk.props), .d (opsD d.tk.formula)], .cells bc 55 [.val (.pointer (some ⟨bp, 0, none⟩))], .cells br 29 [.val (.slice none 0 0), .val (.slice none 0 0), .val (.slice none 0 0), .val (.slice none 0 0)], .raw D (.deferred (some []))]) (VS.trans (VS.take (hc := [.cells bp 57 [.val qv.v, .val qr.v, .val qp.v, .d (opsD d.form)], rowE qv.v 68 4 Vr.cells d.vars, rowE qr.v 72 2 ruX (d.rl qs), rowE qs.v 75 2 St.cells d.sets, rowE qp.v 27 1 termC d.props, .cells bc 55 [.val (.pointer (some ⟨bp, 0, none⟩))], .cells br 29 [.val (.slice none 0 0), .val (.slice none 0 0), .val (.slice none 0 0), .val (.slice none 0 0)], .raw D (.deferred (some []))]) (by exact takedD) (Env.le_refl _)) (VS.frame (pd_all bp d qv qr qs qp hok (by omega) (by omega) (by omega) (by omega)) [.cells bc 55 [.val (.pointer (some ⟨bp, 0, none⟩))], .cells br 29 [.val (.slice none 0 0), .val (.slice none 0 0), .val (.slice none 0 0), .val (.slice none 0 0)], .raw D (.deferred (some []))])) ?_
   repeat' (first
    | ((with_reducible apply jp); (focus (first | ((with_reducible apply pu_lenT); rfl; rfl) | ((with_reducible apply pu_eqT); rfl; rfl) | ((with_reducible apply pu_neT); rfl; rfl) | ((with_reducible apply pu_atT); rfl; rfl; rfl; omega))); (focus rfl))
    | refine allocD ?_
    | refine ca cal_Show (hS) ?_
    | exact True.intro | refine stpA ?_ | refine two ?_ ?_
    | (refine imp fun hc => ?_) <;> try exact cx hc
    | refine all fun v_ => ?_)
   · rw [if_neg (fun k => hc k.1)] at hF2
     rw [hF2]
     exact ⟨rfl, _, [.cells br 29 [.val (.slice none 0 0), .val (.slice none 0 0), .val (.slice none 0 0), .val (.slice none 0 0)]], [tkA tk0, .int 3], [], VS.take (by exact takedD) (Env.le_refl _), RVs.le (xs := [.agg [.val (.slice none 0 0), .val (.slice none 0 0), .val (.slice none 0 0), .val (.slice none 0 0)], .int 3]) ⟨rv_agg rfl (by (with_reducible exact ElC.h)) rfl (by exact memD) rfl, rv_tmp rfl, trivial⟩ ⟨AV.le_agg ⟨AV.le_nil 4 40, AV.le_nil 2 48, AV.le_nil 1 24, AV.le_nil 2 16, trivial⟩, AV.le_refl _, trivial⟩, List.nil_sublist _, rfl, rfl⟩
   · rename_i c1
     rw [if_pos ⟨by omega, by rw [tx_eq hc]⟩] at hF2
     rw [hF2]
     exact ⟨rfl, _, [.cells br 29 [.d (varsD d.tk.model.vars), .d (rulesD d.tk.model.rules), .d (termsD d.tk.props), .d (opsD d.tk.formula)]], [tkA d.tk, .int 0], [], VS.take (by exact takedD) (Env.le_refl _), ⟨rv_agg rfl (by (with_reducible exact ElC.h)) rfl (by exact memD) rfl, rv_tmp rfl, trivial⟩, List.nil_sublist _, rfl, rfl⟩
   · rename_i c1
     rw [if_neg (fun k => tx_ne hc (tx_inj k.2))] at hF2
     rw [hF2]
     exact ⟨rfl, _, [.cells br 29 [.val (.slice none 0 0), .val (.slice none 0 0), .val (.slice none 0 0), .val (.slice none 0 0)]], [tkA tk0, .int 3], [], VS.take (by exact takedD) (Env.le_refl _), RVs.le (xs := [.agg [.val (.slice none 0 0), .val (.slice none 0 0), .val (.slice none 0 0), .val (.slice none 0 0)], .int 3]) ⟨rv_agg rfl (by (with_reducible exact ElC.h)) rfl (by exact memD) rfl, rv_tmp rfl, trivial⟩ ⟨AV.le_agg ⟨AV.le_nil 4 40, AV.le_nil 2 48, AV.le_nil 1 24, AV.le_nil 2 16, trivial⟩, AV.le_refl _, trivial⟩, List.nil_sublist _, rfl, rfl⟩
end Go.Proofs.YtajnpfgelpkijaaGreatDoor
