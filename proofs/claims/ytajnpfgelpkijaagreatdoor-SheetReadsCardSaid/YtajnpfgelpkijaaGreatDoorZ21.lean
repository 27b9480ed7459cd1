/- A bundle of this claim's own texts: R19 R20. -/
import Derived.Test.YtajnpfgelpkijaaGreatDoorZ17
set_option linter.unusedVariables false
set_option linter.unusedSimpArgs false
set_option maxRecDepth 100000
set_option maxHeartbeats 4000000
namespace Go.Proofs.YtajnpfgelpkijaaGreatDoor
open Go Go.Av Go.Sp
theorem tr_check {s : List UInt8} {W : World} {I : Nat → Prop} {br bt i f tm : Nat} {ws : List (List UInt8)} {d : Pq} {qv qr qs qp : Sl} {L w0 : List UInt8} {r : List (List UInt8)} (hs : ¬ 10000 < s.length) (hI : RdI s i f tm ws d) (hR : RdL s i f tm ws d L w0 r) (hi : i < s.length) (hten : s[i] = 10) (h3 : ¬ tm = 3) (k : w0 = checkW) : RdGo s W I br bt (i, f, tm, ws, d, qv, qr, qs, qp) := by
 obtain ⟨hi0, hcut, hN, hok, hrd, htm, hone⟩ := hI
 obtain ⟨hcut2, hW, hsl, hbad, hgo⟩ := hR
 obtain ⟨l1, l2, l3, l4, l5⟩ := Pq.count hN hok
 have hfi := hcut.le
 have hlen : (w0 :: r).length = r.length + 1 := rfl
 have h10 : ¬ ((s[i].toNat : Int) ≠ 10) := by rw [hten]; decide
 intro x Q2 hx hq2
 cases hx
 dsimp only [rdS, rdH]
 have hg := hgo ⟨d.tk.model, d.props, r.map (opF d.vars)⟩ 3 (by rw [k]; exact lineR_F (LineR.check (q := ⟨d.tk, tm⟩) h3 r))
 have hK := rtermOf GP qv qr d.vars (w0 :: r) 1 (by simp) (by omega) (by omega)
 simp only [List.drop_succ_cons, List.drop_zero] at hK
 have fV : ¬ ((tx w0 == ⟨#[118, 97, 114]⟩) = true) := fun h => absurd (k.symm.trans (tx_eq (w := varU) h)) (by decide)
 have fR : ¬ ((tx w0 == ⟨#[114, 117, 108, 101]⟩) = true) := fun h => absurd (k.symm.trans (tx_eq (w := ruleW) h)) (by decide)
 have fS : ¬ ((tx w0 == ⟨#[115, 101, 116]⟩) = true) := fun h => absurd (k.symm.trans (tx_eq (w := setU) h)) (by decide)
 have fP : ¬ ((tx w0 == ⟨#[112, 114, 111, 112]⟩) = true) := fun h => absurd (k.symm.trans (tx_eq (w := propW) h)) (by decide)
 have fC : ¬ ((tx w0 == ⟨#[99, 104, 101, 99, 107]⟩) = false) := fun h => tx_ne (w := checkW) h k
 repeat' (first
  | ((with_reducible apply jp); (focus (first | ((with_reducible apply pu_lenT); rfl; rfl) | ((with_reducible apply pu_eqT); rfl; rfl) | ((with_reducible apply pu_neT); rfl; rfl) | ((with_reducible apply pu_atT); rfl; rfl; rfl; omega))); (focus rfl))
  | refine allocD ?_
  | refine ca cal_wordsOf (hW) ?_
  | refine cag cal_termOf (hK) ?_
  | exact True.intro | refine stp0 ?_ | refine two ?_ ?_ | refine allc fun c_ => ?_
  | (refine imp fun hc => ?_) <;> try exact cx1 hc
  | refine all fun v_ => ?_)
 all_goals
  refine ⟨(i + 1, i + 1, 3, ws ++ [L], ⟨d.vars, d.done, d.cur, d.sets, d.props, r.map (opF d.vars)⟩, qv, qr, qs, qp), ⟨by dsimp only; omega, hcut2, hg.1, hok, hg.2, (by show (3 : Nat) ≤ 3; decide), fun h => by cases h⟩, by dsimp only; omega, VS.take (by exact takedD) ?_⟩
  exact leD
theorem tr_done {s : List UInt8} {W : World} {I : Nat → Prop} {br bt i f tm : Nat} {ws : List (List UInt8)} {d : Pq} {qv qr qs qp : Sl} {L w0 : List UInt8} {r : List (List UInt8)} (hs : ¬ 10000 < s.length) (hI : RdI s i f tm ws d) (hR : RdL s i f tm ws d L w0 r) (hi : i < s.length) (hten : s[i] = 10) (h3 : tm = 3) : RdGo s W I br bt (i, f, tm, ws, d, qv, qr, qs, qp) := by
 obtain ⟨hi0, hcut, hN, hok, hrd, htm, hone⟩ := hI
 obtain ⟨hcut2, hW, hsl, hbad, hgo⟩ := hR
 obtain ⟨l1, l2, l3, l4, l5⟩ := Pq.count hN hok
 have hfi := hcut.le
 have hlen : (w0 :: r).length = r.length + 1 := rfl
 have h10 : ¬ ((s[i].toNat : Int) ≠ 10) := by rw [hten]; decide
 intro x Q2 hx hq2
 cases hx
 dsimp only [rdS, rdH]
 have e0 := hbad (by rw [lineF, if_pos h3])
 repeat' (first
  | ((with_reducible apply jp); (focus (first | ((with_reducible apply pu_lenT); rfl; rfl) | ((with_reducible apply pu_eqT); rfl; rfl) | ((with_reducible apply pu_neT); rfl; rfl) | ((with_reducible apply pu_atT); rfl; rfl; rfl; omega))); (focus rfl))
  | refine allocD ?_
  | refine ca cal_wordsOf (hW) ?_
  | exact True.intro | refine stp0 ?_ | refine two ?_ ?_ | refine allc fun c_ => ?_
  | (refine imp fun hc => ?_) <;> try exact cx1 hc
  | refine all fun v_ => ?_)
 all_goals exact hq2 _ _ (retrl (xs := [.agg [.val (.slice none 0 0), .val (.slice none 0 0), .val (.slice none 0 0), .val (.slice none 0 0)], .int 3]) (ys := [tkA tk0, .int 3]) vid ⟨rv_agg rfl (by (with_reducible exact ElC.h)) rfl (by exact memD) rfl, rv_tmp rfl, trivial⟩ ⟨AV.le_agg ⟨AV.le_nil 4 40, AV.le_nil 2 48, AV.le_nil 1 24, AV.le_nil 2 16, trivial⟩, AV.le_refl _, trivial⟩ rfl (h' := []) (List.nil_sublist _) ⟨by rw [e0]; rfl, rfl⟩)
theorem tr_novar {s : List UInt8} {W : World} {I : Nat → Prop} {br bt i f tm : Nat} {ws : List (List UInt8)} {d : Pq} {qv qr qs qp : Sl} {L w0 : List UInt8} {r : List (List UInt8)} (hs : ¬ 10000 < s.length) (hI : RdI s i f tm ws d) (hR : RdL s i f tm ws d L w0 r) (hi : i < s.length) (hten : s[i] = 10) (h3 : ¬ tm = 3) (k : w0 = varU) (c : ¬ (tm = 0 ∧ r.length = 4)) : RdGo s W I br bt (i, f, tm, ws, d, qv, qr, qs, qp) := by
 obtain ⟨hi0, hcut, hN, hok, hrd, htm, hone⟩ := hI
 obtain ⟨hcut2, hW, hsl, hbad, hgo⟩ := hR
 obtain ⟨l1, l2, l3, l4, l5⟩ := Pq.count hN hok
 have hfi := hcut.le
 have hlen : (w0 :: r).length = r.length + 1 := rfl
 have h10 : ¬ ((s[i].toNat : Int) ≠ 10) := by rw [hten]; decide
 intro x Q2 hx hq2
 cases hx
 dsimp only [rdS, rdH]
 have e0 := hbad (by rw [lineF, if_neg h3, if_neg (fun q => c ⟨q.2.1, q.2.2⟩), if_neg (fun q => absurd (k.symm.trans q.1) (by decide)), if_neg (fun q => absurd (k.symm.trans q.1) (by decide)), if_neg (fun q => absurd (k.symm.trans q) (by decide)), if_neg (fun q => absurd (k.symm.trans q) (by decide))])
 have fV : ¬ ((tx w0 == ⟨#[118, 97, 114]⟩) = false) := fun h => tx_ne (w := varU) h k
 have fR : ¬ ((tx w0 == ⟨#[114, 117, 108, 101]⟩) = true) := fun h => absurd (k.symm.trans (tx_eq (w := ruleW) h)) (by decide)
 have fS : ¬ ((tx w0 == ⟨#[115, 101, 116]⟩) = true) := fun h => absurd (k.symm.trans (tx_eq (w := setU) h)) (by decide)
 have fP : ¬ ((tx w0 == ⟨#[112, 114, 111, 112]⟩) = true) := fun h => absurd (k.symm.trans (tx_eq (w := propW) h)) (by decide)
 have fC : ¬ ((tx w0 == ⟨#[99, 104, 101, 99, 107]⟩) = true) := fun h => absurd (k.symm.trans (tx_eq (w := checkW) h)) (by decide)
 repeat' (first
  | ((with_reducible apply jp); (focus (first | ((with_reducible apply pu_lenT); rfl; rfl) | ((with_reducible apply pu_eqT); rfl; rfl) | ((with_reducible apply pu_neT); rfl; rfl) | ((with_reducible apply pu_atT); rfl; rfl; rfl; omega))); (focus rfl))
  | refine allocD ?_
  | refine ca cal_wordsOf (hW) ?_
  | exact True.intro | refine stp0 ?_ | refine two ?_ ?_ | refine allc fun c_ => ?_
  | (refine imp fun hc => ?_) <;> try exact cx1 hc
  | refine all fun v_ => ?_)
 all_goals exact hq2 _ _ (retrl (xs := [.agg [.val (.slice none 0 0), .val (.slice none 0 0), .val (.slice none 0 0), .val (.slice none 0 0)], .int 3]) (ys := [tkA tk0, .int 3]) vid ⟨rv_agg rfl (by (with_reducible exact ElC.h)) rfl (by exact memD) rfl, rv_tmp rfl, trivial⟩ ⟨AV.le_agg ⟨AV.le_nil 4 40, AV.le_nil 2 48, AV.le_nil 1 24, AV.le_nil 2 16, trivial⟩, AV.le_refl _, trivial⟩ rfl (h' := []) (List.nil_sublist _) ⟨by rw [e0]; rfl, rfl⟩)
end Go.Proofs.YtajnpfgelpkijaaGreatDoor
