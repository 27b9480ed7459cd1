/- A bundle of this claim's own texts: R21. -/
import Derived.Test.YtajnpfgelpkijaaGreatDoorZ17
set_option linter.unusedVariables false
set_option linter.unusedSimpArgs false
set_option maxRecDepth 100000
set_option maxHeartbeats 4000000
namespace Go.Proofs.YtajnpfgelpkijaaGreatDoor
open Go Go.Av Go.Sp
theorem tr_norule {s : List UInt8} {W : World} {I : Nat → Prop} {br bt i f tm : Nat} {ws : List (List UInt8)} {d : Pq} {qv qr qs qp : Sl} {L w0 : List UInt8} {r : List (List UInt8)} (hs : ¬ 10000 < s.length) (hI : RdI s i f tm ws d) (hR : RdL s i f tm ws d L w0 r) (hi : i < s.length) (hten : s[i] = 10) (h3 : ¬ tm = 3) (k : w0 = ruleW) (c : ¬ tm < 2) : RdGo s W I br bt (i, f, tm, ws, d, qv, qr, qs, qp) := by
 obtain ⟨hi0, hcut, hN, hok, hrd, htm, hone⟩ := hI
 obtain ⟨hcut2, hW, hsl, hbad, hgo⟩ := hR
 obtain ⟨l1, l2, l3, l4, l5⟩ := Pq.count hN hok
 have hfi := hcut.le
 have hlen : (w0 :: r).length = r.length + 1 := rfl
 have h10 : ¬ ((s[i].toNat : Int) ≠ 10) := by rw [hten]; decide
 intro x Q2 hx hq2
 cases hx
 dsimp only [rdS, rdH]
 have e0 := hbad (by rw [lineF, if_neg h3, if_neg (fun q => absurd (k.symm.trans q.1) (by decide)), if_neg (fun q => c q.2), if_neg (fun q => absurd (k.symm.trans q.1) (by decide)), if_neg (fun q => absurd (k.symm.trans q) (by decide)), if_neg (fun q => absurd (k.symm.trans q) (by decide))])
 have fV : ¬ ((tx w0 == ⟨#[118, 97, 114]⟩) = true) := fun h => absurd (k.symm.trans (tx_eq (w := varU) h)) (by decide)
 have fR : ¬ ((tx w0 == ⟨#[114, 117, 108, 101]⟩) = false) := fun h => tx_ne (w := ruleW) h k
 have fS : ¬ ((tx w0 == ⟨#[115, 101, 116]⟩) = true) := fun h => absurd (k.symm.trans (tx_eq (w := setU) h)) (by decide)
 have fP : ¬ ((tx w0 == ⟨#[112, 114, 111, 112]⟩) = true) := fun h => absurd (k.symm.trans (tx_eq (w := propW) h)) (by decide)
 have fC : ¬ ((tx w0 == ⟨#[99, 104, 101, 99, 107]⟩) = true) := fun h => absurd (k.symm.trans (tx_eq (w := checkW) h)) (by decide)
 repeat' (first
  | ((with_reducible apply jp); (focus (first | ((with_reducible apply pu_lenT); rfl; rfl) | ((with_reducible apply pu_eqT); rfl; rfl) | ((with_reducible apply pu_neT); rfl; rfl) | ((with_reducible apply pu_atT); rfl; rfl; rfl; omega))); (focus rfl))
  | refine allocD ?_
  | refine ca cal_wordsOf (hW) ?_
  | exact True.intro | refine stp0 ?_ | refine two ?_ ?_ | refine allc fun c_ => ?_
  | (refine imp fun hc => ?_) <;> try exact cx1 hc
  | refine all fun v_ => ?_)
 all_goals exact hq2 _ _ (retrl (xs := [.agg [.val (.slice none 0 0), .val (.slice none 0 0), .val (.slice none 0 0), .val (.slice none 0 0)], .int 3]) (ys := [tkA tk0, .int 3]) vid ⟨rv_agg rfl (by (with_reducible exact ElC.h)) rfl (by exact memD) rfl, rv_tmp rfl, trivial⟩ ⟨AV.le_agg ⟨AV.le_nil 4 40, AV.le_nil 2 48, AV.le_nil 1 24, AV.le_nil 2 16, trivial⟩, AV.le_refl _, trivial⟩ rfl (h' := []) (List.nil_sublist _) ⟨by rw [e0]; rfl, rfl⟩)
theorem tr_noset {s : List UInt8} {W : World} {I : Nat → Prop} {br bt i f tm : Nat} {ws : List (List UInt8)} {d : Pq} {qv qr qs qp : Sl} {L w0 : List UInt8} {r : List (List UInt8)} (hs : ¬ 10000 < s.length) (hI : RdI s i f tm ws d) (hR : RdL s i f tm ws d L w0 r) (hi : i < s.length) (hten : s[i] = 10) (h3 : ¬ tm = 3) (k : w0 = setU) (c : ¬ (tm = 1 ∧ 0 < r.length)) : RdGo s W I br bt (i, f, tm, ws, d, qv, qr, qs, qp) := by
 obtain ⟨hi0, hcut, hN, hok, hrd, htm, hone⟩ := hI
 obtain ⟨hcut2, hW, hsl, hbad, hgo⟩ := hR
 obtain ⟨l1, l2, l3, l4, l5⟩ := Pq.count hN hok
 have hfi := hcut.le
 have hlen : (w0 :: r).length = r.length + 1 := rfl
 have h10 : ¬ ((s[i].toNat : Int) ≠ 10) := by rw [hten]; decide
 intro x Q2 hx hq2
 cases hx
 dsimp only [rdS, rdH]
 have e0 := hbad (by rw [lineF, if_neg h3, if_neg (fun q => absurd (k.symm.trans q.1) (by decide)), if_neg (fun q => absurd (k.symm.trans q.1) (by decide)), if_neg (fun q => c q.2), if_neg (fun q => absurd (k.symm.trans q) (by decide)), if_neg (fun q => absurd (k.symm.trans q) (by decide))])
 have fV : ¬ ((tx w0 == ⟨#[118, 97, 114]⟩) = true) := fun h => absurd (k.symm.trans (tx_eq (w := varU) h)) (by decide)
 have fR : ¬ ((tx w0 == ⟨#[114, 117, 108, 101]⟩) = true) := fun h => absurd (k.symm.trans (tx_eq (w := ruleW) h)) (by decide)
 have fS : ¬ ((tx w0 == ⟨#[115, 101, 116]⟩) = false) := fun h => tx_ne (w := setU) h k
 have fP : ¬ ((tx w0 == ⟨#[112, 114, 111, 112]⟩) = true) := fun h => absurd (k.symm.trans (tx_eq (w := propW) h)) (by decide)
 have fC : ¬ ((tx w0 == ⟨#[99, 104, 101, 99, 107]⟩) = true) := fun h => absurd (k.symm.trans (tx_eq (w := checkW) h)) (by decide)
 repeat' (first
  | ((with_reducible apply jp); (focus (first | ((with_reducible apply pu_lenT); rfl; rfl) | ((with_reducible apply pu_eqT); rfl; rfl) | ((with_reducible apply pu_neT); rfl; rfl) | ((with_reducible apply pu_atT); rfl; rfl; rfl; omega))); (focus rfl))
  | refine allocD ?_
  | refine ca cal_wordsOf (hW) ?_
  | exact True.intro | refine stp0 ?_ | refine two ?_ ?_ | refine allc fun c_ => ?_
  | (refine imp fun hc => ?_) <;> try exact cx1 hc
  | refine all fun v_ => ?_)
 all_goals exact hq2 _ _ (retrl (xs := [.agg [.val (.slice none 0 0), .val (.slice none 0 0), .val (.slice none 0 0), .val (.slice none 0 0)], .int 3]) (ys := [tkA tk0, .int 3]) vid ⟨rv_agg rfl (by (with_reducible exact ElC.h)) rfl (by exact memD) rfl, rv_tmp rfl, trivial⟩ ⟨AV.le_agg ⟨AV.le_nil 4 40, AV.le_nil 2 48, AV.le_nil 1 24, AV.le_nil 2 16, trivial⟩, AV.le_refl _, trivial⟩ rfl (h' := []) (List.nil_sublist _) ⟨by rw [e0]; rfl, rfl⟩)
theorem tr_other {s : List UInt8} {W : World} {I : Nat → Prop} {br bt i f tm : Nat} {ws : List (List UInt8)} {d : Pq} {qv qr qs qp : Sl} {L w0 : List UInt8} {r : List (List UInt8)} (hs : ¬ 10000 < s.length) (hI : RdI s i f tm ws d) (hR : RdL s i f tm ws d L w0 r) (hi : i < s.length) (hten : s[i] = 10) (h3 : ¬ tm = 3) (k1 : w0 ≠ varU) (k2 : w0 ≠ ruleW) (k3 : w0 ≠ setU) (k4 : w0 ≠ propW) (k5 : w0 ≠ checkW) : RdGo s W I br bt (i, f, tm, ws, d, qv, qr, qs, qp) := by
 obtain ⟨hi0, hcut, hN, hok, hrd, htm, hone⟩ := hI
 obtain ⟨hcut2, hW, hsl, hbad, hgo⟩ := hR
 obtain ⟨l1, l2, l3, l4, l5⟩ := Pq.count hN hok
 have hfi := hcut.le
 have hlen : (w0 :: r).length = r.length + 1 := rfl
 have h10 : ¬ ((s[i].toNat : Int) ≠ 10) := by rw [hten]; decide
 intro x Q2 hx hq2
 cases hx
 dsimp only [rdS, rdH]
 have e0 := hbad (by rw [lineF, if_neg h3, if_neg (fun q => k1 q.1), if_neg (fun q => k2 q.1), if_neg (fun q => k3 q.1), if_neg k4, if_neg k5])
 have fV : ¬ ((tx w0 == ⟨#[118, 97, 114]⟩) = true) := fun h => k1 (tx_eq (w := varU) h)
 have fR : ¬ ((tx w0 == ⟨#[114, 117, 108, 101]⟩) = true) := fun h => k2 (tx_eq (w := ruleW) h)
 have fS : ¬ ((tx w0 == ⟨#[115, 101, 116]⟩) = true) := fun h => k3 (tx_eq (w := setU) h)
 have fP : ¬ ((tx w0 == ⟨#[112, 114, 111, 112]⟩) = true) := fun h => k4 (tx_eq (w := propW) h)
 have fC : ¬ ((tx w0 == ⟨#[99, 104, 101, 99, 107]⟩) = true) := fun h => k5 (tx_eq (w := checkW) h)
 repeat' (first
  | ((with_reducible apply jp); (focus (first | ((with_reducible apply pu_lenT); rfl; rfl) | ((with_reducible apply pu_eqT); rfl; rfl) | ((with_reducible apply pu_neT); rfl; rfl) | ((with_reducible apply pu_atT); rfl; rfl; rfl; omega))); (focus rfl))
  | refine allocD ?_
  | refine ca cal_wordsOf (hW) ?_
  | exact True.intro | refine stp0 ?_ | refine two ?_ ?_ | refine allc fun c_ => ?_
  | (refine imp fun hc => ?_) <;> try exact cx1 hc
  | refine all fun v_ => ?_)
 all_goals exact hq2 _ _ (retrl (xs := [.agg [.val (.slice none 0 0), .val (.slice none 0 0), .val (.slice none 0 0), .val (.slice none 0 0)], .int 3]) (ys := [tkA tk0, .int 3]) vid ⟨rv_agg rfl (by (with_reducible exact ElC.h)) rfl (by exact memD) rfl, rv_tmp rfl, trivial⟩ ⟨AV.le_agg ⟨AV.le_nil 4 40, AV.le_nil 2 48, AV.le_nil 1 24, AV.le_nil 2 16, trivial⟩, AV.le_refl _, trivial⟩ rfl (h' := []) (List.nil_sublist _) ⟨by rw [e0]; rfl, rfl⟩)
end Go.Proofs.YtajnpfgelpkijaaGreatDoor
