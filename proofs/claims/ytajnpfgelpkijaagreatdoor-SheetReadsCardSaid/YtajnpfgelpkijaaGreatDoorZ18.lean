/- A bundle of this claim's own texts: R15. -/
import Derived.Test.YtajnpfgelpkijaaGreatDoorZ17
set_option linter.unusedVariables false
set_option linter.unusedSimpArgs false
set_option maxRecDepth 100000
set_option maxHeartbeats 4000000
namespace Go.Proofs.YtajnpfgelpkijaaGreatDoor
open Go Go.Av Go.Sp
theorem tr_var {s : List UInt8} {W : World} {I : Nat → Prop} {br bt i f tm : Nat} {ws : List (List UInt8)} {d : Pq} {qv qr qs qp : Sl} {L w0 : List UInt8} {r : List (List UInt8)} (hs : ¬ 10000 < s.length) (hI : RdI s i f tm ws d) (hR : RdL s i f tm ws d L w0 r) (hi : i < s.length) (hten : s[i] = 10) (h3 : ¬ tm = 3) (k : w0 = varU) (c : tm = 0 ∧ r.length = 4) : RdGo s W I br bt (i, f, tm, ws, d, qv, qr, qs, qp) := by
 obtain ⟨hi0, hcut, hN, hok, hrd, htm, hone⟩ := hI
 obtain ⟨hcut2, hW, hsl, hbad, hgo⟩ := hR
 obtain ⟨l1, l2, l3, l4, l5⟩ := Pq.count hN hok
 have hfi := hcut.le
 have hlen : (w0 :: r).length = r.length + 1 := rfl
 have h10 : ¬ ((s[i].toNat : Int) ≠ 10) := by rw [hten]; decide
 intro x Q2 hx hq2
 cases hx
 dsimp only [rdS, rdH]
 obtain ⟨c1, c2⟩ := c
 obtain ⟨n0, n1, n2, n3, rfl⟩ : ∃ n0 n1 n2 n3, r = [n0, n1, n2, n3] := by
  match r, c2 with
  | [n0, n1, n2, n3], _ => exact ⟨n0, n1, n2, n3, rfl⟩
 have et : (⟨d.vars ++ [⟨tx n0, numI n1, numI n2, numI n3⟩], d.done, d.cur, d.sets, d.props, d.form⟩ : Pq).tk = ⟨⟨d.vars ++ [⟨tx n0, numI n1, numI n2, numI n3⟩], d.rules⟩, d.props, d.form⟩ := rfl
 have hg := hgo (⟨d.vars ++ [⟨tx n0, numI n1, numI n2, numI n3⟩], d.done, d.cur, d.sets, d.props, d.form⟩ : Pq).tk 0 (by rw [k, et]; exact lineR_F (LineR.var (q := ⟨d.tk, tm⟩) c1 n0 n1 n2 n3))
 have fV : ¬ ((tx w0 == ⟨#[118, 97, 114]⟩) = false) := fun h => tx_ne (w := varU) h k
 have fR : ¬ ((tx w0 == ⟨#[114, 117, 108, 101]⟩) = true) := fun h => absurd (k.symm.trans (tx_eq (w := ruleW) h)) (by decide)
 have fS : ¬ ((tx w0 == ⟨#[115, 101, 116]⟩) = true) := fun h => absurd (k.symm.trans (tx_eq (w := setU) h)) (by decide)
 have fP : ¬ ((tx w0 == ⟨#[112, 114, 111, 112]⟩) = true) := fun h => absurd (k.symm.trans (tx_eq (w := propW) h)) (by decide)
 have fC : ¬ ((tx w0 == ⟨#[99, 104, 101, 99, 107]⟩) = true) := fun h => absurd (k.symm.trans (tx_eq (w := checkW) h)) (by decide)
 repeat' (first
  | ((with_reducible apply jp); (focus (first | ((with_reducible apply pu_lenT); rfl; rfl) | ((with_reducible apply pu_eqT); rfl; rfl) | ((with_reducible apply pu_neT); rfl; rfl) | ((with_reducible apply pu_atT); rfl; rfl; rfl; omega))); (focus rfl))
  | refine allocD ?_
  | refine ca cal_wordsOf (hW) ?_
  | exact True.intro | refine stp0 ?_ | refine two ?_ ?_ | refine allc fun c_ => ?_
  | (refine imp fun hc => ?_) <;> try exact cx1 hc
  | refine all fun v_ => ?_)
 obtain ⟨nv, hnv⟩ : ∃ nv : Vr, nv = ⟨tx n0, numI n1, numI n2, numI n3⟩ := ⟨_, rfl⟩
 refine ⟨?_⟩
 refine J_region_HB [rowE qv.v 68 4 Vr.cells d.vars] mixed rfl (by (repeat ((with_reducible apply Hd.cons); (focus rfl))); exact Hd.nil) (by (repeat (with_reducible apply len_cons)); exact len_nil) (by decide +kernel) (by exact takeD) ?_
 repeat' (first
  | refine ca cal_numberOf (rnumOf GP n1) ?_
  | refine ca cal_numberOf (rnumOf GP n2) ?_
  | refine ca cal_numberOf (rnumOf GP n3) ?_
  | ((with_reducible apply (jbuild_agg (cs := Vr.cells ⟨tx n0, numI n1, numI n2, numI n3⟩))); (focus rfl); (focus rfl); (focus (with_reducible exact ElC.h)); (focus rfl); (focus rfl); (focus rfl); (focus rfl); (focus rfl))
  | ((with_reducible apply (japU1 (f := Vr.cells) (u := ⟨tx n0, numI n1, numI n2, numI n3⟩))); (focus rfl); (focus rfl); (focus (with_reducible exact ElC.h)); (focus exact updqD); (focus rfl); (focus rfl); (focus rfl); (focus rfl); (focus exact bndD); (focus exact bndD))
  | exact True.intro | refine stpH ?_ | refine two ?_ ?_ | refine allc fun c_ => ?_
  | (refine imp fun hc => ?_) <;> try exact cx1 hc
  | refine all fun v_ => ?_)
 all_goals
  refine ⟨(i + 1, i + 1, 0, ws ++ [L], ⟨d.vars ++ [⟨tx n0, numI n1, numI n2, numI n3⟩], d.done, d.cur, d.sets, d.props, d.form⟩, v_, qr, qs, qp), ⟨by dsimp only; omega, hcut2, hg.1, hok, hg.2, Nat.zero_le _, fun h => by cases h⟩, by dsimp only; omega, VS.take (by exact takedD) ?_⟩
  exact leD
end Go.Proofs.YtajnpfgelpkijaaGreatDoor
