/- Own texts. -/
import Derived.Test.YtnlfhnbcdfdhgaaGreatDoorA34
set_option linter.unusedVariables false
set_option linter.unusedSimpArgs false
set_option maxRecDepth 100000
set_option maxHeartbeats 4000000
namespace Go.Proofs.YtnlfhnbcdfdhgaaGreatDoor
open Go Go.Av Go.Sp
theorem XO (bs : Nat) (t : Tk) (e : Exp) (g : Grown t e) (x : Ms) (hI : MsI t e x) (hu : x.up = true) (k : Int) (hk : 0 ≤ k) (v : Gp (spF t x.n)) : AC Tryz.prog GP 30 [.val (.pointer (some ⟨bs, 0, none⟩)), .agg [.int 3, .int k]] (skM bs t x v.1) fun r h => ∃ w : Gp (spF t (mvF t x ⟨3, k⟩).n), r = .ret (.tup []) ∧ h = skM bs t (mvF t x ⟨3, k⟩) w.1 := by
 rw [TK hu]
 have hC := eP GP ⟨dtF t x.n, byF t x.s⟩ k
 rw [g.crash hI.nN hI.b hI.s hk] at hC
 have F := R3 bs t e g x.n (min (byF t x.s + k.toNat) (byF t x.n)) (min (byF t x.s + k.toNat) (byF t x.n)) hI.nN hI.b (Nat.min_le_right _ _) (Nat.le_refl _) false x.n x.m ⟨false, 0, 0, 0, x.a, false, false⟩ (spF t x.n) v.1
 rw [Nat.min_eq_right (TM t (min (byF t x.s + k.toNat) (byF t x.n)) x.n), fm] at F
 dsimp only at hC F ⊢
 generalize (dtF t x.n).take (min (byF t x.s + k.toNat) (byF t x.n)) = D at hC F
 generalize ((min (byF t x.s + k.toNat) (byF t x.n) : Nat) : Int) = y at hC F
 generalize kpF t (byF t x.s + k.toNat) x.n = n' at F ⊢
 unfold skM srF skH skC skD
 dsimp only
 rw [hu]
 refine AK (ts := []) Tryz.f30.ntmps Tryz.func30 rfl rfl rfl (by simp [Tryz.ntmps30]) fun W I => ?_
 haveI fA_ : KS := ⟨⟩
 haveI fH_ : Ld := ⟨⟩
 haveI fS_ : Jw 1 := ⟨⟩
 repeat' (first | exact jA | refine stp ?_ | refine two ?_ ?_ | refine AB fun c_ => ?_ | refine imp fun hc => ?_; try exact cx1 hc | refine all fun v_ => ?_)
 clear fA_ fH_ fS_
 obtain ⟨bm, rfl⟩ : ∃ x, x = v_ := ⟨v_, rfl⟩
 refine ⟨?_⟩
 refine KH (X := Unit) (fun _ => [(0, .val (.pointer (some ⟨bs, 0, none⟩)))]) (fun _ => skH bs t (spF t x.n) ⟨true, x.n, x.m, ⟨D, y⟩, ⟨false, 0, 0, 0, x.a, false, false⟩⟩ v.1) ?_ ?_
 · refine Gf [skC bs t v.1.1 v.1.2 ⟨true, x.n, x.m, ⟨dtF t x.n, byF t x.s⟩, ⟨false, 0, 0, 0, x.a, false, false⟩⟩] mixed rfl (by (repeat (with_reducible apply Al)); exact len_nil) (by decide +kernel) BF ?_
   repeat' (first | refine ca Pa (hC) ?_ | exact jA | refine AF ?_ | refine two ?_ ?_ | refine AB fun c_ => ?_ | refine imp fun hc => ?_; try exact cx1 hc | refine all fun v_ => ?_)
   all_goals
    refine ⟨(), VS.take AH ?_⟩
    exact leD
 intro _
 unfold skH skC skD
 dsimp only
 repeat' (first | refine cag K0 (F) ?_ | exact jA | refine AP ?_ | refine two ?_ ?_ | refine imp fun hc => ?_; try exact cx hc | refine all fun v_ => ?_)
 obtain ⟨w, rfl⟩ : ∃ x, x = v_ := ⟨v_, rfl⟩
 refine AI (VS.take (hc := skH bs t (spF t n') ⟨false, n', x.m, ⟨dtF t n', byF t n'⟩, ⟨false, 0, 0, 0, x.a, false, false⟩⟩ w.1) AH (Env.le_refl _)) ?_
 exact rq0 rfl ⟨w, rfl, rfl⟩
theorem ZA (bs : Nat) (t : Tk) (e : Exp) (g : Grown t e) (x : Ms) (hI : MsI t e x) (ha : x.a ≤ 900000000) (hu : x.up = true) (k : Int) (hk : 0 ≤ k) (hk2 : k ≤ 2147483647) (v : Gp (spF t x.n)) : AC Tryz.prog GP 30 [.val (.pointer (some ⟨bs, 0, none⟩)), .agg [.int 1, .int k]] (skM bs t x v.1) fun r h => ∃ w : Gp (spF t (mvF t x ⟨1, k⟩).n), r = .ret (.tup []) ∧ h = skM bs t (mvF t x ⟨1, k⟩) w.1 := by
 rw [WG hu]
 obtain ⟨many, rfl⟩ : ∃ many : Nat, k = many := ⟨k.toNat, by omega⟩
 rw [Int.toNat_natCast]
 have hN := g.few
 refine AK (ts := []) Tryz.f30.ntmps Tryz.func30 rfl rfl rfl (by simp [Tryz.ntmps30]) fun W I => ?_
 unfold skM srF skH skC skD
 dsimp only
 rw [hu]
 repeat' (first | exact jA | refine AP ?_ | refine two ?_ ?_ | refine imp fun hc => ?_; try exact cx hc | refine all fun v_ => ?_)
 obtain ⟨bm, rfl⟩ : ∃ x, x = v_ := ⟨v_, rfl⟩
 refine AG (X := Nat × Ms × (Sl × Sto)) (fun y => [(0, .val (.pointer (some ⟨bs, 0, none⟩))), (3, .val (.pointer (some ⟨bm, 0, none⟩))), (4, .int y.1)]) (fun y => .cells bm 59 [.int 1, .int many] :: skH bs t (spF t y.2.1.n) (srF t y.2.1) y.2.2) (fun y => y.1 ≤ many ∧ MsI t e y.2.1 ∧ y.2.1.a + x.n ≤ x.a + y.2.1.n ∧ wkF t many x = wkF t (many - y.1) y.2.1 ∧ I4 y.2.2.2 (spF t y.2.1.n)) (fun y => many - y.1) (0, x, v.1) ⟨Nat.zero_le _, hI, Nat.le_refl _, rfl, v.2⟩ (VS.take (by dsimp only; unfold skH skC skD srF; dsimp only; rw [hu]; exact AH) ?_) ?_
 · exact leD
 clear hI
 rintro ⟨i, x', v'⟩ ⟨hi, hI, hax, hwk, hm⟩
 dsimp only at hi hI hax hwk hm ⊢
 rw [hwk]
 have hn := hI.nN
 by_cases him : i < many
 · obtain ⟨d, hd⟩ : ∃ d, many - i = d + 1 := ⟨many - i - 1, by omega⟩
   rw [hd]
   have F := iE bs t e g x' hI jB ⟨v', hm⟩
   by_cases hgo : JZ t x'
   · rw [decide_eq_true hgo, L7 hgo, show wkF t 0 x'.go = x'.go from rfl] at F
     rw [L7 hgo]
     have hga : x'.go.a ≤ x'.a + 1 := by unfold Ms.go; dsimp only; split <;> omega
     have hgn : x'.go.n = x'.n + 1 := rfl
     have hd1 : many - (i + 1) = d := by omega
     have hIg := hI.go g hgo
     unfold skM at F
     unfold skH skC skD srF
     dsimp only
     unfold skH skC skD srF at F
     dsimp only at F
     repeat' (first | refine cag Pk (F) ?_ | exact jA | refine AF ?_ | refine two ?_ ?_ | refine AB fun c_ => ?_ | refine imp fun hc => ?_; try exact cx1 hc | refine all fun v_ => ?_)
     obtain ⟨⟨w, hw⟩, rfl⟩ : ∃ x, x = v_ := ⟨v_, rfl⟩
     refine ⟨(i + 1, x'.go, w), ⟨him, hIg, jC, by dsimp only; rw [hd1], hw⟩, jC, VS.take (by dsimp only; exact AH) ?_⟩
     exact leD
   · rw [decide_eq_false hgo, I8 hgo] at F
     rw [I8 hgo]
     unfold skM at F
     unfold skH skC skD srF
     dsimp only
     unfold skH skC skD srF at F
     dsimp only at F
     repeat' (first | refine cag Pk (F) ?_ | exact jA | refine AF ?_ | refine two ?_ ?_ | refine AB fun c_ => ?_ | refine imp fun hc => ?_; try exact cx1 hc | refine all fun v_ => ?_)
     obtain ⟨w, rfl⟩ : ∃ x, x = v_ := ⟨v_, rfl⟩
     refine AI (VS.take (hc := skH bs t (spF t x'.n) (srF t x') w.1) AH (Env.le_refl _)) ?_
     exact rq0 rfl ⟨w, rfl, rfl⟩
 obtain rfl : i = many := by omega
 rw [Nat.sub_self, show wkF t 0 x' = x' from rfl]
 repeat' (first | exact jA | refine AF ?_ | refine two ?_ ?_ | refine AB fun c_ => ?_ | refine imp fun hc => ?_; try exact cx1 hc | refine all fun v_ => ?_)
 obtain ⟨w, hw⟩ : ∃ w : Gp (spF t x'.n), w.1 = v' := ⟨⟨v', hm⟩, rfl⟩
 subst hw
 refine AI (VS.take (hc := skH bs t (spF t x'.n) (srF t x') w.1) AH (Env.le_refl _)) ?_
 exact rq0 rfl ⟨w, rfl, rfl⟩
theorem sdo (bs : Nat) (t : Tk) (e : Exp) (g : Grown t e) (x : Ms) (hI : MsI t e x) (ha : x.a ≤ 900000000) (m : Fo) (hm : 1 ≤ m.kind ∧ m.kind ≤ 4) (hv : 0 ≤ m.val ∧ m.val ≤ 2147483647) (v : Gp (spF t x.n)) :
 AC Tryz.prog GP 30 [.val (.pointer (some ⟨bs, 0, none⟩)), .agg [.int m.kind, .int m.val]] (skM bs t x v.1) fun r h => ∃ w : Gp (spF t (mvF t x m).n), r = .ret (.tup []) ∧ h = skM bs t (mvF t x m) w.1 := by
 obtain ⟨c, k⟩ := m
 dsimp only at hm hv ⊢
 by_cases h4 : c = 4
 · subst h4; exact XZ bs t e g x hI k v
 by_cases hu : x.up = true
 · have : c = 1 ∨ c = 2 ∨ c = 3 := by omega
   rcases this with rfl | rfl | rfl
   · exact ZA bs t e g x hI ha hu k hv.1 hv.2 v
   · exact ak bs t e g x hI hu k v
   · exact XO bs t e g x hI hu k hv.1 v
 · exact aa bs t x (by simpa using hu) c k h4 v
end Go.Proofs.YtnlfhnbcdfdhgaaGreatDoor
namespace Go.Av
open Go
structure JHB (k : Kx) (ops : Array Oper) (n f : Nat) (listed : Array Bool) (l2 : List Oper) (i m : Nat) (Q : Exit → Env → H → Prop) (hT : H) (ρ : Env) (h : H) : Prop where
 get : ∀ j, i ≤ j → j < i + m → j ∈ Region.ready .any ops listed → ∃ o, ops[j]? = some o ∧
  ((∀ c : World × (Nat → Prop) × List Nat, JL ⟨k.P, ⟨c.1, c.2.1, c.2.2, k.c.G⟩, k.n, k.df⟩ ops [o] (fun e ρ' hT' => e = .normal ∧ JH k ops n f (listed.setIfInBounds j true) l2 0 n false Q hT' ρ' h) ρ hT) ∨
   ∃ d v r, d < k.n ∧ (∀ w I, AV.rel w I r v) ∧ (∀ y, Region.wanted o y = true) ∧ (∀ I a w (K : Act → World → Prop) (Q' : Exit → Act → World → Prop), Ok k.c I (hT ++ h) w → SF k.n w I ρ a → (∀ w', Dq I (hT ++ h) w w' → K (a.put (some d) v) w') → o.wp k.P a w K Q') ∧ JH k ops n f (listed.setIfInBounds j true) l2 0 n false Q hT ((d, r) :: ρ) h)
section
variable {k : Kx} {Q : Exit → Env → H → Prop} {ρ ρ' : Env} {h h' hT : H} {ops : Array Oper} {listed : Array Bool} {l2 : List Oper} {n f i m d : Nat} {op : Op} {ty : TypeId} {pos : String} {after : Array Edge} {pr : Bool}
theorem cf (_ht : True) : JHB k ops n f listed l2 i 0 Q hT ρ h := ⟨fun j h1 h2 => by omega⟩
theorem YH (hc : (Region.ready .any ops listed).contains i = false) (hj : JHB k ops n f listed l2 (i + 1) m Q hT ρ h) : JHB k ops n f listed l2 i (m + 1) Q hT ρ h :=
 ⟨fun j h1 h2 hr => by
  by_cases e : j = i
  · subst e
    have : (Region.ready .any ops listed).contains j = true := by simpa using hr
    rw [this] at hc; cases hc
  · exact hj.get j jB jB hr⟩
theorem cZ {dst : Option Tmp} {g : Option (Nat × Bool)} (ho : ops[i]? = some ⟨dst, op, ty, pos, after, g⟩)
 (hj : Two (gP fun c => JL ⟨k.P, ⟨c.1, c.2.1, c.2.2, k.c.G⟩, k.n, k.df⟩ ops [⟨dst, op, ty, pos, after, g⟩] (fun e ρ' hT' => e = .normal ∧ JH k ops n f (listed.setIfInBounds i true) l2 0 n false Q hT' ρ' h) ρ hT) (JHB k ops n f listed l2 (i + 1) m Q hT ρ h)) : JHB k ops n f listed l2 i (m + 1) Q hT ρ h :=
 ⟨fun j h1 h2 hr => by
  by_cases e : j = i
  · subst e
    exact ⟨_, ho, .inl hj.fst.get⟩
  · exact hj.snd.get j jB jB hr⟩
theorem Yl {fn : FuncId} {xs : Array Operand} {ats : Array TypeId} {es args : List AV} {v : Value} {r : AV} (ho : ops[i]? = some ⟨some d, .call { callee := .value (.func fn), args := xs, argTypes := ats }, ty, pos, after, none⟩)
 (hxs : GJ ρ xs.toList = some es) (hcal : Cal k.P fn) (hac : ACr k.P k.c.G fn args (.val v)) (hrv : ∀ w I, AV.rel w I r v) (hb : QR h es args) (hd : Nat.blt d k.n = true)
 (hj : Two (JH k ops n f (listed.setIfInBounds i true) l2 0 n false Q hT ((d, r) :: ρ) h) (JHB k ops n f listed l2 (i + 1) m Q hT ρ h)) : JHB k ops n f listed l2 i (m + 1) Q hT ρ h :=
 ⟨fun j h1 h2 hr => by
  by_cases e : j = i
  · subst e
    refine ⟨_, ho, .inr ⟨d, v, r, blt hd, hrv, fun y => by simp [Region.wanted], fun I a w K Q' k1 k2 hK => ?_, hj.fst⟩⟩
    unfold Oper.wp
    rw [EH (x := .func fn) (caps := #[]) rfl, hcal]
    simp only [Oper.upon]
    have hrel : AV.rels w I es (xs.toList.map a.eval ++ (#[] : Array Value).toList) := by
     rw [show (#[] : Array Value).toList = [] from rfl, List.append_nil, ← Cd hxs]; exact EJ k2 xs.toList
    refine (AC.borrow hac hb k1.right rfl hrel).mono ?_
    rintro e w' ⟨rfl, hs⟩
    exact hK w' ⟨hs.os, hs.tape, hs.output, hs.size, hs.block⟩
  · exact hj.snd.get j jB jB hr⟩
theorem di {fn : FuncId} {xs : Array Operand} {ats : Array TypeId} {es args : List AV} {v : Value} (ho : ops[i]? = some ⟨some d, .call { callee := .value (.func fn), args := xs, argTypes := ats }, ty, pos, after, none⟩)
 (hxs : GJ ρ xs.toList = some es) (hcal : Cal k.P fn) (hac : ACr k.P k.c.G fn args (.val v)) (hb : QR h es args) (hd : Nat.blt d k.n = true)
 (hj : Two (JH k ops n f (listed.setIfInBounds i true) l2 0 n false Q hT ((d, .val v) :: ρ) h) (JHB k ops n f listed l2 (i + 1) m Q hT ρ h)) : JHB k ops n f listed l2 i (m + 1) Q hT ρ h :=
 Yl (r := .val v) ho hxs hcal hac (fun _ _ => by unfold AV.rel; rfl) hb hd hj
theorem dg (hne : (Region.ready .any ops listed).isEmpty = false) (hs : (Region.ready .any ops listed).all (fun j => decide (j < n)) = true) (hj : JHB k ops n f listed l2 0 n Q hT ρ h) : JH k ops n (f + 1) listed l2 i 0 false Q hT ρ h := by
 refine ⟨fun hsh inv I a w h1 h2 h3 => ⟨fun e => by rw [e] at hne; simp at hne, fun j hjr => ?_⟩⟩
 have hjn : j < n := by simpa using List.all_eq_true.1 hs j hjr
 refine ⟨hjn, ?_⟩
 obtain ⟨o, ho, hJ⟩ := hj.get j (Nat.zero_le _) jB hjr
 unfold wpOp
 rw [ho]
 dsimp only
 rcases hJ with hJ | ⟨d, v, r, hd, hrv, hw, hB, hJ⟩
 · have H := hJ (w, I, blks hT) I a w h1.left h2 h3
   dsimp only at H
   have hK : ∀ a' w', lift ⟨k.P, ⟨w, I, blks hT, k.c.G⟩, k.n, k.df⟩ (fun e ρ' hT' => e = .normal ∧ JH k ops n f (listed.setIfInBounds j true) l2 0 n false Q hT' ρ' h) .normal a' w' →
    Sam (blks hT) w w' ∧ HP k.P .any ops (Sam (blks hT) w) n (fun listed' a' w' => Region.seqB .any ops (ops.size - n) n listed' = true ∧ wpList k.P ops (lift k Q) l2 a' w') f (listed.setIfInBounds j true) a' w' := by
    rintro a' w' ⟨I', ρ', hT', q1, q2, q3, _, q4⟩
    obtain ⟨k1, _⟩ := Ok.call (hc := hT) (hr := h) h1 q1
    have hsm : Sam (blks hT) w w' := ⟨q1.os, q1.tape, q1.output, q1.size, fun b hb hE => q1.keep b hb hE⟩
    refine ⟨hsm, Fv (S := Sam (blks hT') w') (fun u hu => ?_) _ _ _ _ (q4.get hsh (inv.set hjr hjn) I' a' w' k1 q2 q3)⟩
    refine ⟨hu.os.trans hsm.os, hu.tape.trans hsm.tape, hu.output.trans hsm.output, Nat.le_trans hsm.size hu.size, fun b hb hE => (hu.block b (Nat.lt_of_lt_of_le hb hsm.size) fun hm => ?_).trans (hsm.block b hb hE)⟩
    rcases q1.new b hm with hx | hx
    · exact hE hx
    · exact absurd hb (Nat.not_lt.2 hx)
   have hQ : ∀ e a' w', e ≠ .normal → ¬ lift ⟨k.P, ⟨w, I, blks hT, k.c.G⟩, k.n, k.df⟩ (fun e ρ' hT' => e = .normal ∧ JH k ops n f (listed.setIfInBounds j true) l2 0 n false Q hT' ρ' h) e a' w' := by
    rintro e a' w' he ⟨_, _, _, _, _, _, q, _⟩
    exact he q
   rw [wpList] at H
   by_cases hw : Region.wanted o (yielded ops a.tmps) = true
   · rw [if_pos hw] at H ⊢
     rcases H with H | ⟨_, a', w', H⟩
     · exact .inl (Hz hK hQ H)
     · exact absurd H (hQ _ _ _ (by simp))
   · rw [if_neg hw] at H ⊢
     exact hK _ _ H
 · rw [if_pos (hw _)]
   refine .inl (hB I a w _ _ h1 h2 fun w' hsm => ?_)
   have hsm' : Sam (blks hT) w w' := ⟨hsm.os, hsm.tape, hsm.output, hsm.size, fun b hb _ => hsm.block b hb⟩
   refine ⟨hsm', Fv (S := Sam (blks hT) w') (fun u hu => ?_) _ _ _ _ (hJ.get hsh (inv.set hjr hjn) I _ w' (h1.same hsm) ((SF.same h1 hsm h2).put (fun t ht => by cases ht; exact hd) (r := r) (hrv _ _)) (by rw [Act.defers_put]; exact h3))⟩
   exact ⟨hu.os.trans hsm.os, hu.tape.trans hsm.tape, hu.output.trans hsm.output, Nat.le_trans hsm.size hu.size, fun b hb hE => (hu.block b (Nat.lt_of_lt_of_le hb hsm.size) hE).trans (hsm.block b hb)⟩
end
section
variable {P : Program} {G : List (Nat × List D)} {ρ : Env} {h : H} {dst : Option Tmp} {ty : TypeId} {pos : String} {after : Array Edge} {g : Option (Nat × Bool)}
theorem UU {T : TypeId} {x : Operand} {cs : List D} {z : Value} {sz eb : Nat} (hT : BR P T = some true) (hE : El P T z sz eb) (hx : evO ρ x = some (.pd cs)) (hn : Nat.ble sz cs.length = true) : Pure P G ⟨dst, .load T x, ty, pos, after, g⟩ ρ h (.agg ((cs.take sz).map D.av)) :=
 Jc hT hE (AD hx) rfl (by have := Nat.le_of_ble_eq_true hn; rw [List.length_take]; omega)
end
end Go.Av
namespace Go.Proofs.YtnlfhnbcdfdhgaaGreatDoor
open Go Go.Av Go.Sp
theorem M0 (G : List (Nat × List D)) (g : Gr) : ACr Tryz.prog G 119 [grA g] (.int (Hg g)) := by
 refine AC.factN (g := BP) (f := AS) (xss := g.next) 1 8 (fun _ => rfl) (.agg (.there (.there .here))) fun hN => ?_
 refine AK (ts := [2]) Tryz.f119.ntmps Tryz.func119 rfl rfl rfl (by simp [Tryz.ntmps119]) fun W I => ?_
 by_cases q1 : ¬ g.spots.length ≤ 20000
 · have hh : ¬ ES g := fun h => by obtain ⟨_, _, _, _, _, _, _⟩ := h; omega
   repeat' (first | refine ca AN (In _ _ _ _) ?_ | exact jA | refine AP ?_ | refine two ?_ ?_ | refine imp fun hc => ?_; try exact cx hc | refine all fun v_ => ?_)
   refine AI jE ?_
   ((with_reducible apply rq1); rfl; rfl)
   exact AA (by rw [BZ hh])
 replace q1 := jY q1
 by_cases q2 : ¬ g.next.length = g.spots.length
 · have hh : ¬ ES g := fun h => by obtain ⟨_, _, _, _, _, _, _⟩ := h; omega
   repeat' (first | refine ca AN (In _ _ _ _) ?_ | exact jA | refine AP ?_ | refine two ?_ ?_ | refine imp fun hc => ?_; try exact cx hc | refine all fun v_ => ?_)
   refine AI jE ?_
   ((with_reducible apply rq1); rfl; rfl)
   exact AA (by rw [BZ hh])
 replace q2 := jY q2
 by_cases q3 : ¬ g.sets.length = g.spots.length
 · have hh : ¬ ES g := fun h => by obtain ⟨_, _, _, _, _, _, _⟩ := h; omega
   repeat' (first | refine ca AN (In _ _ _ _) ?_ | exact jA | refine AP ?_ | refine two ?_ ?_ | refine imp fun hc => ?_; try exact cx hc | refine all fun v_ => ?_)
   refine AI jE ?_
   ((with_reducible apply rq1); rfl; rfl)
   exact AA (by rw [BZ hh])
 replace q3 := jY q3
 by_cases q4 : ¬ 0 ≤ g.init
 · have hh : ¬ ES g := fun h => by obtain ⟨_, _, _, _, _, _, _⟩ := h; omega
   repeat' (first | refine ca AN (In _ _ _ _) ?_ | exact jA | refine AP ?_ | refine two ?_ ?_ | refine imp fun hc => ?_; try exact cx hc | refine all fun v_ => ?_)
   refine AI jE ?_
   ((with_reducible apply rq1); rfl; rfl)
   exact AA (by rw [BZ hh])
 replace q4 := jY q4
 by_cases q5 : ¬ g.init ≤ g.spots.length
 · have hh : ¬ ES g := fun h => by obtain ⟨_, _, _, _, _, _, _⟩ := h; omega
   repeat' (first | refine ca AN (In _ _ _ _) ?_ | exact jA | refine AP ?_ | refine two ?_ ?_ | refine imp fun hc => ?_; try exact cx hc | refine all fun v_ => ?_)
   refine AI jE ?_
   ((with_reducible apply rq1); rfl; rfl)
   exact AA (by rw [BZ hh])
 replace q5 := jY q5
 by_cases q6 : ¬ 0 ≤ g.many
 · have hh : ¬ ES g := fun h => by obtain ⟨_, _, _, _, _, _, _⟩ := h; omega
   repeat' (first | refine ca AN (In _ _ _ _) ?_ | exact jA | refine AP ?_ | refine two ?_ ?_ | refine imp fun hc => ?_; try exact cx hc | refine all fun v_ => ?_)
   refine AI jE ?_
   ((with_reducible apply rq1); rfl; rfl)
   exact AA (by rw [BZ hh])
 replace q6 := jY q6
 by_cases q7 : ¬ g.many ≤ 6
 · have hh : ¬ ES g := fun h => by obtain ⟨_, _, _, _, _, _, _⟩ := h; omega
   repeat' (first | refine ca AN (In _ _ _ _) ?_ | exact jA | refine AP ?_ | refine two ?_ ?_ | refine imp fun hc => ?_; try exact cx hc | refine all fun v_ => ?_)
   refine AI jE ?_
   ((with_reducible apply rq1); rfl; rfl)
   exact AA (by rw [BZ hh])
 replace q7 := jY q7
 have hh : ES g := ⟨q1, q2, q3, q4, q5, q6, q7⟩
 repeat' (first | refine ca AN (In _ _ _ _) ?_ | exact jA | refine AP ?_ | refine two ?_ ?_ | refine imp fun hc => ?_; try exact cx hc | refine all fun v_ => ?_)
 refine AG (X := Nat × Int) (fun y => [(1, .val (.pointer (some ⟨v_, 0, none⟩))), (3, .int g.spots.length), (4, .int y.2), (5, .int y.1)]) (fun _ => [.cells v_ 51 [.d (AO g.spots), .int g.init, .d (AX g.next), .d (AJ g.sets), .int g.many]]) (fun y => (y.1 : Int) ≤ g.many ∧ y.2 = 2 ^ y.1) (fun y => g.many.toNat - y.1) (0, 1) ⟨by dsimp only; omega, rfl⟩ (VS.of_le ?_) ?_
 · exact leD
 rintro ⟨n, p⟩ ⟨n1, n2⟩
 dsimp only at n1 n2 ⊢
 have hp := PL n jB
 by_cases hn : (n : Int) < g.many
 · have hp' := PL (n + 1) jB
   rw [Int.pow_succ] at hp'
   repeat' (first | refine ca AN (In _ _ _ _) ?_ | exact jA | refine AP ?_ | refine two ?_ ?_ | refine imp fun hc => ?_; try exact cx hc | refine all fun v_ => ?_)
   refine ⟨(n + 1, p * 2), ⟨by dsimp only; omega, by dsimp only; rw [Int.pow_succ, n2]⟩, jC, VS.of_le ?_⟩
   exact leD
 obtain rfl : n = g.many.toNat := by omega
 repeat' (first | refine ca AN (In _ _ _ _) ?_ | exact jA | refine AP ?_ | refine two ?_ ?_ | refine imp fun hc => ?_; try exact cx hc | refine all fun v_ => ?_)
 refine AG (X := Nat) (fun i => [(1, .val (.pointer (some ⟨v_, 0, none⟩))), (3, .int g.spots.length), (4, .int p), (6, .int i)]) (fun _ => [.cells v_ 51 [.d (AO g.spots), .int g.init, .d (AX g.next), .d (AJ g.sets), .int g.many]]) (fun i => i ≤ g.spots.length ∧ ∀ j, j < i → WJ g j) (fun i => g.spots.length - i) 0 ⟨Nat.zero_le _, fun _ h => by omega⟩ (VS.of_le ?_) ?_
 · exact leD
 rintro i ⟨h1, h2⟩
 by_cases hi : ¬ i < g.spots.length
 · repeat' (first | refine ca AN (In _ _ _ _) ?_ | exact jA | refine AP ?_ | refine two ?_ ?_ | refine imp fun hc => ?_; try exact cx hc | refine all fun v_ => ?_)
   refine AI jE ?_
   ((with_reducible apply rq1); rfl; rfl)
   exact AA (by rw [FY ⟨hh, fun j hj => h2 j jB⟩])
 replace hi := jY hi
 have hli : i < g.next.length := by omega
 have hsi : i < g.sets.length := by omega
 have hlj := hN (g.next[i]'jB) (jb _)
 by_cases hs : ¬ (0 ≤ g.sets[i] ∧ g.sets[i] ≤ p - 1)
 · repeat' (first | refine ca AN (In _ _ _ _) ?_ | exact jA | refine AP ?_ | refine two ?_ ?_ | refine imp fun hc => ?_; try exact cx hc | refine all fun v_ => ?_)
   refine AI jE ?_
   ((with_reducible apply rq1); rfl; rfl)
   exact AA (by rw [GK hi (fun h => by have := h.2 hsi; omega)])
 replace hs := jY hs
 repeat' (first | refine ca AN (In _ _ _ _) ?_ | exact jA | refine AP ?_ | refine two ?_ ?_ | refine imp fun hc => ?_; try exact cx hc | refine all fun v_ => ?_)
 refine AG (X := Nat) (fun j => [(1, .val (.pointer (some ⟨v_, 0, none⟩))), (3, .int g.spots.length), (4, .int p), (6, .int i), (7, .int j)]) (fun _ => [.cells v_ 51 [.d (AO g.spots), .int g.init, .d (AX g.next), .d (AJ g.sets), .int g.many]]) (fun j => j ≤ (g.next[i]'jB).length ∧ ∀ (m : Nat) (hm : m < (g.next[i]'jB).length), m < j → 0 ≤ (g.next[i]'jB)[m] ∧ (g.next[i]'jB)[m] < g.spots.length) (fun j => (g.next[i]'jB).length - j) 0 ⟨Nat.zero_le _, fun _ _ h => by omega⟩ (VS.of_le ?_) ?_
 · exact leD
 rintro j ⟨h3, h4⟩
 by_cases hj : j < (g.next[i]'jB).length
 · repeat' (first | refine ca AN (In _ _ _ _) ?_ | exact jA | refine AP ?_ | refine two ?_ ?_ | refine imp fun hc => ?_; try exact cx hc | refine all fun v_ => ?_)
   all_goals first
    | (refine AI jE ?_
       ((with_reducible apply rq1); rfl; rfl)
       exact AA (by rw [GK hi (fun h => by have := h.1 hli _ (jb hj); omega)]))
    | (refine ⟨j + 1, ⟨by omega, fun m hm hmj => ?_⟩, by omega, VS.of_le ?_⟩
       · by_cases e : m = j
         · subst e; omega
         · exact h4 m hm jB
       · exact leD)
 have hall : ∀ k ∈ (g.next[i]'jB), 0 ≤ k ∧ k < g.spots.length := fun k hk => by
  obtain ⟨m, hm, rfl⟩ := List.getElem_of_mem hk
  exact h4 m hm jB
 repeat' (first | refine ca AN (In _ _ _ _) ?_ | exact jA | refine AP ?_ | refine two ?_ ?_ | refine imp fun hc => ?_; try exact cx hc | refine all fun v_ => ?_)
 refine ⟨i + 1, ⟨by omega, fun m hm => ?_⟩, by omega, VS.of_le ?_⟩
 · by_cases e : m = i
   · subst e; exact ⟨fun _ => hall, fun _ => by omega⟩
   · exact h2 m jB
 · exact leD
end Go.Proofs.YtnlfhnbcdfdhgaaGreatDoor
