/- A bundle of this claim's own texts: P7 E16 V2 V3. -/
import Derived.Test.YtnlfhnbcdfdhgaaGreatDoorF2
import Derived.Test.YtnlfhnbcdfdhgaaGreatDoorF17
import Derived.Test.YtnlfhnbcdfdhgaaGreatDoorF20
import Derived.Test.YtnlfhnbcdfdhgaaGreatDoorF26
import Derived.Test.YtnlfhnbcdfdhgaaGreatDoorF28
set_option linter.unusedVariables false
set_option linter.unusedSimpArgs false
set_option maxRecDepth 100000
set_option maxHeartbeats 4000000
namespace Go.Proofs.YtnlfhnbcdfdhgaaGreatDoor
open Go Go.Av Go.Sp
theorem WD (bs : Nat) (t : Tk) (e : Exp) (g : Grown t e) (x : Ms) (hI : MsI t e x) (hu : x.up = true) (k : Int) (hk : 0 ≤ k) (v : Fi (spF t x.n)) : AC Tryz.prog GP 30 [.val (.pointer (some ⟨bs, 0, none⟩)), .agg [.int 3, .int k]] (skM bs t x v.1) fun r h => ∃ w : Fi (spF t (mvF t x ⟨3, k⟩).n), r = .ret (.tup []) ∧ h = skM bs t (mvF t x ⟨3, k⟩) w.1 := by
 rw [Ij hu]
 have hC := cJ GP ⟨dtF t x.n, byF t x.s⟩ k
 rw [g.crash hI.nN hI.b hI.s hk] at hC
 have F := RB bs t e g x.n (min (byF t x.s + k.toNat) (byF t x.n)) (min (byF t x.s + k.toNat) (byF t x.n)) hI.nN hI.b (Nat.min_le_right _ _) (Nat.le_refl _) false x.n x.m ⟨false, 0, 0, 0, x.a, false, false⟩ (spF t x.n) v.1
 rw [Nat.min_eq_right (Pz t (min (byF t x.s + k.toNat) (byF t x.n)) x.n), cn] at F
 dsimp only at hC F ⊢
 generalize (dtF t x.n).take (min (byF t x.s + k.toNat) (byF t x.n)) = D at hC F
 generalize ((min (byF t x.s + k.toNat) (byF t x.n) : Nat) : Int) = y at hC F
 generalize kpF t (byF t x.s + k.toNat) x.n = n' at F ⊢
 unfold skM srF skH skC skD
 dsimp only
 rw [hu]
 refine AJ (ts := []) Tryz.f30.ntmps Tryz.func30 rfl rfl rfl (by simp [Tryz.ntmps30]) fun W I => ?_
 haveI fA_ : Iy := ⟨⟩
 haveI fH_ : J7 := ⟨⟩
 haveI fS_ : IT 1 := ⟨⟩
 repeat' (first
  | exact True.intro
  | refine stp ?_
  | refine two ?_ ?_
  | refine AF fun c_ => ?_
  | (refine imp fun hc => ?_) <;> try exact cx1 hc
  | refine all fun v_ => ?_)
 clear fA_ fH_ fS_
 obtain ⟨bm, rfl⟩ : ∃ x, x = v_ := ⟨v_, rfl⟩
 refine ⟨?_⟩
 refine GW (X := Unit) (fun _ => [(0, .val (.pointer (some ⟨bs, 0, none⟩)))]) (fun _ => skH bs t (spF t x.n) ⟨true, x.n, x.m, ⟨D, y⟩, ⟨false, 0, 0, 0, x.a, false, false⟩⟩ v.1) ?_ ?_
 · refine Cm [skC bs t v.1.1 v.1.2 ⟨true, x.n, x.m, ⟨dtF t x.n, byF t x.s⟩, ⟨false, 0, 0, 0, x.a, false, false⟩⟩] mixed rfl (by (repeat (with_reducible apply AU)); exact len_nil) (by decide +kernel) (by exact AW) ?_
   repeat' (first
    | refine ca NF (hC) ?_
    | exact True.intro | refine AG ?_ | refine two ?_ ?_ | refine AF fun c_ => ?_
    | (refine imp fun hc => ?_) <;> try exact cx1 hc
    | refine all fun v_ => ?_)
   all_goals
    refine ⟨(), VS.take (by exact AD) ?_⟩
    exact leD
 intro _
 unfold skH skC skD
 dsimp only
 repeat' (first
  | refine cag Iz (F) ?_
  | exact True.intro | refine AP ?_ | refine two ?_ ?_
  | (refine imp fun hc => ?_) <;> try exact cx hc
  | refine all fun v_ => ?_)
 obtain ⟨w, rfl⟩ : ∃ x, x = v_ := ⟨v_, rfl⟩
 refine AN (VS.take (hc := skH bs t (spF t n') ⟨false, n', x.m, ⟨dtF t n', byF t n'⟩, ⟨false, 0, 0, 0, x.a, false, false⟩⟩ w.1) (by exact AD) (Env.le_refl _)) ?_
 exact rq0 rfl ⟨w, rfl, rfl⟩
theorem Zd (bs : Nat) (t : Tk) (e : Exp) (g : Grown t e) (x : Ms) (hI : MsI t e x) (ha : x.a ≤ 900000000) (hu : x.up = true) (k : Int) (hk : 0 ≤ k) (hk2 : k ≤ 2147483647) (v : Fi (spF t x.n)) : AC Tryz.prog GP 30 [.val (.pointer (some ⟨bs, 0, none⟩)), .agg [.int 1, .int k]] (skM bs t x v.1) fun r h => ∃ w : Fi (spF t (mvF t x ⟨1, k⟩).n), r = .ret (.tup []) ∧ h = skM bs t (mvF t x ⟨1, k⟩) w.1 := by
 rw [Hh hu]
 obtain ⟨many, rfl⟩ : ∃ many : Nat, k = many := ⟨k.toNat, by omega⟩
 rw [Int.toNat_natCast]
 have hN := g.few
 refine AJ (ts := []) Tryz.f30.ntmps Tryz.func30 rfl rfl rfl (by simp [Tryz.ntmps30]) fun W I => ?_
 unfold skM srF skH skC skD
 dsimp only
 rw [hu]
 repeat' (first
  | exact True.intro | refine AP ?_ | refine two ?_ ?_
  | (refine imp fun hc => ?_) <;> try exact cx hc
  | refine all fun v_ => ?_)
 obtain ⟨bm, rfl⟩ : ∃ x, x = v_ := ⟨v_, rfl⟩
 refine AM (X := Nat × Ms × (Sl × Sto)) (fun y => [(0, .val (.pointer (some ⟨bs, 0, none⟩))), (3, .val (.pointer (some ⟨bm, 0, none⟩))), (4, .int y.1)]) (fun y => .cells bm 59 [.int 1, .int many] :: skH bs t (spF t y.2.1.n) (srF t y.2.1) y.2.2) (fun y => y.1 ≤ many ∧ MsI t e y.2.1 ∧ y.2.1.a + x.n ≤ x.a + y.2.1.n ∧ wkF t many x = wkF t (many - y.1) y.2.1 ∧ HN y.2.2.2 (spF t y.2.1.n)) (fun y => many - y.1) (0, x, v.1) ⟨Nat.zero_le _, hI, Nat.le_refl _, rfl, v.2⟩ (VS.take (by dsimp only; unfold skH skC skD srF; dsimp only; rw [hu]; exact AD) ?_) ?_
 · exact leD
 clear hI
 rintro ⟨i, x', v'⟩ ⟨hi, hI, hax, hwk, hm⟩
 dsimp only at hi hI hax hwk hm ⊢
 rw [hwk]
 have hn := hI.nN
 by_cases him : i < many
 · obtain ⟨d, hd⟩ : ∃ d, many - i = d + 1 := ⟨many - i - 1, by omega⟩
   rw [hd]
   have F := eZ bs t e g x' hI (by omega) ⟨v', hm⟩
   by_cases hgo : Gu t x'
   · rw [decide_eq_true hgo, KY hgo, show wkF t 0 x'.go = x'.go from rfl] at F
     rw [KY hgo]
     have hga : x'.go.a ≤ x'.a + 1 := by unfold Ms.go; dsimp only; split <;> omega
     have hgn : x'.go.n = x'.n + 1 := rfl
     have hd1 : many - (i + 1) = d := by omega
     have hIg := hI.go g hgo
     unfold skM at F
     unfold skH skC skD srF
     dsimp only
     unfold skH skC skD srF at F
     dsimp only at F
     repeat' (first
      | refine cag NN (F) ?_
      | exact True.intro | refine AG ?_ | refine two ?_ ?_ | refine AF fun c_ => ?_
      | (refine imp fun hc => ?_) <;> try exact cx1 hc
      | refine all fun v_ => ?_)
     obtain ⟨⟨w, hw⟩, rfl⟩ : ∃ x, x = v_ := ⟨v_, rfl⟩
     refine ⟨(i + 1, x'.go, w), ⟨him, hIg, by dsimp only; omega, by dsimp only; rw [hd1], hw⟩, by dsimp only; omega, VS.take (by dsimp only; exact AD) ?_⟩
     exact leD
   · rw [decide_eq_false hgo, Ib hgo] at F
     rw [Ib hgo]
     unfold skM at F
     unfold skH skC skD srF
     dsimp only
     unfold skH skC skD srF at F
     dsimp only at F
     repeat' (first
      | refine cag NN (F) ?_
      | exact True.intro | refine AG ?_ | refine two ?_ ?_ | refine AF fun c_ => ?_
      | (refine imp fun hc => ?_) <;> try exact cx1 hc
      | refine all fun v_ => ?_)
     obtain ⟨w, rfl⟩ : ∃ x, x = v_ := ⟨v_, rfl⟩
     refine AN (VS.take (hc := skH bs t (spF t x'.n) (srF t x') w.1) (by exact AD) (Env.le_refl _)) ?_
     exact rq0 rfl ⟨w, rfl, rfl⟩
 obtain rfl : i = many := by omega
 rw [Nat.sub_self, show wkF t 0 x' = x' from rfl]
 repeat' (first
  | exact True.intro | refine AG ?_ | refine two ?_ ?_ | refine AF fun c_ => ?_
  | (refine imp fun hc => ?_) <;> try exact cx1 hc
  | refine all fun v_ => ?_)
 obtain ⟨w, hw⟩ : ∃ w : Fi (spF t x'.n), w.1 = v' := ⟨⟨v', hm⟩, rfl⟩
 subst hw
 refine AN (VS.take (hc := skH bs t (spF t x'.n) (srF t x') w.1) (by exact AD) (Env.le_refl _)) ?_
 exact rq0 rfl ⟨w, rfl, rfl⟩
theorem sdo (bs : Nat) (t : Tk) (e : Exp) (g : Grown t e) (x : Ms) (hI : MsI t e x) (ha : x.a ≤ 900000000) (m : Fo) (hm : 1 ≤ m.kind ∧ m.kind ≤ 4) (hv : 0 ≤ m.val ∧ m.val ≤ 2147483647) (v : Fi (spF t x.n)) :
 AC Tryz.prog GP 30 [.val (.pointer (some ⟨bs, 0, none⟩)), .agg [.int m.kind, .int m.val]] (skM bs t x v.1) fun r h => ∃ w : Fi (spF t (mvF t x m).n), r = .ret (.tup []) ∧ h = skM bs t (mvF t x m) w.1 := by
 obtain ⟨c, k⟩ := m
 dsimp only at hm hv ⊢
 by_cases h4 : c = 4
 · subst h4; exact Ui bs t e g x hI k v
 by_cases hu : x.up = true
 · have : c = 1 ∨ c = 2 ∨ c = 3 := by omega
   rcases this with rfl | rfl | rfl
   · exact Zd bs t e g x hI ha hu k hv.1 hv.2 v
   · exact Yn bs t e g x hI hu k v
   · exact WD bs t e g x hI hu k hv.1 v
 · exact Ws bs t x (by simpa using hu) c k h4 v
end Go.Proofs.YtnlfhnbcdfdhgaaGreatDoor
namespace Go.Av
open Go
structure JHB (k : Kx) (ops : Array Oper) (n f : Nat) (listed : Array Bool) (l2 : List Oper) (i m : Nat) (Q : Exit → Env → H → Prop) (hT : H) (ρ : Env) (h : H) : Prop where
 get : ∀ j, i ≤ j → j < i + m → j ∈ Region.ready .any ops listed → ∃ o, ops[j]? = some o ∧
  ((∀ c : World × (Nat → Prop) × List Nat, JL ⟨k.P, ⟨c.1, c.2.1, c.2.2, k.c.G⟩, k.n, k.df⟩ ops [o] (fun e ρ' hT' => e = .normal ∧ JH k ops n f (listed.setIfInBounds j true) l2 0 n false Q hT' ρ' h) ρ hT) ∨
   ∃ d v r, d < k.n ∧ (∀ w I, AV.rel w I r v) ∧ (∀ y, Region.wanted o y = true) ∧ (∀ I a w (K : Act → World → Prop) (Q' : Exit → Act → World → Prop), Ok k.c I (hT ++ h) w → SF k.n w I ρ a → (∀ w', C1 I (hT ++ h) w w' → K (a.put (some d) v) w') → o.wp k.P a w K Q') ∧ JH k ops n f (listed.setIfInBounds j true) l2 0 n false Q hT ((d, r) :: ρ) h)
section
variable {k : Kx} {Q : Exit → Env → H → Prop} {ρ ρ' : Env} {h h' hT : H} {ops : Array Oper} {listed : Array Bool} {l2 : List Oper} {n f i m d : Nat} {op : Op} {ty : TypeId} {pos : String} {after : Array Edge} {pr : Bool}
theorem aZ (_ht : True) : JHB k ops n f listed l2 i 0 Q hT ρ h := ⟨fun j h1 h2 => by omega⟩
theorem WV (hc : (Region.ready .any ops listed).contains i = false) (hj : JHB k ops n f listed l2 (i + 1) m Q hT ρ h) : JHB k ops n f listed l2 i (m + 1) Q hT ρ h :=
 ⟨fun j h1 h2 hr => by
  by_cases e : j = i
  · subst e
    have : (Region.ready .any ops listed).contains j = true := by simpa using hr
    rw [this] at hc; cases hc
  · exact hj.get j (by omega) (by omega) hr⟩
theorem bB {dst : Option Tmp} {g : Option (Nat × Bool)} (ho : ops[i]? = some ⟨dst, op, ty, pos, after, g⟩)
 (hj : Two (dh fun c => JL ⟨k.P, ⟨c.1, c.2.1, c.2.2, k.c.G⟩, k.n, k.df⟩ ops [⟨dst, op, ty, pos, after, g⟩] (fun e ρ' hT' => e = .normal ∧ JH k ops n f (listed.setIfInBounds i true) l2 0 n false Q hT' ρ' h) ρ hT) (JHB k ops n f listed l2 (i + 1) m Q hT ρ h)) : JHB k ops n f listed l2 i (m + 1) Q hT ρ h :=
 ⟨fun j h1 h2 hr => by
  by_cases e : j = i
  · subst e
    exact ⟨_, ho, .inl hj.fst.get⟩
  · exact hj.snd.get j (by omega) (by omega) hr⟩
theorem YR {fn : FuncId} {xs : Array Operand} {ats : Array TypeId} {es args : List AV} {v : Value} {r : AV} (ho : ops[i]? = some ⟨some d, .call { callee := .value (.func fn), args := xs, argTypes := ats }, ty, pos, after, none⟩)
 (hxs : FN ρ xs.toList = some es) (hcal : Cal k.P fn) (hac : ACr k.P k.c.G fn args (.val v)) (hrv : ∀ w I, AV.rel w I r v) (hb : PR h es args) (hd : Nat.blt d k.n = true)
 (hj : Two (JH k ops n f (listed.setIfInBounds i true) l2 0 n false Q hT ((d, r) :: ρ) h) (JHB k ops n f listed l2 (i + 1) m Q hT ρ h)) : JHB k ops n f listed l2 i (m + 1) Q hT ρ h :=
 ⟨fun j h1 h2 hr => by
  by_cases e : j = i
  · subst e
    refine ⟨_, ho, .inr ⟨d, v, r, blt hd, hrv, fun y => by simp [Region.wanted], fun I a w K Q' k1 k2 hK => ?_, hj.fst⟩⟩
    unfold Oper.wp
    rw [DO (x := .func fn) (caps := #[]) rfl, hcal]
    simp only [Oper.upon]
    have hrel : AV.rels w I es (xs.toList.map a.eval ++ (#[] : Array Value).toList) := by
     rw [show (#[] : Array Value).toList = [] from rfl, List.append_nil, ← CA hxs]; exact DW k2 xs.toList
    refine (AC.borrow hac hb k1.right rfl hrel).mono ?_
    rintro e w' ⟨rfl, hs⟩
    exact hK w' ⟨hs.os, hs.tape, hs.output, hs.size, hs.block⟩
  · exact hj.snd.get j (by omega) (by omega) hr⟩
theorem a7 {fn : FuncId} {xs : Array Operand} {ats : Array TypeId} {es args : List AV} {v : Value} (ho : ops[i]? = some ⟨some d, .call { callee := .value (.func fn), args := xs, argTypes := ats }, ty, pos, after, none⟩)
 (hxs : FN ρ xs.toList = some es) (hcal : Cal k.P fn) (hac : ACr k.P k.c.G fn args (.val v)) (hb : PR h es args) (hd : Nat.blt d k.n = true)
 (hj : Two (JH k ops n f (listed.setIfInBounds i true) l2 0 n false Q hT ((d, .val v) :: ρ) h) (JHB k ops n f listed l2 (i + 1) m Q hT ρ h)) : JHB k ops n f listed l2 i (m + 1) Q hT ρ h :=
 YR (r := .val v) ho hxs hcal hac (fun _ _ => by unfold AV.rel; rfl) hb hd hj
theorem Z2 (hne : (Region.ready .any ops listed).isEmpty = false) (hs : (Region.ready .any ops listed).all (fun j => decide (j < n)) = true) (hj : JHB k ops n f listed l2 0 n Q hT ρ h) : JH k ops n (f + 1) listed l2 i 0 false Q hT ρ h := by
 refine ⟨fun hsh inv I a w h1 h2 h3 => ⟨fun e => by rw [e] at hne; simp at hne, fun j hjr => ?_⟩⟩
 have hjn : j < n := by simpa using List.all_eq_true.1 hs j hjr
 refine ⟨hjn, ?_⟩
 obtain ⟨o, ho, hJ⟩ := hj.get j (Nat.zero_le _) (by omega) hjr
 unfold wpOp
 rw [ho]
 dsimp only
 rcases hJ with hJ | ⟨d, v, r, hd, hrv, hw, hB, hJ⟩
 · have H := hJ (w, I, blks hT) I a w h1.left h2 h3
   dsimp only at H
   have hK : ∀ a' w', lift ⟨k.P, ⟨w, I, blks hT, k.c.G⟩, k.n, k.df⟩ (fun e ρ' hT' => e = .normal ∧ JH k ops n f (listed.setIfInBounds j true) l2 0 n false Q hT' ρ' h) .normal a' w' →
    Sam (blks hT) w w' ∧ GB k.P .any ops (Sam (blks hT) w) n (fun listed' a' w' => Region.seqB .any ops (ops.size - n) n listed' = true ∧ wpList k.P ops (lift k Q) l2 a' w') f (listed.setIfInBounds j true) a' w' := by
    rintro a' w' ⟨I', ρ', hT', q1, q2, q3, _, q4⟩
    obtain ⟨k1, _⟩ := Ok.call (hc := hT) (hr := h) h1 q1
    have hsm : Sam (blks hT) w w' := ⟨q1.os, q1.tape, q1.output, q1.size, fun b hb hE => q1.keep b hb hE⟩
    refine ⟨hsm, FG (S := Sam (blks hT') w') (fun u hu => ?_) _ _ _ _ (q4.get hsh (inv.set hjr hjn) I' a' w' k1 q2 q3)⟩
    refine ⟨hu.os.trans hsm.os, hu.tape.trans hsm.tape, hu.output.trans hsm.output, Nat.le_trans hsm.size hu.size, fun b hb hE => (hu.block b (Nat.lt_of_lt_of_le hb hsm.size) fun hm => ?_).trans (hsm.block b hb hE)⟩
    rcases q1.new b hm with hx | hx
    · exact hE hx
    · exact absurd hb (Nat.not_lt.2 hx)
   have hQ : ∀ e a' w', e ≠ .normal → ¬ lift ⟨k.P, ⟨w, I, blks hT, k.c.G⟩, k.n, k.df⟩ (fun e ρ' hT' => e = .normal ∧ JH k ops n f (listed.setIfInBounds j true) l2 0 n false Q hT' ρ' h) e a' w' := by
    rintro e a' w' he ⟨_, _, _, _, _, _, q, _⟩
    exact he q
   rw [wpList] at H
   by_cases hw : Region.wanted o (yielded ops a.tmps) = true
   · rw [if_pos hw] at H ⊢
     rcases H with H | ⟨_, a', w', H⟩
     · exact .inl (GI hK hQ H)
     · exact absurd H (hQ _ _ _ (by simp))
   · rw [if_neg hw] at H ⊢
     exact hK _ _ H
 · rw [if_pos (hw _)]
   refine .inl (hB I a w _ _ h1 h2 fun w' hsm => ?_)
   have hsm' : Sam (blks hT) w w' := ⟨hsm.os, hsm.tape, hsm.output, hsm.size, fun b hb _ => hsm.block b hb⟩
   refine ⟨hsm', FG (S := Sam (blks hT) w') (fun u hu => ?_) _ _ _ _ (hJ.get hsh (inv.set hjr hjn) I _ w' (h1.same hsm) ((SF.same h1 hsm h2).put (fun t ht => by cases ht; exact hd) (r := r) (hrv _ _)) (by rw [Act.defers_put]; exact h3))⟩
   exact ⟨hu.os.trans hsm.os, hu.tape.trans hsm.tape, hu.output.trans hsm.output, Nat.le_trans hsm.size hu.size, fun b hb hE => (hu.block b (Nat.lt_of_lt_of_le hb hsm.size) hE).trans (hsm.block b hb)⟩
end
section
variable {P : Program} {G : List (Nat × List D)} {ρ : Env} {h : H} {dst : Option Tmp} {ty : TypeId} {pos : String} {after : Array Edge} {g : Option (Nat × Bool)}
theorem R0 {T : TypeId} {x : Operand} {cs : List D} {z : Value} {sz eb : Nat} (hT : A0 P T = some true) (hE : El P T z sz eb) (hx : evO ρ x = some (.pd cs)) (hn : Nat.ble sz cs.length = true) : Pure P G ⟨dst, .load T x, ty, pos, after, g⟩ ρ h (.agg ((cs.take sz).map D.av)) :=
 H8 hT hE (AA hx) rfl (by have := Nat.le_of_ble_eq_true hn; rw [List.length_take]; omega)
end
end Go.Av
namespace Go.Proofs.YtnlfhnbcdfdhgaaGreatDoor
open Go Go.Av Go.Sp

theorem Nz : Cal Tryz.prog 59 := Cal.of Tryz.func59 (by kernel_rfl) (by kernel_rfl)
theorem NV : Cal Tryz.prog 105 := Cal.of Tryz.func105 (by kernel_rfl) (by kernel_rfl)
abbrev gnA (g : Gn) : AV := .agg [.d (AO g.spots), .int g.init, .d (FX g.next), .d (DF g.sets), .int g.many]
theorem Sk (g : Gn) : grA g.gr = gnA g := by
 unfold grA gnA Gn.gr
 rw [Ln, Wx]

abbrev du (bs bt bv : Nat) (n : Nat) (p : List Bool × List Nat) (q : Sl) : H := [.cells bs 109 [.val (.slice (some ⟨bv, 0, none⟩) n n)], .cells bv 4 (p.1.map AV.bool), .cells bt 49 [.val q.v], AH q.v 3 1 Nv p.2]
theorem visit (G : List (Nat × List D)) (bs bt bv n i : Nat) (p : List Bool × List Nat) (q : Sl) (hn : p.1.length = n) (hi : i < n) (hl : n ≤ 20000) (hp : p.2.length ≤ 100000) :
 AC Tryz.prog G 105 [.int i, .val (.pointer (some ⟨bs, 0, none⟩)), .val (.pointer (some ⟨bt, 0, none⟩))] (du bs bt bv n p q) fun r h => ∃ q' : Sl, r = .ret (.tup []) ∧ h = du bs bt bv n (Bl p i) q' := by
 refine Dl (ts := []) Tryz.f105.ntmps Tryz.func105 rfl rfl rfl (by simp [Tryz.ntmps105]) fun W I => ?_
 have hb := Kz p.1 i (by omega)
 by_cases h : p.1[i]'(by omega) = true
 · have e : Bl p i = p := by rw [Bl, hb, if_pos h]
   rw [e]
   repeat' (first
    | exact True.intro | refine AP ?_ | refine two ?_ ?_
    | (refine imp fun hc => ?_) <;> try exact cx hc
    | refine all fun v_ => ?_)
   · exact rq0 rfl ⟨_, rfl, rfl⟩
   · rw [h] at hc; cases hc
 · have e : Bl p i = (p.1.set i true, p.2 ++ [i]) := by rw [Bl, hb, if_neg h]
   rw [e]
   repeat' (first
    | exact True.intro | refine AP ?_ | refine two ?_ ?_
    | (refine imp fun hc => ?_) <;> try exact cx hc
    | refine all fun v_ => ?_)
   exact rq0 rfl ⟨_, rfl, rfl⟩
theorem L6 : ∀ n : Nat, HP (List.replicate n false) = n
 | 0 => rfl
 | n + 1 => by rw [List.replicate_succ, HP, L6 n]; simp [Nat.add_comm]
theorem Uy {α : Type} (r : List α) (v : α) (h : ((((r ++ [v]).length : Nat) : Int) - 1).toNat < (r ++ [v]).length) : (r ++ [v])[((((r ++ [v]).length : Nat) : Int) - 1).toNat] = v := by
 have e : ((((r ++ [v]).length : Nat) : Int) - 1).toNat = r.length := by simp
 simp [e]
theorem S0 {α : Type} (r : List α) (v : α) : (r ++ [v]).take ((((r ++ [v]).length : Nat) : Int) - 1).toNat = r := by
 have e : ((((r ++ [v]).length : Nat) : Int) - 1).toNat = r.length := by simp
 rw [e, List.take_left]
theorem Yi (G : List (Nat × List D)) (g : Gr) : ACr Tryz.prog G 59 [grA g] (.tup [.d (Bt (Ec g).1), .int (Ec g).2]) := by
 refine AJ (ts := [2, 3]) Tryz.f59.ntmps Tryz.func59 rfl rfl rfl (by simp [Tryz.ntmps59]) fun W I => ?_
 have E := ZK G g
 by_cases hk : ¬ okG g
 · have e : Jz g = 9 := if_neg hk
   rw [e] at E
   repeat' (first
    | refine ca GH (E) ?_
    | exact True.intro | refine AP ?_ | refine two ?_ ?_
    | (refine imp fun hc => ?_) <;> try exact cx hc
    | refine all fun v_ => ?_)
   refine AN (VS.trans (VS.drop (List.nil_sublist _)) (EZ (t := 2) 1 1 rfl)) ?_
   ((with_reducible apply rq2); rfl; rfl; rfl)
   exact AB (by rw [Ol hk]; rfl)
 obtain ⟨g, rfl, hok⟩ := JU (Decidable.not_not.1 hk)
 rw [JV (Gn.ok_gr hok)] at E
 rw [Sk] at E ⊢
 clear hk
 have hs := hok.size
 have hi0 := hok.init
 have hnl := hok.next
 repeat' (first
  | refine ca GH (E) ?_
  | exact True.intro | refine AP ?_ | refine two ?_ ?_
  | (refine imp fun hc => ?_) <;> try exact cx hc
  | refine all fun v_ => ?_)
 rename_i bg bv bs
 rename Nat => bt
 refine F6 (E := 3) (sz := 1) Nv ?_
 refine AM (X := (List Bool × List Nat) × Sl × Nat) (fun y => [(1, .val (.pointer (some ⟨bg, 0, none⟩))), (5, .val (.pointer (some ⟨bs, 0, none⟩))), (6, .val (.pointer (some ⟨bt, 0, none⟩))), (7, .val (.func (.func 105) #[] #[.pointer (some ⟨bs, 0, none⟩), .pointer (some ⟨bt, 0, none⟩)])), (23, .int g.init), (24, .int y.2.2)]) (fun y => [.cells bs 109 [.val (.slice (some ⟨bv, 0, none⟩) g.spots.length g.spots.length)], .cells bv 4 (y.1.1.map AV.bool), .cells bt 49 [.val y.2.1.v], AH y.2.1.v 3 1 Nv y.1.2, .cells bg 51 [.d (AO g.spots), .int g.init, .d (FX g.next), .d (DF g.sets), .int g.many]]) (fun y => RI g none y.2.2 y.1 ∧ y.2.2 ≤ g.init ∧ muR y.1 ≤ 2 * g.spots.length) (fun y => g.init - y.2.2) ((List.replicate g.spots.length false, []), Sl.nil, 0) ⟨RI.start g, Nat.zero_le _, ?_⟩ (VS.take (by exact AW) ?_) ?_
 · simp [muR, L6]
 · exact leD
 rintro ⟨p, q, i⟩ ⟨h1, h2, h3⟩
 dsimp only at h1 h2 h3 ⊢
 have hp := h1.len
 have hp2 : p.2.length ≤ 100000 := by unfold muR at h3; omega
 by_cases hi : i < g.init
 · have hin : i < g.spots.length := by omega
   repeat' (first
    | refine cgv NV (visit _ bs bt bv _ i p q hp hin hs hp2) ?_
    | exact True.intro | refine AP ?_ | refine two ?_ ?_
    | (refine imp fun hc => ?_) <;> try exact cx hc
    | refine all fun v_ => ?_)
   have hm := RT (p := p) (i := i) (by omega)
   refine ⟨(Bl p i, v_, i + 1), ⟨h1.initStep hok hi, by dsimp only; omega, by dsimp only; omega⟩, by dsimp only; omega, VS.of_le ?_⟩
   exact leD
 obtain rfl : i = g.init := by omega
 repeat' (first
  | exact True.intro | refine AP ?_ | refine two ?_ ?_
  | (refine imp fun hc => ?_) <;> try exact cx hc
  | refine all fun v_ => ?_)
 refine AM (X := (List Bool × List Nat) × Sl) (fun y => [(1, .val (.pointer (some ⟨bg, 0, none⟩))), (5, .val (.pointer (some ⟨bs, 0, none⟩))), (6, .val (.pointer (some ⟨bt, 0, none⟩))), (7, .val (.func (.func 105) #[] #[.pointer (some ⟨bs, 0, none⟩), .pointer (some ⟨bt, 0, none⟩)]))]) (fun y => [.cells bs 109 [.val (.slice (some ⟨bv, 0, none⟩) g.spots.length g.spots.length)], .cells bv 4 (y.1.1.map AV.bool), .cells bt 49 [.val y.2.v], AH y.2.v 3 1 Nv y.1.2, .cells bg 51 [.d (AO g.spots), .int g.init, .d (FX g.next), .d (DF g.sets), .int g.many]]) (fun y => RI g none g.init y.1 ∧ muR y.1 ≤ 2 * g.spots.length) (fun y => muR y.1) (p, q) ⟨h1, h3⟩ (VS.of_le ?_) ?_
 · exact leD
 clear h1 h3 hp hp2 hi h2
 rintro ⟨⟨s, td⟩, q⟩ ⟨h1, h3⟩
 dsimp only at h1 h3 ⊢
 have hp := h1.len
 have hp2 : td.length ≤ 100000 := by unfold muR at h3; dsimp only at h3; omega
 rcases List.eq_nil_or_concat td with e | ⟨r, v, e⟩
 · subst e
   repeat' (first
    | exact True.intro | refine AP ?_ | refine two ?_ ?_
    | (refine imp fun hc => ?_) <;> try exact cx hc
    | refine all fun v_ => ?_)
   refine AN (VS.trans (VS.drop (h' := [.cells bv 4 (s.map AV.bool)]) (by exact HX)) (vfz (t := 2) (f := Ns) (h1 := []) 1 1 rfl rfl rfl (Ex s) hp (fun _ => rfl) (by omega) (by omega))) ?_
   ((with_reducible apply rq2); rfl; rfl; rfl)
   exact AB (by rw [JI hok, ← h1.all rfl])
 · rw [List.concat_eq_append] at e
   subst e
   have hv := h1.todo v (by simp)
   have hvn : v < g.next.length := by omega
   have hlr : ((r ++ [v]).length : Int) = r.length + 1 := by simp
   repeat' (first
    | exact True.intro | refine AP ?_ | refine two ?_ ?_
    | (refine imp fun hc => ?_) <;> try exact cx hc
    | refine all fun v_ => ?_)
   simp only [Uy, S0]
   repeat' (first
    | exact True.intro | refine AP ?_ | refine two ?_ ?_
    | (refine imp fun hc => ?_) <;> try exact cx hc
    | refine all fun v_ => ?_)
   have h1' := h1.pop (v := v) (r := r) rfl
   have hm1 : muR (s, r) < muR (s, r ++ [v]) := by simp [muR]
   have hnx := g.nx_get v hvn
   refine AM (X := (List Bool × List Nat) × Sl × Nat) (fun y => [(1, .val (.pointer (some ⟨bg, 0, none⟩))), (5, .val (.pointer (some ⟨bs, 0, none⟩))), (6, .val (.pointer (some ⟨bt, 0, none⟩))), (7, .val (.func (.func 105) #[] #[.pointer (some ⟨bs, 0, none⟩), .pointer (some ⟨bt, 0, none⟩)])), (49, .d (DF g.next[v])), (50, .int g.next[v].length), (51, .int y.2.2)]) (fun y => [.cells bs 109 [.val (.slice (some ⟨bv, 0, none⟩) g.spots.length g.spots.length)], .cells bv 4 (y.1.1.map AV.bool), .cells bt 49 [.val y.2.1.v], AH y.2.1.v 3 1 Nv y.1.2, .cells bg 51 [.d (AO g.spots), .int g.init, .d (FX g.next), .d (DF g.sets), .int g.many]]) (fun y => RI g (some (v, y.2.2)) g.init y.1 ∧ bi y.1.1 v = true ∧ y.2.2 ≤ g.next[v].length ∧ muR y.1 ≤ muR (s, r)) (fun y => g.next[v].length - y.2.2) ((s, r), v_, 0) ⟨h1', hv.2, Nat.zero_le _, Nat.le_refl _⟩ (VS.of_le ?_) ?_
   · exact leD
   rintro ⟨p, q, j⟩ ⟨k1, k2, k3, k4⟩
   dsimp only at k1 k2 k3 k4 ⊢
   refine DB (t := 49) rfl fun hlj => ?_
   have hpl := k1.len
   have hp3 : p.2.length ≤ 100000 := by
    have h5 : muR p ≤ 2 * g.spots.length := by omega
    unfold muR at h5; omega
   by_cases hj : j < g.next[v].length
   · have hj' : j < (g.nx v).length := by rw [hnx]; exact hj
     have hke : (g.nx v)[j] = g.next[v][j] := by simp only [hnx]
     have hkn := g.nx_lt hok v _ (List.getElem_mem hj')
     have ke := k1.edge hok k2 hj'
     rw [hke] at hkn ke
     repeat' (first
      | refine cgv NV (visit _ bs bt bv _ g.next[v][j] p q hpl hkn hs hp3) ?_
      | exact True.intro | refine AP ?_ | refine two ?_ ?_
      | (refine imp fun hc => ?_) <;> try exact cx hc
      | refine all fun v_ => ?_)
     have hm := RT (p := p) (i := g.next[v][j]) (by omega)
     refine ⟨(Bl p g.next[v][j], v_, j + 1), ⟨ke, FZ (by omega) k2, by dsimp only; omega, by dsimp only; omega⟩, by dsimp only; omega, VS.of_le ?_⟩
     exact leD
   · have ej : j = (g.nx v).length := by rw [hnx]; omega
     rw [ej] at k1
     repeat' (first
      | exact True.intro | refine AP ?_ | refine two ?_ ?_
      | (refine imp fun hc => ?_) <;> try exact cx hc
      | refine all fun v_ => ?_)
     refine ⟨(p, q), ⟨k1.done, by dsimp only; omega⟩, by dsimp only; omega, VS.of_le ?_⟩
     exact leD
end Go.Proofs.YtnlfhnbcdfdhgaaGreatDoor
