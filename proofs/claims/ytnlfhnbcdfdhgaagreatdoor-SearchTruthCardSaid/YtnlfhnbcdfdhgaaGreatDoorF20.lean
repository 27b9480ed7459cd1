/- A bundle of this claim's own texts: O10 E15 P2 P3 U4. -/
import Derived.Test.YtnlfhnbcdfdhgaaGreatDoorF2
import Derived.Test.YtnlfhnbcdfdhgaaGreatDoorF16
import Derived.Test.YtnlfhnbcdfdhgaaGreatDoorF18
import Derived.Test.YtnlfhnbcdfdhgaaGreatDoorF19
set_option linter.unusedVariables false
set_option linter.unusedSimpArgs false
set_option maxRecDepth 100000
set_option maxHeartbeats 4000000
namespace Go.Proofs.YtnlfhnbcdfdhgaaGreatDoor
open Go Go.Av Go.Sp
theorem VG (G : List (Nat × List D)) (s : Sto) (n : Int) (h0 : Fj s n = (false, 0)) (hp : DK s) (hf : ¬ (BR s).length = 20000) (h7 : ¬ s.loose.length + 1 < 8) : ACr Tryz.prog G 94 [stA s, .int n] (.tup [stA (EJ s n).1.1, .bool (EJ s n).1.2, .int (EJ s n).2]) := by
 have hH := VM G s n
 unfold EJ
 rw [h0] at hH ⊢
 dsimp only at hH ⊢
 rw [if_neg (fun k => k rfl), if_neg (by decide), if_neg hf, if_neg h7]
 dsimp only
 have hfew := hp.few
 have hK := YS G s (by omega) (by omega)
 have hkl := Hg s
 have hrf := K8 s.runs fun r hr => (hp.runs r hr).1
 have hll : (s.loose ++ [n]).length = s.loose.length + 1 := by simp
 refine Bm (rs := [.cell 4 77, .tmp 5, .tmp 6]) Tryz.f94.ntmps Tryz.func94 rfl rfl rfl (by simp [Tryz.ntmps94]) fun W I => ?_
 repeat' (first
  | refine ca EF (hH) ?_
  | refine ca J0 (hK) ?_
  | refine cag KX (own G s) ?_
  | ((with_reducible apply As); (focus rfl); (focus exact DJ); (focus exact cI G v_ (s.loose ++ [n]) (by omega)); (focus exact AW); (focus rfl); (focus exact BO))
  | ((with_reducible apply (BX (f := Aa) (u := n))); (focus rfl); (focus rfl); (focus (with_reducible exact ElC.h)); (focus exact BS); (focus rfl); (focus rfl); (focus rfl); (focus rfl); (focus exact Af); (focus exact Af))
  | exact True.intro | refine AG ?_ | refine two ?_ ?_ | refine AF fun c_ => ?_
  | (refine imp fun hc => ?_) <;> try exact cx1 hc
  | refine all fun v_ => ?_)
 clear v_
 rename_i bs br k1 v bo k2
 obtain ⟨q, rfl⟩ : ∃ x, x = v_ := ⟨v_, rfl⟩
 obtain ⟨p, pr⟩ := v
 have hsl : (A9 (s.loose ++ [n])).length = s.loose.length + 1 := by rw [Ed, hll]
 have hup := HF (s.loose ++ [n])
 generalize hLL : A9 (s.loose ++ [n]) = L0 at hsl hup ⊢
 dsimp only
 refine C3 (VS.trans (VS.take (hc := [AH q.v 3 1 Aa L0, AH pr.v 49 1 BP s.runs, .cells bo 77 [.val q.v, .val pr.v], .cells br 77 [.val Sl.nil.v, .val Sl.nil.v]]) (by exact AD) (Env.le_refl _))
  (D1 (h1 := []) (h' := [AH pr.v 49 1 BP s.runs, .cells bo 77 [.d (AK L0), .val pr.v], .cells br 77 [.val Sl.nil.v, .val Sl.nil.v]]) 8 rfl rfl (fun _ => rfl) (by omega) (CvE.cons (t := 47) rfl .here (CvE.refl _ _ _)) (.keep (.cells (.cons .here (.cons (.same _) .nil)) (.refl _))))) ?_
 repeat' (first
  | ((with_reducible apply (BX (f := BP) (u := L0))); (focus rfl); (focus rfl); (focus (with_reducible exact ElC.h)); (focus exact BS); (focus rfl); (focus rfl); (focus rfl); (focus rfl); (focus exact Af); (focus exact Af))
  | exact True.intro | refine AG ?_ | refine two ?_ ?_ | refine AF fun c_ => ?_
  | (refine imp fun hc => ?_) <;> try exact cx1 hc
  | refine all fun v_ => ?_)
 obtain ⟨p2, rfl⟩ : ∃ x, x = v_ := ⟨v_, rfl⟩
 clear hc
 have hrl : (s.runs ++ [L0]).length = s.runs.length + 1 := by simp
 have hrise := hp.runs
 refine AM (X := Nat × List Int × Sl) (fun y => [(4, .val (.pointer (some ⟨br, 0, none⟩))), (9, .val (.pointer (some ⟨bo, 0, none⟩))), (10, .int ((y.1 + 1 : Nat) : Int))]) (fun y => [.cells bo 77 [.val Sl.nil.v, .val y.2.2.v], AH y.2.2.v 49 1 BP (s.runs.take y.1 ++ [y.2.1]), .cells br 77 [.val Sl.nil.v, .val Sl.nil.v]]) (fun y => PkI s.runs L0 y.1 y.2.1) (fun y => y.1) (s.runs.length, L0, p2) ⟨Nat.le_refl _, hup, rfl, by dsimp only; rw [List.take_length]; omega⟩ (VS.take (by dsimp only; rw [List.take_length]; exact AD) ?_) ?_
 · exact leD
 rintro ⟨m, last, p⟩ hI
 dsimp only at hI ⊢
 cases m with
 | zero =>
   have hpk := hI.zero
   have hRl : (s.runs.take 0 ++ [last]).length = 1 := rfl
   repeat' (first
    | exact True.intro | refine AG ?_ | refine two ?_ ?_ | refine AF fun c_ => ?_
    | (refine imp fun hc => ?_) <;> try exact cx1 hc
    | refine all fun v_ => ?_)
   rw [show FB s.runs s.runs.length L0 = s.runs.take 0 ++ [last] from hpk]
   refine HA (VS.trans (VS.take (hc := [AH p.v 49 1 BP (s.runs.take 0 ++ [last]), .cells br 77 [.val Sl.nil.v, .val p.v]]) (by exact AD) (Env.le_refl _))
    (VS.trans (D1 (h1 := []) (h' := [.cells br 77 [.val Sl.nil.v, .d (Ah (s.runs.take 0 ++ [last]))]]) 24 rfl rfl (fun _ => rfl) (by omega) (CvE.refl _ _ _) ?_)
    (VS.trans (VS.nilrow 3 1) (D1 (f := Aa) (xs := []) (h1 := []) (h' := [.cells br 77 [.d (AK []), .d (Ah (s.runs.take 0 ++ [last]))]]) 8 rfl rfl (fun _ => rfl) (by simp) (CvE.refl _ _ _) ?_)))) (xs := [.agg [.d (AK []), .d (Ah (s.runs.take 0 ++ [last]))], .bool true, .int 0]) ⟨Ax rfl (by (with_reducible exact ElC.h)) rfl (by exact Ab) rfl, Az rfl, Az rfl, trivial⟩ rfl (h' := []) (List.nil_sublist _) (AB rfl)
   · exact .cells (.cons (.same _) (.cons .here .nil)) (.refl _)
   · exact .cells (.cons .here (.cons (.same _) .nil)) (.refl _)
 | succ m =>
   have hm := hI.le
   have hRl : (s.runs.take (m + 1) ++ [last]).length = m + 2 := by rw [List.length_append, List.length_take]; simp; omega
   have i1 : (((m + 1 + 1 : Nat) : Int) - 1).toNat < (s.runs.take (m + 1) ++ [last]).length := by omega
   have i2 : (((m + 1 + 1 : Nat) : Int) - 2).toNat < (s.runs.take (m + 1) ++ [last]).length := by omega
   have g1 : (s.runs.take (m + 1) ++ [last])[(((m + 1 + 1 : Nat) : Int) - 1).toNat]'i1 = last := by
    have e : (((m + 1 + 1 : Nat) : Int) - 1).toNat = m + 1 := by omega
    simp only [e]
    rw [List.getElem_append_right (by rw [List.length_take]; omega)]
    simp
   have g2 : (s.runs.take (m + 1) ++ [last])[(((m + 1 + 1 : Nat) : Int) - 2).toNat]'i2 = s.runs[m] := by
    have e : (((m + 1 + 1 : Nat) : Int) - 2).toNat = m := by omega
    simp only [e]
    rw [List.getElem_append_left (by rw [List.length_take]; omega), List.getElem_take]
   have g1l := congrArg List.length g1
   have g2l := congrArg List.length g2
   have gt : (s.runs.take (m + 1) ++ [last]).take (((m + 1 + 1 : Nat) : Int) - 2).toNat = s.runs.take m := by
    have e : (((m + 1 + 1 : Nat) : Int) - 2).toNat = m := by omega
    rw [e, List.take_append_of_le_length (by rw [List.length_take]; omega), List.take_take, Nat.min_eq_left (by omega)]
   by_cases hl : s.runs[m].length ≤ last.length
   · have hn := hI.next hl
     have h2 := hI.few
     rw [CZ s.runs m hm, List.length_append] at h2
     have hM := AC.frz 8 (merge G s.runs[m] last (fD (hrise _ (List.getElem_mem hm)).2) hI.up (by omega)) rfl (fun _ => rfl) (by rw [Ed, List.length_append]; omega)
     have F : ACr Tryz.prog G 144 [.d (AK ((s.runs.take (m + 1) ++ [last])[(((m + 1 + 1 : Nat) : Int) - 2).toNat]'i2)), .d (AK ((s.runs.take (m + 1) ++ [last])[(((m + 1 + 1 : Nat) : Int) - 1).toNat]'i1))] (.d (AK (A9 (s.runs[m] ++ last)))) := by
      rw [g2, g1]; exact hM
     generalize hr' : A9 (s.runs[m] ++ last) = r' at F hn
     repeat' (first
      | refine ca Vx (F) ?_
      | ((with_reducible apply (BX (f := BP) (u := r'))); (focus rfl); (focus rfl); (focus (with_reducible exact ElC.h)); (focus exact BS); (focus rfl); (focus rfl); (focus rfl); (focus rfl); (focus exact Af); (focus exact Af))
      | exact True.intro | refine AG ?_ | refine two ?_ ?_ | refine AF fun c_ => ?_
      | (refine imp fun hc => ?_) <;> try exact cx1 hc
      | refine all fun v_ => ?_)
     refine ⟨(m, r', v_), hn, Nat.lt_succ_self m, VS.take (by dsimp only; rw [← gt]; exact AD) ?_⟩
     exact leD
   · have hpk := hI.stop hl
     repeat' (first
      | exact True.intro | refine AG ?_ | refine two ?_ ?_ | refine AF fun c_ => ?_
      | (refine imp fun hc => ?_) <;> try exact cx1 hc
      | refine all fun v_ => ?_)
     rw [hpk]
     refine HA (VS.trans (VS.take (hc := [AH p.v 49 1 BP (s.runs.take (m + 1) ++ [last]), .cells br 77 [.val Sl.nil.v, .val p.v]]) (by exact AD) (Env.le_refl _))
      (VS.trans (D1 (h1 := []) (h' := [.cells br 77 [.val Sl.nil.v, .d (Ah (s.runs.take (m + 1) ++ [last]))]]) 24 rfl rfl (fun _ => rfl) (by omega) (CvE.refl _ _ _) ?_)
      (VS.trans (VS.nilrow 3 1) (D1 (f := Aa) (xs := []) (h1 := []) (h' := [.cells br 77 [.d (AK []), .d (Ah (s.runs.take (m + 1) ++ [last]))]]) 8 rfl rfl (fun _ => rfl) (by simp) (CvE.refl _ _ _) ?_)))) (xs := [.agg [.d (AK []), .d (Ah (s.runs.take (m + 1) ++ [last]))], .bool true, .int 0]) ⟨Ax rfl (by (with_reducible exact ElC.h)) rfl (by exact Ab) rfl, Az rfl, Az rfl, trivial⟩ rfl (h' := []) (List.nil_sublist _) (AB rfl)
     · exact .cells (.cons (.same _) (.cons .here .nil)) (.refl _)
     · exact .cells (.cons .here (.cons (.same _) .nil)) (.refl _)
theorem SAdd (G : List (Nat × List D)) (s : Sto) (n : Int) : ACr Tryz.prog G 94 [stA s, .int n] (.tup [stA (EJ s n).1.1, .bool (EJ s n).1.2, .int (EJ s n).2]) := by
 by_cases h0 : (Fj s n).2 ≠ 0
 · exact WZ G s n h0
 replace h0 := Decidable.not_not.1 h0
 have hp := Y4 h0
 cases hb : (Fj s n).1 with
 | true => exact YN G s n (Prod.ext hb h0)
 | false =>
   have hv : Fj s n = (false, 0) := Prod.ext hb h0
   by_cases hf : (BR s).length = 20000
   · exact VP G s n hv hp hf
   · by_cases h7 : s.loose.length + 1 < 8
     · exact R6 G s n hv hp hf h7
     · exact VG G s n hv hp hf h7
end Go.Proofs.YtnlfhnbcdfdhgaaGreatDoor
namespace Go.Av
open Go
section
variable {k : Kx} {Q : Exit → Env → H → Prop} {ρ : Env} {h h' : H}
theorem Cm {id t : Nat} {l : List Oper} {P : Program} (hT : H) (hm : P.follows .mixedOrders = true) (hP : k.P = P) (hn : l.length = t) (hs : Region.noSelect l.toArray = true) (ht : Take h hT h')
 (hj : JH k l.toArray t t (Array.replicate t false) [] 0 t false Q hT ρ h') : J k (.region id l.toArray true) Q ρ h := by
 refine Ox (VS.perm ht.perm) ?_
 subst hP
 subst hn
 have hsh : Ga l.toArray l.length = true := by simp [Ga, hs]
 intro I a w h1 h2 h3
 refine wp_region_any hm ?_
 have hsm : C1 I (hT ++ h') w { w with drawn := w.drawn + 1 } := ⟨rfl, rfl, rfl, Nat.le_refl _, fun _ _ => rfl⟩
 have inv0 : HeadInv .any l.toArray l.length (Array.replicate l.length false) :=
  ⟨by simp, fun j oj _ hl => (by rw [getD_replicate_false] at hl; cases hl), fun t _ ht => getD_in (by simpa using ht) (getD_replicate_false _ _)⟩
 have H := hj.get hsh inv0 I a _ (h1.same hsm) (SF.same h1 hsm h2) h3
 have K := DS (Q := lift k Q) (g := 0) (fun listed' a' w' hL => by
  have := wpAny_of_seq (md := .any) (Q' := lift k Q) [] l.length listed' a' w' (fun j => by simp) (by
   have := hL.1
   simpa using this) hL.2
  simpa using this) _ _ _ _ H
 simpa using K
end
end Go.Av
namespace Go.Proofs.YtnlfhnbcdfdhgaaGreatDoor
open Go Go.Av Go.Sp
abbrev Fi (l : List Fo) := {v : Sl × Sto // HN v.2 l}
theorem meet (G : List (Nat × List D)) (bs : Nat) (t : Tk) (r : Sr) (l : List Fo) (x : Fo) (v : Fi l) (hx : CX x) (hl : ∀ b ∈ l, CX b) (hn : x ∉ l) (hL : l.length < 20000) :
 AC Tryz.prog G 52 [.val (.pointer (some ⟨bs, 0, none⟩)), .agg [.int x.kind, .int x.val]] (skH bs t l r v.1) fun e h => ∃ w : Fi (l ++ [x]), e = .ret (.bool true) ∧ h = skH bs t (l ++ [x]) r w.1 := by
 obtain ⟨⟨q, s⟩, hm⟩ := v
 obtain ⟨s', e, hm'⟩ := hm.add hx hl hn hL
 have hA := SAdd G s (CU x)
 rw [e] at hA
 dsimp only at hA hm ⊢
 refine AJ (ts := [4]) Tryz.f52.ntmps Tryz.func52 rfl rfl rfl (by simp [Tryz.ntmps52]) fun W I => ?_
 repeat' (first
  | exact True.intro | refine cb ?_ | refine two ?_ ?_ | refine AF fun c_ => ?_
  | (refine imp fun hc => ?_) <;> try exact cx hc
  | refine all fun v_ => ?_)
 obtain ⟨bx, rfl⟩ : ∃ x, x = v_ := ⟨v_, rfl⟩
 refine ⟨?_⟩
 refine GW (X := Nat) (fun y => [(0, .val (.pointer (some ⟨bs, 0, none⟩))), (3, .val (.pointer (some ⟨bx, 0, none⟩))), (5, .val (.pointer (some ⟨y, 0, none⟩))), (6, .bool true), (7, .int 0)]) (fun y => [.cells y 77 [.d (AK s'.loose), .d (Ah s'.runs)], skC bs t q s r, AH q.v 106 2 Fo.cells l, .cells bx 106 [.int x.kind, .int x.val]]) ?_ ?_
 · refine Cm [] mixed rfl (by (repeat (with_reducible apply AU)); exact len_nil) (by decide +kernel) (by exact AW) ?_
   repeat' (first
    | refine ca Hr (keyOf G x hx) ?_
    | refine ca Yu (hA) ?_
    | exact True.intro | refine AG ?_ | refine two ?_ ?_ | refine AF fun c_ => ?_
    | (refine imp fun hc => ?_) <;> try exact cx1 hc
    | refine all fun v_ => ?_)
   all_goals
    refine ⟨_, VS.take (by exact AD) ?_⟩
    exact leD
 intro b5
 repeat' (first
  | ((with_reducible apply (BX (f := Fo.cells) (u := x))); (focus rfl); (focus rfl); (focus (with_reducible exact ElC.h)); (focus exact BS); (focus rfl); (focus rfl); (focus rfl); (focus rfl); (focus exact Af); (focus exact Af))
  | exact True.intro | refine cb ?_ | refine two ?_ ?_ | refine AF fun c_ => ?_
  | (refine imp fun hc => ?_) <;> try exact cx hc
  | refine all fun v_ => ?_)
 refine ⟨?_⟩
 refine Bn [AH q.v 106 2 Fo.cells l] mixed rfl (by (repeat ((with_reducible apply Hd.cons); (focus rfl))); exact Hd.nil) (by (repeat (with_reducible apply AU)); exact len_nil) (by decide +kernel) (by exact AW) ?_
 repeat' (first
  | ((with_reducible apply (BX (f := Fo.cells) (u := x))); (focus rfl); (focus rfl); (focus (with_reducible exact ElC.h)); (focus exact BS); (focus rfl); (focus rfl); (focus rfl); (focus rfl); (focus exact Af); (focus exact Af))
  | exact True.intro | refine AG ?_ | refine two ?_ ?_ | refine AF fun c_ => ?_
  | (refine imp fun hc => ?_) <;> try exact cx1 hc
  | refine all fun v_ => ?_)
 all_goals
  refine AN (VS.take (hc := skH bs t (l ++ [x]) r (v_, s')) (by exact AD) (Env.le_refl _)) ?_
  ((with_reducible apply rq1); rfl; rfl)
  exact ⟨⟨(v_, s'), hm'⟩, rfl, rfl⟩
end Go.Proofs.YtnlfhnbcdfdhgaaGreatDoor
namespace Go.Av
open Go
theorem cv6 {v : Value} {d : D} {c0 c1 c2 c3 c4 c5 c7 c8 c9 d0 d1 d2 d3 d4 d5 d6 d7 d8 : AV} {b : Nat} {T : TypeId} {h : H} : CvH v d (.cells b T [c0, c1, c2, c3, c4, c5, .val v, c7, c8, c9, d0, d1, d2, d3, d4, d5, d6, d7, d8] :: h) (.cells b T [c0, c1, c2, c3, c4, c5, .d d, c7, c8, c9, d0, d1, d2, d3, d4, d5, d6, d7, d8] :: h) := .cells (.cons (.same _) (.cons (.same _) (.cons (.same _) (.cons (.same _) (.cons (.same _) (.cons (.same _) (.cons .here (.cons (.same _) (.cons (.same _) (.cons (.same _) (.cons (.same _) (.cons (.same _) (.cons (.same _) (.cons (.same _) (.cons (.same _) (.cons (.same _) (.cons (.same _) (.cons (.same _) (.cons (.same _) .nil))))))))))))))))))) (.refl _)
theorem cv7 {v : Value} {d : D} {c0 c1 c2 c3 c4 c5 c6 c8 c9 d0 d1 d2 d3 d4 d5 d6 d7 d8 : AV} {b : Nat} {T : TypeId} {h : H} : CvH v d (.cells b T [c0, c1, c2, c3, c4, c5, c6, .val v, c8, c9, d0, d1, d2, d3, d4, d5, d6, d7, d8] :: h) (.cells b T [c0, c1, c2, c3, c4, c5, c6, .d d, c8, c9, d0, d1, d2, d3, d4, d5, d6, d7, d8] :: h) := .cells (.cons (.same _) (.cons (.same _) (.cons (.same _) (.cons (.same _) (.cons (.same _) (.cons (.same _) (.cons (.same _) (.cons .here (.cons (.same _) (.cons (.same _) (.cons (.same _) (.cons (.same _) (.cons (.same _) (.cons (.same _) (.cons (.same _) (.cons (.same _) (.cons (.same _) (.cons (.same _) (.cons (.same _) .nil))))))))))))))))))) (.refl _)
theorem cv10 {v : Value} {d : D} {c0 c1 c2 c3 c4 c5 c6 c7 c8 c9 d1 d2 d3 d4 d5 d6 d7 d8 : AV} {b : Nat} {T : TypeId} {h : H} : CvH v d (.cells b T [c0, c1, c2, c3, c4, c5, c6, c7, c8, c9, .val v, d1, d2, d3, d4, d5, d6, d7, d8] :: h) (.cells b T [c0, c1, c2, c3, c4, c5, c6, c7, c8, c9, .d d, d1, d2, d3, d4, d5, d6, d7, d8] :: h) := .cells (.cons (.same _) (.cons (.same _) (.cons (.same _) (.cons (.same _) (.cons (.same _) (.cons (.same _) (.cons (.same _) (.cons (.same _) (.cons (.same _) (.cons (.same _) (.cons .here (.cons (.same _) (.cons (.same _) (.cons (.same _) (.cons (.same _) (.cons (.same _) (.cons (.same _) (.cons (.same _) (.cons (.same _) .nil))))))))))))))))))) (.refl _)
end Go.Av
namespace Go.Proofs.YtnlfhnbcdfdhgaaGreatDoor
open Go Go.Av Go.Sp
theorem MZ : Cal Tryz.prog 29 := Cal.of Tryz.func29 (by kernel_rfl) (by kernel_rfl)
theorem WU (bs : Nat) (t : Tk) (r : Sr) (l0 : List Fo) (q : Sl) (a b : AV) (ht : BL t = 0) :
 AC Tryz.prog GP 29 [.val (.pointer (some ⟨bs, 0, none⟩))] [skD bs t q a b r, AH q.v 106 2 Fo.cells l0] fun e h => ∃ w : Fi (spF t 0), e = .ret (.tup []) ∧ h = skH bs t (spF t 0) ⟨r.up, 0, r.most, r.tape, r.out⟩ w.1 := by
 have hB := Wy t
 have e0 : spF t 0 = (A3 t).1 := rfl
 have hnd := Dv t 0
 have hsm := Fq ht 0
 have hfew := Jv t
 rw [← e0] at hB hfew
 generalize spF t 0 = B at hB hnd hsm hfew ⊢
 refine Dl (ts := []) Tryz.f29.ntmps Tryz.func29 rfl rfl rfl (by simp [Tryz.ntmps29]) fun W I => ?_
 repeat' (first
  | refine ca Jm (hB) ?_
  | exact True.intro | refine AP ?_ | refine two ?_ ?_
  | (refine imp fun hc => ?_) <;> try exact cx hc
  | refine all fun v_ => ?_)
 refine Ox (VS.trans (VS.take (hc := [skD bs t Sl.nil (.val Sl.nil.v) (.val Sl.nil.v) ⟨r.up, 0, r.most, r.tape, r.out⟩]) (by exact AD) (Env.le_refl _)) (VS.trans (VS.nilrow 3 1) (VS.trans (D1 (f := Aa) (xs := []) (h1 := []) 8 rfl rfl (fun _ => rfl) (by simp) (CvE.refl _ _ _) cv6) (VS.trans (VS.nilrow 49 1) (VS.trans (D1 (f := BP) (xs := []) (h1 := []) 24 rfl rfl (fun _ => rfl) (by simp) (CvE.refl _ _ _) cv7) (VS.nilrow 106 2)))))) ?_
 refine AM (X := Nat × Sl × Sto) (fun y => [(0, .val (.pointer (some ⟨bs, 0, none⟩))), (24, .d (AO B)), (25, .int B.length), (26, .int y.1)]) (fun y => skH bs t (B.take y.1) ⟨r.up, 0, r.most, r.tape, r.out⟩ y.2) (fun y => y.1 ≤ B.length ∧ HN y.2.2 (B.take y.1)) (fun y => B.length - y.1) (0, Sl.nil, ⟨[], []⟩) ⟨Nat.zero_le _, HN.nil⟩ (VS.take (by dsimp only; exact AD) ?_) ?_
 · exact leD
 rintro ⟨i, v⟩ ⟨hi, hm⟩
 dsimp only at hi hm ⊢
 by_cases hil : i < B.length
 · have et : B.take i ++ [B[i]] = B.take (i + 1) := (List.take_succ_eq_append_getElem hil).symm
   have hnew : B[i] ∉ B.take i := fun hm => by
    obtain ⟨j, hj, e⟩ := List.getElem_of_mem hm
    rw [List.getElem_take] at e
    have := (List.getElem_inj hnd).1 e
    rw [List.length_take] at hj; omega
   have F := meet GP bs t ⟨r.up, 0, r.most, r.tape, r.out⟩ (B.take i) B[i] ⟨v, hm⟩ (hsm _ (List.getElem_mem hil)) (fun b hb => hsm b (List.mem_of_mem_take hb)) hnew (by rw [List.length_take]; omega)
   rw [et] at F
   repeat' (first
    | refine cag Kp (F) ?_
    | exact True.intro | refine AP ?_ | refine two ?_ ?_
    | (refine imp fun hc => ?_) <;> try exact cx hc
    | refine all fun v_ => ?_)
   obtain ⟨⟨w, hw⟩, rfl⟩ : ∃ x, x = v_ := ⟨v_, rfl⟩
   refine ⟨(i + 1, w), ⟨hil, hw⟩, by dsimp only; omega, VS.take (by exact AD) ?_⟩
   exact leD
 obtain rfl : i = B.length := by omega
 rw [List.take_length] at hm ⊢
 repeat' (first
  | exact True.intro | refine AP ?_ | refine two ?_ ?_
  | (refine imp fun hc => ?_) <;> try exact cx hc
  | refine all fun v_ => ?_)
 exact rq0 rfl ⟨⟨v, hm⟩, rfl, rfl⟩

theorem Nf : Cal Tryz.prog 99 := Cal.of Tryz.func99 (by kernel_rfl) (by kernel_rfl)
set_option maxHeartbeats 2000000 in
theorem eH (G : List (Nat × List D)) (t : Tp) (l : List Int) : ACr Tryz.prog G 99 [tpA t, .d (AK l)] (.tup [tpA (DR t l).1, .int (DR t l).2]) := by
 refine Bm (rs := [.cell 4 80, .tmp 5]) 61 Tryz.func99 rfl rfl rfl (by simp) fun W I => ?_
 by_cases hm : ¬ EO t
 · repeat' (first
    | refine cae BA (DM _ _ hm) ?_
    | refine ca BA (DN _ _ hm) ?_
    | ((with_reducible apply Jw); (focus rfl); (focus exact Aj); (focus exact put _ _ _ _ (Nat.zero_le _)); (focus rfl))
    | ((with_reducible apply callU1); (focus rfl); (focus exact Aj); (focus exact put _ _ _ _ (Nat.zero_le _)); (focus rfl))
    | ((with_reducible apply callU2); (focus rfl); (focus exact Aj); (focus exact put _ _ _ _ (Nat.zero_le _)); (focus rfl))
    | ((with_reducible apply callU3); (focus rfl); (focus exact Aj); (focus exact put _ _ _ _ (Nat.zero_le _)); (focus rfl))
    | ((with_reducible apply JY); (focus rfl); (focus exact Aj); (focus exact put _ _ _ _ (Nat.zero_le _)); (focus rfl))
    | ((with_reducible apply callU5); (focus rfl); (focus exact Aj); (focus exact put _ _ _ _ (Nat.zero_le _)); (focus rfl))
    | exact True.intro | refine AP ?_ | refine two ?_ ?_
    | (refine imp fun hc => ?_) <;> try exact cx hc
    | refine all fun v_ => ?_)
   exact Eo (xs := [.agg [.val (.slice none 0 0), .int 0], .int 9]) (ys := [tpA DD, .int 9]) vid ⟨Ax rfl CT rfl (by exact Ab) rfl, Az rfl, trivial⟩ ⟨AV.le_agg ⟨AV.le_nil 1 1, AV.le_refl _, trivial⟩, AV.le_refl _, trivial⟩ rfl (h' := []) (List.nil_sublist _) (AB (by rw [DR, if_pos hm]; rfl))
 · replace hm := Decidable.not_not.1 hm
   obtain ⟨m1, m2, m3⟩ := hm
   have hm : EO t := ⟨m1, m2, m3⟩
   refine DB (t := 1) rfl fun hl => ?_
   refine F6 (E := 5) (sz := 1) Cy ?_
   repeat' (first
    | refine cae BA (DM _ _ hm) ?_
    | refine ca BA (DN _ _ hm) ?_
    | ((with_reducible apply Jw); (focus rfl); (focus exact Aj); (focus exact put _ _ _ _ (Nat.zero_le _)); (focus rfl))
    | ((with_reducible apply callU1); (focus rfl); (focus exact Aj); (focus exact put _ _ _ _ (Nat.zero_le _)); (focus rfl))
    | ((with_reducible apply callU2); (focus rfl); (focus exact Aj); (focus exact put _ _ _ _ (Nat.zero_le _)); (focus rfl))
    | ((with_reducible apply callU3); (focus rfl); (focus exact Aj); (focus exact put _ _ _ _ (Nat.zero_le _)); (focus rfl))
    | ((with_reducible apply JY); (focus rfl); (focus exact Aj); (focus exact put _ _ _ _ (Nat.zero_le _)); (focus rfl))
    | ((with_reducible apply callU5); (focus rfl); (focus exact Aj); (focus exact put _ _ _ _ (Nat.zero_le _)); (focus rfl))
    | exact True.intro | refine AP ?_ | refine two ?_ ?_
    | (refine imp fun hc => ?_) <;> try exact cx hc
    | refine all fun v_ => ?_)
   · exact Eo (xs := [.agg [.val (.slice none 0 0), .int 0], .int 1]) (ys := [tpA DD, .int 1]) vid ⟨Ax rfl CT rfl (by exact Ab) rfl, Az rfl, trivial⟩ ⟨AV.le_agg ⟨AV.le_nil 1 1, AV.le_refl _, trivial⟩, AV.le_refl _, trivial⟩ rfl (h' := []) (List.nil_sublist _) (AB (by rw [WQ hm (by omega)]; rfl))
   rw [show ([] : List UInt8) ++ b4 l.length = Fc l 0 from (TR l).symm]
   rename_i bp br q b6
   have hbig : ¬ 4000 < l.length := by omega
   refine Ku (X := Nat × Sl) (fun y => [(1, .d (AK l)), (4, .val (.pointer (some ⟨br, 0, none⟩))), (6, .val (.pointer (some ⟨b6, 0, none⟩))), (8, .val y.2.v), (26, .d (AK l)), (27, .int l.length), (28, .int y.1)]) (fun y => [AH y.2.v 5 1 Cy (Fc l y.1), .cells b6 80 [.val q.v, .int t.synced], AH q.v 5 1 Cy t.data, .cells br 80 [.val (.slice none 0 0), .int 0], .cells bp 80 [.d (B0 t.data), .int t.synced]]) (fun y => y.1 ≤ l.length ∧ CO (l.take y.1)) (fun y => l.length - y.1) (0, v_) ⟨Nat.zero_le _, Pc l⟩ ?_ rfl ?_
   · exact leD
   rintro ⟨i, v⟩ ⟨k1, k2⟩
   dsimp only at k1 k2 ⊢
   have hlen := I7 l i k1
   by_cases hi : i < l.length
   · by_cases hb : 0 ≤ l[i] ∧ l[i] ≤ 2147483647
     · repeat' (first
        | ((with_reducible apply Jw); (focus rfl); (focus exact Aj); (focus exact put _ _ _ _ (by omega)); (focus rfl))
        | ((with_reducible apply callU1); (focus rfl); (focus exact Aj); (focus exact put _ _ _ _ (by omega)); (focus rfl))
        | ((with_reducible apply callU2); (focus rfl); (focus exact Aj); (focus exact put _ _ _ _ (by omega)); (focus rfl))
        | ((with_reducible apply callU3); (focus rfl); (focus exact Aj); (focus exact put _ _ _ _ (by omega)); (focus rfl))
        | ((with_reducible apply JY); (focus rfl); (focus exact Aj); (focus exact put _ _ _ _ (by omega)); (focus rfl))
        | ((with_reducible apply callU5); (focus rfl); (focus exact Aj); (focus exact put _ _ _ _ (by omega)); (focus rfl))
        | refine H9 rfl D8 (Sum _ _) ⟨DZ (E := 5) 1 (by exact Ab) rfl (fun _ => rfl) (by omega), trivial⟩ rfl ?_
        | exact True.intro | refine AP ?_ | refine two ?_ ?_
        | (refine imp fun hc => ?_) <;> try exact cx hc
        | refine all fun v_ => ?_)
       refine ⟨(i + 1, v_), ⟨by dsimp only; omega, Py l i hi k2 hb⟩, by dsimp only; omega, ?_, ?_⟩
       · exact leD
       · dsimp only
         rw [TH l i hi]
     · repeat' (first
        | ((with_reducible apply Jw); (focus rfl); (focus exact Aj); (focus exact put _ _ _ _ (by omega)); (focus rfl))
        | ((with_reducible apply callU1); (focus rfl); (focus exact Aj); (focus exact put _ _ _ _ (by omega)); (focus rfl))
        | ((with_reducible apply callU2); (focus rfl); (focus exact Aj); (focus exact put _ _ _ _ (by omega)); (focus rfl))
        | ((with_reducible apply callU3); (focus rfl); (focus exact Aj); (focus exact put _ _ _ _ (by omega)); (focus rfl))
        | ((with_reducible apply JY); (focus rfl); (focus exact Aj); (focus exact put _ _ _ _ (by omega)); (focus rfl))
        | ((with_reducible apply callU5); (focus rfl); (focus exact Aj); (focus exact put _ _ _ _ (by omega)); (focus rfl))
        | refine H9 rfl D8 (Sum _ _) ⟨DZ (E := 5) 1 (by exact Ab) rfl (fun _ => rfl) (by omega), trivial⟩ rfl ?_
        | exact True.intro | refine AP ?_ | refine two ?_ ?_
        | (refine imp fun hc => ?_) <;> try exact cx hc
        | refine all fun v_ => ?_)
       all_goals
        exact Eo (xs := [.agg [.val (.slice none 0 0), .int 0], .int 2]) (ys := [tpA DD, .int 2]) vid ⟨Ax rfl CT rfl (by exact Ab) rfl, Az rfl, trivial⟩ ⟨AV.le_agg ⟨AV.le_nil 1 1, AV.le_refl _, trivial⟩, AV.le_refl _, trivial⟩ rfl (h' := []) (List.nil_sublist _) (AB (by rw [VX hm hbig (Uk l i hi (by omega))]; rfl))
   · obtain rfl : i = l.length := by omega
     have hlen2 := EA l
     have hA : (Fc l l.length ++ b4 (sumOf (Fc l l.length))).length = 8 + 4 * l.length := hlen2
     have hok := SB l _ (Nat.le_refl _) k2
     repeat' (first
      | ((with_reducible apply Jw); (focus rfl); (focus exact Aj); (focus exact put _ _ _ _ (by omega)); (focus rfl))
      | ((with_reducible apply callU1); (focus rfl); (focus exact Aj); (focus exact put _ _ _ _ (by omega)); (focus rfl))
      | ((with_reducible apply callU2); (focus rfl); (focus exact Aj); (focus exact put _ _ _ _ (by omega)); (focus rfl))
      | ((with_reducible apply callU3); (focus rfl); (focus exact Aj); (focus exact put _ _ _ _ (by omega)); (focus rfl))
      | ((with_reducible apply JY); (focus rfl); (focus exact Aj); (focus exact put _ _ _ _ (by omega)); (focus rfl))
      | ((with_reducible apply callU5); (focus rfl); (focus exact Aj); (focus exact put _ _ _ _ (by omega)); (focus rfl))
      | refine H9 rfl D8 (Sum _ _) ⟨DZ (E := 5) 1 (by exact Ab) rfl (fun _ => rfl) (by omega), trivial⟩ rfl ?_
      | exact True.intro | refine AP ?_ | refine two ?_ ?_
      | (refine imp fun hc => ?_) <;> try exact cx hc
      | refine all fun v_ => ?_)
     · exact Eo (xs := [.agg [.val (.slice none 0 0), .int 0], .int 12]) (ys := [tpA DD, .int 12]) vid ⟨Ax rfl CT rfl (by exact Ab) rfl, Az rfl, trivial⟩ ⟨AV.le_agg ⟨AV.le_nil 1 1, AV.le_refl _, trivial⟩, AV.le_refl _, trivial⟩ rfl (h' := []) (List.nil_sublist _) (AB (by rw [LV hm hbig hok (by omega)]; rfl))
     refine C3 (D1 (h1 := []) (h' := [_, _, _, _]) 1 rfl rfl (fun _ => rfl) (by omega) (CvE.cons (t := 57) rfl .here (CvE.refl _ _ _)) (CvH.refl _)) ?_
     repeat' (first
      | ((with_reducible apply Jw); (focus rfl); (focus exact Aj); (focus exact put _ _ _ _ (by omega)); (focus rfl))
      | ((with_reducible apply callU1); (focus rfl); (focus exact Aj); (focus exact put _ _ _ _ (by omega)); (focus rfl))
      | ((with_reducible apply callU2); (focus rfl); (focus exact Aj); (focus exact put _ _ _ _ (by omega)); (focus rfl))
      | ((with_reducible apply callU3); (focus rfl); (focus exact Aj); (focus exact put _ _ _ _ (by omega)); (focus rfl))
      | ((with_reducible apply JY); (focus rfl); (focus exact Aj); (focus exact put _ _ _ _ (by omega)); (focus rfl))
      | ((with_reducible apply callU5); (focus rfl); (focus exact Aj); (focus exact put _ _ _ _ (by omega)); (focus rfl))
      | refine H9 rfl D8 (Sum _ _) ⟨DZ (E := 5) 1 (by exact Ab) rfl (fun _ => rfl) (by omega), trivial⟩ rfl ?_
      | exact True.intro | refine AP ?_ | refine two ?_ ?_
      | (refine imp fun hc => ?_) <;> try exact cx hc
      | refine all fun v_ => ?_)
     have hd : (t.data ++ Ao l).length = t.data.length + (8 + 4 * l.length) := by rw [List.length_append, hlen2]
     refine HA (VS.trans (VS.drop (h' := [AH v_.v 5 1 Cy (t.data ++ Ao l), .cells br 80 [.val v_.v, .int t.synced]]) (.cons _ (.cons_cons _ (.cons_cons _ (.cons _ .slnil))))) (D1 (h1 := []) 1 rfl rfl (fun _ => rfl) (by omega) (CvE.refl _ _ _) (CvH.cells (.cons .here (.cons (.same _) .nil)) (.refl _)))) (xs := [.agg [.d (B0 (t.data ++ Ao l)), .int t.synced], .int 0]) ⟨Ax rfl CT rfl (by exact Ab) rfl, Az rfl, trivial⟩ rfl (h' := []) (List.nil_sublist _) (AB (by rw [LM hm hbig hok (by omega)]; rfl))
end Go.Proofs.YtnlfhnbcdfdhgaaGreatDoor
