/- Own texts. -/
import Derived.Test.YtnlfhnbcdfdhgaaGreatDoorA25
set_option linter.unusedVariables false
set_option linter.unusedSimpArgs false
set_option maxRecDepth 100000
set_option maxHeartbeats 4000000
namespace Go.Proofs.YtnlfhnbcdfdhgaaGreatDoor
open Go Go.Av Go.Sp
theorem W8 (G : List (Nat × List D)) (s : Sto) (n : Int) (h0 : Gl s n = (false, 0)) (hp : EB s) (hf : ¬ (Bw s).length = 20000) (h7 : ¬ s.loose.length + 1 < 8) : ACr Tryz.prog G 94 [stA s, .int n] (.tup [stA (E5 s n).1.1, .bool (E5 s n).1.2, .int (E5 s n).2]) := by
 have hH := Wz G s n
 unfold E5
 rw [h0] at hH ⊢
 dsimp only at hH ⊢
 rw [if_neg (fun k => k rfl), if_neg (by decide), if_neg hf, if_neg h7]
 dsimp only
 have hfew := hp.few
 have hK := aJ G s jB jB
 have hkl := JU s
 have hrf := Ni s.runs fun r hr => (hp.runs r hr).1
 have hll : (s.loose ++ [n]).length = s.loose.length + 1 := by simp
 refine BV (rs := [.cell 4 77, .tmp 5, .tmp 6]) Tryz.f94.ntmps Tryz.func94 rfl rfl rfl (by simp [Tryz.ntmps94]) fun W I => ?_
 repeat' (first | refine ca Ew (hH) ?_ | refine ca Lb (hK) ?_ | refine cag MB (own G s) ?_ | ((with_reducible apply D8); rfl; exact D7; (focus exact eN G v_ (s.loose ++ [n]) jB); exact BF; rfl; exact EI) | refine i7 (DP (f := AS) (u := n)) ?_ | exact jA | refine AF ?_ | refine two ?_ ?_ | refine AB fun c_ => ?_ | refine imp fun hc => ?_; try exact cx1 hc | refine all fun v_ => ?_)
 clear v_
 rename_i bs br k1 v bo k2
 obtain ⟨q, rfl⟩ : ∃ x, x = v_ := ⟨v_, rfl⟩
 obtain ⟨p, pr⟩ := v
 have hsl : (Ba (s.loose ++ [n])).length = s.loose.length + 1 := by rw [Ff, hll]
 have hup := Io (s.loose ++ [n])
 generalize hLL : Ba (s.loose ++ [n]) = L0 at hsl hup ⊢
 dsimp only
 refine GQ (VS.trans (VS.take (hc := [AL q.v 3 1 AS L0, AL pr.v 49 1 BP s.runs, .cells bo 77 [.val q.v, .val pr.v], .cells br 77 [.val Sl.nil.v, .val Sl.nil.v]]) AH (Env.le_refl _))
  (EA (h1 := []) (h' := [AL pr.v 49 1 BP s.runs, .cells bo 77 [.d (AJ L0), .val pr.v], .cells br 77 [.val Sl.nil.v, .val Sl.nil.v]]) 8 rfl rfl (fun _ => rfl) jB (CvE.cons (t := 47) rfl .here (CvE.refl _ _ _)) (.keep (.cells (.cons .here (.cons (.same _) .nil)) (.refl _))))) ?_
 repeat' (first | refine i7 (DP (f := BP) (u := L0)) ?_ | exact jA | refine AF ?_ | refine two ?_ ?_ | refine AB fun c_ => ?_ | refine imp fun hc => ?_; try exact cx1 hc | refine all fun v_ => ?_)
 obtain ⟨p2, rfl⟩ : ∃ x, x = v_ := ⟨v_, rfl⟩
 clear hc
 have hrl : (s.runs ++ [L0]).length = s.runs.length + 1 := by simp
 have hrise := hp.runs
 refine AG (X := Nat × List Int × Sl) (fun y => [(4, .val (.pointer (some ⟨br, 0, none⟩))), (9, .val (.pointer (some ⟨bo, 0, none⟩))), (10, .int ((y.1 + 1 : Nat) : Int))]) (fun y => [.cells bo 77 [.val Sl.nil.v, .val y.2.2.v], AL y.2.2.v 49 1 BP (s.runs.take y.1 ++ [y.2.1]), .cells br 77 [.val Sl.nil.v, .val Sl.nil.v]]) (fun y => PkI s.runs L0 y.1 y.2.1) (fun y => y.1) (s.runs.length, L0, p2) ⟨Nat.le_refl _, hup, rfl, by dsimp only; rw [List.take_length]; omega⟩ (VS.take (by dsimp only; rw [List.take_length]; exact AH) ?_) ?_
 · exact leD
 rintro ⟨m, last, p⟩ hI
 dsimp only at hI ⊢
 cases m with
 | zero =>
   have hpk := hI.zero
   have hRl : (s.runs.take 0 ++ [last]).length = 1 := rfl
   repeat' (first | exact jA | refine AF ?_ | refine two ?_ ?_ | refine AB fun c_ => ?_ | refine imp fun hc => ?_; try exact cx1 hc | refine all fun v_ => ?_)
   rw [show Fp s.runs s.runs.length L0 = s.runs.take 0 ++ [last] from hpk]
   refine FM (VS.trans (VS.take (hc := [AL p.v 49 1 BP (s.runs.take 0 ++ [last]), .cells br 77 [.val Sl.nil.v, .val p.v]]) AH (Env.le_refl _))
    (VS.trans (EA (h1 := []) (h' := [.cells br 77 [.val Sl.nil.v, .d (AX (s.runs.take 0 ++ [last]))]]) 24 rfl rfl (fun _ => rfl) jB (CvE.refl _ _ _) ?_)
    (VS.trans (VS.nilrow 3 1) (EA (f := AS) (xs := []) (h1 := []) (h' := [.cells br 77 [.d (AJ []), .d (AX (s.runs.take 0 ++ [last]))]]) 8 rfl rfl (fun _ => rfl) (by simp) (CvE.refl _ _ _) ?_)))) (xs := [.agg [.d (AJ []), .d (AX (s.runs.take 0 ++ [last]))], .bool true, .int 0]) ⟨Ax rfl (by (with_reducible exact ElC.h)) rfl AW rfl, A4 rfl, A4 rfl, trivial⟩ rfl (h' := []) (jc _) (AA rfl)
   · exact .cells (.cons (.same _) (.cons .here .nil)) (.refl _)
   · exact .cells (.cons .here (.cons (.same _) .nil)) (.refl _)
 | succ m =>
   have hm := hI.le
   have hRl : (s.runs.take (m + 1) ++ [last]).length = m + 2 := by rw [List.length_append, List.length_take]; simp; omega
   have i1 : (((m + 1 + 1 : Nat) : Int) - 1).toNat < (s.runs.take (m + 1) ++ [last]).length := by omega
   have i2 : (((m + 1 + 1 : Nat) : Int) - 2).toNat < (s.runs.take (m + 1) ++ [last]).length := by omega
   have g1 : (s.runs.take (m + 1) ++ [last])[(((m + 1 + 1 : Nat) : Int) - 1).toNat]'i1 = last := by
    have e : (((m + 1 + 1 : Nat) : Int) - 1).toNat = m + 1 := by omega
    simp only [e]
    rw [List.getElem_append_right (by rw [List.length_take]; omega)]
    simp
   have g2 : (s.runs.take (m + 1) ++ [last])[(((m + 1 + 1 : Nat) : Int) - 2).toNat]'i2 = s.runs[m] := by
    have e : (((m + 1 + 1 : Nat) : Int) - 2).toNat = m := by omega
    simp only [e]
    rw [List.getElem_append_left (by rw [List.length_take]; omega), List.getElem_take]
   have g1l := congrArg List.length g1
   have g2l := congrArg List.length g2
   have gt : (s.runs.take (m + 1) ++ [last]).take (((m + 1 + 1 : Nat) : Int) - 2).toNat = s.runs.take m := by
    have e : (((m + 1 + 1 : Nat) : Int) - 2).toNat = m := by omega
    rw [e, List.take_append_of_le_length (by rw [List.length_take]; omega), List.take_take, Nat.min_eq_left jB]
   by_cases hl : s.runs[m].length ≤ last.length
   · have hn := hI.next hl
     have h2 := hI.few
     rw [DI s.runs m hm, List.length_append] at h2
     have hM := AC.frz 8 (merge G s.runs[m] last (gv (hrise _ (jb hm)).2) hI.up jB) rfl (fun _ => rfl) (by rw [Ff, List.length_append]; omega)
     have F : ACr Tryz.prog G 144 [.d (AJ ((s.runs.take (m + 1) ++ [last])[(((m + 1 + 1 : Nat) : Int) - 2).toNat]'i2)), .d (AJ ((s.runs.take (m + 1) ++ [last])[(((m + 1 + 1 : Nat) : Int) - 1).toNat]'i1))] (.d (AJ (Ba (s.runs[m] ++ last)))) := by
      rw [g2, g1]; exact hM
     generalize hr' : Ba (s.runs[m] ++ last) = r' at F hn
     repeat' (first | refine ca Wn (F) ?_ | refine i7 (DP (f := BP) (u := r')) ?_ | exact jA | refine AF ?_ | refine two ?_ ?_ | refine AB fun c_ => ?_ | refine imp fun hc => ?_; try exact cx1 hc | refine all fun v_ => ?_)
     refine ⟨(m, r', v_), hn, Nat.lt_succ_self m, VS.take (by dsimp only; rw [← gt]; exact AH) ?_⟩
     exact leD
   · have hpk := hI.stop hl
     repeat' (first | exact jA | refine AF ?_ | refine two ?_ ?_ | refine AB fun c_ => ?_ | refine imp fun hc => ?_; try exact cx1 hc | refine all fun v_ => ?_)
     rw [hpk]
     refine FM (VS.trans (VS.take (hc := [AL p.v 49 1 BP (s.runs.take (m + 1) ++ [last]), .cells br 77 [.val Sl.nil.v, .val p.v]]) AH (Env.le_refl _))
      (VS.trans (EA (h1 := []) (h' := [.cells br 77 [.val Sl.nil.v, .d (AX (s.runs.take (m + 1) ++ [last]))]]) 24 rfl rfl (fun _ => rfl) jB (CvE.refl _ _ _) ?_)
      (VS.trans (VS.nilrow 3 1) (EA (f := AS) (xs := []) (h1 := []) (h' := [.cells br 77 [.d (AJ []), .d (AX (s.runs.take (m + 1) ++ [last]))]]) 8 rfl rfl (fun _ => rfl) (by simp) (CvE.refl _ _ _) ?_)))) (xs := [.agg [.d (AJ []), .d (AX (s.runs.take (m + 1) ++ [last]))], .bool true, .int 0]) ⟨Ax rfl (by (with_reducible exact ElC.h)) rfl AW rfl, A4 rfl, A4 rfl, trivial⟩ rfl (h' := []) (jc _) (AA rfl)
     · exact .cells (.cons (.same _) (.cons .here .nil)) (.refl _)
     · exact .cells (.cons .here (.cons (.same _) .nil)) (.refl _)
theorem SAdd (G : List (Nat × List D)) (s : Sto) (n : Int) : ACr Tryz.prog G 94 [stA s, .int n] (.tup [stA (E5 s n).1.1, .bool (E5 s n).1.2, .int (E5 s n).2]) := by
 by_cases h0 : (Gl s n).2 ≠ 0
 · exact Yb G s n h0
 replace h0 := jY h0
 have hp := Yg h0
 cases hb : (Gl s n).1 with
 | true => exact ZN G s n (Prod.ext hb h0)
 | false =>
   have hv : Gl s n = (false, 0) := Prod.ext hb h0
   by_cases hf : (Bw s).length = 20000
   · exact W6 G s n hv hp hf
   · by_cases h7 : s.loose.length + 1 < 8
     · exact UY G s n hv hp hf h7
     · exact W8 G s n hv hp hf h7
end Go.Proofs.YtnlfhnbcdfdhgaaGreatDoor
namespace Go.Av
open Go
section
variable {k : Kx} {Q : Exit → Env → H → Prop} {ρ : Env} {h h' : H}
theorem Gf {id t : Nat} {l : List Oper} {P : Program} (hT : H) (hm : P.follows .mixedOrders = true) (hP : k.P = P) (hn : l.length = t) (hs : Region.noSelect l.toArray = true) (ht : Take h hT h')
 (hj : JH k l.toArray t t (Array.replicate t false) [] 0 t false Q hT ρ h') : J k (.region id l.toArray true) Q ρ h := by
 refine IH (VS.perm ht.perm) ?_
 subst hP
 subst hn
 have hsh : Hb l.toArray l.length = true := by simp [Hb, hs]
 intro I a w h1 h2 h3
 refine wp_region_any hm ?_
 have hsm : Dq I (hT ++ h') w { w with drawn := w.drawn + 1 } := ⟨rfl, rfl, rfl, Nat.le_refl _, fun _ _ => rfl⟩
 have inv0 : HeadInv .any l.toArray l.length (Array.replicate l.length false) :=
  ⟨by simp, fun j oj _ hl => (by rw [getD_replicate_false] at hl; cases hl), fun t _ ht => getD_in (by simpa using ht) (getD_replicate_false _ _)⟩
 have H := hj.get hsh inv0 I a _ (h1.same hsm) (SF.same h1 hsm h2) h3
 have K := EC (Q := lift k Q) (g := 0) (fun listed' a' w' hL => by
  have := wpAny_of_seq (md := .any) (Q' := lift k Q) [] l.length listed' a' w' (fun j => by simp) (by
   have := hL.1
   simpa using this) hL.2
  simpa using this) _ _ _ _ H
 simpa using K
end
end Go.Av
namespace Go.Proofs.YtnlfhnbcdfdhgaaGreatDoor
open Go Go.Av Go.Sp
abbrev Gp (l : List Fo) := {v : Sl × Sto // I4 v.2 l}
theorem meet (G : List (Nat × List D)) (bs : Nat) (t : Tk) (r : Sr) (l : List Fo) (x : Fo) (v : Gp l) (hx : C9 x) (hl : ∀ b ∈ l, C9 b) (hn : x ∉ l) (hL : l.length < 20000) :
 AC Tryz.prog G 52 [.val (.pointer (some ⟨bs, 0, none⟩)), .agg [.int x.kind, .int x.val]] (skH bs t l r v.1) fun e h => ∃ w : Gp (l ++ [x]), e = .ret (.bool true) ∧ h = skH bs t (l ++ [x]) r w.1 := by
 obtain ⟨⟨q, s⟩, hm⟩ := v
 obtain ⟨s', e, hm'⟩ := hm.add hx hl hn hL
 have hA := SAdd G s (C8 x)
 rw [e] at hA
 dsimp only at hA hm ⊢
 refine AK (ts := [4]) Tryz.f52.ntmps Tryz.func52 rfl rfl rfl (by simp [Tryz.ntmps52]) fun W I => ?_
 repeat' (first | exact jA | refine fz ?_ | refine two ?_ ?_ | refine AB fun c_ => ?_ | refine imp fun hc => ?_; try exact cx hc | refine all fun v_ => ?_)
 obtain ⟨bx, rfl⟩ : ∃ x, x = v_ := ⟨v_, rfl⟩
 refine ⟨?_⟩
 refine KH (X := Nat) (fun y => [(0, .val (.pointer (some ⟨bs, 0, none⟩))), (3, .val (.pointer (some ⟨bx, 0, none⟩))), (5, .val (.pointer (some ⟨y, 0, none⟩))), (6, .bool true), (7, .int 0)]) (fun y => [.cells y 77 [.d (AJ s'.loose), .d (AX s'.runs)], skC bs t q s r, AL q.v 106 2 Fo.cells l, .cells bx 106 [.int x.kind, .int x.val]]) ?_ ?_
 · refine Gf [] mixed rfl (by (repeat (with_reducible apply Al)); exact len_nil) (by decide +kernel) BF ?_
   repeat' (first | refine ca JG (keyOf G x hx) ?_ | refine ca aj (hA) ?_ | exact jA | refine AF ?_ | refine two ?_ ?_ | refine AB fun c_ => ?_ | refine imp fun hc => ?_; try exact cx1 hc | refine all fun v_ => ?_)
   all_goals
    refine ⟨_, VS.take AH ?_⟩
    exact leD
 intro b5
 repeat' (first | refine i7 (DP (f := Fo.cells) (u := x)) ?_ | exact jA | refine fz ?_ | refine two ?_ ?_ | refine AB fun c_ => ?_ | refine imp fun hc => ?_; try exact cx hc | refine all fun v_ => ?_)
 refine ⟨?_⟩
 refine CL [AL q.v 106 2 Fo.cells l] mixed rfl (by (repeat ((with_reducible apply Hd.cons); rfl)); exact Hd.nil) (by (repeat (with_reducible apply Al)); exact len_nil) (by decide +kernel) BF ?_
 repeat' (first | refine i7 (DP (f := Fo.cells) (u := x)) ?_ | exact jA | refine AF ?_ | refine two ?_ ?_ | refine AB fun c_ => ?_ | refine imp fun hc => ?_; try exact cx1 hc | refine all fun v_ => ?_)
 all_goals
  refine AI (VS.take (hc := skH bs t (l ++ [x]) r (v_, s')) AH (Env.le_refl _)) ?_
  ((with_reducible apply rq1); rfl; rfl)
  exact ⟨⟨(v_, s'), hm'⟩, rfl, rfl⟩
end Go.Proofs.YtnlfhnbcdfdhgaaGreatDoor
namespace Go.Av
open Go
theorem cv6 {v : Value} {d : D} {c0 c1 c2 c3 c4 c5 c7 c8 c9 d0 d1 d2 d3 d4 d5 d6 d7 d8 : AV} {b : Nat} {T : TypeId} {h : H} : CvH v d (.cells b T [c0, c1, c2, c3, c4, c5, .val v, c7, c8, c9, d0, d1, d2, d3, d4, d5, d6, d7, d8] :: h) (.cells b T [c0, c1, c2, c3, c4, c5, .d d, c7, c8, c9, d0, d1, d2, d3, d4, d5, d6, d7, d8] :: h) := .cells (.cons (.same _) (.cons (.same _) (.cons (.same _) (.cons (.same _) (.cons (.same _) (.cons (.same _) (.cons .here (.cons (.same _) (.cons (.same _) (.cons (.same _) (.cons (.same _) (.cons (.same _) (.cons (.same _) (.cons (.same _) (.cons (.same _) (.cons (.same _) (.cons (.same _) (.cons (.same _) (.cons (.same _) .nil))))))))))))))))))) (.refl _)
theorem cv7 {v : Value} {d : D} {c0 c1 c2 c3 c4 c5 c6 c8 c9 d0 d1 d2 d3 d4 d5 d6 d7 d8 : AV} {b : Nat} {T : TypeId} {h : H} : CvH v d (.cells b T [c0, c1, c2, c3, c4, c5, c6, .val v, c8, c9, d0, d1, d2, d3, d4, d5, d6, d7, d8] :: h) (.cells b T [c0, c1, c2, c3, c4, c5, c6, .d d, c8, c9, d0, d1, d2, d3, d4, d5, d6, d7, d8] :: h) := .cells (.cons (.same _) (.cons (.same _) (.cons (.same _) (.cons (.same _) (.cons (.same _) (.cons (.same _) (.cons (.same _) (.cons .here (.cons (.same _) (.cons (.same _) (.cons (.same _) (.cons (.same _) (.cons (.same _) (.cons (.same _) (.cons (.same _) (.cons (.same _) (.cons (.same _) (.cons (.same _) (.cons (.same _) .nil))))))))))))))))))) (.refl _)
theorem cv10 {v : Value} {d : D} {c0 c1 c2 c3 c4 c5 c6 c7 c8 c9 d1 d2 d3 d4 d5 d6 d7 d8 : AV} {b : Nat} {T : TypeId} {h : H} : CvH v d (.cells b T [c0, c1, c2, c3, c4, c5, c6, c7, c8, c9, .val v, d1, d2, d3, d4, d5, d6, d7, d8] :: h) (.cells b T [c0, c1, c2, c3, c4, c5, c6, c7, c8, c9, .d d, d1, d2, d3, d4, d5, d6, d7, d8] :: h) := .cells (.cons (.same _) (.cons (.same _) (.cons (.same _) (.cons (.same _) (.cons (.same _) (.cons (.same _) (.cons (.same _) (.cons (.same _) (.cons (.same _) (.cons (.same _) (.cons .here (.cons (.same _) (.cons (.same _) (.cons (.same _) (.cons (.same _) (.cons (.same _) (.cons (.same _) (.cons (.same _) (.cons (.same _) .nil))))))))))))))))))) (.refl _)
end Go.Av
namespace Go.Proofs.YtnlfhnbcdfdhgaaGreatDoor
open Go Go.Av Go.Sp
theorem Nw : Cal Tryz.prog 29 := Cal.of Tryz.func29 (by kernel_rfl) (by kernel_rfl)
theorem Zy (bs : Nat) (t : Tk) (r : Sr) (l0 : List Fo) (q : Sl) (a b : AV) (ht : BE t = 0) :
 AC Tryz.prog GP 29 [.val (.pointer (some ⟨bs, 0, none⟩))] [skD bs t q a b r, AL q.v 106 2 Fo.cells l0] fun e h => ∃ w : Gp (spF t 0), e = .ret (.tup []) ∧ h = skH bs t (spF t 0) ⟨r.up, 0, r.most, r.tape, r.out⟩ w.1 := by
 have hB := YK t
 have e0 : spF t 0 = (BB t).1 := rfl
 have hnd := Fc t 0
 have hsm := HA ht 0
 have hfew := JJ t
 rw [← e0] at hB hfew
 generalize spF t 0 = B at hB hnd hsm hfew ⊢
 refine Cz (ts := []) Tryz.f29.ntmps Tryz.func29 rfl rfl rfl (by simp [Tryz.ntmps29]) fun W I => ?_
 repeat' (first | refine ca LB (hB) ?_ | exact jA | refine AP ?_ | refine two ?_ ?_ | refine imp fun hc => ?_; try exact cx hc | refine all fun v_ => ?_)
 refine IH (VS.trans (VS.take (hc := [skD bs t Sl.nil (.val Sl.nil.v) (.val Sl.nil.v) ⟨r.up, 0, r.most, r.tape, r.out⟩]) AH (Env.le_refl _)) (VS.trans (VS.nilrow 3 1) (VS.trans (EA (f := AS) (xs := []) (h1 := []) 8 rfl rfl (fun _ => rfl) (by simp) (CvE.refl _ _ _) cv6) (VS.trans (VS.nilrow 49 1) (VS.trans (EA (f := BP) (xs := []) (h1 := []) 24 rfl rfl (fun _ => rfl) (by simp) (CvE.refl _ _ _) cv7) (VS.nilrow 106 2)))))) ?_
 refine AG (X := Nat × Sl × Sto) (fun y => [(0, .val (.pointer (some ⟨bs, 0, none⟩))), (24, .d (AO B)), (25, .int B.length), (26, .int y.1)]) (fun y => skH bs t (B.take y.1) ⟨r.up, 0, r.most, r.tape, r.out⟩ y.2) (fun y => y.1 ≤ B.length ∧ I4 y.2.2 (B.take y.1)) (fun y => B.length - y.1) (0, Sl.nil, ⟨[], []⟩) ⟨Nat.zero_le _, I4.nil⟩ (VS.take (by dsimp only; exact AH) ?_) ?_
 · exact leD
 rintro ⟨i, v⟩ ⟨hi, hm⟩
 dsimp only at hi hm ⊢
 by_cases hil : i < B.length
 · have et : B.take i ++ [B[i]] = B.take (i + 1) := (jZ hil).symm
   have hnew : B[i] ∉ B.take i := fun hm => by
    obtain ⟨j, hj, e⟩ := List.getElem_of_mem hm
    rw [List.getElem_take] at e
    have := (List.getElem_inj hnd).1 e
    rw [List.length_take] at hj; omega
   have F := meet GP bs t ⟨r.up, 0, r.most, r.tape, r.out⟩ (B.take i) B[i] ⟨v, hm⟩ (hsm _ (jb hil)) (fun b hb => hsm b (List.mem_of_mem_take hb)) hnew (by rw [List.length_take]; omega)
   rw [et] at F
   repeat' (first | refine cag Ns (F) ?_ | exact jA | refine AP ?_ | refine two ?_ ?_ | refine imp fun hc => ?_; try exact cx hc | refine all fun v_ => ?_)
   obtain ⟨⟨w, hw⟩, rfl⟩ : ∃ x, x = v_ := ⟨v_, rfl⟩
   refine ⟨(i + 1, w), ⟨hil, hw⟩, jC, VS.take AH ?_⟩
   exact leD
 obtain rfl : i = B.length := by omega
 rw [List.take_length] at hm ⊢
 repeat' (first | exact jA | refine AP ?_ | refine two ?_ ?_ | refine imp fun hc => ?_; try exact cx hc | refine all fun v_ => ?_)
 exact rq0 rfl ⟨⟨v, hm⟩, rfl, rfl⟩
theorem PC : Cal Tryz.prog 99 := Cal.of Tryz.func99 (by kernel_rfl) (by kernel_rfl)
theorem iw {p q : Prop} (hp : p) (h : p → q := by
 apply cmp; (focus ((with_reducible apply callU1); rfl; exact Az; (focus exact put _ _ _ _ jB); rfl))
 exact fun h => h) : q := h hp
theorem ix {p q : Prop} (hp : p) (h : p → q := by
 apply cmp; (focus ((with_reducible apply callU2); rfl; exact Az; (focus exact put _ _ _ _ jB); rfl))
 exact fun h => h) : q := h hp
theorem iy {p q : Prop} (hp : p) (h : p → q := by
 apply cmp; (focus ((with_reducible apply callU3); rfl; exact Az; (focus exact put _ _ _ _ jB); rfl))
 exact fun h => h) : q := h hp
theorem iz {p q : Prop} (hp : p) (h : p → q := by
 apply cmp; (focus ((with_reducible apply callU5); rfl; exact Az; (focus exact put _ _ _ _ jB); rfl))
 exact fun h => h) : q := h hp
theorem i0 {p q : Prop} (hp : p) (h : p → q := by
 apply cmp; (focus ((with_reducible apply LS); rfl; exact Az; (focus exact put _ _ _ _ jB); rfl))
 exact fun h => h) : q := h hp
theorem i5 {p q : Prop} (hp : p) (h : p → q := by
 apply cmp; (focus ((with_reducible apply LF); rfl; exact Az; (focus exact put _ _ _ _ jB); rfl))
 exact fun h => h) : q := h hp
set_option maxHeartbeats 2000000 in
theorem hO (G : List (Nat × List D)) (t : Tp) (l : List Int) : ACr Tryz.prog G 99 [tpA t, .d (AJ l)] (.tup [tpA (EO t l).1, .int (EO t l).2]) := by
 refine BV (rs := [.cell 4 80, .tmp 5]) 61 Tryz.func99 rfl rfl rfl (by simp) fun W I => ?_
 by_cases hm : ¬ FE t
 · repeat' (first | refine cae Be (ED _ _ hm) ?_ | refine ca Be (EN _ _ hm) ?_ | ((with_reducible apply LS); rfl; exact Az; (focus exact put _ _ _ _ (Nat.zero_le _)); rfl) | ((with_reducible apply callU1); rfl; exact Az; (focus exact put _ _ _ _ (Nat.zero_le _)); rfl) | ((with_reducible apply callU2); rfl; exact Az; (focus exact put _ _ _ _ (Nat.zero_le _)); rfl) | ((with_reducible apply callU3); rfl; exact Az; (focus exact put _ _ _ _ (Nat.zero_le _)); rfl) | ((with_reducible apply LF); rfl; exact Az; (focus exact put _ _ _ _ (Nat.zero_le _)); rfl) | ((with_reducible apply callU5); rfl; exact Az; (focus exact put _ _ _ _ (Nat.zero_le _)); rfl) | exact jA | refine AP ?_ | refine two ?_ ?_ | refine imp fun hc => ?_; try exact cx hc | refine all fun v_ => ?_)
   exact D1 (xs := [.agg [.val (.slice none 0 0), .int 0], .int 9]) (ys := [tpA Dz, .int 9]) vid ⟨Ax rfl C7 rfl AW rfl, A4 rfl, trivial⟩ ⟨AV.le_agg ⟨AV.le_nil 1 1, AV.le_refl _, trivial⟩, AV.le_refl _, trivial⟩ rfl (h' := []) (jc _) (AA (by rw [EO, if_pos hm]; rfl))
 · replace hm := jY hm
   obtain ⟨m1, m2, m3⟩ := hm
   have hm : FE t := ⟨m1, m2, m3⟩
   refine Bn (t := 1) rfl fun hl => ?_
   refine Db (E := 5) (sz := 1) Dp ?_
   repeat' (first | refine cae Be (ED _ _ hm) ?_ | refine ca Be (EN _ _ hm) ?_ | ((with_reducible apply LS); rfl; exact Az; (focus exact put _ _ _ _ (Nat.zero_le _)); rfl) | ((with_reducible apply callU1); rfl; exact Az; (focus exact put _ _ _ _ (Nat.zero_le _)); rfl) | ((with_reducible apply callU2); rfl; exact Az; (focus exact put _ _ _ _ (Nat.zero_le _)); rfl) | ((with_reducible apply callU3); rfl; exact Az; (focus exact put _ _ _ _ (Nat.zero_le _)); rfl) | ((with_reducible apply LF); rfl; exact Az; (focus exact put _ _ _ _ (Nat.zero_le _)); rfl) | ((with_reducible apply callU5); rfl; exact Az; (focus exact put _ _ _ _ (Nat.zero_le _)); rfl) | exact jA | refine AP ?_ | refine two ?_ ?_ | refine imp fun hc => ?_; try exact cx hc | refine all fun v_ => ?_)
   · exact D1 (xs := [.agg [.val (.slice none 0 0), .int 0], .int 1]) (ys := [tpA Dz, .int 1]) vid ⟨Ax rfl C7 rfl AW rfl, A4 rfl, trivial⟩ ⟨AV.le_agg ⟨AV.le_nil 1 1, AV.le_refl _, trivial⟩, AV.le_refl _, trivial⟩ rfl (h' := []) (jc _) (AA (by rw [X3 hm jB]; rfl))
   rw [show ([] : List UInt8) ++ b4 l.length = GX l 0 from (Um l).symm]
   rename_i bp br q b6
   have hbig : ¬ 4000 < l.length := by omega
   refine Dn (X := Nat × Sl) (fun y => [(1, .d (AJ l)), (4, .val (.pointer (some ⟨br, 0, none⟩))), (6, .val (.pointer (some ⟨b6, 0, none⟩))), (8, .val y.2.v), (26, .d (AJ l)), (27, .int l.length), (28, .int y.1)]) (fun y => [AL y.2.v 5 1 Dp (GX l y.1), .cells b6 80 [.val q.v, .int t.synced], AL q.v 5 1 Dp t.data, .cells br 80 [.val (.slice none 0 0), .int 0], .cells bp 80 [.d (CT t.data), .int t.synced]]) (fun y => y.1 ≤ l.length ∧ Cw (l.take y.1)) (fun y => l.length - y.1) (0, v_) ⟨Nat.zero_le _, Re l⟩ ?_ rfl ?_
   · exact leD
   rintro ⟨i, v⟩ ⟨k1, k2⟩
   dsimp only at k1 k2 ⊢
   have hlen := K2 l i k1
   by_cases hi : i < l.length
   · by_cases hb : 0 ≤ l[i] ∧ l[i] ≤ 2147483647
     · repeat' (first | refine i0 ?_ | refine iw ?_ | refine ix ?_ | refine iy ?_ | refine i5 ?_ | refine iz ?_ | refine IF rfl Er (Sum _ _) ⟨Dc (E := 5) 1 AW rfl (fun _ => rfl) jB, trivial⟩ rfl ?_ | exact jA | refine AP ?_ | refine two ?_ ?_ | refine imp fun hc => ?_; try exact cx hc | refine all fun v_ => ?_)
       refine ⟨(i + 1, v_), ⟨by dsimp only; omega, TF l i hi k2 hb⟩, jC, ?_, ?_⟩
       · exact leD
       · dsimp only
         rw [VC l i hi]
     · repeat' (first | refine i0 ?_ | refine iw ?_ | refine ix ?_ | refine iy ?_ | refine i5 ?_ | refine iz ?_ | refine IF rfl Er (Sum _ _) ⟨Dc (E := 5) 1 AW rfl (fun _ => rfl) jB, trivial⟩ rfl ?_ | exact jA | refine AP ?_ | refine two ?_ ?_ | refine imp fun hc => ?_; try exact cx hc | refine all fun v_ => ?_)
       all_goals
        exact D1 (xs := [.agg [.val (.slice none 0 0), .int 0], .int 2]) (ys := [tpA Dz, .int 2]) vid ⟨Ax rfl C7 rfl AW rfl, A4 rfl, trivial⟩ ⟨AV.le_agg ⟨AV.le_nil 1 1, AV.le_refl _, trivial⟩, AV.le_refl _, trivial⟩ rfl (h' := []) (jc _) (AA (by rw [Wr hm hbig (XN l i hi jB)]; rfl))
   · obtain rfl : i = l.length := by omega
     have hlen2 := Ep l
     have hA : (GX l l.length ++ b4 (sumOf (GX l l.length))).length = 8 + 4 * l.length := hlen2
     have hok := U8 l _ (Nat.le_refl _) k2
     repeat' (first | refine i0 ?_ | refine iw ?_ | refine ix ?_ | refine iy ?_ | refine i5 ?_ | refine iz ?_ | refine IF rfl Er (Sum _ _) ⟨Dc (E := 5) 1 AW rfl (fun _ => rfl) jB, trivial⟩ rfl ?_ | exact jA | refine AP ?_ | refine two ?_ ?_ | refine imp fun hc => ?_; try exact cx hc | refine all fun v_ => ?_)
     · exact D1 (xs := [.agg [.val (.slice none 0 0), .int 0], .int 12]) (ys := [tpA Dz, .int 12]) vid ⟨Ax rfl C7 rfl AW rfl, A4 rfl, trivial⟩ ⟨AV.le_agg ⟨AV.le_nil 1 1, AV.le_refl _, trivial⟩, AV.le_refl _, trivial⟩ rfl (h' := []) (jc _) (AA (by rw [NX hm hbig hok jB]; rfl))
     refine GQ (EA (h1 := []) (h' := [_, _, _, _]) 1 rfl rfl (fun _ => rfl) jB (CvE.cons (t := 57) rfl .here (CvE.refl _ _ _)) (CvH.refl _)) ?_
     repeat' (first | refine i0 ?_ | refine iw ?_ | refine ix ?_ | refine iy ?_ | refine i5 ?_ | refine iz ?_ | refine IF rfl Er (Sum _ _) ⟨Dc (E := 5) 1 AW rfl (fun _ => rfl) jB, trivial⟩ rfl ?_ | exact jA | refine AP ?_ | refine two ?_ ?_ | refine imp fun hc => ?_; try exact cx hc | refine all fun v_ => ?_)
     have hd : (t.data ++ A5 l).length = t.data.length + (8 + 4 * l.length) := by rw [List.length_append, hlen2]
     refine FM (VS.trans (VS.drop (h' := [AL v_.v 5 1 Dp (t.data ++ A5 l), .cells br 80 [.val v_.v, .int t.synced]]) (.cons _ (.cons_cons _ (.cons_cons _ (.cons _ .slnil))))) (EA (h1 := []) 1 rfl rfl (fun _ => rfl) jB (CvE.refl _ _ _) (CvH.cells (.cons .here (.cons (.same _) .nil)) (.refl _)))) (xs := [.agg [.d (CT (t.data ++ A5 l)), .int t.synced], .int 0]) ⟨Ax rfl C7 rfl AW rfl, A4 rfl, trivial⟩ rfl (h' := []) (jc _) (AA (by rw [Mk hm hbig hok jB]; rfl))
end Go.Proofs.YtnlfhnbcdfdhgaaGreatDoor
