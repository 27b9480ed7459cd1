/- Own texts. -/
import Derived.Test.YtnlfhnbcdfdhgaaGreatDoorA43
set_option linter.unusedVariables false
set_option linter.unusedSimpArgs false
set_option maxRecDepth 100000
set_option maxHeartbeats 4000000
namespace Go.Sp
open Go Go.Av
noncomputable abbrev rsA (t : Tk) (x : Ms) : AV := .agg [.bool x.up, .int x.n, .int x.s, .int x.m, .int x.a, .int (byF t x.n : Nat)]
end Go.Sp
namespace Go.Proofs.YtnlfhnbcdfdhgaaGreatDoor
open Go Go.Av Go.Sp
theorem XG : Cal Tryz.prog 35 := Cal.of Tryz.func35 (by kernel_rfl) (by kernel_rfl)
theorem eU (t : Tk) (e : Exp) (am : Int) (x : Ms) (mv : Int) : ACr Tryz.prog GP 35 [grA ⟨e.spots, (nkF t 0 : Nat), e.next, e.sets, am⟩, rsA t x, .agg [.int 4, .int mv]] (rsA t (mvF t x ⟨4, mv⟩)) := by
 rw [S4]
 refine BV (rs := [.cell 6 88]) Tryz.f35.ntmps Tryz.func35 rfl rfl rfl (by simp [Tryz.ntmps35]) fun W I => ?_
 repeat' (first | exact jA | refine AF ?_ | refine two ?_ ?_ | refine AB fun c_ => ?_ | refine imp fun hc => ?_; try exact cx1 hc | refine all fun v_ => ?_)
 all_goals
  refine FM vid (xs := [.agg [.bool true, .int x.n, .int x.s, .int x.m, .int x.a, .int (byF t x.n : Nat)]]) ⟨Ax rfl (by (with_reducible exact ElC.h)) rfl AW rfl, trivial⟩ rfl (h' := []) (jc _) (AA rfl)
theorem fF (t : Tk) (e : Exp) (am : Int) (x : Ms) (k mv : Int) (hk : k ≠ 4) (hu : x.up = false) : ACr Tryz.prog GP 35 [grA ⟨e.spots, (nkF t 0 : Nat), e.next, e.sets, am⟩, rsA t x, .agg [.int k, .int mv]] (rsA t (mvF t x ⟨k, mv⟩)) := by
 rw [Ve hu hk]
 refine BV (rs := [.cell 6 88]) Tryz.f35.ntmps Tryz.func35 rfl rfl rfl (by simp [Tryz.ntmps35]) fun W I => ?_
 obtain ⟨up, n, s, m, a⟩ := x
 dsimp only at hu ⊢
 subst hu
 repeat' (first | exact jA | refine AF ?_ | refine two ?_ ?_ | refine AB fun c_ => ?_ | refine imp fun hc => ?_; try exact cx1 hc | refine all fun v_ => ?_)
 all_goals
  refine FM vid (xs := [.agg [.bool false, .int n, .int s, .int m, .int a, .int (byF t n : Nat)]]) ⟨Ax rfl (by (with_reducible exact ElC.h)) rfl AW rfl, trivial⟩ rfl (h' := []) (jc _) (AA rfl)
theorem e8 (t : Tk) (e : Exp) (am : Int) (x : Ms) (mv : Int) (hu : x.up = true) : ACr Tryz.prog GP 35 [grA ⟨e.spots, (nkF t 0 : Nat), e.next, e.sets, am⟩, rsA t x, .agg [.int 2, .int mv]] (rsA t (mvF t x ⟨2, mv⟩)) := by
 rw [Vj hu]
 refine BV (rs := [.cell 6 88]) Tryz.f35.ntmps Tryz.func35 rfl rfl rfl (by simp [Tryz.ntmps35]) fun W I => ?_
 obtain ⟨up, n, s, m, a⟩ := x
 dsimp only at hu ⊢
 subst hu
 repeat' (first | exact jA | refine AF ?_ | refine two ?_ ?_ | refine AB fun c_ => ?_ | refine imp fun hc => ?_; try exact cx1 hc | refine all fun v_ => ?_)
 all_goals
  refine FM vid (xs := [.agg [.bool true, .int n, .int n, .int m, .int a, .int (byF t n : Nat)]]) ⟨Ax rfl (by (with_reducible exact ElC.h)) rfl AW rfl, trivial⟩ rfl (h' := []) (jc _) (AA rfl)
theorem fP (t : Tk) (e : Exp) (g : Grown t e) (am : Int) (x : Ms) (h : MsI t e x) (ha : x.a ≤ 200000000) (mv : Int) (h0 : 0 ≤ mv) (h1 : mv ≤ 2147483647) (hu : x.up = true) : ACr Tryz.prog GP 35 [grA ⟨e.spots, (nkF t 0 : Nat), e.next, e.sets, am⟩, rsA t x, .agg [.int 1, .int mv]] (rsA t (mvF t x ⟨1, mv⟩)) := by
 rw [WG hu]
 have hN := g.few
 refine BV (rs := [.cell 6 88]) Tryz.f35.ntmps Tryz.func35 rfl rfl rfl (by simp [Tryz.ntmps35]) fun W I => ?_
 have hmv : ((mv.toNat : Nat) : Int) = mv := by omega
 generalize mv.toNat = many at hmv
 subst hmv
 have hu' := hu
 rw [show rsA t x = .agg [.bool true, .int x.n, .int x.s, .int x.m, .int x.a, .int (byF t x.n : Nat)] by rw [← hu]]
 repeat' (first | exact jA | refine AP ?_ | refine two ?_ ?_ | refine imp fun hc => ?_; try exact cx hc | refine all fun v_ => ?_)
 obtain ⟨b6, rfl⟩ : ∃ x, x = v_ := ⟨v_, rfl⟩
 obtain ⟨bm, rfl⟩ : ∃ x, x = v_ := ⟨v_, rfl⟩
 obtain ⟨bs, rfl⟩ : ∃ x, x = v_ := ⟨v_, rfl⟩
 obtain ⟨bg, rfl⟩ : ∃ x, x = v_ := ⟨v_, rfl⟩
 refine AG (X := Nat × Ms) (fun y => [(3, .val (.pointer (some ⟨bg, 0, none⟩))), (4, .val (.pointer (some ⟨bs, 0, none⟩))), (5, .val (.pointer (some ⟨bm, 0, none⟩))), (6, .val (.pointer (some ⟨b6, 0, none⟩))), (7, .int y.1)]) (fun y => [.cells bg 51 [.d (AO e.spots), .int (nkF t 0 : Nat), .d (AX e.next), .d (AJ e.sets), .int am], .cells bs 88 [.bool true, .int y.2.n, .int y.2.s, .int y.2.m, .int y.2.a, .int (byF t y.2.n : Nat)], .cells bm 59 [.int 1, .int (many : Nat)], .cells b6 88 [.bool false, .int 0, .int 0, .int 0, .int 0, .int 0]])
  (fun y => MsI t e y.2 ∧ y.1 ≤ many ∧ y.2.up = true ∧ wkF t (many - y.1) y.2 = wkF t many x ∧ y.2.a ≤ 200000000 + y.2.n) (fun y => many - y.1) (0, x) ⟨h, Nat.zero_le _, hu, rfl, jC⟩ (VS.take AH ?_) ?_
 · exact leD
 rintro ⟨i, y⟩ ⟨hy, hi, hyu, hw, hya⟩
 dsimp only at hy hi hyu hw hya ⊢
 have hyN := hy.nN
 have hym := hy.n
 have hmN := hy.m
 have hF := L8 t e g am y.n hyN
 have hby : byF t (y.n + 1) = byF t y.n + rsF t y.n := rfl
 have hb0 := hy.b
 by_cases him : i < many
 · by_cases hc1 : y.n < nkF t y.n
   · have hyl := hy.lt g hc1
     have hR := MA t e g am y.n hyl
     have hrN : rsF t y.n ≤ 100000 := by
      have := g.nk (i := y.n + 1) hyl
      unfold rsF; omega
     by_cases hc2 : byF t (y.n + 1) ≤ 1048576
     · have hgo : Go.Sp.JZ t y := ⟨hc1, hc2⟩
       have hw' : wkF t (many - (i + 1)) y.go = wkF t many x := by
        rw [← hw, show many - i = (many - (i + 1)) + 1 by omega, L7 hgo]
       have hyI := hy.go g hgo
       rw [hby] at hc2
       generalize hrs : rsF t y.n = rs at hby hR hc2 hrN
       generalize hnk : nkF t y.n = nk at hF hc1
       have hbI : ((byF t (y.n + 1) : Nat) : Int) = (byF t y.n : Int) + rs := by rw [hby]; rfl
       have hnI : ((y.n + 1 : Nat) : Int) = (y.n : Int) + 1 := rfl
       by_cases hnm : y.n < y.m
       · have eg : y.go = ⟨y.up, y.n + 1, y.s, y.m, y.a + 1⟩ := by unfold Ms.go; rw [Nat.max_eq_left jB, if_pos hnm]
         rw [eg] at hw' hyI
         have haI : ((y.a + 1 : Nat) : Int) = (y.a : Int) + 1 := rfl
         repeat' (first | refine caq Bd (hF) ?_ | refine ca Bd (hF) ?_ | refine caq Bm (hR) ?_ | refine ca Bm (hR) ?_ | exact jA | refine AP ?_ | refine two ?_ ?_ | refine imp fun hc => ?_; try exact cx hc | refine all fun v_ => ?_)
         refine ⟨(i + 1, ⟨y.up, y.n + 1, y.s, y.m, y.a + 1⟩), ⟨hyI, him, hyu, hw', jC⟩, jC, VS.take (by dsimp only; rw [hbI, hnI, haI]; exact AH) ?_⟩
         exact leD
       · have e0 : y.n = y.m := by omega
         have eg : y.go = ⟨y.up, y.n + 1, y.s, y.n + 1, y.a⟩ := by unfold Ms.go; rw [Nat.max_eq_right jB, if_neg hnm]
         rw [eg] at hw' hyI
         repeat' (first | refine caq Bd (hF) ?_ | refine ca Bd (hF) ?_ | refine caq Bm (hR) ?_ | refine ca Bm (hR) ?_ | exact jA | refine AP ?_ | refine two ?_ ?_ | refine imp fun hc => ?_; try exact cx hc | refine all fun v_ => ?_)
         refine ⟨(i + 1, ⟨y.up, y.n + 1, y.s, y.n + 1, y.a⟩), ⟨hyI, him, hyu, hw', jC⟩, jC, VS.take (by dsimp only; rw [hbI, hnI]; exact AH) ?_⟩
         exact leD
     · have hst := I8 (t := t) (x := y) (fun k => hc2 k.2)
       rw [hby] at hc2
       generalize rsF t y.n = rs at hby hR hc2 hrN
       generalize nkF t y.n = nk at hF hc1
       have ew : wkF t many x = y := by rw [← hw]; exact hst _
       rw [ew]
       have er : rsA t y = .agg [.bool true, .int y.n, .int y.s, .int y.m, .int y.a, .int (byF t y.n : Nat)] := by rw [← hyu]
       rw [er]
       repeat' (first | refine caq Bd (hF) ?_ | refine caq Bm (hR) ?_ | exact jA | refine AP ?_ | refine two ?_ ?_ | refine imp fun hc => ?_; try exact cx hc | refine all fun v_ => ?_)
       all_goals
        refine FM vid (xs := [.agg [.bool true, .int y.n, .int y.s, .int y.m, .int y.a, .int (byF t y.n : Nat)]]) ⟨Ax rfl (by (with_reducible exact ElC.h)) rfl AW rfl, trivial⟩ rfl (h' := []) (jc _) (AA rfl)
   · have hst := I8 (t := t) (x := y) (fun k => hc1 k.1)
     generalize nkF t y.n = nk at hF hc1
     have ew : wkF t many x = y := by rw [← hw]; exact hst _
     rw [ew]
     have er : rsA t y = .agg [.bool true, .int y.n, .int y.s, .int y.m, .int y.a, .int (byF t y.n : Nat)] := by rw [← hyu]
     rw [er]
     repeat' (first | refine caq Bd (hF) ?_ | exact jA | refine AP ?_ | refine two ?_ ?_ | refine imp fun hc => ?_; try exact cx hc | refine all fun v_ => ?_)
     all_goals
      refine FM vid (xs := [.agg [.bool true, .int y.n, .int y.s, .int y.m, .int y.a, .int (byF t y.n : Nat)]]) ⟨Ax rfl (by (with_reducible exact ElC.h)) rfl AW rfl, trivial⟩ rfl (h' := []) (jc _) (AA rfl)
 · obtain rfl : many = i := by omega
   have ew : wkF t many x = y := by rw [← hw]; (rw [Nat.sub_self]; rfl)
   rw [ew]
   have er : rsA t y = .agg [.bool true, .int y.n, .int y.s, .int y.m, .int y.a, .int (byF t y.n : Nat)] := by rw [← hyu]
   rw [er]
   repeat' (first | exact jA | refine AP ?_ | refine two ?_ ?_ | refine imp fun hc => ?_; try exact cx hc | refine all fun v_ => ?_)
   all_goals
    refine FM vid (xs := [.agg [.bool true, .int y.n, .int y.s, .int y.m, .int y.a, .int (byF t y.n : Nat)]]) ⟨Ax rfl (by (with_reducible exact ElC.h)) rfl AW rfl, trivial⟩ rfl (h' := []) (jc _) (AA rfl)
theorem fx (t : Tk) (e : Exp) (g : Grown t e) (am : Int) (x : Ms) (h : MsI t e x) (ha : x.a ≤ 200000000) (mv : Int) (h0 : 0 ≤ mv) (h1 : mv ≤ 2147483647) (hu : x.up = true) : ACr Tryz.prog GP 35 [grA ⟨e.spots, (nkF t 0 : Nat), e.next, e.sets, am⟩, rsA t x, .agg [.int 3, .int mv]] (rsA t (mvF t x ⟨3, mv⟩)) := by
 rw [TK hu]
 have hN := g.few
 have hxN := h.nN
 have hxs := h.s
 have hxb := h.b
 have hmv : ((mv.toNat : Nat) : Int) = mv := by omega
 generalize mv.toNat = many at hmv
 subst hmv
 refine BV (rs := [.cell 6 88]) Tryz.f35.ntmps Tryz.func35 rfl rfl rfl (by simp [Tryz.ntmps35]) fun W I => ?_
 rw [show rsA t x = .agg [.bool true, .int x.n, .int x.s, .int x.m, .int x.a, .int (byF t x.n : Nat)] by rw [← hu]]
 generalize hkp : kpF t (byF t x.s + many) x.n = kp
 repeat' (first | exact jA | refine AP ?_ | refine two ?_ ?_ | refine imp fun hc => ?_; try exact cx hc | refine all fun v_ => ?_)
 obtain ⟨b6, rfl⟩ : ∃ x, x = v_ := ⟨v_, rfl⟩
 obtain ⟨bm, rfl⟩ : ∃ x, x = v_ := ⟨v_, rfl⟩
 obtain ⟨bs, rfl⟩ : ∃ x, x = v_ := ⟨v_, rfl⟩
 obtain ⟨bg, rfl⟩ : ∃ x, x = v_ := ⟨v_, rfl⟩
 refine AG (X := Nat) (fun n => [(3, .val (.pointer (some ⟨bg, 0, none⟩))), (4, .val (.pointer (some ⟨bs, 0, none⟩))), (6, .val (.pointer (some ⟨b6, 0, none⟩))), (8, .int ((byF t x.s + many - byF t n : Nat) : Int)), (9, .int n)]) (fun _ => [.cells bg 51 [.d (AO e.spots), .int (nkF t 0 : Nat), .d (AX e.next), .d (AJ e.sets), .int am], .cells bs 88 [.bool true, .int x.n, .int x.s, .int x.m, .int x.a, .int (byF t x.n : Nat)], .cells b6 88 [.bool false, .int 0, .int 0, .int 0, .int 0, .int 0]])
  (fun n => x.s ≤ n ∧ n ≤ x.n ∧ byF t n ≤ byF t x.s + many) (fun n => x.n - n) x.s ⟨Nat.le_refl _, hxs, Nat.le_add_right _ _⟩ (VS.take AH ?_) ?_
 · exact leD
 rintro n ⟨hn1, hn2, hn3⟩
 have hby : byF t (n + 1) = byF t n + rsF t n := rfl
 have hbx : byF t x.s ≤ 1048576 := Nat.le_trans (DB t hxs) hxb
 by_cases hnn : n < x.n
 · have hR := MA t e g am n jB
   by_cases hfit : byF t (n + 1) ≤ byF t x.s + many
   · rw [hby] at hfit
     have hb2 : byF t (n + 1) ≤ 1048576 := Nat.le_trans (DB t (by omega : n + 1 ≤ x.n)) hxb
     rw [hby] at hb2
     repeat' (first | refine caq Bm (hR) ?_ | refine ca Bm (hR) ?_ | exact jA | refine AP ?_ | refine two ?_ ?_ | refine imp fun hc => ?_; try exact cx hc | refine all fun v_ => ?_)
     refine ⟨n + 1, ⟨by omega, hnn, by rw [hby]; exact hfit⟩, by omega, VS.take AH ?_⟩
     exact leD
   · have hk : n = kp := by rw [← hkp]; exact (Vs t hn2 hn3 (.inr jB)).symm
     rw [hby] at hfit
     subst hk
     repeat' (first | refine caq Bm (hR) ?_ | refine ca Bm (hR) ?_ | exact jA | refine AP ?_ | refine two ?_ ?_ | refine imp fun hc => ?_; try exact cx hc | refine all fun v_ => ?_)
     refine AG (X := Nat) (fun i => [(3, .val (.pointer (some ⟨bg, 0, none⟩))), (4, .val (.pointer (some ⟨bs, 0, none⟩))), (6, .val (.pointer (some ⟨b6, 0, none⟩))), (9, .int n), (10, .int i)]) (fun i => [.cells bg 51 [.d (AO e.spots), .int (nkF t 0 : Nat), .d (AX e.next), .d (AJ e.sets), .int am], .cells bs 88 [.bool false, .int n, .int n, .int x.m, .int x.a, .int (byF t i : Nat)], .cells b6 88 [.bool false, .int 0, .int 0, .int 0, .int 0, .int 0]])
      (fun i => i ≤ n) (fun i => n - i) 0 (Nat.zero_le _) (VS.take AH ?_) ?_
     · exact leD
     intro i hi
     by_cases hik : i < n
     · have hR := MA t e g am i jB
       have hbI : ((byF t (i + 1) : Nat) : Int) = (byF t i : Int) + rsF t i := rfl
       have hb1 : byF t i ≤ 1048576 := Nat.le_trans (DB t (by omega : i ≤ x.n)) hxb
       have hb2 : byF t (i + 1) ≤ 1048576 := Nat.le_trans (DB t (by omega : i + 1 ≤ x.n)) hxb
       rw [show byF t (i + 1) = byF t i + rsF t i from rfl] at hb2
       repeat' (first | refine caq Bm (hR) ?_ | refine ca Bm (hR) ?_ | exact jA | refine AP ?_ | refine two ?_ ?_ | refine imp fun hc => ?_; try exact cx hc | refine all fun v_ => ?_)
       refine ⟨i + 1, hik, by omega, VS.take (by rw [hbI]; exact AH) ?_⟩
       exact leD
     obtain rfl : n = i := by omega
     repeat' (first | exact jA | refine AP ?_ | refine two ?_ ?_ | refine imp fun hc => ?_; try exact cx hc | refine all fun v_ => ?_)
     all_goals
      refine FM vid (xs := [.agg [.bool false, .int n, .int n, .int x.m, .int x.a, .int (byF t n : Nat)]]) ⟨Ax rfl (by (with_reducible exact ElC.h)) rfl AW rfl, trivial⟩ rfl (h' := []) (jc _) (AA rfl)
 · have hk : n = kp := by rw [← hkp]; exact (Vs t hn2 hn3 (.inl jB)).symm
   subst hk
   repeat' (first | exact jA | refine AP ?_ | refine two ?_ ?_ | refine imp fun hc => ?_; try exact cx hc | refine all fun v_ => ?_)
   refine AG (X := Nat) (fun i => [(3, .val (.pointer (some ⟨bg, 0, none⟩))), (4, .val (.pointer (some ⟨bs, 0, none⟩))), (6, .val (.pointer (some ⟨b6, 0, none⟩))), (9, .int n), (10, .int i)]) (fun i => [.cells bg 51 [.d (AO e.spots), .int (nkF t 0 : Nat), .d (AX e.next), .d (AJ e.sets), .int am], .cells bs 88 [.bool false, .int n, .int n, .int x.m, .int x.a, .int (byF t i : Nat)], .cells b6 88 [.bool false, .int 0, .int 0, .int 0, .int 0, .int 0]])
    (fun i => i ≤ n) (fun i => n - i) 0 (Nat.zero_le _) (VS.take AH ?_) ?_
   · exact leD
   intro i hi
   by_cases hik : i < n
   · have hR := MA t e g am i jB
     have hbI : ((byF t (i + 1) : Nat) : Int) = (byF t i : Int) + rsF t i := rfl
     have hb1 : byF t i ≤ 1048576 := Nat.le_trans (DB t (by omega : i ≤ x.n)) hxb
     have hb2 : byF t (i + 1) ≤ 1048576 := Nat.le_trans (DB t (by omega : i + 1 ≤ x.n)) hxb
     rw [show byF t (i + 1) = byF t i + rsF t i from rfl] at hb2
     repeat' (first | refine caq Bm (hR) ?_ | refine ca Bm (hR) ?_ | exact jA | refine AP ?_ | refine two ?_ ?_ | refine imp fun hc => ?_; try exact cx hc | refine all fun v_ => ?_)
     refine ⟨i + 1, hik, by omega, VS.take (by rw [hbI]; exact AH) ?_⟩
     exact leD
   obtain rfl : n = i := by omega
   repeat' (first | exact jA | refine AP ?_ | refine two ?_ ?_ | refine imp fun hc => ?_; try exact cx hc | refine all fun v_ => ?_)
   all_goals
    refine FM vid (xs := [.agg [.bool false, .int n, .int n, .int x.m, .int x.a, .int (byF t n : Nat)]]) ⟨Ax rfl (by (with_reducible exact ElC.h)) rfl AW rfl, trivial⟩ rfl (h' := []) (jc _) (AA rfl)
theorem hZ (t : Tk) (e : Exp) (g : Grown t e) (am : Int) (x : Ms) (h : MsI t e x) (ha : x.a ≤ 200000000) (m : Fo) (hm : okM m) : ACr Tryz.prog GP 35 [grA ⟨e.spots, (nkF t 0 : Nat), e.next, e.sets, am⟩, rsA t x, .agg [.int m.kind, .int m.val]] (rsA t (mvF t x m)) := by
 obtain ⟨k, v⟩ := m
 obtain ⟨hk, h0, h1⟩ := hm
 dsimp only at hk h0 h1 ⊢
 by_cases k4 : k = 4
 · subst k4; exact eU t e am x v
 cases hu : x.up with
 | false => exact fF t e am x k v k4 hu
 | true =>
   by_cases k1 : k = 1
   · subst k1; exact fP t e g am x h ha v h0 h1 hu
   · by_cases k2 : k = 2
     · subst k2; exact e8 t e am x v hu
     · obtain rfl : k = 3 := by omega
       exact fx t e g am x h ha v h0 h1 hu
end Go.Proofs.YtnlfhnbcdfdhgaaGreatDoor
