/- A bundle of this claim's own texts: K6. -/
import Derived.Test.YtniklgkoiaeipaaGreatDoorD21
set_option linter.unusedVariables false
set_option linter.unusedSimpArgs false
set_option maxRecDepth 100000
set_option maxHeartbeats 4000000
namespace Go.Sp
open Go Go.Av
structure DeOk (d : De) : Prop where
 s0 : inI64 d.s0
 s1 : inI64 d.s1
 l0 : inI64 d.l0
 l1 : inI64 d.l1
 i0 : inI64 d.i0
 i1 : inI64 d.i1
 rules : ∀ p ∈ d.rules, rawOk p.guard ∧ inI64 p.var ∧ rawOk p.value
end Go.Sp
namespace Go.Proofs.YtniklgkoiaeipaaGreatDoor
open Go Go.Av Go.Sp
theorem cal_KModel : Cal Tryz.prog 28 := Cal.of Tryz.func28 (by kernel_rfl) (by kernel_rfl)
theorem armXK6_1 {p q : Prop} (hp : p) (h : p → q := by
 apply cmp; (focus (first
  | ((with_reducible apply call0); (focus rfl); (focus exact cal_picked); (focus exact picked G d.l0 3 (by decide) hd.l0); (focus rfl))
  | ((with_reducible apply je_call0); (focus rfl); (focus (decide +kernel)); (focus rfl); (focus exact cal_picked); (focus exact picked G d.l0 3 (by decide) hd.l0); (focus rfl))
  | ((with_reducible apply call0); (focus rfl); (focus exact cal_picked); (focus exact picked G d.s0 4 (by decide) hd.s0); (focus rfl))
  | ((with_reducible apply je_call0); (focus rfl); (focus (decide +kernel)); (focus rfl); (focus exact cal_picked); (focus exact picked G d.s0 4 (by decide) hd.s0); (focus rfl))
  | ((with_reducible apply call0); (focus rfl); (focus exact cal_picked); (focus exact picked G d.i0 _ hm hd.i0); (focus rfl))
  | ((with_reducible apply je_call0); (focus rfl); (focus (decide +kernel)); (focus rfl); (focus exact cal_picked); (focus exact picked G d.i0 _ hm hd.i0); (focus rfl))
  ))
 exact fun h => h) : q := h hp
theorem armXK6_2 {p q : Prop} (hp : p) (h : p → q := by
 apply cmp; (focus (first
  | ((with_reducible apply call0); (focus rfl); (focus exact cal_picked); (focus exact picked G d.l1 3 (by decide) hd.l1); (focus rfl))
  | ((with_reducible apply je_call0); (focus rfl); (focus (decide +kernel)); (focus rfl); (focus exact cal_picked); (focus exact picked G d.l1 3 (by decide) hd.l1); (focus rfl))
  | ((with_reducible apply call0); (focus rfl); (focus exact cal_picked); (focus exact picked G d.s1 4 (by decide) hd.s1); (focus rfl))
  | ((with_reducible apply je_call0); (focus rfl); (focus (decide +kernel)); (focus rfl); (focus exact cal_picked); (focus exact picked G d.s1 4 (by decide) hd.s1); (focus rfl))
  | ((with_reducible apply call0); (focus rfl); (focus exact cal_picked); (focus exact picked G d.i1 _ hm hd.i1); (focus rfl))
  | ((with_reducible apply je_call0); (focus rfl); (focus (decide +kernel)); (focus rfl); (focus exact cal_picked); (focus exact picked G d.i1 _ hm hd.i1); (focus rfl))
  ))
 exact fun h => h) : q := h hp
theorem armXK6_3 {p q : Prop} (hp : p) (h : p → q := by
 apply cmp; (focus (first
  | ((with_reducible apply call0); (focus rfl); (focus exact cal_KTruth); (focus exact KTruth G d.rules[i].guard r1); (focus rfl))
  | ((with_reducible apply je_call0); (focus rfl); (focus (decide +kernel)); (focus rfl); (focus exact cal_KTruth); (focus exact KTruth G d.rules[i].guard r1); (focus rfl))
  | ((with_reducible apply call0); (focus rfl); (focus exact cal_picked); (focus exact picked G d.rules[i].var 2 (by decide) r2); (focus rfl))
  | ((with_reducible apply je_call0); (focus rfl); (focus (decide +kernel)); (focus rfl); (focus exact cal_picked); (focus exact picked G d.rules[i].var 2 (by decide) r2); (focus rfl))
  | ((with_reducible apply call0); (focus rfl); (focus exact cal_KNumber); (focus exact KNumber G d.rules[i].value r3); (focus rfl))
  | ((with_reducible apply je_call0); (focus rfl); (focus (decide +kernel)); (focus rfl); (focus exact cal_KNumber); (focus exact KNumber G d.rules[i].value r3); (focus rfl))
  ))
 exact fun h => h) : q := h hp
theorem KModel (G : List (Nat × List D)) (d : De) (hd : DeOk d) : ACr Tryz.prog G 28 [deA d] (mdA (modG d)) := by
 refine AC.factI (f := Pl.cells) (xs := d.rules) (.agg (.there (.there (.there (.there (.there (.there .here))))))) fun hlr => ?_
 refine AC_ofR (rs := [.cell 2 25]) Tryz.f28.ntmps Tryz.func28 rfl rfl rfl (by simp [Tryz.ntmps28]) fun W I => ?_
 repeat' (first
  | ((with_reducible apply jbuild_str2); (focus rfl); (focus (with_reducible exact ElC.h)); (focus rfl); (focus rfl))
  | exact True.intro | refine stpH ?_ | refine two ?_ ?_ | refine allc fun c_ => ?_
  | (refine imp fun hc => ?_) <;> try exact cx1 hc
  | refine all fun v_ => ?_)
 obtain ⟨bm, rfl⟩ : ∃ x, x = v_ := ⟨v_, rfl⟩
 obtain ⟨br, rfl⟩ : ∃ x, x = v_ := ⟨v_, rfl⟩
 obtain ⟨bd, rfl⟩ : ∃ x, x = v_ := ⟨v_, rfl⟩
 refine jrow (E := 131) (sz := 4) Vr.cells ?_
 refine J_loopV (X := Nat × Sl) (fun y => [(1, .val (.pointer (some ⟨bd, 0, none⟩))), (2, .val (.pointer (some ⟨br, 0, none⟩))), (3, .val (.pointer (some ⟨bm, 0, none⟩))), (4, .d (.l 1 16 ([xS, y2S].map strC))), (5, .int y.1)]) (fun y => [rowE y.2.v 131 4 Vr.cells ((modG d).vars.take y.1), .cells bm 25 [.val y.2.v, .val Sl.nil.v], .cells br 25 [.val Sl.nil.v, .val Sl.nil.v], .cells bd 55 [.int d.s0, .int d.s1, .int d.l0, .int d.l1, .int d.i0, .int d.i1, .d (plansD d.rules)]]) (fun y => y.1 ≤ 2) (fun y => 2 - y.1) (0, Sl.nil) (Nat.zero_le _) (VS.take (by exact takedD) ?_) ?_
 · exact leD
 rintro ⟨i, q⟩ hi
 dsimp only at hi ⊢
 by_cases h0 : i = 0
 · subst h0
   have q1 := pkb d.l0 (many := 3) (by decide)
   have q2 := pkb d.s0 (many := 4) (by decide)
   have hm : 0 < pk d.l0 3 - 1 + pk d.s0 4 - (pk d.l0 3 - 1) + 1 := by omega
   have q3 := pkb d.i0 hm
   repeat' (first
    | refine armXK6_1 ?_
    | ((with_reducible apply (jbuild_agg (cs := Vr.cells (varG xS d.s0 d.l0 d.i0)))); (focus rfl); (focus rfl); (focus (with_reducible exact ElC.h)); (focus rfl); (focus rfl); (focus rfl); (focus rfl); (focus rfl))
    | ((with_reducible apply (japU1 (f := Vr.cells) (u := varG xS d.s0 d.l0 d.i0))); (focus rfl); (focus rfl); (focus (with_reducible exact ElC.h)); (focus exact updqD); (focus rfl); (focus rfl); (focus rfl); (focus rfl); (focus exact bndD); (focus exact bndD))
    | exact True.intro | refine stp1 ?_ | refine two ?_ ?_ | refine allc fun c_ => ?_
    | (refine imp fun hc => ?_) <;> try exact cx hc
    | refine all fun v_ => ?_)
   refine ⟨?_⟩
   refine J_region_HB [rowE q.v 131 4 Vr.cells ((modG d).vars.take 0), .cells bm 25 [.val q.v, .val Sl.nil.v]] mixed rfl (by (repeat ((with_reducible apply Hd.cons); (focus rfl))); exact Hd.nil) (by (repeat (with_reducible apply len_cons)); exact len_nil) (by decide +kernel) (by exact takeD) ?_
   repeat' (first
    | refine armXK6_1 ?_
    | ((with_reducible apply (jbuild_agg (cs := Vr.cells (varG xS d.s0 d.l0 d.i0)))); (focus rfl); (focus rfl); (focus (with_reducible exact ElC.h)); (focus rfl); (focus rfl); (focus rfl); (focus rfl); (focus rfl))
    | ((with_reducible apply (japU1 (f := Vr.cells) (u := varG xS d.s0 d.l0 d.i0))); (focus rfl); (focus rfl); (focus (with_reducible exact ElC.h)); (focus exact updqD); (focus rfl); (focus rfl); (focus rfl); (focus rfl); (focus exact bndD); (focus exact bndD))
    | exact True.intro | refine stpH ?_ | refine two ?_ ?_ | refine allc fun c_ => ?_
    | (refine imp fun hc => ?_) <;> try exact cx1 hc
    | refine all fun v_ => ?_)
   all_goals
    refine ⟨(1, v_), by dsimp only; omega, by dsimp only; omega, VS.take (by dsimp only; exact takedD) ?_⟩
    exact leD
 by_cases h1 : i = 1
 · subst h1
   have q1 := pkb d.l1 (many := 3) (by decide)
   have q2 := pkb d.s1 (many := 4) (by decide)
   have hm : 0 < pk d.l1 3 - 1 + pk d.s1 4 - (pk d.l1 3 - 1) + 1 := by omega
   have q3 := pkb d.i1 hm
   repeat' (first
    | refine armXK6_2 ?_
    | ((with_reducible apply (jbuild_agg (cs := Vr.cells (varG y2S d.s1 d.l1 d.i1)))); (focus rfl); (focus rfl); (focus (with_reducible exact ElC.h)); (focus rfl); (focus rfl); (focus rfl); (focus rfl); (focus rfl))
    | ((with_reducible apply (japU1 (f := Vr.cells) (u := varG y2S d.s1 d.l1 d.i1))); (focus rfl); (focus rfl); (focus (with_reducible exact ElC.h)); (focus exact updqD); (focus rfl); (focus rfl); (focus rfl); (focus rfl); (focus exact bndD); (focus exact bndD))
    | exact True.intro | refine stp1 ?_ | refine two ?_ ?_ | refine allc fun c_ => ?_
    | (refine imp fun hc => ?_) <;> try exact cx hc
    | refine all fun v_ => ?_)
   refine ⟨?_⟩
   refine J_region_HB [rowE q.v 131 4 Vr.cells ((modG d).vars.take 1), .cells bm 25 [.val q.v, .val Sl.nil.v]] mixed rfl (by (repeat ((with_reducible apply Hd.cons); (focus rfl))); exact Hd.nil) (by (repeat (with_reducible apply len_cons)); exact len_nil) (by decide +kernel) (by exact takeD) ?_
   repeat' (first
    | refine armXK6_2 ?_
    | ((with_reducible apply (jbuild_agg (cs := Vr.cells (varG y2S d.s1 d.l1 d.i1)))); (focus rfl); (focus rfl); (focus (with_reducible exact ElC.h)); (focus rfl); (focus rfl); (focus rfl); (focus rfl); (focus rfl))
    | ((with_reducible apply (japU1 (f := Vr.cells) (u := varG y2S d.s1 d.l1 d.i1))); (focus rfl); (focus rfl); (focus (with_reducible exact ElC.h)); (focus exact updqD); (focus rfl); (focus rfl); (focus rfl); (focus rfl); (focus exact bndD); (focus exact bndD))
    | exact True.intro | refine stpH ?_ | refine two ?_ ?_ | refine allc fun c_ => ?_
    | (refine imp fun hc => ?_) <;> try exact cx1 hc
    | refine all fun v_ => ?_)
   all_goals
    refine ⟨(2, v_), by dsimp only; omega, by dsimp only; omega, VS.take (by dsimp only; exact takedD) ?_⟩
    exact leD
 obtain rfl : i = 2 := by omega
 have ev : (modG d).vars.take 2 = (modG d).vars := rfl
 rw [ev]
 repeat' (first
  | exact True.intro | refine stpH ?_ | refine two ?_ ?_ | refine allc fun c_ => ?_
  | (refine imp fun hc => ?_) <;> try exact cx1 hc
  | refine all fun v_ => ?_)
 refine jrow (E := 137) (sz := 2) Ru.cells ?_
 refine J_loopV (X := Nat × Sl) (fun y => [(1, .val (.pointer (some ⟨bd, 0, none⟩))), (2, .val (.pointer (some ⟨br, 0, none⟩))), (3, .val (.pointer (some ⟨bm, 0, none⟩))), (8, .int y.1)]) (fun y => [rowE y.2.v 137 2 Ru.cells ((d.rules.take y.1).map ruleG), rowE q.v 131 4 Vr.cells ((modG d).vars), .cells bm 25 [.val q.v, .val y.2.v], .cells br 25 [.val Sl.nil.v, .val Sl.nil.v], .cells bd 55 [.int d.s0, .int d.s1, .int d.l0, .int d.l1, .int d.i0, .int d.i1, .d (plansD d.rules)]]) (fun y => y.1 ≤ d.rules.length ∧ y.1 ≤ 5) (fun y => 5 - y.1) (0, Sl.nil) ⟨Nat.zero_le _, Nat.zero_le _⟩ (VS.take (by exact takedD) ?_) ?_
 · exact leD
 clear hi h0 h1
 rintro ⟨i, s⟩ ⟨hi, hi5⟩
 dsimp only at hi hi5 ⊢
 have hlen : ((d.rules.take i).map ruleG).length = i := by rw [List.length_map, List.length_take]; omega
 by_cases hil : i < d.rules.length
 · by_cases h5 : i < 5
   · obtain ⟨r1, r2, r3⟩ := hd.rules d.rules[i] (List.getElem_mem hil)
     have et : (d.rules.take i).map ruleG ++ [ruleG d.rules[i]] = (d.rules.take (i + 1)).map ruleG := by rw [List.take_succ_eq_append_getElem hil, List.map_append]; rfl
     have qv := pkb d.rules[i].var (many := 2) (by decide)
     by_cases hb : d.rules[i].both = true
     · have hR : ruleG d.rules[i] = ⟨truG d.rules[i].guard 2 3 0, [⟨pk d.rules[i].var 2, numG d.rules[i].value 2 2 0⟩, ⟨1 - pk d.rules[i].var 2, [⟨2, pk d.rules[i].var 2⟩]⟩]⟩ := by unfold ruleG setsG; rw [if_pos hb]
       repeat' (first
        | refine armXK6_3 ?_
        | ((with_reducible apply (jbuild_agg (cs := St.cells ⟨pk d.rules[i].var 2, numG d.rules[i].value 2 2 0⟩))); (focus rfl); (focus rfl); (focus (with_reducible exact ElC.h)); (focus rfl); (focus rfl); (focus rfl); (focus rfl); (focus rfl))
        | ((with_reducible apply (japU1 (f := St.cells) (u := ⟨pk d.rules[i].var 2, numG d.rules[i].value 2 2 0⟩))); (focus rfl); (focus rfl); (focus (with_reducible exact ElC.h)); (focus exact updqD); (focus rfl); (focus rfl); (focus rfl); (focus rfl); (focus exact bndD); (focus exact bndD))
        | ((with_reducible apply (jbuild_agg (cs := St.cells ⟨1 - pk d.rules[i].var 2, [⟨2, pk d.rules[i].var 2⟩]⟩))); (focus rfl); (focus rfl); (focus (with_reducible exact ElC.h)); (focus rfl); (focus rfl); (focus rfl); (focus rfl); (focus rfl))
        | ((with_reducible apply (japU1 (f := St.cells) (u := ⟨1 - pk d.rules[i].var 2, [⟨2, pk d.rules[i].var 2⟩]⟩))); (focus rfl); (focus rfl); (focus (with_reducible exact ElC.h)); (focus exact updqD); (focus rfl); (focus rfl); (focus rfl); (focus rfl); (focus exact bndD); (focus exact bndD))
        | exact True.intro | refine stp1 ?_ | refine two ?_ ?_ | refine allc fun c_ => ?_
        | (refine imp fun hc => ?_) <;> try exact cx hc
        | refine all fun v_ => ?_)
       refine ⟨?_⟩
       obtain ⟨bR, rfl⟩ : ∃ x, x = v_ := ⟨v_, rfl⟩
       refine jrow (E := 139) (sz := 2) St.cells ?_
       refine J_region_HB [rowE Sl.nil.v 139 2 St.cells ([]), .cells bR 137 [.d (opsD (truG d.rules[i].guard 2 3 0)), .val Sl.nil.v]] mixed rfl (by (repeat ((with_reducible apply Hd.cons); (focus rfl))); exact Hd.nil) (by (repeat (with_reducible apply len_cons)); exact len_nil) (by decide +kernel) (by (repeat (first | exact Take.nil | ((with_reducible apply Take.cons); (focus ((repeat (first | exact Sel.here | with_reducible apply Sel.there)); done))))); done) ?_
       repeat' (first
        | refine armXK6_3 ?_
        | ((with_reducible apply (jbuild_agg (cs := St.cells ⟨pk d.rules[i].var 2, numG d.rules[i].value 2 2 0⟩))); (focus rfl); (focus rfl); (focus (with_reducible exact ElC.h)); (focus rfl); (focus rfl); (focus rfl); (focus rfl); (focus rfl))
        | ((with_reducible apply (japU1 (f := St.cells) (u := ⟨pk d.rules[i].var 2, numG d.rules[i].value 2 2 0⟩))); (focus rfl); (focus rfl); (focus (with_reducible exact ElC.h)); (focus exact updqD); (focus rfl); (focus rfl); (focus rfl); (focus rfl); (focus exact bndD); (focus exact bndD))
        | ((with_reducible apply (jbuild_agg (cs := St.cells ⟨1 - pk d.rules[i].var 2, [⟨2, pk d.rules[i].var 2⟩]⟩))); (focus rfl); (focus rfl); (focus (with_reducible exact ElC.h)); (focus rfl); (focus rfl); (focus rfl); (focus rfl); (focus rfl))
        | ((with_reducible apply (japU1 (f := St.cells) (u := ⟨1 - pk d.rules[i].var 2, [⟨2, pk d.rules[i].var 2⟩]⟩))); (focus rfl); (focus rfl); (focus (with_reducible exact ElC.h)); (focus exact updqD); (focus rfl); (focus rfl); (focus rfl); (focus rfl); (focus exact bndD); (focus exact bndD))
        | exact True.intro | refine stpH ?_ | refine two ?_ ?_ | refine allc fun c_ => ?_
        | (refine imp fun hc => ?_) <;> try exact cx1 hc
        | refine all fun v_ => ?_)
       all_goals try (first | exact absurd hc hb | (rw [hb] at hc; cases hc; done))
       all_goals
        refine JL_vs (VS.trans (VS.take (hc := [rowE v_.v 139 2 St.cells ([⟨pk d.rules[i].var 2, numG d.rules[i].value 2 2 0⟩, ⟨1 - pk d.rules[i].var 2, [⟨2, pk d.rules[i].var 2⟩]⟩]), rowE s.v 137 2 Ru.cells ((d.rules.take i).map ruleG), rowE q.v 131 4 Vr.cells ((modG d).vars), .cells bm 25 [.val q.v, .val s.v], .cells br 25 [.val Sl.nil.v, .val Sl.nil.v], .cells bd 55 [.int d.s0, .int d.s1, .int d.l0, .int d.l1, .int d.i0, .int d.i1, .d (plansD d.rules)]]) (by exact takedD) (Env.le_refl _)) (vdat (h1 := []) (h' := [rowE s.v 137 2 Ru.cells ((d.rules.take i).map ruleG), rowE q.v 131 4 Vr.cells ((modG d).vars), .cells bm 25 [.val q.v, .val s.v], .cells br 25 [.val Sl.nil.v, .val Sl.nil.v], .cells bd 55 [.int d.s0, .int d.s1, .int d.l0, .int d.l1, .int d.i0, .int d.i1, .d (plansD d.rules)]]) 32 rfl rfl (fun _ => rfl) (by simp only [List.length_cons, List.length_nil]; omega) (CvE.cons (t := 101) rfl (.agg (.cons (.same _) (.cons .here .nil))) (CvE.refl _ _ _)) (CvH.refl _))) ?_
        repeat' (first
         | ((with_reducible apply (jbuild_agg (cs := Ru.cells ⟨truG d.rules[i].guard 2 3 0, [⟨pk d.rules[i].var 2, numG d.rules[i].value 2 2 0⟩, ⟨1 - pk d.rules[i].var 2, [⟨2, pk d.rules[i].var 2⟩]⟩]⟩))); (focus rfl); (focus rfl); (focus (with_reducible exact ElC.h)); (focus rfl); (focus rfl); (focus rfl); (focus rfl); (focus rfl))
         | ((with_reducible apply (japU1 (f := Ru.cells) (u := ⟨truG d.rules[i].guard 2 3 0, [⟨pk d.rules[i].var 2, numG d.rules[i].value 2 2 0⟩, ⟨1 - pk d.rules[i].var 2, [⟨2, pk d.rules[i].var 2⟩]⟩]⟩))); (focus rfl); (focus rfl); (focus (with_reducible exact ElC.h)); (focus exact updqD); (focus rfl); (focus rfl); (focus rfl); (focus rfl); (focus exact bndD); (focus exact bndD))
         | exact True.intro | refine stpH ?_ | refine two ?_ ?_ | refine allc fun c_ => ?_
         | (refine imp fun hc => ?_) <;> try exact cx1 hc
         | refine all fun v_ => ?_)
        refine ⟨(i + 1, v_), by dsimp only; omega, by dsimp only; omega, VS.take (by dsimp only; rw [← et, hR]; exact takedD) ?_⟩
        exact leD
     · have hR : ruleG d.rules[i] = ⟨truG d.rules[i].guard 2 3 0, [⟨pk d.rules[i].var 2, numG d.rules[i].value 2 2 0⟩]⟩ := by unfold ruleG setsG; rw [if_neg hb]
       repeat' (first
        | refine armXK6_3 ?_
        | ((with_reducible apply (jbuild_agg (cs := St.cells ⟨pk d.rules[i].var 2, numG d.rules[i].value 2 2 0⟩))); (focus rfl); (focus rfl); (focus (with_reducible exact ElC.h)); (focus rfl); (focus rfl); (focus rfl); (focus rfl); (focus rfl))
        | ((with_reducible apply (japU1 (f := St.cells) (u := ⟨pk d.rules[i].var 2, numG d.rules[i].value 2 2 0⟩))); (focus rfl); (focus rfl); (focus (with_reducible exact ElC.h)); (focus exact updqD); (focus rfl); (focus rfl); (focus rfl); (focus rfl); (focus exact bndD); (focus exact bndD))
        | ((with_reducible apply (jbuild_agg (cs := St.cells ⟨1 - pk d.rules[i].var 2, [⟨2, pk d.rules[i].var 2⟩]⟩))); (focus rfl); (focus rfl); (focus (with_reducible exact ElC.h)); (focus rfl); (focus rfl); (focus rfl); (focus rfl); (focus rfl))
        | ((with_reducible apply (japU1 (f := St.cells) (u := ⟨1 - pk d.rules[i].var 2, [⟨2, pk d.rules[i].var 2⟩]⟩))); (focus rfl); (focus rfl); (focus (with_reducible exact ElC.h)); (focus exact updqD); (focus rfl); (focus rfl); (focus rfl); (focus rfl); (focus exact bndD); (focus exact bndD))
        | exact True.intro | refine stp1 ?_ | refine two ?_ ?_ | refine allc fun c_ => ?_
        | (refine imp fun hc => ?_) <;> try exact cx hc
        | refine all fun v_ => ?_)
       refine ⟨?_⟩
       obtain ⟨bR, rfl⟩ : ∃ x, x = v_ := ⟨v_, rfl⟩
       refine jrow (E := 139) (sz := 2) St.cells ?_
       refine J_region_HB [rowE Sl.nil.v 139 2 St.cells ([]), .cells bR 137 [.d (opsD (truG d.rules[i].guard 2 3 0)), .val Sl.nil.v]] mixed rfl (by (repeat ((with_reducible apply Hd.cons); (focus rfl))); exact Hd.nil) (by (repeat (with_reducible apply len_cons)); exact len_nil) (by decide +kernel) (by (repeat (first | exact Take.nil | ((with_reducible apply Take.cons); (focus ((repeat (first | exact Sel.here | with_reducible apply Sel.there)); done))))); done) ?_
       repeat' (first
        | refine armXK6_3 ?_
        | ((with_reducible apply (jbuild_agg (cs := St.cells ⟨pk d.rules[i].var 2, numG d.rules[i].value 2 2 0⟩))); (focus rfl); (focus rfl); (focus (with_reducible exact ElC.h)); (focus rfl); (focus rfl); (focus rfl); (focus rfl); (focus rfl))
        | ((with_reducible apply (japU1 (f := St.cells) (u := ⟨pk d.rules[i].var 2, numG d.rules[i].value 2 2 0⟩))); (focus rfl); (focus rfl); (focus (with_reducible exact ElC.h)); (focus exact updqD); (focus rfl); (focus rfl); (focus rfl); (focus rfl); (focus exact bndD); (focus exact bndD))
        | ((with_reducible apply (jbuild_agg (cs := St.cells ⟨1 - pk d.rules[i].var 2, [⟨2, pk d.rules[i].var 2⟩]⟩))); (focus rfl); (focus rfl); (focus (with_reducible exact ElC.h)); (focus rfl); (focus rfl); (focus rfl); (focus rfl); (focus rfl))
        | ((with_reducible apply (japU1 (f := St.cells) (u := ⟨1 - pk d.rules[i].var 2, [⟨2, pk d.rules[i].var 2⟩]⟩))); (focus rfl); (focus rfl); (focus (with_reducible exact ElC.h)); (focus exact updqD); (focus rfl); (focus rfl); (focus rfl); (focus rfl); (focus exact bndD); (focus exact bndD))
        | exact True.intro | refine stpH ?_ | refine two ?_ ?_ | refine allc fun c_ => ?_
        | (refine imp fun hc => ?_) <;> try exact cx1 hc
        | refine all fun v_ => ?_)
       all_goals try (first | exact absurd hc hb | (rw [hb] at hc; cases hc; done))
       all_goals
        refine JL_vs (VS.trans (VS.take (hc := [rowE v_.v 139 2 St.cells ([⟨pk d.rules[i].var 2, numG d.rules[i].value 2 2 0⟩]), rowE s.v 137 2 Ru.cells ((d.rules.take i).map ruleG), rowE q.v 131 4 Vr.cells ((modG d).vars), .cells bm 25 [.val q.v, .val s.v], .cells br 25 [.val Sl.nil.v, .val Sl.nil.v], .cells bd 55 [.int d.s0, .int d.s1, .int d.l0, .int d.l1, .int d.i0, .int d.i1, .d (plansD d.rules)]]) (by exact takedD) (Env.le_refl _)) (vdat (h1 := []) (h' := [rowE s.v 137 2 Ru.cells ((d.rules.take i).map ruleG), rowE q.v 131 4 Vr.cells ((modG d).vars), .cells bm 25 [.val q.v, .val s.v], .cells br 25 [.val Sl.nil.v, .val Sl.nil.v], .cells bd 55 [.int d.s0, .int d.s1, .int d.l0, .int d.l1, .int d.i0, .int d.i1, .d (plansD d.rules)]]) 32 rfl rfl (fun _ => rfl) (by simp only [List.length_cons, List.length_nil]; omega) (CvE.cons (t := 101) rfl (.agg (.cons (.same _) (.cons .here .nil))) (CvE.refl _ _ _)) (CvH.refl _))) ?_
        repeat' (first
         | ((with_reducible apply (jbuild_agg (cs := Ru.cells ⟨truG d.rules[i].guard 2 3 0, [⟨pk d.rules[i].var 2, numG d.rules[i].value 2 2 0⟩]⟩))); (focus rfl); (focus rfl); (focus (with_reducible exact ElC.h)); (focus rfl); (focus rfl); (focus rfl); (focus rfl); (focus rfl))
         | ((with_reducible apply (japU1 (f := Ru.cells) (u := ⟨truG d.rules[i].guard 2 3 0, [⟨pk d.rules[i].var 2, numG d.rules[i].value 2 2 0⟩]⟩))); (focus rfl); (focus rfl); (focus (with_reducible exact ElC.h)); (focus exact updqD); (focus rfl); (focus rfl); (focus rfl); (focus rfl); (focus exact bndD); (focus exact bndD))
         | exact True.intro | refine stpH ?_ | refine two ?_ ?_ | refine allc fun c_ => ?_
         | (refine imp fun hc => ?_) <;> try exact cx1 hc
         | refine all fun v_ => ?_)
        refine ⟨(i + 1, v_), by dsimp only; omega, by dsimp only; omega, VS.take (by dsimp only; rw [← et, hR]; exact takedD) ?_⟩
        exact leD
   · obtain rfl : i = 5 := by omega
     have ef : (d.rules.take (5)).map ruleG = (modG d).rules := by
      unfold modG
      rfl
     have hrl : (modG d).rules.length ≤ 5 := by rw [← ef, hlen]; omega
     rw [ef] at hlen ⊢
     repeat' (first
      | exact True.intro | refine stpH ?_ | refine two ?_ ?_ | refine allc fun c_ => ?_
      | (refine imp fun hc => ?_) <;> try exact cx1 hc
      | refine all fun v_ => ?_)
     refine retr (VS.trans (VS.take (hc := [rowE q.v 131 4 Vr.cells ((modG d).vars), rowE s.v 137 2 Ru.cells ((modG d).rules), .cells br 25 [.val q.v, .val s.v]]) (by exact takedD) (Env.le_refl _)) (VS.trans (vdat (h1 := []) (h' := [rowE s.v 137 2 Ru.cells ((modG d).rules), .cells br 25 [.d (varsD (modG d).vars), .val s.v]]) 40 rfl rfl (fun _ => rfl) (show (2 : Nat) * 40 ≤ _ by omega) (CvE.refl _ _ _) (.keep (.cells (.cons .here (.cons (.same _) .nil)) (.refl _)))) (vdat (h1 := []) (h' := [.cells br 25 [.d (varsD (modG d).vars), .d (rulesD (modG d).rules)]]) 48 rfl rfl (fun _ => rfl) (by omega) (CvE.refl _ _ _) (.cells (.cons (.same _) (.cons .here .nil)) (.refl _))))) (xs := [mdA (modG d)]) ⟨rv_agg rfl (by (with_reducible exact ElC.h)) rfl (by exact memD) rfl, trivial⟩ rfl (h' := []) (List.nil_sublist _) (ret_eq rfl)
 · obtain rfl : i = d.rules.length := by omega
   have ef : (d.rules.take (d.rules.length)).map ruleG = (modG d).rules := by
    unfold modG
    rw [List.take_length, List.take_of_length_le hi5]
   have hrl : (modG d).rules.length ≤ 5 := by rw [← ef, hlen]; omega
   rw [ef] at hlen ⊢
   repeat' (first
    | exact True.intro | refine stpH ?_ | refine two ?_ ?_ | refine allc fun c_ => ?_
    | (refine imp fun hc => ?_) <;> try exact cx1 hc
    | refine all fun v_ => ?_)
   refine retr (VS.trans (VS.take (hc := [rowE q.v 131 4 Vr.cells ((modG d).vars), rowE s.v 137 2 Ru.cells ((modG d).rules), .cells br 25 [.val q.v, .val s.v]]) (by exact takedD) (Env.le_refl _)) (VS.trans (vdat (h1 := []) (h' := [rowE s.v 137 2 Ru.cells ((modG d).rules), .cells br 25 [.d (varsD (modG d).vars), .val s.v]]) 40 rfl rfl (fun _ => rfl) (show (2 : Nat) * 40 ≤ _ by omega) (CvE.refl _ _ _) (.keep (.cells (.cons .here (.cons (.same _) .nil)) (.refl _)))) (vdat (h1 := []) (h' := [.cells br 25 [.d (varsD (modG d).vars), .d (rulesD (modG d).rules)]]) 48 rfl rfl (fun _ => rfl) (by omega) (CvE.refl _ _ _) (.cells (.cons (.same _) (.cons .here .nil)) (.refl _))))) (xs := [mdA (modG d)]) ⟨rv_agg rfl (by (with_reducible exact ElC.h)) rfl (by exact memD) rfl, trivial⟩ rfl (h' := []) (List.nil_sublist _) (ret_eq rfl)
end Go.Proofs.YtniklgkoiaeipaaGreatDoor
