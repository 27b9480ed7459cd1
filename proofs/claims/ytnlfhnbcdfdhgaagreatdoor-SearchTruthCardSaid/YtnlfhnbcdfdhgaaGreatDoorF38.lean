/- A bundle of this claim's own texts: K6. -/
import Derived.Test.YtnlfhnbcdfdhgaaGreatDoorF37
set_option linter.unusedVariables false
set_option linter.unusedSimpArgs false
set_option maxRecDepth 100000
set_option maxHeartbeats 4000000
namespace Go.Sp
open Go Go.Av
structure TY (d : De) : Prop where
 s0 : AX d.s0
 s1 : AX d.s1
 l0 : AX d.l0
 l1 : AX d.l1
 i0 : AX d.i0
 i1 : AX d.i1
 rules : ∀ p ∈ d.rules, BH p.guard ∧ AX p.var ∧ BH p.value
end Go.Sp
namespace Go.Proofs.YtnlfhnbcdfdhgaaGreatDoor
open Go Go.Av Go.Sp
theorem S6 : Cal Tryz.prog 41 := Cal.of Tryz.func41 (by kernel_rfl) (by kernel_rfl)
theorem Qa {p q : Prop} (hp : p) (h : p → q := by
 apply cmp; (focus (first
  | ((with_reducible apply Dg); (focus rfl); (focus exact AI); (focus exact Al G d.l0 3 (by decide) hd.l0); (focus rfl))
  | ((with_reducible apply Bc); (focus rfl); (focus (decide +kernel)); (focus rfl); (focus exact AI); (focus exact Al G d.l0 3 (by decide) hd.l0); (focus rfl))
  | ((with_reducible apply Dg); (focus rfl); (focus exact AI); (focus exact Al G d.s0 4 (by decide) hd.s0); (focus rfl))
  | ((with_reducible apply Bc); (focus rfl); (focus (decide +kernel)); (focus rfl); (focus exact AI); (focus exact Al G d.s0 4 (by decide) hd.s0); (focus rfl))
  ))
 exact fun h => h) : q := h hp
theorem Rm {p q : Prop} (hp : p) (h : p → q := by
 apply cmp; (focus (first
  | ((with_reducible apply Dg); (focus rfl); (focus exact AI); (focus exact Al G d.l1 3 (by decide) hd.l1); (focus rfl))
  | ((with_reducible apply Bc); (focus rfl); (focus (decide +kernel)); (focus rfl); (focus exact AI); (focus exact Al G d.l1 3 (by decide) hd.l1); (focus rfl))
  | ((with_reducible apply Dg); (focus rfl); (focus exact AI); (focus exact Al G d.s1 4 (by decide) hd.s1); (focus rfl))
  | ((with_reducible apply Bc); (focus rfl); (focus (decide +kernel)); (focus rfl); (focus exact AI); (focus exact Al G d.s1 4 (by decide) hd.s1); (focus rfl))
  ))
 exact fun h => h) : q := h hp
theorem Io {p q : Prop} (hp : p) (h : p → q := by
 apply cmp; (focus (first
  | ((with_reducible apply Dg); (focus rfl); (focus exact AI); (focus exact Al G d.rules[i].var 2 (by decide) r2); (focus rfl))
  | ((with_reducible apply Bc); (focus rfl); (focus (decide +kernel)); (focus rfl); (focus exact AI); (focus exact Al G d.rules[i].var 2 (by decide) r2); (focus rfl))
  ))
 exact fun h => h) : q := h hp
theorem de (G : List (Nat × List D)) (d : De) (hd : TY d) : ACr Tryz.prog G 41 [deA d] (mdA (CP d)) := by
 refine AC.factI (f := Pl.cells) (xs := d.rules) (.agg (.there (.there (.there (.there (.there (.there .here))))))) fun hlr => ?_
 refine Bm (rs := [.cell 2 25]) Tryz.f41.ntmps Tryz.func41 rfl rfl rfl (by simp [Tryz.ntmps41]) fun W I => ?_
 repeat' (first
  | ((with_reducible apply RH); (focus rfl); (focus (with_reducible exact ElC.h)); (focus rfl); (focus rfl))
  | exact True.intro | refine AG ?_ | refine two ?_ ?_ | refine AF fun c_ => ?_
  | (refine imp fun hc => ?_) <;> try exact cx1 hc
  | refine all fun v_ => ?_)
 obtain ⟨bm, rfl⟩ : ∃ x, x = v_ := ⟨v_, rfl⟩
 obtain ⟨br, rfl⟩ : ∃ x, x = v_ := ⟨v_, rfl⟩
 obtain ⟨bd, rfl⟩ : ∃ x, x = v_ := ⟨v_, rfl⟩
 refine F6 (E := 135) (sz := 4) Vr.cells ?_
 refine AM (X := Nat × Sl) (fun y => [(1, .val (.pointer (some ⟨bd, 0, none⟩))), (2, .val (.pointer (some ⟨br, 0, none⟩))), (3, .val (.pointer (some ⟨bm, 0, none⟩))), (4, .d (.l 1 16 ([xS, y2S].map eW))), (5, .int y.1)]) (fun y => [AH y.2.v 135 4 Vr.cells ((CP d).vars.take y.1), .cells bm 25 [.val y.2.v, .val Sl.nil.v], .cells br 25 [.val Sl.nil.v, .val Sl.nil.v], .cells bd 43 [.int d.s0, .int d.s1, .int d.l0, .int d.l1, .int d.i0, .int d.i1, .d (GL d.rules)]]) (fun y => y.1 ≤ 2) (fun y => 2 - y.1) (0, Sl.nil) (Nat.zero_le _) (VS.take (by exact AD) ?_) ?_
 · exact leD
 rintro ⟨i, q⟩ hi
 dsimp only at hi ⊢
 by_cases h0 : i = 0
 · subst h0
   have q1 := pkb d.l0 (many := 3) (by decide)
   have q2 := pkb d.s0 (many := 4) (by decide)
   have hm : 0 < pk d.l0 3 - 1 + pk d.s0 4 - (pk d.l0 3 - 1) + 1 := by omega
   have q3 := pkb d.i0 hm
   repeat' (first
    | refine Qa ?_
    | refine ca AI (Al G d.i0 _ hm hd.i0) ?_
    | ((with_reducible apply (BI (cs := Vr.cells (Iq xS d.s0 d.l0 d.i0)))); (focus rfl); (focus rfl); (focus (with_reducible exact ElC.h)); (iterate 4 focus rfl); (focus rfl))
    | ((with_reducible apply (BX (f := Vr.cells) (u := Iq xS d.s0 d.l0 d.i0))); (focus rfl); (focus rfl); (focus (with_reducible exact ElC.h)); (focus exact BS); (iterate 4 focus rfl); (focus exact Af); (focus exact Af))
    | exact True.intro | refine Ps ?_ | refine two ?_ ?_ | refine AF fun c_ => ?_
    | (refine imp fun hc => ?_) <;> try exact cx hc
    | refine all fun v_ => ?_)
   refine ⟨?_⟩
   refine Bn [AH q.v 135 4 Vr.cells ((CP d).vars.take 0), .cells bm 25 [.val q.v, .val Sl.nil.v]] mixed rfl (by (repeat ((with_reducible apply Hd.cons); (focus rfl))); exact Hd.nil) (by (repeat (with_reducible apply AU)); exact len_nil) (by decide +kernel) (by exact AW) ?_
   repeat' (first
    | refine Qa ?_
    | refine ca AI (Al G d.i0 _ hm hd.i0) ?_
    | ((with_reducible apply (BI (cs := Vr.cells (Iq xS d.s0 d.l0 d.i0)))); (focus rfl); (focus rfl); (focus (with_reducible exact ElC.h)); (iterate 4 focus rfl); (focus rfl))
    | ((with_reducible apply (BX (f := Vr.cells) (u := Iq xS d.s0 d.l0 d.i0))); (focus rfl); (focus rfl); (focus (with_reducible exact ElC.h)); (focus exact BS); (iterate 4 focus rfl); (focus exact Af); (focus exact Af))
    | exact True.intro | refine AG ?_ | refine two ?_ ?_ | refine AF fun c_ => ?_
    | (refine imp fun hc => ?_) <;> try exact cx1 hc
    | refine all fun v_ => ?_)
   all_goals
    refine ⟨(1, v_), by dsimp only; omega, by dsimp only; omega, VS.take (by dsimp only; exact AD) ?_⟩
    exact leD
 by_cases h1 : i = 1
 · subst h1
   have q1 := pkb d.l1 (many := 3) (by decide)
   have q2 := pkb d.s1 (many := 4) (by decide)
   have hm : 0 < pk d.l1 3 - 1 + pk d.s1 4 - (pk d.l1 3 - 1) + 1 := by omega
   have q3 := pkb d.i1 hm
   repeat' (first
    | refine Rm ?_
    | refine ca AI (Al G d.i1 _ hm hd.i1) ?_
    | ((with_reducible apply (BI (cs := Vr.cells (Iq y2S d.s1 d.l1 d.i1)))); (focus rfl); (focus rfl); (focus (with_reducible exact ElC.h)); (iterate 4 focus rfl); (focus rfl))
    | ((with_reducible apply (BX (f := Vr.cells) (u := Iq y2S d.s1 d.l1 d.i1))); (focus rfl); (focus rfl); (focus (with_reducible exact ElC.h)); (focus exact BS); (iterate 4 focus rfl); (focus exact Af); (focus exact Af))
    | exact True.intro | refine Ps ?_ | refine two ?_ ?_ | refine AF fun c_ => ?_
    | (refine imp fun hc => ?_) <;> try exact cx hc
    | refine all fun v_ => ?_)
   refine ⟨?_⟩
   refine Bn [AH q.v 135 4 Vr.cells ((CP d).vars.take 1), .cells bm 25 [.val q.v, .val Sl.nil.v]] mixed rfl (by (repeat ((with_reducible apply Hd.cons); (focus rfl))); exact Hd.nil) (by (repeat (with_reducible apply AU)); exact len_nil) (by decide +kernel) (by exact AW) ?_
   repeat' (first
    | refine Rm ?_
    | refine ca AI (Al G d.i1 _ hm hd.i1) ?_
    | ((with_reducible apply (BI (cs := Vr.cells (Iq y2S d.s1 d.l1 d.i1)))); (focus rfl); (focus rfl); (focus (with_reducible exact ElC.h)); (iterate 4 focus rfl); (focus rfl))
    | ((with_reducible apply (BX (f := Vr.cells) (u := Iq y2S d.s1 d.l1 d.i1))); (focus rfl); (focus rfl); (focus (with_reducible exact ElC.h)); (focus exact BS); (iterate 4 focus rfl); (focus exact Af); (focus exact Af))
    | exact True.intro | refine AG ?_ | refine two ?_ ?_ | refine AF fun c_ => ?_
    | (refine imp fun hc => ?_) <;> try exact cx1 hc
    | refine all fun v_ => ?_)
   all_goals
    refine ⟨(2, v_), by dsimp only; omega, by dsimp only; omega, VS.take (by dsimp only; exact AD) ?_⟩
    exact leD
 obtain rfl : i = 2 := by omega
 have ev : (CP d).vars.take 2 = (CP d).vars := rfl
 rw [ev]
 repeat' (first
  | exact True.intro | refine AG ?_ | refine two ?_ ?_ | refine AF fun c_ => ?_
  | (refine imp fun hc => ?_) <;> try exact cx1 hc
  | refine all fun v_ => ?_)
 refine F6 (E := 119) (sz := 2) Ru.cells ?_
 refine AM (X := Nat × Sl) (fun y => [(1, .val (.pointer (some ⟨bd, 0, none⟩))), (2, .val (.pointer (some ⟨br, 0, none⟩))), (3, .val (.pointer (some ⟨bm, 0, none⟩))), (8, .int y.1)]) (fun y => [AH y.2.v 119 2 Ru.cells ((d.rules.take y.1).map Dc), AH q.v 135 4 Vr.cells ((CP d).vars), .cells bm 25 [.val q.v, .val y.2.v], .cells br 25 [.val Sl.nil.v, .val Sl.nil.v], .cells bd 43 [.int d.s0, .int d.s1, .int d.l0, .int d.l1, .int d.i0, .int d.i1, .d (GL d.rules)]]) (fun y => y.1 ≤ d.rules.length ∧ y.1 ≤ 5) (fun y => 5 - y.1) (0, Sl.nil) ⟨Nat.zero_le _, Nat.zero_le _⟩ (VS.take (by exact AD) ?_) ?_
 · exact leD
 clear hi h0 h1
 rintro ⟨i, s⟩ ⟨hi, hi5⟩
 dsimp only at hi hi5 ⊢
 have hlen : ((d.rules.take i).map Dc).length = i := by rw [List.length_map, List.length_take]; omega
 by_cases hil : i < d.rules.length
 · by_cases h5 : i < 5
   · obtain ⟨r1, r2, r3⟩ := hd.rules d.rules[i] (List.getElem_mem hil)
     have et : (d.rules.take i).map Dc ++ [Dc d.rules[i]] = (d.rules.take (i + 1)).map Dc := by rw [List.take_succ_eq_append_getElem hil, List.map_append]; rfl
     have qv := pkb d.rules[i].var (many := 2) (by decide)
     by_cases hb : d.rules[i].both = true
     · have hR : Dc d.rules[i] = ⟨Da d.rules[i].guard 2 3 0, [⟨pk d.rules[i].var 2, Bb d.rules[i].value 2 2 0⟩, ⟨1 - pk d.rules[i].var 2, [⟨2, pk d.rules[i].var 2⟩]⟩]⟩ := by unfold Dc UU; rw [if_pos hb]
       repeat' (first
        | refine ca Gc (OL G d.rules[i].guard r1) ?_
        | refine Io ?_
        | refine ca FU (Ka G d.rules[i].value r3) ?_
        | ((with_reducible apply (BI (cs := St.cells ⟨pk d.rules[i].var 2, Bb d.rules[i].value 2 2 0⟩))); (focus rfl); (focus rfl); (focus (with_reducible exact ElC.h)); (iterate 4 focus rfl); (focus rfl))
        | ((with_reducible apply (BX (f := St.cells) (u := ⟨pk d.rules[i].var 2, Bb d.rules[i].value 2 2 0⟩))); (focus rfl); (focus rfl); (focus (with_reducible exact ElC.h)); (focus exact BS); (iterate 4 focus rfl); (focus exact Af); (focus exact Af))
        | ((with_reducible apply (BI (cs := St.cells ⟨1 - pk d.rules[i].var 2, [⟨2, pk d.rules[i].var 2⟩]⟩))); (focus rfl); (focus rfl); (focus (with_reducible exact ElC.h)); (iterate 4 focus rfl); (focus rfl))
        | ((with_reducible apply (BX (f := St.cells) (u := ⟨1 - pk d.rules[i].var 2, [⟨2, pk d.rules[i].var 2⟩]⟩))); (focus rfl); (focus rfl); (focus (with_reducible exact ElC.h)); (focus exact BS); (iterate 4 focus rfl); (focus exact Af); (focus exact Af))
        | exact True.intro | refine Ps ?_ | refine two ?_ ?_ | refine AF fun c_ => ?_
        | (refine imp fun hc => ?_) <;> try exact cx hc
        | refine all fun v_ => ?_)
       refine ⟨?_⟩
       obtain ⟨bR, rfl⟩ : ∃ x, x = v_ := ⟨v_, rfl⟩
       refine F6 (E := 121) (sz := 2) St.cells ?_
       refine Bn [AH Sl.nil.v 121 2 St.cells ([]), .cells bR 119 [.d (AO (Da d.rules[i].guard 2 3 0)), .val Sl.nil.v]] mixed rfl (by (repeat ((with_reducible apply Hd.cons); (focus rfl))); exact Hd.nil) (by (repeat (with_reducible apply AU)); exact len_nil) (by decide +kernel) (by (repeat (first | exact Take.nil | ((with_reducible apply Take.cons); (focus ((repeat (first | exact Sel.here | with_reducible apply Sel.there)); done))))); done) ?_
       repeat' (first
        | refine ca Gc (OL G d.rules[i].guard r1) ?_
        | refine Io ?_
        | refine ca FU (Ka G d.rules[i].value r3) ?_
        | ((with_reducible apply (BI (cs := St.cells ⟨pk d.rules[i].var 2, Bb d.rules[i].value 2 2 0⟩))); (focus rfl); (focus rfl); (focus (with_reducible exact ElC.h)); (iterate 4 focus rfl); (focus rfl))
        | ((with_reducible apply (BX (f := St.cells) (u := ⟨pk d.rules[i].var 2, Bb d.rules[i].value 2 2 0⟩))); (focus rfl); (focus rfl); (focus (with_reducible exact ElC.h)); (focus exact BS); (iterate 4 focus rfl); (focus exact Af); (focus exact Af))
        | ((with_reducible apply (BI (cs := St.cells ⟨1 - pk d.rules[i].var 2, [⟨2, pk d.rules[i].var 2⟩]⟩))); (focus rfl); (focus rfl); (focus (with_reducible exact ElC.h)); (iterate 4 focus rfl); (focus rfl))
        | ((with_reducible apply (BX (f := St.cells) (u := ⟨1 - pk d.rules[i].var 2, [⟨2, pk d.rules[i].var 2⟩]⟩))); (focus rfl); (focus rfl); (focus (with_reducible exact ElC.h)); (focus exact BS); (iterate 4 focus rfl); (focus exact Af); (focus exact Af))
        | exact True.intro | refine AG ?_ | refine two ?_ ?_ | refine AF fun c_ => ?_
        | (refine imp fun hc => ?_) <;> try exact cx1 hc
        | refine all fun v_ => ?_)
       all_goals try (first | exact absurd hc hb | (rw [hb] at hc; cases hc; done))
       all_goals
        refine C3 (VS.trans (VS.take (hc := [AH v_.v 121 2 St.cells ([⟨pk d.rules[i].var 2, Bb d.rules[i].value 2 2 0⟩, ⟨1 - pk d.rules[i].var 2, [⟨2, pk d.rules[i].var 2⟩]⟩]), AH s.v 119 2 Ru.cells ((d.rules.take i).map Dc), AH q.v 135 4 Vr.cells ((CP d).vars), .cells bm 25 [.val q.v, .val s.v], .cells br 25 [.val Sl.nil.v, .val Sl.nil.v], .cells bd 43 [.int d.s0, .int d.s1, .int d.l0, .int d.l1, .int d.i0, .int d.i1, .d (GL d.rules)]]) (by exact AD) (Env.le_refl _)) (D1 (h1 := []) (h' := [AH s.v 119 2 Ru.cells ((d.rules.take i).map Dc), AH q.v 135 4 Vr.cells ((CP d).vars), .cells bm 25 [.val q.v, .val s.v], .cells br 25 [.val Sl.nil.v, .val Sl.nil.v], .cells bd 43 [.int d.s0, .int d.s1, .int d.l0, .int d.l1, .int d.i0, .int d.i1, .d (GL d.rules)]]) 32 rfl rfl (fun _ => rfl) (by simp only [List.length_cons, List.length_nil]; omega) (CvE.cons (t := 101) rfl (.agg (.cons (.same _) (.cons .here .nil))) (CvE.refl _ _ _)) (CvH.refl _))) ?_
        repeat' (first
         | ((with_reducible apply (BI (cs := Ru.cells ⟨Da d.rules[i].guard 2 3 0, [⟨pk d.rules[i].var 2, Bb d.rules[i].value 2 2 0⟩, ⟨1 - pk d.rules[i].var 2, [⟨2, pk d.rules[i].var 2⟩]⟩]⟩))); (focus rfl); (focus rfl); (focus (with_reducible exact ElC.h)); (iterate 4 focus rfl); (focus rfl))
         | ((with_reducible apply (BX (f := Ru.cells) (u := ⟨Da d.rules[i].guard 2 3 0, [⟨pk d.rules[i].var 2, Bb d.rules[i].value 2 2 0⟩, ⟨1 - pk d.rules[i].var 2, [⟨2, pk d.rules[i].var 2⟩]⟩]⟩))); (focus rfl); (focus rfl); (focus (with_reducible exact ElC.h)); (focus exact BS); (iterate 4 focus rfl); (focus exact Af); (focus exact Af))
         | exact True.intro | refine AG ?_ | refine two ?_ ?_ | refine AF fun c_ => ?_
         | (refine imp fun hc => ?_) <;> try exact cx1 hc
         | refine all fun v_ => ?_)
        refine ⟨(i + 1, v_), by dsimp only; omega, by dsimp only; omega, VS.take (by dsimp only; rw [← et, hR]; exact AD) ?_⟩
        exact leD
     · have hR : Dc d.rules[i] = ⟨Da d.rules[i].guard 2 3 0, [⟨pk d.rules[i].var 2, Bb d.rules[i].value 2 2 0⟩]⟩ := by unfold Dc UU; rw [if_neg hb]
       repeat' (first
        | refine ca Gc (OL G d.rules[i].guard r1) ?_
        | refine Io ?_
        | refine ca FU (Ka G d.rules[i].value r3) ?_
        | ((with_reducible apply (BI (cs := St.cells ⟨pk d.rules[i].var 2, Bb d.rules[i].value 2 2 0⟩))); (focus rfl); (focus rfl); (focus (with_reducible exact ElC.h)); (iterate 4 focus rfl); (focus rfl))
        | ((with_reducible apply (BX (f := St.cells) (u := ⟨pk d.rules[i].var 2, Bb d.rules[i].value 2 2 0⟩))); (focus rfl); (focus rfl); (focus (with_reducible exact ElC.h)); (focus exact BS); (iterate 4 focus rfl); (focus exact Af); (focus exact Af))
        | ((with_reducible apply (BI (cs := St.cells ⟨1 - pk d.rules[i].var 2, [⟨2, pk d.rules[i].var 2⟩]⟩))); (focus rfl); (focus rfl); (focus (with_reducible exact ElC.h)); (iterate 4 focus rfl); (focus rfl))
        | ((with_reducible apply (BX (f := St.cells) (u := ⟨1 - pk d.rules[i].var 2, [⟨2, pk d.rules[i].var 2⟩]⟩))); (focus rfl); (focus rfl); (focus (with_reducible exact ElC.h)); (focus exact BS); (iterate 4 focus rfl); (focus exact Af); (focus exact Af))
        | exact True.intro | refine Ps ?_ | refine two ?_ ?_ | refine AF fun c_ => ?_
        | (refine imp fun hc => ?_) <;> try exact cx hc
        | refine all fun v_ => ?_)
       refine ⟨?_⟩
       obtain ⟨bR, rfl⟩ : ∃ x, x = v_ := ⟨v_, rfl⟩
       refine F6 (E := 121) (sz := 2) St.cells ?_
       refine Bn [AH Sl.nil.v 121 2 St.cells ([]), .cells bR 119 [.d (AO (Da d.rules[i].guard 2 3 0)), .val Sl.nil.v]] mixed rfl (by (repeat ((with_reducible apply Hd.cons); (focus rfl))); exact Hd.nil) (by (repeat (with_reducible apply AU)); exact len_nil) (by decide +kernel) (by (repeat (first | exact Take.nil | ((with_reducible apply Take.cons); (focus ((repeat (first | exact Sel.here | with_reducible apply Sel.there)); done))))); done) ?_
       repeat' (first
        | refine ca Gc (OL G d.rules[i].guard r1) ?_
        | refine Io ?_
        | refine ca FU (Ka G d.rules[i].value r3) ?_
        | ((with_reducible apply (BI (cs := St.cells ⟨pk d.rules[i].var 2, Bb d.rules[i].value 2 2 0⟩))); (focus rfl); (focus rfl); (focus (with_reducible exact ElC.h)); (iterate 4 focus rfl); (focus rfl))
        | ((with_reducible apply (BX (f := St.cells) (u := ⟨pk d.rules[i].var 2, Bb d.rules[i].value 2 2 0⟩))); (focus rfl); (focus rfl); (focus (with_reducible exact ElC.h)); (focus exact BS); (iterate 4 focus rfl); (focus exact Af); (focus exact Af))
        | ((with_reducible apply (BI (cs := St.cells ⟨1 - pk d.rules[i].var 2, [⟨2, pk d.rules[i].var 2⟩]⟩))); (focus rfl); (focus rfl); (focus (with_reducible exact ElC.h)); (iterate 4 focus rfl); (focus rfl))
        | ((with_reducible apply (BX (f := St.cells) (u := ⟨1 - pk d.rules[i].var 2, [⟨2, pk d.rules[i].var 2⟩]⟩))); (focus rfl); (focus rfl); (focus (with_reducible exact ElC.h)); (focus exact BS); (iterate 4 focus rfl); (focus exact Af); (focus exact Af))
        | exact True.intro | refine AG ?_ | refine two ?_ ?_ | refine AF fun c_ => ?_
        | (refine imp fun hc => ?_) <;> try exact cx1 hc
        | refine all fun v_ => ?_)
       all_goals try (first | exact absurd hc hb | (rw [hb] at hc; cases hc; done))
       all_goals
        refine C3 (VS.trans (VS.take (hc := [AH v_.v 121 2 St.cells ([⟨pk d.rules[i].var 2, Bb d.rules[i].value 2 2 0⟩]), AH s.v 119 2 Ru.cells ((d.rules.take i).map Dc), AH q.v 135 4 Vr.cells ((CP d).vars), .cells bm 25 [.val q.v, .val s.v], .cells br 25 [.val Sl.nil.v, .val Sl.nil.v], .cells bd 43 [.int d.s0, .int d.s1, .int d.l0, .int d.l1, .int d.i0, .int d.i1, .d (GL d.rules)]]) (by exact AD) (Env.le_refl _)) (D1 (h1 := []) (h' := [AH s.v 119 2 Ru.cells ((d.rules.take i).map Dc), AH q.v 135 4 Vr.cells ((CP d).vars), .cells bm 25 [.val q.v, .val s.v], .cells br 25 [.val Sl.nil.v, .val Sl.nil.v], .cells bd 43 [.int d.s0, .int d.s1, .int d.l0, .int d.l1, .int d.i0, .int d.i1, .d (GL d.rules)]]) 32 rfl rfl (fun _ => rfl) (by simp only [List.length_cons, List.length_nil]; omega) (CvE.cons (t := 101) rfl (.agg (.cons (.same _) (.cons .here .nil))) (CvE.refl _ _ _)) (CvH.refl _))) ?_
        repeat' (first
         | ((with_reducible apply (BI (cs := Ru.cells ⟨Da d.rules[i].guard 2 3 0, [⟨pk d.rules[i].var 2, Bb d.rules[i].value 2 2 0⟩]⟩))); (focus rfl); (focus rfl); (focus (with_reducible exact ElC.h)); (iterate 4 focus rfl); (focus rfl))
         | ((with_reducible apply (BX (f := Ru.cells) (u := ⟨Da d.rules[i].guard 2 3 0, [⟨pk d.rules[i].var 2, Bb d.rules[i].value 2 2 0⟩]⟩))); (focus rfl); (focus rfl); (focus (with_reducible exact ElC.h)); (focus exact BS); (iterate 4 focus rfl); (focus exact Af); (focus exact Af))
         | exact True.intro | refine AG ?_ | refine two ?_ ?_ | refine AF fun c_ => ?_
         | (refine imp fun hc => ?_) <;> try exact cx1 hc
         | refine all fun v_ => ?_)
        refine ⟨(i + 1, v_), by dsimp only; omega, by dsimp only; omega, VS.take (by dsimp only; rw [← et, hR]; exact AD) ?_⟩
        exact leD
   · obtain rfl : i = 5 := by omega
     have ef : (d.rules.take (5)).map Dc = (CP d).rules := by
      unfold CP
      rfl
     have hrl : (CP d).rules.length ≤ 5 := by rw [← ef, hlen]; omega
     rw [ef] at hlen ⊢
     repeat' (first
      | exact True.intro | refine AG ?_ | refine two ?_ ?_ | refine AF fun c_ => ?_
      | (refine imp fun hc => ?_) <;> try exact cx1 hc
      | refine all fun v_ => ?_)
     refine HA (VS.trans (VS.take (hc := [AH q.v 135 4 Vr.cells ((CP d).vars), AH s.v 119 2 Ru.cells ((CP d).rules), .cells br 25 [.val q.v, .val s.v]]) (by exact AD) (Env.le_refl _)) (VS.trans (D1 (h1 := []) (h' := [AH s.v 119 2 Ru.cells ((CP d).rules), .cells br 25 [.d (BT (CP d).vars), .val s.v]]) 40 rfl rfl (fun _ => rfl) (show (2 : Nat) * 40 ≤ _ by omega) (CvE.refl _ _ _) (.keep (.cells (.cons .here (.cons (.same _) .nil)) (.refl _)))) (D1 (h1 := []) (h' := [.cells br 25 [.d (BT (CP d).vars), .d (A2 (CP d).rules)]]) 48 rfl rfl (fun _ => rfl) (by omega) (CvE.refl _ _ _) (.cells (.cons (.same _) (.cons .here .nil)) (.refl _))))) (xs := [mdA (CP d)]) ⟨Ax rfl (by (with_reducible exact ElC.h)) rfl (by exact Ab) rfl, trivial⟩ rfl (h' := []) (List.nil_sublist _) (AB rfl)
 · obtain rfl : i = d.rules.length := by omega
   have ef : (d.rules.take (d.rules.length)).map Dc = (CP d).rules := by
    unfold CP
    rw [List.take_length, List.take_of_length_le hi5]
   have hrl : (CP d).rules.length ≤ 5 := by rw [← ef, hlen]; omega
   rw [ef] at hlen ⊢
   repeat' (first
    | exact True.intro | refine AG ?_ | refine two ?_ ?_ | refine AF fun c_ => ?_
    | (refine imp fun hc => ?_) <;> try exact cx1 hc
    | refine all fun v_ => ?_)
   refine HA (VS.trans (VS.take (hc := [AH q.v 135 4 Vr.cells ((CP d).vars), AH s.v 119 2 Ru.cells ((CP d).rules), .cells br 25 [.val q.v, .val s.v]]) (by exact AD) (Env.le_refl _)) (VS.trans (D1 (h1 := []) (h' := [AH s.v 119 2 Ru.cells ((CP d).rules), .cells br 25 [.d (BT (CP d).vars), .val s.v]]) 40 rfl rfl (fun _ => rfl) (show (2 : Nat) * 40 ≤ _ by omega) (CvE.refl _ _ _) (.keep (.cells (.cons .here (.cons (.same _) .nil)) (.refl _)))) (D1 (h1 := []) (h' := [.cells br 25 [.d (BT (CP d).vars), .d (A2 (CP d).rules)]]) 48 rfl rfl (fun _ => rfl) (by omega) (CvE.refl _ _ _) (.cells (.cons (.same _) (.cons .here .nil)) (.refl _))))) (xs := [mdA (CP d)]) ⟨Ax rfl (by (with_reducible exact ElC.h)) rfl (by exact Ab) rfl, trivial⟩ rfl (h' := []) (List.nil_sublist _) (AB rfl)
end Go.Proofs.YtnlfhnbcdfdhgaaGreatDoor
