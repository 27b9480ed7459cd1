/- A bundle of this claim's own texts: K6. -/
import Derived.Test.YtajnpfgelpkijaaGreatDoorA33
set_option linter.unusedVariables false
set_option linter.unusedSimpArgs false
set_option maxRecDepth 100000
set_option maxHeartbeats 4000000
namespace Go.Sp
open Go Go.Av
structure XA (d : De) : Prop where
 s0 : Aj d.s0
 s1 : Aj d.s1
 l0 : Aj d.l0
 l1 : Aj d.l1
 i0 : Aj d.i0
 i1 : Aj d.i1
 rules : ∀ p ∈ d.rules, Bd p.guard ∧ Aj p.var ∧ Bd p.value
end Go.Sp
namespace Go.Proofs.YtajnpfgelpkijaaGreatDoor
open Go Go.Av Go.Sp
theorem Mn : Cal Tryz.prog 24 := Cal.of Tryz.func24 (by kernel_rfl) (by kernel_rfl)
theorem Q8 {p q : Prop} (hp : p) (h : p → q := by
 apply cmp; (focus (first
  | ((with_reducible apply Ez); (focus rfl); (focus exact AH); (focus exact Ap G d.l0 3 (by decide) hd.l0); (focus rfl))
  | ((with_reducible apply je_call0); (focus rfl); (focus (decide +kernel)); (focus rfl); (focus exact AH); (focus exact Ap G d.l0 3 (by decide) hd.l0); (focus rfl))
  | ((with_reducible apply Ez); (focus rfl); (focus exact AH); (focus exact Ap G d.s0 4 (by decide) hd.s0); (focus rfl))
  | ((with_reducible apply je_call0); (focus rfl); (focus (decide +kernel)); (focus rfl); (focus exact AH); (focus exact Ap G d.s0 4 (by decide) hd.s0); (focus rfl))
  ))
 exact fun h => h) : q := h hp
theorem QO {p q : Prop} (hp : p) (h : p → q := by
 apply cmp; (focus (first
  | ((with_reducible apply Ez); (focus rfl); (focus exact AH); (focus exact Ap G d.l1 3 (by decide) hd.l1); (focus rfl))
  | ((with_reducible apply je_call0); (focus rfl); (focus (decide +kernel)); (focus rfl); (focus exact AH); (focus exact Ap G d.l1 3 (by decide) hd.l1); (focus rfl))
  | ((with_reducible apply Ez); (focus rfl); (focus exact AH); (focus exact Ap G d.s1 4 (by decide) hd.s1); (focus rfl))
  | ((with_reducible apply je_call0); (focus rfl); (focus (decide +kernel)); (focus rfl); (focus exact AH); (focus exact Ap G d.s1 4 (by decide) hd.s1); (focus rfl))
  ))
 exact fun h => h) : q := h hp
theorem Jf {p q : Prop} (hp : p) (h : p → q := by
 apply cmp; (focus (first
  | ((with_reducible apply Ez); (focus rfl); (focus exact AH); (focus exact Ap G d.rules[i].var 2 (by decide) r2); (focus rfl))
  | ((with_reducible apply je_call0); (focus rfl); (focus (decide +kernel)); (focus rfl); (focus exact AH); (focus exact Ap G d.rules[i].var 2 (by decide) r2); (focus rfl))
  ))
 exact fun h => h) : q := h hp
theorem Ym (G : List (Nat × List D)) (d : De) (hd : XA d) : ACr Tryz.prog G 24 [deA d] (mdA (CH d)) := by
 refine AC.factI (f := Pl.cells) (xs := d.rules) (.agg (.there (.there (.there (.there (.there (.there .here))))))) fun hlr => ?_
 refine Et (rs := [.cell 2 25]) Tryz.f24.ntmps Tryz.func24 rfl rfl rfl (by simp [Tryz.ntmps24]) fun W I => ?_
 repeat' (first
  | ((with_reducible apply Qo); (focus rfl); (focus (with_reducible exact ElC.h)); (focus rfl); (focus rfl))
  | exact True.intro | refine AJ ?_ | refine two ?_ ?_ | refine AG fun c_ => ?_
  | (refine imp fun hc => ?_) <;> try exact cx1 hc
  | refine all fun v_ => ?_)
 obtain ⟨bm, rfl⟩ : ∃ x, x = v_ := ⟨v_, rfl⟩
 obtain ⟨br, rfl⟩ : ∃ x, x = v_ := ⟨v_, rfl⟩
 obtain ⟨bd, rfl⟩ : ∃ x, x = v_ := ⟨v_, rfl⟩
 refine FQ (E := 68) (sz := 4) Vr.cells ?_
 refine AL (X := Nat × Sl) (fun y => [(1, .val (.pointer (some ⟨bd, 0, none⟩))), (2, .val (.pointer (some ⟨br, 0, none⟩))), (3, .val (.pointer (some ⟨bm, 0, none⟩))), (4, .d (.l 1 16 ([xS, y2S].map fz))), (5, .int y.1)]) (fun y => [AF y.2.v 68 4 Vr.cells ((CH d).vars.take y.1), .cells bm 25 [.val y.2.v, .val Sl.nil.v], .cells br 25 [.val Sl.nil.v, .val Sl.nil.v], .cells bd 38 [.int d.s0, .int d.s1, .int d.l0, .int d.l1, .int d.i0, .int d.i1, .d (GO d.rules)]]) (fun y => y.1 ≤ 2) (fun y => 2 - y.1) (0, Sl.nil) (Nat.zero_le _) (VS.take (by exact AB) ?_) ?_
 · exact leD
 rintro ⟨i, q⟩ hi
 dsimp only at hi ⊢
 by_cases h0 : i = 0
 · subst h0
   have q1 := pkb d.l0 (many := 3) (by decide)
   have q2 := pkb d.s0 (many := 4) (by decide)
   have hm : 0 < pk d.l0 3 - 1 + pk d.s0 4 - (pk d.l0 3 - 1) + 1 := by omega
   have q3 := pkb d.i0 hm
   repeat' (first
    | refine Q8 ?_
    | refine ca AH (Ap G d.i0 _ hm hd.i0) ?_
    | ((with_reducible apply (Ar (cs := Vr.cells (I7 xS d.s0 d.l0 d.i0)))); (focus rfl); (focus rfl); (focus (with_reducible exact ElC.h)); (focus rfl); (focus rfl); (focus rfl); (focus rfl); (focus rfl))
    | ((with_reducible apply (Bm (f := Vr.cells) (u := I7 xS d.s0 d.l0 d.i0))); (focus rfl); (focus rfl); (focus (with_reducible exact ElC.h)); (focus exact BT); (focus rfl); (focus rfl); (focus rfl); (focus rfl); (focus exact Ad); (focus exact Ad))
    | exact True.intro | refine Xm ?_ | refine two ?_ ?_ | refine AG fun c_ => ?_
    | (refine imp fun hc => ?_) <;> try exact cx hc
    | refine all fun v_ => ?_)
   refine ⟨?_⟩
   refine BC [AF q.v 68 4 Vr.cells ((CH d).vars.take 0), .cells bm 25 [.val q.v, .val Sl.nil.v]] mixed rfl (by (repeat ((with_reducible apply Hd.cons); (focus rfl))); exact Hd.nil) (by (repeat (with_reducible apply Aa)); exact len_nil) (by decide +kernel) (by exact AS) ?_
   repeat' (first
    | refine Q8 ?_
    | refine ca AH (Ap G d.i0 _ hm hd.i0) ?_
    | ((with_reducible apply (Ar (cs := Vr.cells (I7 xS d.s0 d.l0 d.i0)))); (focus rfl); (focus rfl); (focus (with_reducible exact ElC.h)); (focus rfl); (focus rfl); (focus rfl); (focus rfl); (focus rfl))
    | ((with_reducible apply (Bm (f := Vr.cells) (u := I7 xS d.s0 d.l0 d.i0))); (focus rfl); (focus rfl); (focus (with_reducible exact ElC.h)); (focus exact BT); (focus rfl); (focus rfl); (focus rfl); (focus rfl); (focus exact Ad); (focus exact Ad))
    | exact True.intro | refine AJ ?_ | refine two ?_ ?_ | refine AG fun c_ => ?_
    | (refine imp fun hc => ?_) <;> try exact cx1 hc
    | refine all fun v_ => ?_)
   all_goals
    refine ⟨(1, v_), by dsimp only; omega, by dsimp only; omega, VS.take (by dsimp only; exact AB) ?_⟩
    exact leD
 by_cases h1 : i = 1
 · subst h1
   have q1 := pkb d.l1 (many := 3) (by decide)
   have q2 := pkb d.s1 (many := 4) (by decide)
   have hm : 0 < pk d.l1 3 - 1 + pk d.s1 4 - (pk d.l1 3 - 1) + 1 := by omega
   have q3 := pkb d.i1 hm
   repeat' (first
    | refine QO ?_
    | refine ca AH (Ap G d.i1 _ hm hd.i1) ?_
    | ((with_reducible apply (Ar (cs := Vr.cells (I7 y2S d.s1 d.l1 d.i1)))); (focus rfl); (focus rfl); (focus (with_reducible exact ElC.h)); (focus rfl); (focus rfl); (focus rfl); (focus rfl); (focus rfl))
    | ((with_reducible apply (Bm (f := Vr.cells) (u := I7 y2S d.s1 d.l1 d.i1))); (focus rfl); (focus rfl); (focus (with_reducible exact ElC.h)); (focus exact BT); (focus rfl); (focus rfl); (focus rfl); (focus rfl); (focus exact Ad); (focus exact Ad))
    | exact True.intro | refine Xm ?_ | refine two ?_ ?_ | refine AG fun c_ => ?_
    | (refine imp fun hc => ?_) <;> try exact cx hc
    | refine all fun v_ => ?_)
   refine ⟨?_⟩
   refine BC [AF q.v 68 4 Vr.cells ((CH d).vars.take 1), .cells bm 25 [.val q.v, .val Sl.nil.v]] mixed rfl (by (repeat ((with_reducible apply Hd.cons); (focus rfl))); exact Hd.nil) (by (repeat (with_reducible apply Aa)); exact len_nil) (by decide +kernel) (by exact AS) ?_
   repeat' (first
    | refine QO ?_
    | refine ca AH (Ap G d.i1 _ hm hd.i1) ?_
    | ((with_reducible apply (Ar (cs := Vr.cells (I7 y2S d.s1 d.l1 d.i1)))); (focus rfl); (focus rfl); (focus (with_reducible exact ElC.h)); (focus rfl); (focus rfl); (focus rfl); (focus rfl); (focus rfl))
    | ((with_reducible apply (Bm (f := Vr.cells) (u := I7 y2S d.s1 d.l1 d.i1))); (focus rfl); (focus rfl); (focus (with_reducible exact ElC.h)); (focus exact BT); (focus rfl); (focus rfl); (focus rfl); (focus rfl); (focus exact Ad); (focus exact Ad))
    | exact True.intro | refine AJ ?_ | refine two ?_ ?_ | refine AG fun c_ => ?_
    | (refine imp fun hc => ?_) <;> try exact cx1 hc
    | refine all fun v_ => ?_)
   all_goals
    refine ⟨(2, v_), by dsimp only; omega, by dsimp only; omega, VS.take (by dsimp only; exact AB) ?_⟩
    exact leD
 obtain rfl : i = 2 := by omega
 have ev : (CH d).vars.take 2 = (CH d).vars := rfl
 rw [ev]
 repeat' (first
  | exact True.intro | refine AJ ?_ | refine two ?_ ?_ | refine AG fun c_ => ?_
  | (refine imp fun hc => ?_) <;> try exact cx1 hc
  | refine all fun v_ => ?_)
 refine FQ (E := 72) (sz := 2) Ru.cells ?_
 refine AL (X := Nat × Sl) (fun y => [(1, .val (.pointer (some ⟨bd, 0, none⟩))), (2, .val (.pointer (some ⟨br, 0, none⟩))), (3, .val (.pointer (some ⟨bm, 0, none⟩))), (8, .int y.1)]) (fun y => [AF y.2.v 72 2 Ru.cells ((d.rules.take y.1).map DP), AF q.v 68 4 Vr.cells ((CH d).vars), .cells bm 25 [.val q.v, .val y.2.v], .cells br 25 [.val Sl.nil.v, .val Sl.nil.v], .cells bd 38 [.int d.s0, .int d.s1, .int d.l0, .int d.l1, .int d.i0, .int d.i1, .d (GO d.rules)]]) (fun y => y.1 ≤ d.rules.length ∧ y.1 ≤ 5) (fun y => 5 - y.1) (0, Sl.nil) ⟨Nat.zero_le _, Nat.zero_le _⟩ (VS.take (by exact AB) ?_) ?_
 · exact leD
 clear hi h0 h1
 rintro ⟨i, s⟩ ⟨hi, hi5⟩
 dsimp only at hi hi5 ⊢
 have hlen : ((d.rules.take i).map DP).length = i := by rw [List.length_map, List.length_take]; omega
 by_cases hil : i < d.rules.length
 · by_cases h5 : i < 5
   · obtain ⟨r1, r2, r3⟩ := hd.rules d.rules[i] (List.getElem_mem hil)
     have et : (d.rules.take i).map DP ++ [DP d.rules[i]] = (d.rules.take (i + 1)).map DP := by rw [List.take_succ_eq_append_getElem hil, List.map_append]; rfl
     have qv := pkb d.rules[i].var (many := 2) (by decide)
     by_cases hb : d.rules[i].both = true
     · have hR : DP d.rules[i] = ⟨Db d.rules[i].guard 2 3 0, [⟨pk d.rules[i].var 2, BZ d.rules[i].value 2 2 0⟩, ⟨1 - pk d.rules[i].var 2, [⟨2, pk d.rules[i].var 2⟩]⟩]⟩ := by unfold DP Nw; rw [if_pos hb]
       repeat' (first
        | refine ca GL (PE G d.rules[i].guard r1) ?_
        | refine Jf ?_
        | refine ca FK (LD G d.rules[i].value r3) ?_
        | ((with_reducible apply (Ar (cs := St.cells ⟨pk d.rules[i].var 2, BZ d.rules[i].value 2 2 0⟩))); (focus rfl); (focus rfl); (focus (with_reducible exact ElC.h)); (focus rfl); (focus rfl); (focus rfl); (focus rfl); (focus rfl))
        | ((with_reducible apply (Bm (f := St.cells) (u := ⟨pk d.rules[i].var 2, BZ d.rules[i].value 2 2 0⟩))); (focus rfl); (focus rfl); (focus (with_reducible exact ElC.h)); (focus exact BT); (focus rfl); (focus rfl); (focus rfl); (focus rfl); (focus exact Ad); (focus exact Ad))
        | ((with_reducible apply (Ar (cs := St.cells ⟨1 - pk d.rules[i].var 2, [⟨2, pk d.rules[i].var 2⟩]⟩))); (focus rfl); (focus rfl); (focus (with_reducible exact ElC.h)); (focus rfl); (focus rfl); (focus rfl); (focus rfl); (focus rfl))
        | ((with_reducible apply (Bm (f := St.cells) (u := ⟨1 - pk d.rules[i].var 2, [⟨2, pk d.rules[i].var 2⟩]⟩))); (focus rfl); (focus rfl); (focus (with_reducible exact ElC.h)); (focus exact BT); (focus rfl); (focus rfl); (focus rfl); (focus rfl); (focus exact Ad); (focus exact Ad))
        | exact True.intro | refine Xm ?_ | refine two ?_ ?_ | refine AG fun c_ => ?_
        | (refine imp fun hc => ?_) <;> try exact cx hc
        | refine all fun v_ => ?_)
       refine ⟨?_⟩
       obtain ⟨bR, rfl⟩ : ∃ x, x = v_ := ⟨v_, rfl⟩
       refine FQ (E := 75) (sz := 2) St.cells ?_
       refine BC [AF Sl.nil.v 75 2 St.cells ([]), .cells bR 72 [.d (AN (Db d.rules[i].guard 2 3 0)), .val Sl.nil.v]] mixed rfl (by (repeat ((with_reducible apply Hd.cons); (focus rfl))); exact Hd.nil) (by (repeat (with_reducible apply Aa)); exact len_nil) (by decide +kernel) (by (repeat (first | exact Take.nil | ((with_reducible apply Take.cons); (focus ((repeat (first | exact Sel.here | with_reducible apply Sel.there)); done))))); done) ?_
       repeat' (first
        | refine ca GL (PE G d.rules[i].guard r1) ?_
        | refine Jf ?_
        | refine ca FK (LD G d.rules[i].value r3) ?_
        | ((with_reducible apply (Ar (cs := St.cells ⟨pk d.rules[i].var 2, BZ d.rules[i].value 2 2 0⟩))); (focus rfl); (focus rfl); (focus (with_reducible exact ElC.h)); (focus rfl); (focus rfl); (focus rfl); (focus rfl); (focus rfl))
        | ((with_reducible apply (Bm (f := St.cells) (u := ⟨pk d.rules[i].var 2, BZ d.rules[i].value 2 2 0⟩))); (focus rfl); (focus rfl); (focus (with_reducible exact ElC.h)); (focus exact BT); (focus rfl); (focus rfl); (focus rfl); (focus rfl); (focus exact Ad); (focus exact Ad))
        | ((with_reducible apply (Ar (cs := St.cells ⟨1 - pk d.rules[i].var 2, [⟨2, pk d.rules[i].var 2⟩]⟩))); (focus rfl); (focus rfl); (focus (with_reducible exact ElC.h)); (focus rfl); (focus rfl); (focus rfl); (focus rfl); (focus rfl))
        | ((with_reducible apply (Bm (f := St.cells) (u := ⟨1 - pk d.rules[i].var 2, [⟨2, pk d.rules[i].var 2⟩]⟩))); (focus rfl); (focus rfl); (focus (with_reducible exact ElC.h)); (focus exact BT); (focus rfl); (focus rfl); (focus rfl); (focus rfl); (focus exact Ad); (focus exact Ad))
        | exact True.intro | refine AJ ?_ | refine two ?_ ?_ | refine AG fun c_ => ?_
        | (refine imp fun hc => ?_) <;> try exact cx1 hc
        | refine all fun v_ => ?_)
       all_goals try (first | exact absurd hc hb | (rw [hb] at hc; cases hc; done))
       all_goals
        refine FX (VS.trans (VS.take (hc := [AF v_.v 75 2 St.cells ([⟨pk d.rules[i].var 2, BZ d.rules[i].value 2 2 0⟩, ⟨1 - pk d.rules[i].var 2, [⟨2, pk d.rules[i].var 2⟩]⟩]), AF s.v 72 2 Ru.cells ((d.rules.take i).map DP), AF q.v 68 4 Vr.cells ((CH d).vars), .cells bm 25 [.val q.v, .val s.v], .cells br 25 [.val Sl.nil.v, .val Sl.nil.v], .cells bd 38 [.int d.s0, .int d.s1, .int d.l0, .int d.l1, .int d.i0, .int d.i1, .d (GO d.rules)]]) (by exact AB) (Env.le_refl _)) (Gh (h1 := []) (h' := [AF s.v 72 2 Ru.cells ((d.rules.take i).map DP), AF q.v 68 4 Vr.cells ((CH d).vars), .cells bm 25 [.val q.v, .val s.v], .cells br 25 [.val Sl.nil.v, .val Sl.nil.v], .cells bd 38 [.int d.s0, .int d.s1, .int d.l0, .int d.l1, .int d.i0, .int d.i1, .d (GO d.rules)]]) 32 rfl rfl (fun _ => rfl) (by simp only [List.length_cons, List.length_nil]; omega) (CvE.cons (t := 101) rfl (.agg (.cons (.same _) (.cons .here .nil))) (CvE.refl _ _ _)) (CvH.refl _))) ?_
        repeat' (first
         | ((with_reducible apply (Ar (cs := Ru.cells ⟨Db d.rules[i].guard 2 3 0, [⟨pk d.rules[i].var 2, BZ d.rules[i].value 2 2 0⟩, ⟨1 - pk d.rules[i].var 2, [⟨2, pk d.rules[i].var 2⟩]⟩]⟩))); (focus rfl); (focus rfl); (focus (with_reducible exact ElC.h)); (focus rfl); (focus rfl); (focus rfl); (focus rfl); (focus rfl))
         | ((with_reducible apply (Bm (f := Ru.cells) (u := ⟨Db d.rules[i].guard 2 3 0, [⟨pk d.rules[i].var 2, BZ d.rules[i].value 2 2 0⟩, ⟨1 - pk d.rules[i].var 2, [⟨2, pk d.rules[i].var 2⟩]⟩]⟩))); (focus rfl); (focus rfl); (focus (with_reducible exact ElC.h)); (focus exact BT); (focus rfl); (focus rfl); (focus rfl); (focus rfl); (focus exact Ad); (focus exact Ad))
         | exact True.intro | refine AJ ?_ | refine two ?_ ?_ | refine AG fun c_ => ?_
         | (refine imp fun hc => ?_) <;> try exact cx1 hc
         | refine all fun v_ => ?_)
        refine ⟨(i + 1, v_), by dsimp only; omega, by dsimp only; omega, VS.take (by dsimp only; rw [← et, hR]; exact AB) ?_⟩
        exact leD
     · have hR : DP d.rules[i] = ⟨Db d.rules[i].guard 2 3 0, [⟨pk d.rules[i].var 2, BZ d.rules[i].value 2 2 0⟩]⟩ := by unfold DP Nw; rw [if_neg hb]
       repeat' (first
        | refine ca GL (PE G d.rules[i].guard r1) ?_
        | refine Jf ?_
        | refine ca FK (LD G d.rules[i].value r3) ?_
        | ((with_reducible apply (Ar (cs := St.cells ⟨pk d.rules[i].var 2, BZ d.rules[i].value 2 2 0⟩))); (focus rfl); (focus rfl); (focus (with_reducible exact ElC.h)); (focus rfl); (focus rfl); (focus rfl); (focus rfl); (focus rfl))
        | ((with_reducible apply (Bm (f := St.cells) (u := ⟨pk d.rules[i].var 2, BZ d.rules[i].value 2 2 0⟩))); (focus rfl); (focus rfl); (focus (with_reducible exact ElC.h)); (focus exact BT); (focus rfl); (focus rfl); (focus rfl); (focus rfl); (focus exact Ad); (focus exact Ad))
        | ((with_reducible apply (Ar (cs := St.cells ⟨1 - pk d.rules[i].var 2, [⟨2, pk d.rules[i].var 2⟩]⟩))); (focus rfl); (focus rfl); (focus (with_reducible exact ElC.h)); (focus rfl); (focus rfl); (focus rfl); (focus rfl); (focus rfl))
        | ((with_reducible apply (Bm (f := St.cells) (u := ⟨1 - pk d.rules[i].var 2, [⟨2, pk d.rules[i].var 2⟩]⟩))); (focus rfl); (focus rfl); (focus (with_reducible exact ElC.h)); (focus exact BT); (focus rfl); (focus rfl); (focus rfl); (focus rfl); (focus exact Ad); (focus exact Ad))
        | exact True.intro | refine Xm ?_ | refine two ?_ ?_ | refine AG fun c_ => ?_
        | (refine imp fun hc => ?_) <;> try exact cx hc
        | refine all fun v_ => ?_)
       refine ⟨?_⟩
       obtain ⟨bR, rfl⟩ : ∃ x, x = v_ := ⟨v_, rfl⟩
       refine FQ (E := 75) (sz := 2) St.cells ?_
       refine BC [AF Sl.nil.v 75 2 St.cells ([]), .cells bR 72 [.d (AN (Db d.rules[i].guard 2 3 0)), .val Sl.nil.v]] mixed rfl (by (repeat ((with_reducible apply Hd.cons); (focus rfl))); exact Hd.nil) (by (repeat (with_reducible apply Aa)); exact len_nil) (by decide +kernel) (by (repeat (first | exact Take.nil | ((with_reducible apply Take.cons); (focus ((repeat (first | exact Sel.here | with_reducible apply Sel.there)); done))))); done) ?_
       repeat' (first
        | refine ca GL (PE G d.rules[i].guard r1) ?_
        | refine Jf ?_
        | refine ca FK (LD G d.rules[i].value r3) ?_
        | ((with_reducible apply (Ar (cs := St.cells ⟨pk d.rules[i].var 2, BZ d.rules[i].value 2 2 0⟩))); (focus rfl); (focus rfl); (focus (with_reducible exact ElC.h)); (focus rfl); (focus rfl); (focus rfl); (focus rfl); (focus rfl))
        | ((with_reducible apply (Bm (f := St.cells) (u := ⟨pk d.rules[i].var 2, BZ d.rules[i].value 2 2 0⟩))); (focus rfl); (focus rfl); (focus (with_reducible exact ElC.h)); (focus exact BT); (focus rfl); (focus rfl); (focus rfl); (focus rfl); (focus exact Ad); (focus exact Ad))
        | ((with_reducible apply (Ar (cs := St.cells ⟨1 - pk d.rules[i].var 2, [⟨2, pk d.rules[i].var 2⟩]⟩))); (focus rfl); (focus rfl); (focus (with_reducible exact ElC.h)); (focus rfl); (focus rfl); (focus rfl); (focus rfl); (focus rfl))
        | ((with_reducible apply (Bm (f := St.cells) (u := ⟨1 - pk d.rules[i].var 2, [⟨2, pk d.rules[i].var 2⟩]⟩))); (focus rfl); (focus rfl); (focus (with_reducible exact ElC.h)); (focus exact BT); (focus rfl); (focus rfl); (focus rfl); (focus rfl); (focus exact Ad); (focus exact Ad))
        | exact True.intro | refine AJ ?_ | refine two ?_ ?_ | refine AG fun c_ => ?_
        | (refine imp fun hc => ?_) <;> try exact cx1 hc
        | refine all fun v_ => ?_)
       all_goals try (first | exact absurd hc hb | (rw [hb] at hc; cases hc; done))
       all_goals
        refine FX (VS.trans (VS.take (hc := [AF v_.v 75 2 St.cells ([⟨pk d.rules[i].var 2, BZ d.rules[i].value 2 2 0⟩]), AF s.v 72 2 Ru.cells ((d.rules.take i).map DP), AF q.v 68 4 Vr.cells ((CH d).vars), .cells bm 25 [.val q.v, .val s.v], .cells br 25 [.val Sl.nil.v, .val Sl.nil.v], .cells bd 38 [.int d.s0, .int d.s1, .int d.l0, .int d.l1, .int d.i0, .int d.i1, .d (GO d.rules)]]) (by exact AB) (Env.le_refl _)) (Gh (h1 := []) (h' := [AF s.v 72 2 Ru.cells ((d.rules.take i).map DP), AF q.v 68 4 Vr.cells ((CH d).vars), .cells bm 25 [.val q.v, .val s.v], .cells br 25 [.val Sl.nil.v, .val Sl.nil.v], .cells bd 38 [.int d.s0, .int d.s1, .int d.l0, .int d.l1, .int d.i0, .int d.i1, .d (GO d.rules)]]) 32 rfl rfl (fun _ => rfl) (by simp only [List.length_cons, List.length_nil]; omega) (CvE.cons (t := 101) rfl (.agg (.cons (.same _) (.cons .here .nil))) (CvE.refl _ _ _)) (CvH.refl _))) ?_
        repeat' (first
         | ((with_reducible apply (Ar (cs := Ru.cells ⟨Db d.rules[i].guard 2 3 0, [⟨pk d.rules[i].var 2, BZ d.rules[i].value 2 2 0⟩]⟩))); (focus rfl); (focus rfl); (focus (with_reducible exact ElC.h)); (focus rfl); (focus rfl); (focus rfl); (focus rfl); (focus rfl))
         | ((with_reducible apply (Bm (f := Ru.cells) (u := ⟨Db d.rules[i].guard 2 3 0, [⟨pk d.rules[i].var 2, BZ d.rules[i].value 2 2 0⟩]⟩))); (focus rfl); (focus rfl); (focus (with_reducible exact ElC.h)); (focus exact BT); (focus rfl); (focus rfl); (focus rfl); (focus rfl); (focus exact Ad); (focus exact Ad))
         | exact True.intro | refine AJ ?_ | refine two ?_ ?_ | refine AG fun c_ => ?_
         | (refine imp fun hc => ?_) <;> try exact cx1 hc
         | refine all fun v_ => ?_)
        refine ⟨(i + 1, v_), by dsimp only; omega, by dsimp only; omega, VS.take (by dsimp only; rw [← et, hR]; exact AB) ?_⟩
        exact leD
   · obtain rfl : i = 5 := by omega
     have ef : (d.rules.take (5)).map DP = (CH d).rules := by
      unfold CH
      rfl
     have hrl : (CH d).rules.length ≤ 5 := by rw [← ef, hlen]; omega
     rw [ef] at hlen ⊢
     repeat' (first
      | exact True.intro | refine AJ ?_ | refine two ?_ ?_ | refine AG fun c_ => ?_
      | (refine imp fun hc => ?_) <;> try exact cx1 hc
      | refine all fun v_ => ?_)
     refine Jt (VS.trans (VS.take (hc := [AF q.v 68 4 Vr.cells ((CH d).vars), AF s.v 72 2 Ru.cells ((CH d).rules), .cells br 25 [.val q.v, .val s.v]]) (by exact AB) (Env.le_refl _)) (VS.trans (Gh (h1 := []) (h' := [AF s.v 72 2 Ru.cells ((CH d).rules), .cells br 25 [.d (Ba (CH d).vars), .val s.v]]) 40 rfl rfl (fun _ => rfl) (show (2 : Nat) * 40 ≤ _ by omega) (CvE.refl _ _ _) (.keep (.cells (.cons .here (.cons (.same _) .nil)) (.refl _)))) (Gh (h1 := []) (h' := [.cells br 25 [.d (Ba (CH d).vars), .d (BH (CH d).rules)]]) 48 rfl rfl (fun _ => rfl) (by omega) (CvE.refl _ _ _) (.cells (.cons (.same _) (.cons .here .nil)) (.refl _))))) (xs := [mdA (CH d)]) ⟨CI rfl (by (with_reducible exact ElC.h)) rfl (by exact Ai) rfl, trivial⟩ rfl (h' := []) (List.nil_sublist _) (AD rfl)
 · obtain rfl : i = d.rules.length := by omega
   have ef : (d.rules.take (d.rules.length)).map DP = (CH d).rules := by
    unfold CH
    rw [List.take_length, List.take_of_length_le hi5]
   have hrl : (CH d).rules.length ≤ 5 := by rw [← ef, hlen]; omega
   rw [ef] at hlen ⊢
   repeat' (first
    | exact True.intro | refine AJ ?_ | refine two ?_ ?_ | refine AG fun c_ => ?_
    | (refine imp fun hc => ?_) <;> try exact cx1 hc
    | refine all fun v_ => ?_)
   refine Jt (VS.trans (VS.take (hc := [AF q.v 68 4 Vr.cells ((CH d).vars), AF s.v 72 2 Ru.cells ((CH d).rules), .cells br 25 [.val q.v, .val s.v]]) (by exact AB) (Env.le_refl _)) (VS.trans (Gh (h1 := []) (h' := [AF s.v 72 2 Ru.cells ((CH d).rules), .cells br 25 [.d (Ba (CH d).vars), .val s.v]]) 40 rfl rfl (fun _ => rfl) (show (2 : Nat) * 40 ≤ _ by omega) (CvE.refl _ _ _) (.keep (.cells (.cons .here (.cons (.same _) .nil)) (.refl _)))) (Gh (h1 := []) (h' := [.cells br 25 [.d (Ba (CH d).vars), .d (BH (CH d).rules)]]) 48 rfl rfl (fun _ => rfl) (by omega) (CvE.refl _ _ _) (.cells (.cons (.same _) (.cons .here .nil)) (.refl _))))) (xs := [mdA (CH d)]) ⟨CI rfl (by (with_reducible exact ElC.h)) rfl (by exact Ai) rfl, trivial⟩ rfl (h' := []) (List.nil_sublist _) (AD rfl)
end Go.Proofs.YtajnpfgelpkijaaGreatDoor
