/- A bundle of this claim's own texts: V8 G2. -/
import Derived.Test.YtcikppldaepodaaZ1
import Derived.Test.YtcikppldaepodaaZ2
import Derived.Test.YtcikppldaepodaaZ3
import Derived.Test.YtcikppldaepodaaZ4
import Derived.Test.YtcikppldaepodaaZ8
namespace Go.Proofs.Ytcikppldaepodaa
open Go Go.Av Go.Sp
set_option linter.unusedVariables false
set_option linter.unusedSimpArgs false
set_option maxRecDepth 100000
set_option maxHeartbeats 4000000

theorem cal_turnedGraph : Cal Try.prog 59 := Cal.of Try.func59 (by kernel_rfl) (by kernel_rfl)
theorem cal_PartsOfGraph : Cal Try.prog 34 := Cal.of Try.func34 (by kernel_rfl) (by kernel_rfl)
theorem nested_flat : ∀ ls : List (List Nat), ([] ++ ls.map fun l => AV.d (.l 1 8 (l.map natC))) = ((ls.map natLC).flatten).map D.av
  | [] => rfl
  | l :: ls => by
    have := nested_flat ls
    simp only [List.nil_append] at this
    simp [natLC, D.av, this]
theorem turnedGraph (G : List (Nat × List D)) (g : Gn) (hok : g.ok) (hw : g.ways g.next.length ≤ 1048576) :
    AC Try.prog G 59 [gnA g] [] fun r h => ∃ v : {ls : List (List Nat) // Turned g (g.back ls)}, r = .ret (gnA (g.back v.1)) ∧ h = [] := by
  refine AC.factN (g := natLC) (f := natC) (xss := g.next) 1 8 (fun _ => rfl) (.agg (.there (.there .here))) fun hN => ?_
  refine AC_ofR (rs := [.cell 2 26]) Try.f59.ntmps Try.func59 rfl rfl rfl (by simp [Try.ntmps59]) fun W I => ?_
  have hs := hok.size
  have hnl := hok.next
  all_goals haveI fA_ : FlagA := ⟨⟩
  all_goals haveI fH_ : FlagH := ⟨⟩
  all_goals haveI fS_ : StopAt 2 := ⟨⟩
  repeat' (first
    | exact True.intro
    | refine stp ?_
    | refine two ?_ ?_
    | refine allc fun c_ => ?_
    | (refine imp fun hc => ?_) <;> try (first | contradiction | (exfalso; omega))
    | refine all fun v_ => ?_)
  all_goals clear fA_ fH_ fS_
  refine ⟨?_⟩
  rename_i bg
  rename Nat => bt
  refine J_cutT (X := Nat × Nat) (fun y => [(1, .val (.pointer (some ⟨bg, 0, none⟩))), (2, .val (.pointer (some ⟨bt, 0, none⟩))), (3, .val (.pointer (some ⟨y.1, 0, none⟩)))]) (fun ⟨bo, bn⟩ => [.cells bo 26 [.d (opsD g.spots), .int 0, .val (.slice (some ⟨bn, 0, none⟩) g.spots.length g.spots.length), .val (.slice none 0 0), .int 0], .cells bn 24 ((List.replicate g.spots.length Sl.nil).map fun q : Sl => .val q.v), .cells bg 26 [.d (opsD g.spots), .int g.init, .d (natLD g.next), .d (natsD g.sets), .int g.many], .cells bt 26 [.val (.slice none 0 0), .int 0, .val (.slice none 0 0), .val (.slice none 0 0), .int 0]]) ?_ ?_
  · all_goals haveI fA_ : FlagA := ⟨⟩
    all_goals haveI fH_ : FlagH := ⟨⟩
    repeat' (first
      | ((with_reducible apply (jmk (fun q : Sl => .val q.v) Sl.nil)); (focus rfl); (focus rfl); (focus (with_reducible exact ElC.h)); (focus rfl); (focus rfl); (focus omega); (focus omega); (focus rfl))
      | exact True.intro
      | refine stp ?_
      | refine two ?_ ?_
      | refine allc fun c_ => ?_
      | (refine imp fun hc => ?_) <;> try (first | contradiction | (exfalso; omega) | (exfalso; exact absurd (of_dT hc) (by assumption)) | (exfalso; exact of_dF hc (by assumption)))
      | refine all fun v_ => ?_)
    all_goals clear fA_ fH_
    all_goals
      refine ⟨(_, _), VS.take (by ((repeat (first | exact Take.nil | ((with_reducible apply Take.cons); (focus ((repeat (first | exact Sel.here | with_reducible apply Sel.there)); done))))); done)) ?_⟩
      repeat (first
        | exact Env.le_nil _
        | refine Env.le_cons (AV.le_refl _) ?_
        | refine Env.le_cons (AV.le_int rfl (by first | rfl | omega | (dsimp only; omega))) ?_)
  rintro ⟨bo, bn⟩
  dsimp only
  refine J_vs (VS.rows0 3 1 natC g.spots.length _) ?_
  all_goals haveI fA_ : FlagA := ⟨⟩
  all_goals haveI fH_ : FlagH := ⟨⟩
  all_goals haveI fS_ : StopAt 2 := ⟨⟩
  repeat' (first
    | exact True.intro
    | refine stp ?_
    | refine two ?_ ?_
    | refine allc fun c_ => ?_
    | (refine imp fun hc => ?_) <;> try (first | contradiction | (exfalso; omega))
    | refine all fun v_ => ?_)
  all_goals clear fA_ fH_ fS_
  refine J_loopV (X := List Sl × List (List Nat) × Nat) (fun y => [(1, .val (.pointer (some ⟨bg, 0, none⟩))), (2, .val (.pointer (some ⟨bt, 0, none⟩))), (3, .val (.pointer (some ⟨bo, 0, none⟩))), (4, .int y.2.2)]) (fun y => [.cells bo 26 [.d (opsD g.spots), .int 0, .val (.slice (some ⟨bn, 0, none⟩) g.spots.length g.spots.length), .val (.slice none 0 0), .int 0], .cells bn 24 (y.1.map fun q : Sl => .val q.v), .cells bg 26 [.d (opsD g.spots), .int g.init, .d (natLD g.next), .d (natsD g.sets), .int g.many], .cells bt 26 [.val (.slice none 0 0), .int 0, .val (.slice none 0 0), .val (.slice none 0 0), .int 0]] ++ rowsE 3 1 natC y.1 y.2.1) (fun y => y.2.2 ≤ g.spots.length ∧ y.1.length = g.spots.length ∧ TuI g y.2.2 0 y.2.1) (fun y => g.spots.length - y.2.2) (List.replicate g.spots.length Sl.nil, List.replicate g.spots.length [], 0) ⟨Nat.zero_le _, by simp, TuI.start g⟩ (VS.of_le ?_) ?_
  · repeat (first
      | exact Env.le_nil _
      | refine Env.le_cons (AV.le_refl _) ?_
      | refine Env.le_cons (AV.le_int rfl (by first | rfl | omega | (dsimp only; omega))) ?_)
  rintro ⟨qs, ls, i⟩ ⟨h1, h2, t⟩
  dsimp only [List.cons_append, List.nil_append] at h1 h2 t ⊢
  by_cases hi : i < g.spots.length
  · have hin : i < g.next.length := by omega
    have hnx := g.nx_get i hin
    have hlj := hN (g.next[i]'(by omega)) (List.getElem_mem _)
    all_goals haveI fA_ : FlagA := ⟨⟩
    all_goals haveI fH_ : FlagH := ⟨⟩
    all_goals haveI fS_ : StopAt 2 := ⟨⟩
    repeat' (first
      | exact True.intro
      | refine stp ?_
      | refine two ?_ ?_
      | refine allc fun c_ => ?_
      | (refine imp fun hc => ?_) <;> try (first | contradiction | (exfalso; omega))
      | refine all fun v_ => ?_)
    all_goals clear fA_ fH_ fS_
    refine J_loopV (X := List Sl × List (List Nat) × Nat) (fun y => [(1, .val (.pointer (some ⟨bg, 0, none⟩))), (2, .val (.pointer (some ⟨bt, 0, none⟩))), (3, .val (.pointer (some ⟨bo, 0, none⟩))), (4, .int i), (5, .int y.2.2)]) (fun y => [.cells bo 26 [.d (opsD g.spots), .int 0, .val (.slice (some ⟨bn, 0, none⟩) g.spots.length g.spots.length), .val (.slice none 0 0), .int 0], .cells bn 24 (y.1.map fun q : Sl => .val q.v), .cells bg 26 [.d (opsD g.spots), .int g.init, .d (natLD g.next), .d (natsD g.sets), .int g.many], .cells bt 26 [.val (.slice none 0 0), .int 0, .val (.slice none 0 0), .val (.slice none 0 0), .int 0]] ++ rowsE 3 1 natC y.1 y.2.1) (fun y => y.2.2 ≤ (g.next[i]'(by omega)).length ∧ y.1.length = g.spots.length ∧ TuI g i y.2.2 y.2.1) (fun y => (g.next[i]'(by omega)).length - y.2.2) (qs, ls, 0) ⟨Nat.zero_le _, h2, t⟩ (VS.of_le ?_) ?_
    · repeat (first
        | exact Env.le_nil _
        | refine Env.le_cons (AV.le_refl _) ?_
        | refine Env.le_cons (AV.le_int rfl (by first | rfl | omega | (dsimp only; omega))) ?_)
    clear h2 t
    rintro ⟨qs, ls, k⟩ ⟨k1, h2, t⟩
    dsimp only [List.cons_append, List.nil_append] at k1 h2 t ⊢
    have hll := t.len
    by_cases hk : k < (g.next[i]'(by omega)).length
    · have hk' : k < (g.nx i).length := by rw [hnx]; exact hk
      have hto := g.nx_lt hok i _ (List.getElem_mem hk')
      have hke : (g.nx i)[k] = (g.next[i]'(by omega))[k] := by simp only [hnx]
      have t2 := t.step hk' (by omega)
      have hfew : (ls[(g.nx i)[k]]'(by omega)).length ≤ 2097152 := by
        have := t.few _ (List.getElem_mem (show (g.nx i)[k] < ls.length by omega))
        have h1 := g.ways_le (i + 1)
        rw [g.ways_succ i hin] at h1
        omega
      simp only [hke] at t2 hto hfew
      refine J_vs (VS.pickR [.cells bo 26 [.d (opsD g.spots), .int 0, .val (.slice (some ⟨bn, 0, none⟩) g.spots.length g.spots.length), .val (.slice none 0 0), .int 0], .cells bn 24 (qs.map fun q : Sl => .val q.v), .cells bg 26 [.d (opsD g.spots), .int g.init, .d (natLD g.next), .d (natsD g.sets), .int g.many], .cells bt 26 [.val (.slice none 0 0), .int 0, .val (.slice none 0 0), .val (.slice none 0 0), .int 0]] ((g.next[i]'(by omega))[k]) (by omega) (by omega)) ?_
      dsimp only [List.cons_append, List.nil_append]
      all_goals haveI fA_ : FlagA := ⟨⟩
      all_goals haveI fH_ : FlagH := ⟨⟩
      all_goals haveI fS_ : StopAt 2 := ⟨⟩
      repeat' (first
        | exact True.intro
        | refine stp ?_
        | refine two ?_ ?_
        | refine allc fun c_ => ?_
        | (refine imp fun hc => ?_) <;> try (first | contradiction | (exfalso; omega))
        | refine all fun v_ => ?_)
      all_goals clear fA_ fH_ fS_
      refine ⟨?_⟩
      refine J_region_HB [rowE (qs[(g.next[i]'(by omega))[k]]'(by omega)).v 3 1 natC (ls[(g.next[i]'(by omega))[k]]'(by omega))] mixed rfl (by (repeat ((with_reducible apply Hd.cons); (focus rfl))); exact Hd.nil) (by (repeat (with_reducible apply len_cons)); exact len_nil) (by decide +kernel) (by ((repeat (first | with_reducible exact Take.nil | ((with_reducible apply Take.cons); (focus ((repeat (first | with_reducible exact Sel.here | with_reducible apply Sel.there)); done))))); done)) ?_
      all_goals haveI fA_ : FlagA := ⟨⟩
      all_goals haveI fH_ : FlagH := ⟨⟩
      repeat' (first
        | exact True.intro
        | refine stp ?_
        | refine two ?_ ?_
        | refine allc fun c_ => ?_
        | (refine imp fun hc => ?_) <;> try (first | contradiction | (exfalso; omega) | (exfalso; exact absurd (of_dT hc) (by assumption)) | (exfalso; exact of_dF hc (by assumption)))
        | refine all fun v_ => ?_)
      all_goals clear fA_ fH_
      refine ⟨(qs.set ((g.next[i]'(by omega))[k]) v_, ls.set ((g.next[i]'(by omega))[k]) ((ls[(g.next[i]'(by omega))[k]]'(by omega)) ++ [i]), k + 1), ⟨by dsimp only; omega, by simp [h2], t2⟩, by dsimp only; omega, VS.trans (VS.putR [.cells bo 26 [.d (opsD g.spots), .int 0, .val (.slice (some ⟨bn, 0, none⟩) g.spots.length g.spots.length), .val (.slice none 0 0), .int 0], .cells bn 24 ((qs.set ((g.next[i]'(by omega))[k]) v_).map fun q : Sl => .val q.v), .cells bg 26 [.d (opsD g.spots), .int g.init, .d (natLD g.next), .d (natsD g.sets), .int g.many], .cells bt 26 [.val (.slice none 0 0), .int 0, .val (.slice none 0 0), .val (.slice none 0 0), .int 0]] ((g.next[i]'(by omega))[k]) v_ _ (by omega) (by omega)) (VS.of_le ?_)⟩
      repeat (first
        | exact Env.le_nil _
        | refine Env.le_cons (AV.le_refl _) ?_
        | refine Env.le_cons (AV.le_int rfl (by first | rfl | omega | (dsimp only; omega))) ?_)
    all_goals haveI fA_ : FlagA := ⟨⟩
    all_goals haveI fH_ : FlagH := ⟨⟩
    all_goals haveI fS_ : StopAt 2 := ⟨⟩
    repeat' (first
      | exact True.intro
      | refine stp ?_
      | refine two ?_ ?_
      | refine allc fun c_ => ?_
      | (refine imp fun hc => ?_) <;> try (first | contradiction | (exfalso; omega))
      | refine all fun v_ => ?_)
    all_goals clear fA_ fH_ fS_
    have ek : k = (g.nx i).length := by rw [hnx]; omega
    subst ek
    refine ⟨(qs, ls, i + 1), ⟨by dsimp only; omega, h2, t.done hin⟩, by dsimp only; omega, VS.of_le ?_⟩
    repeat (first
      | exact Env.le_nil _
      | refine Env.le_cons (AV.le_refl _) ?_
      | refine Env.le_cons (AV.le_int rfl (by first | rfl | omega | (dsimp only; omega))) ?_)
  obtain rfl : i = g.spots.length := by omega
  rw [← hnl] at t
  have hll := t.len
  have htd := t.turned hok
  refine J_vs (VS.frzR (b := bn) (T := 24) (E := 3) (sz := 1) (f := natC) 8 rfl (fun _ => rfl) [.cells bo 26 [.d (opsD g.spots), .int 0, .val (.slice (some ⟨bn, 0, none⟩) g.spots.length g.spots.length), .val (.slice none 0 0), .int 0]] [.cells bg 26 [.d (opsD g.spots), .int g.init, .d (natLD g.next), .d (natsD g.sets), .int g.many], .cells bt 26 [.val (.slice none 0 0), .int 0, .val (.slice none 0 0), .val (.slice none 0 0), .int 0]] qs ls [] (by omega) (fun l hl => by have := t.few l hl; omega)) ?_
  refine J_vs (vdatC (f := natLC) (h1 := [.cells bo 26 [.d (opsD g.spots), .int 0, .val (.slice (some ⟨bn, 0, none⟩) g.spots.length g.spots.length), .val (.slice none 0 0), .int 0]]) (h2 := [.cells bg 26 [.d (opsD g.spots), .int g.init, .d (natLD g.next), .d (natsD g.sets), .int g.many], .cells bt 26 [.val (.slice none 0 0), .int 0, .val (.slice none 0 0), .val (.slice none 0 0), .int 0]]) (xs := ls) (n := g.spots.length) (h' := [.cells bo 26 [.d (opsD g.spots), .int 0, .d (natLD ls), .val (.slice none 0 0), .int 0], .cells bg 26 [.d (opsD g.spots), .int g.init, .d (natLD g.next), .d (natsD g.sets), .int g.many], .cells bt 26 [.val (.slice none 0 0), .int 0, .val (.slice none 0 0), .val (.slice none 0 0), .int 0]]) 24 rfl rfl (nested_flat ls) (by omega) (fun _ => rfl) (by omega) (by omega) (CvE.refl _ _ _) (CvH.cells (.cons (.same _) (.cons (.same _) (.cons .here (Cvs.refl _ _ _)))) (.refl _))) ?_
  all_goals haveI fA_ : FlagA := ⟨⟩
  all_goals haveI fH_ : FlagH := ⟨⟩
  all_goals haveI fS_ : StopAt 2 := ⟨⟩
  repeat' (first
    | exact True.intro
    | refine stp ?_
    | refine two ?_ ?_
    | refine allc fun c_ => ?_
    | (refine imp fun hc => ?_) <;> try (first | contradiction | (exfalso; omega))
    | refine all fun v_ => ?_)
  all_goals clear fA_ fH_ fS_
  exact retrl (xs := [.agg [.d (opsD g.spots), .int 0, .d (natLD ls), .val (.slice none 0 0), .int 0]]) (ys := [gnA (g.back ls)]) vid ⟨rv_agg rfl (by (with_reducible exact ElC.h)) rfl (by ((repeat (first | exact List.mem_cons_self | apply List.mem_cons_of_mem)); done)) rfl, trivial⟩ ⟨AV.le_agg ⟨AV.le_refl _, AV.le_refl _, AV.le_refl _, AV.le_nil 1 8, AV.le_refl _, trivial⟩, trivial⟩ rfl (h' := []) (List.nil_sublist _) ⟨⟨ls, htd⟩, rfl, rfl⟩
abbrev both (g : Gn) (i v : Nat) : Prop := Rch g.nx i v ∧ Rch g.nx v i
theorem PartsOfGraph (G : List (Nat × List D)) (g : Gr) (hw : ∀ g' : Gn, g'.gr = g → g'.ways g'.next.length ≤ 1048576) : ACr Try.prog G 34 [grA g] (.tup [.d (intsD (partsOf g).1), .int (partsOf g).2]) := by
  refine AC_ofV (ts := [2, 3]) Try.f34.ntmps Try.func34 rfl rfl rfl (by simp [Try.ntmps34]) fun W I => ?_
  have E := GraphFault G g
  by_cases hk : ¬ okG g
  · have e : graphF g = 9 := if_neg hk
    rw [e] at E
    all_goals haveI fA_ : FlagA := ⟨⟩
    all_goals haveI fH_ : FlagH := ⟨⟩
    repeat' (first
      | ((with_reducible apply call0); (focus rfl); (focus exact cal_GraphFault); (focus exact E); (focus rfl))
      | ((with_reducible apply je_call0); (focus rfl); (focus (decide +kernel)); (focus rfl); (focus exact cal_GraphFault); (focus exact E); (focus rfl))
      | exact True.intro
      | refine stp ?_
      | refine two ?_ ?_
      | refine allc fun c_ => ?_
      | (refine imp fun hc => ?_) <;> try (first | contradiction | (exfalso; omega) | (exfalso; exact absurd (of_dT hc) (by assumption)) | (exfalso; exact of_dF hc (by assumption)))
      | refine all fun v_ => ?_)
    all_goals clear fA_ fH_
    refine retv (VS.trans (VS.drop (List.nil_sublist _)) (vnil (t := 2) 1 8 rfl)) ?_
    ((with_reducible apply rq2); rfl; rfl; rfl)
    exact ret_eq (by rw [partsOf_no hk]; rfl)
  obtain ⟨g, rfl, hok⟩ := okG_nat (Decidable.not_not.1 hk)
  rw [graphF_ok (Gn.ok_gr hok)] at E
  rw [gnA_eq] at E ⊢
  clear hk
  have hs := hok.size
  have hnl := hok.next
  have ET := turnedGraph G g hok (hw g rfl)
  all_goals haveI fA_ : FlagA := ⟨⟩
  all_goals haveI fH_ : FlagH := ⟨⟩
  repeat' (first
    | ((with_reducible apply call0); (focus rfl); (focus exact cal_GraphFault); (focus exact E); (focus rfl))
    | ((with_reducible apply je_call0); (focus rfl); (focus (decide +kernel)); (focus rfl); (focus exact cal_GraphFault); (focus exact E); (focus rfl))
    | ((with_reducible apply callGV); (focus rfl); (focus rfl); (focus exact cal_turnedGraph); (focus exact ET); (focus ((repeat (first | with_reducible exact Take.nil | ((with_reducible apply Take.cons); (focus ((repeat (first | with_reducible exact Sel.here | with_reducible apply Sel.there)); done))))); done)); (focus rfl); (focus (intro v_; (repeat (first | exact App.nil | apply App.cons)); done)))
    | ((with_reducible apply callG); (focus rfl); (focus exact cal_turnedGraph); (focus exact ET); (focus ((repeat (first | with_reducible exact Take.nil | ((with_reducible apply Take.cons); (focus ((repeat (first | with_reducible exact Sel.here | with_reducible apply Sel.there)); done))))); done)); (focus rfl); (focus (intro v_; (repeat (first | exact App.nil | apply App.cons)); done)))
    | exact True.intro
    | refine stp ?_
    | refine two ?_ ?_
    | refine allc fun c_ => ?_
    | (refine imp fun hc => ?_) <;> try (first | contradiction | (exfalso; omega) | (exfalso; exact absurd (of_dT hc) (by assumption)) | (exfalso; exact of_dF hc (by assumption)))
    | refine all fun v_ => ?_)
  all_goals clear fA_ fH_
  rename_i bg tv bb
  obtain ⟨ls, td⟩ := tv
  dsimp only at *
  have tlt := td.lt hok
  have tln : (g.back ls).next.length = (g.back ls).spots.length := td.len
  refine J_loopV (X := List Int × Nat) (fun y => [(1, .val (.pointer (some ⟨bg, 0, none⟩))), (5, .val (.pointer (some ⟨bb, 0, none⟩))), (6, .val (.slice (some ⟨v_, 0, none⟩) g.spots.length g.spots.length)), (7, .int y.2)]) (fun y => [.cells v_ 3 (y.1.map AV.int), .cells bb 26 [.d (opsD (g.back ls).spots), .int (g.back ls).init, .d (natLD (g.back ls).next), .d (natsD (g.back ls).sets), .int (g.back ls).many], .cells bg 26 [.d (opsD g.spots), .int g.init, .d (natLD g.next), .d (natsD g.sets), .int g.many]]) (fun y => y.2 ≤ g.spots.length ∧ y.1.length = g.spots.length ∧ ∀ j, j < y.2 → gi y.1 j = -1) (fun y => g.spots.length - y.2) (List.replicate g.spots.length 0, 0) ⟨Nat.zero_le _, by simp, fun j h => absurd h (Nat.not_lt_zero j)⟩ (VS.of_le ?_) ?_
  · repeat (first
      | exact Env.le_nil _
      | refine Env.le_cons (AV.le_refl _) ?_
      | refine Env.le_cons (AV.le_int rfl (by first | rfl | omega | (dsimp only; omega))) ?_)
  rintro ⟨pt, i⟩ ⟨h1, h2, h3⟩
  dsimp only at h1 h2 h3 ⊢
  by_cases hi : i < g.spots.length
  · all_goals haveI fA_ : FlagA := ⟨⟩
    all_goals haveI fH_ : FlagH := ⟨⟩
    repeat' (first
      | ((with_reducible apply call0); (focus rfl); (focus exact cal_GraphFault); (focus exact E); (focus rfl))
      | ((with_reducible apply je_call0); (focus rfl); (focus (decide +kernel)); (focus rfl); (focus exact cal_GraphFault); (focus exact E); (focus rfl))
      | ((with_reducible apply callGV); (focus rfl); (focus rfl); (focus exact cal_turnedGraph); (focus exact ET); (focus ((repeat (first | with_reducible exact Take.nil | ((with_reducible apply Take.cons); (focus ((repeat (first | with_reducible exact Sel.here | with_reducible apply Sel.there)); done))))); done)); (focus rfl); (focus (intro v_; (repeat (first | exact App.nil | apply App.cons)); done)))
      | ((with_reducible apply callG); (focus rfl); (focus exact cal_turnedGraph); (focus exact ET); (focus ((repeat (first | with_reducible exact Take.nil | ((with_reducible apply Take.cons); (focus ((repeat (first | with_reducible exact Sel.here | with_reducible apply Sel.there)); done))))); done)); (focus rfl); (focus (intro v_; (repeat (first | exact App.nil | apply App.cons)); done)))
      | exact True.intro
      | refine stp ?_
      | refine two ?_ ?_
      | refine allc fun c_ => ?_
      | (refine imp fun hc => ?_) <;> try (first | contradiction | (exfalso; omega) | (exfalso; exact absurd (of_dT hc) (by assumption)) | (exfalso; exact of_dF hc (by assumption)))
      | refine all fun v_ => ?_)
    all_goals clear fA_ fH_
    refine ⟨(pt.set i (-1), i + 1), ⟨by dsimp only; omega, by simp [h2], fun j hj => ?_⟩, by dsimp only; omega, VS.of_le ?_⟩
    · dsimp only at hj ⊢
      rw [gi_set _ _ _ _ (by omega)]
      split
      · rfl
      · exact h3 j (by omega)
    · repeat (first
        | exact Env.le_nil _
        | refine Env.le_cons (AV.le_refl _) ?_
        | refine Env.le_cons (AV.le_int rfl (by first | rfl | omega | (dsimp only; omega))) ?_)
  obtain rfl : i = g.spots.length := by omega
  obtain rfl : pt = List.replicate g.spots.length (-1) := by
    apply List.ext_getElem
    · simp [h2]
    · intro j a b
      have := h3 j (by omega)
      rw [gi_get _ _ a] at this
      simp [this]
  clear h1 h2 h3 hi
  all_goals haveI fA_ : FlagA := ⟨⟩
  all_goals haveI fH_ : FlagH := ⟨⟩
  repeat' (first
    | ((with_reducible apply call0); (focus rfl); (focus exact cal_GraphFault); (focus exact E); (focus rfl))
    | ((with_reducible apply je_call0); (focus rfl); (focus (decide +kernel)); (focus rfl); (focus exact cal_GraphFault); (focus exact E); (focus rfl))
    | ((with_reducible apply callGV); (focus rfl); (focus rfl); (focus exact cal_turnedGraph); (focus exact ET); (focus ((repeat (first | with_reducible exact Take.nil | ((with_reducible apply Take.cons); (focus ((repeat (first | with_reducible exact Sel.here | with_reducible apply Sel.there)); done))))); done)); (focus rfl); (focus (intro v_; (repeat (first | exact App.nil | apply App.cons)); done)))
    | ((with_reducible apply callG); (focus rfl); (focus exact cal_turnedGraph); (focus exact ET); (focus ((repeat (first | with_reducible exact Take.nil | ((with_reducible apply Take.cons); (focus ((repeat (first | with_reducible exact Sel.here | with_reducible apply Sel.there)); done))))); done)); (focus rfl); (focus (intro v_; (repeat (first | exact App.nil | apply App.cons)); done)))
    | exact True.intro
    | refine stp ?_
    | refine two ?_ ?_
    | refine allc fun c_ => ?_
    | (refine imp fun hc => ?_) <;> try (first | contradiction | (exfalso; omega) | (exfalso; exact absurd (of_dT hc) (by assumption)) | (exfalso; exact of_dF hc (by assumption)))
    | refine all fun v_ => ?_)
  all_goals clear fA_ fH_
  refine J_loopV (X := List Int × Nat) (fun y => [(1, .val (.pointer (some ⟨bg, 0, none⟩))), (5, .val (.pointer (some ⟨bb, 0, none⟩))), (6, .val (.slice (some ⟨v_, 0, none⟩) g.spots.length g.spots.length)), (8, .int y.2)]) (fun y => [.cells v_ 3 (y.1.map AV.int), .cells bb 26 [.d (opsD (g.back ls).spots), .int (g.back ls).init, .d (natLD (g.back ls).next), .d (natsD (g.back ls).sets), .int (g.back ls).many], .cells bg 26 [.d (opsD g.spots), .int g.init, .d (natLD g.next), .d (natsD g.sets), .int g.many]]) (fun y => y.2 ≤ g.spots.length ∧ PaI g y.2 y.1) (fun y => g.spots.length - y.2) (List.replicate g.spots.length (-1), 0) ⟨Nat.zero_le _, PaI.start g⟩ (VS.of_le ?_) ?_
  · repeat (first
      | exact Env.le_nil _
      | refine Env.le_cons (AV.le_refl _) ?_
      | refine Env.le_cons (AV.le_int rfl (by first | rfl | omega | (dsimp only; omega))) ?_)
  rintro ⟨pt, i⟩ ⟨h1, t⟩
  dsimp only at h1 t ⊢
  have hpl := t.1
  by_cases hi : ¬ i < g.spots.length
  · obtain rfl : i = g.spots.length := by omega
    have e := t.all
    all_goals haveI fA_ : FlagA := ⟨⟩
    all_goals haveI fH_ : FlagH := ⟨⟩
    repeat' (first
      | ((with_reducible apply call0); (focus rfl); (focus exact cal_GraphFault); (focus exact E); (focus rfl))
      | ((with_reducible apply je_call0); (focus rfl); (focus (decide +kernel)); (focus rfl); (focus exact cal_GraphFault); (focus exact E); (focus rfl))
      | ((with_reducible apply callGV); (focus rfl); (focus rfl); (focus exact cal_turnedGraph); (focus exact ET); (focus ((repeat (first | with_reducible exact Take.nil | ((with_reducible apply Take.cons); (focus ((repeat (first | with_reducible exact Sel.here | with_reducible apply Sel.there)); done))))); done)); (focus rfl); (focus (intro v_; (repeat (first | exact App.nil | apply App.cons)); done)))
      | ((with_reducible apply callG); (focus rfl); (focus exact cal_turnedGraph); (focus exact ET); (focus ((repeat (first | with_reducible exact Take.nil | ((with_reducible apply Take.cons); (focus ((repeat (first | with_reducible exact Sel.here | with_reducible apply Sel.there)); done))))); done)); (focus rfl); (focus (intro v_; (repeat (first | exact App.nil | apply App.cons)); done)))
      | exact True.intro
      | refine stp ?_
      | refine two ?_ ?_
      | refine allc fun c_ => ?_
      | (refine imp fun hc => ?_) <;> try (first | contradiction | (exfalso; omega) | (exfalso; exact absurd (of_dT hc) (by assumption)) | (exfalso; exact of_dF hc (by assumption)))
      | refine all fun v_ => ?_)
    all_goals clear fA_ fH_
    refine retv (VS.trans (VS.drop (h' := [.cells v_ 3 (pt.map AV.int)]) (by (repeat (first | exact List.nil_sublist _ | (with_reducible apply List.Sublist.cons_cons) | apply List.Sublist.cons)))) (vfz (t := 2) (f := intC) (h1 := []) 1 8 rfl rfl rfl (ints_flat pt) hpl (fun _ => rfl) (by omega) (by omega))) ?_
    ((with_reducible apply rq2); rfl; rfl; rfl)
    exact ret_eq (by rw [partsOf_ok hok, e])
  replace hi := Decidable.not_not.1 hi
  have hgi : gi pt i = pt[i]'(by omega) := gi_get _ _ _
  by_cases h0 : 0 ≤ pt[i]'(by omega)
  · have t' := t.old hi (by rw [hgi]; exact h0)
    all_goals haveI fA_ : FlagA := ⟨⟩
    all_goals haveI fH_ : FlagH := ⟨⟩
    repeat' (first
      | ((with_reducible apply call0); (focus rfl); (focus exact cal_GraphFault); (focus exact E); (focus rfl))
      | ((with_reducible apply je_call0); (focus rfl); (focus (decide +kernel)); (focus rfl); (focus exact cal_GraphFault); (focus exact E); (focus rfl))
      | ((with_reducible apply callGV); (focus rfl); (focus rfl); (focus exact cal_turnedGraph); (focus exact ET); (focus ((repeat (first | with_reducible exact Take.nil | ((with_reducible apply Take.cons); (focus ((repeat (first | with_reducible exact Sel.here | with_reducible apply Sel.there)); done))))); done)); (focus rfl); (focus (intro v_; (repeat (first | exact App.nil | apply App.cons)); done)))
      | ((with_reducible apply callG); (focus rfl); (focus exact cal_turnedGraph); (focus exact ET); (focus ((repeat (first | with_reducible exact Take.nil | ((with_reducible apply Take.cons); (focus ((repeat (first | with_reducible exact Sel.here | with_reducible apply Sel.there)); done))))); done)); (focus rfl); (focus (intro v_; (repeat (first | exact App.nil | apply App.cons)); done)))
      | exact True.intro
      | refine stp ?_
      | refine two ?_ ?_
      | refine allc fun c_ => ?_
      | (refine imp fun hc => ?_) <;> try (first | contradiction | (exfalso; omega) | (exfalso; exact absurd (of_dT hc) (by assumption)) | (exfalso; exact of_dF hc (by assumption)))
      | refine all fun v_ => ?_)
    all_goals clear fA_ fH_
    refine ⟨(pt, i + 1), ⟨by dsimp only; omega, t'⟩, by dsimp only; omega, VS.of_le ?_⟩
    repeat (first
      | exact Env.le_nil _
      | refine Env.le_cons (AV.le_refl _) ?_
      | refine Env.le_cons (AV.le_int rfl (by first | rfl | omega | (dsimp only; omega))) ?_)
  have hone : ∀ j ∈ [i], j < g.spots.length := fun j hj => by simp at hj; omega
  have E1 := reachedFrom G g [i] hnl (fun i => g.nx_lt hok i) hone hs
  have E2 := reachedFrom G (g.back ls) [i] tln tlt hone hs
  have f1 : ∀ k (h : k < (fromL g.nx g.spots.length [i]).length), (fromL g.nx g.spots.length [i])[k] = true ↔ Rch g.nx i k := fun k h => by
    rw [← bi_get _ _ h, from_one (by simpa [fromL] using h)]; simp
  have f2 : ∀ k (h : k < (fromL (g.back ls).nx (g.back ls).spots.length [i]).length), (fromL (g.back ls).nx (g.back ls).spots.length [i])[k] = true ↔ Rch g.nx k i := fun k h => by
    rw [← bi_get _ _ h, from_one (by simpa [fromL] using h), ← td.rch]; simp
  have l1 : (fromL g.nx g.spots.length [i]).length = g.spots.length := by simp [fromL]
  have l2 : (fromL (g.back ls).nx (g.back ls).spots.length [i]).length = g.spots.length := by simp [fromL, Gn.back]
  generalize fromL g.nx g.spots.length [i] = la at E1 f1 l1
  generalize fromL (g.back ls).nx (g.back ls).spots.length [i] = lb at E2 f2 l2
  all_goals haveI fA_ : FlagA := ⟨⟩
  all_goals haveI fH_ : FlagH := ⟨⟩
  repeat' (first
    | ((with_reducible apply call0); (focus rfl); (focus exact cal_reachedFrom); (focus exact E1); (focus rfl))
    | ((with_reducible apply je_call0); (focus rfl); (focus (decide +kernel)); (focus rfl); (focus exact cal_reachedFrom); (focus exact E1); (focus rfl))
    | ((with_reducible apply call0); (focus rfl); (focus exact cal_reachedFrom); (focus exact E2); (focus rfl))
    | ((with_reducible apply je_call0); (focus rfl); (focus (decide +kernel)); (focus rfl); (focus exact cal_reachedFrom); (focus exact E2); (focus rfl))
    | exact True.intro
    | refine stp ?_
    | refine two ?_ ?_
    | refine allc fun c_ => ?_
    | (refine imp fun hc => ?_) <;> try (first | contradiction | (exfalso; omega) | (exfalso; exact absurd (of_dT hc) (by assumption)) | (exfalso; exact of_dF hc (by assumption)))
    | refine all fun v_ => ?_)
  all_goals clear fA_ fH_
  refine J_loopV (X := List Int × Nat) (fun y => [(1, .val (.pointer (some ⟨bg, 0, none⟩))), (5, .val (.pointer (some ⟨bb, 0, none⟩))), (6, .val (.slice (some ⟨v_, 0, none⟩) g.spots.length g.spots.length)), (8, .int i), (9, .d (boolsD la)), (10, .d (boolsD lb)), (11, .int y.2)]) (fun y => [.cells v_ 3 (y.1.map AV.int), .cells bb 26 [.d (opsD (g.back ls).spots), .int (g.back ls).init, .d (natLD (g.back ls).next), .d (natsD (g.back ls).sets), .int (g.back ls).many], .cells bg 26 [.d (opsD g.spots), .int g.init, .d (natLD g.next), .d (natsD g.sets), .int g.many]]) (fun y => y.2 ≤ g.spots.length ∧ y.1.length = g.spots.length ∧ (∀ v, v < y.2 → both g i v → gi y.1 v = i) ∧ ∀ v, (¬ v < y.2 ∨ ¬ both g i v) → gi y.1 v = gi pt v) (fun y => g.spots.length - y.2) (pt, 0) ⟨Nat.zero_le _, hpl, fun v h => absurd h (Nat.not_lt_zero v), fun _ _ => rfl⟩ (VS.of_le ?_) ?_
  · repeat (first
      | exact Env.le_nil _
      | refine Env.le_cons (AV.le_refl _) ?_
      | refine Env.le_cons (AV.le_int rfl (by first | rfl | omega | (dsimp only; omega))) ?_)
  rintro ⟨p2, k⟩ ⟨k1, k2, k3, k4⟩
  dsimp only at k1 k2 k3 k4 ⊢
  by_cases hk : ¬ k < g.spots.length
  · all_goals haveI fA_ : FlagA := ⟨⟩
    all_goals haveI fH_ : FlagH := ⟨⟩
    repeat' (first
      | exact True.intro
      | refine stp ?_
      | refine two ?_ ?_
      | refine allc fun c_ => ?_
      | (refine imp fun hc => ?_) <;> try (first | contradiction | (exfalso; omega) | (exfalso; exact absurd (of_dT hc) (by assumption)) | (exfalso; exact of_dF hc (by assumption)))
      | refine all fun v_ => ?_)
    all_goals clear fA_ fH_
    refine ⟨(p2, i + 1), ⟨by dsimp only; omega, t.new hi (by rw [hgi]; exact h0) k2 fun v hv => ⟨fun h => k3 v (by omega) h, fun h => k4 v (.inr h)⟩⟩, by dsimp only; omega, VS.of_le ?_⟩
    repeat (first
      | exact Env.le_nil _
      | refine Env.le_cons (AV.le_refl _) ?_
      | refine Env.le_cons (AV.le_int rfl (by first | rfl | omega | (dsimp only; omega))) ?_)
  replace hk := Decidable.not_not.1 hk
  have g1 := f1 k (by omega)
  have g2 := f2 k (by omega)
  all_goals haveI fA_ : FlagA := ⟨⟩
  all_goals haveI fH_ : FlagH := ⟨⟩
  repeat' (first
    | exact True.intro
    | refine stp ?_
    | refine two ?_ ?_
    | refine allc fun c_ => ?_
    | (refine imp fun hc => ?_) <;> try (first | contradiction | (exfalso; omega) | (exfalso; exact absurd (of_dT hc) (by assumption)) | (exfalso; exact of_dF hc (by assumption)))
    | refine all fun v_ => ?_)
  all_goals clear fA_ fH_
  all_goals first
    | (refine ⟨(p2.set k i, k + 1), ⟨by dsimp only; omega, by simp [k2], fun v hv hb => ?_, fun v hv => ?_⟩, by dsimp only; omega, VS.of_le ?_⟩
       · dsimp only at hv ⊢
         rw [gi_set _ _ _ _ (by omega)]
         split
         · rfl
         · exact k3 v (by omega) hb
       · dsimp only at hv ⊢
         rw [gi_set _ _ _ _ (by omega)]
         split
         · rename_i ev
           subst ev
           rcases hv with h | h
           · omega
           · exact absurd ⟨g1.1 (by assumption), g2.1 (by assumption)⟩ h
         · exact k4 v (by rcases hv with h | h; exact .inl (by omega); exact .inr h)
       · repeat (first
           | exact Env.le_nil _
           | refine Env.le_cons (AV.le_refl _) ?_
           | refine Env.le_cons (AV.le_int rfl (by first | rfl | omega | (dsimp only; omega))) ?_))
    | (refine ⟨(p2, k + 1), ⟨by dsimp only; omega, k2, fun v hv hb => ?_, fun v hv => k4 v (by rcases hv with h | h; exact .inl (by dsimp only at h; omega); exact .inr h)⟩, by dsimp only; omega, VS.of_le ?_⟩
       · dsimp only at hv ⊢
         by_cases ev : v = k
         · subst ev
           exfalso
           simp_all
         · exact k3 v (by omega) hb
       · repeat (first
           | exact Env.le_nil _
           | refine Env.le_cons (AV.le_refl _) ?_
           | refine Env.le_cons (AV.le_int rfl (by first | rfl | omega | (dsimp only; omega))) ?_))
end Go.Proofs.Ytcikppldaepodaa
namespace Go.Sp
open Go Go.Av
set_option linter.unusedVariables false
set_option linter.unusedSimpArgs false

def ni (l : List Nat) (i : Nat) : Nat := (l[i]?).getD 0
theorem ni_get (l : List Nat) (i : Nat) (h : i < l.length) : ni l i = l[i] := by simp [ni, List.getElem?_eq_getElem h]
noncomputable def partN (g : Gn) : List Nat := (List.range g.spots.length).map fun v => (partOf g.nx v).toNat
theorem partN_length (g : Gn) : (partN g).length = g.spots.length := by simp [partN]
theorem partN_cast (g : Gn) : (partN g).map (fun k : Nat => (k : Int)) = partsL g := by
  unfold partN partsL
  rw [List.map_map]
  apply List.map_congr_left
  intro v _
  have := partOf_bound (nx := g.nx) v
  simp only [Function.comp_apply]
  omega
theorem partN_lt (g : Gn) (i : Nat) (h : i < (partN g).length) : (partN g)[i] < g.spots.length := by
  have h1 := partOf_bound (nx := g.nx) i
  rw [partN_length] at h
  simp only [partN, List.getElem_map, List.getElem_range]
  omega
def fairP (g : Gn) (pn : List Nat) (i : Nat) : Prop :=
  ni pn i = i ∧ (∃ u, u < g.spots.length ∧ ni pn u = i ∧ ∃ w ∈ g.nx u, ni pn w = i) ∧ ∀ s, s < g.many → ∃ u, u < g.spots.length ∧ ni pn u = i ∧ (ni g.sets u).testBit s = true
noncomputable instance (g : Gn) (pn : List Nat) (i : Nat) : Decidable (fairP g pn i) := Classical.propDecidable _
noncomputable def fairL (g : Gn) (pn : List Nat) : List Bool := (List.range g.spots.length).map fun i => decide (fairP g pn i)
structure LoI (g : Gn) (pn : List Nat) (i k : Nat) (lo : List Bool) : Prop where
  len : lo.length = g.spots.length
  iff : ∀ v, v < g.spots.length → (bi lo v = true ↔ (∃ u, u < i ∧ ni pn u = v ∧ ∃ w ∈ g.nx u, ni pn w = v) ∨ (ni pn i = v ∧ ∃ w ∈ (g.nx i).take k, ni pn w = v))
section
variable {g : Gn} {pn : List Nat} {i k : Nat} {lo : List Bool}
theorem bi_rep (n v : Nat) : bi (List.replicate n false) v = false := by
  unfold bi; rw [List.getElem?_replicate]; split <;> rfl
theorem LoI.start (g : Gn) (pn : List Nat) : LoI g pn 0 0 (List.replicate g.spots.length false) where
  len := by simp
  iff v hv := by simp [bi_rep]
theorem LoI.yes (t : LoI g pn i k lo) (hk : k < (g.nx i).length) (he : ni pn (g.nx i)[k] = ni pn i) (hp : ni pn i < g.spots.length) : LoI g pn i (k + 1) (lo.set (ni pn i) true) where
  len := by simpa using t.len
  iff v hv := by
    rw [bi_set _ _ _ _ (by rw [t.len]; exact hp), List.take_succ_eq_append_getElem hk]
    split
    · rename_i e
      subst e
      refine ⟨fun _ => .inr ⟨rfl, _, List.mem_append.2 (.inr (List.mem_singleton.2 rfl)), he⟩, fun _ => rfl⟩
    · rename_i e
      rw [t.iff v hv]
      constructor
      · rintro (h | ⟨h1, w, h2, h3⟩)
        · exact .inl h
        · exact .inr ⟨h1, w, List.mem_append.2 (.inl h2), h3⟩
      · rintro (h | ⟨h1, w, h2, h3⟩)
        · exact .inl h
        · exact absurd h1.symm e
theorem LoI.no (t : LoI g pn i k lo) (hk : k < (g.nx i).length) (he : ¬ ni pn (g.nx i)[k] = ni pn i) : LoI g pn i (k + 1) lo where
  len := t.len
  iff v hv := by
    rw [t.iff v hv, List.take_succ_eq_append_getElem hk]
    constructor
    · rintro (h | ⟨h1, w, h2, h3⟩)
      · exact .inl h
      · exact .inr ⟨h1, w, List.mem_append.2 (.inl h2), h3⟩
    · rintro (h | ⟨h1, w, h2, h3⟩)
      · exact .inl h
      · rcases List.mem_append.1 h2 with h2 | h2
        · exact .inr ⟨h1, w, h2, h3⟩
        · rw [List.mem_singleton.1 h2] at h3
          exact absurd (h3.trans h1.symm) he
theorem LoI.done (t : LoI g pn i (g.nx i).length lo) : LoI g pn (i + 1) 0 lo where
  len := t.len
  iff v hv := by
    rw [t.iff v hv, List.take_length]
    simp only [List.take_zero, List.not_mem_nil, false_and, exists_false, and_false, or_false]
    constructor
    · rintro (⟨u, h1, h2⟩ | ⟨h1, h2⟩)
      · exact ⟨u, by omega, h2⟩
      · exact ⟨i, by omega, h1, h2⟩
    · rintro ⟨u, h1, h2, h3⟩
      by_cases e : u = i
      · subst e; exact .inr ⟨h2, h3⟩
      · exact .inl ⟨u, by omega, h2, h3⟩
def SeI (g : Gn) (pn : List Nat) (i : Nat) (st : List Int) : Prop :=
  st.length = g.spots.length ∧ ∀ v, v < g.spots.length → ∃ x : Nat, gi st v = x ∧ x < 2 ^ g.many ∧ ∀ s, x.testBit s = true ↔ ∃ u, u < i ∧ ni pn u = v ∧ (ni g.sets u).testBit s = true
theorem SeI.start (g : Gn) (pn : List Nat) : SeI g pn 0 (List.replicate g.spots.length 0) := ⟨by simp, fun v hv => ⟨0, by rw [gi_rep]; rfl, Nat.two_pow_pos _, fun s => by simp⟩⟩
theorem sets_lt {g : Gn} (hok : g.ok) (i : Nat) : ni g.sets i < 2 ^ g.many := by
  by_cases h : i < g.sets.length
  · rw [ni_get _ _ h]; exact hok.bits i h
  · simp only [ni, List.getElem?_eq_none (Nat.le_of_not_lt h), Option.getD_none]
    exact Nat.two_pow_pos _
theorem many64 {g : Gn} (hok : g.ok) : 1 ≤ 2 ^ g.many ∧ 2 ^ g.many ≤ 64 := by
  have := hok.many
  have : g.many = 0 ∨ g.many = 1 ∨ g.many = 2 ∨ g.many = 3 ∨ g.many = 4 ∨ g.many = 5 ∨ g.many = 6 := by omega
  rcases this with h | h | h | h | h | h | h <;> rw [h] <;> decide
theorem SeI.step {st : List Int} (hok : g.ok) (t : SeI g pn i st) (hp : ni pn i < g.spots.length) : SeI g pn (i + 1) (st.set (ni pn i) (bits .or .i64 (gi st (ni pn i)) (ni g.sets i : Nat))) := ⟨by simpa using t.1, fun v hv => by
  obtain ⟨x, h1, h2, h3⟩ := t.2 v hv
  rw [gi_set _ _ _ _ (by rw [t.1]; exact hp)]
  have hlt := sets_lt hok i
  have h64 := many64 hok
  split
  · rename_i e
    subst e
    refine ⟨x ||| ni g.sets i, ?_, Nat.or_lt_two_pow h2 hlt, fun s => ?_⟩
    · rw [h1]
      exact (bits_nat .i64 63 (by decide) wraps_i64 x (ni g.sets i) (by omega) (by omega)).2
    · rw [Nat.testBit_or, Bool.or_eq_true, h3 s]
      constructor
      · rintro (⟨u, a, b⟩ | h)
        · exact ⟨u, by omega, b⟩
        · exact ⟨i, by omega, rfl, h⟩
      · rintro ⟨u, a, b, c⟩
        by_cases eu : u = i
        · subst eu; exact .inr c
        · exact .inl ⟨u, by omega, b, c⟩
  · rename_i e
    refine ⟨x, h1, h2, fun s => ?_⟩
    rw [h3 s]
    constructor
    · rintro ⟨u, a, b⟩
      exact ⟨u, by omega, b⟩
    · rintro ⟨u, a, b, c⟩
      by_cases eu : u = i
      · subst eu; exact absurd b.symm e
      · exact ⟨u, by omega, b, c⟩⟩
theorem fair_iff {st : List Int} (t : LoI g pn g.spots.length 0 lo) (q : SeI g pn g.spots.length st) {i : Nat} (hi : i < g.spots.length) : fairP g pn i ↔ ni pn i = i ∧ bi lo i = true ∧ gi st i = 2 ^ g.many - 1 := by
  obtain ⟨x, h1, h2, h3⟩ := q.2 i hi
  rw [t.iff i hi]
  simp only [List.take_zero, List.not_mem_nil, false_and, exists_false, and_false, or_false]
  unfold fairP
  refine and_congr_right fun _ => and_congr_right fun _ => ?_
  have hpos : 1 ≤ 2 ^ g.many := Nat.two_pow_pos _
  constructor
  · intro h
    have e : x = 2 ^ g.many - 1 := by
      apply Nat.eq_of_testBit_eq
      intro s
      rw [Nat.testBit_two_pow_sub_one]
      by_cases hs : s < g.many
      · rw [decide_eq_true hs, h3 s]; exact h s hs
      · rw [decide_eq_false hs]
        exact Nat.testBit_lt_two_pow (Nat.lt_of_lt_of_le h2 (Nat.pow_le_pow_right (by decide) (by omega)))
    rw [h1, e]
    have : ((2 ^ g.many - 1 : Nat) : Int) = ((2 ^ g.many : Nat) : Int) - 1 := by omega
    rw [this]
    simp
  · intro h s hs
    have e : x = 2 ^ g.many - 1 := by
      have e1 : ((2 : Int) ^ g.many) = ((2 ^ g.many : Nat) : Int) := by simp
      rw [e1] at h
      omega
    rw [← h3 s, e, Nat.testBit_two_pow_sub_one, decide_eq_true hs]
end
theorem bit_div (x s : Nat) : (((x : Int) / 2 ^ s) % 2 = 1) ↔ x.testBit s = true := by
  rw [Nat.testBit_eq_decide_div_mod_eq, decide_eq_true_iff]
  have e : ((x : Int) / 2 ^ s) % 2 = ((x / 2 ^ s % 2 : Nat) : Int) := by simp
  rw [e]
  omega
def goodP (g : Gn) (i : Nat) : Prop := reachedP g i ∧ fairP g (partN g) i
noncomputable instance (g : Gn) (i : Nat) : Decidable (goodP g i) := Classical.propDecidable _
noncomputable def fairN (g : Gn) : Int × Int :=
  match (List.range g.spots.length).find? fun i => decide (goodP g i) with
  | some i => ((i : Int), 0)
  | none => (0, 11)
noncomputable def fairOf (g : Gr) : Int × Int := open Classical in if okG g then fairN (natG g) else (0, 9)
theorem fairOf_ok {g : Gn} (h : g.ok) : fairOf g.gr = fairN g := by rw [fairOf, if_pos (Gn.ok_gr h), natG_eq h]
theorem fairOf_no {g : Gr} (h : ¬ okG g) : fairOf g = (0, 9) := by rw [fairOf, if_neg h]
theorem find_range {n i : Nat} {p : Nat → Bool} (hb : ∀ j, j < i → p j = false) (hi : i < n) (hp : p i = true) : (List.range n).find? p = some i := by
  rw [List.find?_range_eq_some]
  exact ⟨hp, List.mem_range.2 hi, fun j hj => by simp [hb j hj]⟩
theorem find_none {n : Nat} {p : Nat → Bool} (hb : ∀ j, j < n → p j = false) : (List.range n).find? p = none := by
  rw [List.find?_eq_none]
  intro x hx
  rw [hb x (List.mem_range.1 hx)]
  decide
theorem fairN_at {g : Gn} {i : Nat} (hb : ∀ j, j < i → ¬ goodP g j) (hi : i < g.spots.length) (hp : goodP g i) : fairN g = ((i : Int), 0) := by
  rw [fairN, find_range (fun j hj => decide_eq_false (hb j hj)) hi (decide_eq_true hp)]
theorem fairN_none {g : Gn} (hb : ∀ j, j < g.spots.length → ¬ goodP g j) : fairN g = (0, 11) := by
  rw [fairN, find_none fun j hj => decide_eq_false (hb j hj)]
def lpP (g : Gn) (pn : List Nat) (i k j : Nat) : Prop := (∃ u, u < k ∧ ni pn u = i ∧ ∃ w ∈ g.nx u, ni pn w = i) ∨ (ni pn k = i ∧ ∃ w ∈ (g.nx k).take j, ni pn w = i)
theorem lpP_zero (g : Gn) (pn : List Nat) (i : Nat) : ¬ lpP g pn i 0 0 := by simp [lpP]
theorem lpP_step {g : Gn} {pn : List Nat} {i k j : Nat} (hj : j < (g.nx k).length) : lpP g pn i k (j + 1) ↔ lpP g pn i k j ∨ (ni pn k = i ∧ ni pn (g.nx k)[j] = i) := by
  unfold lpP
  rw [List.take_succ_eq_append_getElem hj]
  constructor
  · rintro (h | ⟨h1, w, h2, h3⟩)
    · exact .inl (.inl h)
    · rcases List.mem_append.1 h2 with h2 | h2
      · exact .inl (.inr ⟨h1, w, h2, h3⟩)
      · rw [List.mem_singleton.1 h2] at h3
        exact .inr ⟨h1, h3⟩
  · rintro ((h | ⟨h1, w, h2, h3⟩) | ⟨h1, h2⟩)
    · exact .inl h
    · exact .inr ⟨h1, w, List.mem_append.2 (.inl h2), h3⟩
    · exact .inr ⟨h1, _, List.mem_append.2 (.inr (List.mem_singleton.2 rfl)), h2⟩
theorem lpP_done {g : Gn} {pn : List Nat} {i k : Nat} : lpP g pn i k (g.nx k).length ↔ lpP g pn i (k + 1) 0 := by
  unfold lpP
  rw [List.take_length]
  simp only [List.take_zero, List.not_mem_nil, false_and, exists_false, and_false, or_false]
  constructor
  · rintro (⟨u, h1, h2⟩ | ⟨h1, h2⟩)
    · exact ⟨u, by omega, h2⟩
    · exact ⟨k, by omega, h1, h2⟩
  · rintro ⟨u, h1, h2, h3⟩
    by_cases e : u = k
    · subst e; exact .inr ⟨h2, h3⟩
    · exact .inl ⟨u, by omega, h2, h3⟩
theorem lpP_end {g : Gn} {pn : List Nat} {i : Nat} : lpP g pn i g.spots.length 0 ↔ ∃ u, u < g.spots.length ∧ ni pn u = i ∧ ∃ w ∈ g.nx u, ni pn w = i := by
  unfold lpP
  simp
def meP (g : Gn) (pn : List Nat) (i s k : Nat) : Prop := ∃ u, u < k ∧ ni pn u = i ∧ (ni g.sets u).testBit s = true
theorem meP_zero (g : Gn) (pn : List Nat) (i s : Nat) : ¬ meP g pn i s 0 := by simp [meP]
theorem meP_step {g : Gn} {pn : List Nat} {i s k : Nat} : meP g pn i s (k + 1) ↔ meP g pn i s k ∨ (ni pn k = i ∧ (ni g.sets k).testBit s = true) := by
  unfold meP
  constructor
  · rintro ⟨u, h1, h2⟩
    by_cases e : u = k
    · subst e; exact .inr h2
    · exact .inl ⟨u, by omega, h2⟩
  · rintro (⟨u, h1, h2⟩ | h)
    · exact ⟨u, by omega, h2⟩
    · exact ⟨k, by omega, h⟩
end Go.Sp
