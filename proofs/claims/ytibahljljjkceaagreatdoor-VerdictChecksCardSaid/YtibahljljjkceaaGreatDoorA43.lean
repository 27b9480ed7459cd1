/- A bundle of this claim's own texts: V8. -/
import Derived.Test.YtibahljljjkceaaGreatDoorA2
import Derived.Test.YtibahljljjkceaaGreatDoorA23
import Derived.Test.YtibahljljjkceaaGreatDoorA37
import Derived.Test.YtibahljljjkceaaGreatDoorA42
set_option linter.unusedVariables false
set_option linter.unusedSimpArgs false
set_option maxRecDepth 100000
set_option maxHeartbeats 4000000
namespace Go.Proofs.YtibahljljjkceaaGreatDoor
open Go Go.Av Go.Sp

theorem BN : Cal Tryz.prog 121 := Cal.of Tryz.func121 (by kernel_rfl) (by kernel_rfl)
theorem GI : Cal Tryz.prog 74 := Cal.of Tryz.func74 (by kernel_rfl) (by kernel_rfl)
theorem KL : ∀ ls : List (List Nat), ([] ++ ls.map fun l => AV.d (.l 1 8 (l.map F0))) = ((ls.map JT).flatten).map D.av
 | [] => rfl
 | l :: ls => by
   have := KL ls
   simp only [List.nil_append] at this
   simp [JT, D.av, this]
theorem P3 (G : List (Nat × List D)) (g : Gn) (hok : g.ok) (hw : g.ways g.next.length ≤ 68719476736) :
 AC Tryz.prog G 121 [gnA g] [] fun r h => ∃ v : {ls : List (List Nat) // Jh g (g.back ls)}, r = .ret (gnA (g.back v.1)) ∧ h = [] := by
 refine AC.factN (g := JT) (f := F0) (xss := g.next) 1 8 (fun _ => rfl) (.agg (.there (.there .here))) fun hN => ?_
 refine Ec (rs := [.cell 2 62]) Tryz.f121.ntmps Tryz.func121 rfl rfl rfl (by simp [Tryz.ntmps121]) fun W I => ?_
 have hs := hok.size
 have hnl := hok.next
 repeat' (first
  | exact True.intro | refine CJ ?_ | refine two ?_ ?_ | refine AB fun c_ => ?_
  | (refine imp fun hc => ?_) <;> try exact cx hc
  | refine all fun v_ => ?_)
 refine ⟨?_⟩
 rename_i bg
 rename Nat => bt
 refine LG (X := Nat × Nat) (fun y => [(1, .val (.pointer (some ⟨bg, 0, none⟩))), (2, .val (.pointer (some ⟨bt, 0, none⟩))), (3, .val (.pointer (some ⟨y.1, 0, none⟩)))]) (fun ⟨bo, bn⟩ => [.cells bo 62 [.d (AO g.spots), .int 0, .val (.slice (some ⟨bn, 0, none⟩) g.spots.length g.spots.length), .val (.slice none 0 0), .int 0], .cells bn 31 ((List.replicate g.spots.length Sl.nil).map fun q : Sl => .val q.v), .cells bg 62 [.d (AO g.spots), .int g.init, .d (As g.next), .d (AT g.sets), .int g.many], .cells bt 62 [.val (.slice none 0 0), .int 0, .val (.slice none 0 0), .val (.slice none 0 0), .int 0]]) ?_ ?_
 · repeat' (first
    | ((with_reducible apply (jmk (fun q : Sl => .val q.v) Sl.nil)); (focus rfl); (focus rfl); (focus (with_reducible exact ElC.h)); (focus rfl); (focus rfl); (focus omega); (focus omega); (focus rfl))
    | exact True.intro | refine AD ?_ | refine two ?_ ?_ | refine AB fun c_ => ?_
    | (refine imp fun hc => ?_) <;> try exact cx1 hc
    | refine all fun v_ => ?_)
   all_goals
    refine ⟨(_, _), VS.take (by exact AI) ?_⟩
    exact leD
 rintro ⟨bo, bn⟩
 dsimp only
 refine Ho (VS.rows0 3 1 F0 g.spots.length _) ?_
 repeat' (first
  | exact True.intro | refine CJ ?_ | refine two ?_ ?_ | refine AB fun c_ => ?_
  | (refine imp fun hc => ?_) <;> try exact cx hc
  | refine all fun v_ => ?_)
 refine AG (X := List Sl × List (List Nat) × Nat) (fun y => [(1, .val (.pointer (some ⟨bg, 0, none⟩))), (2, .val (.pointer (some ⟨bt, 0, none⟩))), (3, .val (.pointer (some ⟨bo, 0, none⟩))), (4, .int y.2.2)]) (fun y => [.cells bo 62 [.d (AO g.spots), .int 0, .val (.slice (some ⟨bn, 0, none⟩) g.spots.length g.spots.length), .val (.slice none 0 0), .int 0], .cells bn 31 (y.1.map fun q : Sl => .val q.v), .cells bg 62 [.d (AO g.spots), .int g.init, .d (As g.next), .d (AT g.sets), .int g.many], .cells bt 62 [.val (.slice none 0 0), .int 0, .val (.slice none 0 0), .val (.slice none 0 0), .int 0]] ++ D3 3 1 F0 y.1 y.2.1) (fun y => y.2.2 ≤ g.spots.length ∧ y.1.length = g.spots.length ∧ TuI g y.2.2 0 y.2.1) (fun y => g.spots.length - y.2.2) (List.replicate g.spots.length Sl.nil, List.replicate g.spots.length [], 0) ⟨Nat.zero_le _, by simp, TuI.start g⟩ (VS.of_le ?_) ?_
 · exact leD
 rintro ⟨qs, ls, i⟩ ⟨h1, h2, t⟩
 dsimp only [List.cons_append, List.nil_append] at h1 h2 t ⊢
 by_cases hi : i < g.spots.length
 · have hin : i < g.next.length := by omega
   have hnx := g.nx_get i hin
   have hlj := hN (g.next[i]'(by omega)) (List.getElem_mem _)
   repeat' (first
    | exact True.intro | refine CJ ?_ | refine two ?_ ?_ | refine AB fun c_ => ?_
    | (refine imp fun hc => ?_) <;> try exact cx hc
    | refine all fun v_ => ?_)
   refine AG (X := List Sl × List (List Nat) × Nat) (fun y => [(1, .val (.pointer (some ⟨bg, 0, none⟩))), (2, .val (.pointer (some ⟨bt, 0, none⟩))), (3, .val (.pointer (some ⟨bo, 0, none⟩))), (4, .int i), (5, .int y.2.2)]) (fun y => [.cells bo 62 [.d (AO g.spots), .int 0, .val (.slice (some ⟨bn, 0, none⟩) g.spots.length g.spots.length), .val (.slice none 0 0), .int 0], .cells bn 31 (y.1.map fun q : Sl => .val q.v), .cells bg 62 [.d (AO g.spots), .int g.init, .d (As g.next), .d (AT g.sets), .int g.many], .cells bt 62 [.val (.slice none 0 0), .int 0, .val (.slice none 0 0), .val (.slice none 0 0), .int 0]] ++ D3 3 1 F0 y.1 y.2.1) (fun y => y.2.2 ≤ (g.next[i]'(by omega)).length ∧ y.1.length = g.spots.length ∧ TuI g i y.2.2 y.2.1) (fun y => (g.next[i]'(by omega)).length - y.2.2) (qs, ls, 0) ⟨Nat.zero_le _, h2, t⟩ (VS.of_le ?_) ?_
   · exact leD
   clear h2 t
   rintro ⟨qs, ls, k⟩ ⟨k1, h2, t⟩
   dsimp only [List.cons_append, List.nil_append] at k1 h2 t ⊢
   have hll := t.len
   by_cases hk : k < (g.next[i]'(by omega)).length
   · have hk' : k < (g.nx i).length := by rw [hnx]; exact hk
     have hto := g.nx_lt hok i _ (List.getElem_mem hk')
     have hke : (g.nx i)[k] = (g.next[i]'(by omega))[k] := by simp only [hnx]
     have t2 := t.step hk' (by omega)
     have hfew : (ls[(g.nx i)[k]]'(by omega)).length ≤ 137438953472 := by
      have := t.few _ (List.getElem_mem (show (g.nx i)[k] < ls.length by omega))
      have h1 := g.ways_le (i + 1)
      rw [g.ways_succ i hin] at h1
      omega
     simp only [hke] at t2 hto hfew
     refine Ho (VS.pickR [.cells bo 62 [.d (AO g.spots), .int 0, .val (.slice (some ⟨bn, 0, none⟩) g.spots.length g.spots.length), .val (.slice none 0 0), .int 0], .cells bn 31 (qs.map fun q : Sl => .val q.v), .cells bg 62 [.d (AO g.spots), .int g.init, .d (As g.next), .d (AT g.sets), .int g.many], .cells bt 62 [.val (.slice none 0 0), .int 0, .val (.slice none 0 0), .val (.slice none 0 0), .int 0]] ((g.next[i]'(by omega))[k]) (by omega) (by omega)) ?_
     dsimp only [List.cons_append, List.nil_append]
     repeat' (first
      | exact True.intro | refine CJ ?_ | refine two ?_ ?_ | refine AB fun c_ => ?_
      | (refine imp fun hc => ?_) <;> try exact cx hc
      | refine all fun v_ => ?_)
     refine ⟨?_⟩
     refine B7 [AM (qs[(g.next[i]'(by omega))[k]]'(by omega)).v 3 1 F0 (ls[(g.next[i]'(by omega))[k]]'(by omega))] mixed rfl (by (repeat ((with_reducible apply Hd.cons); (focus rfl))); exact Hd.nil) (by (repeat (with_reducible apply Ax)); exact len_nil) (by decide +kernel) (by exact Ap) ?_
     repeat' (first
      | exact True.intro | refine AD ?_ | refine two ?_ ?_ | refine AB fun c_ => ?_
      | (refine imp fun hc => ?_) <;> try exact cx1 hc
      | refine all fun v_ => ?_)
     refine ⟨(qs.set ((g.next[i]'(by omega))[k]) v_, ls.set ((g.next[i]'(by omega))[k]) ((ls[(g.next[i]'(by omega))[k]]'(by omega)) ++ [i]), k + 1), ⟨by dsimp only; omega, by simp [h2], t2⟩, by dsimp only; omega, VS.trans (VS.putR [.cells bo 62 [.d (AO g.spots), .int 0, .val (.slice (some ⟨bn, 0, none⟩) g.spots.length g.spots.length), .val (.slice none 0 0), .int 0], .cells bn 31 ((qs.set ((g.next[i]'(by omega))[k]) v_).map fun q : Sl => .val q.v), .cells bg 62 [.d (AO g.spots), .int g.init, .d (As g.next), .d (AT g.sets), .int g.many], .cells bt 62 [.val (.slice none 0 0), .int 0, .val (.slice none 0 0), .val (.slice none 0 0), .int 0]] ((g.next[i]'(by omega))[k]) v_ _ (by omega) (by omega)) (VS.of_le ?_)⟩
     exact leD
   repeat' (first
    | exact True.intro | refine CJ ?_ | refine two ?_ ?_ | refine AB fun c_ => ?_
    | (refine imp fun hc => ?_) <;> try exact cx hc
    | refine all fun v_ => ?_)
   have ek : k = (g.nx i).length := by rw [hnx]; omega
   subst ek
   refine ⟨(qs, ls, i + 1), ⟨by dsimp only; omega, h2, t.done hin⟩, by dsimp only; omega, VS.of_le ?_⟩
   exact leD
 obtain rfl : i = g.spots.length := by omega
 rw [← hnl] at t
 have hll := t.len
 have htd := t.turned hok
 refine Ho (VS.frzR (b := bn) (T := 31) (E := 3) (sz := 1) (f := F0) 8 rfl (fun _ => rfl) [.cells bo 62 [.d (AO g.spots), .int 0, .val (.slice (some ⟨bn, 0, none⟩) g.spots.length g.spots.length), .val (.slice none 0 0), .int 0]] [.cells bg 62 [.d (AO g.spots), .int g.init, .d (As g.next), .d (AT g.sets), .int g.many], .cells bt 62 [.val (.slice none 0 0), .int 0, .val (.slice none 0 0), .val (.slice none 0 0), .int 0]] qs ls [] (by omega) (fun l hl => by have := t.few l hl; omega)) ?_
 refine Ho (Z7 (f := JT) (h1 := [.cells bo 62 [.d (AO g.spots), .int 0, .val (.slice (some ⟨bn, 0, none⟩) g.spots.length g.spots.length), .val (.slice none 0 0), .int 0]]) (h2 := [.cells bg 62 [.d (AO g.spots), .int g.init, .d (As g.next), .d (AT g.sets), .int g.many], .cells bt 62 [.val (.slice none 0 0), .int 0, .val (.slice none 0 0), .val (.slice none 0 0), .int 0]]) (xs := ls) (n := g.spots.length) (h' := [.cells bo 62 [.d (AO g.spots), .int 0, .d (As ls), .val (.slice none 0 0), .int 0], .cells bg 62 [.d (AO g.spots), .int g.init, .d (As g.next), .d (AT g.sets), .int g.many], .cells bt 62 [.val (.slice none 0 0), .int 0, .val (.slice none 0 0), .val (.slice none 0 0), .int 0]]) 24 rfl rfl (KL ls) (by omega) (fun _ => rfl) (by omega) (by omega) (CvE.refl _ _ _) (CvH.cells (.cons (.same _) (.cons (.same _) (.cons .here (Cvs.refl _ _ _)))) (.refl _))) ?_
 repeat' (first
  | exact True.intro | refine CJ ?_ | refine two ?_ ?_ | refine AB fun c_ => ?_
  | (refine imp fun hc => ?_) <;> try exact cx hc
  | refine all fun v_ => ?_)
 exact J9 (xs := [.agg [.d (AO g.spots), .int 0, .d (As ls), .val (.slice none 0 0), .int 0]]) (ys := [gnA (g.back ls)]) vid ⟨Dt rfl (by (with_reducible exact ElC.h)) rfl (by exact Az) rfl, trivial⟩ ⟨AV.le_agg ⟨AV.le_refl _, AV.le_refl _, AV.le_refl _, AV.le_nil 1 8, AV.le_refl _, trivial⟩, trivial⟩ rfl (h' := []) (List.nil_sublist _) ⟨⟨ls, htd⟩, rfl, rfl⟩
abbrev both (g : Gn) (i v : Nat) : Prop := Rch g.nx i v ∧ Rch g.nx v i
theorem JD (G : List (Nat × List D)) (g : Gr) (hw : ∀ g' : Gn, g'.gr = g → g'.ways g'.next.length ≤ 68719476736) : ACr Tryz.prog G 74 [grA g] (.tup [.d (AK (partsOf g).1), .int (partsOf g).2]) := by
 refine AN (ts := [2, 3]) Tryz.f74.ntmps Tryz.func74 rfl rfl rfl (by simp [Tryz.ntmps74]) fun W I => ?_
 have E := LP G g
 by_cases hk : ¬ okG g
 · have e : Gu g = 9 := if_neg hk
   rw [e] at E
   repeat' (first
    | refine ca BX (E) ?_
    | exact True.intro | refine AD ?_ | refine two ?_ ?_ | refine AB fun c_ => ?_
    | (refine imp fun hc => ?_) <;> try exact cx1 hc
    | refine all fun v_ => ?_)
   refine AH (VS.trans (VS.drop (List.nil_sublist _)) (Cn (t := 2) 1 8 rfl)) ?_
   ((with_reducible apply rq2); rfl; rfl; rfl)
   exact AA (by rw [Ck hk]; rfl)
 obtain ⟨g, rfl, hok⟩ := Fy (Decidable.not_not.1 hk)
 rw [Ez (Gn.ok_gr hok)] at E
 rw [HN] at E ⊢
 clear hk
 have hs := hok.size
 have hnl := hok.next
 have ET := P3 G g hok (hw g rfl)
 repeat' (first
  | refine ca BX (E) ?_
  | refine cgv BN (ET) ?_
  | refine cag BN (ET) ?_
  | exact True.intro | refine AD ?_ | refine two ?_ ?_ | refine AB fun c_ => ?_
  | (refine imp fun hc => ?_) <;> try exact cx1 hc
  | refine all fun v_ => ?_)
 rename_i bg tv bb
 obtain ⟨ls, td⟩ := tv
 dsimp only at *
 have tlt := td.lt hok
 have tln : (g.back ls).next.length = (g.back ls).spots.length := td.len
 refine AG (X := List Int × Nat) (fun y => [(1, .val (.pointer (some ⟨bg, 0, none⟩))), (5, .val (.pointer (some ⟨bb, 0, none⟩))), (6, .val (.slice (some ⟨v_, 0, none⟩) g.spots.length g.spots.length)), (7, .int y.2)]) (fun y => [.cells v_ 3 (y.1.map AV.int), .cells bb 62 [.d (AO (g.back ls).spots), .int (g.back ls).init, .d (As (g.back ls).next), .d (AT (g.back ls).sets), .int (g.back ls).many], .cells bg 62 [.d (AO g.spots), .int g.init, .d (As g.next), .d (AT g.sets), .int g.many]]) (fun y => y.2 ≤ g.spots.length ∧ y.1.length = g.spots.length ∧ ∀ j, j < y.2 → gi y.1 j = -1) (fun y => g.spots.length - y.2) (List.replicate g.spots.length 0, 0) ⟨Nat.zero_le _, by simp, fun j h => absurd h (Nat.not_lt_zero j)⟩ (VS.of_le ?_) ?_
 · exact leD
 rintro ⟨pt, i⟩ ⟨h1, h2, h3⟩
 dsimp only at h1 h2 h3 ⊢
 by_cases hi : i < g.spots.length
 · repeat' (first
    | refine ca BX (E) ?_
    | refine cgv BN (ET) ?_
    | refine cag BN (ET) ?_
    | exact True.intro | refine AD ?_ | refine two ?_ ?_ | refine AB fun c_ => ?_
    | (refine imp fun hc => ?_) <;> try exact cx1 hc
    | refine all fun v_ => ?_)
   refine ⟨(pt.set i (-1), i + 1), ⟨by dsimp only; omega, by simp [h2], fun j hj => ?_⟩, by dsimp only; omega, VS.of_le ?_⟩
   · dsimp only at hj ⊢
     rw [Bd _ _ _ _ (by omega)]
     split
     · rfl
     · exact h3 j (by omega)
   · exact leD
 obtain rfl : i = g.spots.length := by omega
 obtain rfl : pt = List.replicate g.spots.length (-1) := by
  apply List.ext_getElem
  · simp [h2]
  · intro j a b
    have := h3 j (by omega)
    rw [Bo _ _ a] at this
    simp [this]
 clear h1 h2 h3 hi
 repeat' (first
  | refine ca BX (E) ?_
  | refine cgv BN (ET) ?_
  | refine cag BN (ET) ?_
  | exact True.intro | refine AD ?_ | refine two ?_ ?_ | refine AB fun c_ => ?_
  | (refine imp fun hc => ?_) <;> try exact cx1 hc
  | refine all fun v_ => ?_)
 refine AG (X := List Int × Nat) (fun y => [(1, .val (.pointer (some ⟨bg, 0, none⟩))), (5, .val (.pointer (some ⟨bb, 0, none⟩))), (6, .val (.slice (some ⟨v_, 0, none⟩) g.spots.length g.spots.length)), (8, .int y.2)]) (fun y => [.cells v_ 3 (y.1.map AV.int), .cells bb 62 [.d (AO (g.back ls).spots), .int (g.back ls).init, .d (As (g.back ls).next), .d (AT (g.back ls).sets), .int (g.back ls).many], .cells bg 62 [.d (AO g.spots), .int g.init, .d (As g.next), .d (AT g.sets), .int g.many]]) (fun y => y.2 ≤ g.spots.length ∧ PaI g y.2 y.1) (fun y => g.spots.length - y.2) (List.replicate g.spots.length (-1), 0) ⟨Nat.zero_le _, PaI.start g⟩ (VS.of_le ?_) ?_
 · exact leD
 rintro ⟨pt, i⟩ ⟨h1, t⟩
 dsimp only at h1 t ⊢
 have hpl := t.1
 by_cases hi : ¬ i < g.spots.length
 · obtain rfl : i = g.spots.length := by omega
   have e := t.all
   repeat' (first
    | refine ca BX (E) ?_
    | refine cgv BN (ET) ?_
    | refine cag BN (ET) ?_
    | exact True.intro | refine AD ?_ | refine two ?_ ?_ | refine AB fun c_ => ?_
    | (refine imp fun hc => ?_) <;> try exact cx1 hc
    | refine all fun v_ => ?_)
   refine AH (VS.trans (VS.drop (h' := [.cells v_ 3 (pt.map AV.int)]) (by exact Hs)) (vfz (t := 2) (f := AW) (h1 := []) 1 8 rfl rfl rfl (Hw pt) hpl (fun _ => rfl) (by omega) (by omega))) ?_
   ((with_reducible apply rq2); rfl; rfl; rfl)
   exact AA (by rw [FG hok, e])
 replace hi := Decidable.not_not.1 hi
 have hgi : gi pt i = pt[i]'(by omega) := Bo _ _ _
 by_cases h0 : 0 ≤ pt[i]'(by omega)
 · have t' := t.old hi (by rw [hgi]; exact h0)
   repeat' (first
    | refine ca BX (E) ?_
    | refine cgv BN (ET) ?_
    | refine cag BN (ET) ?_
    | exact True.intro | refine AD ?_ | refine two ?_ ?_ | refine AB fun c_ => ?_
    | (refine imp fun hc => ?_) <;> try exact cx1 hc
    | refine all fun v_ => ?_)
   refine ⟨(pt, i + 1), ⟨by dsimp only; omega, t'⟩, by dsimp only; omega, VS.of_le ?_⟩
   exact leD
 have hone : ∀ j ∈ [i], j < g.spots.length := fun j hj => by simp at hj; omega
 have E1 := Dr G g [i] hnl (fun i => g.nx_lt hok i) hone hs
 have E2 := Dr G (g.back ls) [i] tln tlt hone hs
 have f1 : ∀ k (h : k < (DT g.nx g.spots.length [i]).length), (DT g.nx g.spots.length [i])[k] = true ↔ Rch g.nx i k := fun k h => by
  rw [← Ha _ _ h, O4 (by simpa [DT] using h)]; simp
 have f2 : ∀ k (h : k < (DT (g.back ls).nx (g.back ls).spots.length [i]).length), (DT (g.back ls).nx (g.back ls).spots.length [i])[k] = true ↔ Rch g.nx k i := fun k h => by
  rw [← Ha _ _ h, O4 (by simpa [DT] using h), ← td.rch]; simp
 have l1 : (DT g.nx g.spots.length [i]).length = g.spots.length := by simp [DT]
 have l2 : (DT (g.back ls).nx (g.back ls).spots.length [i]).length = g.spots.length := by simp [DT, Gn.back]
 generalize DT g.nx g.spots.length [i] = la at E1 f1 l1
 generalize DT (g.back ls).nx (g.back ls).spots.length [i] = lb at E2 f2 l2
 repeat' (first
  | refine ca CM (E1) ?_
  | refine ca CM (E2) ?_
  | exact True.intro | refine AD ?_ | refine two ?_ ?_ | refine AB fun c_ => ?_
  | (refine imp fun hc => ?_) <;> try exact cx1 hc
  | refine all fun v_ => ?_)
 refine AG (X := List Int × Nat) (fun y => [(1, .val (.pointer (some ⟨bg, 0, none⟩))), (5, .val (.pointer (some ⟨bb, 0, none⟩))), (6, .val (.slice (some ⟨v_, 0, none⟩) g.spots.length g.spots.length)), (8, .int i), (9, .d (Ai la)), (10, .d (Ai lb)), (11, .int y.2)]) (fun y => [.cells v_ 3 (y.1.map AV.int), .cells bb 62 [.d (AO (g.back ls).spots), .int (g.back ls).init, .d (As (g.back ls).next), .d (AT (g.back ls).sets), .int (g.back ls).many], .cells bg 62 [.d (AO g.spots), .int g.init, .d (As g.next), .d (AT g.sets), .int g.many]]) (fun y => y.2 ≤ g.spots.length ∧ y.1.length = g.spots.length ∧ (∀ v, v < y.2 → both g i v → gi y.1 v = i) ∧ ∀ v, (¬ v < y.2 ∨ ¬ both g i v) → gi y.1 v = gi pt v) (fun y => g.spots.length - y.2) (pt, 0) ⟨Nat.zero_le _, hpl, fun v h => absurd h (Nat.not_lt_zero v), fun _ _ => rfl⟩ (VS.of_le ?_) ?_
 · exact leD
 rintro ⟨p2, k⟩ ⟨k1, k2, k3, k4⟩
 dsimp only at k1 k2 k3 k4 ⊢
 by_cases hk : ¬ k < g.spots.length
 · repeat' (first
    | exact True.intro | refine AD ?_ | refine two ?_ ?_ | refine AB fun c_ => ?_
    | (refine imp fun hc => ?_) <;> try exact cx1 hc
    | refine all fun v_ => ?_)
   refine ⟨(p2, i + 1), ⟨by dsimp only; omega, t.new hi (by rw [hgi]; exact h0) k2 fun v hv => ⟨fun h => k3 v (by omega) h, fun h => k4 v (.inr h)⟩⟩, by dsimp only; omega, VS.of_le ?_⟩
   exact leD
 replace hk := Decidable.not_not.1 hk
 have g1 := f1 k (by omega)
 have g2 := f2 k (by omega)
 repeat' (first
  | exact True.intro | refine AD ?_ | refine two ?_ ?_ | refine AB fun c_ => ?_
  | (refine imp fun hc => ?_) <;> try exact cx1 hc
  | refine all fun v_ => ?_)
 all_goals first
  | (refine ⟨(p2.set k i, k + 1), ⟨by dsimp only; omega, by simp [k2], fun v hv hb => ?_, fun v hv => ?_⟩, by dsimp only; omega, VS.of_le ?_⟩
     · dsimp only at hv ⊢
       rw [Bd _ _ _ _ (by omega)]
       split
       · rfl
       · exact k3 v (by omega) hb
     · dsimp only at hv ⊢
       rw [Bd _ _ _ _ (by omega)]
       split
       · rename_i ev
         subst ev
         rcases hv with h | h
         · omega
         · exact absurd ⟨g1.1 (by assumption), g2.1 (by assumption)⟩ h
       · exact k4 v (by rcases hv with h | h; exact .inl (by omega); exact .inr h)
     · exact leD)
  | (refine ⟨(p2, k + 1), ⟨by dsimp only; omega, k2, fun v hv hb => ?_, fun v hv => k4 v (by rcases hv with h | h; exact .inl (by dsimp only at h; omega); exact .inr h)⟩, by dsimp only; omega, VS.of_le ?_⟩
     · dsimp only at hv ⊢
       by_cases ev : v = k
       · subst ev
         exfalso
         simp_all
       · exact k3 v (by omega) hb
     · exact leD)
end Go.Proofs.YtibahljljjkceaaGreatDoor
