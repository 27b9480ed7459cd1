/- Own texts. -/
import Derived.Test.YtnlfhnbcdfdhgaaGreatDoorA38
set_option linter.unusedVariables false
set_option linter.unusedSimpArgs false
set_option maxRecDepth 100000
set_option maxHeartbeats 4000000
namespace Go.Proofs.YtnlfhnbcdfdhgaaGreatDoor
open Go Go.Av Go.Sp
theorem BO : Cal Tryz.prog 120 := Cal.of Tryz.func120 (by kernel_rfl) (by kernel_rfl)
theorem HG : Cal Tryz.prog 69 := Cal.of Tryz.func69 (by kernel_rfl) (by kernel_rfl)
theorem Lu : ∀ ls : List (List Nat), ([] ++ ls.map fun l => AV.d (.l 1 8 (l.map Gj))) = ((ls.map Kf).flatten).map D.av
 | [] => rfl
 | l :: ls => by
   have := Lu ls
   simp only [List.nil_append] at this
   simp [Kf, D.av, this]
theorem Sv (G : List (Nat × List D)) (g : Gn) (hok : g.ok) (hw : g.ways g.next.length ≤ 68719476736) :
 AC Tryz.prog G 120 [gnA g] [] fun r h => ∃ v : {ls : List (List Nat) // LP g (g.back ls)}, r = .ret (gnA (g.back v.1)) ∧ h = [] := by
 refine AC.factN (g := Kf) (f := Gj) (xss := g.next) 1 8 (fun _ => rfl) (.agg (.there (.there .here))) fun hN => ?_
 refine BV (rs := [.cell 2 51]) Tryz.f120.ntmps Tryz.func120 rfl rfl rfl (by simp [Tryz.ntmps120]) fun W I => ?_
 have hs := hok.size
 have hnl := hok.next
 repeat' (first | exact jA | refine Cb ?_ | refine two ?_ ?_ | refine AB fun c_ => ?_ | refine imp fun hc => ?_; try exact cx hc | refine all fun v_ => ?_)
 refine ⟨?_⟩
 rename_i bg
 rename Nat => bt
 refine KH (X := Nat × Nat) (fun y => [(1, .val (.pointer (some ⟨bg, 0, none⟩))), (2, .val (.pointer (some ⟨bt, 0, none⟩))), (3, .val (.pointer (some ⟨y.1, 0, none⟩)))]) (fun ⟨bo, bn⟩ => [.cells bo 51 [.d (AO g.spots), .int 0, .val (.slice (some ⟨bn, 0, none⟩) g.spots.length g.spots.length), .val (.slice none 0 0), .int 0], .cells bn 49 ((List.replicate g.spots.length Sl.nil).map fun q : Sl => .val q.v), .cells bg 51 [.d (AO g.spots), .int g.init, .d (Bp g.next), .d (BA g.sets), .int g.many], .cells bt 51 [.val (.slice none 0 0), .int 0, .val (.slice none 0 0), .val (.slice none 0 0), .int 0]]) ?_ ?_
 · repeat' (first | ((with_reducible apply (jmk (fun q : Sl => .val q.v) Sl.nil)); rfl; rfl; (with_reducible exact ElC.h); rfl; rfl; omega; omega; rfl) | exact jA | refine AF ?_ | refine two ?_ ?_ | refine AB fun c_ => ?_ | refine imp fun hc => ?_; try exact cx1 hc | refine all fun v_ => ?_)
   all_goals
    refine ⟨(_, _), VS.take AH ?_⟩
    exact leD
 rintro ⟨bo, bn⟩
 dsimp only
 refine IH (VS.rows0 3 1 Gj g.spots.length _) ?_
 repeat' (first | exact jA | refine Cb ?_ | refine two ?_ ?_ | refine AB fun c_ => ?_ | refine imp fun hc => ?_; try exact cx hc | refine all fun v_ => ?_)
 refine AG (X := List Sl × List (List Nat) × Nat) (fun y => [(1, .val (.pointer (some ⟨bg, 0, none⟩))), (2, .val (.pointer (some ⟨bt, 0, none⟩))), (3, .val (.pointer (some ⟨bo, 0, none⟩))), (4, .int y.2.2)]) (fun y => [.cells bo 51 [.d (AO g.spots), .int 0, .val (.slice (some ⟨bn, 0, none⟩) g.spots.length g.spots.length), .val (.slice none 0 0), .int 0], .cells bn 49 (y.1.map fun q : Sl => .val q.v), .cells bg 51 [.d (AO g.spots), .int g.init, .d (Bp g.next), .d (BA g.sets), .int g.many], .cells bt 51 [.val (.slice none 0 0), .int 0, .val (.slice none 0 0), .val (.slice none 0 0), .int 0]] ++ EU 3 1 Gj y.1 y.2.1) (fun y => y.2.2 ≤ g.spots.length ∧ y.1.length = g.spots.length ∧ TuI g y.2.2 0 y.2.1) (fun y => g.spots.length - y.2.2) (List.replicate g.spots.length Sl.nil, List.replicate g.spots.length [], 0) ⟨Nat.zero_le _, by simp, TuI.start g⟩ (VS.of_le ?_) ?_
 · exact leD
 rintro ⟨qs, ls, i⟩ ⟨h1, h2, t⟩
 dsimp only [List.cons_append, List.nil_append] at h1 h2 t ⊢
 by_cases hi : i < g.spots.length
 · have hin : i < g.next.length := by omega
   have hnx := g.nx_get i hin
   have hlj := hN (g.next[i]'jB) (jb _)
   repeat' (first | exact jA | refine Cb ?_ | refine two ?_ ?_ | refine AB fun c_ => ?_ | refine imp fun hc => ?_; try exact cx hc | refine all fun v_ => ?_)
   refine AG (X := List Sl × List (List Nat) × Nat) (fun y => [(1, .val (.pointer (some ⟨bg, 0, none⟩))), (2, .val (.pointer (some ⟨bt, 0, none⟩))), (3, .val (.pointer (some ⟨bo, 0, none⟩))), (4, .int i), (5, .int y.2.2)]) (fun y => [.cells bo 51 [.d (AO g.spots), .int 0, .val (.slice (some ⟨bn, 0, none⟩) g.spots.length g.spots.length), .val (.slice none 0 0), .int 0], .cells bn 49 (y.1.map fun q : Sl => .val q.v), .cells bg 51 [.d (AO g.spots), .int g.init, .d (Bp g.next), .d (BA g.sets), .int g.many], .cells bt 51 [.val (.slice none 0 0), .int 0, .val (.slice none 0 0), .val (.slice none 0 0), .int 0]] ++ EU 3 1 Gj y.1 y.2.1) (fun y => y.2.2 ≤ (g.next[i]'jB).length ∧ y.1.length = g.spots.length ∧ TuI g i y.2.2 y.2.1) (fun y => (g.next[i]'jB).length - y.2.2) (qs, ls, 0) ⟨Nat.zero_le _, h2, t⟩ (VS.of_le ?_) ?_
   · exact leD
   clear h2 t
   rintro ⟨qs, ls, k⟩ ⟨k1, h2, t⟩
   dsimp only [List.cons_append, List.nil_append] at k1 h2 t ⊢
   have hll := t.len
   by_cases hk : k < (g.next[i]'jB).length
   · have hk' : k < (g.nx i).length := by rw [hnx]; exact hk
     have hto := g.nx_lt hok i _ (jb hk')
     have hke : (g.nx i)[k] = (g.next[i]'jB)[k] := by simp only [hnx]
     have t2 := t.step hk' jB
     have hfew : (ls[(g.nx i)[k]]'jB).length ≤ 137438953472 := by
      have := t.few _ (jb (show (g.nx i)[k] < ls.length by omega))
      have h1 := g.ways_le (i + 1)
      rw [g.ways_succ i hin] at h1
      omega
     simp only [hke] at t2 hto hfew
     refine IH (VS.pickR [.cells bo 51 [.d (AO g.spots), .int 0, .val (.slice (some ⟨bn, 0, none⟩) g.spots.length g.spots.length), .val (.slice none 0 0), .int 0], .cells bn 49 (qs.map fun q : Sl => .val q.v), .cells bg 51 [.d (AO g.spots), .int g.init, .d (Bp g.next), .d (BA g.sets), .int g.many], .cells bt 51 [.val (.slice none 0 0), .int 0, .val (.slice none 0 0), .val (.slice none 0 0), .int 0]] ((g.next[i]'jB)[k]) jB jB) ?_
     dsimp only [List.cons_append, List.nil_append]
     repeat' (first | exact jA | refine Cb ?_ | refine two ?_ ?_ | refine AB fun c_ => ?_ | refine imp fun hc => ?_; try exact cx hc | refine all fun v_ => ?_)
     refine ⟨?_⟩
     refine CL [AL (qs[(g.next[i]'jB)[k]]'jB).v 3 1 Gj (ls[(g.next[i]'jB)[k]]'jB)] mixed rfl (by (repeat ((with_reducible apply Hd.cons); rfl)); exact Hd.nil) (by (repeat (with_reducible apply Al)); exact len_nil) (by decide +kernel) BF ?_
     repeat' (first | exact jA | refine AF ?_ | refine two ?_ ?_ | refine AB fun c_ => ?_ | refine imp fun hc => ?_; try exact cx1 hc | refine all fun v_ => ?_)
     refine ⟨(qs.set ((g.next[i]'jB)[k]) v_, ls.set ((g.next[i]'jB)[k]) ((ls[(g.next[i]'jB)[k]]'jB) ++ [i]), k + 1), ⟨by dsimp only; omega, by simp [h2], t2⟩, jC, VS.trans (VS.putR [.cells bo 51 [.d (AO g.spots), .int 0, .val (.slice (some ⟨bn, 0, none⟩) g.spots.length g.spots.length), .val (.slice none 0 0), .int 0], .cells bn 49 ((qs.set ((g.next[i]'jB)[k]) v_).map fun q : Sl => .val q.v), .cells bg 51 [.d (AO g.spots), .int g.init, .d (Bp g.next), .d (BA g.sets), .int g.many], .cells bt 51 [.val (.slice none 0 0), .int 0, .val (.slice none 0 0), .val (.slice none 0 0), .int 0]] ((g.next[i]'jB)[k]) v_ _ jB jB) (VS.of_le ?_)⟩
     exact leD
   repeat' (first | exact jA | refine Cb ?_ | refine two ?_ ?_ | refine AB fun c_ => ?_ | refine imp fun hc => ?_; try exact cx hc | refine all fun v_ => ?_)
   have ek : k = (g.nx i).length := by rw [hnx]; omega
   subst ek
   refine ⟨(qs, ls, i + 1), ⟨by dsimp only; omega, h2, t.done hin⟩, jC, VS.of_le ?_⟩
   exact leD
 obtain rfl : i = g.spots.length := by omega
 rw [← hnl] at t
 have hll := t.len
 have htd := t.turned hok
 refine IH (VS.frzR (b := bn) (T := 49) (E := 3) (sz := 1) (f := Gj) 8 rfl (fun _ => rfl) [.cells bo 51 [.d (AO g.spots), .int 0, .val (.slice (some ⟨bn, 0, none⟩) g.spots.length g.spots.length), .val (.slice none 0 0), .int 0]] [.cells bg 51 [.d (AO g.spots), .int g.init, .d (Bp g.next), .d (BA g.sets), .int g.many], .cells bt 51 [.val (.slice none 0 0), .int 0, .val (.slice none 0 0), .val (.slice none 0 0), .int 0]] qs ls [] jB (fun l hl => by have := t.few l hl; omega)) ?_
 refine IH (hD (f := Kf) (h1 := [.cells bo 51 [.d (AO g.spots), .int 0, .val (.slice (some ⟨bn, 0, none⟩) g.spots.length g.spots.length), .val (.slice none 0 0), .int 0]]) (h2 := [.cells bg 51 [.d (AO g.spots), .int g.init, .d (Bp g.next), .d (BA g.sets), .int g.many], .cells bt 51 [.val (.slice none 0 0), .int 0, .val (.slice none 0 0), .val (.slice none 0 0), .int 0]]) (xs := ls) (n := g.spots.length) (h' := [.cells bo 51 [.d (AO g.spots), .int 0, .d (Bp ls), .val (.slice none 0 0), .int 0], .cells bg 51 [.d (AO g.spots), .int g.init, .d (Bp g.next), .d (BA g.sets), .int g.many], .cells bt 51 [.val (.slice none 0 0), .int 0, .val (.slice none 0 0), .val (.slice none 0 0), .int 0]]) 24 rfl rfl (Lu ls) jB (fun _ => rfl) jB jB (CvE.refl _ _ _) (CvH.cells (.cons (.same _) (.cons (.same _) (.cons .here (Cvs.refl _ _ _)))) (.refl _))) ?_
 repeat' (first | exact jA | refine Cb ?_ | refine two ?_ ?_ | refine AB fun c_ => ?_ | refine imp fun hc => ?_; try exact cx hc | refine all fun v_ => ?_)
 exact D1 (xs := [.agg [.d (AO g.spots), .int 0, .d (Bp ls), .val (.slice none 0 0), .int 0]]) (ys := [gnA (g.back ls)]) vid ⟨Ax rfl (by (with_reducible exact ElC.h)) rfl AW rfl, trivial⟩ ⟨AV.le_agg ⟨AV.le_refl _, AV.le_refl _, AV.le_refl _, AV.le_nil 1 8, AV.le_refl _, trivial⟩, trivial⟩ rfl (h' := []) (jc _) ⟨⟨ls, htd⟩, rfl, rfl⟩
abbrev both (g : Gn) (i v : Nat) : Prop := Rch g.nx i v ∧ Rch g.nx v i
theorem KV (G : List (Nat × List D)) (g : Gr) (hw : ∀ g' : Gn, g'.gr = g → g'.ways g'.next.length ≤ 68719476736) : ACr Tryz.prog G 69 [grA g] (.tup [.d (AJ (partsOf g).1), .int (partsOf g).2]) := by
 refine AK (ts := [2, 3]) Tryz.f69.ntmps Tryz.func69 rfl rfl rfl (by simp [Tryz.ntmps69]) fun W I => ?_
 have E := M0 G g
 by_cases hk : ¬ okG g
 · have e : Hg g = 9 := if_neg hk
   rw [e] at E
   repeat' (first | refine ca Bg (E) ?_ | exact jA | refine AF ?_ | refine two ?_ ?_ | refine AB fun c_ => ?_ | refine imp fun hc => ?_; try exact cx1 hc | refine all fun v_ => ?_)
   refine AI (VS.trans jE (Cj (t := 2) 1 8 rfl)) ?_
   ((with_reducible apply rq2); rfl; rfl; rfl)
   exact AA (by rw [C4 hk]; rfl)
 obtain ⟨g, rfl, hok⟩ := GZ (jY hk)
 rw [FY (Gn.ok_gr hok)] at E
 rw [Lc] at E ⊢
 clear hk
 have hs := hok.size
 have hnl := hok.next
 have ET := Sv G g hok (hw g rfl)
 repeat' (first | refine ca Bg (E) ?_ | refine cgv BO (ET) ?_ | refine cag BO (ET) ?_ | exact jA | refine AF ?_ | refine two ?_ ?_ | refine AB fun c_ => ?_ | refine imp fun hc => ?_; try exact cx1 hc | refine all fun v_ => ?_)
 rename_i bg tv bb
 obtain ⟨ls, td⟩ := tv
 dsimp only at *
 have tlt := td.lt hok
 have tln : (g.back ls).next.length = (g.back ls).spots.length := td.len
 refine AG (X := List Int × Nat) (fun y => [(1, .val (.pointer (some ⟨bg, 0, none⟩))), (5, .val (.pointer (some ⟨bb, 0, none⟩))), (6, .val (.slice (some ⟨v_, 0, none⟩) g.spots.length g.spots.length)), (7, .int y.2)]) (fun y => [.cells v_ 3 (y.1.map AV.int), .cells bb 51 [.d (AO (g.back ls).spots), .int (g.back ls).init, .d (Bp (g.back ls).next), .d (BA (g.back ls).sets), .int (g.back ls).many], .cells bg 51 [.d (AO g.spots), .int g.init, .d (Bp g.next), .d (BA g.sets), .int g.many]]) (fun y => y.2 ≤ g.spots.length ∧ y.1.length = g.spots.length ∧ ∀ j, j < y.2 → gi y.1 j = -1) (fun y => g.spots.length - y.2) (List.replicate g.spots.length 0, 0) ⟨Nat.zero_le _, by simp, fun j h => absurd h (Nat.not_lt_zero j)⟩ (VS.of_le ?_) ?_
 · exact leD
 rintro ⟨pt, i⟩ ⟨h1, h2, h3⟩
 dsimp only at h1 h2 h3 ⊢
 by_cases hi : i < g.spots.length
 · repeat' (first | refine ca Bg (E) ?_ | refine cgv BO (ET) ?_ | refine cag BO (ET) ?_ | exact jA | refine AF ?_ | refine two ?_ ?_ | refine AB fun c_ => ?_ | refine imp fun hc => ?_; try exact cx1 hc | refine all fun v_ => ?_)
   refine ⟨(pt.set i (-1), i + 1), ⟨by dsimp only; omega, by simp [h2], fun j hj => ?_⟩, jC, VS.of_le ?_⟩
   · dsimp only at hj ⊢
     rw [Bt _ _ _ _ jB]
     split
     · rfl
     · exact h3 j jB
   · exact leD
 obtain rfl : i = g.spots.length := by omega
 obtain rfl : pt = List.replicate g.spots.length (-1) := by
  apply List.ext_getElem
  · simp [h2]
  · intro j a b
    have := h3 j jB
    rw [B0 _ _ a] at this
    simp [this]
 clear h1 h2 h3 hi
 repeat' (first | refine ca Bg (E) ?_ | refine cgv BO (ET) ?_ | refine cag BO (ET) ?_ | exact jA | refine AF ?_ | refine two ?_ ?_ | refine AB fun c_ => ?_ | refine imp fun hc => ?_; try exact cx1 hc | refine all fun v_ => ?_)
 refine AG (X := List Int × Nat) (fun y => [(1, .val (.pointer (some ⟨bg, 0, none⟩))), (5, .val (.pointer (some ⟨bb, 0, none⟩))), (6, .val (.slice (some ⟨v_, 0, none⟩) g.spots.length g.spots.length)), (8, .int y.2)]) (fun y => [.cells v_ 3 (y.1.map AV.int), .cells bb 51 [.d (AO (g.back ls).spots), .int (g.back ls).init, .d (Bp (g.back ls).next), .d (BA (g.back ls).sets), .int (g.back ls).many], .cells bg 51 [.d (AO g.spots), .int g.init, .d (Bp g.next), .d (BA g.sets), .int g.many]]) (fun y => y.2 ≤ g.spots.length ∧ PaI g y.2 y.1) (fun y => g.spots.length - y.2) (List.replicate g.spots.length (-1), 0) ⟨Nat.zero_le _, PaI.start g⟩ (VS.of_le ?_) ?_
 · exact leD
 rintro ⟨pt, i⟩ ⟨h1, t⟩
 dsimp only at h1 t ⊢
 have hpl := t.1
 by_cases hi : ¬ i < g.spots.length
 · obtain rfl : i = g.spots.length := by omega
   have e := t.all
   repeat' (first | refine ca Bg (E) ?_ | refine cgv BO (ET) ?_ | refine cag BO (ET) ?_ | exact jA | refine AF ?_ | refine two ?_ ?_ | refine AB fun c_ => ?_ | refine imp fun hc => ?_; try exact cx1 hc | refine all fun v_ => ?_)
   refine AI (VS.trans (VS.drop (h' := [.cells v_ 3 (pt.map AV.int)]) IE) (vfz (t := 2) (f := AS) (h1 := []) 1 8 rfl rfl rfl (I9 pt) hpl (fun _ => rfl) jB jB)) ?_
   ((with_reducible apply rq2); rfl; rfl; rfl)
   exact AA (by rw [Hy hok, e])
 replace hi := jY hi
 have hgi : gi pt i = pt[i]'jB := B0 _ _ _
 by_cases h0 : 0 ≤ pt[i]'jB
 · have t' := t.old hi (by rw [hgi]; exact h0)
   repeat' (first | refine ca Bg (E) ?_ | refine cgv BO (ET) ?_ | refine cag BO (ET) ?_ | exact jA | refine AF ?_ | refine two ?_ ?_ | refine AB fun c_ => ?_ | refine imp fun hc => ?_; try exact cx1 hc | refine all fun v_ => ?_)
   refine ⟨(pt, i + 1), ⟨by dsimp only; omega, t'⟩, jC, VS.of_le ?_⟩
   exact leD
 have hone : ∀ j ∈ [i], j < g.spots.length := fun j hj => by simp at hj; omega
 have E1 := GO G g [i] hnl (fun i => g.nx_lt hok i) hone hs
 have E2 := GO G (g.back ls) [i] tln tlt hone hs
 have f1 : ∀ k (h : k < (Dk g.nx g.spots.length [i]).length), (Dk g.nx g.spots.length [i])[k] = true ↔ Rch g.nx i k := fun k h => by
  rw [← It _ _ h, Rf (by simpa [Dk] using h)]; simp
 have f2 : ∀ k (h : k < (Dk (g.back ls).nx (g.back ls).spots.length [i]).length), (Dk (g.back ls).nx (g.back ls).spots.length [i])[k] = true ↔ Rch g.nx k i := fun k h => by
  rw [← It _ _ h, Rf (by simpa [Dk] using h), ← td.rch]; simp
 have l1 : (Dk g.nx g.spots.length [i]).length = g.spots.length := by simp [Dk]
 have l2 : (Dk (g.back ls).nx (g.back ls).spots.length [i]).length = g.spots.length := by simp [Dk, Gn.back]
 generalize Dk g.nx g.spots.length [i] = la at E1 f1 l1
 generalize Dk (g.back ls).nx (g.back ls).spots.length [i] = lb at E2 f2 l2
 repeat' (first | refine ca Ds (E1) ?_ | refine ca Ds (E2) ?_ | exact jA | refine AF ?_ | refine two ?_ ?_ | refine AB fun c_ => ?_ | refine imp fun hc => ?_; try exact cx1 hc | refine all fun v_ => ?_)
 refine AG (X := List Int × Nat) (fun y => [(1, .val (.pointer (some ⟨bg, 0, none⟩))), (5, .val (.pointer (some ⟨bb, 0, none⟩))), (6, .val (.slice (some ⟨v_, 0, none⟩) g.spots.length g.spots.length)), (8, .int i), (9, .d (Ap la)), (10, .d (Ap lb)), (11, .int y.2)]) (fun y => [.cells v_ 3 (y.1.map AV.int), .cells bb 51 [.d (AO (g.back ls).spots), .int (g.back ls).init, .d (Bp (g.back ls).next), .d (BA (g.back ls).sets), .int (g.back ls).many], .cells bg 51 [.d (AO g.spots), .int g.init, .d (Bp g.next), .d (BA g.sets), .int g.many]]) (fun y => y.2 ≤ g.spots.length ∧ y.1.length = g.spots.length ∧ (∀ v, v < y.2 → both g i v → gi y.1 v = i) ∧ ∀ v, (¬ v < y.2 ∨ ¬ both g i v) → gi y.1 v = gi pt v) (fun y => g.spots.length - y.2) (pt, 0) ⟨Nat.zero_le _, hpl, fun v h => absurd h (Nat.not_lt_zero v), fun _ _ => rfl⟩ (VS.of_le ?_) ?_
 · exact leD
 rintro ⟨p2, k⟩ ⟨k1, k2, k3, k4⟩
 dsimp only at k1 k2 k3 k4 ⊢
 by_cases hk : ¬ k < g.spots.length
 · repeat' (first | exact jA | refine AF ?_ | refine two ?_ ?_ | refine AB fun c_ => ?_ | refine imp fun hc => ?_; try exact cx1 hc | refine all fun v_ => ?_)
   refine ⟨(p2, i + 1), ⟨by dsimp only; omega, t.new hi (by rw [hgi]; exact h0) k2 fun v hv => ⟨fun h => k3 v jB h, fun h => k4 v (.inr h)⟩⟩, jC, VS.of_le ?_⟩
   exact leD
 replace hk := jY hk
 have g1 := f1 k jB
 have g2 := f2 k jB
 repeat' (first | exact jA | refine AF ?_ | refine two ?_ ?_ | refine AB fun c_ => ?_ | refine imp fun hc => ?_; try exact cx1 hc | refine all fun v_ => ?_)
 all_goals first
  | (refine ⟨(p2.set k i, k + 1), ⟨by dsimp only; omega, by simp [k2], fun v hv hb => ?_, fun v hv => ?_⟩, jC, VS.of_le ?_⟩
     · dsimp only at hv ⊢
       rw [Bt _ _ _ _ jB]
       split
       · rfl
       · exact k3 v jB hb
     · dsimp only at hv ⊢
       rw [Bt _ _ _ _ jB]
       split
       · rename_i ev
         subst ev
         rcases hv with h | h
         · omega
         · exact absurd ⟨g1.1 (by assumption), g2.1 (by assumption)⟩ h
       · exact k4 v (by rcases hv with h | h; exact .inl jB; exact .inr h)
     · exact leD)
  | (refine ⟨(p2, k + 1), ⟨by dsimp only; omega, k2, fun v hv hb => ?_, fun v hv => k4 v (by rcases hv with h | h; exact .inl (by dsimp only at h; omega); exact .inr h)⟩, jC, VS.of_le ?_⟩
     · dsimp only at hv ⊢
       by_cases ev : v = k
       · subst ev
         exfalso
         simp_all
       · exact k3 v jB hb
     · exact leD)
theorem WU : Cal Tryz.prog 60 := Cal.of Tryz.func60 (by kernel_rfl) (by kernel_rfl)
theorem Wy : Cal Tryz.prog 32 := Cal.of Tryz.func32 (by kernel_rfl) (by kernel_rfl)
theorem J0 : Cal Tryz.prog 37 := Cal.of Tryz.func37 (by kernel_rfl) (by kernel_rfl)
theorem gx (G : List (Nat × List D)) (g : Gn) (hok : g.ok) (pn : List Nat) (hpn : pn.length = g.spots.length) (hpl : ∀ (i : Nat) (h : i < pn.length), pn[i] < g.spots.length) : ACr Tryz.prog G 60 [gnA g, .d (BA pn)] (.d (Ap (IL g pn))) := by
 refine AC.factN (g := Kf) (f := Gj) (xss := g.next) 1 8 (fun _ => rfl) (.agg (.there (.there .here))) fun hN => ?_
 refine AK (ts := [4]) Tryz.f60.ntmps Tryz.func60 rfl rfl rfl (by simp [Tryz.ntmps60]) fun W I => ?_
 have hs := hok.size
 have hnl := hok.next
 have hsl := hok.sets
 have h64 := UQ hok
 have hm6 := hok.many
 have hgs : ∀ (i : Nat) (h : i < g.sets.length), g.sets[i] < 64 := fun i h => by have := hok.bits i h; omega
 repeat' (first | exact jA | refine Cb ?_ | refine two ?_ ?_ | refine AB fun c_ => ?_ | refine imp fun hc => ?_; try exact cx hc | refine all fun v_ => ?_)
 refine ⟨?_⟩
 rename Nat => bg
 refine KH (X := Nat × Nat) (fun y => [(1, .d (BA pn)), (2, .val (.pointer (some ⟨bg, 0, none⟩))), (5, .int g.spots.length), (6, .val (.slice (some ⟨y.1, 0, none⟩) g.spots.length g.spots.length)), (7, .val (.slice (some ⟨y.2, 0, none⟩) g.spots.length g.spots.length))]) (fun y => [.cells y.1 4 ((List.replicate g.spots.length false).map AV.bool), .cells y.2 3 ((List.replicate g.spots.length 0).map AV.int), .cells bg 51 [.d (AO g.spots), .int g.init, .d (Bp g.next), .d (BA g.sets), .int g.many]]) ?_ ?_
 · repeat' (first | exact jA | refine AF ?_ | refine two ?_ ?_ | refine AB fun c_ => ?_ | refine imp fun hc => ?_; try exact cx1 hc | refine all fun v_ => ?_)
   all_goals
    refine ⟨(_, _), VS.take AH ?_⟩
    exact leD
 rintro ⟨bl, bs⟩
 dsimp only
 repeat' (first | exact jA | refine Cb ?_ | refine two ?_ ?_ | refine AB fun c_ => ?_ | refine imp fun hc => ?_; try exact cx hc | refine all fun v_ => ?_)
 refine AG (X := List Bool × List Int × Nat) (fun y => [(1, .d (BA pn)), (2, .val (.pointer (some ⟨bg, 0, none⟩))), (5, .int g.spots.length), (6, .val (.slice (some ⟨bl, 0, none⟩) g.spots.length g.spots.length)), (7, .val (.slice (some ⟨bs, 0, none⟩) g.spots.length g.spots.length)), (22, .d (Bp g.next)), (23, .int g.next.length), (24, .int y.2.2)]) (fun y => [.cells bl 4 (y.1.map AV.bool), .cells bs 3 (y.2.1.map AV.int), .cells bg 51 [.d (AO g.spots), .int g.init, .d (Bp g.next), .d (BA g.sets), .int g.many]]) (fun y => y.2.2 ≤ g.spots.length ∧ LoI g pn y.2.2 0 y.1 ∧ SeI g pn y.2.2 y.2.1) (fun y => g.spots.length - y.2.2) (List.replicate g.spots.length false, List.replicate g.spots.length 0, 0) ⟨Nat.zero_le _, LoI.start g pn, SeI.start g pn⟩ (VS.of_le ?_) ?_
 · exact leD
 rintro ⟨lo, st, i⟩ ⟨h1, t, q⟩
 dsimp only at h1 t q ⊢
 have hll := t.len
 have hsl2 := q.1
 by_cases hi : i < g.spots.length
 · have hpi := hpl i jB
   have hni := Gk pn i jB
   have hsi := Gk g.sets i jB
   have q2 := q.step hok (by rw [hni]; exact hpi)
   have hnx := g.nx_get i jB
   have hlj := hN (g.next[i]'jB) (jb _)
   rw [hni, hsi, B0 _ _ jB] at q2
   repeat' (first | exact jA | refine Cb ?_ | refine two ?_ ?_ | refine AB fun c_ => ?_ | refine imp fun hc => ?_; try exact cx hc | refine all fun v_ => ?_)
   refine AG (X := List Bool × Nat) (fun y => [(1, .d (BA pn)), (2, .val (.pointer (some ⟨bg, 0, none⟩))), (5, .int g.spots.length), (6, .val (.slice (some ⟨bl, 0, none⟩) g.spots.length g.spots.length)), (7, .val (.slice (some ⟨bs, 0, none⟩) g.spots.length g.spots.length)), (8, .int i), (22, .d (Bp g.next)), (23, .int g.next.length), (24, .int i), (43, .d (BA (g.next[i]'jB))), (44, .int (g.next[i]'jB).length), (45, .int y.2)]) (fun y => [.cells bl 4 (y.1.map AV.bool), .cells bs 3 ((st.set (pn[i]'jB) (bits .or .i64 (st[pn[i]'jB]'jB) (g.sets[i]'jB : Nat))).map AV.int), .cells bg 51 [.d (AO g.spots), .int g.init, .d (Bp g.next), .d (BA g.sets), .int g.many]]) (fun y => y.2 ≤ (g.next[i]'jB).length ∧ LoI g pn i y.2 y.1) (fun y => (g.next[i]'jB).length - y.2) (lo, 0) ⟨Nat.zero_le _, t⟩ (VS.of_le ?_) ?_
   · exact leD
   clear t
   rintro ⟨lo2, k⟩ ⟨k1, t⟩
   dsimp only at k1 t ⊢
   have hll2 := t.len
   by_cases hk : k < (g.next[i]'jB).length
   · have hk' : k < (g.nx i).length := by rw [hnx]; exact hk
     have hke : (g.nx i)[k] = (g.next[i]'jB)[k] := by simp only [hnx]
     have hto := g.nx_lt hok i _ (jb hk')
     rw [hke] at hto
     have hpk := hpl ((g.next[i]'jB)[k]) jB
     have hnk := Gk pn ((g.next[i]'jB)[k]) jB
     by_cases he : pn[(g.next[i]'jB)[k]]'jB = pn[i]'jB
     · have t2 := t.yes hk' (by rw [hke, hnk, hni]; exact he) (by rw [hni]; exact hpi)
       rw [hni] at t2
       repeat' (first | exact jA | refine Cb ?_ | refine two ?_ ?_ | refine AB fun c_ => ?_ | refine imp fun hc => ?_; try exact cx hc | refine all fun v_ => ?_)
       refine ⟨(lo2.set (pn[i]'jB) true, k + 1), ⟨by dsimp only; omega, t2⟩, jC, VS.of_le ?_⟩
       exact leD
     · have t2 := t.no hk' (by rw [hke, hnk, hni]; exact he)
       repeat' (first | exact jA | refine Cb ?_ | refine two ?_ ?_ | refine AB fun c_ => ?_ | refine imp fun hc => ?_; try exact cx hc | refine all fun v_ => ?_)
       refine ⟨(lo2, k + 1), ⟨by dsimp only; omega, t2⟩, jC, VS.of_le ?_⟩
       exact leD
   have ek : k = (g.nx i).length := by rw [hnx]; omega
   rw [ek] at t
   repeat' (first | exact jA | refine Cb ?_ | refine two ?_ ?_ | refine AB fun c_ => ?_ | refine imp fun hc => ?_; try exact cx hc | refine all fun v_ => ?_)
   refine ⟨(lo2, _, i + 1), ⟨by dsimp only; omega, t.done, q2⟩, jC, VS.of_le ?_⟩
   exact leD
 obtain rfl : i = g.spots.length := by omega
 have hp := PL g.many hm6
 have hp1 : (2 : Int) ^ (((g.many : Nat) : Int)).toNat = 2 ^ g.many := by rw [Int.toNat_natCast]
 have hp2 : Ao (1 * 2 ^ (((g.many : Nat) : Int)).toNat) := by rw [hp1]; unfold Ao; omega
 have hp3 : Ao (1 * 2 ^ (((g.many : Nat) : Int)).toNat - 1) := by rw [hp1]; unfold Ao; omega
 repeat' (first | exact jA | refine Cb ?_ | refine two ?_ ?_ | refine AB fun c_ => ?_ | refine imp fun hc => ?_; try exact cx hc | refine all fun v_ => ?_)
 refine AG (X := List Bool × Nat) (fun y => [(1, .d (BA pn)), (2, .val (.pointer (some ⟨bg, 0, none⟩))), (6, .val (.slice (some ⟨bl, 0, none⟩) g.spots.length g.spots.length)), (7, .val (.slice (some ⟨bs, 0, none⟩) g.spots.length g.spots.length)), (12, .val (.slice (some ⟨v_, 0, none⟩) g.spots.length g.spots.length)), (69, .int g.spots.length), (70, .int y.2)]) (fun y => [.cells v_ 4 (y.1.map AV.bool), .cells bl 4 (lo.map AV.bool), .cells bs 3 (st.map AV.int), .cells bg 51 [.d (AO g.spots), .int g.init, .d (Bp g.next), .d (BA g.sets), .int g.many]]) (fun y => y.2 ≤ g.spots.length ∧ y.1.length = g.spots.length ∧ ∀ v, v < y.2 → bi y.1 v = decide (I6 g pn v)) (fun y => g.spots.length - y.2) (List.replicate g.spots.length false, 0) ⟨Nat.zero_le _, by simp, fun v h => absurd h (Nat.not_lt_zero v)⟩ (VS.of_le ?_) ?_
 · exact leD
 rintro ⟨out, i⟩ ⟨k1, k2, k3⟩
 dsimp only at k1 k2 k3 ⊢
 by_cases hi : ¬ i < g.spots.length
 · obtain rfl : i = g.spots.length := by omega
   have e : out = IL g pn := by
    apply List.ext_getElem
    · simp [IL, k2]
    · intro j a b
      have := k3 j jB
      rw [It _ _ a] at this
      simp [IL, this]
   subst e
   repeat' (first | exact jA | refine Cb ?_ | refine two ?_ ?_ | refine AB fun c_ => ?_ | refine imp fun hc => ?_; try exact cx hc | refine all fun v_ => ?_)
   refine AI (VS.trans (VS.drop (h' := [.cells v_ 4 ((IL g pn).map AV.bool)]) IE) (vfz (t := 4) (f := IA) (h1 := []) 1 1 rfl rfl rfl (GA _) k2 (fun _ => rfl) jB jB)) ?_
   ((with_reducible apply rq1); rfl; rfl)
   exact AA rfl
 replace hi := jY hi
 have hni := Gk pn i jB
 have hbi := It lo i jB
 have hgi := B0 st i jB
 have hfi := ab t q hi
 have hset : ∀ b, b = decide (I6 g pn i) → ∀ v, v < i + 1 → bi (out.set i b) v = decide (I6 g pn v) := fun b hb v hv => by
  rw [K5 _ _ _ _ jB]
  split
  · rename_i e; subst e; exact hb
  · exact k3 v jB
 repeat' (first | exact jA | refine Cb ?_ | refine two ?_ ?_ | refine AB fun c_ => ?_ | refine imp fun hc => ?_; try exact cx hc | refine all fun v_ => ?_)
 all_goals
  refine ⟨(out.set i _, i + 1), ⟨by dsimp only; omega, by simp [k2], hset _ ?_⟩, jC, VS.of_le ?_⟩
  rotate_left
  · exact leD
  · first
     | (refine (decide_eq_false ?_).symm; rw [hfi, hni, hbi]; rintro ⟨a1, a2, a3⟩; first | omega | (simp_all; done))
     | (refine decide_eq_decide.2 ?_; rw [hfi, hni, hbi, hgi, Int.one_mul, hp1]; exact ⟨fun h => ⟨by omega, by assumption, h⟩, fun h => h.2.2⟩)
theorem gX (G : List (Nat × List D)) (g : Gr) : ACr Tryz.prog G 32 [grA g] (.tup [.int (EE g).1, .int (EE g).2]) := by
 refine AK (ts := [2, 3]) Tryz.f32.ntmps Tryz.func32 rfl rfl rfl (by simp [Tryz.ntmps32]) fun W I => ?_
 have E := gT G g
 by_cases hk : ¬ okG g
 · rw [C4 hk] at E
   dsimp only at E
   repeat' (first | refine ca Nk (E) ?_ | exact jA | refine Cb ?_ | refine two ?_ ?_ | refine AB fun c_ => ?_ | refine imp fun hc => ?_; try exact cx hc | refine all fun v_ => ?_)
   refine AI jE ?_
   ((with_reducible apply rq2); rfl; rfl; rfl)
   exact AA (by rw [Pr hk])
 obtain ⟨g, rfl, hok⟩ := GZ (jY hk)
 clear hk
 have E2 := Yy G g.gr
 rw [Hy hok, ← Mr, ← KQ] at E
 rw [FV hok] at E2
 rw [Lc] at E E2 ⊢
 dsimp only at E E2
 have hs := hok.size
 have hpl := Hs g
 have E3 := gx G g hok (EY g) hpl (RL g)
 have lr : (Bo g).length = g.spots.length := by simp [Bo]
 have lf : (IL g (EY g)).length = g.spots.length := by simp [IL]
 have fr : ∀ (i : Nat) (h : i < (Bo g).length), (Bo g)[i] = true ↔ CZ g i := fun i h => by simp [Bo]
 have ff : ∀ (i : Nat) (h : i < (IL g (EY g)).length), (IL g (EY g))[i] = true ↔ I6 g (EY g) i := fun i h => by simp [IL]
 generalize Bo g = rl at E2 lr fr
 generalize IL g (EY g) = fl at E3 lf ff
 repeat' (first | refine ca Nk (E) ?_ | refine ca Py (E2) ?_ | refine ca WU (E3) ?_ | exact jA | refine Cb ?_ | refine two ?_ ?_ | refine AB fun c_ => ?_ | refine imp fun hc => ?_; try exact cx hc | refine all fun v_ => ?_)
 rename Nat => bg
 refine AG (X := Nat) (fun i => [(6, .d (Ap rl)), (25, .d (Ap fl)), (26, .int g.spots.length), (27, .int i)]) (fun _ => [.cells bg 51 [.d (AO g.spots), .int g.init, .d (Bp g.next), .d (BA g.sets), .int g.many]]) (fun i => i ≤ g.spots.length ∧ ∀ j, j < i → ¬ Kr g j) (fun i => g.spots.length - i) 0 ⟨Nat.zero_le _, fun _ h => absurd h (Nat.not_lt_zero _)⟩ (VS.of_le ?_) ?_
 · rw [← lf]
   exact leD
 rintro i ⟨h1, h2⟩
 by_cases hi : ¬ i < g.spots.length
 · obtain rfl : i = g.spots.length := by omega
   repeat' (first | exact jA | refine Cb ?_ | refine two ?_ ?_ | refine AB fun c_ => ?_ | refine imp fun hc => ?_; try exact cx hc | refine all fun v_ => ?_)
   refine AI jE ?_
   ((with_reducible apply rq2); rfl; rfl; rfl)
   exact AA (by rw [JK hok, NG h2])
 replace hi := jY hi
 have g1 := fr i jB
 have g2 := ff i jB
 repeat' (first | exact jA | refine Cb ?_ | refine two ?_ ?_ | refine AB fun c_ => ?_ | refine imp fun hc => ?_; try exact cx hc | refine all fun v_ => ?_)
 all_goals first
  | (refine ⟨i + 1, ⟨by omega, fun j hj => ?_⟩, by omega, VS.of_le ?_⟩
     · by_cases e : j = i
       · subst e
         rintro ⟨a1, a2⟩
         simp_all
       · exact h2 j jB
     · exact leD)
  | (refine AI jE ?_
     ((with_reducible apply rq2); rfl; rfl; rfl)
     exact AA (by rw [JK hok, Sh h2 hi ⟨g1.1 (by assumption), g2.1 (by assumption)⟩]))
end Go.Proofs.YtnlfhnbcdfdhgaaGreatDoor
