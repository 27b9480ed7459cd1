/- A bundle of this claim's own texts: N17 E12. -/
import Derived.Test.YtibahljljjkceaaGreatDoorA2
import Derived.Test.YtibahljljjkceaaGreatDoorA13
import Derived.Test.YtibahljljjkceaaGreatDoorA30
import Derived.Test.YtibahljljjkceaaGreatDoorA31
import Derived.Test.YtibahljljjkceaaGreatDoorA32
import Derived.Test.YtibahljljjkceaaGreatDoorA33
set_option linter.unusedVariables false
set_option linter.unusedSimpArgs false
set_option maxRecDepth 100000
set_option maxHeartbeats 4000000
namespace Go.Proofs.YtibahljljjkceaaGreatDoor
open Go Go.Av Go.Sp
theorem HR : Cal Tryz.prog 25 := Cal.of Tryz.func25 (by kernel_rfl) (by kernel_rfl)
theorem RQ (t : Tk) (h : BH t ≠ 0) : ACr Tryz.prog GP 25 [tkA t] (.tup [grA (exG t), .int (Ae t).2]) := by
 have hB := Yb t
 have e1 : Ae t = (none, BH t) := by unfold Ae; rw [if_pos h]
 have e2 : A7 t = ([], BH t) := by unfold A7; rw [if_pos h]
 unfold exG
 rw [e1]
 rw [e2] at hB
 dsimp only at hB ⊢
 generalize BH t = e at h hB ⊢
 refine Ec (rs := [.cell 2 62, .tmp 3]) Tryz.f25.ntmps Tryz.func25 rfl rfl rfl (by simp [Tryz.ntmps25]) fun W I => ?_
 repeat' (first
  | refine ca NL (hB) ?_
  | exact True.intro | refine AD ?_ | refine two ?_ ?_ | refine AB fun c_ => ?_
  | (refine imp fun hc => ?_) <;> try exact cx1 hc
  | refine all fun v_ => ?_)
 exact J9 (xs := [.agg [.val (.slice none 0 0), .int 0, .val (.slice none 0 0), .val (.slice none 0 0), .int 0], .int e]) (ys := [.agg [.d (AO []), .int 0, .d (Cd []), .d (AK []), .int 0], .int e]) vid ⟨Dt rfl (by (with_reducible exact ElC.h)) rfl (by exact Az) rfl, FP rfl, trivial⟩ ⟨AV.le_agg ⟨AV.le_nil 2 16, AV.le_refl _, AV.le_nil 1 24, AV.le_nil 1 8, AV.le_refl _, trivial⟩, AV.le_refl _, trivial⟩ rfl (h' := []) (List.nil_sublist _) (AA rfl)
theorem PI (t : Tk) (h : BH t = 0) : ACr Tryz.prog GP 25 [tkA t] (.tup [grA (exG t), .int (Ae t).2]) := by
 have hB := Yb t
 have eB : (A7 t).2 = 0 := by unfold A7; rw [if_neg (fun k => k h)]
 rw [eB] at hB
 obtain ⟨h1, h2, h3⟩ := Bz h
 have hA := Vi t.formula t.props.length
 have eA : (AZ t.formula t.props.length).2 = 0 := by unfold AZ; rw [if_neg (fun k => k h2)]
 rw [eA] at hA
 have hAl := EH t.formula t.props.length
 have hBl := Jp t
 refine Ec (rs := [.cell 2 62, .tmp 3]) Tryz.f25.ntmps Tryz.func25 rfl rfl rfl (by simp [Tryz.ntmps25]) fun W I => ?_
 repeat' (first
  | refine ca NL (hB) ?_
  | refine ca Cc (hA) ?_
  | ((with_reducible apply (DN spV Gc)); (focus rfl))
  | exact True.intro | refine AR ?_ | refine two ?_ ?_
  | (refine imp fun hc => ?_) <;> try exact cx hc
  | refine all fun v_ => ?_)
 obtain ⟨ba, rfl⟩ : ∃ x, x = v_ := ⟨v_, rfl⟩
 obtain ⟨bm, rfl⟩ : ∃ x, x = v_ := ⟨v_, rfl⟩
 obtain ⟨br, rfl⟩ : ∃ x, x = v_ := ⟨v_, rfl⟩
 obtain ⟨bt, rfl⟩ : ∃ x, x = v_ := ⟨v_, rfl⟩
 have hnd : (A7 t).1.Nodup := Jx t 0
 have e0 : spF t 0 = (A7 t).1 := rfl
 generalize eBB : (A7 t).1 = B at hB hBl hnd e0
 generalize eAA : (AZ t.formula t.props.length).1 = A at hA hAl
 refine C4 (E := 82) (sz := 2) Fo.cells ?_
 refine C4 (E := 31) (sz := 1) EX ?_
 refine C4 (E := 3) (sz := 1) AW ?_
 refine AG (X := Nat × Sl) (fun y => [(1, .val (.pointer (some ⟨bt, 0, none⟩))), (2, .val (.pointer (some ⟨br, 0, none⟩))), (8, .val (.pointer (some ⟨ba, 0, none⟩))), (57, .d (AO B)), (58, .int B.length), (59, .int y.1)]) (fun y => [.cells ba 123 [.val y.2.v, .int B.length, .val Sl.nil.v, .val Sl.nil.v, .int A.length, .val (.map (some bm))], AM y.2.v 82 2 Fo.cells (B.take y.1), .raw bm (BE (Af spV Gc (HY (B.take y.1)))), AM Sl.nil.v 31 1 EX ([]), AM Sl.nil.v 3 1 AW ([]), .cells br 62 [.val (.slice none 0 0), .int 0, .val (.slice none 0 0), .val (.slice none 0 0), .int 0], .cells bt 29 [.d (Aq t.model.vars), .d (Ad t.model.rules), .d (Aw t.props), .d (AO t.formula)]]) (fun y => y.1 ≤ B.length) (fun y => B.length - y.1) (0, Sl.nil) (Nat.zero_le _) (VS.take (by exact AI) ?_) ?_
 · exact leD
 rintro ⟨j, q⟩ hj
 dsimp only at hj ⊢
 by_cases hjl : j < B.length
 · have hnew : B[j] ∉ B.take j := fun hm => by
    obtain ⟨i, hi, e⟩ := List.getElem_of_mem hm
    rw [List.getElem_take] at e
    have := (List.getElem_inj hnd).1 e
    rw [List.length_take] at hi; omega
   have et : B.take j ++ [B[j]] = B.take (j + 1) := (List.take_succ_eq_append_getElem hjl).symm
   have F := Mh ba bm q B.length A.length (.val (.slice none 0 0)) (.val (.slice none 0 0)) (B.take j) B[j] hnew (by rw [List.length_take]; omega)
   rw [et] at F
   repeat' (first
    | refine cgv Hv (F) ?_
    | exact True.intro | refine AR ?_ | refine two ?_ ?_
    | (refine imp fun hc => ?_) <;> try exact cx hc
    | refine all fun v_ => ?_)
   refine ⟨(j + 1, v_), by dsimp only; omega, by dsimp only; omega, VS.take (by exact AI) ?_⟩
   exact leD
 obtain rfl : j = B.length := by omega
 rw [List.take_length]
 repeat' (first
  | exact True.intro | refine AR ?_ | refine two ?_ ?_
  | (refine imp fun hc => ?_) <;> try exact cx hc
  | refine all fun v_ => ?_)
 refine AG (X := Nat × Sl × Sl × Sl) (fun y => [(1, .val (.pointer (some ⟨bt, 0, none⟩))), (2, .val (.pointer (some ⟨br, 0, none⟩))), (8, .val (.pointer (some ⟨ba, 0, none⟩))), (11, .int y.1)]) (fun y => [.cells ba 123 [.val y.2.1.v, .int B.length, .val y.2.2.1.v, .val y.2.2.2.v, .int A.length, .val (.map (some bm))], AM y.2.1.v 82 2 Fo.cells (spF t y.1), .raw bm (BE (Af spV Gc (HY (spF t y.1)))), AM y.2.2.1.v 31 1 EX ((List.range y.1).map (plF t)), AM y.2.2.2.v 3 1 AW ((List.range y.1).map (seF t)), .cells br 62 [.val (.slice none 0 0), .int 0, .val (.slice none 0 0), .val (.slice none 0 0), .int 0], .cells bt 29 [.d (Aq t.model.vars), .d (Ad t.model.rules), .d (Aw t.props), .d (AO t.formula)]]) (fun y => FR t y.1) (fun y => 20001 - y.1) (0, q, Sl.nil, Sl.nil) ⟨h, fun j hj => absurd hj (Nat.not_lt_zero j)⟩ (VS.take (by dsimp only; rw [e0]; exact AI) ?_) ?_
 · exact leD
 clear hnd e0
 rintro ⟨i, q, qn, qs⟩ hg
 dsimp only at hg ⊢
 have hfew := hg.few
 have hle := hg.le
 have hln : ((List.range i).map (plF t)).length = i := by simp
 have hls : ((List.range i).map (seF t)).length = i := by simp
 by_cases hil : i < (spF t i).length
 · obtain ⟨e1, e2, e3⟩ := Lz hil
   have hful := fun hl => hg.full hil hl
   have hnext := fun hl => hg.next hil hl
   have hL := OR t.model t.props (spF t i)[i].kind
   have hM := aB t.formula (EU t.model t.props (spF t i)[i].kind).1 (spF t i)[i].val
   have hBh := Za t (spF t i)[i].kind (spF t i)[i].val
   have hbl := IX t (spF t i)[i].kind (spF t i)[i].val h3
   rw [← e3] at hM
   generalize (EU t.model t.props (spF t i)[i].kind) = lp at hL hM
   generalize hse : seF t i = se at hM e3
   generalize A2 t (spF t i)[i].kind (spF t i)[i].val = bp at hBh hbl e1 e2 hful
   obtain ⟨bs, be⟩ := bp
   dsimp only at hBh hbl e1 e2 hful
   repeat' (first
    | refine ca Gv (hL) ?_
    | refine ca S2 (hM) ?_
    | refine ca Qz (hBh) ?_
    | ((with_reducible apply jp); (focus ((with_reducible apply Dc); (focus rfl); (focus (with_reducible exact ElC.h)); (focus rfl); (focus exact Az); (focus exact fun _ => rfl); (focus omega))); (focus rfl))
    | exact True.intro | refine AR ?_ | refine two ?_ ?_
    | (refine imp fun hc => ?_) <;> try exact cx hc
    | refine all fun v_ => ?_)
   refine C4 (E := 3) (sz := 1) AW ?_
   refine AG (X := Nat × Sl × Sl) (fun y => [(1, .val (.pointer (some ⟨bt, 0, none⟩))), (2, .val (.pointer (some ⟨br, 0, none⟩))), (8, .val (.pointer (some ⟨ba, 0, none⟩))), (11, .int i), (15, .int se), (17, .val y.2.2.v), (110, .d (AO bs)), (111, .int bs.length), (112, .int y.1)]) (fun y => [AM y.2.2.v 3 1 AW (Be (spF t i) (bs.take y.1)).2, .cells ba 123 [.val y.2.1.v, .int B.length, .val qn.v, .val qs.v, .int A.length, .val (.map (some bm))], AM y.2.1.v 82 2 Fo.cells ((Be (spF t i) (bs.take y.1)).1), .raw bm (BE (Af spV Gc (HY ((Be (spF t i) (bs.take y.1)).1)))), AM qn.v 31 1 EX ((List.range i).map (plF t)), AM qs.v 3 1 AW ((List.range i).map (seF t)), .cells br 62 [.val (.slice none 0 0), .int 0, .val (.slice none 0 0), .val (.slice none 0 0), .int 0], .cells bt 29 [.d (Aq t.model.vars), .d (Ad t.model.rules), .d (Aw t.props), .d (AO t.formula)]]) (fun y => y.1 ≤ bs.length ∧ (Be (spF t i) (bs.take y.1)).1.length ≤ 20000) (fun y => bs.length - y.1) (0, q, Sl.nil) ⟨Nat.zero_le _, hfew⟩ (VS.take (by exact AI) ?_) ?_
   · exact leD
   clear q
   rintro ⟨k, q, p⟩ ⟨hk, hkl⟩
   dsimp only at hk hkl ⊢
   have hpl : (Be (spF t i) (bs.take k)).2.length = k := by rw [EV, List.length_take]; omega
   by_cases hkb : k < bs.length
   · have hst := J4 bs (spF t i) k hkb
     have hgr := Mp bs (spF t i) (k + 1) (bs.length - (k + 1))
     rw [show k + 1 + (bs.length - (k + 1)) = bs.length by omega, List.take_length] at hgr
     rw [hst] at hgr
     dsimp only at hgr
     generalize Be (spF t i) (bs.take k) = R at hst hgr hkl hpl ⊢
     by_cases hb : bs[k] ∈ R.1
     · have F := Tz ba bm q B.length A.length (.val qn.v) (.val qs.v) R.1 bs[k] hb
       rw [SH hb] at hst
       repeat' (first
        | refine cgv Hv (F) ?_
        | exact True.intro | refine AR ?_ | refine two ?_ ?_
        | (refine imp fun hc => ?_) <;> try exact cx hc
        | refine all fun v_ => ?_)
       refine ⟨(k + 1, q, v_), ⟨by dsimp only; omega, by dsimp only; rw [hst]; exact hkl⟩, by dsimp only; omega, VS.take (by dsimp only; rw [hst]; exact AI) ?_⟩
       exact leD
     rw [QB hb] at hst hgr
     by_cases hl : R.1.length < 20000
     · have F := Mh ba bm q B.length A.length (.val qn.v) (.val qs.v) R.1 bs[k] hb hl
       repeat' (first
        | refine cgv Hv (F) ?_
        | exact True.intro | refine AR ?_ | refine two ?_ ?_
        | (refine imp fun hc => ?_) <;> try exact cx hc
        | refine all fun v_ => ?_)
       obtain ⟨p2, rfl⟩ : ∃ x, x = v_ := ⟨v_, rfl⟩
       refine ⟨(k + 1, v_, p2), ⟨by dsimp only; omega, by dsimp only; rw [hst]; simp; omega⟩, by dsimp only; omega, VS.take (by dsimp only; rw [hst]; exact AI) ?_⟩
       exact leD
     · have F := Qx ba bm q B.length A.length (.val qn.v) (.val qs.v) R.1 bs[k] hb (by omega)
       have hx := hful (by rw [List.length_append, List.length_singleton] at hgr; omega)
       repeat' (first
        | refine cgv Hv (F) ?_
        | exact True.intro | refine AR ?_ | refine two ?_ ?_
        | (refine imp fun hc => ?_) <;> try exact cx hc
        | refine all fun v_ => ?_)
       unfold exG
       rw [hx]
       exact J9 (xs := [.agg [.val (.slice none 0 0), .int 0, .val (.slice none 0 0), .val (.slice none 0 0), .int 0], .int 12]) (ys := [.agg [.d (AO []), .int 0, .d (Cd []), .d (AK []), .int 0], .int 12]) vid ⟨Dt rfl (by (with_reducible exact ElC.h)) rfl (by exact Az) rfl, FP rfl, trivial⟩ ⟨AV.le_agg ⟨AV.le_nil 2 16, AV.le_refl _, AV.le_nil 1 24, AV.le_nil 1 8, AV.le_refl _, trivial⟩, AV.le_refl _, trivial⟩ rfl (h' := []) (List.nil_sublist _) (AA rfl)
   obtain rfl : k = bs.length := by omega
   rw [List.take_length] at hkl hpl ⊢
   rw [← e1] at hkl
   rw [← e1, ← e2]
   rw [← e2] at hpl
   refine Ho (Bf (t := 17) (eb := 8) rfl rfl (fun x => rfl) (by omega)) ?_
   repeat' (first
    | ((with_reducible apply (Ea (f := EX) (u := plF t i))); (focus rfl); (focus rfl); (focus (with_reducible exact ElC.h)); (focus exact Db); (focus rfl); (focus rfl); (focus rfl); (focus rfl); (focus exact BI); (focus exact BI))
    | exact True.intro | refine AR ?_ | refine two ?_ ?_
    | (refine imp fun hc => ?_) <;> try exact cx hc
    | refine all fun v_ => ?_)
   obtain ⟨qs2, rfl⟩ : ∃ x, x = v_ := ⟨v_, rfl⟩
   obtain ⟨qn2, rfl⟩ : ∃ x, x = v_ := ⟨v_, rfl⟩
   have ep : (List.range (i + 1)).map (plF t) = (List.range i).map (plF t) ++ [plF t i] := by rw [List.range_succ, List.map_append]; rfl
   have es : (List.range (i + 1)).map (seF t) = (List.range i).map (seF t) ++ [se] := by rw [List.range_succ, List.map_append, ← hse]; rfl
   refine ⟨(i + 1, q, qn2, qs2), hnext hkl, by dsimp only; omega, VS.take (by dsimp only; rw [ep, es]; exact AI) ?_⟩
   exact leD
 have hx := hg.all (by omega)
 have hi2 : i ≤ 20000 := by omega
 repeat' (first
  | exact True.intro | refine AR ?_ | refine two ?_ ?_
  | (refine imp fun hc => ?_) <;> try exact cx hc
  | refine all fun v_ => ?_)
 have eG : exG t = ⟨spF t i, B.length, (List.range i).map (plF t), (List.range i).map (seF t), A.length⟩ := by
  unfold exG; rw [hx]; dsimp only; rw [eBB, eAA]
 rw [eG, hx]
 generalize (List.range i).map (plF t) = nx at hln ⊢
 generalize (List.range i).map (seF t) = st at hls ⊢
 generalize spF t i = sp at hfew ⊢
 refine Tl (VS.trans (VS.take (hc := [AM q.v 82 2 Fo.cells sp, AM qn.v 31 1 EX nx, AM qs.v 3 1 AW st, .cells br 62 [.val q.v, .int B.length, .val qn.v, .val qs.v, .int A.length]]) (by exact AI) (Env.le_refl _))
  (VS.trans (Gj (h1 := []) (h' := [AM qn.v 31 1 EX nx, AM qs.v 3 1 AW st, .cells br 62 [.d (AO sp), .int B.length, .val qn.v, .val qs.v, .int A.length]]) 16 rfl rfl (fun _ => rfl) (by omega) (CvE.refl _ _ _) ?_)
  (VS.trans (Gj (h1 := []) (h' := [AM qs.v 3 1 AW st, .cells br 62 [.d (AO sp), .int B.length, .d (Cd nx), .val qs.v, .int A.length]]) 24 rfl rfl (fun _ => rfl) (by omega) (CvE.refl _ _ _) ?_)
  (Gj (h1 := []) (h' := [.cells br 62 [.d (AO sp), .int B.length, .d (Cd nx), .d (AK st), .int A.length]]) 8 rfl rfl (fun _ => rfl) (by omega) (CvE.refl _ _ _) ?_)))) (xs := [.agg [.d (AO sp), .int B.length, .d (Cd nx), .d (AK st), .int A.length], .int 0]) ⟨Dt rfl (by (with_reducible exact ElC.h)) rfl (by exact Az) rfl, FP rfl, trivial⟩ rfl (h' := []) (List.nil_sublist _) (AA rfl)
 · exact .keep (.keep (.cells (.cons .here (.cons (.same _) (.cons (.same _) (.cons (.same _) (.cons (.same _) .nil))))) (.refl _)))
 · exact .keep (.cells (.cons (.same _) (.cons (.same _) (.cons .here (.cons (.same _) (.cons (.same _) .nil))))) (.refl _))
 · exact .cells (.cons (.same _) (.cons (.same _) (.cons (.same _) (.cons .here (.cons (.same _) .nil))))) (.refl _)
theorem Nn (t : Tk) : ACr Tryz.prog GP 25 [tkA t] (.tup [grA (exG t), .int (Ae t).2]) := by
 by_cases h : BH t = 0
 · exact PI t h
 · exact RQ t h
end Go.Proofs.YtibahljljjkceaaGreatDoor
namespace Go.Av
open Go
section
variable {k : Kx} {Q : Exit → Env → H → Prop} {ρ : Env} {h : H} {ops : Array Oper} {l : List Oper} {d : Nat} {ty : TypeId} {pos : String} {after : Array Edge}
theorem YX {f : FuncId} {xs : Array Operand} {ats : Array TypeId} {es args : List AV} {v : Value} (hxs : Io ρ xs.toList = some es) (hcal : Cal k.P f) (hac : ACr k.P k.c.G f args (.val v)) (hb : Sa h es args) (hd : Nat.blt d k.n = true)
 (hj : JL k ops l Q ((d, .val v) :: ρ) h) : JL k ops (⟨some d, .call { callee := .value (.func f), args := xs, argTypes := ats }, ty, pos, after, none⟩ :: l) Q ρ h :=
 jbor (caps := #[]) rfl hxs hcal hac (by simpa using hb) hd hj
end
end Go.Av
