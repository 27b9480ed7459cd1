/- Own texts. -/
import Derived.Test.YtnlfhnbcdfdhgaaGreatDoorA26
import Derived.Test.YtnlfhnbcdfdhgaaGreatDoorA33
set_option linter.unusedVariables false
set_option linter.unusedSimpArgs false
set_option maxRecDepth 100000
set_option maxHeartbeats 4000000
namespace Go.Proofs.YtnlfhnbcdfdhgaaGreatDoor
open Go Go.Av Go.Sp
theorem Pk : Cal Tryz.prog 54 := Cal.of Tryz.func54 (by kernel_rfl) (by kernel_rfl)
noncomputable abbrev srF (t : Tk) (x : Ms) : Sr := ⟨x.up, x.n, x.m, ⟨dtF t x.n, byF t x.s⟩, ⟨false, 0, 0, 0, x.a, false, false⟩⟩
noncomputable abbrev skM (bs : Nat) (t : Tk) (x : Ms) (v : Sl × Sto) : H := skH bs t (spF t x.n) (srF t x) v
theorem W9 (bs : Nat) (t : Tk) (x : Ms) (v : Sl × Sto) (h : x.n = (spF t x.n).length) :
 AC Tryz.prog GP 54 [.val (.pointer (some ⟨bs, 0, none⟩))] (skM bs t x v) fun e h => ∃ _ : Unit, e = .ret (.bool false) ∧ h = skM bs t x v := by
 obtain ⟨q, s⟩ := v
 refine AK (ts := [2]) Tryz.f54.ntmps Tryz.func54 rfl rfl rfl (by simp [Tryz.ntmps54]) fun W I => ?_
 unfold skM srF skH skC skD
 generalize spF t x.n = L at h ⊢
 dsimp only
 all_goals haveI fH_ : Ld := ⟨⟩
 repeat' (first | exact jA | refine stp ?_ | refine two ?_ ?_ | refine AB fun c_ => ?_ | refine imp fun hc => ?_; try exact cx1 hc | refine all fun v_ => ?_)
 all_goals clear fH_
 refine A0 ?_
 ((with_reducible apply rq1); rfl; rfl)
 exact ⟨(), rfl, rfl⟩
theorem Yx (bs : Nat) (t : Tk) (e : Exp) (g : Grown t e) (x : Ms) (hI : MsI t e x) (ha : x.a ≤ 1000000000) (v : Gp (spF t x.n)) (hk : x.n < nkF t x.n) :
 AC Tryz.prog GP 54 [.val (.pointer (some ⟨bs, 0, none⟩))] (skM bs t x v.1) fun r h => ∃ w : Gp (spF t (wkF t 1 x).n), r = .ret (.bool (decide (JZ t x))) ∧ h = skM bs t (wkF t 1 x) w.1 := by
 obtain ⟨⟨q, s⟩, hm⟩ := v
 have hN := hI.lt g hk
 have hat : (spF t x.n)[x.n]? = some e.spots[x.n] := g.at hN
 have hnw := g.nw hN
 have hnk := g.newK hN
 have hsm := HA g.task x.n
 have hsm2 := HA g.task (x.n + 1)
 have hnd2 := Fc t (x.n + 1)
 have hfew2 := g.nk (i := x.n + 1) hN
 have hf := g.few
 have hbl := IT g.task e.spots[x.n].kind e.spots[x.n].val
 have hgr := g.goodRc hN
 have hlt : x.n < (spF t x.n).length := hk
 have hget : (spF t x.n)[x.n] = e.spots[x.n] := by rw [List.getElem?_eq_getElem hlt] at hat; exact Option.some.inj hat
 have hBh := aq t ((spF t x.n)[x.n]'hlt).kind ((spF t x.n)[x.n]'hlt).val
 have eB : Ai t ((spF t x.n)[x.n]'hlt).kind ((spF t x.n)[x.n]'hlt).val = Ai t e.spots[x.n].kind e.spots[x.n].val := by rw [hget]
 rw [eB] at hBh
 clear hget eB hat
 generalize Ai t e.spots[x.n].kind e.spots[x.n].val = bp at hBh hbl hnw hnk
 obtain ⟨B, be⟩ := bp
 dsimp only at hBh hbl hnw hnk
 unfold nkF at hfew2
 dsimp only at hm ⊢
 have hne : ¬ (x.n : Int) = ((spF t x.n).length : Nat) := by omega
 unfold skM srF skH skC skD
 dsimp only
 refine AK (ts := [2]) Tryz.f54.ntmps Tryz.func54 rfl rfl rfl (by simp [Tryz.ntmps54]) fun W I => ?_
 haveI fH_ : Ld := ⟨⟩
 haveI fS_ : Jw 1 := ⟨⟩
 repeat' (first | exact jA | refine stp ?_ | refine two ?_ ?_ | refine AB fun c_ => ?_ | refine imp fun hc => ?_; try exact cx1 hc | refine all fun v_ => ?_)
 clear fH_ fS_
 refine ⟨?_⟩
 refine KH (X := Unit) (fun _ => [(0, .val (.pointer (some ⟨bs, 0, none⟩))), (2, .bool false), (3, .d (AO B))]) (fun _ => [skC bs t q s (srF t x), AL q.v 106 2 Fo.cells (spF t x.n)]) ?_ ?_
 · refine Gf [] mixed rfl (by (repeat (with_reducible apply Al)); exact len_nil) (by decide +kernel) BF ?_
   repeat' (first | refine ca NR (hBh) ?_ | exact jA | refine iY ?_ | refine cN ?_ | refine stp ?_ | refine two ?_ ?_ | refine AB fun c_ => ?_ | refine imp fun hc => ?_; try exact cx1 hc | refine all fun v_ => ?_)
   all_goals
    refine ⟨(), VS.take AH ?_⟩
    exact leD
 intro _
 repeat' (first | with_reducible apply Pt | with_reducible apply Rb | with_reducible apply Vu | with_reducible apply QN | ((with_reducible apply jp); exact Fq; rfl) | with_reducible apply En | refine all fun v_ => ?_)
 refine cy (a := x.n) rfl rfl (by (with_reducible exact ElC.h)) rfl ?_
 repeat' (first | refine ic ?_ | refine WI ?_ | refine i6 (Bc (AY .i64)) ?_ | exact jA | refine AF ?_ | refine two ?_ ?_ | refine AB fun c_ => ?_ | refine imp fun hc => ?_; try exact cx1 hc | refine all fun v_ => ?_)
 obtain ⟨bm, rfl⟩ : ∃ x, x = v_ := ⟨v_, rfl⟩
 obtain ⟨p0, rfl⟩ : ∃ x, x = v_ := ⟨v_, rfl⟩
 have hsB : ∀ b ∈ B, C9 b := fun b hb => hsm2 b (by rw [hnw, ← LX, List.take_length]; exact (KL _ _ _).2 (.inr hb))
 have hnwB : ∀ k, ∀ b ∈ nwF (spF t x.n) B k, C9 b := fun k b hb => by
  have h1 : b ∈ (BQ (spF t x.n) (B.take k)).1 := by rw [LX]; exact List.mem_append_right _ hb
  rcases (KL _ _ _).1 h1 with h | h
  · exact hsm b h
  · exact hsB b (List.mem_of_mem_take h)
 refine AG (X := Nat × Sl) (fun y => [(0, .val (.pointer (some ⟨bs, 0, none⟩))), (2, .bool false), (5, .val y.2.v), (6, .val (.map (some bm))), (52, .d (AO B)), (53, .int B.length), (54, .int y.1)]) (fun y => [AL y.2.v 3 1 AS ((x.n : Int) :: (nwF (spF t x.n) B y.1).map C8), .raw bm (Th (Value.int .i64) ((nwF (spF t x.n) B y.1).map C8)), skC bs t q s (srF t x), AL q.v 106 2 Fo.cells (spF t x.n)]) (fun y => y.1 ≤ B.length) (fun y => B.length - y.1) (0, p0) (Nat.zero_le _) (VS.take (by dsimp only; rw [dr]; exact AH) ?_) ?_
 · exact leD
 rintro ⟨k, p⟩ hkl
 dsimp only at hkl ⊢
 have hnl := gK (spF t x.n) B k
 have hrl : ((x.n : Int) :: (nwF (spF t x.n) B k).map C8).length = (nwF (spF t x.n) B k).length + 1 := by simp
 by_cases hkB : k < B.length
 · have hx := hsB _ (jb hkB)
   have hH := Wz GP s (C8 B[k])
   rw [hm.has hx hsm] at hH
   have hsu := b9 (spF t x.n) B k hkB
   have hin : C8 B[k] ∈ (nwF (spF t x.n) B k).map C8 ↔ B[k] ∈ nwF (spF t x.n) B k := by
    rw [List.mem_map]
    exact ⟨fun ⟨b, hb, e⟩ => key_inj (hnwB k b hb) hx e ▸ hb, fun hb => ⟨_, hb, rfl⟩⟩
   by_cases h1 : B[k] ∈ spF t x.n
   · rw [decide_eq_true h1] at hH
     rw [if_pos (List.mem_append_left _ h1)] at hsu
     dsimp only at hH
     repeat' (first | refine ca JG (keyOf GP B[k] hx) ?_ | refine ca Ew (hH) ?_ | refine ic ?_ | refine WI ?_ | refine i6 (Bc (AY .i64)) ?_ | exact jA | refine AF ?_ | refine two ?_ ?_ | refine AB fun c_ => ?_ | refine imp fun hc => ?_; try exact cx1 hc | refine all fun v_ => ?_)
     refine ⟨(k + 1, p), hkB, jC, VS.take (by dsimp only; rw [hsu]; exact AH) ?_⟩
     exact leD
   rw [decide_eq_false h1] at hH
   dsimp only at hH
   by_cases h2 : B[k] ∈ nwF (spF t x.n) B k
   · rw [if_pos (List.mem_append_right _ h2)] at hsu
     have h3 := hin.2 h2
     repeat' (first | refine ca JG (keyOf GP B[k] hx) ?_ | refine ca Ew (hH) ?_ | refine ic ?_ | refine WI ?_ | refine i6 (Bc (AY .i64)) ?_ | exact jA | refine AF ?_ | refine two ?_ ?_ | refine AB fun c_ => ?_ | refine imp fun hc => ?_; try exact cx1 hc | refine all fun v_ => ?_)
     refine ⟨(k + 1, p), hkB, jC, VS.take (by dsimp only; rw [hsu]; exact AH) ?_⟩
     exact leD
   · rw [if_neg (fun k => (List.mem_append.1 k).elim h1 h2)] at hsu
     have h3 : C8 B[k] ∉ (nwF (spF t x.n) B k).map C8 := fun k => h2 (hin.1 k)
     have hsm' : (nwF (spF t x.n) B (k + 1)).map C8 = (nwF (spF t x.n) B k).map C8 ++ [C8 B[k]] := by rw [hsu, List.map_append]; rfl
     repeat' (first | refine ca JG (keyOf GP B[k] hx) ?_ | refine ca Ew (hH) ?_ | refine ic ?_ | refine WI ?_ | refine i6 (Bc (AY .i64)) ?_ | exact jA | refine AF ?_ | refine two ?_ ?_ | refine AB fun c_ => ?_ | refine imp fun hc => ?_; try exact cx1 hc | refine all fun v_ => ?_)
     refine ⟨(k + 1, v_), hkB, jC, VS.take (by dsimp only; rw [hsm']; exact AH) ?_⟩
     exact leD
 obtain rfl : k = B.length := by omega
 have hrec : ((x.n : Int) :: (nwF (spF t x.n) B B.length).map C8) = HQ t x.n := by unfold HQ; rw [hnk]
 have hkeep := hrl
 rw [hrec] at hrl ⊢
 have hW := hO GP ⟨dtF t x.n, byF t x.s⟩ (HQ t x.n)
 have hmt : FE ⟨dtF t x.n, byF t x.s⟩ := by
  have h1 := DQ t x.n
  have h2 := DB t hI.s
  have h3 := hI.b
  unfold FE
  dsimp only
  omega
 have hdl := DQ t (x.n + 1)
 rw [OK, List.length_append, DQ] at hdl
 refine IH (Bq (t := 5) (eb := 8) rfl rfl (fun x => rfl) jB) ?_
 by_cases hgo : JZ t x
 · have hfit : ¬ 1048576 < (dtF t x.n).length + (A5 (HQ t x.n)).length := by
    rw [DQ]
    have := hgo.2
    omega
   rw [Mk hmt (by have := hgr.1; omega) hgr.2 hfit] at hW
   dsimp only at hW
   rw [← OK] at hW
   rw [decide_eq_true hgo, L7 hgo]
   rw [show wkF t 0 x.go = x.go from rfl]
   have hKK : (HQ t x.n).drop (Int.toNat 1) = (nwF (spF t x.n) B B.length).map C8 := by unfold HQ; rw [hnk]; rfl
   repeat' (first | refine ca PC (hW) ?_ | exact jA | refine AF ?_ | refine two ?_ ?_ | refine AB fun c_ => ?_ | refine imp fun hc => ?_; try exact cx1 hc | refine all fun v_ => ?_)
   clear hW hBh
   generalize (HQ t x.n).drop (Int.toNat 1) = K at hKK ⊢
   generalize nwF (spF t x.n) B B.length = NW at hKK hnw hrec hnk
   have hKl : K.length = NW.length := by rw [hKK, List.length_map]
   rw [hnw] at hsm2 hnd2 hfew2
   rw [List.length_append] at hfew2
   refine AG (X := Nat × Sl × Sto) (fun y => [(0, .val (.pointer (some ⟨bs, 0, none⟩))), (2, .bool false), (105, .d (AJ K)), (106, .int K.length), (107, .int y.1)]) (fun y => skH bs t (spF t x.n ++ NW.take y.1) ⟨x.up, x.n, x.m, ⟨dtF t (x.n + 1), byF t x.s⟩, ⟨false, 0, 0, 0, x.a, false, false⟩⟩ y.2) (fun y => y.1 ≤ NW.length ∧ I4 y.2.2 (spF t x.n ++ NW.take y.1)) (fun y => NW.length - y.1) (0, q, s) ⟨Nat.zero_le _, by dsimp only; rw [List.take_zero, List.append_nil]; exact hm⟩ (VS.take (by dsimp only; rw [List.take_zero, List.append_nil]; exact AH) ?_) ?_
   · exact leD
   rintro ⟨j, v⟩ ⟨hj, hmj⟩
   dsimp only at hj hmj ⊢
   by_cases hjl : j < NW.length
   · have et : spF t x.n ++ NW.take j ++ [NW[j]] = spF t x.n ++ NW.take (j + 1) := by rw [List.append_assoc, jZ hjl]
     have hjs := hsm2 NW[j] (List.mem_append_right _ (jb hjl))
     have hjK : j < K.length := by omega
     have F1 : ACr Tryz.prog GP 97 [.int (K[j]'hjK)] (.agg [.int NW[j].kind, .int NW[j].val]) := by
      have e : K[j]'hjK = C8 NW[j] := by simp only [hKK, List.getElem_map]
      rw [e]; exact bY GP _ hjs
     have F := meet GP bs t ⟨x.up, x.n, x.m, ⟨dtF t (x.n + 1), byF t x.s⟩, ⟨false, 0, 0, 0, x.a, false, false⟩⟩ (spF t x.n ++ NW.take j) NW[j] ⟨v, hmj⟩ hjs (fun b hb => hsm2 b (by
      rcases List.mem_append.1 hb with hb | hb
      · exact List.mem_append_left _ hb
      · exact List.mem_append_right _ (List.mem_of_mem_take hb))) (PJ hnd2 hjl) (by rw [List.length_append, List.length_take]; omega)
     rw [et] at F
     repeat' (first | refine ca Nl (F1) ?_ | refine cag Ns (F) ?_ | exact jA | refine AP ?_ | refine two ?_ ?_ | refine imp fun hc => ?_; try exact cx hc | refine all fun v_ => ?_)
     obtain ⟨⟨w, hw⟩, rfl⟩ : ∃ x, x = v_ := ⟨v_, rfl⟩
     refine ⟨(j + 1, w), ⟨hjl, hw⟩, jC, VS.take AH ?_⟩
     exact leD
   obtain rfl : j = NW.length := by omega
   rw [List.take_length] at hmj ⊢
   have hmx : max (x.m : Int) ((x.n : Int) + 1) = ((max x.m (x.n + 1) : Nat) : Int) := by omega
   have hn1 : (x.n : Int) + 1 = ((x.n + 1 : Nat) : Int) := by omega
   have ha1 : (x.a : Int) + 1 = ((x.a + 1 : Nat) : Int) := by omega
   unfold skH skC skD
   dsimp only
   by_cases hxm : x.n < x.m
   · have eg : x.go = ⟨x.up, x.n + 1, x.s, max x.m (x.n + 1), x.a + 1⟩ := by unfold Ms.go; rw [if_pos hxm]
     rw [eg]
     dsimp only
     rw [hnw]
     repeat' (first | exact jA | refine AF ?_ | refine two ?_ ?_ | refine AB fun c_ => ?_ | refine imp fun hc => ?_; try exact cx1 hc | refine all fun v_ => ?_)
     rw [hmx, hn1]
     rw [ha1];
     refine AI (VS.take (hc := skH bs t (spF t x.n ++ NW) ⟨x.up, ((x.n + 1 : Nat) : Int), ((max x.m (x.n + 1) : Nat) : Int), ⟨dtF t (x.n + 1), byF t x.s⟩, ⟨false, 0, 0, 0, ((x.a + 1 : Nat) : Int), false, false⟩⟩ v) AH (Env.le_refl _)) ?_
     ((with_reducible apply rq1); rfl; rfl)
     exact ⟨⟨v, hmj⟩, rfl, rfl⟩
   · have eg : x.go = ⟨x.up, x.n + 1, x.s, max x.m (x.n + 1), x.a⟩ := by unfold Ms.go; rw [if_neg hxm]
     rw [eg]
     dsimp only
     rw [hnw]
     repeat' (first | exact jA | refine AF ?_ | refine two ?_ ?_ | refine AB fun c_ => ?_ | refine imp fun hc => ?_; try exact cx1 hc | refine all fun v_ => ?_)
     rw [hmx, hn1]
     refine AI (VS.take (hc := skH bs t (spF t x.n ++ NW) ⟨x.up, ((x.n + 1 : Nat) : Int), ((max x.m (x.n + 1) : Nat) : Int), ⟨dtF t (x.n + 1), byF t x.s⟩, ⟨false, 0, 0, 0, (x.a : Int), false, false⟩⟩ v) AH (Env.le_refl _)) ?_
     ((with_reducible apply rq1); rfl; rfl)
     exact ⟨⟨v, hmj⟩, rfl, rfl⟩
 · have hfull : 1048576 < (dtF t x.n).length + (A5 (HQ t x.n)).length := by
    rw [DQ]
    rcases Nat.lt_or_ge 1048576 (byF t (x.n + 1)) with h | h
    · omega
    · exact absurd ⟨hk, h⟩ hgo
   rw [NX hmt (by have := hgr.1; omega) hgr.2 hfull] at hW
   rw [decide_eq_false hgo, I8 hgo]
   repeat' (first | refine ca PC (hW) ?_ | exact jA | refine AF ?_ | refine two ?_ ?_ | refine AB fun c_ => ?_ | refine imp fun hc => ?_; try exact cx1 hc | refine all fun v_ => ?_)
   refine AI (VS.take (hc := skM bs t x (q, s)) AH (Env.le_refl _)) ?_
   ((with_reducible apply rq1); rfl; rfl)
   exact ⟨⟨(q, s), hm⟩, rfl, rfl⟩
theorem VD : Cal Tryz.prog 96 := Cal.of Tryz.func96 (by kernel_rfl) (by kernel_rfl)
theorem X5 (G : List (Nat × List D)) (l : List UInt8) (hl : l.length ≤ 140737488355328) : ACr Tryz.prog G 145 [.d (CT l)] (.d (CT l)) := AC.frz 1 (Zw G l hl) rfl (fun _ => rfl) jB
theorem Ry {p q : Prop} (hp : p) (h : p → q := by
 apply cmp; (focus (first
  | ((with_reducible apply GR); rfl; exact JR; (focus exact X5 _ _ (by rw [List.length_take]; omega)); rfl)
  | ((with_reducible apply Cs); rfl; decide +kernel; rfl; exact JR; (focus exact X5 _ _ (by rw [List.length_take]; omega)); rfl)
  | ((with_reducible apply GR); rfl; exact cal_Octets; (focus exact Octets _ _ _ jB); rfl)
  | ((with_reducible apply Cs); rfl; decide +kernel; rfl; exact cal_Octets; (focus exact Octets _ _ _ jB); rfl)
  ))
 exact fun h => h) : q := h hp
theorem fY (G : List (Nat × List D)) (t : Tp) : ACr Tryz.prog G 96 [tpA t] (.tup [tpA (HI t).1, .int (HI t).2]) := by
 refine BV (rs := [.cell 2 80, .tmp 3]) Tryz.f96.ntmps Tryz.func96 rfl rfl rfl (by simp [Tryz.ntmps96]) fun W I => ?_
 have R := Read G t
 by_cases hm : FE t
 · have e : Hx t = (((Dr t.data).1, ((Dr t.data).2 : Int)), 0) := if_pos hm
   rw [e] at R
   dsimp only at R
   have hle := ax t.data
   have hlen := hm.1
   repeat' (first | refine ca Ku (R) ?_ | refine ca cal_RecordsOf (R) ?_ | refine Ry ?_ | exact jA | refine AP ?_ | refine two ?_ ?_ | refine imp fun hc => ?_; try exact cx hc | refine all fun v_ => ?_)
   exact Mv (xs := [tpA ⟨t.data.take (Dr t.data).2, min t.synced (Dr t.data).2⟩, .int 0]) ⟨Ax rfl C7 rfl AW rfl, A4 rfl, trivial⟩ rfl (h' := []) (jc _) (AA (by rw [HI, if_pos hm]; rfl))
 · have e : Hx t = (([], 0), 9) := if_neg hm
   rw [e] at R
   dsimp only at R
   repeat' (first | refine ca Ku (R) ?_ | refine ca cal_RecordsOf (R) ?_ | refine Ry ?_ | exact jA | refine AP ?_ | refine two ?_ ?_ | refine imp fun hc => ?_; try exact cx hc | refine all fun v_ => ?_)
   exact D1 (xs := [.agg [.val (.slice none 0 0), .int 0], .int 9]) (ys := [tpA Dz, .int 9]) vid ⟨Ax rfl C7 rfl AW rfl, A4 rfl, trivial⟩ ⟨AV.le_agg ⟨AV.le_nil 1 1, AV.le_refl _, trivial⟩, AV.le_refl _, trivial⟩ rfl (h' := []) (jc _) (AA (by rw [HI, if_neg hm]; rfl))
end Go.Proofs.YtnlfhnbcdfdhgaaGreatDoor
namespace Go.Sp
open Go Go.Av
section
variable {t : Tk} {e : Exp}
theorem Grown.recs (g : Grown t e) {n : Nat} (h : n ≤ e.spots.length) : ∀ i, i < n → Go.Sp.goodRc (HQ t i) := fun i hi => g.goodRc jB
theorem IS {n p σ : Nat} (hb : byF t n ≤ 1048576) (hp : p ≤ byF t n) (hs : σ ≤ p) : FE ⟨(dtF t n).take p, (σ : Int)⟩ := by
 have h1 := DQ t n
 have h2 : ((dtF t n).take p).length = p := by rw [List.length_take]; omega
 unfold FE
 dsimp only
 omega
theorem Grown.repair (g : Grown t e) {n p σ : Nat} (hn : n ≤ e.spots.length) (hb : byF t n ≤ 1048576) (hp : p ≤ byF t n) (hs : σ ≤ p) : HI ⟨(dtF t n).take p, (σ : Int)⟩ = (⟨dtF t (kpF t p n), ((min σ (byF t (kpF t p n)) : Nat) : Int)⟩, 0) := by
 unfold HI
 rw [if_pos (IS hb hp hs)]
 dsimp only
 rw [VX (g.recs hn) p]
 dsimp only
 have h1 := TM t p n
 rw [List.take_take, Nat.min_eq_left h1, Fu t (Kq t p n)]
 rw [show ((min σ (byF t (kpF t p n)) : Nat) : Int) = min (σ : Int) (byF t (kpF t p n)) by omega]
theorem Vo (t : Tk) (n : Nat) : kpF t (byF t n) n = n := Vq t (Nat.le_refl _) (Nat.le_refl _) (.inl rfl)
theorem Grown.read (g : Grown t e) {n σ : Nat} (hn : n ≤ e.spots.length) (hb : byF t n ≤ 1048576) (hs : σ ≤ byF t n) : Hx ⟨dtF t n, (σ : Int)⟩ = ((CS t n, (byF t n : Int)), 0) := by
 have hm := IS (t := t) hb (Nat.le_refl _) hs
 have e1 := Fu t (Nat.le_refl n)
 rw [e1] at hm
 have hr := VX (g.recs hn) (byF t n)
 rw [e1, Vo] at hr
 unfold Hx
 rw [if_pos hm]
 dsimp only
 rw [hr]
theorem Grown.safe (g : Grown t e) {n s : Nat} (hn : n ≤ e.spots.length) (hb : byF t n ≤ 1048576) (hs : s ≤ n) : FL ⟨dtF t n, (byF t s : Int)⟩ 0 = (⟨dtF t s, (byF t s : Int)⟩, 0) := by
 have hm := IS (t := t) hb (Nat.le_refl _) (DB t hs)
 rw [Fu t (Nat.le_refl n)] at hm
 have h1 := DQ t n
 have h2 := DB t hs
 unfold FL
 rw [if_neg (fun k => k hm), if_neg (by decide)]
 dsimp only
 rw [show (byF t s : Int) + min 0 (((dtF t n).length : Int) - byF t s) = (byF t s : Int) by omega, Int.toNat_natCast, Fu t hs]
theorem Grown.crash (g : Grown t e) {n s : Nat} (hn : n ≤ e.spots.length) (hb : byF t n ≤ 1048576) (hs : s ≤ n) {k : Int} (hk : 0 ≤ k) : FL ⟨dtF t n, (byF t s : Int)⟩ k = (⟨(dtF t n).take (min (byF t s + k.toNat) (byF t n)), ((min (byF t s + k.toNat) (byF t n) : Nat) : Int)⟩, 0) := by
 have hm := IS (t := t) hb (Nat.le_refl _) (DB t hs)
 rw [Fu t (Nat.le_refl n)] at hm
 have h1 := DQ t n
 have h2 := DB t hs
 unfold FL
 rw [if_neg (fun k => k hm), if_neg jB]
 dsimp only
 rw [show (byF t s : Int) + min k (((dtF t n).length : Int) - byF t s) = ((min (byF t s + k.toNat) (byF t n) : Nat) : Int) by omega, Int.toNat_natCast]
end
theorem dB (t : Tk) (i : Nat) : spF t (i + 1) = spF t i ++ (spF t (i + 1)).drop (nkF t i) := by
 obtain ⟨r, hr⟩ := MD t i 1
 unfold nkF
 rw [hr, List.drop_left]
end Go.Sp
namespace Go.Proofs.YtnlfhnbcdfdhgaaGreatDoor
open Go Go.Av Go.Sp
theorem WQ : Cal Tryz.prog 31 := Cal.of Tryz.func31 (by kernel_rfl) (by kernel_rfl)
theorem K0 : Cal Tryz.prog 53 := Cal.of Tryz.func53 (by kernel_rfl) (by kernel_rfl)
theorem R3 (bs : Nat) (t : Tk) (e : Exp) (g : Grown t e) (n p σ : Nat) (hn : n ≤ e.spots.length) (hb : byF t n ≤ 1048576) (hp : p ≤ byF t n) (hs : σ ≤ p) (up : Bool) (th mo : Int) (o : Ou) (l0 : List Fo) (v : Sl × Sto) :
 AC Tryz.prog GP 53 [.val (.pointer (some ⟨bs, 0, none⟩))] (skH bs t l0 ⟨up, th, mo, ⟨(dtF t n).take p, σ⟩, o⟩ v) fun r h => ∃ w : Gp (spF t (kpF t p n)), r = .ret (.tup []) ∧ h = skH bs t (spF t (kpF t p n)) ⟨up, (kpF t p n : Nat), mo, ⟨dtF t (kpF t p n), ((min σ (byF t (kpF t p n)) : Nat) : Int)⟩, o⟩ w.1 := by
 have hRp := fY GP ⟨(dtF t n).take p, σ⟩
 rw [g.repair hn hb hp hs] at hRp
 have hk := Kq t p n
 have hkb := DB t hk
 have hRd := Read GP ⟨dtF t (kpF t p n), ((min σ (byF t (kpF t p n)) : Nat) : Int)⟩
 rw [g.read (n := kpF t p n) jB jB (Nat.min_le_right _ _)] at hRd
 dsimp only at hRp hRd
 have hBg := fun (r : Sr) (l0 : List Fo) (q : Sl) (a b : AV) => Zy bs t r l0 q a b g.task
 have hN := g.few
 generalize kpF t p n = k at hRp hRd hk hkb ⊢
 have hrl := JF t k
 unfold skH skC skD
 dsimp only
 refine Cz (ts := []) Tryz.f53.ntmps Tryz.func53 rfl rfl rfl (by simp [Tryz.ntmps53]) fun W I => ?_
 repeat' (first | refine ca VD (hRp) ?_ | refine ca Ku (hRd) ?_ | refine cag Nw (hBg ⟨up, th, mo, ⟨dtF t k, ((min σ (byF t k) : Nat) : Int)⟩, o⟩ l0 v.1 (.d (AJ v.2.loose)) (.d (AX v.2.runs))) ?_ | exact jA | refine AP ?_ | refine two ?_ ?_ | refine imp fun hc => ?_; try exact cx hc | refine all fun v_ => ?_)
 obtain ⟨⟨w0, hw0⟩, rfl⟩ : ∃ x, x = v_ := ⟨v_, rfl⟩
 clear hRp hRd hBg
 dsimp only
 refine AG (X := Nat × Sl × Sto) (fun y => [(0, .val (.pointer (some ⟨bs, 0, none⟩))), (31, .d (AX (CS t k))), (32, .int (CS t k).length), (33, .int y.1)]) (fun y => skH bs t (spF t y.1) ⟨up, (y.1 : Nat), mo, ⟨dtF t k, ((min σ (byF t k) : Nat) : Int)⟩, o⟩ y.2) (fun y => y.1 ≤ k ∧ I4 y.2.2 (spF t y.1)) (fun y => k - y.1) (0, w0) ⟨Nat.zero_le _, hw0⟩ (VS.take (by dsimp only; exact AH) ?_) ?_
 · exact leD
 rintro ⟨i, v⟩ ⟨hi, hmi⟩
 dsimp only at hi hmi ⊢
 by_cases hik : i < k
 · have hiR : i < (CS t k).length := by omega
   have eR : (CS t k)[i]'hiR = HQ t i := by
    have h1 : (CS t k)[i]? = some (HQ t i) := by unfold CS; simp [hik]
    exact Option.some.inj ((List.getElem?_eq_getElem hiR).symm.trans h1)
   have hKK : ((CS t k)[i]'hiR).drop (Int.toNat 1) = ((spF t (i + 1)).drop (nkF t i)).map C8 := by rw [eR]; rfl
   have hR1 : 1 ≤ ((CS t k)[i]'hiR).length := by rw [eR, Mf]; omega
   have hnw := dB t i
   have hsm2 := HA g.task (i + 1)
   have hnd2 := Fc t (i + 1)
   have hfew2 := g.nk (i := i + 1) jB
   unfold nkF at hfew2
   repeat' (first | exact jA | refine AP ?_ | refine two ?_ ?_ | refine imp fun hc => ?_; try exact cx hc | refine all fun v_ => ?_)
   generalize ((CS t k)[i]'hiR).drop (Int.toNat 1) = K at hKK ⊢
   generalize (spF t (i + 1)).drop (nkF t i) = NW at hKK hnw
   have hKl : K.length = NW.length := by rw [hKK, List.length_map]
   rw [hnw] at hsm2 hnd2 hfew2
   rw [List.length_append] at hfew2
   refine AG (X := Nat × Sl × Sto) (fun y => [(0, .val (.pointer (some ⟨bs, 0, none⟩))), (31, .d (AX (CS t k))), (32, .int (CS t k).length), (33, .int i), (38, .d (AJ K)), (39, .int K.length), (40, .int y.1)]) (fun y => skH bs t (spF t i ++ NW.take y.1) ⟨up, (i : Nat), mo, ⟨dtF t k, ((min σ (byF t k) : Nat) : Int)⟩, o⟩ y.2) (fun y => y.1 ≤ NW.length ∧ I4 y.2.2 (spF t i ++ NW.take y.1)) (fun y => NW.length - y.1) (0, v) ⟨Nat.zero_le _, by dsimp only; rw [List.take_zero, List.append_nil]; exact hmi⟩ (VS.take (by dsimp only; rw [List.take_zero, List.append_nil]; exact AH) ?_) ?_
   · exact leD
   clear hmi v
   rintro ⟨j, v⟩ ⟨hj, hmj⟩
   dsimp only at hj hmj ⊢
   by_cases hjl : j < NW.length
   · have et : spF t i ++ NW.take j ++ [NW[j]] = spF t i ++ NW.take (j + 1) := by rw [List.append_assoc, jZ hjl]
     have hjs := hsm2 NW[j] (List.mem_append_right _ (jb hjl))
     have hjK : j < K.length := by omega
     have F1 : ACr Tryz.prog GP 97 [.int (K[j]'hjK)] (.agg [.int NW[j].kind, .int NW[j].val]) := by
      have e : K[j]'hjK = C8 NW[j] := by simp only [hKK, List.getElem_map]
      rw [e]; exact bY GP _ hjs
     have F := meet GP bs t ⟨up, (i : Nat), mo, ⟨dtF t k, ((min σ (byF t k) : Nat) : Int)⟩, o⟩ (spF t i ++ NW.take j) NW[j] ⟨v, hmj⟩ hjs (fun b hb => hsm2 b (by
      rcases List.mem_append.1 hb with hb | hb
      · exact List.mem_append_left _ hb
      · exact List.mem_append_right _ (List.mem_of_mem_take hb))) (PJ hnd2 hjl) (by rw [List.length_append, List.length_take]; omega)
     rw [et] at F
     repeat' (first | refine ca Nl (F1) ?_ | refine cag Ns (F) ?_ | exact jA | refine AP ?_ | refine two ?_ ?_ | refine imp fun hc => ?_; try exact cx hc | refine all fun v_ => ?_)
     obtain ⟨⟨w, hw⟩, rfl⟩ : ∃ x, x = v_ := ⟨v_, rfl⟩
     refine ⟨(j + 1, w), ⟨hjl, hw⟩, jC, VS.take AH ?_⟩
     exact leD
   obtain rfl : j = NW.length := by omega
   rw [List.take_length] at hmj ⊢
   have hi1 : (i : Int) + 1 = ((i + 1 : Nat) : Int) := by omega
   unfold skH skC skD
   dsimp only
   repeat' (first | exact jA | refine AP ?_ | refine two ?_ ?_ | refine imp fun hc => ?_; try exact cx hc | refine all fun v_ => ?_)
   refine ⟨(i + 1, v), ⟨hik, by dsimp only; rw [hnw]; exact hmj⟩, jC, VS.take (by dsimp only; rw [hi1, hnw]; exact AH) ?_⟩
   exact leD
 obtain rfl : i = k := by omega
 repeat' (first | exact jA | refine AP ?_ | refine two ?_ ?_ | refine imp fun hc => ?_; try exact cx hc | refine all fun v_ => ?_)
 exact rq0 rfl ⟨⟨v, hmi⟩, rfl, rfl⟩
theorem dX : Cal Tryz.prog 30 := Cal.of Tryz.func30 (by kernel_rfl) (by kernel_rfl)
theorem iE (bs : Nat) (t : Tk) (e : Exp) (g : Grown t e) (x : Ms) (hI : MsI t e x) (ha : x.a ≤ 1000000000) (v : Gp (spF t x.n)) :
 AC Tryz.prog GP 54 [.val (.pointer (some ⟨bs, 0, none⟩))] (skM bs t x v.1) fun r h => ∃ w : Gp (spF t (wkF t 1 x).n), r = .ret (.bool (decide (JZ t x))) ∧ h = skM bs t (wkF t 1 x) w.1 := by
 by_cases hk : x.n < nkF t x.n
 · exact Yx bs t e g x hI ha v hk
 · have hno : ¬ JZ t x := fun k => hk k.1
   have h1 : x.n = (spF t x.n).length := by
    rcases Nat.lt_or_ge x.n e.spots.length with c | c
    · exact absurd (g.nk_at c) hk
    · have h2 := hI.nN
      have e1 : x.n = e.spots.length := by omega
      have := g.nk_end
      unfold nkF at this
      rw [e1]; exact this.symm
   rw [I8 hno, decide_eq_false hno]
   exact (W9 bs t x v.1 h1).mono fun r h k => by
    obtain ⟨_, k1, k2⟩ := k
    exact ⟨v, k1, k2⟩
theorem XZ (bs : Nat) (t : Tk) (e : Exp) (g : Grown t e) (x : Ms) (hI : MsI t e x) (k : Int) (v : Gp (spF t x.n)) : AC Tryz.prog GP 30 [.val (.pointer (some ⟨bs, 0, none⟩)), .agg [.int 4, .int k]] (skM bs t x v.1) fun r h => ∃ w : Gp (spF t (mvF t x ⟨4, k⟩).n), r = .ret (.tup []) ∧ h = skM bs t (mvF t x ⟨4, k⟩) w.1 := by
 rw [S4]
 dsimp only
 by_cases hu : x.up = true
 · unfold skM srF skH skC skD
   dsimp only
   rw [hu]
   refine AK (ts := []) Tryz.f30.ntmps Tryz.func30 rfl rfl rfl (by simp [Tryz.ntmps30]) fun W I => ?_
   repeat' (first | exact jA | refine AP ?_ | refine two ?_ ?_ | refine imp fun hc => ?_; try exact cx hc | refine all fun v_ => ?_)
   refine AI (VS.take (hc := skH bs t (spF t x.n) ⟨true, x.n, x.m, ⟨dtF t x.n, byF t x.s⟩, ⟨false, 0, 0, 0, x.a, false, false⟩⟩ v.1) AH (Env.le_refl _)) ?_
   exact rq0 rfl ⟨v, rfl, rfl⟩
 · have hu' : x.up = false := by simpa using hu
   have F := R3 bs t e g x.n (byF t x.n) (byF t x.s) hI.nN hI.b (Nat.le_refl _) (DB t hI.s) true x.n x.m ⟨false, 0, 0, 0, x.a, false, false⟩ (spF t x.n) v.1
   rw [Fu t (Nat.le_refl _), Vo, Nat.min_eq_left (DB t hI.s)] at F
   unfold skM srF skH skC skD
   dsimp only
   rw [hu']
   refine AK (ts := []) Tryz.f30.ntmps Tryz.func30 rfl rfl rfl (by simp [Tryz.ntmps30]) fun W I => ?_
   repeat' (first | refine cag K0 (F) ?_ | exact jA | refine AP ?_ | refine two ?_ ?_ | refine imp fun hc => ?_; try exact cx hc | refine all fun v_ => ?_)
   obtain ⟨w, rfl⟩ : ∃ x, x = v_ := ⟨v_, rfl⟩
   refine AI (VS.take (hc := skH bs t (spF t x.n) ⟨true, x.n, x.m, ⟨dtF t x.n, byF t x.s⟩, ⟨false, 0, 0, 0, x.a, false, false⟩⟩ w.1) AH (Env.le_refl _)) ?_
   exact rq0 rfl ⟨w, rfl, rfl⟩
theorem aa (bs : Nat) (t : Tk) (x : Ms) (hu : x.up = false) (m k : Int) (hm : m ≠ 4) (v : Gp (spF t x.n)) : AC Tryz.prog GP 30 [.val (.pointer (some ⟨bs, 0, none⟩)), .agg [.int m, .int k]] (skM bs t x v.1) fun r h => ∃ w : Gp (spF t (mvF t x ⟨m, k⟩).n), r = .ret (.tup []) ∧ h = skM bs t (mvF t x ⟨m, k⟩) w.1 := by
 rw [Ve hu hm]
 unfold skM srF skH skC skD
 dsimp only
 rw [hu]
 refine AK (ts := []) Tryz.f30.ntmps Tryz.func30 rfl rfl rfl (by simp [Tryz.ntmps30]) fun W I => ?_
 repeat' (first | exact jA | refine AP ?_ | refine two ?_ ?_ | refine imp fun hc => ?_; try exact cx hc | refine all fun v_ => ?_)
 refine AI (VS.take (hc := skH bs t (spF t x.n) ⟨false, x.n, x.m, ⟨dtF t x.n, byF t x.s⟩, ⟨false, 0, 0, 0, x.a, false, false⟩⟩ v.1) AH (Env.le_refl _)) ?_
 exact rq0 rfl ⟨v, rfl, rfl⟩
theorem ak (bs : Nat) (t : Tk) (e : Exp) (g : Grown t e) (x : Ms) (hI : MsI t e x) (hu : x.up = true) (k : Int) (v : Gp (spF t x.n)) : AC Tryz.prog GP 30 [.val (.pointer (some ⟨bs, 0, none⟩)), .agg [.int 2, .int k]] (skM bs t x v.1) fun r h => ∃ w : Gp (spF t (mvF t x ⟨2, k⟩).n), r = .ret (.tup []) ∧ h = skM bs t (mvF t x ⟨2, k⟩) w.1 := by
 rw [Vj hu]
 have hS := Sync GP ⟨dtF t x.n, byF t x.s⟩
 have hm := IS (t := t) hI.b (Nat.le_refl _) (DB t hI.s)
 rw [Fu t (Nat.le_refl _)] at hm
 unfold Mh at hS
 rw [if_pos hm] at hS
 dsimp only at hS
 rw [DQ] at hS
 unfold skM srF skH skC skD
 dsimp only
 rw [hu]
 refine AK (ts := []) Tryz.f30.ntmps Tryz.func30 rfl rfl rfl (by simp [Tryz.ntmps30]) fun W I => ?_
 repeat' (first | refine ca ZI (hS) ?_ | exact jA | refine AP ?_ | refine two ?_ ?_ | refine imp fun hc => ?_; try exact cx hc | refine all fun v_ => ?_)
 refine AI (VS.take (hc := skH bs t (spF t x.n) ⟨true, x.n, x.m, ⟨dtF t x.n, byF t x.n⟩, ⟨false, 0, 0, 0, x.a, false, false⟩⟩ v.1) AH (Env.le_refl _)) ?_
 exact rq0 rfl ⟨v, rfl, rfl⟩
end Go.Proofs.YtnlfhnbcdfdhgaaGreatDoor
