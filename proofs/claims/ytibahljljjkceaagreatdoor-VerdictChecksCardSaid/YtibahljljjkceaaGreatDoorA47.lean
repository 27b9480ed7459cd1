/- A bundle of this claim's own texts: N20 G28 Top N21. -/
import Derived.Test.YtibahljljjkceaaGreatDoorCards
import Derived.Test.YtibahljljjkceaaGreatDoorTie
import Derived.WalkKit
import Derived.ProofKit
import Derived.OpenShut
import Derived.Deep.DeepHandedRow
import Derived.Lib.LaidTab
import Derived.Test.YtibahljljjkceaaGreatDoorA7
import Derived.Test.YtibahljljjkceaaGreatDoorA23
import Derived.Test.YtibahljljjkceaaGreatDoorA28
import Derived.Test.YtibahljljjkceaaGreatDoorA35
import Derived.Test.YtibahljljjkceaaGreatDoorA45
import Derived.Test.YtibahljljjkceaaGreatDoorA46
set_option linter.unusedVariables false
set_option linter.unusedSimpArgs false
set_option maxRecDepth 100000
set_option maxHeartbeats 4000000
namespace Go.Sp
open Go Go.Av
theorem Lx (g : Gn) (c : Nat) (h : ∀ i, (g.nx i).length ≤ c) : ∀ n, n ≤ g.next.length → g.ways n ≤ n * c
 | 0, _ => by simp [Gn.ways]
 | n + 1, hn => by
   rw [Gn.ways_succ g n (by omega)]
   have h1 := Lx g c h n (by omega)
   have h2 := h n
   rw [Nat.succ_mul]; omega
theorem Grown.ways {t : Tk} {e : Exp} (g : Grown t e) : (gnF t e).ways (gnF t e).next.length ≤ 68719476736 := by
 have hl : (gnF t e).next.length = e.spots.length := by simp [gnF, g.next]
 have hfew := g.few
 have h := Lx (gnF t e) 262144 (fun i => by
  by_cases hi : i < e.spots.length
  · have hl : i < (gnF t e).next.length := by omega
    have e1 : (gnF t e).next[i] = (plF t i).map Int.toNat := by simp [gnF, g.next]
    rw [Gn.nx_get _ _ hl, e1, List.length_map, (g.step hi).2, EV]
    exact IX t _ _ (Bz g.task).2.2
  · simp [Gn.nx, List.getElem?_eq_none (show (gnF t e).next.length ≤ i by omega)]) _ (Nat.le_refl _)
 rw [hl] at h ⊢
 have h2 : e.spots.length * 262144 ≤ 20000 * 262144 := Nat.mul_le_mul_right _ hfew
 omega
theorem Wf {t : Tk} : ∀ g' : Gn, g'.gr = exG t → g'.ways g'.next.length ≤ 68719476736 := fun g' h => by
 by_cases c : (Ae t).2 = 0
 · obtain ⟨e, he⟩ := JA c
   obtain ⟨h1, h2⟩ := Kl he
   have : g' = gnF t e := Gn.gr_inj (h.trans h1)
   subst this
   exact h2.ways
 · have e1 : (Ae t).1 = none := by
    unfold Ae at c ⊢
    by_cases k : BH t ≠ 0
    · rw [if_pos k]
    · rw [if_neg k] at c ⊢
      cases hx : HH t 20002 0 (A7 t).1 [] [] with
      | none => rfl
      | some e => rw [hx] at c; exact absurd rfl c
   have hn : g'.next = [] := by
    have h2 := congrArg Gr.next h
    unfold exG at h2
    rw [e1] at h2
    simpa [Gn.gr] using h2
   rw [hn]; simp [Gn.ways]
noncomputable def Py (t : Tk) : Bool := decide ((Ae t).2 = 0 ∧ (CK (exG t)).2 ≠ 0)
end Go.Sp
namespace Go.Proofs.YtibahljljjkceaaGreatDoor
open Go Go.Av Go.Sp
theorem Ei : Cal Tryz.prog 17 := Cal.of Tryz.func17 (by kernel_rfl) (by kernel_rfl)
theorem I9 : Cal Tryz.prog 20 := Cal.of Tryz.func20 (by kernel_rfl) (by kernel_rfl)
theorem LF (G : List (Nat × List D)) (t : Tk) : ACr Tryz.prog G 17 [tkA t] (.tup [.bool (Py t), .int (Ae t).2]) := by
 have hE := UL G t
 have hF := Zu G (exG t) Wf
 unfold Py
 generalize (Ae t).2 = e at hE ⊢
 generalize CK (exG t) = p at hF ⊢
 obtain ⟨home, f⟩ := p
 dsimp only at hF ⊢
 refine AN (ts := [2, 3]) Tryz.f17.ntmps Tryz.func17 rfl rfl rfl (by simp [Tryz.ntmps17]) fun W I => ?_
 by_cases he : e = 0
 · subst he
   repeat' (first
    | refine ca JU (hE) ?_
    | refine ca LX (hF) ?_
    | exact True.intro | refine AD ?_ | refine two ?_ ?_ | refine AB fun c_ => ?_
    | (refine imp fun hc => ?_) <;> try exact cx1 hc
    | refine all fun v_ => ?_)
   refine AH (VS.drop (List.nil_sublist _)) ?_
   ((with_reducible apply rq2); rfl; rfl; rfl)
   exact AA (by simp)
 · repeat' (first
    | refine ca JU (hE) ?_
    | refine ca LX (hF) ?_
    | exact True.intro | refine AD ?_ | refine two ?_ ?_ | refine AB fun c_ => ?_
    | (refine imp fun hc => ?_) <;> try exact cx1 hc
    | refine all fun v_ => ?_)
   refine AH (VS.drop (List.nil_sublist _)) ?_
   ((with_reducible apply rq2); rfl; rfl; rfl)
   exact AA (by rw [decide_eq_false (fun k => he k.1)])
theorem Uj (G : List (Nat × List D)) (t : Tk) (stem loop : List Int) (h : BH t = 0) (hv : ∀ c ∈ stem ++ loop, 0 ≤ c ∧ c < AS t.model.vars) (hne : loop ≠ []) (hlen : stem.length + loop.length ≤ 400) : ACr Tryz.prog G 20 [tkA t, .agg [.d (AK stem), .d (AK loop)]] (.bool (wAt t.formula (Aa t stem ++ Aa t loop) stem.length 0 0)) := by
 have hlp := List.length_pos_iff.2 hne
 have gf := Eu (Bz h).2.1
 have q1 := Ek t stem
 have q2 := Ek t loop
 have hR := YH G t.formula ⟨Aa t stem, Aa t loop⟩ t.props.length gf (by dsimp only; omega) (by dsimp only; omega) (by dsimp only; omega) (fun x hx => by
  dsimp only at hx
  have hx' : ∃ c ∈ stem ++ loop, (EU t.model t.props c).1 = x := by
   rcases List.mem_append.1 hx with hx | hx
   · obtain ⟨c, hc, e⟩ := List.mem_map.1 hx
     exact ⟨c, List.mem_append_left _ hc, e⟩
   · obtain ⟨c, hc, e⟩ := List.mem_map.1 hx
     exact ⟨c, List.mem_append_right _ hc, e⟩
  obtain ⟨c, hc, rfl⟩ := hx'
  obtain ⟨c0, c1⟩ := hv c hc
  rw [DZ h c0 c1, EN])
 dsimp only at hR
 rw [q1] at hR
 obtain ⟨X, Y, hXY⟩ : ∃ X Y, R5 t.formula (wal ⟨Aa t stem, Aa t loop⟩) stem.length = (wAt t.formula (Aa t stem ++ Aa t loop) stem.length 0 0 :: X) :: Y := by
  obtain ⟨n, hn⟩ : ∃ n, t.formula.length = n + 1 := ⟨t.formula.length - 1, by have := gf.pos; omega⟩
  obtain ⟨m, hm⟩ : ∃ m, (Aa t stem ++ Aa t loop).length = m + 1 := ⟨(Aa t stem ++ Aa t loop).length - 1, by rw [List.length_append]; omega⟩
  unfold R5 EI wal
  dsimp only
  rw [hn, hm]
  simp only [List.range_succ_eq_map, List.map_cons]
  exact ⟨_, _, rfl⟩
 rw [hXY] at hR
 generalize wAt t.formula (Aa t stem ++ Aa t loop) stem.length 0 0 = b at hR ⊢
 refine AN (ts := [4]) Tryz.f20.ntmps Tryz.func20 rfl rfl rfl (by simp [Tryz.ntmps20]) fun W I => ?_
 repeat' (first
  | exact True.intro | refine AD ?_ | refine two ?_ ?_ | refine AB fun c_ => ?_
  | (refine imp fun hc => ?_) <;> try exact cx1 hc
  | refine all fun v_ => ?_)
 obtain ⟨bw, rfl⟩ : ∃ x, x = v_ := ⟨v_, rfl⟩
 obtain ⟨bl, rfl⟩ : ∃ x, x = v_ := ⟨v_, rfl⟩
 obtain ⟨bt, rfl⟩ : ∃ x, x = v_ := ⟨v_, rfl⟩
 refine C4 (E := 95) (sz := 1) IE ?_
 refine AG (X := Nat × Sl) (fun y => [(2, .val (.pointer (some ⟨bt, 0, none⟩))), (3, .val (.pointer (some ⟨bl, 0, none⟩))), (5, .val (.pointer (some ⟨bw, 0, none⟩))), (6, .int y.1)]) (fun y => [AM y.2.v 95 1 IE (Aa t (stem.take y.1)), .cells bw 94 [.val y.2.v, .val (.slice none 0 0)], .cells bl 33 [.d (AK stem), .d (AK loop)], .cells bt 29 [.d (Aq t.model.vars), .d (Ad t.model.rules), .d (Aw t.props), .d (AO t.formula)]]) (fun y => y.1 ≤ stem.length) (fun y => stem.length - y.1) (0, Sl.nil) (Nat.zero_le _) (VS.take (by exact AI) ?_) ?_
 · exact leD
 rintro ⟨i, q⟩ hi
 dsimp only at hi ⊢
 have hll := Ek t (stem.take i)
 rw [List.length_take] at hll
 by_cases hil : i < stem.length
 · have hs := IH t stem i hil
   have hL := Ff G t.model t.props stem[i]
   generalize EU t.model t.props stem[i] = p at hL hs
   obtain ⟨x, e⟩ := p
   dsimp only at hL hs
   repeat' (first
    | refine ca Cr (hL) ?_
    | exact True.intro | refine AD ?_ | refine two ?_ ?_ | refine AB fun c_ => ?_
    | (refine imp fun hc => ?_) <;> try exact cx1 hc
    | refine all fun v_ => ?_)
   refine ⟨(i + 1, v_), by dsimp only; omega, by dsimp only; omega, VS.take (by dsimp only; rw [hs]; exact AI) ?_⟩
   exact leD
 obtain rfl : i = stem.length := by omega
 rw [List.take_length] at hll ⊢
 repeat' (first
  | exact True.intro | refine AD ?_ | refine two ?_ ?_ | refine AB fun c_ => ?_
  | (refine imp fun hc => ?_) <;> try exact cx1 hc
  | refine all fun v_ => ?_)
 refine C4 (E := 95) (sz := 1) IE ?_
 refine AG (X := Nat × Sl) (fun y => [(2, .val (.pointer (some ⟨bt, 0, none⟩))), (3, .val (.pointer (some ⟨bl, 0, none⟩))), (5, .val (.pointer (some ⟨bw, 0, none⟩))), (9, .int y.1)]) (fun y => [AM y.2.v 95 1 IE (Aa t (loop.take y.1)), AM q.v 95 1 IE (Aa t stem), .cells bw 94 [.val q.v, .val y.2.v], .cells bl 33 [.d (AK stem), .d (AK loop)], .cells bt 29 [.d (Aq t.model.vars), .d (Ad t.model.rules), .d (Aw t.props), .d (AO t.formula)]]) (fun y => y.1 ≤ loop.length) (fun y => loop.length - y.1) (0, Sl.nil) (Nat.zero_le _) (VS.take (by exact AI) ?_) ?_
 · exact leD
 rintro ⟨i, q2⟩ hi
 dsimp only at hi ⊢
 have hll2 := Ek t (loop.take i)
 rw [List.length_take] at hll2
 by_cases hil : i < loop.length
 · have hs := IH t loop i hil
   have hL := Ff G t.model t.props loop[i]
   generalize EU t.model t.props loop[i] = p at hL hs
   obtain ⟨x, e⟩ := p
   dsimp only at hL hs
   repeat' (first
    | refine ca Cr (hL) ?_
    | exact True.intro | refine AD ?_ | refine two ?_ ?_ | refine AB fun c_ => ?_
    | (refine imp fun hc => ?_) <;> try exact cx1 hc
    | refine all fun v_ => ?_)
   refine ⟨(i + 1, v_), by dsimp only; omega, by dsimp only; omega, VS.take (by dsimp only; rw [hs]; exact AI) ?_⟩
   exact leD
 obtain rfl : i = loop.length := by omega
 rw [List.take_length] at hll2 ⊢
 refine Ho (VS.trans (Gj (h1 := []) (h' := [AM q.v 95 1 IE (Aa t stem), .cells bw 94 [.val q.v, .d (C6 (Aa t loop))], .cells bl 33 [.d (AK stem), .d (AK loop)], .cells bt 29 [.d (Aq t.model.vars), .d (Ad t.model.rules), .d (Aw t.props), .d (AO t.formula)]]) 24 rfl rfl (fun _ => rfl) (by omega) (CvE.refl _ _ _) (CvH.keep (CvH.cells (.cons (.same _) (.cons .here .nil)) (.refl _)))) (Gj (h1 := []) (h' := [.cells bw 94 [.d (C6 (Aa t stem)), .d (C6 (Aa t loop))], .cells bl 33 [.d (AK stem), .d (AK loop)], .cells bt 29 [.d (Aq t.model.vars), .d (Ad t.model.rules), .d (Aw t.props), .d (AO t.formula)]]) 24 rfl rfl (fun _ => rfl) (by omega) (CvE.refl _ _ _) (CvH.cells (.cons .here (.cons (.same _) .nil)) (.refl _)))) ?_
 have hx0 : 0 < (((b :: X) :: Y)[nat_lit 0]'(Nat.succ_pos _)).length := Nat.succ_pos _
 have hx1 : 0 < ((b :: X) :: Y).length := Nat.succ_pos _
 repeat' (first
  | refine ca Qe (hR) ?_
  | exact True.intro | refine AD ?_ | refine two ?_ ?_ | refine AB fun c_ => ?_
  | (refine imp fun hc => ?_) <;> try exact cx1 hc
  | refine all fun v_ => ?_)
 refine AH (VS.drop (List.nil_sublist _)) ?_
 ((with_reducible apply rq1); rfl; rfl)
 exact AA rfl
end Go.Proofs.YtibahljljjkceaaGreatDoor
namespace Go.Sp
open Go Go.Av

theorem JV (sp : List Fo) (a b : List Nat) : stS sp (a ++ b) = stS sp a ++ stS sp b := by simp [stS]
theorem Kc (sp : List Fo) (l : List Nat) (i : Nat) (h : i < l.length) (hl : l[i] < sp.length) : (stS sp l)[i]? = some sp[l[i]].kind := by
 simp [stS, h, List.getElem?_eq_getElem hl]
section
variable {t : Tk} {e : Exp} {stem loop : List Nat}
theorem Grown.lasso_lt (w : Jr (gnF t e) stem loop) (i : Nat) (h : i < (stem ++ loop).length) : (stem ++ loop)[i] < e.spots.length := w.lt _ (List.getElem_mem h)
theorem Grown.runs (g : Grown t e) (w : Jr (gnF t e) stem loop) : MM t.model (stS e.spots stem) (stS e.spots loop) = (true, 0) := by
 obtain ⟨h1, h2, h3⟩ := Bz g.task
 obtain ⟨n, hn, _, _⟩ := DJ h3
 obtain ⟨a, tl, ea⟩ : ∃ a tl, loop = a :: tl := by
  cases hlp' : loop with
  | nil => exact absurd hlp' w.ne
  | cons a t => exact ⟨a, t, rfl⟩
 have hlp := List.length_pos_iff.2 w.ne
 have hal : (stem ++ loop).length = stem.length + loop.length := List.length_append
 have h0l : 0 < (stem ++ loop).length := by omega
 refine Ro h3 hn ?_ ?_ ?_
 · intro e'; have := congrArg List.length e'; rw [Dy, List.length_nil] at this; omega
 · rw [← JV, List.head?_eq_getElem?, Kc _ _ 0 h0l (Grown.lasso_lt w 0 h0l)]
   have hs := w.start
   rw [B4 _ _ h0l] at hs
   have hs2 : (stem ++ loop)[0] < (A7 t).1.length := hs
   have hf := g.first hs2
   rw [List.getElem?_eq_getElem (Grown.lasso_lt w 0 h0l)] at hf
   have := (Jk g.task _).1 (List.getElem_mem hs2)
   rw [← Option.some.inj hf] at this
   rw [this.1]
 · refine ⟨fun _ => ?_, fun _ => rfl⟩
   have hP : Lk (stS e.spots stem) (stS e.spots loop) = stS e.spots (stem ++ loop ++ [a]) := by
    unfold Lk
    rw [JV, JV, ea]
    simp [stS]
   rw [hP]
   have hc := w.chain a (by rw [ea]; rfl)
   have hlt : ∀ x ∈ stem ++ loop ++ [a], x < e.spots.length := fun x hx => by
    rcases List.mem_append.1 hx with hx | hx
    · exact w.lt x hx
    · rw [List.mem_singleton.1 hx]; exact w.lt a (List.mem_append_right _ (by rw [ea]; exact List.mem_cons_self))
   intro i hi
   rw [Dy] at hi
   have l1 := hlt _ (List.getElem_mem (show i < (stem ++ loop ++ [a]).length by omega))
   have l2 := hlt _ (List.getElem_mem hi)
   have e1 : at0 (stS e.spots (stem ++ loop ++ [a])) i = e.spots[(stem ++ loop ++ [a])[i]].kind := by
    unfold at0; rw [Kc _ _ i (by omega) l1]; rfl
   have e2 : at0 (stS e.spots (stem ++ loop ++ [a])) (i + 1) = e.spots[(stem ++ loop ++ [a])[i + 1]].kind := by
    unfold at0; rw [Kc _ _ (i + 1) hi l2]; rfl
   have hed := hc.at i hi
   obtain ⟨_, k1, _⟩ := g.edge l1 hed
   have hv := g.vld _ (List.getElem_mem l1)
   refine ⟨?_, ?_⟩
   · rw [e1, ← hn]; exact hv.1
   · rw [e1, e2]; exact k1
theorem Grown.states (g : Grown t e) (w : Jr (gnF t e) stem loop) : ∀ c ∈ stS e.spots stem ++ stS e.spots loop, 0 ≤ c ∧ c < AS t.model.vars := fun c hc => by
 rw [← JV] at hc
 obtain ⟨k, hk, rfl⟩ := List.mem_map.1 hc
 have := w.lt k hk
 have hk2 : k < e.spots.length := this
 rw [List.getElem?_eq_getElem hk2]
 exact (g.vld _ (List.getElem_mem hk2)).1
theorem Grown.lasso_bad (g : Grown t e) (w : Jr (gnF t e) stem loop) :
 aC t.model (fun i => ((stS e.spots (stem ++ loop))[Cq stem.length (stem ++ loop).length i]?).getD 0) ∧ ¬ OQ t (fun i => ((stS e.spots (stem ++ loop))[Cq stem.length (stem ++ loop).length i]?).getD 0) := by
 have hlp := List.length_pos_iff.2 w.ne
 have hal : (stem ++ loop).length = stem.length + loop.length := List.length_append
 refine g.bad (ω := fun i => ni (stem ++ loop) (Cq stem.length (stem ++ loop).length i)) w.start w.way w.meets _ (fun i => ?_)
 have hm := Gh (s := stem.length) (N := (stem ++ loop).length) (by omega) i
 rw [B4 _ _ hm, List.getElem?_eq_getElem (Grown.lasso_lt w _ hm), Kc _ _ _ hm (Grown.lasso_lt w _ hm)]
 rfl
theorem WA {t : Tk} (h : BH t = 0) (stem loop : List Int) (hne : loop ≠ []) (hv : ∀ c ∈ stem ++ loop, 0 ≤ c ∧ c < AS t.model.vars) :
 wAt t.formula (Aa t stem ++ Aa t loop) stem.length 0 0 = iAt t.formula (XR t (fun i => ((stem ++ loop)[Cq stem.length (stem ++ loop).length i]?).getD 0)) 0 0 := by
 have hlp := List.length_pos_iff.2 hne
 have hal : (stem ++ loop).length = stem.length + loop.length := List.length_append
 have hl : Aa t stem ++ Aa t loop = Aa t (stem ++ loop) := by simp [Aa]
 rw [hl]
 have hlen : (Aa t (stem ++ loop)).length = (stem ++ loop).length := by simp [Aa]
 have key := XP t.formula (Aa t (stem ++ loop)) stem.length (by omega) t.formula.length 0 (by omega) 0
 rw [show Cq stem.length (Aa t (stem ++ loop)).length 0 = 0 from rfl] at key
 rw [← key]
 congr 1
 funext i v
 rw [hlen]
 show Of (Aa t (stem ++ loop)) (Cq stem.length (stem ++ loop).length i) v = ((Bh t (((stem ++ loop)[Cq stem.length (stem ++ loop).length i]?).getD 0))[v]?).getD false
 have hm := Gh (s := stem.length) (N := (stem ++ loop).length) (by omega) i
 generalize Cq stem.length (stem ++ loop).length i = m at hm
 obtain ⟨c0, c1⟩ := hv _ (List.getElem_mem hm)
 unfold Of
 rw [List.getElem?_eq_getElem (show m < (Aa t (stem ++ loop)).length by omega), List.getElem?_eq_getElem hm]
 simp only [Option.bind_some, Option.getD_some]
 congr 2
 simp only [Aa, List.getElem_map]
 rw [DZ h c0 c1]
theorem Grown.word_bad (g : Grown t e) (w : Jr (gnF t e) stem loop) : wAt t.formula (Aa t (stS e.spots stem) ++ Aa t (stS e.spots loop)) (stS e.spots stem).length 0 0 = false := by
 have hne : stS e.spots loop ≠ [] := fun e' => by
  have h1 := congrArg List.length e'
  rw [Dy, List.length_nil] at h1
  have hlp := List.length_pos_iff.2 w.ne
  omega
 rw [WA g.task _ _ hne (g.states w)]
 have h := (g.lasso_bad w).2
 unfold OQ at h
 rw [← JV, Dy, Dy]
 rwa [Bool.not_eq_true] at h
end
end Go.Sp
namespace Go.Proofs.YtibahljljjkceaaGreatDoor
open Go Go.Av Go.Sp Go.ChangeShapes Go.WideShapes Go.ChangeAt Go.RowKit

abbrev SQ := Rows.searchRunsRow
theorem own : ownKnob Tryz.prog.godebug = none := by kernel_rfl
theorem Qp : laidOutB Tryz.prog = true := by kernel_rfl
theorem aH : Tryz.prog.globalNamed "foretell/polish.parts" = some 0 := by kernel_rfl
theorem Wo : (Tryz.prog.globals[0]?).map (·.type) = some 253 := by kernel_rfl
theorem Ve : Tryz.prog.cellsOf 253 = 19 := by kernel_rfl
theorem VV : Tryz.prog.cellsOf 3 = 1 := by kernel_rfl
def Hb : List Int := [-1, 0, 0, 2, 2, 2, 2, 2, 2, 2, 1, 0, 0, 0, 1, 2, 2, 1, 1]
theorem table {W : World} (h : laidMetH Tryz.prog SQ.laid W) : Lib.TabIs Tryz.prog W "foretell/polish.parts" .i64 Hb :=
 Lib.tabIs_of_head (rest := []) aH Wo Tryz.underlying253 Tryz.underlying3 VV Ve h

theorem ZU {W : World} (h : laidMetH Tryz.prog SQ.laid W) : ∀ q ∈ GP, PD W (fun b => b < W.heap.size) q.2 ⟨q.1, 0, none⟩ := by
 intro q hq
 obtain rfl : q = (0, Ih) := by simpa [GP] using hq
 have hc : ∀ (i : Nat) (hi : i < Hb.length), W.cell? ⟨0, i, none⟩ = some (.int .i64 Hb[i]) := fun i hi => by simpa [List.getElem?_eq_getElem hi] using (table h).cell aH i hi
 refine ⟨World.block_lt_of_cell? _ _ (hc 0 (by decide)), fun u x hx => ?_⟩
 have hu : u < Hb.length := by
  have := (List.getElem?_eq_some_iff.1 hx).1
  simpa [Ih, Hb] using this
 have e : Ih[u]? = some (.i .i64 Hb[u]) := by
  have : Ih = Hb.map fun n => D.i .i64 n := rfl
  rw [this, List.getElem?_map, List.getElem?_eq_getElem hu]; rfl
 rw [e] at hx
 cases hx
 exact ⟨_, by rw [Addr.add_lit, Nat.zero_add]; exact hc u hu, .i _ _⟩

noncomputable def Jg (os : Os) : World :=
 { World.holding Tryz.prog os ⟨#[], #[], []⟩ with heap := (World.holding Tryz.prog os ⟨#[], #[], []⟩).heap.modify 0 fun
    | .cells _ t frozen => .cells (Hb.map fun n => Value.int .i64 n).toArray t frozen
    | o => o }
open Go Go.Av Go.Sp

theorem Xp (t : Tk) (h : (Ae t).2 ≠ 0) : ACr Tryz.prog GP 3 [tkA t] (.bool true) := by
 have hV := Ra t h
 have hH := LF GP t
 have e1 : Py t = false := decide_eq_false fun k => h k.1
 rw [e1] at hH
 generalize (Ae t).2 = e at h hV hH
 refine AN (ts := [2]) Tryz.f3.ntmps Tryz.func3 rfl rfl rfl (by simp [Tryz.ntmps3]) fun W I => ?_
 repeat' (first
  | refine ca Jq (tasks _ _) ?_
  | refine ca IU (hV) ?_
  | refine ca Ei (hH) ?_
  | refine ca CU (EW _ _) ?_
  | refine caq CU (EW _ _) ?_
  | exact True.intro | refine AD ?_ | refine two ?_ ?_ | refine AB fun c_ => ?_
  | (refine imp fun hc => ?_) <;> try exact cx1 hc
  | refine all fun v_ => ?_)
 all_goals
  refine AH (VS.drop (List.nil_sublist _)) ?_
  ((with_reducible apply rq1); rfl; rfl)
  exact AA (by simp_all)
theorem Ty (t : Tk) (h : (Ae t).2 = 0) (hf : (CK (exG t)).2 ≠ 0) : ACr Tryz.prog GP 3 [tkA t] (.bool true) := by
 have hV := Nl t h hf
 have hH := LF GP t
 have e1 : Py t = true := decide_eq_true ⟨h, hf⟩
 rw [e1, h] at hH
 refine AN (ts := [2]) Tryz.f3.ntmps Tryz.func3 rfl rfl rfl (by simp [Tryz.ntmps3]) fun W I => ?_
 repeat' (first
  | refine ca Jq (tasks _ _) ?_
  | refine ca IU (hV) ?_
  | refine ca Ei (hH) ?_
  | refine ca CU (EW _ _) ?_
  | refine caq CU (EW _ _) ?_
  | exact True.intro | refine AD ?_ | refine two ?_ ?_ | refine AB fun c_ => ?_
  | (refine imp fun hc => ?_) <;> try exact cx1 hc
  | refine all fun v_ => ?_)
 all_goals
  refine AH (VS.drop (List.nil_sublist _)) ?_
  ((with_reducible apply rq1); rfl; rfl)
  exact AA (by simp_all)
theorem Yq (t : Tk) (h : (Ae t).2 = 0) (hf : (CK (exG t)).2 = 0) : ACr Tryz.prog GP 3 [tkA t] (.bool true) := by
 obtain ⟨e, he⟩ := JA h
 obtain ⟨_, g⟩ := Kl he
 have hV := Sm t e he hf
 have hH := LF GP t
 have e1 : Py t = false := decide_eq_false fun k => k.2 hf
 rw [e1, h] at hH
 refine AN (ts := [2]) Tryz.f3.ntmps Tryz.func3 rfl rfl rfl (by simp [Tryz.ntmps3]) fun W I => ?_
 repeat' (first
  | refine ca Jq (tasks _ _) ?_
  | refine cag IU (hV) ?_
  | exact True.intro | refine AD ?_ | refine two ?_ ?_ | refine AB fun c_ => ?_
  | (refine imp fun hc => ?_) <;> try exact cx1 hc
  | refine all fun v_ => ?_)
 obtain ⟨ba, rfl⟩ : ∃ x, x = v_ := ⟨v_, rfl⟩
 obtain ⟨v, rfl⟩ : ∃ x, x = v_ := ⟨v_, rfl⟩
 obtain ⟨⟨stem, loop⟩, hp⟩ := v
 have hw := hp.1
 have hsl := hp.2.1
 have hll := hp.2.2
 dsimp only at hw hsl hll ⊢
 have q1 := Dy e.spots stem
 have q2 := Dy e.spots loop
 have hne : stS e.spots loop ≠ [] := fun e' => by
  have h1 := congrArg List.length e'
  rw [Dy, List.length_nil] at h1
  have hlp := List.length_pos_iff.2 hw.ne
  omega
 have hRn := Yz GP t.model (stS e.spots stem) (stS e.spots loop) (by omega)
 rw [g.runs hw] at hRn
 have hb := g.word_bad hw
 have hst := g.states hw
 have hK := fun hlen => Uj GP t (stS e.spots stem) (stS e.spots loop) g.task hst hne hlen
 rw [hb] at hK
 by_cases hlen : (stS e.spots stem).length + (stS e.spots loop).length ≤ 400
 · have hK2 := hK hlen
   have hl2 : ¬ (400 : Int) < ((stS e.spots stem).length : Int) + ((stS e.spots loop).length : Int) := by omega
   repeat' (first
    | refine ca Ei (hH) ?_
    | refine ca CU (EW _ _) ?_
    | refine caq CU (EW _ _) ?_
    | refine ca K4 (hRn) ?_
    | refine ca I9 (hK2) ?_
    | refine caq I9 (hK2) ?_
    | exact True.intro | refine AD ?_ | refine two ?_ ?_ | refine AB fun c_ => ?_
    | (refine imp fun hc => ?_) <;> try exact cx1 hc
    | refine all fun v_ => ?_)
   all_goals
    refine AH (VS.drop (List.nil_sublist _)) ?_
    ((with_reducible apply rq1); rfl; rfl)
    exact AA (by simp_all)
 · have hl2 : (400 : Int) < ((stS e.spots stem).length : Int) + ((stS e.spots loop).length : Int) := by omega
   repeat' (first
    | refine ca Ei (hH) ?_
    | refine ca CU (EW _ _) ?_
    | refine caq CU (EW _ _) ?_
    | refine ca K4 (hRn) ?_
    | exact True.intro | refine AD ?_ | refine two ?_ ?_ | refine AB fun c_ => ?_
    | (refine imp fun hc => ?_) <;> try exact cx1 hc
    | refine all fun v_ => ?_)
   all_goals
    refine AH (VS.drop (List.nil_sublist _)) ?_
    ((with_reducible apply rq1); rfl; rfl)
    exact AA (by simp_all)
theorem JO (t : Tk) : ACr Tryz.prog GP 3 [tkA t] (.bool true) := by
 by_cases h : (Ae t).2 = 0
 · by_cases hf : (CK (exG t)).2 = 0
   · exact Yq t h hf
   · exact Ty t h hf
 · exact Xp t h
end Go.Proofs.YtibahljljjkceaaGreatDoor
