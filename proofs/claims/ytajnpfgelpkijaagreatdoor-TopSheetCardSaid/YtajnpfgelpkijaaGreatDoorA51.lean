/- A bundle of this claim's own texts: N19 H4 K7. -/
import Derived.Test.YtajnpfgelpkijaaGreatDoorA15
import Derived.Test.YtajnpfgelpkijaaGreatDoorA18
import Derived.Test.YtajnpfgelpkijaaGreatDoorA42
import Derived.Test.YtajnpfgelpkijaaGreatDoorA48
import Derived.Test.YtajnpfgelpkijaaGreatDoorA50
set_option linter.unusedVariables false
set_option linter.unusedSimpArgs false
set_option maxRecDepth 100000
set_option maxHeartbeats 4000000
namespace Go.Sp
open Go Go.Av
abbrev vdA (b : Bool) (stem loop : List Int) : AV := .agg [.bool b, .d (AP stem), .d (AP loop)]
def stS (sp : List Fo) (l : List Nat) : List Int := l.map fun k => ((sp[k]?).map Fo.kind).getD 0
theorem Pr (sp : List Fo) (l : List Nat) : (stS sp l).length = l.length := by simp [stS]
theorem RV (sp : List Fo) (l : List Nat) (j : Nat) (h : j < l.length) (hl : l[j] < sp.length) : (stS sp l).take (j + 1) = (stS sp l).take j ++ [sp[l[j]].kind] := by
 have h2 : j < (stS sp l).length := by rw [Pr]; exact h
 rw [List.take_succ_eq_append_getElem h2]
 simp [stS, List.getElem?_eq_getElem hl]
theorem Ql {t : Tk} {e : Exp} (h : BE t = (some e, 0)) : exG t = (gnF t e).gr ∧ Grown t e := by
 have g := Xh h
 refine ⟨?_, g⟩
 rw [g.gr]; unfold exG grF; rw [h]
theorem S6 {g : Gn} (hok : g.ok) (h : (Cp g.gr).2 = 0) : ∃ home : Nat, home < g.spots.length ∧ Ej g home ∧ Cp g.gr = ((home : Int), 0) := by
 rw [Hu hok] at h ⊢
 cases hf : (List.range g.spots.length).find? fun i => decide (Ej g i) with
 | none => rw [KV, hf] at h; cases h
 | some i =>
   have hi := List.mem_range.1 (List.mem_of_find?_eq_some hf)
   have hg : Ej g i := by have := List.find?_some hf; exact of_decide_eq_true this
   exact ⟨i, hi, hg, by rw [KV, hf]⟩
end Go.Sp
namespace Go.Proofs.YtajnpfgelpkijaaGreatDoor
open Go Go.Av Go.Sp
theorem Mi : Cal Tryz.prog 10 := Cal.of Tryz.func10 (by kernel_rfl) (by kernel_rfl)
theorem Oq (t : Tk) (h : (BE t).2 = 0) (hf : (Cp (exG t)).2 ≠ 0) : ACr Tryz.prog GP 10 [tkA t] (.tup [vdA true [] [], .int 0]) := by
 have hE := Ud t
 have hL := Xa (exG t) hf
 rw [h] at hE
 generalize Cp (exG t) = p at hf hL
 obtain ⟨home, e⟩ := p
 dsimp only at hf hL
 refine Et (rs := [.cell 2 47, .tmp 3]) Tryz.f10.ntmps Tryz.func10 rfl rfl rfl (by simp [Tryz.ntmps10]) fun W I => ?_
 repeat' (first
  | refine ca Ka (hE) ?_
  | refine ca OH (hL) ?_
  | exact True.intro | refine AJ ?_ | refine two ?_ ?_ | refine AG fun c_ => ?_
  | (refine imp fun hc => ?_) <;> try exact cx1 hc
  | refine all fun v_ => ?_)
 exact QX (xs := [.agg [.bool true, .val (.slice none 0 0), .val (.slice none 0 0)], .int 0]) (ys := [vdA true [] [], .int 0]) vid ⟨CI rfl (by (with_reducible exact ElC.h)) rfl (by exact Ai) rfl, Eg rfl, trivial⟩ ⟨AV.le_agg ⟨AV.le_refl _, AV.le_nil 1 8, AV.le_nil 1 8, trivial⟩, AV.le_refl _, trivial⟩ rfl (h' := []) (List.nil_sublist _) (AD rfl)
theorem WX (t : Tk) (e : Exp) (h : BE t = (some e, 0)) (hf : (Cp (exG t)).2 = 0) : AC Tryz.prog GP 10 [tkA t] [] fun r h => ∃ v : {p : List Nat × List Nat // ar (gnF t e) p}, r = .ret (.tup [vdA false (stS e.spots v.1.1) (stS e.spots v.1.2), .int 0]) ∧ h = [] := by
 obtain ⟨eG, g⟩ := Ql h
 have hE := Ud t
 have e2 : (BE t).2 = 0 := by rw [h]
 rw [e2, eG, Lf] at hE
 rw [eG] at hf
 obtain ⟨home, hh, hg, hfe⟩ := S6 g.ok hf
 have hL0 := VW (gnF t e) g.ok home hh hg hfe
 have hL : AC Tryz.prog GP 34 [gnA (gnF t e)] [] fun r h => ∃ v : {p : List Nat × List Nat // ar (gnF t e) p}, r = .ret (.tup [.agg [.d (Af v.1.1), .d (Af v.1.2)], .int 0]) ∧ h = [] := by
  simp only [Fw]; exact hL0
 have hlt : ∀ v : {p : List Nat × List Nat // ar (gnF t e) p}, (∀ a ∈ v.1.1, a < e.spots.length) ∧ ∀ a ∈ v.1.2, a < e.spots.length := fun v =>
  ⟨fun a ha => v.2.1.lt a (List.mem_append_left _ ha), fun a ha => v.2.1.lt a (List.mem_append_right _ ha)⟩
 have hes := g.few
 refine Et (rs := [.cell 2 47, .tmp 3]) Tryz.f10.ntmps Tryz.func10 rfl rfl rfl (by simp [Tryz.ntmps10]) fun W I => ?_
 repeat' (first
  | refine ca Ka (hE) ?_
  | refine cag OH (hL) ?_
  | exact True.intro | refine AJ ?_ | refine two ?_ ?_ | refine AG fun c_ => ?_
  | (refine imp fun hc => ?_) <;> try exact cx1 hc
  | refine all fun v_ => ?_)
 obtain ⟨bv, rfl⟩ : ∃ x, x = v_ := ⟨v_, rfl⟩
 obtain ⟨bl, rfl⟩ : ∃ x, x = v_ := ⟨v_, rfl⟩
 obtain ⟨v, rfl⟩ : ∃ x, x = v_ := ⟨v_, rfl⟩
 obtain ⟨bg, rfl⟩ : ∃ x, x = v_ := ⟨v_, rfl⟩
 obtain ⟨br, rfl⟩ : ∃ x, x = v_ := ⟨v_, rfl⟩
 obtain ⟨hst, hlo⟩ := hlt v
 obtain ⟨⟨stem, loop⟩, hp⟩ := v
 have hsl := hp.2.1
 have hll := hp.2.2
 dsimp only at hst hlo hsl hll ⊢
 have q1 := Pr e.spots stem
 have q2 := Pr e.spots loop
 refine FQ (E := 3) (sz := 1) Ag ?_
 refine AL (X := Nat × Sl) (fun y => [(2, .val (.pointer (some ⟨br, 0, none⟩))), (4, .val (.pointer (some ⟨bg, 0, none⟩))), (6, .val (.pointer (some ⟨bl, 0, none⟩))), (7, .val (.pointer (some ⟨bv, 0, none⟩))), (30, .d (Af stem)), (31, .int stem.length), (32, .int y.1)]) (fun y => [AF y.2.v 3 1 Ag ((stS e.spots stem).take y.1), .cells bv 47 [.bool false, .val y.2.v, .val Sl.nil.v], .cells bl 45 [.d (Af stem), .d (Af loop)], .cells bg 99 [.d (AN e.spots), .int (gnF t e).init, .d (BJ (gnF t e).next), .d (Af (gnF t e).sets), .int (gnF t e).many], .cells br 47 [.bool false, .val (.slice none 0 0), .val (.slice none 0 0)]]) (fun y => y.1 ≤ stem.length) (fun y => stem.length - y.1) (0, Sl.nil) (Nat.zero_le _) (VS.take (by exact AB) ?_) ?_
 · exact leD
 rintro ⟨j, q⟩ hj
 dsimp only at hj ⊢
 by_cases hjl : j < stem.length
 · have hjs := hst stem[j] (List.getElem_mem hjl)
   have et := RV e.spots stem j hjl hjs
   have hlen : ((stS e.spots stem).take j).length = j := by rw [List.length_take]; omega
   repeat' (first
    | exact True.intro | refine Gi ?_ | refine two ?_ ?_ | refine AG fun c_ => ?_
    | (refine imp fun hc => ?_) <;> try exact cx hc
    | refine all fun v_ => ?_)
   refine ⟨?_⟩
   refine BC [AF q.v 3 1 Ag ((stS e.spots stem).take j)] mixed rfl (by (repeat ((with_reducible apply Hd.cons); (focus rfl))); exact Hd.nil) (by (repeat (with_reducible apply Aa)); exact len_nil) (by decide +kernel) (by exact AS) ?_
   repeat' (first
    | exact True.intro | refine AJ ?_ | refine two ?_ ?_ | refine AG fun c_ => ?_
    | (refine imp fun hc => ?_) <;> try exact cx1 hc
    | refine all fun v_ => ?_)
   refine ⟨(j + 1, v_), by dsimp only; omega, by dsimp only; omega, VS.take (by dsimp only; rw [et]; exact AB) ?_⟩
   exact leD
 obtain rfl : j = stem.length := by omega
 have eall : (stS e.spots stem).take stem.length = stS e.spots stem := List.take_of_length_le (by omega)
 rw [eall]
 repeat' (first
  | exact True.intro | refine AJ ?_ | refine two ?_ ?_ | refine AG fun c_ => ?_
  | (refine imp fun hc => ?_) <;> try exact cx1 hc
  | refine all fun v_ => ?_)
 refine FQ (E := 3) (sz := 1) Ag ?_
 refine AL (X := Nat × Sl) (fun y => [(2, .val (.pointer (some ⟨br, 0, none⟩))), (4, .val (.pointer (some ⟨bg, 0, none⟩))), (6, .val (.pointer (some ⟨bl, 0, none⟩))), (7, .val (.pointer (some ⟨bv, 0, none⟩))), (51, .d (Af loop)), (52, .int loop.length), (53, .int y.1)]) (fun y => [AF y.2.v 3 1 Ag ((stS e.spots loop).take y.1), AF q.v 3 1 Ag (stS e.spots stem), .cells bv 47 [.bool false, .val q.v, .val y.2.v], .cells bl 45 [.d (Af stem), .d (Af loop)], .cells bg 99 [.d (AN e.spots), .int (gnF t e).init, .d (BJ (gnF t e).next), .d (Af (gnF t e).sets), .int (gnF t e).many], .cells br 47 [.bool false, .val (.slice none 0 0), .val (.slice none 0 0)]]) (fun y => y.1 ≤ loop.length) (fun y => loop.length - y.1) (0, Sl.nil) (Nat.zero_le _) (VS.take (by exact AB) ?_) ?_
 · exact leD
 obtain ⟨qs, rfl⟩ : ∃ x, x = q := ⟨q, rfl⟩
 rintro ⟨j, q⟩ hj
 dsimp only at hj ⊢
 by_cases hjl : j < loop.length
 · have hjs := hlo loop[j] (List.getElem_mem hjl)
   have et := RV e.spots loop j hjl hjs
   have hlen : ((stS e.spots loop).take j).length = j := by rw [List.length_take]; omega
   repeat' (first
    | exact True.intro | refine Gi ?_ | refine two ?_ ?_ | refine AG fun c_ => ?_
    | (refine imp fun hc => ?_) <;> try exact cx hc
    | refine all fun v_ => ?_)
   refine ⟨?_⟩
   refine BC [AF q.v 3 1 Ag ((stS e.spots loop).take j)] mixed rfl (by (repeat ((with_reducible apply Hd.cons); (focus rfl))); exact Hd.nil) (by (repeat (with_reducible apply Aa)); exact len_nil) (by decide +kernel) (by exact AS) ?_
   repeat' (first
    | exact True.intro | refine AJ ?_ | refine two ?_ ?_ | refine AG fun c_ => ?_
    | (refine imp fun hc => ?_) <;> try exact cx1 hc
    | refine all fun v_ => ?_)
   refine ⟨(j + 1, v_), by dsimp only; omega, by dsimp only; omega, VS.take (by dsimp only; rw [et]; exact AB) ?_⟩
   exact leD
 obtain rfl : j = loop.length := by omega
 have eall : (stS e.spots loop).take loop.length = stS e.spots loop := List.take_of_length_le (by omega)
 rw [eall]
 repeat' (first
  | exact True.intro | refine AJ ?_ | refine two ?_ ?_ | refine AG fun c_ => ?_
  | (refine imp fun hc => ?_) <;> try exact cx1 hc
  | refine all fun v_ => ?_)
 refine Jt (VS.trans (VS.take (hc := [AF qs.v 3 1 Ag (stS e.spots stem), AF q.v 3 1 Ag (stS e.spots loop), .cells br 47 [.bool false, .val qs.v, .val q.v]]) (by exact AB) (Env.le_refl _))
  (VS.trans (Gh (h1 := []) (h' := [AF q.v 3 1 Ag (stS e.spots loop), .cells br 47 [.bool false, .d (AP (stS e.spots stem)), .val q.v]]) 8 rfl rfl (fun _ => rfl) (by omega) (CvE.refl _ _ _) ?_)
  (Gh (h1 := []) (h' := [.cells br 47 [.bool false, .d (AP (stS e.spots stem)), .d (AP (stS e.spots loop))]]) 8 rfl rfl (fun _ => rfl) (by omega) (CvE.refl _ _ _) ?_))) (xs := [vdA false (stS e.spots stem) (stS e.spots loop), .int 0]) ⟨CI rfl (by (with_reducible exact ElC.h)) rfl (by exact Ai) rfl, Eg rfl, trivial⟩ rfl (h' := []) (List.nil_sublist _) ⟨⟨(stem, loop), hp⟩, rfl, rfl⟩
 · exact .keep (.cells (.cons (.same _) (.cons .here (.cons (.same _) .nil))) (.refl _))
 · exact .cells (.cons (.same _) (.cons (.same _) (.cons .here .nil))) (.refl _)
end Go.Proofs.YtajnpfgelpkijaaGreatDoor
namespace Go.Sp
open Go Go.Av

noncomputable def Pn (t : Tk) : Bool := @decide (F9 t) (Classical.propDecidable _)
theorem LW {t : Tk} : Pn t = true ↔ F9 t := by
 unfold Pn
 exact @decide_eq_true_iff _ (Classical.propDecidable _)
theorem Mo {t : Tk} {e : Exp} (h : BE t = (some e, 0)) : (Cp (exG t)).2 ≠ 0 ↔ F9 t := by
 obtain ⟨h1, g⟩ := Ql h
 rw [h1, g.gr]
 exact g.holds
theorem FoG.of (raw : List Fo) {t : Nat} (h : t ≤ 6) : FoG (IA raw t) := by
 have := LK raw t
 exact ⟨this.1, by omega, by omega⟩
theorem FoG.yes : FoG [⟨11, 0⟩] := ⟨.leaf rfl rfl, by simp, by decide⟩
section
variable (d : De) {f g : List Fo}
noncomputable abbrev sgG (d : De) (π : Nat → Int) : Nat → Nat → Bool := NI (C4 d []) π
theorem bz : F9 (C4 d f) ↔ ∀ π, Vg (CH d) π → iAt f (sgG d π) 0 0 = true := Iff.rfl
theorem bT : F9 (C4 d [⟨11, 0⟩]) := (bz d).2 fun π _ => by rw [bf]
end
theorem fH {t : Tk} (h : F9 t) : Pn t = true := LW.2 h
theorem fN {t : Tk} (h : ¬ F9 t) : Pn t = false := by
 cases e : Pn t with
 | false => rfl
 | true => exact absurd (LW.1 e) h
end Go.Sp
namespace Go.Proofs.YtajnpfgelpkijaaGreatDoor
open Go Go.Av Go.Sp
theorem VT : Cal Tryz.prog 35 := Cal.of Tryz.func35 (by kernel_rfl) (by kernel_rfl)
theorem UD : Cal Tryz.prog 11 := Cal.of Tryz.func11 (by kernel_rfl) (by kernel_rfl)
theorem Vt : Cal Tryz.prog 8 := Cal.of Tryz.func8 (by kernel_rfl) (by kernel_rfl)
theorem gW (d : De) {f : List Fo} (hf : FoG f) : AC Tryz.prog GP 10 [tkA (C4 d f)] [] fun r h => ∃ v : List Int × List Int, r = .ret (.tup [vdA (Pn (C4 d f)) v.1 v.2, .int 0]) ∧ h = [] := by
 obtain ⟨e, he⟩ := W8 d hf
 have hx : (BE (C4 d f)).2 = 0 := by rw [he]
 by_cases h : F9 (C4 d f)
 · have hA := Oq (C4 d f) hx ((Mo he).2 h)
   rw [fH h]
   exact hA.mono fun r hh hq => ⟨([], []), hq.1, hq.2⟩
 · have hA := WX (C4 d f) e he (Decidable.not_not.1 fun c => h ((Mo he).1 c))
   rw [fN h]
   exact hA.mono fun r hh hq => by
    obtain ⟨v, h1, h2⟩ := hq
    exact ⟨(stS e.spots v.1.1, stS e.spots v.1.2), h1, h2⟩
theorem gC (G : List (Nat × List D)) (d : De) (hd : XA d) (f : List Fo) : ACr Tryz.prog G 35 [deA d, .d (AN f)] (tkA (C4 d f)) := by
 have hM := Ym G d hd
 have hP := dm G
 refine Et (rs := [.cell 4 29]) Tryz.f35.ntmps Tryz.func35 rfl rfl rfl (by simp [Tryz.ntmps35]) fun W I => ?_
 repeat' (first
  | refine ca Mn (hM) ?_
  | refine ca Sn (hP) ?_
  | exact True.intro | refine AJ ?_ | refine two ?_ ?_ | refine AG fun c_ => ?_
  | (refine imp fun hc => ?_) <;> try exact cx1 hc
  | refine all fun v_ => ?_)
 refine ck (xs := [tkA (C4 d f)]) ⟨CI rfl (by (with_reducible exact ElC.h)) rfl (by exact Ai) rfl, trivial⟩ rfl (h' := []) (List.nil_sublist _) (AD rfl)
theorem fT (d : De) (hd : XA d) {f : List Fo} (hf : FoG f) : ACr Tryz.prog GP 11 [deA d, .d (AN f)] (.tup [.bool (Pn (C4 d f)), .bool true]) := by
 have hT := gC GP d hd f
 have hV := gW d hf
 generalize Pn (C4 d f) = b at hV ⊢
 refine AK (ts := [4, 5]) Tryz.f11.ntmps Tryz.func11 rfl rfl rfl (by simp [Tryz.ntmps11]) fun W I => ?_
 repeat' (first
  | refine ca VT (hT) ?_
  | refine cag Mi (hV) ?_
  | exact True.intro | refine AJ ?_ | refine two ?_ ?_ | refine AG fun c_ => ?_
  | (refine imp fun hc => ?_) <;> try exact cx1 hc
  | refine all fun v_ => ?_)
 refine AO (VS.drop (List.nil_sublist _)) ?_
 ((with_reducible apply rq2); rfl; rfl; rfl)
 exact AD rfl
theorem gk (G : List (Nat × List D)) (d : De) (hd : XA d) (raw : List Fo) (hr : Bd raw) (t : Nat) (ht : t ≤ 100) : ACr Tryz.prog G 8 [deA d, .d (AN raw), .int t] (tkA (C4 d (IA raw t))) := by
 have hM := Ym G d hd
 have hP := Yp G
 have hF := ZF G raw hr t ht
 refine Et (rs := [.cell 6 29]) Tryz.f8.ntmps Tryz.func8 rfl rfl rfl (by simp [Tryz.ntmps8]) fun W I => ?_
 repeat' (first
  | refine ca Mn (hM) ?_
  | refine ca Lw (hP) ?_
  | refine ca Pu (hF) ?_
  | exact True.intro | refine AJ ?_ | refine two ?_ ?_ | refine AG fun c_ => ?_
  | (refine imp fun hc => ?_) <;> try exact cx1 hc
  | refine all fun v_ => ?_)
 refine ck (xs := [tkA (C4 d (IA raw t))]) ⟨CI rfl (by (with_reducible exact ElC.h)) rfl (by exact Ai) rfl, trivial⟩ rfl (h' := []) (List.nil_sublist _) (AD rfl)
end Go.Proofs.YtajnpfgelpkijaaGreatDoor
