/- A bundle of this claim's own texts: P8 En. -/
import Derived.Test.YtnlfhnbcdfdhgaaGreatDoorF32
set_option linter.unusedVariables false
set_option linter.unusedSimpArgs false
set_option maxRecDepth 100000
set_option maxHeartbeats 4000000
namespace Go.Sp
open Go Go.Av
theorem Q0 : ∀ {l : List Fo}, Lm l = 0 → ∀ m ∈ l, (1 ≤ m.kind ∧ m.kind ≤ 4) ∧ 0 ≤ m.val ∧ m.val ≤ 2147483647
 | [], _, m, h => by cases h
 | a :: l, h, m, hm => by
   rw [Lm] at h
   by_cases c1 : a.kind < 1 ∨ 4 < a.kind
   · rw [if_pos c1] at h; cases h
   rw [if_neg c1] at h
   by_cases c2 : a.val < 0 ∨ 2147483647 < a.val
   · rw [if_pos c2] at h; cases h
   rw [if_neg c2] at h
   rcases List.mem_cons.1 hm with rfl | hm
   · omega
   · exact Q0 h m hm
theorem X8 {l : List Fo} (h : Hy l = 0) : l.length ≤ 5000 ∧ ∀ m ∈ l, (1 ≤ m.kind ∧ m.kind ≤ 4) ∧ 0 ≤ m.val ∧ m.val ≤ 2147483647 := by
 unfold Hy at h
 by_cases c : 5000 < l.length
 · rw [if_pos c] at h; cases h
 · rw [if_neg c] at h
   exact ⟨by omega, Q0 h⟩
theorem NQ {t : Tk} {e : Exp} (g : Grown t e) : ∀ (l : List Fo) {x : Ms}, DL t e x → (l.foldl (mvF t) x).a ≤ x.a + 20000 * l.length
 | [], _, _ => Nat.le_add_right _ _
 | m :: l, x, h => by
   have h1 := NQ g l (h.mv g m)
   have h2 := XA g h.ms m
   rw [List.foldl_cons, List.length_cons]; omega
theorem PV {t : Tk} (h : (An t).2 = 0) : ∃ e, An t = (some e, 0) := by
 unfold An at h ⊢
 by_cases c : BL t ≠ 0
 · rw [if_pos c] at h; exact absurd h c
 · rw [if_neg c] at h ⊢
   cases hx : GM t 20002 0 (A3 t).1 [] [] with
   | none => rw [hx] at h; cases h
   | some e => exact ⟨e, rfl⟩
theorem NB (t : Tk) (l : List Fo) (i : Nat) (h : i < l.length) : runM t (l.take (i + 1)) = mvF t (runM t (l.take i)) l[i] := by
 rw [List.take_succ_eq_append_getElem h, Wr]
end Go.Sp
namespace Go.Av
open Go
theorem VS.cellsLe {ρ : Env} {h : H} {b : Nat} {T : TypeId} {xs ys : List AV} (hle : AVs.le xs ys) : VS ρ (.cells b T xs :: h) ρ (.cells b T ys :: h) := fun c I n a w k1 k2 => ⟨I,
 { ent := fun e he => by
    rcases List.mem_cons.1 he with rfl | he
    · obtain ⟨cs, h1, h2⟩ := k1.ent _ List.mem_cons_self
      exact ⟨cs, h1, AVs.le_rel hle h2⟩
    · exact k1.ent e (List.mem_cons_of_mem _ he)
   nd := k1.nd, imm := k1.imm, new := k1.new, inew := k1.inew, sup := k1.sup, os := k1.os, tape := k1.tape, output := k1.output, size := k1.size, keep := k1.keep, glob := k1.glob }, k2⟩
end Go.Av
namespace Go.Proofs.YtnlfhnbcdfdhgaaGreatDoor
open Go Go.Av Go.Sp
theorem Px : Cal Tryz.prog 15 := Cal.of Tryz.func15 (by kernel_rfl) (by kernel_rfl)
theorem eC {p q : Prop} (hp : p) (h : p → q := by
 apply cmp; (focus (first
  | (first
    | ((with_reducible apply HB); (focus exact mixed); (focus rfl); (focus ((repeat ((with_reducible apply Hd.cons); (focus rfl))); exact Hd.nil)); (focus ((repeat (with_reducible apply AU)); exact len_nil)); (focus (decide +kernel)))
    | ((with_reducible apply PU); (focus (decide +kernel)); (focus ((repeat (with_reducible apply App.cons)); exact App.nil)))
    | ((with_reducible apply Kk); (focus rfl); (focus (decide +kernel)); (focus exact ER); (focus rfl))
    | ((with_reducible apply Yf); (iterate 5 focus rfl); (focus (decide +kernel)); (focus exact ER); (focus rfl))
    | ((with_reducible apply Xj); (iterate 5 focus rfl); (focus (decide +kernel)); (focus rfl))
    | ((with_reducible apply jh_gu); (iterate 4 focus rfl); (focus (decide +kernel)); (focus rfl))
    | ((with_reducible apply MY); (iterate 4 focus rfl); (focus (decide +kernel)))
    | with_reducible apply Nu
    | with_reducible apply OF
    | ((with_reducible apply Z2); (focus (decide +kernel)); (focus (decide +kernel)))
    | with_reducible exact aZ
    | ((with_reducible apply WV); (focus (decide +kernel)))
    | ((with_reducible apply bB); (focus rfl))
    | with_reducible apply SO
    )
  ))
 exact fun h => h) : q := h hp
noncomputable abbrev skP (t : Tk) (x : Ms) (s : Sto) : List D :=
 [BT t.model.vars, A2 t.model.rules, BU t.props, AO t.formula, .b x.up, AO (spF t x.n), AK s.loose, Ah s.runs, .i .i64 x.n, .i .i64 x.m, B0 (dtF t x.n), .i .i64 (byF t x.s), .b false, .i .i64 0, .i .i64 0, .i .i64 0, .i .i64 x.a, .b false, .b false]
theorem cT (t : Tk) (e : Exp) (g : Grown t e) (x : Ms) (hI : MsI t e x) (s : Sto) :
 ACr Tryz.prog GP 31 [.pd (skP t x s)] (.val (.int .i64 x.s)) := by
 have hC := cJ GP ⟨dtF t x.n, byF t x.s⟩ 0
 rw [g.safe hI.nN hI.b hI.s] at hC
 have hs := hI.s
 have hR := Read GP ⟨dtF t x.s, byF t x.s⟩
 rw [g.read (Nat.le_trans hs hI.nN) (Nat.le_trans (Dx t hs) hI.b) (Nat.le_refl _)] at hR
 dsimp only at hC hR
 have hl := Hf t x.s
 refine AJ (ts := [2]) Tryz.f31.ntmps Tryz.func31 rfl rfl rfl (by simp [Tryz.ntmps31]) fun W I => ?_
 repeat' (first
  | refine ca NF (hC) ?_
  | refine ca JA (hR) ?_
  | ((with_reducible apply jp); (focus ((with_reducible apply R0); (focus rfl); (focus (with_reducible exact ElC.h)); (focus rfl); (focus rfl))); (focus rfl))
  | exact True.intro | refine AP ?_ | refine two ?_ ?_
  | (refine imp fun hc => ?_) <;> try exact cx hc
  | refine all fun v_ => ?_)
 rw [hl]
 refine AN (VS.trans (VS.drop (List.nil_sublist _)) (VS.of_le (Env.le_cons (t := 2) (x := .val (.int .i64 x.s)) (fun w I u h => h) (Env.le_refl _)))) ?_
 ((with_reducible apply rq1); rfl; rfl)
 exact AB rfl
theorem W7 (t : Tk) (l : List Fo) (h : (An t).2 ≠ 0) : ACr Tryz.prog GP 15 [tkA t, .d (AO l)] (.tup [ouA (Cr t l).1, .int (Cr t l).2]) := by
 have hE := GK t
 unfold Cr
 rw [if_pos h]
 generalize (An t).2 = er at hE h
 refine Bm (rs := [.cell 4 33, .tmp 5]) Tryz.f15.ntmps Tryz.func15 rfl rfl rfl (by simp [Tryz.ntmps15]) fun W I => ?_
 repeat' (first
  | refine ca Ci (hE) ?_
  | exact True.intro | refine AG ?_ | refine two ?_ ?_ | refine AF fun c_ => ?_
  | (refine imp fun hc => ?_) <;> try exact cx1 hc
  | refine all fun v_ => ?_)
 exact Eo (xs := [.agg [.val (.bool false), .val (.int .i64 0), .val (.int .i64 0), .val (.int .i64 0), .val (.int .i64 0), .val (.bool false), .val (.bool false)], .int er]) (ys := [ouA Tx, .int er]) vid ⟨Ax rfl (by (with_reducible exact ElC.h)) rfl (by exact Ab) rfl, Az rfl, trivial⟩ ⟨AV.le_agg ⟨fun _ _ _ h => h, fun _ _ _ h => h, fun _ _ _ h => h, fun _ _ _ h => h, fun _ _ _ h => h, fun _ _ _ h => h, fun _ _ _ h => h, trivial⟩, AV.le_refl _, trivial⟩ rfl (h' := []) (List.nil_sublist _) (AB rfl)
theorem Xz (t : Tk) (l : List Fo) (h : (An t).2 = 0) (hm : Hy l ≠ 0) : ACr Tryz.prog GP 15 [tkA t, .d (AO l)] (.tup [ouA (Cr t l).1, .int (Cr t l).2]) := by
 have hE := GK t
 have hM := W4 GP l
 unfold Cr
 rw [if_neg (fun k => k h), if_pos hm]
 rw [h] at hE
 generalize Hy l = er at hM hm
 refine Bm (rs := [.cell 4 33, .tmp 5]) Tryz.f15.ntmps Tryz.func15 rfl rfl rfl (by simp [Tryz.ntmps15]) fun W I => ?_
 repeat' (first
  | refine ca Ci (hE) ?_
  | refine ca L5 (hM) ?_
  | exact True.intro | refine AG ?_ | refine two ?_ ?_ | refine AF fun c_ => ?_
  | (refine imp fun hc => ?_) <;> try exact cx1 hc
  | refine all fun v_ => ?_)
 exact Eo (xs := [.agg [.val (.bool false), .val (.int .i64 0), .val (.int .i64 0), .val (.int .i64 0), .val (.int .i64 0), .val (.bool false), .val (.bool false)], .int er]) (ys := [ouA Tx, .int er]) vid ⟨Ax rfl (by (with_reducible exact ElC.h)) rfl (by exact Ab) rfl, Az rfl, trivial⟩ ⟨AV.le_agg ⟨fun _ _ _ h => h, fun _ _ _ h => h, fun _ _ _ h => h, fun _ _ _ h => h, fun _ _ _ h => h, fun _ _ _ h => h, fun _ _ _ h => h, trivial⟩, AV.le_refl _, trivial⟩ rfl (h' := []) (List.nil_sublist _) (AB rfl)
theorem YK (t : Tk) (l : List Fo) (e : Exp) (he : An t = (some e, 0)) (hm : Hy l = 0) : ACr Tryz.prog GP 15 [tkA t, .d (AO l)] (.tup [ouA (Cr t l).1, .int (Cr t l).2]) := by
 have g := HO he
 have hE := GK t
 have hM := W4 GP l
 obtain ⟨hl5, hall⟩ := X8 hm
 have e2 : (An t).2 = 0 := by rw [he]
 unfold Cr
 rw [if_neg (fun k => k e2), if_neg (fun k => k hm)]
 rw [e2] at hE
 rw [hm] at hM
 have hF := eI GP (exG t)
 generalize hG0 : exG t = G0 at hE hF
 refine Bm (rs := [.cell 4 33, .tmp 5]) Tryz.f15.ntmps Tryz.func15 rfl rfl rfl (by simp [Tryz.ntmps15]) fun W I => ?_
 repeat' (first
  | refine ca Ci (hE) ?_
  | refine ca L5 (hM) ?_
  | exact True.intro | refine AP ?_ | refine two ?_ ?_
  | (refine imp fun hc => ?_) <;> try exact cx hc
  | refine all fun v_ => ?_)
 rename_i b2 b4 bg k1
 obtain ⟨bs, rfl⟩ : ∃ x, x = v_ := ⟨v_, rfl⟩
 refine C3 (VS.trans (VS.take (hc := [.cells bs 82 [.d (BT t.model.vars), .d (A2 t.model.rules), .d (BU t.props), .d (AO t.formula), .val (.bool true), .val (.slice none 0 0), .val (.slice none 0 0), .val (.slice none 0 0), .val (.int .i64 0), .val (.int .i64 0), .val (.slice none 0 0), .val (.int .i64 0), .val (.bool false), .val (.int .i64 0), .val (.int .i64 0), .val (.int .i64 0), .val (.int .i64 0), .val (.bool false), .val (.bool false)], .cells bg 51 [.d (AO G0.spots), .int G0.init, .d (Ah G0.next), .d (AK G0.sets), .int G0.many], .cells b4 33 [.val (.bool false), .val (.int .i64 0), .val (.int .i64 0), .val (.int .i64 0), .val (.int .i64 0), .val (.bool false), .val (.bool false)]]) (by exact AD) (Env.le_refl _))
  (VS.trans (VS.cellsLe (ys := [.d (BT t.model.vars), .d (A2 t.model.rules), .d (BU t.props), .d (AO t.formula), .bool true, .val (.slice none 0 0), .val (.slice none 0 0), .val (.slice none 0 0), .int 0, .int 0, .val (.slice none 0 0), .int 0, .bool false, .int 0, .int 0, .int 0, .int 0, .bool false, .bool false]) ⟨fun _ _ _ h => h, fun _ _ _ h => h, fun _ _ _ h => h, fun _ _ _ h => h, fun _ _ _ h => h, fun _ _ _ h => h, fun _ _ _ h => h, fun _ _ _ h => h, fun _ _ _ h => h, fun _ _ _ h => h, fun _ _ _ h => h, fun _ _ _ h => h, fun _ _ _ h => h, fun _ _ _ h => h, fun _ _ _ h => h, fun _ _ _ h => h, fun _ _ _ h => h, fun _ _ _ h => h, fun _ _ _ h => h, trivial⟩)
  (VS.trans (VS.nilrow 5 1) (VS.trans (D1 (f := Cy) (xs := []) (h1 := []) 1 rfl rfl (fun _ => rfl) (by simp) (CvE.refl _ _ _) (cv10 (h := _))) (VS.trans (VS.nilrow 106 2) (VS.take (hc := [skD bs t Sl.nil (.val (.slice none 0 0)) (.val (.slice none 0 0)) ⟨true, 0, 0, ⟨[], 0⟩, ⟨false, 0, 0, 0, 0, false, false⟩⟩, AH Sl.nil.v 106 2 Fo.cells [], .cells bg 51 [.d (AO G0.spots), .int G0.init, .d (Ah G0.next), .d (AK G0.sets), .int G0.many], .cells b4 33 [.val (.bool false), .val (.int .i64 0), .val (.int .i64 0), .val (.int .i64 0), .val (.int .i64 0), .val (.bool false), .val (.bool false)]]) (by exact AD) (Env.le_refl _))))))) ?_
 have F0 := WU bs t ⟨true, 0, 0, ⟨[], 0⟩, ⟨false, 0, 0, 0, 0, false, false⟩⟩ [] Sl.nil (.val (.slice none 0 0)) (.val (.slice none 0 0)) g.task
 repeat' (first
  | refine cag MZ (F0) ?_
  | exact True.intro | refine AP ?_ | refine two ?_ ?_
  | (refine imp fun hc => ?_) <;> try exact cx hc
  | refine all fun v_ => ?_)
 obtain ⟨⟨w0, hw0⟩, rfl⟩ : ∃ x, x = v_ := ⟨v_, rfl⟩
 dsimp only
 clear hE hM F0
 refine AM (X := Nat × Sl × Sto) (fun y => [(4, .val (.pointer (some ⟨b4, 0, none⟩))), (6, .val (.pointer (some ⟨bg, 0, none⟩))), (9, .val (.pointer (some ⟨bs, 0, none⟩))), (35, .d (AO l)), (36, .int l.length), (37, .int y.1)]) (fun y => [skC bs t y.2.1 y.2.2 (srF t (runM t (l.take y.1))), AH y.2.1.v 106 2 Fo.cells (spF t (runM t (l.take y.1)).n), .cells bg 51 [.d (AO G0.spots), .int G0.init, .d (Ah G0.next), .d (AK G0.sets), .int G0.many], .cells b4 33 [.val (.bool false), .val (.int .i64 0), .val (.int .i64 0), .val (.int .i64 0), .val (.int .i64 0), .val (.bool false), .val (.bool false)]]) (fun y => y.1 ≤ l.length ∧ HN y.2.2 (spF t (runM t (l.take y.1)).n)) (fun y => l.length - y.1) (0, w0) ⟨Nat.zero_le _, hw0⟩ (VS.take (by dsimp only; exact AD) ?_) ?_
 · exact leD
 rintro ⟨i, v⟩ ⟨hi, hmi⟩
 dsimp only at hi hmi ⊢
 have hr := g.runI (l.take i)
 by_cases hil : i < l.length
 · have hag := NQ g (l.take i) (DL.nil (t := t) (e := e))
   have hm5 := hall l[i] (List.getElem_mem hil)
   have F := sdo bs t e g (runM t (l.take i)) hr.ms (by
    have h1 : (l.take i).length ≤ 5000 := by rw [List.length_take]; omega
    have h2 : B7.a = 0 := rfl
    unfold runM; omega) l[i] hm5.1 hm5.2 ⟨v, hmi⟩
   rw [← NB t l i hil] at F
   repeat' (first
    | refine cag Zq (F) ?_
    | exact True.intro | refine AP ?_ | refine two ?_ ?_
    | (refine imp fun hc => ?_) <;> try exact cx hc
    | refine all fun v_ => ?_)
   obtain ⟨⟨w, hw⟩, rfl⟩ : ∃ x, x = v_ := ⟨v_, rfl⟩
   refine ⟨(i + 1, w), ⟨hil, hw⟩, by dsimp only; omega, VS.take (by exact AD) ?_⟩
   exact leD
 obtain rfl : i = l.length := by omega
 rw [List.take_length] at hmi hr ⊢
 generalize runM t l = x at hmi hr ⊢
 have hI := hr.ms
 have hbd := hr.bounds g
 have hN := g.few
 have hSB := cT t e g x hI v.2
 unfold skC skD srF
 dsimp only
 haveI fA_ : Iy := ⟨⟩
 haveI fH_ : J7 := ⟨⟩
 haveI fS_ : IT 1 := ⟨⟩
 repeat' (first
  | exact True.intro
  | refine stp ?_
  | refine two ?_ ?_
  | refine AF fun c_ => ?_
  | (refine imp fun hc => ?_) <;> try exact cx1 hc
  | refine all fun v_ => ?_)
 clear fA_ fH_ fS_
 obtain ⟨bo, rfl⟩ : ∃ x, x = v_ := ⟨v_, rfl⟩
 refine ⟨?_⟩
 have hkn : Bor [.cells bs 82 [.d (BT t.model.vars), .d (A2 t.model.rules), .d (BU t.props), .d (AO t.formula), .bool x.up, .val v.1.v, .d (AK v.2.loose), .d (Ah v.2.runs), .int x.n, .int x.m, .d (B0 (dtF t x.n)), .int (byF t x.s), .bool false, .int 0, .int 0, .int 0, .int x.a, .bool false, .bool false], AH v.1.v 106 2 Fo.cells (spF t x.n), .cells bg 51 [.d (AO G0.spots), .int G0.init, .d (Ah G0.next), .d (AK G0.sets), .int G0.many], .cells b4 33 [.val (.bool false), .val (.int .i64 0), .val (.int .i64 0), .val (.int .i64 0), .val (.int .i64 0), .val (.bool false), .val (.bool false)]] (.val v.1.v) (.d (AO (spF t x.n))) := DZ (f := Fo.cells) (xs := spF t x.n) (E := 106) (sz := 2) 16 (List.mem_cons_of_mem _ List.mem_cons_self) rfl (fun _ => rfl) (by have : (spF t x.n).length = nkF t x.n := rfl; omega)
 have hBor : PR [.cells bs 82 [.d (BT t.model.vars), .d (A2 t.model.rules), .d (BU t.props), .d (AO t.formula), .bool x.up, .val v.1.v, .d (AK v.2.loose), .d (Ah v.2.runs), .int x.n, .int x.m, .d (B0 (dtF t x.n)), .int (byF t x.s), .bool false, .int 0, .int 0, .int 0, .int x.a, .bool false, .bool false], AH v.1.v 106 2 Fo.cells (spF t x.n), .cells bg 51 [.d (AO G0.spots), .int G0.init, .d (Ah G0.next), .d (AK G0.sets), .int G0.many], .cells b4 33 [.val (.bool false), .val (.int .i64 0), .val (.int .i64 0), .val (.int .i64 0), .val (.int .i64 0), .val (.bool false), .val (.bool false)]] [.val (.pointer (some ⟨bs, 0, none⟩))] [.pd (skP t x v.2)] :=
  ⟨AY List.mem_cons_self ⟨Cw _ _, Cw _ _, Cw _ _, Cw _ _, Hl _ _, fun c I w u k r => hkn c I w u k r, Cw _ _, Cw _ _, EE _ _, EE _ _, Cw _ _, EE _ _, Hl _ _, EE _ _, EE _ _, EE _ _, EE _ _, Hl _ _, Hl _ _, trivial⟩, trivial⟩
 refine GW (X := Unit) (fun _ => [(4, .val (.pointer (some ⟨b4, 0, none⟩))), (6, .val (.pointer (some ⟨bg, 0, none⟩))), (9, .val (.pointer (some ⟨bs, 0, none⟩))), (12, .val (.pointer (some ⟨bo, 0, none⟩)))]) (fun _ => [.cells bo 33 [.bool x.up, .int (spF t x.n).length, .int x.n, .int x.s, .int x.a, .bool false, .bool false], .cells bs 82 [.d (BT t.model.vars), .d (A2 t.model.rules), .d (BU t.props), .d (AO t.formula), .bool x.up, .val v.1.v, .d (AK v.2.loose), .d (Ah v.2.runs), .int x.n, .int x.m, .d (B0 (dtF t x.n)), .int (byF t x.s), .bool false, .int 0, .int 0, .int 0, .int x.a, .bool false, .bool false], AH v.1.v 106 2 Fo.cells (spF t x.n), .cells bg 51 [.d (AO G0.spots), .int G0.init, .d (Ah G0.next), .d (AK G0.sets), .int G0.many], .cells b4 33 [.val (.bool false), .val (.int .i64 0), .val (.int .i64 0), .val (.int .i64 0), .val (.int .i64 0), .val (.bool false), .val (.bool false)]]) ?_ ?_
 · refine Cm [.cells bo 33 [.bool false, .int 0, .int 0, .int 0, .int x.a, .bool false, .bool false]] mixed rfl (by (repeat (with_reducible apply AU)); exact len_nil) (by decide +kernel) (by exact AD) ?_
   haveI fA_ : Iy := ⟨⟩
   repeat' (first
    | exact True.intro
    | ((with_reducible apply WV); (focus (decide +kernel)))
    | ((with_reducible apply a7); (focus rfl); (focus rfl); (focus exact VF); (focus exact hSB); (focus exact hBor); (focus rfl))
    | refine eC ?_
    | refine stp ?_
    | refine two ?_ ?_
    | refine AF fun c_ => ?_
    | (refine imp fun hc => ?_) <;> try exact cx1 hc
    | refine all fun v_ => ?_)
   all_goals clear fA_
   all_goals
    refine ⟨(), VS.take (by exact AD) ?_⟩
    exact leD
 intro _
 have hxl : (spF t x.n).length = nkF t x.n := rfl
 unfold ML
 rw [hG0]
 by_cases hu : x.up = true
 · by_cases hn : x.n = nkF t x.n
   · rw [hu, decide_eq_true hn]
     repeat' (first
      | refine ca Vl (hF) ?_
      | exact True.intro | refine AG ?_ | refine two ?_ ?_ | refine AF fun c_ => ?_
      | (refine imp fun hc => ?_) <;> try exact cx1 hc
      | refine all fun v_ => ?_)
     refine HA (VS.take (hc := [.cells b4 33 [.bool true, .int (spF t x.n).length, .int x.n, .int x.s, .int x.a, .bool true, .bool (decide ((C5 G0).2 ≠ 0))]]) (by exact AD) (Env.le_refl _)) (xs := [.agg [.bool true, .int (spF t x.n).length, .int x.n, .int x.s, .int x.a, .bool true, .bool (decide ((C5 G0).2 ≠ 0))], .int 0]) ⟨Ax rfl (by (with_reducible exact ElC.h)) rfl (by exact Ab) rfl, Az rfl, trivial⟩ rfl (h' := []) (List.nil_sublist _) (AB rfl)
   · rw [hu, decide_eq_false hn]
     repeat' (first
      | exact True.intro | refine AG ?_ | refine two ?_ ?_ | refine AF fun c_ => ?_
      | (refine imp fun hc => ?_) <;> try exact cx1 hc
      | refine all fun v_ => ?_)
     refine HA (VS.take (hc := [.cells b4 33 [.bool true, .int (spF t x.n).length, .int x.n, .int x.s, .int x.a, .bool false, .bool false]]) (by exact AD) (Env.le_refl _)) (xs := [.agg [.bool true, .int (spF t x.n).length, .int x.n, .int x.s, .int x.a, .bool false, .bool false], .int 0]) ⟨Ax rfl (by (with_reducible exact ElC.h)) rfl (by exact Ab) rfl, Az rfl, trivial⟩ rfl (h' := []) (List.nil_sublist _) (AB rfl)
 · rw [show x.up = false by simpa using hu]
   repeat' (first
    | exact True.intro | refine AG ?_ | refine two ?_ ?_ | refine AF fun c_ => ?_
    | (refine imp fun hc => ?_) <;> try exact cx1 hc
    | refine all fun v_ => ?_)
   refine HA (VS.take (hc := [.cells b4 33 [.bool false, .int (spF t x.n).length, .int x.n, .int x.s, .int x.a, .bool false, .bool false]]) (by exact AD) (Env.le_refl _)) (xs := [.agg [.bool false, .int (spF t x.n).length, .int x.n, .int x.s, .int x.a, .bool false, .bool false], .int 0]) ⟨Ax rfl (by (with_reducible exact ElC.h)) rfl (by exact Ab) rfl, Az rfl, trivial⟩ rfl (h' := []) (List.nil_sublist _) (AB rfl)
theorem SRun (t : Tk) (l : List Fo) : ACr Tryz.prog GP 15 [tkA t, .d (AO l)] (.tup [ouA (Cr t l).1, .int (Cr t l).2]) := by
 by_cases h : (An t).2 ≠ 0
 · exact W7 t l h
 replace h := Decidable.not_not.1 h
 by_cases hm : Hy l = 0
 · obtain ⟨e, he⟩ := PV h
   exact YK t l e he hm
 · exact Xz t l h hm
open Go Go.Av
theorem cm : El Tryz.prog 183 (.agg #[.int .i64 0, .int .i64 0]) 2 16 := by unfold El; kernel_rfl
instance : ElC Tryz.prog 183 (.agg #[.int .i64 0, .int .i64 0]) 2 16 := ⟨cm⟩
theorem Z3 : Fld Tryz.prog 183 0 0 := by unfold Fld; kernel_rfl
instance : FdC Tryz.prog 183 0 0 := ⟨Z3⟩
theorem aq : Fld Tryz.prog 183 1 1 := by unfold Fld; kernel_rfl
instance : FdC Tryz.prog 183 1 1 := ⟨aq⟩
theorem aO : Bls Tryz.prog 183 [.int .i64 0, .int .i64 0] [(0, 1), (1, 1)] := by unfold Bls; kernel_rfl
instance : Gs Tryz.prog 183 [.int .i64 0, .int .i64 0] [(0, 1), (1, 1)] := ⟨aO⟩
theorem aC : El Tryz.prog 140 (.agg #[.slice none 0 0, .int .i64 0, .slice none 0 0, .bool false]) 4 64 := by unfold El; kernel_rfl
instance : ElC Tryz.prog 140 (.agg #[.slice none 0 0, .int .i64 0, .slice none 0 0, .bool false]) 4 64 := ⟨aC⟩
theorem X4 : Fld Tryz.prog 140 0 0 := by unfold Fld; kernel_rfl
instance : FdC Tryz.prog 140 0 0 := ⟨X4⟩
theorem YA : Fld Tryz.prog 140 1 1 := by unfold Fld; kernel_rfl
instance : FdC Tryz.prog 140 1 1 := ⟨YA⟩
theorem Zc : Fld Tryz.prog 140 2 2 := by unfold Fld; kernel_rfl
instance : FdC Tryz.prog 140 2 2 := ⟨Zc⟩
theorem Y6 : Fld Tryz.prog 140 3 3 := by unfold Fld; kernel_rfl
instance : FdC Tryz.prog 140 3 3 := ⟨Y6⟩
theorem VV : El Tryz.prog 43 (.agg #[.int .i64 0, .int .i64 0, .int .i64 0, .int .i64 0, .int .i64 0, .int .i64 0, .slice none 0 0]) 7 72 := by unfold El; kernel_rfl
instance : ElC Tryz.prog 43 (.agg #[.int .i64 0, .int .i64 0, .int .i64 0, .int .i64 0, .int .i64 0, .int .i64 0, .slice none 0 0]) 7 72 := ⟨VV⟩
theorem SG : Fld Tryz.prog 43 0 0 := by unfold Fld; kernel_rfl
instance : FdC Tryz.prog 43 0 0 := ⟨SG⟩
theorem R7 : Fld Tryz.prog 43 1 2 := by unfold Fld; kernel_rfl
instance : FdC Tryz.prog 43 1 2 := ⟨R7⟩
theorem S7 : Fld Tryz.prog 43 2 4 := by unfold Fld; kernel_rfl
instance : FdC Tryz.prog 43 2 4 := ⟨S7⟩
theorem SC : Fld Tryz.prog 43 3 6 := by unfold Fld; kernel_rfl
instance : FdC Tryz.prog 43 3 6 := ⟨SC⟩
theorem VO : Fld Tryz.prog 145 0 0 := by unfold Fld; kernel_rfl
instance : FdC Tryz.prog 145 0 0 := ⟨VO⟩
theorem Vs : Fld Tryz.prog 145 1 1 := by unfold Fld; kernel_rfl
instance : FdC Tryz.prog 145 1 1 := ⟨Vs⟩
theorem Ue : Fld Tryz.prog 145 2 2 := by unfold Fld; kernel_rfl
instance : FdC Tryz.prog 145 2 2 := ⟨Ue⟩
theorem UY : Fld Tryz.prog 145 3 3 := by unfold Fld; kernel_rfl
instance : FdC Tryz.prog 145 3 3 := ⟨UY⟩
theorem Ua : Fld Tryz.prog 145 4 4 := by unfold Fld; kernel_rfl
instance : FdC Tryz.prog 145 4 4 := ⟨Ua⟩
theorem VB : Fld Tryz.prog 145 5 5 := by unfold Fld; kernel_rfl
instance : FdC Tryz.prog 145 5 5 := ⟨VB⟩
theorem WN : Bls Tryz.prog 145 [.slice none 0 0, .int .i64 0, .int .i64 0, .int .i64 0, .int .i64 0, .slice none 0 0] [(0, 1), (1, 1), (2, 1), (3, 1), (4, 1), (5, 1)] := by unfold Bls; kernel_rfl
instance : Gs Tryz.prog 145 [.slice none 0 0, .int .i64 0, .int .i64 0, .int .i64 0, .int .i64 0, .slice none 0 0] [(0, 1), (1, 1), (2, 1), (3, 1), (4, 1), (5, 1)] := ⟨WN⟩
theorem bO : El Tryz.prog 114 (.agg #[.int .i64 0, .int .i64 0]) 2 16 := by unfold El; kernel_rfl
instance : ElC Tryz.prog 114 (.agg #[.int .i64 0, .int .i64 0]) 2 16 := ⟨bO⟩
theorem Xn : Fld Tryz.prog 114 0 0 := by unfold Fld; kernel_rfl
instance : FdC Tryz.prog 114 0 0 := ⟨Xn⟩
theorem W3 : Fld Tryz.prog 114 1 1 := by unfold Fld; kernel_rfl
instance : FdC Tryz.prog 114 1 1 := ⟨W3⟩
end Go.Proofs.YtnlfhnbcdfdhgaaGreatDoor
