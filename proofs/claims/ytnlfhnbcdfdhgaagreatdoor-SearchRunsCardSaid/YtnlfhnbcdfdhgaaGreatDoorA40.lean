/- Own texts. -/
import Derived.Test.YtnlfhnbcdfdhgaaGreatDoorA39
set_option linter.unusedVariables false
set_option linter.unusedSimpArgs false
set_option maxRecDepth 100000
set_option maxHeartbeats 4000000
namespace Go.Sp
open Go Go.Av
theorem SQ : ∀ {l : List Fo}, NF l = 0 → ∀ m ∈ l, (1 ≤ m.kind ∧ m.kind ≤ 4) ∧ 0 ≤ m.val ∧ m.val ≤ 2147483647
 | [], _, m, h => by cases h
 | a :: l, h, m, hm => by
   rw [NF] at h
   by_cases c1 : a.kind < 1 ∨ 4 < a.kind
   · rw [if_pos c1] at h; cases h
   rw [if_neg c1] at h
   by_cases c2 : a.val < 0 ∨ 2147483647 < a.val
   · rw [if_pos c2] at h; cases h
   rw [if_neg c2] at h
   rcases List.mem_cons.1 hm with rfl | hm
   · omega
   · exact SQ h m hm
theorem Rh {l : List Fo} (h : GH l = 0) : l.length ≤ 5000 ∧ ∀ m ∈ l, (1 ≤ m.kind ∧ m.kind ≤ 4) ∧ 0 ≤ m.val ∧ m.val ≤ 2147483647 := by
 unfold GH at h
 by_cases c : 5000 < l.length
 · rw [if_pos c] at h; cases h
 · rw [if_neg c] at h
   exact ⟨by omega, SQ h⟩
theorem K8 {t : Tk} {e : Exp} (g : Grown t e) : ∀ (l : List Fo) {x : Ms}, Ih t e x → (l.foldl (mvF t) x).a ≤ x.a + 20000 * l.length
 | [], _, _ => Nat.le_add_right _ _
 | m :: l, x, h => by
   have h1 := K8 g l (h.mv g m)
   have h2 := Z3 g h.ms m
   rw [List.foldl_cons, List.length_cons]; omega
theorem KX {t : Tk} (h : (An t).2 = 0) : ∃ e, An t = (some e, 0) := by
 unfold An at h ⊢
 by_cases c : BE t ≠ 0
 · rw [if_pos c] at h; exact absurd h c
 · rw [if_neg c] at h ⊢
   cases hx : IQ t 20002 0 (BB t).1 [] [] with
   | none => rw [hx] at h; cases h
   | some e => exact ⟨e, rfl⟩
theorem Pb (t : Tk) (l : List Fo) (i : Nat) (h : i < l.length) : runM t (l.take (i + 1)) = mvF t (runM t (l.take i)) l[i] := by
 rw [jZ h, Yz]
end Go.Sp
namespace Go.Av
open Go
theorem VS.cellsLe {ρ : Env} {h : H} {b : Nat} {T : TypeId} {xs ys : List AV} (hle : AVs.le xs ys) : VS ρ (.cells b T xs :: h) ρ (.cells b T ys :: h) := fun c I n a w k1 k2 => ⟨I,
 { ent := fun e he => by
    rcases List.mem_cons.1 he with rfl | he
    · obtain ⟨cs, h1, h2⟩ := k1.ent _ List.mem_cons_self
      exact ⟨cs, h1, AVs.le_rel hle h2⟩
    · exact k1.ent e (List.mem_cons_of_mem _ he)
   nd := k1.nd, imm := k1.imm, new := k1.new, inew := k1.inew, sup := k1.sup, os := k1.os, tape := k1.tape, output := k1.output, size := k1.size, keep := k1.keep, glob := k1.glob }, k2⟩
end Go.Av
namespace Go.Proofs.YtnlfhnbcdfdhgaaGreatDoor
open Go Go.Av Go.Sp
theorem bE : Cal Tryz.prog 15 := Cal.of Tryz.func15 (by kernel_rfl) (by kernel_rfl)
theorem gg {p q : Prop} (hp : p) (h : p → q := by
 apply cmp; (focus (first
  | (first
    | ((with_reducible apply Iq); exact mixed; rfl; (focus ((repeat ((with_reducible apply Hd.cons); rfl)); exact Hd.nil)); (focus ((repeat (with_reducible apply Al)); exact len_nil)); decide +kernel)
    | ((with_reducible apply QV); decide +kernel; (focus ((repeat (with_reducible apply App.cons)); exact App.nil)))
    | ((with_reducible apply Hh); rfl; decide +kernel; exact Fq; rfl)
    | ((with_reducible apply aU); (iterate 5 rfl); decide +kernel; exact Fq; rfl)
    | ((with_reducible apply aA); (iterate 5 rfl); decide +kernel; rfl)
    | ((with_reducible apply jh_gu); (iterate 4 rfl); decide +kernel; rfl)
    | ((with_reducible apply Nz); (iterate 4 rfl); decide +kernel)
    | with_reducible apply Qc
    | with_reducible apply QI
    | ((with_reducible apply dg); decide +kernel; decide +kernel)
    | with_reducible exact cf
    | ((with_reducible apply YH); decide +kernel)
    | ((with_reducible apply cZ); rfl)
    | with_reducible apply UW
    )
  ))
 exact fun h => h) : q := h hp
noncomputable abbrev skP (t : Tk) (x : Ms) (s : Sto) : List D :=
 [Au t.model.vars, Ae t.model.rules, Ar t.props, AO t.formula, .b x.up, AO (spF t x.n), AJ s.loose, AX s.runs, .i .i64 x.n, .i .i64 x.m, CT (dtF t x.n), .i .i64 (byF t x.s), .b false, .i .i64 0, .i .i64 0, .i .i64 0, .i .i64 x.a, .b false, .b false]
theorem fK (t : Tk) (e : Exp) (g : Grown t e) (x : Ms) (hI : MsI t e x) (s : Sto) :
 ACr Tryz.prog GP 31 [.pd (skP t x s)] (.val (.int .i64 x.s)) := by
 have hC := eP GP ⟨dtF t x.n, byF t x.s⟩ 0
 rw [g.safe hI.nN hI.b hI.s] at hC
 have hs := hI.s
 have hR := Read GP ⟨dtF t x.s, byF t x.s⟩
 rw [g.read (Nat.le_trans hs hI.nN) (Nat.le_trans (DB t hs) hI.b) (Nat.le_refl _)] at hR
 dsimp only at hC hR
 have hl := JF t x.s
 refine AK (ts := [2]) Tryz.f31.ntmps Tryz.func31 rfl rfl rfl (by simp [Tryz.ntmps31]) fun W I => ?_
 repeat' (first | refine ca Pa (hC) ?_ | refine ca Ku (hR) ?_ | ((with_reducible apply jp); (focus ((with_reducible apply UU); rfl; (with_reducible exact ElC.h); rfl; rfl)); rfl) | exact jA | refine AP ?_ | refine two ?_ ?_ | refine imp fun hc => ?_; try exact cx hc | refine all fun v_ => ?_)
 rw [hl]
 refine AI (VS.trans jE (VS.of_le (Env.le_cons (t := 2) (x := .val (.int .i64 x.s)) (fun w I u h => h) (Env.le_refl _)))) ?_
 ((with_reducible apply rq1); rfl; rfl)
 exact AA rfl
theorem ar (t : Tk) (l : List Fo) (h : (An t).2 ≠ 0) : ACr Tryz.prog GP 15 [tkA t, .d (AO l)] (.tup [ouA (Bu t l).1, .int (Bu t l).2]) := by
 have hE := Q6 t
 unfold Bu
 rw [if_pos h]
 generalize (An t).2 = er at hE h
 refine BV (rs := [.cell 4 33, .tmp 5]) Tryz.f15.ntmps Tryz.func15 rfl rfl rfl (by simp [Tryz.ntmps15]) fun W I => ?_
 repeat' (first | refine ca Iz (hE) ?_ | exact jA | refine AF ?_ | refine two ?_ ?_ | refine AB fun c_ => ?_ | refine imp fun hc => ?_; try exact cx1 hc | refine all fun v_ => ?_)
 exact D1 (xs := [.agg [.val (.bool false), .val (.int .i64 0), .val (.int .i64 0), .val (.int .i64 0), .val (.int .i64 0), .val (.bool false), .val (.bool false)], .int er]) (ys := [ouA Ov, .int er]) vid ⟨Ax rfl (by (with_reducible exact ElC.h)) rfl AW rfl, A4 rfl, trivial⟩ ⟨AV.le_agg ⟨fun _ _ _ h => h, fun _ _ _ h => h, fun _ _ _ h => h, fun _ _ _ h => h, fun _ _ _ h => h, fun _ _ _ h => h, fun _ _ _ h => h, trivial⟩, AV.le_refl _, trivial⟩ rfl (h' := []) (jc _) (AA rfl)
theorem ZP (t : Tk) (l : List Fo) (h : (An t).2 = 0) (hm : GH l ≠ 0) : ACr Tryz.prog GP 15 [tkA t, .d (AO l)] (.tup [ouA (Bu t l).1, .int (Bu t l).2]) := by
 have hE := Q6 t
 have hM := au GP l
 unfold Bu
 rw [if_neg (fun k => k h), if_pos hm]
 rw [h] at hE
 generalize GH l = er at hM hm
 refine BV (rs := [.cell 4 33, .tmp 5]) Tryz.f15.ntmps Tryz.func15 rfl rfl rfl (by simp [Tryz.ntmps15]) fun W I => ?_
 repeat' (first | refine ca Iz (hE) ?_ | refine ca Mm (hM) ?_ | exact jA | refine AF ?_ | refine two ?_ ?_ | refine AB fun c_ => ?_ | refine imp fun hc => ?_; try exact cx1 hc | refine all fun v_ => ?_)
 exact D1 (xs := [.agg [.val (.bool false), .val (.int .i64 0), .val (.int .i64 0), .val (.int .i64 0), .val (.int .i64 0), .val (.bool false), .val (.bool false)], .int er]) (ys := [ouA Ov, .int er]) vid ⟨Ax rfl (by (with_reducible exact ElC.h)) rfl AW rfl, A4 rfl, trivial⟩ ⟨AV.le_agg ⟨fun _ _ _ h => h, fun _ _ _ h => h, fun _ _ _ h => h, fun _ _ _ h => h, fun _ _ _ h => h, fun _ _ _ h => h, fun _ _ _ h => h, trivial⟩, AV.le_refl _, trivial⟩ rfl (h' := []) (jc _) (AA rfl)
theorem Yh (t : Tk) (l : List Fo) (e : Exp) (he : An t = (some e, 0)) (hm : GH l = 0) : ACr Tryz.prog GP 15 [tkA t, .d (AO l)] (.tup [ouA (Bu t l).1, .int (Bu t l).2]) := by
 have g := RO he
 have hE := Q6 t
 have hM := au GP l
 obtain ⟨hl5, hall⟩ := Rh hm
 have e2 : (An t).2 = 0 := by rw [he]
 unfold Bu
 rw [if_neg (fun k => k e2), if_neg (fun k => k hm)]
 rw [e2] at hE
 rw [hm] at hM
 have hF := gX GP (exG t)
 generalize hG0 : exG t = G0 at hE hF
 refine BV (rs := [.cell 4 33, .tmp 5]) Tryz.f15.ntmps Tryz.func15 rfl rfl rfl (by simp [Tryz.ntmps15]) fun W I => ?_
 repeat' (first | refine ca Iz (hE) ?_ | refine ca Mm (hM) ?_ | exact jA | refine AP ?_ | refine two ?_ ?_ | refine imp fun hc => ?_; try exact cx hc | refine all fun v_ => ?_)
 rename_i b2 b4 bg k1
 obtain ⟨bs, rfl⟩ : ∃ x, x = v_ := ⟨v_, rfl⟩
 refine GQ (VS.trans (VS.take (hc := [.cells bs 82 [.d (Au t.model.vars), .d (Ae t.model.rules), .d (Ar t.props), .d (AO t.formula), .val (.bool true), .val (.slice none 0 0), .val (.slice none 0 0), .val (.slice none 0 0), .val (.int .i64 0), .val (.int .i64 0), .val (.slice none 0 0), .val (.int .i64 0), .val (.bool false), .val (.int .i64 0), .val (.int .i64 0), .val (.int .i64 0), .val (.int .i64 0), .val (.bool false), .val (.bool false)], .cells bg 51 [.d (AO G0.spots), .int G0.init, .d (AX G0.next), .d (AJ G0.sets), .int G0.many], .cells b4 33 [.val (.bool false), .val (.int .i64 0), .val (.int .i64 0), .val (.int .i64 0), .val (.int .i64 0), .val (.bool false), .val (.bool false)]]) AH (Env.le_refl _))
  (VS.trans (VS.cellsLe (ys := [.d (Au t.model.vars), .d (Ae t.model.rules), .d (Ar t.props), .d (AO t.formula), .bool true, .val (.slice none 0 0), .val (.slice none 0 0), .val (.slice none 0 0), .int 0, .int 0, .val (.slice none 0 0), .int 0, .bool false, .int 0, .int 0, .int 0, .int 0, .bool false, .bool false]) ⟨fun _ _ _ h => h, fun _ _ _ h => h, fun _ _ _ h => h, fun _ _ _ h => h, fun _ _ _ h => h, fun _ _ _ h => h, fun _ _ _ h => h, fun _ _ _ h => h, fun _ _ _ h => h, fun _ _ _ h => h, fun _ _ _ h => h, fun _ _ _ h => h, fun _ _ _ h => h, fun _ _ _ h => h, fun _ _ _ h => h, fun _ _ _ h => h, fun _ _ _ h => h, fun _ _ _ h => h, fun _ _ _ h => h, trivial⟩)
  (VS.trans (VS.nilrow 5 1) (VS.trans (EA (f := Dp) (xs := []) (h1 := []) 1 rfl rfl (fun _ => rfl) (by simp) (CvE.refl _ _ _) (cv10 (h := _))) (VS.trans (VS.nilrow 106 2) (VS.take (hc := [skD bs t Sl.nil (.val (.slice none 0 0)) (.val (.slice none 0 0)) ⟨true, 0, 0, ⟨[], 0⟩, ⟨false, 0, 0, 0, 0, false, false⟩⟩, AL Sl.nil.v 106 2 Fo.cells [], .cells bg 51 [.d (AO G0.spots), .int G0.init, .d (AX G0.next), .d (AJ G0.sets), .int G0.many], .cells b4 33 [.val (.bool false), .val (.int .i64 0), .val (.int .i64 0), .val (.int .i64 0), .val (.int .i64 0), .val (.bool false), .val (.bool false)]]) AH (Env.le_refl _))))))) ?_
 have F0 := Zy bs t ⟨true, 0, 0, ⟨[], 0⟩, ⟨false, 0, 0, 0, 0, false, false⟩⟩ [] Sl.nil (.val (.slice none 0 0)) (.val (.slice none 0 0)) g.task
 repeat' (first | refine cag Nw (F0) ?_ | exact jA | refine AP ?_ | refine two ?_ ?_ | refine imp fun hc => ?_; try exact cx hc | refine all fun v_ => ?_)
 obtain ⟨⟨w0, hw0⟩, rfl⟩ : ∃ x, x = v_ := ⟨v_, rfl⟩
 dsimp only
 clear hE hM F0
 refine AG (X := Nat × Sl × Sto) (fun y => [(4, .val (.pointer (some ⟨b4, 0, none⟩))), (6, .val (.pointer (some ⟨bg, 0, none⟩))), (9, .val (.pointer (some ⟨bs, 0, none⟩))), (35, .d (AO l)), (36, .int l.length), (37, .int y.1)]) (fun y => [skC bs t y.2.1 y.2.2 (srF t (runM t (l.take y.1))), AL y.2.1.v 106 2 Fo.cells (spF t (runM t (l.take y.1)).n), .cells bg 51 [.d (AO G0.spots), .int G0.init, .d (AX G0.next), .d (AJ G0.sets), .int G0.many], .cells b4 33 [.val (.bool false), .val (.int .i64 0), .val (.int .i64 0), .val (.int .i64 0), .val (.int .i64 0), .val (.bool false), .val (.bool false)]]) (fun y => y.1 ≤ l.length ∧ I4 y.2.2 (spF t (runM t (l.take y.1)).n)) (fun y => l.length - y.1) (0, w0) ⟨Nat.zero_le _, hw0⟩ (VS.take (by dsimp only; exact AH) ?_) ?_
 · exact leD
 rintro ⟨i, v⟩ ⟨hi, hmi⟩
 dsimp only at hi hmi ⊢
 have hr := g.runI (l.take i)
 by_cases hil : i < l.length
 · have hag := K8 g (l.take i) (Ih.nil (t := t) (e := e))
   have hm5 := hall l[i] (jb hil)
   have F := sdo bs t e g (runM t (l.take i)) hr.ms (by
    have h1 : (l.take i).length ≤ 5000 := by rw [List.length_take]; omega
    have h2 : Tq.a = 0 := rfl
    unfold runM; omega) l[i] hm5.1 hm5.2 ⟨v, hmi⟩
   rw [← Pb t l i hil] at F
   repeat' (first | refine cag dX (F) ?_ | exact jA | refine AP ?_ | refine two ?_ ?_ | refine imp fun hc => ?_; try exact cx hc | refine all fun v_ => ?_)
   obtain ⟨⟨w, hw⟩, rfl⟩ : ∃ x, x = v_ := ⟨v_, rfl⟩
   refine ⟨(i + 1, w), ⟨hil, hw⟩, jC, VS.take AH ?_⟩
   exact leD
 obtain rfl : i = l.length := by omega
 rw [List.take_length] at hmi hr ⊢
 generalize runM t l = x at hmi hr ⊢
 have hI := hr.ms
 have hbd := hr.bounds g
 have hN := g.few
 have hSB := fK t e g x hI v.2
 unfold skC skD srF
 dsimp only
 haveI fA_ : KS := ⟨⟩
 haveI fH_ : Ld := ⟨⟩
 haveI fS_ : Jw 1 := ⟨⟩
 repeat' (first | exact jA | refine stp ?_ | refine two ?_ ?_ | refine AB fun c_ => ?_ | refine imp fun hc => ?_; try exact cx1 hc | refine all fun v_ => ?_)
 clear fA_ fH_ fS_
 obtain ⟨bo, rfl⟩ : ∃ x, x = v_ := ⟨v_, rfl⟩
 refine ⟨?_⟩
 have hkn : Bor [.cells bs 82 [.d (Au t.model.vars), .d (Ae t.model.rules), .d (Ar t.props), .d (AO t.formula), .bool x.up, .val v.1.v, .d (AJ v.2.loose), .d (AX v.2.runs), .int x.n, .int x.m, .d (CT (dtF t x.n)), .int (byF t x.s), .bool false, .int 0, .int 0, .int 0, .int x.a, .bool false, .bool false], AL v.1.v 106 2 Fo.cells (spF t x.n), .cells bg 51 [.d (AO G0.spots), .int G0.init, .d (AX G0.next), .d (AJ G0.sets), .int G0.many], .cells b4 33 [.val (.bool false), .val (.int .i64 0), .val (.int .i64 0), .val (.int .i64 0), .val (.int .i64 0), .val (.bool false), .val (.bool false)]] (.val v.1.v) (.d (AO (spF t x.n))) := Dc (f := Fo.cells) (xs := spF t x.n) (E := 106) (sz := 2) 16 (List.mem_cons_of_mem _ List.mem_cons_self) rfl (fun _ => rfl) (by have : (spF t x.n).length = nkF t x.n := rfl; omega)
 have hBor : QR [.cells bs 82 [.d (Au t.model.vars), .d (Ae t.model.rules), .d (Ar t.props), .d (AO t.formula), .bool x.up, .val v.1.v, .d (AJ v.2.loose), .d (AX v.2.runs), .int x.n, .int x.m, .d (CT (dtF t x.n)), .int (byF t x.s), .bool false, .int 0, .int 0, .int 0, .int x.a, .bool false, .bool false], AL v.1.v 106 2 Fo.cells (spF t x.n), .cells bg 51 [.d (AO G0.spots), .int G0.init, .d (AX G0.next), .d (AJ G0.sets), .int G0.many], .cells b4 33 [.val (.bool false), .val (.int .i64 0), .val (.int .i64 0), .val (.int .i64 0), .val (.int .i64 0), .val (.bool false), .val (.bool false)]] [.val (.pointer (some ⟨bs, 0, none⟩))] [.pd (skP t x v.2)] :=
  ⟨Ab List.mem_cons_self ⟨Dm _ _, Dm _ _, Dm _ _, Dm _ _, JN _ _, fun c I w u k r => hkn c I w u k r, Dm _ _, Dm _ _, FB _ _, FB _ _, Dm _ _, FB _ _, JN _ _, FB _ _, FB _ _, FB _ _, FB _ _, JN _ _, JN _ _, trivial⟩, trivial⟩
 refine KH (X := Unit) (fun _ => [(4, .val (.pointer (some ⟨b4, 0, none⟩))), (6, .val (.pointer (some ⟨bg, 0, none⟩))), (9, .val (.pointer (some ⟨bs, 0, none⟩))), (12, .val (.pointer (some ⟨bo, 0, none⟩)))]) (fun _ => [.cells bo 33 [.bool x.up, .int (spF t x.n).length, .int x.n, .int x.s, .int x.a, .bool false, .bool false], .cells bs 82 [.d (Au t.model.vars), .d (Ae t.model.rules), .d (Ar t.props), .d (AO t.formula), .bool x.up, .val v.1.v, .d (AJ v.2.loose), .d (AX v.2.runs), .int x.n, .int x.m, .d (CT (dtF t x.n)), .int (byF t x.s), .bool false, .int 0, .int 0, .int 0, .int x.a, .bool false, .bool false], AL v.1.v 106 2 Fo.cells (spF t x.n), .cells bg 51 [.d (AO G0.spots), .int G0.init, .d (AX G0.next), .d (AJ G0.sets), .int G0.many], .cells b4 33 [.val (.bool false), .val (.int .i64 0), .val (.int .i64 0), .val (.int .i64 0), .val (.int .i64 0), .val (.bool false), .val (.bool false)]]) ?_ ?_
 · refine Gf [.cells bo 33 [.bool false, .int 0, .int 0, .int 0, .int x.a, .bool false, .bool false]] mixed rfl (by (repeat (with_reducible apply Al)); exact len_nil) (by decide +kernel) AH ?_
   haveI fA_ : KS := ⟨⟩
   repeat' (first | exact jA | ((with_reducible apply YH); decide +kernel) | ((with_reducible apply di); rfl; rfl; exact WQ; exact hSB; exact hBor; rfl) | refine gg ?_ | refine stp ?_ | refine two ?_ ?_ | refine AB fun c_ => ?_ | refine imp fun hc => ?_; try exact cx1 hc | refine all fun v_ => ?_)
   all_goals clear fA_
   all_goals
    refine ⟨(), VS.take AH ?_⟩
    exact leD
 intro _
 have hxl : (spF t x.n).length = nkF t x.n := rfl
 unfold gN
 rw [hG0]
 by_cases hu : x.up = true
 · by_cases hn : x.n = nkF t x.n
   · rw [hu, decide_eq_true hn]
     repeat' (first | refine ca Wy (hF) ?_ | exact jA | refine AF ?_ | refine two ?_ ?_ | refine AB fun c_ => ?_ | refine imp fun hc => ?_; try exact cx1 hc | refine all fun v_ => ?_)
     refine FM (VS.take (hc := [.cells b4 33 [.bool true, .int (spF t x.n).length, .int x.n, .int x.s, .int x.a, .bool true, .bool (decide ((EE G0).2 ≠ 0))]]) AH (Env.le_refl _)) (xs := [.agg [.bool true, .int (spF t x.n).length, .int x.n, .int x.s, .int x.a, .bool true, .bool (decide ((EE G0).2 ≠ 0))], .int 0]) ⟨Ax rfl (by (with_reducible exact ElC.h)) rfl AW rfl, A4 rfl, trivial⟩ rfl (h' := []) (jc _) (AA rfl)
   · rw [hu, decide_eq_false hn]
     repeat' (first | exact jA | refine AF ?_ | refine two ?_ ?_ | refine AB fun c_ => ?_ | refine imp fun hc => ?_; try exact cx1 hc | refine all fun v_ => ?_)
     refine FM (VS.take (hc := [.cells b4 33 [.bool true, .int (spF t x.n).length, .int x.n, .int x.s, .int x.a, .bool false, .bool false]]) AH (Env.le_refl _)) (xs := [.agg [.bool true, .int (spF t x.n).length, .int x.n, .int x.s, .int x.a, .bool false, .bool false], .int 0]) ⟨Ax rfl (by (with_reducible exact ElC.h)) rfl AW rfl, A4 rfl, trivial⟩ rfl (h' := []) (jc _) (AA rfl)
 · rw [show x.up = false by simpa using hu]
   repeat' (first | exact jA | refine AF ?_ | refine two ?_ ?_ | refine AB fun c_ => ?_ | refine imp fun hc => ?_; try exact cx1 hc | refine all fun v_ => ?_)
   refine FM (VS.take (hc := [.cells b4 33 [.bool false, .int (spF t x.n).length, .int x.n, .int x.s, .int x.a, .bool false, .bool false]]) AH (Env.le_refl _)) (xs := [.agg [.bool false, .int (spF t x.n).length, .int x.n, .int x.s, .int x.a, .bool false, .bool false], .int 0]) ⟨Ax rfl (by (with_reducible exact ElC.h)) rfl AW rfl, A4 rfl, trivial⟩ rfl (h' := []) (jc _) (AA rfl)
theorem SRun (t : Tk) (l : List Fo) : ACr Tryz.prog GP 15 [tkA t, .d (AO l)] (.tup [ouA (Bu t l).1, .int (Bu t l).2]) := by
 by_cases h : (An t).2 ≠ 0
 · exact ar t l h
 replace h := jY h
 by_cases hm : GH l = 0
 · obtain ⟨e, he⟩ := KX h
   exact Yh t l e he hm
 · exact ZP t l h hm
end Go.Proofs.YtnlfhnbcdfdhgaaGreatDoor
