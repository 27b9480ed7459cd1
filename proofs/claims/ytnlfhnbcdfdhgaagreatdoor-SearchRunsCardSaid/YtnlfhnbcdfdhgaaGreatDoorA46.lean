/- Own texts. -/
import Derived.Test.YtnlfhnbcdfdhgaaGreatDoorA44
import Derived.Test.YtnlfhnbcdfdhgaaGreatDoorA45
set_option linter.unusedVariables false
set_option linter.unusedSimpArgs false
set_option maxRecDepth 100000
set_option maxHeartbeats 4000000
namespace Go.Proofs.YtnlfhnbcdfdhgaaGreatDoor
open Go Go.Av Go.Sp
theorem Qm : Cal Tryz.prog 17 := Cal.of Tryz.func17 (by kernel_rfl) (by kernel_rfl)
theorem QX (t : Tk) (l : List Fo) (h : (An t).2 ≠ 0) : ACr Tryz.prog GP 17 [tkA t, .d (AO l)] (.tup [ouA (Bu t l).1, .int (Bu t l).2]) := by
 have hE := Nt GP t
 unfold Bu
 rw [if_pos h]
 generalize (An t).2 = er at hE h
 generalize exG t = G0 at hE
 refine BV (rs := [.cell 4 33, .tmp 5]) Tryz.f17.ntmps Tryz.func17 rfl rfl rfl (by simp [Tryz.ntmps17]) fun W I => ?_
 repeat' (first | refine ca Hq (hE) ?_ | exact jA | refine AF ?_ | refine two ?_ ?_ | refine AB fun c_ => ?_ | refine imp fun hc => ?_; try exact cx1 hc | refine all fun v_ => ?_)
 exact D1 (xs := [.agg [.val (.bool false), .val (.int .i64 0), .val (.int .i64 0), .val (.int .i64 0), .val (.int .i64 0), .val (.bool false), .val (.bool false)], .int er]) (ys := [ouA Ov, .int er]) vid ⟨Ax rfl (by (with_reducible exact ElC.h)) rfl AW rfl, A4 rfl, trivial⟩ ⟨AV.le_agg ⟨fun _ _ _ h => h, fun _ _ _ h => h, fun _ _ _ h => h, fun _ _ _ h => h, fun _ _ _ h => h, fun _ _ _ h => h, fun _ _ _ h => h, trivial⟩, AV.le_refl _, trivial⟩ rfl (h' := []) (jc _) (AA rfl)
theorem RC (t : Tk) (l : List Fo) (h : (An t).2 = 0) (hm : GH l ≠ 0) : ACr Tryz.prog GP 17 [tkA t, .d (AO l)] (.tup [ouA (Bu t l).1, .int (Bu t l).2]) := by
 have hE := Nt GP t
 have hM := OH GP l
 unfold Bu
 rw [if_neg (fun k => k h), if_pos hm]
 rw [h] at hE
 generalize GH l = er at hM hm
 generalize exG t = G0 at hE
 refine BV (rs := [.cell 4 33, .tmp 5]) Tryz.f17.ntmps Tryz.func17 rfl rfl rfl (by simp [Tryz.ntmps17]) fun W I => ?_
 repeat' (first | refine ca Hq (hE) ?_ | refine ca Il (hM) ?_ | exact jA | refine AF ?_ | refine two ?_ ?_ | refine AB fun c_ => ?_ | refine imp fun hc => ?_; try exact cx1 hc | refine all fun v_ => ?_)
 exact D1 (xs := [.agg [.val (.bool false), .val (.int .i64 0), .val (.int .i64 0), .val (.int .i64 0), .val (.int .i64 0), .val (.bool false), .val (.bool false)], .int er]) (ys := [ouA Ov, .int er]) vid ⟨Ax rfl (by (with_reducible exact ElC.h)) rfl AW rfl, A4 rfl, trivial⟩ ⟨AV.le_agg ⟨fun _ _ _ h => h, fun _ _ _ h => h, fun _ _ _ h => h, fun _ _ _ h => h, fun _ _ _ h => h, fun _ _ _ h => h, fun _ _ _ h => h, trivial⟩, AV.le_refl _, trivial⟩ rfl (h' := []) (jc _) (AA rfl)
theorem Q4 (t : Tk) (l : List Fo) (e : Exp) (he : An t = (some e, 0)) (hm : GH l = 0) : ACr Tryz.prog GP 17 [tkA t, .d (AO l)] (.tup [ouA (Bu t l).1, .int (Bu t l).2]) := by
 have g := RO he
 have hN := g.few
 have hE := Nt GP t
 have hM := OH GP l
 obtain ⟨hl5, hall⟩ := Rh hm
 have e2 : (An t).2 = 0 := by rw [he]
 unfold Bu
 rw [if_neg (fun k => k e2), if_neg (fun k => k hm)]
 rw [e2] at hE
 rw [hm] at hM
 have hG0 := fq he
 have ei : (BB t).1.length = nkF t 0 := rfl
 rw [ei] at hG0
 have hF := eX GP (exG t) (by rw [hG0]; exact fun g' h => g.ways g' h)
 have hfo : EE (exG t) = EE (exG t) := rfl
 generalize hfv : EE (exG t) = fv at hF
 rw [hG0] at hE hF
 generalize (Ac t.formula t.props.length).1.length = am at hE hF
 refine BV (rs := [.cell 4 33, .tmp 5]) Tryz.f17.ntmps Tryz.func17 rfl rfl rfl (by simp [Tryz.ntmps17]) fun W I => ?_
 repeat' (first | refine ca Hq (hE) ?_ | refine ca Il (hM) ?_ | exact jA | refine AP ?_ | refine two ?_ ?_ | refine imp fun hc => ?_; try exact cx hc | refine all fun v_ => ?_)
 obtain ⟨bs, rfl⟩ : ∃ x, x = v_ := ⟨v_, rfl⟩
 obtain ⟨bg, rfl⟩ : ∃ x, x = v_ := ⟨v_, rfl⟩
 obtain ⟨b4, rfl⟩ : ∃ x, x = v_ := ⟨v_, rfl⟩
 obtain ⟨bt, rfl⟩ : ∃ x, x = v_ := ⟨v_, rfl⟩
 refine AG (X := Nat) (fun i => [(1, .d (AO l)), (4, .val (.pointer (some ⟨b4, 0, none⟩))), (6, .val (.pointer (some ⟨bg, 0, none⟩))), (8, .val (.pointer (some ⟨bs, 0, none⟩))), (9, .int i)]) (fun i => [.cells bs 88 [.bool (runM t (l.take i)).up, .int (runM t (l.take i)).n, .int (runM t (l.take i)).s, .int (runM t (l.take i)).m, .int (runM t (l.take i)).a, .int (byF t (runM t (l.take i)).n : Nat)], .cells bg 51 [.d (AO e.spots), .int (nkF t 0 : Nat), .d (AX e.next), .d (AJ e.sets), .int am], .cells b4 33 [.bool false, .int 0, .int 0, .int 0, .int 0, .bool false, .bool false]]) (fun i => i ≤ l.length) (fun i => l.length - i) 0 (Nat.zero_le _) (VS.take AH ?_) ?_
 · exact leD
 intro i hi
 have hr := g.runI (l.take i)
 by_cases hil : i < l.length
 · have hag := K8 g (l.take i) (Ih.nil (t := t) (e := e))
   have hm5 := hall l[i] (jb hil)
   have F := hZ t e g am (runM t (l.take i)) hr.ms (by
    have h1 : (l.take i).length ≤ 5000 := by rw [List.length_take]; omega
    have h2 : Tq.a = 0 := rfl
    unfold runM; omega) l[i] hm5
   rw [← Pb t l i hil] at F
   generalize hy : runM t (l.take (i + 1)) = y at F
   generalize runM t (l.take i) = x at F
   repeat' (first | refine ca XG (F) ?_ | exact jA | refine AF ?_ | refine two ?_ ?_ | refine AB fun c_ => ?_ | refine imp fun hc => ?_; try exact cx1 hc | refine all fun v_ => ?_)
   refine ⟨i + 1, hil, by omega, VS.take (by rw [hy]; exact AH) ?_⟩
   exact leD
 obtain rfl : i = l.length := by omega
 rw [List.take_length]
 have hrN := (g.runI l).ms.nN
 have hFB := L8 t e g am (runM t l).n hrN
 generalize runM t l = x at hFB hrN
 unfold gN
 rw [hfv]
 by_cases hu : x.up = true
 · by_cases hn : x.n = nkF t x.n
   · rw [hu, decide_eq_true hn]
     have hn' : (x.n : Int) = (nkF t x.n : Nat) := by omega
     repeat' (first | refine ca Bd (hFB) ?_ | refine caq Bd (hFB) ?_ | refine ca J0 (hF) ?_ | exact jA | refine AF ?_ | refine two ?_ ?_ | refine AB fun c_ => ?_ | refine imp fun hc => ?_; try exact cx1 hc | refine all fun v_ => ?_)
     all_goals
      refine FM vid (xs := [.agg [.bool true, .int (nkF t x.n : Nat), .int x.n, .int x.s, .int x.a, .bool true, .bool (decide (fv.2 ≠ 0))], .int 0]) ⟨Ax rfl (by (with_reducible exact ElC.h)) rfl AW rfl, A4 rfl, trivial⟩ rfl (h' := []) (jc _) (AA rfl)
   · rw [hu, decide_eq_false hn]
     repeat' (first | refine ca Bd (hFB) ?_ | refine caq Bd (hFB) ?_ | refine ca J0 (hF) ?_ | exact jA | refine AF ?_ | refine two ?_ ?_ | refine AB fun c_ => ?_ | refine imp fun hc => ?_; try exact cx1 hc | refine all fun v_ => ?_)
     all_goals
      refine FM vid (xs := [.agg [.bool true, .int (nkF t x.n : Nat), .int x.n, .int x.s, .int x.a, .bool false, .bool false], .int 0]) ⟨Ax rfl (by (with_reducible exact ElC.h)) rfl AW rfl, A4 rfl, trivial⟩ rfl (h' := []) (jc _) (AA rfl)
 · rw [show x.up = false by simpa using hu]
   repeat' (first | refine ca Bd (hFB) ?_ | refine caq Bd (hFB) ?_ | refine ca J0 (hF) ?_ | exact jA | refine AF ?_ | refine two ?_ ?_ | refine AB fun c_ => ?_ | refine imp fun hc => ?_; try exact cx1 hc | refine all fun v_ => ?_)
   all_goals
    refine FM vid (xs := [.agg [.bool false, .int (nkF t x.n : Nat), .int x.n, .int x.s, .int x.a, .bool false, .bool false], .int 0]) ⟨Ax rfl (by (with_reducible exact ElC.h)) rfl AW rfl, A4 rfl, trivial⟩ rfl (h' := []) (jc _) (AA rfl)
theorem YY (t : Tk) (l : List Fo) : ACr Tryz.prog GP 17 [tkA t, .d (AO l)] (.tup [ouA (Bu t l).1, .int (Bu t l).2]) := by
 by_cases h : (An t).2 ≠ 0
 · exact QX t l h
 replace h := jY h
 by_cases hm : GH l = 0
 · obtain ⟨e, he⟩ := KX h
   exact Q4 t l e he hm
 · exact RC t l h hm
end Go.Proofs.YtnlfhnbcdfdhgaaGreatDoor
namespace Go.Av
open Go
def Eq7 (P : Program) (T : TypeId) : Prop := P.eqGuardType P.depth T = false ∧ ∀ (a : Bool) (b c d e : Int) (f g : Bool) w, (Op.equalIn 10000 T (.agg #[.bool a, .int .i64 b, .int .i64 c, .int .i64 d, .int .i64 e, .bool f, .bool g]) (.agg #[.bool a, .int .i64 b, .int .i64 c, .int .i64 d, .int .i64 e, .bool f, .bool g])).run P w = .ok true w
section
variable {P : Program} {G : List (Nat × List D)} {ρ : Env} {h : H} {dst : Option Tmp} {ty : TypeId} {pos : String} {after : Array Edge} {g : Option (Nat × Bool)}
theorem bj {T T' : TypeId} {x y : Operand} {a : Bool} {b c d e : Int} {f g' : Bool} (hT : Eq7 P T) (hx : evO ρ x = some (.agg [.bool a, .int b, .int c, .int d, .int e, .bool f, .bool g'])) (hy : evO ρ y = some (.agg [.bool a, .int b, .int c, .int d, .int e, .bool f, .bool g'])) :
 Pure P G ⟨dst, .binOp .eql T x y T', ty, pos, after, g⟩ ρ h (.bool true) :=
 Ah fun w I _ ac k => ⟨_, rfl, fun w' => by
  obtain ⟨vs, e1, r1⟩ := BI (k.ev x) (AD hx)
  obtain ⟨us, e2, r2⟩ := BI (k.ev y) (AD hy)
  obtain ⟨rfl⟩ : vs = [.bool a, .int .i64 b, .int .i64 c, .int .i64 d, .int .i64 e, .bool f, .bool g'] := by
   match vs, r1 with
   | [p, q, r, t, u, v, x], ⟨h1, h2, h3, h4, h5, h6, h7, _⟩ => cases h1; cases h2; cases h3; cases h4; cases h5; cases h6; cases h7; rfl
  obtain ⟨rfl⟩ : us = [.bool a, .int .i64 b, .int .i64 c, .int .i64 d, .int .i64 e, .bool f, .bool g'] := by
   match us, r2 with
   | [p, q, r, t, u, v, x], ⟨h1, h2, h3, h4, h5, h6, h7, _⟩ => cases h1; cases h2; cases h3; cases h4; cases h5; cases h6; cases h7; rfl
  simp [execOp, e1, e2, run_eqGuard_agg _ _ _ _ _ _ _ hT.1, run_eql_struct, hT.2]⟩
end
end Go.Av
namespace Go.Proofs.YtnlfhnbcdfdhgaaGreatDoor
open Go Go.Av
theorem TG : Eq7 Tryz.prog 33 := ⟨by kernel_rfl, fun a b c d e f g w => by
 have u3 := Tryz.underlying3
 have u4 := Tryz.underlying4
 rw [show (10000 : Nat) = 9999 + 1 from rfl, run_equalIn_agg w 9999 33 _ _ (by kernel_rfl) (by kernel_rfl)]
 simp only [Program.fieldsOf, Tryz.underlying33]
 go_simp
 try simp⟩
end Go.Proofs.YtnlfhnbcdfdhgaaGreatDoor
