/- A bundle of this claim's own texts: N14 N17. -/
import Derived.Test.YtajnpfgelpkijaaGreatDoorA5
import Derived.Test.YtajnpfgelpkijaaGreatDoorA10
import Derived.Test.YtajnpfgelpkijaaGreatDoorA13
import Derived.Test.YtajnpfgelpkijaaGreatDoorA15
import Derived.Test.YtajnpfgelpkijaaGreatDoorA28
import Derived.Test.YtajnpfgelpkijaaGreatDoorA33
import Derived.Test.YtajnpfgelpkijaaGreatDoorA45
import Derived.Test.YtajnpfgelpkijaaGreatDoorA47
import Derived.Test.YtajnpfgelpkijaaGreatDoorA49
set_option linter.unusedVariables false
set_option linter.unusedSimpArgs false
set_option maxRecDepth 100000
set_option maxHeartbeats 4000000
namespace Go.Proofs.YtajnpfgelpkijaaGreatDoor
open Go Go.Av Go.Sp
theorem Qp : Cal Tryz.prog 101 := Cal.of Tryz.func101 (by kernel_rfl) (by kernel_rfl)
theorem UU : Cal Tryz.prog 61 := Cal.of Tryz.func61 (by kernel_rfl) (by kernel_rfl)
theorem spot (t : Tk) (hm : Ah t.model = 0) (st cl : Int) : ACr Tryz.prog GP 101 [tkA t, .agg [.int st, .int cl]] (.bool (decide ((0 ≤ st ∧ st < AR t.model.vars) ∧ 0 ≤ cl ∧ cl < BF t))) := by
 have hC := Count t.model
 unfold Ir at hC
 rw [if_neg (fun k => k hm)] at hC
 dsimp only at hC
 have hM := TO t
 generalize AR t.model.vars = n at hC ⊢
 generalize BF t = N at hM ⊢
 refine AK (ts := [4]) Tryz.f101.ntmps Tryz.func101 rfl rfl rfl (by simp [Tryz.ntmps101]) fun W I => ?_
 by_cases c0 : 0 ≤ st
 · by_cases c1 : st < n
   · by_cases c2 : 0 ≤ cl
     · by_cases c3 : cl < N
       · repeat' (first
          | refine ca CZ (hC) ?_
          | refine caq DB (hM) ?_
          | exact True.intro | refine AM ?_ | refine two ?_ ?_
          | (refine imp fun hc => ?_) <;> try exact cx hc
          | refine all fun v_ => ?_)
         all_goals
          refine AO (VS.drop (List.nil_sublist _)) ?_
          ((with_reducible apply rq1); rfl; rfl)
          refine AD (congrArg AV.bool ?_)
          (first | rfl | (refine decide_eq_decide.2 ?_; omega) | (refine (decide_eq_true ?_).symm; omega) | (refine (decide_eq_false ?_).symm; omega) | (refine decide_eq_true ?_; omega) | (refine decide_eq_false ?_; omega))
       · repeat' (first
          | refine ca CZ (hC) ?_
          | refine caq DB (hM) ?_
          | exact True.intro | refine AM ?_ | refine two ?_ ?_
          | (refine imp fun hc => ?_) <;> try exact cx hc
          | refine all fun v_ => ?_)
         all_goals
          refine AO (VS.drop (List.nil_sublist _)) ?_
          ((with_reducible apply rq1); rfl; rfl)
          refine AD (congrArg AV.bool ?_)
          (first | rfl | (refine decide_eq_decide.2 ?_; omega) | (refine (decide_eq_true ?_).symm; omega) | (refine (decide_eq_false ?_).symm; omega) | (refine decide_eq_true ?_; omega) | (refine decide_eq_false ?_; omega))
     · repeat' (first
        | refine ca CZ (hC) ?_
        | refine caq DB (hM) ?_
        | exact True.intro | refine AM ?_ | refine two ?_ ?_
        | (refine imp fun hc => ?_) <;> try exact cx hc
        | refine all fun v_ => ?_)
       all_goals
        refine AO (VS.drop (List.nil_sublist _)) ?_
        ((with_reducible apply rq1); rfl; rfl)
        refine AD (congrArg AV.bool ?_)
        (first | rfl | (refine decide_eq_decide.2 ?_; omega) | (refine (decide_eq_true ?_).symm; omega) | (refine (decide_eq_false ?_).symm; omega) | (refine decide_eq_true ?_; omega) | (refine decide_eq_false ?_; omega))
   · repeat' (first
      | refine ca CZ (hC) ?_
      | refine caq DB (hM) ?_
      | exact True.intro | refine AM ?_ | refine two ?_ ?_
      | (refine imp fun hc => ?_) <;> try exact cx hc
      | refine all fun v_ => ?_)
     all_goals
      refine AO (VS.drop (List.nil_sublist _)) ?_
      ((with_reducible apply rq1); rfl; rfl)
      refine AD (congrArg AV.bool ?_)
      (first | rfl | (refine decide_eq_decide.2 ?_; omega) | (refine (decide_eq_true ?_).symm; omega) | (refine (decide_eq_false ?_).symm; omega) | (refine decide_eq_true ?_; omega) | (refine decide_eq_false ?_; omega))
 · repeat' (first
    | refine ca CZ (hC) ?_
    | refine caq DB (hM) ?_
    | exact True.intro | refine AM ?_ | refine two ?_ ?_
    | (refine imp fun hc => ?_) <;> try exact cx hc
    | refine all fun v_ => ?_)
   all_goals
    refine AO (VS.drop (List.nil_sublist _)) ?_
    ((with_reducible apply rq1); rfl; rfl)
    refine AD (congrArg AV.bool ?_)
    (first | rfl | (refine decide_eq_decide.2 ?_; omega) | (refine (decide_eq_true ?_).symm; omega) | (refine (decide_eq_false ?_).symm; omega) | (refine decide_eq_true ?_; omega) | (refine decide_eq_false ?_; omega))
theorem fM (t : Tk) (st cl : Int) : ACr Tryz.prog GP 61 [tkA t, .agg [.int st, .int cl]] (.tup [.d (AN (Ao t st cl).1), .int (Ao t st cl).2]) := by
 have hP := Sh t
 refine AK (ts := [4, 5]) Tryz.f61.ntmps Tryz.func61 rfl rfl rfl (by simp [Tryz.ntmps61]) fun W I => ?_
 unfold Ao
 by_cases h1 : A2 t ≠ 0
 · rw [if_pos h1]
   generalize A2 t = e at hP h1
   repeat' (first
    | refine ca DJ (hP) ?_
    | exact True.intro | refine AJ ?_ | refine two ?_ ?_ | refine AG fun c_ => ?_
    | (refine imp fun hc => ?_) <;> try exact cx1 hc
    | refine all fun v_ => ?_)
   refine AO (VS.trans (VS.drop (List.nil_sublist _)) (Ft (t := 4) 2 16 rfl)) ?_
   ((with_reducible apply rq2); rfl; rfl; rfl)
   exact AD rfl
 rw [if_neg h1]
 replace h1 := Decidable.not_not.1 h1
 rw [h1] at hP
 obtain ⟨a1, a2, a3⟩ := CA h1
 obtain ⟨n, hn, n1, n2⟩ := GD a3
 have hS := spot t a3 st cl
 by_cases hin : ¬ ((0 ≤ st ∧ st < AR t.model.vars) ∧ 0 ≤ cl ∧ cl < BF t)
 · rw [if_pos hin]
   rw [decide_eq_false hin] at hS
   repeat' (first
    | refine ca DJ (hP) ?_
    | refine ca Qp (hS) ?_
    | exact True.intro | refine AJ ?_ | refine two ?_ ?_ | refine AG fun c_ => ?_
    | (refine imp fun hc => ?_) <;> try exact cx1 hc
    | refine all fun v_ => ?_)
   refine AO (VS.trans (VS.drop (List.nil_sublist _)) (Ft (t := 4) 2 16 rfl)) ?_
   ((with_reducible apply rq2); rfl; rfl; rfl)
   exact AD rfl
 rw [if_neg hin]
 replace hin := Decidable.not_not.1 hin
 rw [decide_eq_true hin] at hS
 have hsl := N5 a3 st
 have hrg := HT a3 st
 have hlet := fun c k0 k1 => Jm (t := t) (c := c) h1 k0 k1
 have hfo := fun c d => Sw (t := t) (st := st) (cl := cl) (c := c) (d := d) h1
 have hyes := fun c k => ZX (t := t) (st := st) (cl := cl) (c := c) (k := k)
 have hno := fun c k => b6 (t := t) (st := st) (cl := cl) (c := c) (k := k)
 have hfl := fun c k => SY t st cl c k
 have hbs := fun cs i h => WE t st cl cs i h
 have hbl := fun cs => ML t st cl cs
 have hm64 := FA t
 have hb0 : J3 t st cl [] = [] := rfl
 have hf0 : ∀ c, Ik t st cl c 0 = [] := fun c => rfl
 obtain ⟨⟨g1, g2⟩, g3, g4⟩ := hin
 have hL := Ov t.model t.props st
 rw [Jm h1 g1 g2] at hL
 dsimp only at hL
 have hN := Next t.model st
 have hM := TO t
 generalize EF t.model st = p at hN hsl hrg ⊢
 obtain ⟨cs, e⟩ := p
 dsimp only at hN hsl hrg ⊢
 repeat' (first
  | refine ca DJ (hP) ?_
  | refine ca Qp (hS) ?_
  | refine ca GI (hL) ?_
  | refine ca Zw (hN) ?_
  | exact True.intro | refine AJ ?_ | refine two ?_ ?_ | refine AG fun c_ => ?_
  | (refine imp fun hc => ?_) <;> try exact cx1 hc
  | refine all fun v_ => ?_)
 obtain ⟨bs, rfl⟩ : ∃ x, x = v_ := ⟨v_, rfl⟩
 obtain ⟨bt, rfl⟩ : ∃ x, x = v_ := ⟨v_, rfl⟩
 refine FQ (E := 105) (sz := 2) Fo.cells ?_
 refine AL (X := Nat × Sl) (fun y => [(2, .val (.pointer (some ⟨bt, 0, none⟩))), (3, .val (.pointer (some ⟨bs, 0, none⟩))), (7, .d (Bv (Bz t st))), (11, .val y.2.v), (46, .d (AP cs)), (47, .int cs.length), (48, .int y.1)]) (fun y => [AF y.2.v 105 2 Fo.cells (J3 t st cl (cs.take y.1)), .cells bs 105 [.int st, .int cl], .cells bt 29 [.d (Ba t.model.vars), .d (BH t.model.rules), .d (Bi t.props), .d (AN t.formula)]]) (fun y => y.1 ≤ cs.length) (fun y => cs.length - y.1) (0, Sl.nil) (Nat.zero_le _) (VS.take (by exact AB) ?_) ?_
 · exact leD
 rintro ⟨i, q⟩ hi
 dsimp only at hi ⊢
 have hbi := hbl (cs.take i)
 rw [List.length_take] at hbi
 by_cases hil : i < cs.length
 · obtain ⟨r1, r2⟩ := hrg _ (List.getElem_mem hil)
   have hbs := hbs cs i hil
   have hL2 := Ov t.model t.props cs[i]
   rw [hlet _ r1 r2] at hL2
   dsimp only at hL2
   have hfo := fun d => hfo cs[i] d g3 g4
   have hyes := hyes cs[i]
   have hno := hno cs[i]
   have hfl := hfl cs[i]
   have hf0 := hf0 cs[i]
   generalize hnx : Bz t cs[i] = nx at hL2 hfo
   generalize Bz t st = lt at hL hfo ⊢
   generalize Ik t st cl cs[i] = F at hyes hno hfl hf0 hbs
   generalize QN t st cl cs[i] = fb at hyes hno hfo
   generalize J3 t st cl (cs.take i) = B at hbi hbs ⊢
   generalize BF t = N at hM hfo hm64 hbs ⊢
   repeat' (first
    | refine ca GI (hL2) ?_
    | ((with_reducible apply Ez); (focus rfl); (focus exact DB); (focus exact hM); (focus rfl))
    | exact True.intro | refine AJ ?_ | refine two ?_ ?_ | refine AG fun c_ => ?_
    | (refine imp fun hc => ?_) <;> try exact cx1 hc
    | refine all fun v_ => ?_)
   have e0 : B = B ++ F 0 := by rw [hf0, List.append_nil]
   refine AL (X := Nat × Sl) (fun y => [(2, .val (.pointer (some ⟨bt, 0, none⟩))), (3, .val (.pointer (some ⟨bs, 0, none⟩))), (7, .d (Bv lt)), (11, .val y.2.v), (13, .int cs[i]), (14, .d (Bv nx)), (46, .d (AP cs)), (47, .int cs.length), (48, .int i), (62, .int N), (63, .int y.1)]) (fun y => [AF y.2.v 105 2 Fo.cells (B ++ F y.1), .cells bs 105 [.int st, .int cl], .cells bt 29 [.d (Ba t.model.vars), .d (BH t.model.rules), .d (Bi t.props), .d (AN t.formula)]]) (fun y => y.1 ≤ N) (fun y => N - y.1) (0, q) (Nat.zero_le _) (VS.take (by dsimp only; rw [← e0]; exact AB) ?_) ?_
   · exact leD
   clear e0
   rintro ⟨k, q⟩ hk
   dsimp only at hk ⊢
   have hfk := hfl k
   have hal : (B ++ F k).length = B.length + (F k).length := List.length_append
   by_cases hkl : k < N
   · have hFo := bW t.formula lt cl nx k
     rw [hfo k (by omega) (by omega)] at hFo
     dsimp only at hFo
     cases hb : fb k with
     | true =>
       rw [hb] at hFo
       have hy := hyes k hb
       repeat' (first
        | refine ca Kh (hFo) ?_
        | ((with_reducible apply (Bm (f := Fo.cells) (u := ⟨cs[i], (k : Int)⟩))); (focus rfl); (focus rfl); (focus (with_reducible exact ElC.h)); (focus exact BT); (focus rfl); (focus rfl); (focus rfl); (focus rfl); (focus exact Ad); (focus exact Ad))
        | exact True.intro | refine AJ ?_ | refine two ?_ ?_ | refine AG fun c_ => ?_
        | (refine imp fun hc => ?_) <;> try exact cx1 hc
        | refine all fun v_ => ?_)
       refine ⟨(k + 1, v_), by dsimp only; omega, by dsimp only; omega, VS.take (by dsimp only; rw [hy, ← List.append_assoc]; exact AB) ?_⟩
       exact leD
     | false =>
       rw [hb] at hFo
       have hy := hno k hb
       repeat' (first
        | refine ca Kh (hFo) ?_
        | ((with_reducible apply (Bm (f := Fo.cells) (u := ⟨cs[i], (k : Int)⟩))); (focus rfl); (focus rfl); (focus (with_reducible exact ElC.h)); (focus exact BT); (focus rfl); (focus rfl); (focus rfl); (focus rfl); (focus exact Ad); (focus exact Ad))
        | exact True.intro | refine AJ ?_ | refine two ?_ ?_ | refine AG fun c_ => ?_
        | (refine imp fun hc => ?_) <;> try exact cx1 hc
        | refine all fun v_ => ?_)
       refine ⟨(k + 1, q), by dsimp only; omega, by dsimp only; omega, VS.take (by dsimp only; rw [hy]; exact AB) ?_⟩
       exact leD
   obtain rfl : k = N := by omega
   repeat' (first
    | exact True.intro | refine AJ ?_ | refine two ?_ ?_ | refine AG fun c_ => ?_
    | (refine imp fun hc => ?_) <;> try exact cx1 hc
    | refine all fun v_ => ?_)
   refine ⟨(i + 1, q), by dsimp only; omega, by dsimp only; omega, VS.take (by dsimp only; rw [hbs]; exact AB) ?_⟩
   exact leD
 obtain rfl : i = cs.length := by omega
 rw [List.take_length]
 repeat' (first
  | exact True.intro | refine AJ ?_ | refine two ?_ ?_ | refine AG fun c_ => ?_
  | (refine imp fun hc => ?_) <;> try exact cx1 hc
  | refine all fun v_ => ?_)
 refine AO (VS.trans (Ci (t := 4) (eb := 16) rfl rfl (fun x => rfl) (by have := hbl cs; omega)) (VS.drop (List.nil_sublist _))) ?_
 ((with_reducible apply rq2); rfl; rfl; rfl)
 exact AD rfl
theorem Ka : Cal Tryz.prog 33 := Cal.of Tryz.func33 (by kernel_rfl) (by kernel_rfl)
theorem TT (t : Tk) (h : A2 t ≠ 0) : ACr Tryz.prog GP 33 [tkA t] (.tup [grA (exG t), .int (BE t).2]) := by
 have hB := dA t
 have e1 : BE t = (none, A2 t) := by unfold BE; rw [if_pos h]
 have e2 : BI t = ([], A2 t) := by unfold BI; rw [if_pos h]
 unfold exG
 rw [e1]
 rw [e2] at hB
 dsimp only at hB ⊢
 generalize A2 t = e at h hB ⊢
 refine Et (rs := [.cell 2 99, .tmp 3]) Tryz.f33.ntmps Tryz.func33 rfl rfl rfl (by simp [Tryz.ntmps33]) fun W I => ?_
 repeat' (first
  | refine ca OO (hB) ?_
  | exact True.intro | refine AJ ?_ | refine two ?_ ?_ | refine AG fun c_ => ?_
  | (refine imp fun hc => ?_) <;> try exact cx1 hc
  | refine all fun v_ => ?_)
 exact QX (xs := [.agg [.val (.slice none 0 0), .int 0, .val (.slice none 0 0), .val (.slice none 0 0), .int 0], .int e]) (ys := [.agg [.d (AN []), .int 0, .d (D9 []), .d (AP []), .int 0], .int e]) vid ⟨CI rfl (by (with_reducible exact ElC.h)) rfl (by exact Ai) rfl, Eg rfl, trivial⟩ ⟨AV.le_agg ⟨AV.le_nil 2 16, AV.le_refl _, AV.le_nil 1 24, AV.le_nil 1 8, AV.le_refl _, trivial⟩, AV.le_refl _, trivial⟩ rfl (h' := []) (List.nil_sublist _) (AD rfl)
theorem RF (t : Tk) (h : A2 t = 0) : ACr Tryz.prog GP 33 [tkA t] (.tup [grA (exG t), .int (BE t).2]) := by
 have hB := dA t
 have eB : (BI t).2 = 0 := by unfold BI; rw [if_neg (fun k => k h)]
 rw [eB] at hB
 obtain ⟨h1, h2, h3⟩ := CA h
 have hA := aB t.formula t.props.length
 have eA : (Ak t.formula t.props.length).2 = 0 := by unfold Ak; rw [if_neg (fun k => k h2)]
 rw [eA] at hA
 have hAl := GG t.formula t.props.length
 have hBl := OM t
 refine Et (rs := [.cell 2 99, .tmp 3]) Tryz.f33.ntmps Tryz.func33 rfl rfl rfl (by simp [Tryz.ntmps33]) fun W I => ?_
 repeat' (first
  | refine ca OO (hB) ?_
  | refine ca CK (hA) ?_
  | ((with_reducible apply (Cz spV Fe)); (focus rfl))
  | exact True.intro | refine AM ?_ | refine two ?_ ?_
  | (refine imp fun hc => ?_) <;> try exact cx hc
  | refine all fun v_ => ?_)
 obtain ⟨ba, rfl⟩ : ∃ x, x = v_ := ⟨v_, rfl⟩
 obtain ⟨bm, rfl⟩ : ∃ x, x = v_ := ⟨v_, rfl⟩
 obtain ⟨br, rfl⟩ : ∃ x, x = v_ := ⟨v_, rfl⟩
 obtain ⟨bt, rfl⟩ : ∃ x, x = v_ := ⟨v_, rfl⟩
 have hnd : (BI t).1.Nodup := Fq t 0
 have e0 : spF t 0 = (BI t).1 := rfl
 generalize eBB : (BI t).1 = B at hB hBl hnd e0
 generalize eAA : (Ak t.formula t.props.length).1 = A at hA hAl
 refine FQ (E := 105) (sz := 2) Fo.cells ?_
 refine FQ (E := 43) (sz := 1) IC ?_
 refine FQ (E := 3) (sz := 1) Ag ?_
 refine AL (X := Nat × Sl) (fun y => [(1, .val (.pointer (some ⟨bt, 0, none⟩))), (2, .val (.pointer (some ⟨br, 0, none⟩))), (8, .val (.pointer (some ⟨ba, 0, none⟩))), (57, .d (AN B)), (58, .int B.length), (59, .int y.1)]) (fun y => [.cells ba 133 [.val y.2.v, .int B.length, .val Sl.nil.v, .val Sl.nil.v, .int A.length, .val (.map (some bm))], AF y.2.v 105 2 Fo.cells (B.take y.1), .raw bm (Ay (Ab spV Fe (HM (B.take y.1)))), AF Sl.nil.v 43 1 IC ([]), AF Sl.nil.v 3 1 Ag ([]), .cells br 99 [.val (.slice none 0 0), .int 0, .val (.slice none 0 0), .val (.slice none 0 0), .int 0], .cells bt 29 [.d (Ba t.model.vars), .d (BH t.model.rules), .d (Bi t.props), .d (AN t.formula)]]) (fun y => y.1 ≤ B.length) (fun y => B.length - y.1) (0, Sl.nil) (Nat.zero_le _) (VS.take (by exact AB) ?_) ?_
 · exact leD
 rintro ⟨j, q⟩ hj
 dsimp only at hj ⊢
 by_cases hjl : j < B.length
 · have hnew : B[j] ∉ B.take j := fun hm => by
    obtain ⟨i, hi, e⟩ := List.getElem_of_mem hm
    rw [List.getElem_take] at e
    have := (List.getElem_inj hnd).1 e
    rw [List.length_take] at hi; omega
   have et : B.take j ++ [B[j]] = B.take (j + 1) := (List.take_succ_eq_append_getElem hjl).symm
   have F := NS ba bm q B.length A.length (.val (.slice none 0 0)) (.val (.slice none 0 0)) (B.take j) B[j] hnew (by rw [List.length_take]; omega)
   rw [et] at F
   repeat' (first
    | refine cgv Ht (F) ?_
    | exact True.intro | refine AM ?_ | refine two ?_ ?_
    | (refine imp fun hc => ?_) <;> try exact cx hc
    | refine all fun v_ => ?_)
   refine ⟨(j + 1, v_), by dsimp only; omega, by dsimp only; omega, VS.take (by exact AB) ?_⟩
   exact leD
 obtain rfl : j = B.length := by omega
 rw [List.take_length]
 repeat' (first
  | exact True.intro | refine AM ?_ | refine two ?_ ?_
  | (refine imp fun hc => ?_) <;> try exact cx hc
  | refine all fun v_ => ?_)
 refine AL (X := Nat × Sl × Sl × Sl) (fun y => [(1, .val (.pointer (some ⟨bt, 0, none⟩))), (2, .val (.pointer (some ⟨br, 0, none⟩))), (8, .val (.pointer (some ⟨ba, 0, none⟩))), (11, .int y.1)]) (fun y => [.cells ba 133 [.val y.2.1.v, .int B.length, .val y.2.2.1.v, .val y.2.2.2.v, .int A.length, .val (.map (some bm))], AF y.2.1.v 105 2 Fo.cells (spF t y.1), .raw bm (Ay (Ab spV Fe (HM (spF t y.1)))), AF y.2.2.1.v 43 1 IC ((List.range y.1).map (plF t)), AF y.2.2.2.v 3 1 Ag ((List.range y.1).map (seF t)), .cells br 99 [.val (.slice none 0 0), .int 0, .val (.slice none 0 0), .val (.slice none 0 0), .int 0], .cells bt 29 [.d (Ba t.model.vars), .d (BH t.model.rules), .d (Bi t.props), .d (AN t.formula)]]) (fun y => FD t y.1) (fun y => 20001 - y.1) (0, q, Sl.nil, Sl.nil) ⟨h, fun j hj => absurd hj (Nat.not_lt_zero j)⟩ (VS.take (by dsimp only; rw [e0]; exact AB) ?_) ?_
 · exact leD
 clear hnd e0
 rintro ⟨i, q, qn, qs⟩ hg
 dsimp only at hg ⊢
 have hfew := hg.few
 have hle := hg.le
 have hln : ((List.range i).map (plF t)).length = i := by simp
 have hls : ((List.range i).map (seF t)).length = i := by simp
 by_cases hil : i < (spF t i).length
 · obtain ⟨e1, e2, e3⟩ := SC hil
   have hful := fun hl => hg.full hil hl
   have hnext := fun hl => hg.next hil hl
   have hL := Ov t.model t.props (spF t i)[i].kind
   have hM := gS t.formula (Ku t.model t.props (spF t i)[i].kind).1 (spF t i)[i].val
   have hBh := fM t (spF t i)[i].kind (spF t i)[i].val
   have hbl := UP t (spF t i)[i].kind (spF t i)[i].val h3
   rw [← e3] at hM
   generalize (Ku t.model t.props (spF t i)[i].kind) = lp at hL hM
   generalize hse : seF t i = se at hM e3
   generalize Ao t (spF t i)[i].kind (spF t i)[i].val = bp at hBh hbl e1 e2 hful
   obtain ⟨bs, be⟩ := bp
   dsimp only at hBh hbl e1 e2 hful
   repeat' (first
    | refine ca GI (hL) ?_
    | refine ca VP (hM) ?_
    | refine ca UU (hBh) ?_
    | ((with_reducible apply jp); (focus ((with_reducible apply DA); (focus rfl); (focus (with_reducible exact ElC.h)); (focus rfl); (focus exact Ai); (focus exact fun _ => rfl); (focus omega))); (focus rfl))
    | exact True.intro | refine AM ?_ | refine two ?_ ?_
    | (refine imp fun hc => ?_) <;> try exact cx hc
    | refine all fun v_ => ?_)
   refine FQ (E := 3) (sz := 1) Ag ?_
   refine AL (X := Nat × Sl × Sl) (fun y => [(1, .val (.pointer (some ⟨bt, 0, none⟩))), (2, .val (.pointer (some ⟨br, 0, none⟩))), (8, .val (.pointer (some ⟨ba, 0, none⟩))), (11, .int i), (15, .int se), (17, .val y.2.2.v), (110, .d (AN bs)), (111, .int bs.length), (112, .int y.1)]) (fun y => [AF y.2.2.v 3 1 Ag (BY (spF t i) (bs.take y.1)).2, .cells ba 133 [.val y.2.1.v, .int B.length, .val qn.v, .val qs.v, .int A.length, .val (.map (some bm))], AF y.2.1.v 105 2 Fo.cells ((BY (spF t i) (bs.take y.1)).1), .raw bm (Ay (Ab spV Fe (HM ((BY (spF t i) (bs.take y.1)).1)))), AF qn.v 43 1 IC ((List.range i).map (plF t)), AF qs.v 3 1 Ag ((List.range i).map (seF t)), .cells br 99 [.val (.slice none 0 0), .int 0, .val (.slice none 0 0), .val (.slice none 0 0), .int 0], .cells bt 29 [.d (Ba t.model.vars), .d (BH t.model.rules), .d (Bi t.props), .d (AN t.formula)]]) (fun y => y.1 ≤ bs.length ∧ (BY (spF t i) (bs.take y.1)).1.length ≤ 20000) (fun y => bs.length - y.1) (0, q, Sl.nil) ⟨Nat.zero_le _, hfew⟩ (VS.take (by exact AB) ?_) ?_
   · exact leD
   clear q
   rintro ⟨k, q, p⟩ ⟨hk, hkl⟩
   dsimp only at hk hkl ⊢
   have hpl : (BY (spF t i) (bs.take k)).2.length = k := by rw [HW, List.length_take]; omega
   by_cases hkb : k < bs.length
   · have hst := N0 bs (spF t i) k hkb
     have hgr := OJ bs (spF t i) (k + 1) (bs.length - (k + 1))
     rw [show k + 1 + (bs.length - (k + 1)) = bs.length by omega, List.take_length] at hgr
     rw [hst] at hgr
     dsimp only at hgr
     generalize BY (spF t i) (bs.take k) = R at hst hgr hkl hpl ⊢
     by_cases hb : bs[k] ∈ R.1
     · have F := V9 ba bm q B.length A.length (.val qn.v) (.val qs.v) R.1 bs[k] hb
       rw [ax hb] at hst
       repeat' (first
        | refine cgv Ht (F) ?_
        | exact True.intro | refine AM ?_ | refine two ?_ ?_
        | (refine imp fun hc => ?_) <;> try exact cx hc
        | refine all fun v_ => ?_)
       refine ⟨(k + 1, q, v_), ⟨by dsimp only; omega, by dsimp only; rw [hst]; exact hkl⟩, by dsimp only; omega, VS.take (by dsimp only; rw [hst]; exact AB) ?_⟩
       exact leD
     rw [Zt hb] at hst hgr
     by_cases hl : R.1.length < 20000
     · have F := NS ba bm q B.length A.length (.val qn.v) (.val qs.v) R.1 bs[k] hb hl
       repeat' (first
        | refine cgv Ht (F) ?_
        | exact True.intro | refine AM ?_ | refine two ?_ ?_
        | (refine imp fun hc => ?_) <;> try exact cx hc
        | refine all fun v_ => ?_)
       obtain ⟨p2, rfl⟩ : ∃ x, x = v_ := ⟨v_, rfl⟩
       refine ⟨(k + 1, v_, p2), ⟨by dsimp only; omega, by dsimp only; rw [hst]; simp; omega⟩, by dsimp only; omega, VS.take (by dsimp only; rw [hst]; exact AB) ?_⟩
       exact leD
     · have F := Tr ba bm q B.length A.length (.val qn.v) (.val qs.v) R.1 bs[k] hb (by omega)
       have hx := hful (by rw [List.length_append, List.length_singleton] at hgr; omega)
       repeat' (first
        | refine cgv Ht (F) ?_
        | exact True.intro | refine AM ?_ | refine two ?_ ?_
        | (refine imp fun hc => ?_) <;> try exact cx hc
        | refine all fun v_ => ?_)
       unfold exG
       rw [hx]
       exact QX (xs := [.agg [.val (.slice none 0 0), .int 0, .val (.slice none 0 0), .val (.slice none 0 0), .int 0], .int 12]) (ys := [.agg [.d (AN []), .int 0, .d (D9 []), .d (AP []), .int 0], .int 12]) vid ⟨CI rfl (by (with_reducible exact ElC.h)) rfl (by exact Ai) rfl, Eg rfl, trivial⟩ ⟨AV.le_agg ⟨AV.le_nil 2 16, AV.le_refl _, AV.le_nil 1 24, AV.le_nil 1 8, AV.le_refl _, trivial⟩, AV.le_refl _, trivial⟩ rfl (h' := []) (List.nil_sublist _) (AD rfl)
   obtain rfl : k = bs.length := by omega
   rw [List.take_length] at hkl hpl ⊢
   rw [← e1] at hkl
   rw [← e1, ← e2]
   rw [← e2] at hpl
   refine Rh (Ci (t := 17) (eb := 8) rfl rfl (fun x => rfl) (by omega)) ?_
   repeat' (first
    | ((with_reducible apply (Bm (f := IC) (u := plF t i))); (focus rfl); (focus rfl); (focus (with_reducible exact ElC.h)); (focus exact BT); (focus rfl); (focus rfl); (focus rfl); (focus rfl); (focus exact Ad); (focus exact Ad))
    | exact True.intro | refine AM ?_ | refine two ?_ ?_
    | (refine imp fun hc => ?_) <;> try exact cx hc
    | refine all fun v_ => ?_)
   obtain ⟨qs2, rfl⟩ : ∃ x, x = v_ := ⟨v_, rfl⟩
   obtain ⟨qn2, rfl⟩ : ∃ x, x = v_ := ⟨v_, rfl⟩
   have ep : (List.range (i + 1)).map (plF t) = (List.range i).map (plF t) ++ [plF t i] := by rw [List.range_succ, List.map_append]; rfl
   have es : (List.range (i + 1)).map (seF t) = (List.range i).map (seF t) ++ [se] := by rw [List.range_succ, List.map_append, ← hse]; rfl
   refine ⟨(i + 1, q, qn2, qs2), hnext hkl, by dsimp only; omega, VS.take (by dsimp only; rw [ep, es]; exact AB) ?_⟩
   exact leD
 have hx := hg.all (by omega)
 have hi2 : i ≤ 20000 := by omega
 repeat' (first
  | exact True.intro | refine AM ?_ | refine two ?_ ?_
  | (refine imp fun hc => ?_) <;> try exact cx hc
  | refine all fun v_ => ?_)
 have eG : exG t = ⟨spF t i, B.length, (List.range i).map (plF t), (List.range i).map (seF t), A.length⟩ := by
  unfold exG; rw [hx]; dsimp only; rw [eBB, eAA]
 rw [eG, hx]
 generalize (List.range i).map (plF t) = nx at hln ⊢
 generalize (List.range i).map (seF t) = st at hls ⊢
 generalize spF t i = sp at hfew ⊢
 refine Jt (VS.trans (VS.take (hc := [AF q.v 105 2 Fo.cells sp, AF qn.v 43 1 IC nx, AF qs.v 3 1 Ag st, .cells br 99 [.val q.v, .int B.length, .val qn.v, .val qs.v, .int A.length]]) (by exact AB) (Env.le_refl _))
  (VS.trans (Gh (h1 := []) (h' := [AF qn.v 43 1 IC nx, AF qs.v 3 1 Ag st, .cells br 99 [.d (AN sp), .int B.length, .val qn.v, .val qs.v, .int A.length]]) 16 rfl rfl (fun _ => rfl) (by omega) (CvE.refl _ _ _) ?_)
  (VS.trans (Gh (h1 := []) (h' := [AF qs.v 3 1 Ag st, .cells br 99 [.d (AN sp), .int B.length, .d (D9 nx), .val qs.v, .int A.length]]) 24 rfl rfl (fun _ => rfl) (by omega) (CvE.refl _ _ _) ?_)
  (Gh (h1 := []) (h' := [.cells br 99 [.d (AN sp), .int B.length, .d (D9 nx), .d (AP st), .int A.length]]) 8 rfl rfl (fun _ => rfl) (by omega) (CvE.refl _ _ _) ?_)))) (xs := [.agg [.d (AN sp), .int B.length, .d (D9 nx), .d (AP st), .int A.length], .int 0]) ⟨CI rfl (by (with_reducible exact ElC.h)) rfl (by exact Ai) rfl, Eg rfl, trivial⟩ rfl (h' := []) (List.nil_sublist _) (AD rfl)
 · exact .keep (.keep (.cells (.cons .here (.cons (.same _) (.cons (.same _) (.cons (.same _) (.cons (.same _) .nil))))) (.refl _)))
 · exact .keep (.cells (.cons (.same _) (.cons (.same _) (.cons .here (.cons (.same _) (.cons (.same _) .nil))))) (.refl _))
 · exact .cells (.cons (.same _) (.cons (.same _) (.cons (.same _) (.cons .here (.cons (.same _) .nil))))) (.refl _)
theorem Ud (t : Tk) : ACr Tryz.prog GP 33 [tkA t] (.tup [grA (exG t), .int (BE t).2]) := by
 by_cases h : A2 t = 0
 · exact RF t h
 · exact TT t h
end Go.Proofs.YtajnpfgelpkijaaGreatDoor
