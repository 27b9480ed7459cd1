/- Own texts. -/
import Derived.Laws.Cover3
import Derived.Test.YtnlfhnbcdfdhgaaGreatDoorA18
import Derived.Test.YtnlfhnbcdfdhgaaGreatDoorA20
set_option linter.unusedVariables false
set_option linter.unusedSimpArgs false
set_option maxRecDepth 100000
set_option maxHeartbeats 4000000
namespace Go.Sp
open Go Go.Av
theorem GC (l : List Fo) (p : Int) : (Ac l p).1.length ≤ 6 := by
 unfold Ac
 by_cases h : DU l p ≠ 0
 · rw [if_pos h]; exact Nat.zero_le _
 · rw [if_neg h, Dw]; exact (Hf (jY h)).ah
def A3 (t : Tk) : Nat := 2 ^ (Ac t.formula t.props.length).1.length
theorem YC {n : Nat} (h : n ≤ 6) : 1 ≤ 2 ^ n ∧ 2 ^ n ≤ 64 := by
 have : n = 0 ∨ n = 1 ∨ n = 2 ∨ n = 3 ∨ n = 4 ∨ n = 5 ∨ n = 6 := by omega
 rcases this with rfl | rfl | rfl | rfl | rfl | rfl | rfl <;> decide
theorem DA (t : Tk) : 1 ≤ A3 t ∧ A3 t ≤ 64 := YC (GC _ _)
theorem Cg {t : Tk} (h : BE t = 0) : CF t.model t.props = 0 ∧ DU t.formula t.props.length = 0 ∧ AT t.model = 0 := by
 unfold BE at h
 by_cases c : CF t.model t.props ≠ 0
 · rw [if_pos c] at h; exact absurd h c
 · rw [if_neg c] at h
   exact ⟨jY c, h, (Jx (jY c)).1⟩
noncomputable abbrev Bh (m : Md) : Int := (codeF m (inits m)).1
theorem Ki {m : Md} (h : AT m = 0) : (codeF m (inits m)).2 = 0 ∧ 0 ≤ Bh m ∧ Bh m < AR m.vars := by
 have hl : (inits m).length = m.vars.length := by simp [inits]
 have h2 : (codeF m (inits m)).2 = 0 := by
  rw [ME h hl]
  refine LD _ _ _ fun i h1 h2 => ?_
  have := (IW (BM h)).range m.vars[i] (jb h1)
  unfold Ed at this
  simp only [inits, List.getElem_map]
  omega
 exact ⟨h2, Li h hl h2⟩
noncomputable abbrev Cu (t : Tk) (c : Int) : List Bool := (List.range t.props.length).map (Jp t.props (B2 t.model.vars c))
theorem F7 {t : Tk} (h : BE t = 0) {c : Int} (h0 : 0 ≤ c) (h1 : c < AR t.model.vars) : Gm t.model t.props c = (Cu t c, 0) := by
 obtain ⟨a1, a2, a3⟩ := Cg h
 have hv : BK t.model c = (B2 t.model.vars c, 0) := by unfold BK; rw [if_neg (fun k => k a3), if_pos ⟨h0, h1⟩]
 unfold Gm
 rw [if_neg (fun k => k a1), hv, if_neg (by simp)]
theorem HX (t : Tk) (c : Int) : (Cu t c).length = t.props.length := by simp
theorem Xr {t : Tk} (h : BE t = 0) : A3 t = 2 ^ BU t.formula t.formula.length := by
 unfold A3 Ac
 rw [if_neg (fun k => k (Cg h).2.1), Dw]
theorem HC {t : Tk} (h : BE t = 0) (x : List Bool) (hx : x.length = t.props.length) {c : Int} (h0 : 0 ≤ c) (h1 : c < A3 t) : A2 t.formula x c = ((List.range t.formula.length).map (tAt t.formula x c), 0) := by
 have hf : DU t.formula x.length = 0 := by rw [hx]; exact (Cg h).2.1
 have ha : Ac t.formula x.length = (By t.formula 0, 0) := by unfold Ac; rw [if_neg (fun k => k hf)]
 unfold A2
 rw [ha, if_neg (by simp), if_neg]
 rw [Dw]
 rw [Xr h] at h1
 have e : ((2 ^ BU t.formula t.formula.length : Nat) : Int) = 2 ^ BU t.formula t.formula.length := by simp
 omega
theorem Iv {l : List Fo} (h : 0 < l.length) (f : Nat → Bool) : ∃ r, (List.range l.length).map f = f 0 :: r := by
 cases hl : l.length with
 | zero => omega
 | succ n => exact ⟨_, by rw [List.range_succ_eq_map, List.map_cons]⟩
noncomputable def DL (t : Tk) (n : Nat) : List Fo := ((List.range n).filter fun c : Nat => !tAt t.formula (Cu t (Bh t.model)) c 0).map fun c : Nat => ⟨Bh t.model, c⟩
theorem Ju {t : Tk} {n : Nat} (h : tAt t.formula (Cu t (Bh t.model)) n 0 = false) : DL t (n + 1) = DL t n ++ [⟨Bh t.model, n⟩] := by
 unfold DL
 rw [List.range_succ, List.filter_append, List.map_append]
 simp [h]
theorem LW {t : Tk} {n : Nat} (h : tAt t.formula (Cu t (Bh t.model)) n 0 = true) : DL t (n + 1) = DL t n := by
 unfold DL
 rw [List.range_succ, List.filter_append, List.map_append]
 simp [h]
theorem Hw (t : Tk) (n : Nat) : (DL t n).length ≤ n := by
 unfold DL
 rw [List.length_map]
 exact Nat.le_trans (List.length_filter_le _ _) (by simp)
noncomputable def BB (t : Tk) : List Fo × Int := if BE t ≠ 0 then ([], BE t) else (DL t (A3 t), 0)
end Go.Sp
namespace Go.Proofs.YtnlfhnbcdfdhgaaGreatDoor
open Go Go.Av Go.Sp
theorem Dt : Cal Tryz.prog 77 := Cal.of Tryz.func77 (by kernel_rfl) (by kernel_rfl)
theorem DV : Cal Tryz.prog 108 := Cal.of Tryz.func108 (by kernel_rfl) (by kernel_rfl)
theorem LB : Cal Tryz.prog 44 := Cal.of Tryz.func44 (by kernel_rfl) (by kernel_rfl)
theorem Lp : Cal Tryz.prog 61 := Cal.of Tryz.func61 (by kernel_rfl) (by kernel_rfl)
theorem VG (t : Tk) : ACr Tryz.prog GP 77 [tkA t] (.int (A3 t)) := by
 have hA := aO t.formula t.props.length
 have hfew := GC t.formula t.props.length
 unfold A3
 generalize Ac t.formula t.props.length = q at hA hfew ⊢
 obtain ⟨ps, e⟩ := q
 dsimp only at hA hfew ⊢
 have hp := YC hfew
 have hi : (1 : Int) * 2 ^ (ps.length : Int).toNat = ((2 ^ ps.length : Nat) : Int) := by simp
 refine AK (ts := [2]) Tryz.f77.ntmps Tryz.func77 rfl rfl rfl (by simp [Tryz.ntmps77]) fun W I => ?_
 have hin : Ao ((1 : Int) * 2 ^ (ps.length : Int).toNat) := by rw [hi]; generalize (2 ^ ps.length : Nat) = x at hp ⊢; unfold Ao; omega
 repeat' (first | refine ca Ct (hA) ?_ | exact jA | refine AF ?_ | refine two ?_ ?_ | refine AB fun c_ => ?_ | refine imp fun hc => ?_; try exact cx1 hc | refine all fun v_ => ?_)
 refine AI jE ?_
 ((with_reducible apply rq1); rfl; rfl)
 exact AA (by rw [← hi])
theorem KE (G : List (Nat × List D)) (t : Tk) : ACr Tryz.prog G 108 [tkA t] (.int (A3 t)) := by
 have hA := Qe G t.formula t.props.length
 have hfew := GC t.formula t.props.length
 unfold A3
 generalize Ac t.formula t.props.length = q at hA hfew ⊢
 obtain ⟨ps, e⟩ := q
 dsimp only at hA hfew ⊢
 refine AK (ts := [2]) Tryz.f108.ntmps Tryz.func108 rfl rfl rfl (by simp [Tryz.ntmps108]) fun W I => ?_
 repeat' (first | refine ca Ch (hA) ?_ | exact jA | refine AF ?_ | refine two ?_ ?_ | refine AB fun c_ => ?_ | refine imp fun hc => ?_; try exact cx1 hc | refine all fun v_ => ?_)
 refine AG (X := Nat) (fun i => [(3, .d (AJ ps)), (5, .int (2 ^ i : Nat)), (6, .int i)]) (fun _ => []) (fun i => i ≤ ps.length) (fun i => ps.length - i) 0 (Nat.zero_le _) (VS.trans jE (VS.of_le ?_)) ?_
 · exact leD
 rintro i hi
 have hp := YC (n := i) jB
 have e2 : ((2 ^ i : Nat) : Int) * 2 = ((2 ^ (i + 1) : Nat) : Int) := by rw [Nat.pow_succ]; omega
 generalize hx : (2 ^ i : Nat) = x at hp e2 ⊢
 by_cases hil : i < ps.length
 · repeat' (first | refine ca Ch (hA) ?_ | exact jA | refine AF ?_ | refine two ?_ ?_ | refine AB fun c_ => ?_ | refine imp fun hc => ?_; try exact cx1 hc | refine all fun v_ => ?_)
   refine ⟨i + 1, by omega, by omega, VS.of_le ?_⟩
   rw [e2]
   exact leD
 obtain rfl : i = ps.length := by omega
 repeat' (first | refine ca Ch (hA) ?_ | exact jA | refine AF ?_ | refine two ?_ ?_ | refine AB fun c_ => ?_ | refine imp fun hc => ?_; try exact cx1 hc | refine all fun v_ => ?_)
 refine AI jE ?_
 ((with_reducible apply rq1); rfl; rfl)
 exact AA (by rw [hx])
theorem YK (t : Tk) : ACr Tryz.prog GP 44 [tkA t] (.tup [.d (AO (BB t).1), .int (BB t).2]) := by
 have hP := aZ t
 unfold BB
 refine AK (ts := [2, 3]) Tryz.f44.ntmps Tryz.func44 rfl rfl rfl (by simp [Tryz.ntmps44]) fun W I => ?_
 by_cases h1 : BE t ≠ 0
 · rw [if_pos h1]
   generalize BE t = e at hP h1
   repeat' (first | refine ca Fw (hP) ?_ | exact jA | refine AF ?_ | refine two ?_ ?_ | refine AB fun c_ => ?_ | refine imp fun hc => ?_; try exact cx1 hc | refine all fun v_ => ?_)
   refine AI (VS.trans jE (Cj (t := 2) 2 16 rfl)) ?_
   ((with_reducible apply rq2); rfl; rfl; rfl)
   exact AA rfl
 rw [if_neg h1]
 replace h1 := jY h1
 rw [h1] at hP
 obtain ⟨a1, a2, a3⟩ := Cg h1
 obtain ⟨f1, f2, f3⟩ := Ki a3
 have gf := Hf a2
 have hpos := gf.pos
 have h60 := gf.h60
 have hF : ACr Tryz.prog GP 76 [mdA t.model] (.tup [.int (Bh t.model), .int 0]) := by
  have h := iM t.model
  rw [f1] at h
  exact h
 have hL := RA t.model t.props (Bh t.model)
 have hM := VG t
 rw [F7 h1 f2 f3] at hL
 dsimp only at hL
 obtain ⟨m1, m2⟩ := DA t
 have hll := HX t (Bh t.model)
 have hin : ∀ n : Nat, n < A3 t → A2 t.formula (Cu t (Bh t.model)) n = ((List.range t.formula.length).map (tAt t.formula (Cu t (Bh t.model)) n), 0) := fun n hn => HC h1 _ hll jB jB
 have hyes := fun n => Ju (t := t) (n := n)
 have hno := fun n => LW (t := t) (n := n)
 have hbl := Hw t
 have hb0 : DL t 0 = [] := rfl
 generalize DL t = B at hyes hno hbl hb0 ⊢
 generalize Cu t (Bh t.model) = lt at hL hll hin hyes hno
 generalize Bh t.model = fst at hF hL f2 f3 hyes hno
 generalize A3 t = N at hM m1 m2 hin ⊢
 repeat' (first | refine ca Fw (hP) ?_ | refine ca WY (hF) ?_ | refine ca Hm (hL) ?_ | refine ca Dt (hM) ?_ | exact jA | refine AF ?_ | refine two ?_ ?_ | refine AB fun c_ => ?_ | refine imp fun hc => ?_; try exact cx1 hc | refine all fun v_ => ?_)
 refine Db (E := 106) (sz := 2) Fo.cells ?_
 refine AG (X := Nat × Sl) (fun y => [(1, .val (.pointer (some ⟨v_, 0, none⟩))), (5, .int fst), (7, .d (Ap lt)), (9, .val y.2.v), (34, .int N), (35, .int y.1)]) (fun y => [AL y.2.v 106 2 Fo.cells (B y.1), .cells v_ 29 [.d (Au t.model.vars), .d (Ae t.model.rules), .d (Ar t.props), .d (AO t.formula)]]) (fun y => y.1 ≤ N) (fun y => N - y.1) (0, Sl.nil) (Nat.zero_le _) (VS.take (by rw [hb0]; exact AH) ?_) ?_
 · exact leD
 rintro ⟨i, q⟩ hi
 dsimp only at hi ⊢
 have hbi := hbl i
 by_cases hil : i < N
 · have hT := QH t.formula lt i
   rw [hin i hil] at hT
   have hyes := hyes i
   have hno := hno i
   obtain ⟨rest, hr⟩ := Iv hpos (tAt t.formula lt i)
   rw [hr] at hT
   dsimp only at hT
   cases hb : tAt t.formula lt i 0 with
   | true =>
     rw [hb] at hT
     have hno := hno hb
     repeat' (first | refine ca BN (hT) ?_ | refine i7 (DP (f := Fo.cells) (u := ⟨fst, (i : Int)⟩)) ?_ | exact jA | refine AF ?_ | refine two ?_ ?_ | refine AB fun c_ => ?_ | refine imp fun hc => ?_; try exact cx1 hc | refine all fun v_ => ?_)
     refine ⟨(i + 1, q), jC, jC, VS.take (by dsimp only; rw [hno]; exact AH) ?_⟩
     exact leD
   | false =>
     rw [hb] at hT
     have hyes := hyes hb
     repeat' (first | refine ca BN (hT) ?_ | refine i7 (DP (f := Fo.cells) (u := ⟨fst, (i : Int)⟩)) ?_ | exact jA | refine AF ?_ | refine two ?_ ?_ | refine AB fun c_ => ?_ | refine imp fun hc => ?_; try exact cx1 hc | refine all fun v_ => ?_)
     refine ⟨(i + 1, v_), jC, jC, VS.take (by dsimp only; rw [hyes]; exact AH) ?_⟩
     exact leD
 obtain rfl : i = N := by omega
 repeat' (first | exact jA | refine AF ?_ | refine two ?_ ?_ | refine AB fun c_ => ?_ | refine imp fun hc => ?_; try exact cx1 hc | refine all fun v_ => ?_)
 refine AI (VS.trans (Bq (t := 2) (eb := 16) rfl rfl (fun x => rfl) jB) jE) ?_
 ((with_reducible apply rq2); rfl; rfl; rfl)
 exact AA rfl
theorem dF (G : List (Nat × List D)) (t : Tk) : ACr Tryz.prog G 61 [tkA t] (.tup [.d (AO (BB t).1), .int (BB t).2]) := by
 have hP := K9 G t
 unfold BB
 refine AK (ts := [2, 3]) Tryz.f61.ntmps Tryz.func61 rfl rfl rfl (by simp [Tryz.ntmps61]) fun W I => ?_
 by_cases h1 : BE t ≠ 0
 · rw [if_pos h1]
   generalize BE t = e at hP h1
   repeat' (first | refine ca Ci (hP) ?_ | exact jA | refine AF ?_ | refine two ?_ ?_ | refine AB fun c_ => ?_ | refine imp fun hc => ?_; try exact cx1 hc | refine all fun v_ => ?_)
   refine AI (VS.trans jE (Cj (t := 2) 2 16 rfl)) ?_
   ((with_reducible apply rq2); rfl; rfl; rfl)
   exact AA rfl
 rw [if_neg h1]
 replace h1 := jY h1
 rw [h1] at hP
 obtain ⟨a1, a2, a3⟩ := Cg h1
 obtain ⟨f1, f2, f3⟩ := Ki a3
 have gf := Hf a2
 have hpos := gf.pos
 have h60 := gf.h60
 have hF : ACr Tryz.prog G 107 [mdA t.model] (.tup [.int (Bh t.model), .int 0]) := by
  have h := Pq G t.model
  rw [f1] at h
  exact h
 have hL := II G t.model t.props (Bh t.model)
 have hM := KE G t
 rw [F7 h1 f2 f3] at hL
 dsimp only at hL
 obtain ⟨m1, m2⟩ := DA t
 have hll := HX t (Bh t.model)
 have hin : ∀ n : Nat, n < A3 t → A2 t.formula (Cu t (Bh t.model)) n = ((List.range t.formula.length).map (tAt t.formula (Cu t (Bh t.model)) n), 0) := fun n hn => HC h1 _ hll jB jB
 have hyes := fun n => Ju (t := t) (n := n)
 have hno := fun n => LW (t := t) (n := n)
 have hbl := Hw t
 have hb0 : DL t 0 = [] := rfl
 generalize DL t = B at hyes hno hbl hb0 ⊢
 generalize Cu t (Bh t.model) = lt at hL hll hin hyes hno
 generalize Bh t.model = fst at hF hL f2 f3 hyes hno
 generalize A3 t = N at hM m1 m2 hin ⊢
 repeat' (first | refine ca Ci (hP) ?_ | refine ca Jb (hF) ?_ | refine ca EK (hL) ?_ | refine ca DV (hM) ?_ | exact jA | refine AF ?_ | refine two ?_ ?_ | refine AB fun c_ => ?_ | refine imp fun hc => ?_; try exact cx1 hc | refine all fun v_ => ?_)
 refine Db (E := 106) (sz := 2) Fo.cells ?_
 refine AG (X := Nat × Sl) (fun y => [(1, .val (.pointer (some ⟨v_, 0, none⟩))), (5, .int fst), (7, .d (Ap lt)), (9, .int N), (10, .val y.2.v), (11, .int y.1)]) (fun y => [AL y.2.v 106 2 Fo.cells (B y.1), .cells v_ 29 [.d (Au t.model.vars), .d (Ae t.model.rules), .d (Ar t.props), .d (AO t.formula)]]) (fun y => y.1 ≤ N) (fun y => N - y.1) (0, Sl.nil) (Nat.zero_le _) (VS.take (by rw [hb0]; exact AH) ?_) ?_
 · exact leD
 rintro ⟨i, q⟩ hi
 dsimp only at hi ⊢
 have hbi := hbl i
 by_cases hil : i < N
 · have hT := Ir G t.formula lt i
   rw [hin i hil] at hT
   have hyes := hyes i
   have hno := hno i
   obtain ⟨rest, hr⟩ := Iv hpos (tAt t.formula lt i)
   rw [hr] at hT
   dsimp only at hT
   cases hb : tAt t.formula lt i 0 with
   | true =>
     rw [hb] at hT
     have hno := hno hb
     repeat' (first | refine ca Aw (hT) ?_ | refine i7 (DP (f := Fo.cells) (u := ⟨fst, (i : Int)⟩)) ?_ | exact jA | refine AF ?_ | refine two ?_ ?_ | refine AB fun c_ => ?_ | refine imp fun hc => ?_; try exact cx1 hc | refine all fun v_ => ?_)
     refine ⟨(i + 1, q), jC, jC, VS.take (by dsimp only; rw [hno]; exact AH) ?_⟩
     exact leD
   | false =>
     rw [hb] at hT
     have hyes := hyes hb
     repeat' (first | refine ca Aw (hT) ?_ | refine i7 (DP (f := Fo.cells) (u := ⟨fst, (i : Int)⟩)) ?_ | exact jA | refine AF ?_ | refine two ?_ ?_ | refine AB fun c_ => ?_ | refine imp fun hc => ?_; try exact cx1 hc | refine all fun v_ => ?_)
     refine ⟨(i + 1, v_), jC, jC, VS.take (by dsimp only; rw [hyes]; exact AH) ?_⟩
     exact leD
 obtain rfl : i = N := by omega
 repeat' (first | exact jA | refine AF ?_ | refine two ?_ ?_ | refine AB fun c_ => ?_ | refine imp fun hc => ?_; try exact cx1 hc | refine all fun v_ => ?_)
 refine AI (VS.trans (Bq (t := 2) (eb := 16) rfl rfl (fun x => rfl) jB) jE) ?_
 ((with_reducible apply rq2); rfl; rfl; rfl)
 exact AA rfl
theorem aB (G : List (Nat × List D)) (t : Tk) (h1 : BE t = 0) : AC Tryz.prog G 61 [tkA t] [] fun r h => ∃ q : Sl, r = .ret (.tup [.val q.v, .int 0]) ∧ h = [AL q.v 106 2 Fo.cells (BB t).1] := by
 have hP := K9 G t
 unfold BB
 refine AK (ts := [2, 3]) Tryz.f61.ntmps Tryz.func61 rfl rfl rfl (by simp [Tryz.ntmps61]) fun W I => ?_
 rw [if_neg (fun k => k h1)]
 rw [h1] at hP
 obtain ⟨a1, a2, a3⟩ := Cg h1
 obtain ⟨f1, f2, f3⟩ := Ki a3
 have gf := Hf a2
 have hpos := gf.pos
 have h60 := gf.h60
 have hF : ACr Tryz.prog G 107 [mdA t.model] (.tup [.int (Bh t.model), .int 0]) := by
  have h := Pq G t.model
  rw [f1] at h
  exact h
 have hL := II G t.model t.props (Bh t.model)
 have hM := KE G t
 rw [F7 h1 f2 f3] at hL
 dsimp only at hL
 obtain ⟨m1, m2⟩ := DA t
 have hll := HX t (Bh t.model)
 have hin : ∀ n : Nat, n < A3 t → A2 t.formula (Cu t (Bh t.model)) n = ((List.range t.formula.length).map (tAt t.formula (Cu t (Bh t.model)) n), 0) := fun n hn => HC h1 _ hll jB jB
 have hyes := fun n => Ju (t := t) (n := n)
 have hno := fun n => LW (t := t) (n := n)
 have hbl := Hw t
 have hb0 : DL t 0 = [] := rfl
 generalize DL t = B at hyes hno hbl hb0 ⊢
 generalize Cu t (Bh t.model) = lt at hL hll hin hyes hno
 generalize Bh t.model = fst at hF hL f2 f3 hyes hno
 generalize A3 t = N at hM m1 m2 hin ⊢
 repeat' (first | refine ca Ci (hP) ?_ | refine ca Jb (hF) ?_ | refine ca EK (hL) ?_ | refine ca DV (hM) ?_ | exact jA | refine AF ?_ | refine two ?_ ?_ | refine AB fun c_ => ?_ | refine imp fun hc => ?_; try exact cx1 hc | refine all fun v_ => ?_)
 refine Db (E := 106) (sz := 2) Fo.cells ?_
 refine AG (X := Nat × Sl) (fun y => [(1, .val (.pointer (some ⟨v_, 0, none⟩))), (5, .int fst), (7, .d (Ap lt)), (9, .int N), (10, .val y.2.v), (11, .int y.1)]) (fun y => [AL y.2.v 106 2 Fo.cells (B y.1), .cells v_ 29 [.d (Au t.model.vars), .d (Ae t.model.rules), .d (Ar t.props), .d (AO t.formula)]]) (fun y => y.1 ≤ N) (fun y => N - y.1) (0, Sl.nil) (Nat.zero_le _) (VS.take (by rw [hb0]; exact AH) ?_) ?_
 · exact leD
 rintro ⟨i, q⟩ hi
 dsimp only at hi ⊢
 have hbi := hbl i
 by_cases hil : i < N
 · have hT := Ir G t.formula lt i
   rw [hin i hil] at hT
   have hyes := hyes i
   have hno := hno i
   obtain ⟨rest, hr⟩ := Iv hpos (tAt t.formula lt i)
   rw [hr] at hT
   dsimp only at hT
   cases hb : tAt t.formula lt i 0 with
   | true =>
     rw [hb] at hT
     have hno := hno hb
     repeat' (first | refine ca Aw (hT) ?_ | refine i7 (DP (f := Fo.cells) (u := ⟨fst, (i : Int)⟩)) ?_ | exact jA | refine AF ?_ | refine two ?_ ?_ | refine AB fun c_ => ?_ | refine imp fun hc => ?_; try exact cx1 hc | refine all fun v_ => ?_)
     refine ⟨(i + 1, q), jC, jC, VS.take (by dsimp only; rw [hno]; exact AH) ?_⟩
     exact leD
   | false =>
     rw [hb] at hT
     have hyes := hyes hb
     repeat' (first | refine ca Aw (hT) ?_ | refine i7 (DP (f := Fo.cells) (u := ⟨fst, (i : Int)⟩)) ?_ | exact jA | refine AF ?_ | refine two ?_ ?_ | refine AB fun c_ => ?_ | refine imp fun hc => ?_; try exact cx1 hc | refine all fun v_ => ?_)
     refine ⟨(i + 1, v_), jC, jC, VS.take (by dsimp only; rw [hyes]; exact AH) ?_⟩
     exact leD
 obtain rfl : i = N := by omega
 repeat' (first | exact jA | refine AF ?_ | refine two ?_ ?_ | refine AB fun c_ => ?_ | refine imp fun hc => ?_; try exact cx1 hc | refine all fun v_ => ?_)
 refine AI (VS.take (hc := [AL q.v 106 2 Fo.cells (B i)]) AH (Env.le_refl _)) ?_
 ((with_reducible apply rq2); rfl; rfl; rfl)
 exact ⟨q, rfl, rfl⟩
end Go.Proofs.YtnlfhnbcdfdhgaaGreatDoor
namespace Go.Sp
open Go Go.Av
theorem Ll (m : Md) (vs : List Int) (l : List Ru) (i : Nat) (h : i < l.length) : B6 m vs (l.take (i + 1)) = B6 m vs (l.take i) ++ (match CA m l[i] vs with | none => [] | some out => [(codeF m out).1]) := by
 unfold B6
 rw [jZ h, List.filterMap_append, List.filterMap_cons, List.filterMap_nil]
 cases CA m l[i] vs <;> rfl
theorem Le {m : Md} {vs : List Int} {l : List Ru} {i : Nat} (h : i < l.length) (ho : CA m l[i] vs = none) : B6 m vs (l.take (i + 1)) = B6 m vs (l.take i) := by
 rw [Ll m vs l i h, ho, List.append_nil]
theorem Lg {m : Md} {vs : List Int} {l : List Ru} {i : Nat} {out : List Int} (h : i < l.length) (ho : CA m l[i] vs = some out) : B6 m vs (l.take (i + 1)) = B6 m vs (l.take i) ++ [(codeF m out).1] := by
 rw [Ll m vs l i h, ho]
theorem J9 (m : Md) (vs : List Int) (l : List Ru) : (B6 m vs l).length ≤ l.length := List.length_filterMap_le _ _
theorem To (l : List Int) (n : Nat) (hn : l.length ≤ n) : (Lib.compact l).length ≤ n := by
 unfold Lib.compact Lib.compactUpTo
 rw [List.length_map]
 exact Nat.le_trans (List.length_filter_le _ _) (by simpa using hn)
theorem W5 (k : Nat) (l : List Int) : HJ (k + 1) l = HJ k l ++ (if (k : Int) ∈ l then [(k : Int)] else []) := by
 unfold HJ
 rw [List.range_succ, List.filter_append, List.map_append]
 by_cases h : (k : Int) ∈ l <;> simp [h]
theorem Np (k : Nat) (l : List Int) : (HJ k l).length ≤ k := by
 unfold HJ
 rw [List.length_map]
 exact Nat.le_trans (List.length_filter_le _ _) (by simp)
theorem aK (n : Nat) : HJ n [] = [] := by
 unfold HJ; simp
def isR (n : Nat) (l : List Int) : List Bool := (List.range n).map fun c : Nat => decide ((c : Int) ∈ l)
theorem cc (n : Nat) : isR n [] = List.replicate n false := by
 unfold isR
 refine List.ext_getElem (by simp) fun i h1 h2 => ?_
 simp
theorem cT (n : Nat) (l : List Int) : (isR n l).length = n := by simp [isR]
theorem MI (n : Nat) (l : List Int) (i : Nat) (h : i < (isR n l).length) : (isR n l)[i] = decide ((i : Int) ∈ l) := by simp [isR]
theorem bz (n : Nat) (l : List Int) (c : Int) (h0 : 0 ≤ c) : (isR n l).set c.toNat true = isR n (l ++ [c]) := by
 refine List.ext_getElem (by simp [isR]) fun i h1 h2 => ?_
 rw [List.getElem_set, MI]
 by_cases h : c.toNat = i
 · rw [if_pos h]
   have : (i : Int) = c := by omega
   rw [MI]
   simp [this]
 · rw [if_neg h, MI]
   have : ¬ (i : Int) = c := by omega
   simp [this]
theorem HD {m : Md} {c : Int} (h : (BK m c).2 ≠ 0) : D3 m c = ([], (BK m c).2) := by unfold D3; rw [if_pos h]
theorem Ky {m : Md} {c : Int} (h : (BK m c).2 = 0) : D3 m c = (if B6 m (B2 m.vars c) m.rules = [] then [c] else HJ (AR m.vars).toNat (B6 m (B2 m.vars c) m.rules), 0) := by
 obtain ⟨_, _, _, e⟩ := Kh h
 unfold D3
 rw [if_neg (fun k => k h), e]
theorem J5 {m : Md} (h : AT m = 0) : m.rules.length ≤ 12 := by
 have hv := BM h
 unfold AT at h
 rw [if_neg (fun k => k hv)] at h
 by_cases c : 12 < m.rules.length
 · rw [if_pos c] at h; exact absurd h (by decide)
 · omega
theorem Ww {m : Md} {code : Int} {vs : List Int} (hv : BK m code = (vs, 0)) (i : Nat) (h : i < m.rules.length) : (CA m m.rules[i] vs = none → Gq m code i = (0, 11)) ∧ ∀ out, CA m m.rules[i] vs = some out → Gq m code i = codeF m out := by
 have e := Mq hv (Dj := i) jB (by simpa using h)
 simp only [Int.toNat_natCast] at e
 rw [e]
 exact ⟨fun ho => by rw [ho], fun out ho => by rw [ho]⟩
theorem Du {m : Md} (h : AT m = 0) : ∃ n : Nat, AR m.vars = n ∧ 1 ≤ n ∧ n ≤ 4096 := by
 have g := IW (BM h)
 have h1 := Ec fun v hv => (g.span v hv).1
 have h2 := g.all
 exact ⟨(AR m.vars).toNat, by omega, by omega, by omega⟩
theorem Ig {m : Md} (hm : AT m = 0) (c : Int) : ∀ x ∈ (D3 m c).1, 0 ≤ x ∧ x < AR m.vars := fun x hx => by
 by_cases h : (BK m c).2 ≠ 0
 · rw [HD h] at hx; cases hx
 · rw [Ky (jY h)] at hx
   obtain ⟨_, h0, h1, _⟩ := Kh (jY h)
   dsimp only at hx
   by_cases hc : B6 m (B2 m.vars c) m.rules = []
   · rw [if_pos hc] at hx; rw [List.mem_singleton.1 hx]; exact ⟨h0, h1⟩
   · rw [if_neg hc] at hx
     have := Nr hx
     obtain ⟨n, hn, _, _⟩ := Du hm
     rw [hn] at this ⊢
     rw [Int.toNat_natCast] at this
     exact ⟨this.1, this.2.1⟩
noncomputable def Uz (t : Tk) (st cl c : Int) (d : Int) : Bool := decide (kept t.formula (tAt t.formula (Cu t st) cl) (tAt t.formula (Cu t c) d))
theorem MU {t : Tk} (h : BE t = 0) {st cl c d : Int} (h0 : 0 ≤ cl) (h1 : cl < A3 t) (h2 : 0 ≤ d) (h3 : d < A3 t) : CU t.formula (Cu t st) cl (Cu t c) d = (Uz t st cl c d, 0) := by
 have e1 := HC h (Cu t st) (HX t st) h0 h1
 have e2 := HC h (Cu t c) (HX t c) h2 h3
 unfold CU
 rw [if_neg (by simp), e1, e2, if_neg (by simp), if_neg (by simp)]
 rfl
noncomputable def Im (t : Tk) (st cl c : Int) (k : Nat) : List Fo := ((List.range k).filter fun d : Nat => Uz t st cl c d).map fun d : Nat => ⟨c, d⟩
theorem Si {t : Tk} {st cl c : Int} {k : Nat} (h : Uz t st cl c k = true) : Im t st cl c (k + 1) = Im t st cl c k ++ [⟨c, k⟩] := by
 unfold Im
 rw [List.range_succ, List.filter_append, List.map_append]
 simp [h]
theorem Vh {t : Tk} {st cl c : Int} {k : Nat} (h : Uz t st cl c k = false) : Im t st cl c (k + 1) = Im t st cl c k := by
 unfold Im
 rw [List.range_succ, List.filter_append, List.map_append]
 simp [h]
theorem N0 (t : Tk) (st cl c : Int) (k : Nat) : (Im t st cl c k).length ≤ k := by
 unfold Im
 rw [List.length_map]
 exact Nat.le_trans (List.length_filter_le _ _) (by simp)
noncomputable def JW (t : Tk) (st cl : Int) (cs : List Int) : List Fo := cs.flatMap fun c => Im t st cl c (A3 t)
theorem O4 (t : Tk) (st cl : Int) (cs : List Int) (i : Nat) (h : i < cs.length) : JW t st cl (cs.take (i + 1)) = JW t st cl (cs.take i) ++ Im t st cl cs[i] (A3 t) := by
 unfold JW
 rw [jZ h, List.flatMap_append]
 simp
theorem I7 (t : Tk) (st cl : Int) : ∀ cs : List Int, (JW t st cl cs).length ≤ cs.length * 64
 | [] => by simp [JW]
 | c :: cs => by
   have ih := I7 t st cl cs
   have h1 := N0 t st cl c (A3 t)
   have h2 := (DA t).2
   have e : JW t st cl (c :: cs) = Im t st cl c (A3 t) ++ JW t st cl cs := by simp [JW]
   rw [e, List.length_append, List.length_cons]
   omega
noncomputable def Ai (t : Tk) (st cl : Int) : List Fo × Int :=
 if BE t ≠ 0 then ([], BE t)
 else if ¬ ((0 ≤ st ∧ st < AR t.model.vars) ∧ 0 ≤ cl ∧ cl < A3 t) then ([], 9)
 else (JW t st cl (D3 t.model st).1, 0)
theorem LL {m : Md} (hm : AT m = 0) (c : Int) : (D3 m c).1.length ≤ 4096 := by
 by_cases h : (BK m c).2 ≠ 0
 · rw [HD h]; exact Nat.zero_le _
 · rw [Ky (jY h)]
   obtain ⟨n, hn, n1, n2⟩ := Du hm
   dsimp only
   split
   · simp
   · rw [hn, Int.toNat_natCast]; exact Nat.le_trans (Np _ _) n2
end Go.Sp
namespace Go.Av
open Go
section
variable {k : Kx} {Q : Exit → Env → H → Prop} {ρ : Env} {h : H} {ops : Array Oper} {l : List Oper} {d : Nat} {ty : TypeId} {pos : String} {after : Array Edge}
theorem WA {α : Type} {f : α → List D} {xs : List α} {T T' E : TypeId} {x y : Operand} {sz eb : Nat} (hx : evO ρ x = some (.d (.l sz eb (xs.map f)))) (hy : evO ρ y = some (.val (.slice none 0 0))) (hT : k.P.underlying T = some (.slice E)) (hd : Nat.blt d k.n = true)
 (hj : Two (Imp (xs = []) (JL k ops l Q ((d, .bool true) :: ρ) h)) (JL k ops l Q ((d, .bool false) :: ρ) h)) : JL k ops (⟨some d, .binOp .eql T x y T', ty, pos, after, none⟩ :: l) Q ρ h := by
 refine Ef rfl (fun t ht => by cases ht; exact blt hd) fun I a w h1 h2 => ?_
 have ex : Rel w I (.l sz eb (xs.map f)) (a.eval x) := by have := h2.ev x; rw [AD hx] at this; exact this
 have ey : a.eval y = .slice none 0 0 := AQ (h2.ev y) (AD hy)
 have key : ∀ (ad : Option Addr) (n c : Nat), a.eval x = .slice ad n c → (execOp a.eval ⟨some d, .binOp .eql T x y T', ty, pos, after, none⟩).run k.P w = .ok (.value (.bool ad.isNone)) w := by
  intro ad n c e
  have r : (binOp .eql T (.slice ad n c) (.slice none 0 0)).run k.P w = .ok (.bool ad.isNone) w := by
   simp only [binOp]
   simp [run_equal_slice_nil w T E ad n c hT]
  simp [execOp, e, ey, eqGuard_at_slice, r]
 have go : ∀ b, (b = true → xs = []) → JL k ops l Q (put ρ (some d) (.bool b)) h := by
  intro b hb
  cases b with
  | true => exact hj.1.get (hb rfl)
  | false => exact hj.2
 generalize hR : xs.map f = R at ex
 generalize hv : a.eval x = v at ex key
 cases ex with
 | nil => exact ⟨_, w, I, .bool true, h, key _ _ _ rfl, h1, h2, rfl, go true fun _ => List.map_eq_nil_iff.1 hR⟩
 | emp => exact ⟨_, w, I, .bool false, h, key _ _ _ rfl, h1, h2, rfl, go false fun h => (by cases h)⟩
 | l => exact ⟨_, w, I, .bool false, h, key _ _ _ rfl, h1, h2, rfl, go false fun h => (by cases h)⟩
end
open Go Go.Instr
structure XV (P : Program) (KT : TypeId) {α : Type} (kv : α → Value) [DecidableEq α] : Prop where
 find : ∀ {β : Type} (vv : β → Value) (ps : List (α × β)) (a : α) (w : World), ∃ r : Option (Nat × Value), (findKey KT (kv a) (Bx (Am kv vv ps) 0)).run P w = .ok r w ∧ r.map (·.2) = (getM ps a).map vv
 easy : ∀ (e : Bool) (a : α) (w : World), (checkKey e 10000 KT (kv a)).run P w = .ok () w
section
variable {α β : Type} [DecidableEq α] {kv : α → Value}
theorem ND {P : Program} {KT : TypeId} (he : ∀ a b w, (Op.equal KT (kv a) (kv b)).run P w = .ok (decide (a = b)) w) (vv : β → Value) (a : α) : ∀ (ps : List (α × β)) (i j : Nat) (w : World),
 ∃ r : Option (Nat × Value), (findAsking KT (kv a) (Bx (Am kv vv ps) i) j).run P w = .ok r w ∧ r.map (·.2) = (getM ps a).map vv
 | [], i, j, w => ⟨none, rfl, rfl⟩
 | (b, c) :: ps, i, j, w => by
   by_cases h : a = b
   · subst h
     refine ⟨some (j, vv c), ?_, by simp [getM]⟩
     simp [Am, Bx, findAsking, he]
   · obtain ⟨r, h1, h2⟩ := ND he vv a ps (i + 1) (j + 1) w
     have hb : ¬ b = a := fun k => h k.symm
     refine ⟨r, ?_, by rw [h2]; simp [getM, hb]⟩
     have e : Bx (Am kv vv ((b, c) :: ps)) i = ⟨kv b, vv c, i⟩ :: Bx (Am kv vv ps) (i + 1) := rfl
     rw [e, findAsking]
     simp [he, h, h1]
theorem Tl {P : Program} {KT : TypeId} {fs : Array Field} (hK : P.underlying KT = some (.struct fs)) (he : ∀ a b w, (Op.equal KT (kv a) (kv b)).run P w = .ok (decide (a = b)) w)
 (hc : ∀ e a w, (checkKey e 10000 KT (kv a)).run P w = .ok () w) : XV P KT kv where
 easy := hc
 find vv ps a w := by
  cases ps with
  | nil => exact ⟨none, by simp [findKey, run_underlying hK, Am, Bx, findNow], rfl⟩
  | cons p ps =>
    obtain ⟨r, h1, h2⟩ := ND he vv a (p :: ps) 0 0 w
    refine ⟨r, ?_, h2⟩
    have e : findNow (.struct fs) (kv a) (Bx (Am kv vv (p :: ps)) 0) 0 = none := by
     have e1 : Bx (Am kv vv (p :: ps)) 0 = ⟨kv p.1, vv p.2, 0⟩ :: Bx (Am kv vv ps) 1 := rfl
     rw [e1, findNow]
     have e2 : sameNow (.struct fs) (kv a) (kv p.1) = none := by unfold sameNow; split <;> simp_all
     simp only [e2]
    simp [findKey, run_underlying hK, e, h1]
end
section
variable {k : Kx} {Q : Exit → Env → H → Prop} {ρ : Env} {h h' : H} {ops : Array Oper} {l : List Oper} {ty : TypeId} {pos : String} {after : Array Edge}
theorem dO {α β : Type} [DecidableEq α] {kv : α → Value} {vv : β → Value} {T KT ET : TypeId} (K : XV k.P KT kv) {x y u : Operand} {r s : AV} {b : Nat} {ps : List (α × β)} {a : α} {c : β}
 (hx : evO ρ x = some (.val (.map (some b)))) (hy : evO ρ y = some s) (hs : ∀ w I v, AV.rel w I s v → v = kv a) (hv : evO ρ u = some r) (hr : ∀ w I v, AV.rel w I r v → v = vv c) (hT : k.P.underlying T = some (.map KT ET))
 (hu : Upd (.raw b (BT (Am kv vv ps))) (.raw b (BT (Am kv vv (ps ++ [(a, c)])))) h h') (hno : getM ps a = none)
 (hj : JL k ops l Q ρ h') : JL k ops (⟨none, .mapUpdate T x y u, ty, pos, after, none⟩ :: l) Q ρ h := by
 obtain ⟨h1, h2, rfl, rfl⟩ := hu.split
 refine GN rfl rfl fun I ac w k1 k2 => ?_
 have e1 := AQ (k2.ev x) (AD hx)
 have e2 := hs _ _ _ (BI (k2.ev y) (AD hy))
 have e3 := hr _ _ _ (BI (k2.ev u) (AD hv))
 have hb : w.heap[b]? = some (BT (Am kv vv ps)) := k1.ent (.raw b (BT (Am kv vv ps))) (by simp)
 obtain ⟨q, hfind, hq⟩ := K.find vv ps a w
 obtain rfl : q = none := by
  rw [hno] at hq
  cases q with
  | none => rfl
  | some _ => cases hq
 have hnew : Obj.map (Bx (Am kv vv ps) 0 ++ [(⟨kv a, vv c, (Am kv vv ps).length⟩ : MapEntry)]).toArray ((Am kv vv ps).length + 1) = BT (Am kv vv (ps ++ [(a, c)])) := by
  have e : Am kv vv (ps ++ [(a, c)]) = Am kv vv ps ++ [(kv a, vv c)] := by simp [Am]
  unfold BT
  rw [e, FK]
  simp [Bx]
 obtain ⟨g1, g2⟩ := k1.write (w' := { w with heap := w.heap.setIfInBounds b (BT (Am kv vv (ps ++ [(a, c)]))) }) (e' := .raw b (BT (Am kv vv (ps ++ [(a, c)])))) (b := b) rfl rfl rfl rfl rfl (by simp)
  (fun x hx => by simp [Array.getElem?_setIfInBounds, Ne.symm hx]) (by
   have hlt := (Array.getElem?_eq_some_iff.1 hb).1
   show _ = _
   simp [Array.getElem?_setIfInBounds, hlt])
 refine ⟨{ w with heap := w.heap.setIfInBounds b (BT (Am kv vv (ps ++ [(a, c)]))) }, I, h1 ++ .raw b (BT (Am kv vv (ps ++ [(a, c)]))) :: h2, ?_, g1, k2.mono g2 (fun _ h => h), hj⟩
 have hobj : (getObj b).run k.P w = .ok (.map (Bx (Am kv vv ps) 0).toArray (Am kv vv ps).length) w := by simp [getObj, Sem.run, hb, BT]
 have hset := MO (P := k.P) (w := w) (r := b) (BT (Am kv vv (ps ++ [(a, c)]))) (es := (Bx (Am kv vv ps) 0).toArray) (clock := (Am kv vv ps).length) hb
 simp only [execOp, e1, e2, e3, mapUpdate]
 simp [run_underlying hT, hobj, K.easy false a w, hfind, hnew, hset]
end
section
variable {P : Program} {G : List (Nat × List D)} {ρ : Env} {h : H} {dst : Option Tmp} {ty : TypeId} {pos : String} {after : Array Edge} {g : Option (Nat × Bool)}
theorem R0 {α β : Type} [DecidableEq α] {kv : α → Value} {vv : β → Value} {T KT ET : TypeId} (K : XV P KT kv) {x y : Operand} {s : AV} {b : Nat} {ps : List (α × β)} {a : α} {z : Value} {sz eb : Nat}
 (hx : evO ρ x = some (.val (.map (some b)))) (hy : evO ρ y = some s) (hs : ∀ w I v, AV.rel w I s v → v = kv a) (hT : P.underlying T = some (.map KT ET)) (hE : El P ET z sz eb) (hm : Ent.raw b (BT (Am kv vv ps)) ∈ h) :
 Pure P G ⟨dst, .lookup T x y true, ty, pos, after, g⟩ ρ h (.tup [.val (((getM ps a).map vv).getD z), .bool (getM ps a).isSome]) := by
 intro c I n ac w _ hok hs'
 obtain ⟨i, hi, hz, _, _⟩ := hE.get
 have e1 := AQ (hs'.ev x) (AD hx)
 have e2 := hs _ _ _ (BI (hs'.ev y) (AD hy))
 have hb : w.heap[b]? = some (BT (Am kv vv ps)) := hok.ent _ hm
 refine ⟨.tuple #[((getM ps a).map vv).getD z, .bool (getM ps a).isSome], ⟨[_, _], rfl, rfl, rfl, trivial⟩, fun w' hw' => ?_⟩
 have hb' : w'.heap[b]? = some (BT (Am kv vv ps)) := (hw'.own b (EG hm rfl)).trans hb
 have hobj : (getObj b).run P w' = .ok (.map (Bx (Am kv vv ps) 0).toArray (Am kv vv ps).length) w' := by simp [getObj, Sem.run, hb', BT]
 obtain ⟨r, hr1, hr2⟩ := K.find vv ps a w'
 simp only [execOp, e1, e2, lookup]
 cases r with
 | none =>
   have hr3 : (getM ps a).map vv = none := hr2.symm
   have hr4 : getM ps a = none := by simpa using hr3
   simp [run_underlying hT, hobj, K.easy _ a w', hr1, hr4, zeroValue, typeInfo, hi, hz]
 | some r =>
   obtain ⟨j, v⟩ := r
   have hr3 : (getM ps a).map vv = some v := hr2.symm
   obtain ⟨bb, hb1, hb2⟩ := Option.map_eq_some_iff.1 hr3
   simp [run_underlying hT, hobj, K.easy _ a w', hr1, hb1, hb2]
theorem DE {α : Type} {f : α → List D} {xs : List α} {T E : TypeId} {x : Operand} {q : Sl} {j sz eb : Nat} {z : Value} (hT : BR P T = some true) (hE : El P T z sz eb) (hx : evO ρ x = some (.val (.pointer (some (q.at (j * sz)))))) (hm : AL q.v E sz f xs ∈ h) (hsz : ∀ a, (f a).length = sz) (hj : j < xs.length) :
 Pure P G ⟨dst, .load T x, ty, pos, after, g⟩ ρ h (.agg ((f xs[j]).map D.av)) := by
 intro cx I m a w _ hok hs
 obtain ⟨i, hi, _, rfl, _⟩ := hE.get
 obtain ⟨gb, cap, cur, rfl, hg, hnc, hcm, hcs, hrel⟩ := Ent.row_form (hok.ent _ hm) jB
 have e1 : a.eval x = .pointer (some ⟨gb, j * i.size, none⟩) := AQ (hs.ev x) (AD hx)
 have hle : (j + 1) * i.size ≤ xs.length * i.size := Nat.mul_le_mul_right _ hj
 rw [Nat.add_mul, Nat.one_mul] at hle
 have hcl : xs.length * i.size ≤ cur.toList.length := by
  have e : cur.toList.length = cap * i.size := hcs
  rw [e]; exact Nat.mul_le_mul_right _ hnc
 have hfl : ∀ l : List α, ((l.map f).flatten).length = l.length * i.size := fun l => by
  rw [B8 _ fun r hr => by obtain ⟨b, _, rfl⟩ := List.mem_map.1 hr; exact hsz b, List.length_map]
 have hsplit : (xs.map f).flatten = ((xs.take j).map f).flatten ++ (f xs[j] ++ ((xs.drop (j + 1)).map f).flatten) := by
  have e : xs = xs.take j ++ xs[j] :: xs.drop (j + 1) := by rw [← ja hj, List.take_append_drop]
  have e2 : ((xs.take j ++ xs[j] :: xs.drop (j + 1)).map f).flatten = (xs.map f).flatten := by rw [← e]
  rw [List.map_append, List.map_cons, List.flatten_append, List.flatten_cons] at e2
  exact e2.symm
 have htl : ((xs.take j).map f).flatten.length = j * i.size := by rw [hfl, List.length_take, Nat.min_eq_left jB]
 have hl1 : ((((xs.map f).flatten.map D.av).drop (j * i.size)).take i.size) = (f xs[j]).map D.av := by
  rw [hsplit, List.map_append, List.map_append, List.drop_left' (by rw [List.length_map, htl]), List.take_left' (by rw [List.length_map, hsz])]
 have hr1 : ((cur.toList.take (xs.length * i.size)).drop (j * i.size)).take i.size = (cur.toList.drop (j * i.size)).take i.size := by
  rw [List.drop_take, List.take_take, Nat.min_eq_left jB]
 have hrels := D4 i.size (HZ (j * i.size) hrel)
 rw [hl1, hr1] at hrels
 refine ⟨.agg ((cur.toList.drop (j * i.size)).take i.size).toArray, ⟨_, rfl, hrels⟩, fun w' hw' => ?_⟩
 have hheap : w'.heap[gb]? = some (.cells cur E (0, 0)) := (hw'.own gb (EG hm rfl)).trans hg
 have hload := run_loadCells_list (P := P) w' ⟨gb, j * i.size, none⟩ ((cur.toList.drop (j * i.size)).take i.size) fun u v hv => by
  rw [Addr.add_lit, cell_of_row w' gb (j * i.size + u) cur E (0, 0) hheap]
  rw [List.getElem?_take] at hv
  split at hv
  · rw [List.getElem?_drop] at hv; simpa using hv
  · cases hv
 have hln : ((cur.toList.drop (j * i.size)).take i.size).length = i.size := by
  rw [List.length_take, List.length_drop]; omega
 rw [hln] at hload
 simp [execOp, e1, Instr.loadAt, Instr.sureAddr, loadVar, Da hT, sizeOf, typeInfo, hi, hload]
end
end Go.Av
namespace Go.Sp
open Go Go.Av
instance : DecidableEq Fo := fun a b => decidable_of_iff (a.kind = b.kind ∧ a.val = b.val) ⟨fun h => Fo.ext' h.1 h.2, fun h => by subst h; exact ⟨rfl, rfl⟩⟩
def plc (b : Fo) : List Fo → Nat
 | [] => 0
 | a :: l => if a = b then 0 else plc b l + 1
theorem bV (b : Fo) : ∀ l : List Fo, plc b l ≤ l.length
 | [] => Nat.le_refl _
 | a :: l => by
   have := bV b l
   rw [plc]; split
   · exact Nat.zero_le _
   · simp; omega
theorem Uv {b : Fo} : ∀ {l : List Fo}, b ∈ l ↔ plc b l < l.length
 | [] => by simp [plc]
 | a :: l => by
   rw [List.mem_cons, plc]
   by_cases h : a = b
   · rw [if_pos h]; simp [h]
   · rw [if_neg h, List.length_cons, Uv (l := l)]
     exact ⟨fun k => k.elim (fun e => absurd e.symm h) (fun k => by omega), fun k => .inr jB⟩
theorem MC {b : Fo} {l : List Fo} (h : b ∉ l) : plc b l = l.length := by
 have h1 := bV b l
 have h2 : ¬ plc b l < l.length := fun k => h (Uv.2 k)
 omega
def ER (sp : List Fo) (b : Fo) : List Fo := if b ∈ sp then sp else sp ++ [b]
theorem Qn {sp : List Fo} {b : Fo} (h : b ∈ sp) : ER sp b = sp := if_pos h
theorem MV {sp : List Fo} {b : Fo} (h : b ∉ sp) : ER sp b = sp ++ [b] := if_neg h
theorem TW (sp : List Fo) (b : Fo) : sp.length ≤ (ER sp b).length := by
 unfold ER; split
 · exact Nat.le_refl _
 · simp
def BQ : List Fo → List Fo → List Fo × List Int
 | sp, [] => (sp, [])
 | sp, b :: bs => ((BQ (ER sp b) bs).1, (plc b sp : Int) :: (BQ (ER sp b) bs).2)
theorem Po : ∀ (bs sp : List Fo), (BQ sp bs).1.length ≤ sp.length + bs.length
 | [], sp => by simp [BQ]
 | b :: bs, sp => by
   have h1 := Po bs (ER sp b)
   have h2 : (ER sp b).length ≤ sp.length + 1 := by unfold ER; split <;> simp
   rw [BQ, List.length_cons]; dsimp only; omega
theorem Ez : ∀ (bs sp : List Fo), (BQ sp bs).2.length = bs.length
 | [], sp => rfl
 | b :: bs, sp => by rw [BQ]; simp [Ez bs]
structure Exp where
 spots : List Fo
 next : List (List Int)
 sets : List Int
noncomputable def IQ (t : Tk) : Nat → Nat → List Fo → List (List Int) → List Int → Option Exp
 | 0, _, _, _, _ => none
 | f + 1, i, sp, nx, st =>
   match sp[i]? with
   | none => some ⟨sp, nx, st⟩
   | some s =>
     if 20000 < (BQ sp (Ai t s.kind s.val).1).1.length then none
     else IQ t f (i + 1) (BQ sp (Ai t s.kind s.val).1).1 (nx ++ [(BQ sp (Ai t s.kind s.val).1).2]) (st ++ [(Ca t.formula (Gm t.model t.props s.kind).1 s.val).1])
theorem SM (t : Tk) (f i : Nat) (sp : List Fo) (nx : List (List Int)) (st : List Int) (h : sp.length ≤ i) : IQ t (f + 1) i sp nx st = some ⟨sp, nx, st⟩ := by
 rw [IQ, List.getElem?_eq_none h]
theorem Pd (t : Tk) (f i : Nat) (sp : List Fo) (nx : List (List Int)) (st : List Int) (h : i < sp.length) (hl : 20000 < (BQ sp (Ai t sp[i].kind sp[i].val).1).1.length) : IQ t (f + 1) i sp nx st = none := by
 rw [IQ, List.getElem?_eq_getElem h]; exact if_pos hl
theorem Vm (t : Tk) (f i : Nat) (sp : List Fo) (nx : List (List Int)) (st : List Int) (h : i < sp.length) (hl : ¬ 20000 < (BQ sp (Ai t sp[i].kind sp[i].val).1).1.length) : IQ t (f + 1) i sp nx st = IQ t f (i + 1) (BQ sp (Ai t sp[i].kind sp[i].val).1).1 (nx ++ [(BQ sp (Ai t sp[i].kind sp[i].val).1).2]) (st ++ [(Ca t.formula (Gm t.model t.props sp[i].kind).1 sp[i].val).1]) := by
 rw [IQ, List.getElem?_eq_getElem h]; exact if_neg hl
noncomputable def An (t : Tk) : Option Exp × Int :=
 if BE t ≠ 0 then (none, BE t)
 else match IQ t 20002 0 (BB t).1 [] [] with
  | none => (none, 12)
  | some e => (some e, 0)
theorem RN (t : Tk) (n : Nat) : (DL t n).Nodup := by
 unfold DL
 refine List.Pairwise.map _ (fun a b h e => h ?_) ((List.nodup_range (n := n)).filter _)
 have := congrArg Fo.val e
 exact Int.ofNat.inj this
def spV (s : Fo) : Value := .agg #[.int .i64 s.kind, .int .i64 s.val]
def Gx (n : Nat) : Value := .int .i64 n
def IM (sp : List Fo) : List (Fo × Nat) := sp.zipIdx
theorem XA (sp : List Fo) (b : Fo) : IM (sp ++ [b]) = IM sp ++ [(b, sp.length)] := by
 unfold IM; rw [List.zipIdx_append]; simp
theorem LN (b : Fo) : ∀ (sp : List Fo) (i : Nat), getM (sp.zipIdx i) b = if b ∈ sp then some (plc b sp + i) else none
 | [], i => by simp [getM]
 | a :: sp, i => by
   have ih := LN b sp (i + 1)
   rw [List.zipIdx_cons]
   by_cases h : a = b
   · subst h
     simp [getM, plc]
   · have hb : ¬ b = a := fun e => h e.symm
     have e : getM ((a, i) :: sp.zipIdx (i + 1)) b = getM (sp.zipIdx (i + 1)) b := by simp [getM, h]
     rw [e, ih, plc, if_neg h]
     by_cases hm : b ∈ sp
     · rw [if_pos hm, if_pos (List.mem_cons_of_mem _ hm)]; congr 1; omega
     · rw [if_neg hm, if_neg (fun k => by rcases List.mem_cons.1 k with k | k; exact hb k; exact hm k)]
theorem dQ {b : Fo} {sp : List Fo} (h : b ∈ sp) : getM (IM sp) b = some (plc b sp) := by
 have := LN b sp 0
 rw [if_pos h] at this; exact this
theorem SN {b : Fo} {sp : List Fo} (h : b ∉ sp) : getM (IM sp) b = none := by
 have := LN b sp 0
 rw [if_neg h] at this; exact this
theorem Zc {sp : List Fo} {b c : Fo} : c ∈ ER sp b ↔ c ∈ sp ∨ c = b := by
 unfold ER
 by_cases h : b ∈ sp
 · rw [if_pos h]; exact ⟨.inl, fun k => k.elim id fun e => e ▸ h⟩
 · rw [if_neg h]; simp
theorem YU (sp : List Fo) (b : Fo) : ∃ r, ER sp b = sp ++ r := by
 unfold ER
 split
 · exact ⟨[], by simp⟩
 · exact ⟨[b], rfl⟩
theorem Kw : ∀ (bs sp : List Fo), ∃ r, (BQ sp bs).1 = sp ++ r
 | [], sp => ⟨[], by simp [BQ]⟩
 | b :: bs, sp => by
   obtain ⟨r, h⟩ := YU sp b
   obtain ⟨r', h'⟩ := Kw bs (ER sp b)
   exact ⟨r ++ r', by rw [BQ]; dsimp only; rw [h', h, List.append_assoc]⟩
theorem KL : ∀ (bs sp : List Fo) (c : Fo), c ∈ (BQ sp bs).1 ↔ c ∈ sp ∨ c ∈ bs
 | [], sp, c => by simp [BQ]
 | b :: bs, sp, c => by
   rw [BQ]; dsimp only
   rw [KL bs, Zc, List.mem_cons, or_assoc]
theorem Tx {sp : List Fo} (h : sp.Nodup) (b : Fo) : (ER sp b).Nodup := by
 unfold ER
 by_cases hb : b ∈ sp
 · rw [if_pos hb]; exact h
 · rw [if_neg hb, List.nodup_append]
   exact ⟨h, by simp, fun x hx y hy e => by rw [List.mem_singleton.1 hy] at e; exact hb (e ▸ hx)⟩
theorem N4 : ∀ (bs : List Fo) {sp : List Fo}, sp.Nodup → (BQ sp bs).1.Nodup
 | [], _, h => h
 | b :: bs, _, h => N4 bs (Tx h b)
theorem Vk {b : Fo} : ∀ {l : List Fo}, b ∈ l → l[plc b l]? = some b
 | [], h => by cases h
 | a :: l, h => by
   rw [plc]
   by_cases e : a = b
   · rw [if_pos e, e]; rfl
   · rw [if_neg e, List.getElem?_cons_succ]
     exact Vk ((List.mem_cons.1 h).resolve_left fun k => e k.symm)
theorem bU (sp : List Fo) (b : Fo) : (ER sp b)[plc b sp]? = some b := by
 unfold ER
 by_cases h : b ∈ sp
 · rw [if_pos h]; exact Vk h
 · rw [if_neg h, MC h]; simp
theorem VR {α : Type} {a b r : List α} (h : b = a ++ r) {i : Nat} {x : α} (hx : a[i]? = some x) : b[i]? = some x := by
 rw [h, List.getElem?_append_left (List.getElem?_eq_some_iff.1 hx).1]; exact hx
theorem RX : ∀ (bs sp : List Fo) (k : Nat) (b : Fo), bs[k]? = some b → ∃ p : Nat, (BQ sp bs).2[k]? = some (p : Int) ∧ (BQ sp bs).1[p]? = some b
 | [], _, k, b, h => by simp at h
 | c :: bs, sp, 0, b, h => by
   simp at h; subst h
   refine ⟨plc c sp, by simp [BQ], ?_⟩
   obtain ⟨r, hr⟩ := Kw bs (ER sp c)
   exact VR hr (bU sp c)
 | c :: bs, sp, k + 1, b, h => by
   obtain ⟨p, h1, h2⟩ := RX bs (ER sp c) k b (by simpa using h)
   exact ⟨p, by rw [BQ]; simpa using h1, h2⟩
noncomputable def spF (t : Tk) : Nat → List Fo
 | 0 => (BB t).1
 | i + 1 => match (spF t i)[i]? with
   | none => spF t i
   | some s => (BQ (spF t i) (Ai t s.kind s.val).1).1
noncomputable def plF (t : Tk) (i : Nat) : List Int := match (spF t i)[i]? with
 | none => []
 | some s => (BQ (spF t i) (Ai t s.kind s.val).1).2
noncomputable def seF (t : Tk) (i : Nat) : Int := match (spF t i)[i]? with
 | none => 0
 | some s => (Ca t.formula (Gm t.model t.props s.kind).1 s.val).1
theorem MD (t : Tk) (i : Nat) : ∀ d, ∃ r, spF t (i + d) = spF t i ++ r
 | 0 => ⟨[], by simp⟩
 | d + 1 => by
   obtain ⟨r, h⟩ := MD t i d
   rw [← Nat.add_assoc, spF]
   split
   · exact ⟨r, h⟩
   · obtain ⟨r', h'⟩ := Kw _ (spF t (i + d))
     exact ⟨r ++ r', by rw [h', h, List.append_assoc]⟩
theorem LM (t : Tk) {i j : Nat} (h : i ≤ j) : (spF t i).length ≤ (spF t j).length := by
 obtain ⟨r, hr⟩ := MD t i (j - i)
 rw [show i + (j - i) = j by omega] at hr
 rw [hr, List.length_append]; omega
theorem QQ (t : Tk) {i j k : Nat} (h : i ≤ j) {s : Fo} (hs : (spF t i)[k]? = some s) : (spF t j)[k]? = some s := by
 obtain ⟨r, hr⟩ := MD t i (j - i)
 rw [show i + (j - i) = j by omega] at hr
 exact VR hr hs
theorem Fc (t : Tk) : ∀ i, (spF t i).Nodup
 | 0 => by
   unfold spF BB
   split
   · exact List.nodup_nil
   · exact RN _ _
 | i + 1 => by
   rw [spF]
   split
   · exact Fc t i
   · exact N4 _ (Fc t i)
theorem MS (t : Tk) : ∀ (f i : Nat) (nx : List (List Int)) (st : List Int) (e : Exp), IQ t f i (spF t i) nx st = some e →
 ∃ d, e = ⟨spF t (i + d), nx ++ (List.range d).map (fun j => plF t (i + j)), st ++ (List.range d).map (fun j => seF t (i + j))⟩ ∧ (spF t (i + d)).length ≤ i + d ∧ ∀ j, j < d → i + j < (spF t (i + j)).length ∧ (spF t (i + j + 1)).length ≤ 20000
 | 0, i, nx, st, e, h => by rw [IQ] at h; cases h
 | f + 1, i, nx, st, e, h => by
   by_cases hi : i < (spF t i).length
   · by_cases hl : 20000 < (BQ (spF t i) (Ai t (spF t i)[i].kind (spF t i)[i].val).1).1.length
     · rw [Pd t f i _ nx st hi hl] at h; cases h
     · rw [Vm t f i _ nx st hi hl] at h
       have hg : (spF t i)[i]? = some (spF t i)[i] := List.getElem?_eq_getElem hi
       have e1 : spF t (i + 1) = (BQ (spF t i) (Ai t (spF t i)[i].kind (spF t i)[i].val).1).1 := by rw [spF, hg]
       have e2 : plF t i = (BQ (spF t i) (Ai t (spF t i)[i].kind (spF t i)[i].val).1).2 := by rw [plF, hg]
       have e3 : seF t i = (Ca t.formula (Gm t.model t.props (spF t i)[i].kind).1 (spF t i)[i].val).1 := by rw [seF, hg]
       rw [← e1, ← e2, ← e3] at h
       rw [← e1] at hl
       obtain ⟨d, h1, h2, h3⟩ := MS t f (i + 1) _ _ e h
       refine ⟨d + 1, ?_, by rw [show i + (d + 1) = i + 1 + d by omega]; exact h2, fun j hj => ?_⟩
       · rw [h1, show i + (d + 1) = i + 1 + d by omega]
         congr 1
         · rw [List.append_assoc]
           congr 1
           rw [List.range_succ_eq_map, List.map_cons, List.map_map]
           simp only [List.singleton_append, Nat.add_zero, List.cons.injEq, true_and]
           exact List.map_congr_left fun j _ => by show _ = plF t (i + (j + 1)); rw [show i + (j + 1) = i + 1 + j by omega]
         · rw [List.append_assoc]
           congr 1
           rw [List.range_succ_eq_map, List.map_cons, List.map_map]
           simp only [List.singleton_append, Nat.add_zero, List.cons.injEq, true_and]
           exact List.map_congr_left fun j _ => by show _ = seF t (i + (j + 1)); rw [show i + (j + 1) = i + 1 + j by omega]
       · cases j with
         | zero => exact ⟨hi, by show (spF t (i + 1)).length ≤ _; omega⟩
         | succ j =>
           have := h3 j jB
           rw [show i + (j + 1) = i + 1 + j by omega]
           exact this
   · rw [SM t f i _ nx st jB] at h
     cases h
     exact ⟨0, by simp, by simpa using hi, fun j hj => absurd hj (Nat.not_lt_zero j)⟩
structure Grown (t : Tk) (e : Exp) : Prop where
 task : BE t = 0
 spots : e.spots = spF t e.spots.length
 next : e.next = (List.range e.spots.length).map (plF t)
 sets : e.sets = (List.range e.spots.length).map (seF t)
 few : e.spots.length ≤ 20000
 room : ∀ j, j < e.spots.length → j < (spF t j).length
theorem RO {t : Tk} {e : Exp} (h : An t = (some e, 0)) : Grown t e := by
 unfold An at h
 by_cases ht : BE t ≠ 0
 · rw [if_pos ht] at h; simp at h
 rw [if_neg ht] at h
 cases hx : IQ t 20002 0 (BB t).1 [] [] with
 | none => rw [hx] at h; simp at h
 | some e' =>
   rw [hx] at h
   simp only [Prod.mk.injEq, Option.some.injEq, and_true] at h
   subst h
   obtain ⟨d, h1, h2, h3⟩ := MS t 20002 0 [] [] e' hx
   simp only [Nat.zero_add, List.nil_append] at h1 h2 h3
   have hd : (spF t d).length = d := by
    cases d with
    | zero => omega
    | succ d =>
      have h4 := (h3 d jB).1
      have h5 := LM t (i := d) (j := d + 1) jB
      omega
   have hs : e'.spots = spF t d := by rw [h1]
   have hl : e'.spots.length = d := by rw [hs, hd]
   refine ⟨jY ht, by rw [hl]; exact hs, by rw [hl, h1], by rw [hl, h1], ?_, fun j hj => (h3 j jB).1⟩
   rw [hl]
   cases d with
   | zero => omega
   | succ d => have := (h3 d jB).2; omega
section
variable {t : Tk} {e : Exp}
theorem Grown.at (g : Grown t e) {j : Nat} (h : j < e.spots.length) : (spF t j)[j]? = some e.spots[j] := by
 have h1 := g.room j h
 have h2 := QQ t (Nat.le_of_lt h) (List.getElem?_eq_getElem h1)
 rw [← g.spots, List.getElem?_eq_getElem h] at h2
 rw [h2, List.getElem?_eq_getElem h1]
theorem Grown.step (g : Grown t e) {j : Nat} (h : j < e.spots.length) : spF t (j + 1) = (BQ (spF t j) (Ai t e.spots[j].kind e.spots[j].val).1).1 ∧ plF t j = (BQ (spF t j) (Ai t e.spots[j].kind e.spots[j].val).1).2 := by
 rw [spF, plF, g.at h]; exact ⟨rfl, rfl⟩
theorem Grown.get (g : Grown t e) {p : Nat} {b : Fo} (h : (spF t e.spots.length)[p]? = some b) : e.spots[p]? = some b := by
 have hs := g.spots
 generalize e.spots.length = n at hs h
 rw [hs]; exact h
theorem Grown.leads (g : Grown t e) {j : Nat} (h : j < e.spots.length) {y : Int} (hy : y ∈ plF t j) : ∃ p : Nat, y = p ∧ ∃ b, e.spots[p]? = some b ∧ b ∈ (Ai t e.spots[j].kind e.spots[j].val).1 := by
 rw [(g.step h).2] at hy
 obtain ⟨k, hk, rfl⟩ := List.getElem_of_mem hy
 have hl := Ez (Ai t e.spots[j].kind e.spots[j].val).1 (spF t j)
 have hk' : k < (Ai t e.spots[j].kind e.spots[j].val).1.length := by omega
 obtain ⟨p, h1, h2⟩ := RX (Ai t e.spots[j].kind e.spots[j].val).1 (spF t j) k _ (List.getElem?_eq_getElem hk')
 rw [List.getElem?_eq_getElem hk] at h1
 refine ⟨p, Option.some.inj h1, _, ?_, jb hk'⟩
 rw [← (g.step h).1] at h2
 exact g.get (QQ t jB h2)
theorem Grown.init (g : Grown t e) : (BB t).1.length ≤ e.spots.length := by
 rw [g.spots]; exact LM t (i := 0) (Nat.zero_le _)
end
abbrev YD (t : Tk) (b : Fo) : Prop := (0 ≤ b.kind ∧ b.kind < AR t.model.vars) ∧ 0 ≤ b.val ∧ b.val < A3 t
theorem Xb {t : Tk} (h : BE t = 0) (b : Fo) : b ∈ (BB t).1 ↔ b.kind = Bh t.model ∧ ∃ c : Nat, b.val = c ∧ c < A3 t ∧ tAt t.formula (Cu t (Bh t.model)) c 0 = false := by
 unfold BB
 rw [if_neg (fun k => k h)]
 unfold DL
 rw [List.mem_map]
 constructor
 · rintro ⟨c, hc, rfl⟩
   rw [List.mem_filter, List.mem_range] at hc
   exact ⟨rfl, c, rfl, hc.1, by simpa using hc.2⟩
 · rintro ⟨h1, c, h2, h3, h4⟩
   refine ⟨c, by rw [List.mem_filter, List.mem_range]; exact ⟨h3, by simpa using h4⟩, ?_⟩
   exact Fo.ext' h1.symm h2.symm
theorem UO {t : Tk} (h : BE t = 0) {s : Fo} (hs : YD t s) (b : Fo) : b ∈ (Ai t s.kind s.val).1 ↔ b.kind ∈ (D3 t.model s.kind).1 ∧ ∃ c : Nat, b.val = c ∧ c < A3 t ∧ Uz t s.kind s.val b.kind c = true := by
 unfold Ai
 rw [if_neg (fun k => k h), if_neg (fun k => k hs)]
 unfold JW
 rw [List.mem_flatMap]
 constructor
 · rintro ⟨x, hx, hb⟩
   unfold Im at hb
   obtain ⟨c, hc, rfl⟩ := List.mem_map.1 hb
   rw [List.mem_filter, List.mem_range] at hc
   exact ⟨hx, c, rfl, hc.1, hc.2⟩
 · rintro ⟨h1, c, h2, h3, h4⟩
   refine ⟨b.kind, h1, ?_⟩
   unfold Im
   rw [List.mem_map]
   exact ⟨c, by rw [List.mem_filter, List.mem_range]; exact ⟨h3, h4⟩, Fo.ext' rfl h2.symm⟩
theorem WZ {t : Tk} (h : BE t = 0) {b : Fo} (hb : b ∈ (BB t).1) : YD t b := by
 obtain ⟨h1, c, h2, h3, _⟩ := (Xb h b).1 hb
 have hf := Ki (Cg h).2.2
 exact ⟨h1 ▸ hf.2, by omega, by omega⟩
theorem UA {t : Tk} (h : BE t = 0) {s b : Fo} (hb : b ∈ (Ai t s.kind s.val).1) : YD t b := by
 by_cases hs : YD t s
 · obtain ⟨h1, c, h2, h3, _⟩ := (UO h hs b).1 hb
   exact ⟨Ig (Cg h).2.2 _ _ h1, by omega, by omega⟩
 · unfold Ai at hb
   rw [if_neg (fun k => k h), if_pos hs] at hb
   cases hb
theorem Qj {t : Tk} (h : BE t = 0) : ∀ i, ∀ b ∈ spF t i, YD t b
 | 0, b, hb => WZ h hb
 | i + 1, b, hb => by
   rw [spF] at hb
   cases hs : (spF t i)[i]? with
   | none => rw [hs] at hb; exact Qj h i b hb
   | some s =>
     rw [hs] at hb
     rcases (KL _ _ _).1 hb with hb | hb
     · exact Qj h i b hb
     · exact UA h hb
noncomputable def gnF (t : Tk) (e : Exp) : Gn := ⟨e.spots, (BB t).1.length, e.next.map (·.map Int.toNat), e.sets.map Int.toNat, (Ac t.formula t.props.length).1.length⟩
section
variable {t : Tk} {e : Exp}
theorem Grown.nx (g : Grown t e) {j : Nat} (h : j < e.spots.length) (k : Nat) : k ∈ (gnF t e).nx j ↔ (k : Int) ∈ plF t j := by
 have hl : j < (gnF t e).next.length := by simp [gnF, g.next, h]
 rw [Gn.nx_get _ _ hl]
 have e1 : (gnF t e).next[j] = (plF t j).map Int.toNat := by simp [gnF, g.next]
 rw [e1, List.mem_map]
 constructor
 · rintro ⟨y, hy, rfl⟩
   obtain ⟨p, rfl, _⟩ := g.leads h hy
   simpa using hy
 · intro hk
   exact ⟨_, hk, by simp⟩
end
theorem PH (b : Fo) : ∀ (bs sp : List Fo), BQ sp (bs ++ [b]) = (ER (BQ sp bs).1 b, (BQ sp bs).2 ++ [(plc b (BQ sp bs).1 : Int)])
 | [], sp => by simp [BQ]
 | c :: bs, sp => by
   rw [List.cons_append, BQ, PH b bs]
   simp [BQ]
theorem JO (bs sp : List Fo) (k : Nat) (h : k < bs.length) : BQ sp (bs.take (k + 1)) = (ER (BQ sp (bs.take k)).1 bs[k], (BQ sp (bs.take k)).2 ++ [(plc bs[k] (BQ sp (bs.take k)).1 : Int)]) := by
 rw [jZ h, PH]
theorem O8 (bs sp : List Fo) : ∀ (k d : Nat), (BQ sp (bs.take k)).1.length ≤ (BQ sp (bs.take (k + d))).1.length
 | k, 0 => Nat.le_refl _
 | k, d + 1 => by
   refine Nat.le_trans (O8 bs sp k d) ?_
   by_cases h : k + d < bs.length
   · rw [← Nat.add_assoc, JO bs sp (k + d) h]; exact TW _ _
   · rw [List.take_of_length_le jB, List.take_of_length_le jB]; exact Nat.le_refl _
structure F2 (t : Tk) (i : Nat) : Prop where
 task : BE t = 0
 room : ∀ j, j < i → j < (spF t j).length ∧ (spF t (j + 1)).length ≤ 20000
theorem JJ (t : Tk) : (BB t).1.length ≤ 64 := by
 unfold BB
 split
 · exact Nat.zero_le _
 · exact Nat.le_trans (Hw t _) (DA t).2
theorem F2.few {t : Tk} {i : Nat} (g : F2 t i) : (spF t i).length ≤ 20000 := by
 cases i with
 | zero => have := JJ t; rw [spF]; omega
 | succ i => exact (g.room i jB).2
theorem F2.le {t : Tk} {i : Nat} (g : F2 t i) : i ≤ (spF t i).length := by
 cases i with
 | zero => exact Nat.zero_le _
 | succ i =>
   have h1 := (g.room i jB).1
   have h2 := LM t (i := i) (j := i + 1) jB
   omega
theorem MR {t : Tk} {i : Nat} (h : i < (spF t i).length) : spF t (i + 1) = (BQ (spF t i) (Ai t (spF t i)[i].kind (spF t i)[i].val).1).1 ∧ plF t i = (BQ (spF t i) (Ai t (spF t i)[i].kind (spF t i)[i].val).1).2 ∧ seF t i = (Ca t.formula (Gm t.model t.props (spF t i)[i].kind).1 (spF t i)[i].val).1 := by
 rw [spF, plF, seF, List.getElem?_eq_getElem h]
 exact ⟨rfl, rfl, rfl⟩
theorem F2.next {t : Tk} {i : Nat} (g : F2 t i) (h : i < (spF t i).length) (hl : (spF t (i + 1)).length ≤ 20000) : F2 t (i + 1) :=
 ⟨g.task, fun j hj => by
  by_cases e : j = i
  · subst e; exact ⟨h, hl⟩
  · exact g.room j jB⟩
theorem S9 (t : Tk) : ∀ (d f i : Nat) (nx : List (List Int)) (st : List Int), d < f → (∀ j, j < d → i + j < (spF t (i + j)).length ∧ (spF t (i + j + 1)).length ≤ 20000) →
 IQ t f i (spF t i) nx st = IQ t (f - d) (i + d) (spF t (i + d)) (nx ++ (List.range d).map (fun j => plF t (i + j))) (st ++ (List.range d).map (fun j => seF t (i + j)))
 | 0, f, i, nx, st, _, _ => by simp
 | d + 1, f, i, nx, st, hf, h => by
   obtain ⟨f', rfl⟩ : ∃ f', f = f' + 1 := ⟨f - 1, by omega⟩
   have h0 := h 0 jB
   rw [Nat.add_zero] at h0
   obtain ⟨e1, e2, e3⟩ := MR h0.1
   rw [Vm t f' i _ nx st h0.1 (by rw [← e1]; omega), ← e1, ← e2, ← e3]
   rw [S9 t d f' (i + 1) _ _ jB (fun j hj => by
    have := h (j + 1) jB
    rw [show i + (j + 1) = i + 1 + j by omega] at this
    exact this)]
   rw [show f' + 1 - (d + 1) = f' - d by omega, show i + 1 + d = i + (d + 1) by omega]
   congr 1
   · rw [List.append_assoc]
     congr 1
     rw [List.range_succ_eq_map, List.map_cons, List.map_map]
     simp only [List.singleton_append, Nat.add_zero, List.cons.injEq, true_and]
     exact List.map_congr_left fun j _ => by show _ = plF t (i + (j + 1)); rw [show i + (j + 1) = i + 1 + j by omega]
   · rw [List.append_assoc]
     congr 1
     rw [List.range_succ_eq_map, List.map_cons, List.map_map]
     simp only [List.singleton_append, Nat.add_zero, List.cons.injEq, true_and]
     exact List.map_congr_left fun j _ => by show _ = seF t (i + (j + 1)); rw [show i + (j + 1) = i + 1 + j by omega]
theorem F2.run {t : Tk} {i : Nat} (g : F2 t i) : IQ t 20002 0 (BB t).1 [] [] = IQ t (20002 - i) i (spF t i) ((List.range i).map (plF t)) ((List.range i).map (seF t)) := by
 have h1 := g.le
 have h2 := g.few
 have := S9 t i 20002 0 [] [] jB (fun j hj => by rw [Nat.zero_add]; exact g.room j hj)
 simp only [Nat.zero_add, List.nil_append] at this
 exact this
theorem F2.all {t : Tk} {i : Nat} (g : F2 t i) (h : (spF t i).length ≤ i) : An t = (some ⟨spF t i, (List.range i).map (plF t), (List.range i).map (seF t)⟩, 0) := by
 have h1 := g.le
 have h2 := g.few
 unfold An
 rw [if_neg (fun k => k g.task), g.run]
 obtain ⟨f, hf⟩ : ∃ f, 20002 - i = f + 1 := ⟨20001 - i, by omega⟩
 rw [hf, SM t f i _ _ _ h]
theorem F2.full {t : Tk} {i : Nat} (g : F2 t i) (h : i < (spF t i).length) (hl : 20000 < (BQ (spF t i) (Ai t (spF t i)[i].kind (spF t i)[i].val).1).1.length) : An t = (none, 12) := by
 have h2 := g.few
 unfold An
 rw [if_neg (fun k => k g.task), g.run]
 obtain ⟨f, hf⟩ : ∃ f, 20002 - i = f + 1 := ⟨20001 - i, by omega⟩
 rw [hf, Pd t f i _ _ _ h hl]
noncomputable def exG (t : Tk) : Gr := match (An t).1 with
 | none => ⟨[], 0, [], [], 0⟩
 | some e => ⟨e.spots, (BB t).1.length, e.next, e.sets, (Ac t.formula t.props.length).1.length⟩
theorem NQ (t : Tk) (st cl : Int) (hm : AT t.model = 0) : (Ai t st cl).1.length ≤ 262144 := by
 unfold Ai
 split
 · exact Nat.zero_le _
 · split
   · exact Nat.zero_le _
   · have h1 := I7 t st cl (D3 t.model st).1
     have h2 := LL hm st
     dsimp only
     omega
structure Sto where
 loose : List Int
 runs : List (List Int)
abbrev stA (s : Sto) : AV := .agg [.d (AJ s.loose), .d (AX s.runs)]
def FQ (n : Int) : Prop := 0 ≤ n ∧ n ≤ 2147483647
instance (n : Int) : Decidable (FQ n) := by unfold FQ; infer_instance
def Bw (s : Sto) : List Int := s.runs.flatten ++ s.loose
structure EB (s : Sto) : Prop where
 loose : s.loose.length ≤ 7
 runs : ∀ r ∈ s.runs, r ≠ [] ∧ r.Pairwise (· < ·)
 few : s.loose.length + s.runs.flatten.length ≤ 20000
 range : ∀ k ∈ Bw s, FQ k
 nodup : (Bw s).Nodup
noncomputable def P0 (s : Sto) : Int := open Classical in if EB s then 0 else 9
theorem Q8 {s : Sto} (h : EB s) : P0 s = 0 := if_pos h
theorem Hv {s : Sto} (h : ¬ EB s) : P0 s = 9 := if_neg h
theorem SU {s : Sto} : P0 s = 0 ↔ EB s := by
 constructor
 · intro h
   by_cases c : EB s
   · exact c
   · rw [Hv c] at h; cases h
 · exact Q8
noncomputable def Gl (s : Sto) (n : Int) : Bool × Int := if P0 s ≠ 0 then (false, P0 s) else if ¬ FQ n then (false, 2) else (decide (n ∈ Bw s), 0)
def Fp (runs : List (List Int)) : Nat → List Int → List (List Int)
 | 0, last => [last]
 | k + 1, last => if ((runs[k]?).getD []).length ≤ last.length then Fp runs k (Ba ((runs[k]?).getD [] ++ last)) else runs.take (k + 1) ++ [last]
noncomputable def E5 (s : Sto) (n : Int) : (Sto × Bool) × Int :=
 if (Gl s n).2 ≠ 0 then ((⟨[], []⟩, false), (Gl s n).2)
 else if (Gl s n).1 = true then ((s, false), 0)
 else if (Bw s).length = 20000 then ((⟨[], []⟩, false), 12)
 else if s.loose.length + 1 < 8 then ((⟨s.loose ++ [n], s.runs⟩, true), 0)
 else ((⟨[], Fp s.runs s.runs.length (Ba (s.loose ++ [n]))⟩, true), 0)
theorem Io (l : List Int) : (Ba l).Pairwise (· ≤ ·) := by
 have := List.pairwise_mergeSort (le := fun x y : Int => decide (x ≤ y)) (fun a b c h1 h2 => by simp only [decide_eq_true_eq] at *; omega) (fun a b => by simp only [Bool.or_eq_true, decide_eq_true_eq]; omega) l
 exact this.imp fun h => by simpa using h
theorem DX (l : List Int) : (Ba l).Perm l := List.mergeSort_perm l _
theorem Ff (l : List Int) : (Ba l).length = l.length := (DX l).length_eq
theorem XS {a b : List Int} (ha : a.Pairwise (· ≤ ·)) (hb : b.Pairwise (· ≤ ·)) (h : a.Perm b) : a = b :=
 List.Perm.eq_of_pairwise (le := (· ≤ ·)) (fun x y _ _ h1 h2 => by omega) ha hb h
theorem Yj {a l : List Int} (ha : a.Pairwise (· ≤ ·)) (h : a.Perm l) : a = Ba l := XS ha (Io l) (h.trans (DX l).symm)
theorem bF {up : List Int} (hs : up.Pairwise (· ≤ ·)) (h : ∀ (j : Nat) (hj : j + 1 < up.length), up[j] ≠ up[j + 1]) : up.Pairwise (· < ·) := by
 rw [List.pairwise_iff_getElem] at hs ⊢
 intro i j hi hj hij
 obtain ⟨k, rfl⟩ : ∃ k, j = k + 1 := ⟨j - 1, by omega⟩
 have h1 := hs k (k + 1) jB hj jB
 have h2 := h k hj
 by_cases e : i = k
 · subst e; omega
 · have := hs i k hi jB jB; omega
theorem Yq {up : List Int} (h : up.Pairwise (· < ·)) : up.Nodup := h.imp fun h => by omega
theorem XC {up : List Int} {j : Nat} (hj : j + 1 < up.length) (h : up[j] = up[j + 1]) : ¬ up.Nodup := fun hn => by
 have := (List.getElem_inj hn).1 h; omega
theorem cF {r : List Int} (h : ∀ (j : Nat) (hj : j + 1 < r.length), r[j] < r[j + 1]) : r.Pairwise (· < ·) := by
 rw [List.pairwise_iff_getElem]
 intro i j hi hj hij
 induction j with
 | zero => omega
 | succ j ih =>
   have h1 := h j hj
   by_cases e : i = j
   · subst e; exact h1
   · have := ih jB jB; omega
theorem cY {r : List Int} {j : Nat} (hj : j + 1 < r.length) (h : r[j + 1] ≤ r[j]) : ¬ r.Pairwise (· < ·) := fun hp => by
 have := (List.pairwise_iff_getElem.1 hp) j (j + 1) jB hj jB; omega
structure Lx (s : Sto) (i : Nat) : Prop where
 le : i ≤ s.runs.length
 runs : ∀ r ∈ s.runs.take i, r ≠ [] ∧ r.Pairwise (· < ·)
 few : s.loose.length + (s.runs.take i).flatten.length ≤ 20000
theorem Lx.start {s : Sto} (h : s.loose.length ≤ 7) : Lx s 0 := ⟨Nat.zero_le _, fun r hr => (by cases hr), by simp; omega⟩
theorem DI (ls : List (List Int)) (i : Nat) (h : i < ls.length) : (ls.take (i + 1)).flatten = (ls.take i).flatten ++ ls[i] := by
 rw [jZ h, List.flatten_append]; simp
theorem Lx.next {s : Sto} {i : Nat} (w : Lx s i) (hi : i < s.runs.length) (h1 : s.runs[i] ≠ []) (h2 : s.runs[i].Pairwise (· < ·)) (h3 : s.loose.length + (s.runs.take i).flatten.length + s.runs[i].length ≤ 20000) : Lx s (i + 1) :=
 ⟨hi, fun r hr => by
  rw [jZ hi] at hr
  rcases List.mem_append.1 hr with hr | hr
  · exact w.runs r hr
  · rw [List.mem_singleton.1 hr]; exact ⟨h1, h2⟩, by rw [DI _ _ hi, List.length_append]; omega⟩
theorem EB.no_run {s : Sto} (p : EB s) {i : Nat} (hi : i < s.runs.length) : s.runs[i] ≠ [] ∧ s.runs[i].Pairwise (· < ·) := p.runs _ (jb hi)
theorem VT (ls : List (List Int)) (i : Nat) : (ls.take i).flatten.length ≤ ls.flatten.length := by
 conv => rhs; rw [← List.take_append_drop i ls, List.flatten_append, List.length_append]
 omega
theorem EB.no_few {s : Sto} (p : EB s) {i : Nat} (hi : i < s.runs.length) : s.loose.length + (s.runs.take i).flatten.length + s.runs[i].length ≤ 20000 := by
 have h1 := VT s.runs (i + 1)
 rw [DI _ _ hi, List.length_append] at h1
 have := p.few; omega
theorem EB.of {s : Sto} (w : Lx s s.runs.length) (h7 : s.loose.length ≤ 7) (hk : ∀ k ∈ Bw s, FQ k) (hn : (Bw s).Nodup) : EB s := by
 have h1 := w.runs
 have h2 := w.few
 rw [List.take_length] at h1 h2
 exact ⟨h7, h1, h2, hk, hn⟩
theorem keys_perm (s : Sto) : (s.loose ++ s.runs.flatten).Perm (Bw s) := List.perm_append_comm
theorem JU (s : Sto) : (Bw s).length = s.loose.length + s.runs.flatten.length := by unfold Bw; rw [List.length_append]; omega
structure Kp (a b : List Int) (o x y : List Int) : Prop where
 perm : (o ++ (x ++ y)).Perm (a ++ b)
 sort : o.Pairwise (· ≤ ·)
 left : x.Pairwise (· ≤ ·)
 right : y.Pairwise (· ≤ ·)
 low : ∀ u ∈ o, ∀ v ∈ x ++ y, u ≤ v
theorem Kp.start {a b : List Int} (ha : a.Pairwise (· ≤ ·)) (hb : b.Pairwise (· ≤ ·)) : Kp a b [] a b := ⟨.refl _, .nil, ha, hb, fun u hu => (by cases hu)⟩
theorem Kp.swap {a b o x y : List Int} (w : Kp a b o x y) : Kp a b o y x :=
 ⟨(List.Perm.append_left o List.perm_append_comm).trans w.perm, w.sort, w.right, w.left, fun u hu v hv => w.low u hu v (by simp at hv ⊢; exact hv.symm)⟩
theorem Kp.step {a b o x y : List Int} {u v : Int} (w : Kp a b o (u :: x) (v :: y)) (h : u ≤ v) : Kp a b (o ++ [u]) x (v :: y) := by
 have hl := List.pairwise_cons.1 w.left
 have hr := List.pairwise_cons.1 w.right
 refine ⟨by have := w.perm; simpa using this, ?_, hl.2, w.right, fun p hp q hq => ?_⟩
 · rw [List.pairwise_append]
   exact ⟨w.sort, by simp, fun p hp q hq => by rw [List.mem_singleton.1 hq]; exact w.low p hp u (by simp)⟩
 · rcases List.mem_append.1 hp with hp | hp
   · exact w.low p hp q (by simp at hq ⊢; rcases hq with h | h | h <;> simp [h])
   · rw [List.mem_singleton.1 hp]
     rcases List.mem_append.1 hq with hq | hq
     · exact hl.1 q hq
     · rcases List.mem_cons.1 hq with rfl | hq
       · exact h
       · have := hr.1 q hq; omega
theorem Kp.done {a b o x y : List Int} (w : Kp a b o x y) (h : x = [] ∨ y = []) : o ++ x ++ y = Ba (a ++ b) := by
 refine Yj ?_ (by have := w.perm; rwa [← List.append_assoc] at this)
 have hxy : (x ++ y).Pairwise (· ≤ ·) := by rcases h with rfl | rfl <;> simp [w.left, w.right]
 rw [List.append_assoc, List.pairwise_append]
 exact ⟨w.sort, hxy, w.low⟩
theorem Kp.len {a b o x y : List Int} (w : Kp a b o x y) : o.length + (x.length + y.length) = a.length + b.length := by
 have := w.perm.length_eq; simp only [List.length_append] at this; omega
theorem gv {r : List Int} (h : r.Pairwise (· < ·)) : r.Pairwise (· ≤ ·) := h.imp fun h => by omega
theorem RZ {l : List Int} (h : l.Nodup) : (Ba l).Pairwise (· < ·) := by
 have h2 : (Ba l).Nodup := (DX l).nodup_iff.2 h
 exact List.Pairwise.imp (fun h => by omega) ((Io l).and h2)
theorem Ks (runs : List (List Int)) (k : Nat) (last : List Int) (h : k < runs.length) : Fp runs (k + 1) last = if runs[k].length ≤ last.length then Fp runs k (Ba (runs[k] ++ last)) else runs.take (k + 1) ++ [last] := by
 rw [Fp, List.getElem?_eq_getElem h]; rfl
theorem NU (runs : List (List Int)) : ∀ (k : Nat) (last : List Int), k ≤ runs.length → (Fp runs k last).flatten.Perm ((runs.take k).flatten ++ last)
 | 0, last, _ => by simp [Fp]
 | k + 1, last, h => by
   rw [Ks runs k last h, DI runs k h]
   split
   · refine (NU runs k _ jB).trans ?_
     rw [List.append_assoc]
     exact List.Perm.append_left _ (DX _)
   · rw [List.flatten_append, DI runs k h]
     simp
theorem NV (runs : List (List Int)) (hr : ∀ r ∈ runs, r ≠ [] ∧ r.Pairwise (· < ·)) : ∀ (k : Nat) (last : List Int), k ≤ runs.length → last ≠ [] → last.Pairwise (· < ·) → ((runs.take k).flatten ++ last).Nodup → ∀ r ∈ Fp runs k last, r ≠ [] ∧ r.Pairwise (· < ·)
 | 0, last, _, h1, h2, _ => fun r h => by
   rw [Fp, List.mem_singleton] at h
   rw [h]; exact ⟨h1, h2⟩
 | k + 1, last, h, h1, h2, hn => by
   rw [Ks runs k last h]
   rw [DI runs k h, List.append_assoc] at hn
   have hn2 : (runs[k] ++ last).Nodup := (List.nodup_append.1 hn).2.1
   split
   · refine NV runs hr k _ jB (fun e => ?_) (RZ hn2) ?_
     · have := congrArg List.length e
       rw [Ff, List.length_append, List.length_nil] at this
       exact h1 (List.length_eq_zero_iff.1 jB)
     · exact ((List.Perm.append_left _ (DX _)).nodup_iff).2 hn
   · intro r hm
     rcases List.mem_append.1 hm with hm | hm
     · exact hr r (List.mem_of_mem_take hm)
     · rw [List.mem_singleton.1 hm]; exact ⟨h1, h2⟩
theorem EB.perm {s : Sto} {l : List Int} (h7 : s.loose.length ≤ 7) (hr : ∀ r ∈ s.runs, r ≠ [] ∧ r.Pairwise (· < ·)) (hp : (Bw s).Perm l) (hl : l.length ≤ 20000) (hk : ∀ k ∈ l, FQ k) (hn : l.Nodup) : EB s :=
 ⟨h7, hr, by rw [← JU, hp.length_eq]; exact hl, fun k h => hk k (hp.mem_iff.1 h), hp.nodup_iff.2 hn⟩
theorem WB {s : Sto} (p : EB s) {n : Int} (hk : FQ n) : Gl s n = (decide (n ∈ Bw s), 0) := by
 unfold Gl
 rw [if_neg (fun h => h (Q8 p)), if_neg (fun h => h hk)]
theorem aX {s : Sto} (p : EB s) {n : Int} (hk : FQ n) (hn : n ∉ Bw s) (hl : (Bw s).length < 20000) : ∃ s', E5 s n = ((s', true), 0) ∧ EB s' ∧ (Bw s').Perm (Bw s ++ [n]) := by
 have h0 : Gl s n = (false, 0) := by rw [WB p hk, decide_eq_false hn]
 have hd : (Bw s ++ [n]).Nodup := by
  rw [List.nodup_append]
  exact ⟨p.nodup, by simp, fun a ha b hb e => by rw [List.mem_singleton.1 hb] at e; exact hn (e ▸ ha)⟩
 have hr : ∀ k ∈ Bw s ++ [n], FQ k := fun k h => by
  rcases List.mem_append.1 h with h | h
  · exact p.range k h
  · rw [List.mem_singleton.1 h]; exact hk
 have hL : (Bw s ++ [n]).length ≤ 20000 := by rw [List.length_append]; simp only [List.length_singleton]; omega
 unfold E5
 rw [if_neg (by rw [h0]; simp), if_neg (by rw [h0]; simp), if_neg jB]
 by_cases c : s.loose.length + 1 < 8
 · rw [if_pos c]
   have hp : (Bw ⟨s.loose ++ [n], s.runs⟩).Perm (Bw s ++ [n]) := by simp [Bw]
   exact ⟨_, rfl, EB.perm (by simp; omega) p.runs hp hL hr hd, hp⟩
 · rw [if_neg c]
   have h1 := NU s.runs s.runs.length (Ba (s.loose ++ [n])) (Nat.le_refl _)
   rw [List.take_length] at h1
   have hp : (Bw ⟨[], Fp s.runs s.runs.length (Ba (s.loose ++ [n]))⟩).Perm (Bw s ++ [n]) := by
    simp only [Bw, List.append_nil]
    rw [List.append_assoc]
    exact h1.trans (List.Perm.append_left _ (DX _))
   have hd2 : (s.runs.flatten ++ (s.loose ++ [n])).Nodup := by rw [← List.append_assoc]; exact hd
   refine ⟨_, rfl, EB.perm (Nat.zero_le _) (NV s.runs p.runs s.runs.length _ (Nat.le_refl _) (fun e => ?_) (RZ (List.nodup_append.1 hd2).2.1) ?_) hp hL hr hd, hp⟩
   · have := congrArg List.length e
     rw [Ff, List.length_append, List.length_nil] at this
     simp at this
   · rw [List.take_length]
     exact ((List.Perm.append_left _ (DX _)).nodup_iff).2 hd2
theorem Yg {s : Sto} {n : Int} (h : (Gl s n).2 = 0) : EB s := by
 unfold Gl at h
 by_cases c : P0 s ≠ 0
 · rw [if_pos c] at h; exact absurd h c
 · exact SU.1 (jY c)
theorem EB.nil : EB ⟨[], []⟩ := ⟨Nat.zero_le _, fun r h => (by cases h), Nat.zero_le _, fun k h => (by simp [Bw] at h), by simp [Bw]⟩
structure PkI (runs : List (List Int)) (L0 : List Int) (m : Nat) (last : List Int) : Prop where
 le : m ≤ runs.length
 up : last.Pairwise (· ≤ ·)
 pk : Fp runs runs.length L0 = Fp runs m last
 few : last.length + (runs.take m).flatten.length ≤ 30000
theorem PkI.zero {runs : List (List Int)} {L0 last : List Int} (h : PkI runs L0 0 last) : Fp runs runs.length L0 = [last] := h.pk
theorem PkI.stop {runs : List (List Int)} {L0 last : List Int} {m : Nat} (h : PkI runs L0 (m + 1) last) (hl : ¬ (runs[m]'h.le).length ≤ last.length) : Fp runs runs.length L0 = runs.take (m + 1) ++ [last] := by
 rw [h.pk, Ks runs m last h.le, if_neg hl]
theorem PkI.next {runs : List (List Int)} {L0 last : List Int} {m : Nat} (h : PkI runs L0 (m + 1) last) (hl : (runs[m]'h.le).length ≤ last.length) : PkI runs L0 m (Ba (runs[m]'h.le ++ last)) := by
 have h1 := h.le
 have h2 := h.few
 rw [DI runs m h1, List.length_append] at h2
 refine ⟨by omega, Io _, by rw [h.pk, Ks runs m last h1, if_pos hl], ?_⟩
 rw [Ff, List.length_append]; omega
def C8 (s : Fo) : Int := s.kind * 64 + s.val
def gk (n : Int) : Fo := ⟨n / 64, n % 64⟩
def C9 (s : Fo) : Prop := (0 ≤ s.kind ∧ s.kind < 4096) ∧ 0 ≤ s.val ∧ s.val < 64
theorem key_inj {a b : Fo} (ha : C9 a) (hb : C9 b) (h : C8 a = C8 b) : a = b := by
 obtain ⟨⟨a1, a2⟩, a3, a4⟩ := ha
 obtain ⟨⟨b1, b2⟩, b3, b4⟩ := hb
 unfold C8 at h
 exact Fo.ext' jB jB
theorem YZ {a : Fo} (ha : C9 a) : gk (C8 a) = a := by
 obtain ⟨⟨a1, a2⟩, a3, a4⟩ := ha
 exact Fo.ext' (show (a.kind * 64 + a.val) / 64 = a.kind by omega) (show (a.kind * 64 + a.val) % 64 = a.val by omega)
theorem Uf {a : Fo} (ha : C9 a) : FQ (C8 a) := by
 obtain ⟨⟨a1, a2⟩, a3, a4⟩ := ha
 unfold C8 FQ; omega
structure I4 (s : Sto) (l : List Fo) : Prop where
 ok : EB s
 keys : (Bw s).Perm (l.map C8)
theorem I4.nil : I4 ⟨[], []⟩ [] := ⟨EB.nil, by simp [Bw]⟩
theorem I4.mem {s : Sto} {l : List Fo} (h : I4 s l) {x : Fo} (hx : C9 x) (hl : ∀ b ∈ l, C9 b) : C8 x ∈ Bw s ↔ x ∈ l := by
 rw [h.keys.mem_iff, List.mem_map]
 exact ⟨fun ⟨b, hb, e⟩ => key_inj (hl b hb) hx e ▸ hb, fun hb => ⟨x, hb, rfl⟩⟩
theorem I4.add {s : Sto} {l : List Fo} (h : I4 s l) {x : Fo} (hx : C9 x) (hl : ∀ b ∈ l, C9 b) (hn : x ∉ l) (hL : l.length < 20000) : ∃ s', E5 s (C8 x) = ((s', true), 0) ∧ I4 s' (l ++ [x]) := by
 obtain ⟨s', e, p, q⟩ := aX h.ok (Uf hx) (fun k => hn ((h.mem hx hl).1 k)) (by rw [h.keys.length_eq, List.length_map]; exact hL)
 exact ⟨s', e, p, q.trans (by rw [List.map_append]; exact h.keys.append_right _)⟩
theorem I4.has {s : Sto} {l : List Fo} (h : I4 s l) {x : Fo} (hx : C9 x) (hl : ∀ b ∈ l, C9 b) : Gl s (C8 x) = (decide (x ∈ l), 0) := by
 rw [WB h.ok (Uf hx)]
 exact Prod.ext (decide_eq_decide.2 (h.mem hx hl)) rfl
structure Ou where
 up : Bool
 found : Int
 thr : Int
 safe : Int
 again : Int
 done : Bool
 holds : Bool
abbrev ouA (o : Ou) : AV := .agg [.bool o.up, .int o.found, .int o.thr, .int o.safe, .int o.again, .bool o.done, .bool o.holds]
def Ov : Ou := ⟨false, 0, 0, 0, 0, false, false⟩
open Go.Av
def TQ : List UInt8 → Int → Int
 | [], s => s
 | c :: r, s => TQ r ((s * 257 + c.toNat) % 2147483629)
def sumOf (l : List UInt8) : Int := TQ l 1
theorem bu (l : List UInt8) (i : Nat) (hi : i < l.length) (s : Int) : TQ (l.drop i) s = TQ (l.drop (i + 1)) ((s * 257 + l[i].toNat) % 2147483629) := by
 rw [ja hi]; rfl
theorem ZT (l : List UInt8) (i : Nat) (hi : l.length ≤ i) (s : Int) : TQ (l.drop i) s = s := by rw [List.drop_eq_nil_of_le hi]; rfl
theorem NP : ∀ (l : List UInt8) (s : Int), 0 ≤ s → s < 2147483629 → 0 ≤ TQ l s ∧ TQ l s < 2147483629
 | [], s, h1, h2 => ⟨h1, h2⟩
 | c :: r, s, h1, h2 => NP r _ (Int.emod_nonneg _ (by decide)) (Int.emod_lt_of_pos _ (by decide))
theorem Tb (l : List UInt8) : 0 ≤ sumOf l ∧ sumOf l < 2147483629 := NP l 1 (by decide) (by decide)
def NF : List Fo → Int
 | [] => 0
 | m :: r => if m.kind < 1 ∨ 4 < m.kind then 13 else if m.val < 0 ∨ 2147483647 < m.val then 2 else NF r
def GH (l : List Fo) : Int := if 5000 < l.length then 1 else NF l
theorem Vf (l : List Fo) (i : Nat) (hi : i < l.length) : NF (l.drop i) = if l[i].kind < 1 ∨ 4 < l[i].kind then 13 else if l[i].val < 0 ∨ 2147483647 < l[i].val then 2 else NF (l.drop (i + 1)) := by
 rw [ja hi]; rfl
theorem SB (l : List Fo) (i : Nat) (hi : l.length ≤ i) : NF (l.drop i) = 0 := by rw [List.drop_eq_nil_of_le hi]; rfl
structure Tp where
 data : List UInt8
 synced : Int
abbrev tpA (t : Tp) : AV := .agg [.d (CT t.data), .int t.synced]
def Dz : Tp := ⟨[], 0⟩
def FE (t : Tp) : Prop := t.data.length ≤ 1048576 ∧ 0 ≤ t.synced ∧ t.synced ≤ t.data.length
instance (t : Tp) : Decidable (FE t) := by unfold FE; infer_instance
def Mh (t : Tp) : Tp × Int := if FE t then (⟨t.data, t.data.length⟩, 0) else (Dz, 9)
def FL (t : Tp) (keep : Int) : Tp × Int :=
 if ¬ FE t then (Dz, 9) else if keep < 0 then (Dz, 2)
 else (⟨t.data.take (t.synced + min keep (t.data.length - t.synced)).toNat, t.synced + min keep (t.data.length - t.synced)⟩, 0)
def b4 (n : Int) : List UInt8 := [UInt8.ofInt (n / 16777216), UInt8.ofInt (n / 65536), UInt8.ofInt (n / 256), UInt8.ofInt n]
theorem HT (n : Int) : (b4 n).length = 4 := rfl
def Cw (l : List Int) : Prop := ∀ n ∈ l, 0 ≤ n ∧ n ≤ 2147483647
instance (l : List Int) : Decidable (Cw l) := by unfold Cw; infer_instance
def GX (l : List Int) (i : Nat) : List UInt8 := b4 l.length ++ (l.take i).flatMap b4
def Gh (l : List Int) : List UInt8 := GX l l.length
def A5 (l : List Int) : List UInt8 := Gh l ++ b4 (sumOf (Gh l))
def Ob (l : List Int) : List UInt8 × Int := if 4000 < l.length then ([], 1) else if Cw l then (A5 l, 0) else ([], 2)
theorem Kl : ∀ l : List Int, (l.flatMap b4).length = 4 * l.length
 | [] => rfl
 | n :: r => by rw [List.flatMap_cons, List.length_append, Kl r, HT, List.length_cons]; omega
theorem K2 (l : List Int) (i : Nat) (hi : i ≤ l.length) : (GX l i).length = 4 + 4 * i := by
 rw [GX, List.length_append, Kl, HT, List.length_take]; omega
theorem Um (l : List Int) : GX l 0 = b4 l.length := by simp [GX]
theorem VC (l : List Int) (i : Nat) (hi : i < l.length) : GX l (i + 1) = GX l i ++ b4 l[i] := by
 unfold GX
 rw [jZ hi, List.flatMap_append, List.append_assoc]
 simp
theorem Ep (l : List Int) : (A5 l).length = 8 + 4 * l.length := by
 rw [A5, List.length_append, Gh, K2 _ _ (Nat.le_refl _), HT]; omega
theorem Re (l : List Int) : Cw (l.take 0) := by simp [Cw]
theorem TF (l : List Int) (i : Nat) (hi : i < l.length) (h : Cw (l.take i)) (h2 : 0 ≤ l[i] ∧ l[i] ≤ 2147483647) : Cw (l.take (i + 1)) := by
 rw [jZ hi]
 intro n hn
 rcases List.mem_append.1 hn with hn | hn
 · exact h n hn
 · rw [List.mem_singleton.1 hn]; exact h2
theorem XN (l : List Int) (i : Nat) (hi : i < l.length) (h : l[i] < 0 ∨ 2147483647 < l[i]) : ¬ Cw l := by
 intro hk
 have := hk l[i] (jb _)
 omega
theorem U8 (l : List Int) (i : Nat) (hi : l.length ≤ i) (h : Cw (l.take i)) : Cw l := by rwa [List.take_of_length_le hi] at h
def EO (t : Tp) (l : List Int) : Tp × Int :=
 if ¬ FE t then (Dz, 9)
 else if (Ob l).2 ≠ 0 then (Dz, (Ob l).2)
 else if 1048576 < t.data.length + (Ob l).1.length then (Dz, 12)
 else (⟨t.data ++ (Ob l).1, t.synced⟩, 0)
theorem X3 {t : Tp} {l : List Int} (hm : FE t) (h : 4000 < l.length) : EO t l = (Dz, 1) := by
 have e : Ob l = ([], 1) := by rw [Ob, if_pos h]
 rw [EO, if_neg (fun h => h hm), e]; rfl
theorem Wr {t : Tp} {l : List Int} (hm : FE t) (h : ¬ 4000 < l.length) (h2 : ¬ Cw l) : EO t l = (Dz, 2) := by
 have e : Ob l = ([], 2) := by rw [Ob, if_neg h, if_neg h2]
 rw [EO, if_neg (fun h => h hm), e]; rfl
theorem WM {l : List Int} (h : ¬ 4000 < l.length) (h2 : Cw l) : Ob l = (A5 l, 0) := by rw [Ob, if_neg h, if_pos h2]
theorem NX {t : Tp} {l : List Int} (hm : FE t) (h : ¬ 4000 < l.length) (h2 : Cw l) (h3 : 1048576 < t.data.length + (A5 l).length) : EO t l = (Dz, 12) := by
 rw [EO, if_neg (fun h => h hm), WM h h2, if_neg (by simp), if_pos h3]
theorem Mk {t : Tp} {l : List Int} (hm : FE t) (h : ¬ 4000 < l.length) (h2 : Cw l) (h3 : ¬ 1048576 < t.data.length + (A5 l).length) : EO t l = (⟨t.data ++ A5 l, t.synced⟩, 0) := by
 rw [EO, if_neg (fun h => h hm), WM h h2, if_neg (by simp), if_neg h3]
def at8 (b : List UInt8) (i : Nat) : Int := (((b[i]?).getD 0).toNat : Int)
def g4 (b : List UInt8) (i : Nat) : Int := 16777216 * at8 b i + 65536 * at8 b (i + 1) + 256 * at8 b (i + 2) + at8 b (i + 3)
theorem D0 (b : List UInt8) (i : Nat) : 0 ≤ at8 b i ∧ at8 b i ≤ 255 := by
 have := ((b[i]?).getD 0).toNat_lt
 unfold at8
 omega
theorem IV (b : List UInt8) (i : Nat) : 0 ≤ g4 b i ∧ g4 b i ≤ 4294967295 := by
 have h0 := D0 b i
 have h1 := D0 b (i + 1)
 have h2 := D0 b (i + 2)
 have h3 := D0 b (i + 3)
 unfold g4
 omega
theorem GV (b : List UInt8) (i : Nat) (h : i < b.length) : at8 b i = (b[i].toNat : Int) := by simp [at8, List.getElem?_eq_getElem h]
theorem Zm (b : List UInt8) (k i : Nat) : at8 (b.drop k) i = at8 b (k + i) := by simp [at8, List.getElem?_drop]
theorem Hk (b : List UInt8) (k i : Nat) : g4 (b.drop k) i = g4 b (k + i) := by simp [g4, Zm, Nat.add_assoc]
def EX (b : List UInt8) (at_ n : Nat) : List Int := (List.range n).map fun i => g4 b (at_ + 4 * i)
theorem K3 (b : List UInt8) (a n : Nat) : (EX b a n).length = n := by simp [EX]
theorem KK (b : List UInt8) (a n : Nat) : EX b a (n + 1) = EX b a n ++ [g4 b (a + 4 * n)] := by simp [EX, List.range_succ]
def wholeAt (b : List UInt8) : Prop :=
 4 ≤ b.length ∧ g4 b 0 ≤ 4000 ∧ 8 + 4 * (g4 b 0).toNat ≤ b.length ∧ g4 b (4 + 4 * (g4 b 0).toNat) = sumOf (b.take (4 + 4 * (g4 b 0).toNat)) ∧ Cw (EX b 4 (g4 b 0).toNat)
instance (b : List UInt8) : Decidable (wholeAt b) := by unfold wholeAt; infer_instance
def Bk (b : List UInt8) : List Int × Nat := (EX b 4 (g4 b 0).toNat, 8 + 4 * (g4 b 0).toNat)
def H8 : Nat → List UInt8 → List (List Int) × Nat
 | 0, _ => ([], 0)
 | f + 1, b => if wholeAt b then ((Bk b).1 :: (H8 f (b.drop (Bk b).2)).1, (Bk b).2 + (H8 f (b.drop (Bk b).2)).2) else ([], 0)
def Dr (b : List UInt8) : List (List Int) × Nat := H8 b.length b
theorem IN {b : List UInt8} (h : wholeAt b) : (Bk b).2 ≤ b.length ∧ 8 ≤ (Bk b).2 := ⟨h.2.2.1, by simp [Bk]⟩
theorem Mu : ∀ (f g : Nat) (b : List UInt8), b.length ≤ f → b.length ≤ g → H8 f b = H8 g b
 | 0, 0, _, _, _ => rfl
 | 0, g + 1, b, h, _ => by
   have : ¬ wholeAt b := fun hw => by have := hw.1; omega
   simp [H8, this]
 | f + 1, 0, b, _, h => by
   have : ¬ wholeAt b := fun hw => by have := hw.1; omega
   simp [H8, this]
 | f + 1, g + 1, b, h1, h2 => by
   unfold H8
   by_cases hw : wholeAt b
   · obtain ⟨q1, q2⟩ := IN hw
     rw [if_pos hw, if_pos hw, Mu f g (b.drop (Bk b).2) (by rw [List.length_drop]; omega) (by rw [List.length_drop]; omega)]
   · rw [if_neg hw, if_neg hw]
theorem Lf {b : List UInt8} (h : wholeAt b) : Dr b = ((Bk b).1 :: (Dr (b.drop (Bk b).2)).1, (Bk b).2 + (Dr (b.drop (Bk b).2)).2) := by
 obtain ⟨q1, q2⟩ := IN h
 unfold Dr
 have e : b.length = (b.length - 1) + 1 := by omega
 rw [e, H8, if_pos h, Mu (b.length - 1) (b.drop (Bk b).2).length _ (by rw [List.length_drop]; omega) (Nat.le_refl _)]
theorem Nv {b : List UInt8} (h : ¬ wholeAt b) : Dr b = ([], 0) := by
 unfold Dr
 cases b.length with
 | zero => rfl
 | succ n => rw [H8, if_neg h]
theorem TH : ∀ (f : Nat) (b : List UInt8), (H8 f b).2 ≤ b.length
 | 0, _ => Nat.zero_le _
 | f + 1, b => by
   unfold H8
   by_cases hw : wholeAt b
   · obtain ⟨q1, q2⟩ := IN hw
     rw [if_pos hw]
     have := TH f (b.drop (Bk b).2)
     rw [List.length_drop] at this
     dsimp only
     omega
   · rw [if_neg hw]; exact Nat.zero_le _
theorem ax (b : List UInt8) : (Dr b).2 ≤ b.length := TH _ b
def NZ (b : List UInt8) (l : List (List Int)) (a : Nat) : Prop := a ≤ b.length ∧ Dr b = (l ++ (Dr (b.drop a)).1, a + (Dr (b.drop a)).2)
theorem Rq (b : List UInt8) : NZ b [] 0 := ⟨Nat.zero_le _, by simp⟩
theorem Tf {b : List UInt8} {l : List (List Int)} {a : Nat} (h : NZ b l a) (hw : wholeAt (b.drop a)) : NZ b (l ++ [(Bk (b.drop a)).1]) (a + (Bk (b.drop a)).2) := by
 have q := IN hw
 rw [List.length_drop] at q
 refine ⟨by have := h.1; omega, ?_⟩
 rw [h.2, Lf hw, List.drop_drop]
 simp [Nat.add_assoc]
theorem U9 {b : List UInt8} {l : List (List Int)} {a : Nat} (h : NZ b l a) (hw : ¬ wholeAt (b.drop a)) : Dr b = (l, a) := by
 rw [h.2, Nv hw]; simp
def Hx (t : Tp) : (List (List Int) × Int) × Int := if FE t then (((Dr t.data).1, ((Dr t.data).2 : Int)), 0) else (([], 0), 9)
def HI (t : Tp) : Tp × Int := if FE t then (⟨t.data.take (Dr t.data).2, min t.synced (Dr t.data).2⟩, 0) else (Dz, 9)
theorem L6 {a b : UInt8} (h : (a.toNat : Int) = b.toNat) : a = b := UInt8.toNat_inj.1 jB
theorem Zx (b : List UInt8) (i : Nat) (h : i + 4 ≤ b.length) : b4 (g4 b i) = (b.drop i).take 4 := by
 have e0 := GV b i jB
 have e1 := GV b (i + 1) jB
 have e2 := GV b (i + 2) jB
 have e3 := GV b (i + 3) jB
 have h0 := D0 b i
 have h1 := D0 b (i + 1)
 have h2 := D0 b (i + 2)
 have h3 := D0 b (i + 3)
 rw [ja jB, ja jB, ja jB, ja jB]
 simp only [List.take_succ_cons, List.take_zero, b4, g4]
 refine congr (congrArg List.cons (L6 ?_)) (congr (congrArg List.cons (L6 ?_)) (congr (congrArg List.cons (L6 ?_)) (congr (congrArg List.cons (L6 ?_)) rfl)))
 · rw [Cc]; (try simp only [Nat.add_assoc, Nat.reduceAdd]); omega
 · rw [Cc]; (try simp only [Nat.add_assoc, Nat.reduceAdd]); omega
 · rw [Cc]; (try simp only [Nat.add_assoc, Nat.reduceAdd]); omega
 · rw [Cc]; (try simp only [Nat.add_assoc, Nat.reduceAdd]); omega
theorem Vd (n : Int) (h0 : 0 ≤ n) (h1 : n ≤ 4294967295) (r : List UInt8) : g4 (b4 n ++ r) 0 = n := by
 have e0 := Cc (n / 16777216)
 have e1 := Cc (n / 65536)
 have e2 := Cc (n / 256)
 have e3 := Cc n
 simp only [g4, at8, b4, List.cons_append, List.nil_append, List.getElem?_cons_zero, List.getElem?_cons_succ, Nat.zero_add, Option.getD_some]
 rw [e0, e1, e2, e3]
 omega
theorem OE (b : List UInt8) : ∀ (n a : Nat), a + 4 * n ≤ b.length → (EX b a n).flatMap b4 = (b.drop a).take (4 * n)
 | 0, a, _ => by simp [EX]
 | n + 1, a, h => by
   rw [KK, List.flatMap_append, OE b n a jB, List.flatMap_singleton, Zx b _ jB]
   rw [show 4 * (n + 1) = 4 * n + 4 by omega, List.take_add, List.drop_drop]
theorem dT (b : List UInt8) (i k : Nat) (h : i + 4 ≤ k) : g4 (b.take k) i = g4 b i := by
 have : ∀ j, j < k → at8 (b.take k) j = at8 b j := fun j hj => by simp [at8, List.getElem?_take, hj]
 unfold g4
 rw [this i jB, this (i + 1) jB, this (i + 2) jB, this (i + 3) jB]
theorem X1 (b : List UInt8) (h4 : 4 ≤ b.length) (hn : g4 b 0 ≤ 4000) (hl : 8 + 4 * (g4 b 0).toNat ≤ b.length) :
 wholeAt b ↔ Cw (EX b 4 (g4 b 0).toNat) ∧ A5 (EX b 4 (g4 b 0).toNat) = b.take (8 + 4 * (g4 b 0).toNat) := by
 have hg := IV b 0
 have hbody : Gh (EX b 4 (g4 b 0).toNat) = b.take (4 + 4 * (g4 b 0).toNat) := by
  unfold Gh GX
  rw [List.take_of_length_le (Nat.le_refl _), K3, Int.toNat_of_nonneg hg.1, OE b _ 4 jB, Zx b 0 jB, List.drop_zero, List.take_add]
 have hall : A5 (EX b 4 (g4 b 0).toNat) = b.take (4 + 4 * (g4 b 0).toNat) ++ b4 (sumOf (b.take (4 + 4 * (g4 b 0).toNat))) := by rw [A5, hbody]
 have hs := Tb (b.take (4 + 4 * (g4 b 0).toNat))
 have htake : b.take (8 + 4 * (g4 b 0).toNat) = b.take (4 + 4 * (g4 b 0).toNat) ++ b4 (g4 b (4 + 4 * (g4 b 0).toNat)) := by
  rw [Zx b _ jB, ← List.take_add]; congr 1; omega
 constructor
 · rintro ⟨_, _, _, q4, q5⟩
   exact ⟨q5, by rw [hall, htake, q4]⟩
 · rintro ⟨q5, q⟩
   refine ⟨h4, hn, hl, ?_, q5⟩
   rw [hall, htake] at q
   have q' := List.append_cancel_left q
   have e1 := Vd (sumOf (b.take (4 + 4 * (g4 b 0).toNat))) hs.1 jB []
   have e2 := Vd (g4 b (4 + 4 * (g4 b 0).toNat)) (IV _ _).1 (IV _ _).2 []
   rw [List.append_nil] at e1 e2
   rw [← e1, q', e2]
theorem HA {t : Tk} (h : BE t = 0) (i : Nat) : ∀ b ∈ spF t i, C9 b := fun b hb => by
 obtain ⟨⟨h1, h2⟩, h3, h4⟩ := Qj h i b hb
 obtain ⟨n, hn, n1, n2⟩ := Du (Cg h).2.2
 have h5 := (DA t).2
 unfold C9
 exact ⟨⟨h1, by omega⟩, h3, by omega⟩
def wr (L : List (List Int)) : List UInt8 := L.flatMap A5
def IX : List (List Int) → Nat → Nat
 | [], _ => 0
 | l :: L, p => if (A5 l).length ≤ p then IX L (p - (A5 l).length) + 1 else 0
def goodRc (l : List Int) : Prop := l.length ≤ 4000 ∧ Cw l
theorem PI : ∀ (l : List Int) (r : List UInt8), Cw l → (List.range l.length).map (fun i => g4 (l.flatMap b4 ++ r) (4 * i)) = l
 | [], _, _ => rfl
 | n :: l, r, h => by
   have hn := h n List.mem_cons_self
   have ih := PI l r fun m hm => h m (List.mem_cons_of_mem _ hm)
   rw [List.length_cons, List.range_succ_eq_map, List.map_cons, List.map_map, List.flatMap_cons, List.append_assoc]
   refine congr (congrArg List.cons (Vd n hn.1 jB _)) ?_
   · refine Eq.trans (List.map_congr_left fun i _ => ?_) ih
     have := Hk (b4 n ++ (l.flatMap b4 ++ r)) 4 (4 * i)
     rw [List.drop_left' (HT n)] at this
     show g4 (b4 n ++ (l.flatMap b4 ++ r)) (4 * (i + 1)) = _
     rw [this, Nat.mul_succ, Nat.add_comm]
theorem PE (l : List Int) (r : List UInt8) : A5 l ++ r = b4 l.length ++ (l.flatMap b4 ++ (b4 (sumOf (Gh l)) ++ r)) := by
 unfold A5
 conv => lhs; arg 1; arg 1; rw [Gh, GX, List.take_length]
 simp only [List.append_assoc]
theorem Yr {l : List Int} (h : goodRc l) (r : List UInt8) : g4 (A5 l ++ r) 0 = l.length := by
 rw [PE]; have := h.1; exact Vd _ jB jB _
theorem ZG {l : List Int} (h : goodRc l) (r : List UInt8) : EX (A5 l ++ r) 4 l.length = l := by
 unfold EX
 refine Eq.trans (List.map_congr_left fun i _ => ?_) (PI l (b4 (sumOf (Gh l)) ++ r) h.2)
 rw [← Hk, PE, List.drop_left' (HT _)]
theorem Xk {l : List Int} (h : goodRc l) (r : List UInt8) : wholeAt (A5 l ++ r) ∧ Bk (A5 l ++ r) = (l, (A5 l).length) := by
 have e := Yr h r
 have hl := Ep l
 have h1 := h.1
 have hf := ZG h r
 constructor
 · rw [X1 _ (by rw [List.length_append]; omega) (by rw [e]; omega) (by rw [e, List.length_append]; omega), e, Int.toNat_natCast, hf]
   exact ⟨h.2, by rw [← hl, List.take_left]⟩
 · unfold Bk
   rw [e, Int.toNat_natCast, hf, hl]
theorem Zh {l : List Int} (h : goodRc l) (r : List UInt8) {p : Nat} (hp : p < (A5 l).length) : ¬ wholeAt ((A5 l ++ r).take p) := fun hw => by
 have h4 := hw.1
 have hl := Ep l
 have h3 := hw.2.2.1
 rw [List.length_take] at h4 h3
 rw [dT _ 0 p jB, Yr h r, Int.toNat_natCast] at h3
 omega
theorem Rn : ∀ (L : List (List Int)), (∀ l ∈ L, goodRc l) → ∀ p, Dr ((wr L).take p) = (L.take (IX L p), (wr (L.take (IX L p))).length)
 | [], _, p => by
   rw [show wr [] = [] from rfl, List.take_nil, Nv (fun hw => by have := hw.1; simp at this)]
   rfl
 | l :: L, h, p => by
   have hg := h l List.mem_cons_self
   have ih := Rn L fun m hm => h m (List.mem_cons_of_mem _ hm)
   rw [show wr (l :: L) = A5 l ++ wr L from List.flatMap_cons]
   rw [IX]
   by_cases c : (A5 l).length ≤ p
   · obtain ⟨q, rfl⟩ : ∃ q, p = (A5 l).length + q := ⟨p - (A5 l).length, by omega⟩
     obtain ⟨w1, w2⟩ := Xk hg ((wr L).take q)
     rw [if_pos c, List.take_length_add_append, Lf w1, w2, List.drop_left, ih q, Nat.add_sub_cancel_left, List.take_succ_cons]
     rw [show wr (l :: L.take (IX L q)) = A5 l ++ wr (L.take (IX L q)) from List.flatMap_cons, List.length_append]
   · rw [if_neg c, Nv (Zh hg _ jB)]
     rfl
theorem Yn : ∀ (L : List (List Int)) (p : Nat), IX L p ≤ L.length
 | [], _ => Nat.le_refl _
 | l :: L, p => by
   rw [IX]; split
   · have := Yn L (p - (A5 l).length); rw [List.length_cons]; omega
   · exact Nat.zero_le _
theorem aY : ∀ (L : List (List Int)) (p : Nat), (wr (L.take (IX L p))).length ≤ p
 | [], _ => Nat.zero_le _
 | l :: L, p => by
   rw [IX]; split
   · have := aY L (p - (A5 l).length)
     rw [List.take_succ_cons, show wr (l :: L.take (IX L (p - (A5 l).length))) = A5 l ++ wr (L.take (IX L (p - (A5 l).length))) from List.flatMap_cons, List.length_append]
     omega
   · exact Nat.zero_le _
theorem WE : ∀ (L : List (List Int)) (p : Nat), IX L p < L.length → p < (wr (L.take (IX L p + 1))).length
 | [], _, h => absurd h (Nat.not_lt_zero _)
 | l :: L, p, h => by
   rw [IX] at h ⊢
   rw [List.take_succ_cons, show ∀ M, wr (l :: M) = A5 l ++ wr M from fun M => List.flatMap_cons, List.length_append]
   by_cases c : (A5 l).length ≤ p
   · rw [if_pos c] at h ⊢
     rw [List.length_cons] at h
     have := WE L (p - (A5 l).length) jB
     omega
   · rw [if_neg c]; omega
noncomputable def nkF (t : Tk) (i : Nat) : Nat := (spF t i).length
noncomputable def newK (t : Tk) (i : Nat) : List Int := ((spF t (i + 1)).drop (nkF t i)).map C8
noncomputable def HQ (t : Tk) (i : Nat) : List Int := (i : Int) :: newK t i
noncomputable def rsF (t : Tk) (i : Nat) : Nat := 12 + 4 * (nkF t (i + 1) - nkF t i)
noncomputable def byF (t : Tk) : Nat → Nat
 | 0 => 0
 | n + 1 => byF t n + rsF t n
noncomputable def CS (t : Tk) (n : Nat) : List (List Int) := (List.range n).map (HQ t)
noncomputable def dtF (t : Tk) (n : Nat) : List UInt8 := wr (CS t n)
theorem Mf (t : Tk) (i : Nat) : (HQ t i).length = 1 + (nkF t (i + 1) - nkF t i) := by
 unfold HQ newK nkF
 rw [List.length_cons, List.length_map, List.length_drop]; omega
theorem Zf (t : Tk) (i : Nat) : (A5 (HQ t i)).length = rsF t i := by
 rw [Ep, Mf]; unfold rsF; omega
theorem Ug (t : Tk) (n : Nat) : CS t (n + 1) = CS t n ++ [HQ t n] := by
 unfold CS; rw [List.range_succ, List.map_append]; rfl
theorem JF (t : Tk) (n : Nat) : (CS t n).length = n := by unfold CS; simp
theorem OK (t : Tk) (n : Nat) : dtF t (n + 1) = dtF t n ++ A5 (HQ t n) := by
 unfold dtF wr; rw [Ug, List.flatMap_append]; simp
theorem DQ (t : Tk) : ∀ n, (dtF t n).length = byF t n
 | 0 => rfl
 | n + 1 => by rw [OK, List.length_append, DQ t n, Zf]; rfl
theorem Ho (t : Tk) {k n : Nat} (h : k ≤ n) : (CS t n).take k = CS t k := by
 unfold CS
 rw [← List.map_take, List.take_range, Nat.min_eq_left h]
theorem dW (t : Tk) {k n : Nat} (h : k ≤ n) : ∃ r, dtF t n = dtF t k ++ r := by
 refine ⟨wr ((CS t n).drop k), ?_⟩
 unfold dtF wr
 rw [← List.flatMap_append, ← Ho t h, List.take_append_drop]
theorem Fu (t : Tk) {k n : Nat} (h : k ≤ n) : (dtF t n).take (byF t k) = dtF t k := by
 obtain ⟨r, e⟩ := dW t h
 rw [e, ← DQ, List.take_left]
theorem eW (t : Tk) (n : Nat) : byF t n < byF t (n + 1) := by
 show _ < byF t n + rsF t n
 unfold rsF; omega
theorem DB (t : Tk) {k n : Nat} (h : k ≤ n) : byF t k ≤ byF t n := by
 obtain ⟨d, rfl⟩ : ∃ d, n = k + d := ⟨n - k, by omega⟩
 clear h
 induction d with
 | zero => exact Nat.le_refl _
 | succ d ih => have := eW t (k + d); rw [← Nat.add_assoc]; omega
noncomputable def kpF (t : Tk) (b : Nat) : Nat → Nat
 | 0 => 0
 | n + 1 => if byF t (n + 1) ≤ b then n + 1 else kpF t b n
theorem Kq (t : Tk) (b : Nat) : ∀ n, kpF t b n ≤ n
 | 0 => Nat.le_refl _
 | n + 1 => by have := Kq t b n; rw [kpF]; split <;> omega
theorem TM (t : Tk) (b : Nat) : ∀ n, byF t (kpF t b n) ≤ b
 | 0 => Nat.zero_le _
 | n + 1 => by
   rw [kpF]; split
   · assumption
   · exact TM t b n
theorem UK (t : Tk) {b k : Nat} : ∀ n, k ≤ n → byF t k ≤ b → k ≤ kpF t b n
 | 0, h, _ => h
 | n + 1, h, hb => by
   rw [kpF]; split
   · exact h
   · by_cases e : k = n + 1
     · subst e; contradiction
     · exact UK t n jB hb
theorem Vq (t : Tk) {b k n : Nat} (hk : k ≤ n) (h1 : byF t k ≤ b) (h2 : k = n ∨ b < byF t (k + 1)) : kpF t b n = k := by
 have a1 := UK t n hk h1
 rcases Nat.lt_or_ge k (kpF t b n) with a2 | a2
 · have a3 := Kq t b n
   have a4 := TM t b n
   have a5 := DB t (k := k + 1) (n := kpF t b n) a2
   omega
 · omega
theorem fm (t : Tk) (b n : Nat) : kpF t (min b (byF t n)) n = kpF t b n := by
 refine Vq t (Kq t b n) ?_ ?_
 · have := TM t b n
   have := DB t (Kq t b n)
   omega
 · by_cases e : kpF t b n = n
   · exact .inl e
   · refine .inr ?_
     have h1 := Kq t b n
     rcases Nat.lt_or_ge b (byF t (kpF t b n + 1)) with h | h
     · omega
     · have := UK t n (k := kpF t b n + 1) jB h
       omega
theorem fH (t : Tk) (n p : Nat) : IX (CS t n) p = kpF t p n := by
 have h1 := Yn (CS t n) p
 rw [JF] at h1
 refine (Vq t h1 ?_ ?_).symm
 · have := aY (CS t n) p
   rw [Ho t h1] at this
   rw [← DQ]; exact this
 · by_cases e : IX (CS t n) p = n
   · exact .inl e
   · have := WE (CS t n) p (by rw [JF]; omega)
     rw [Ho t jB] at this
     refine .inr ?_
     rw [← DQ]; exact this
theorem VX {t : Tk} {n : Nat} (hg : ∀ i, i < n → goodRc (HQ t i)) (p : Nat) : Dr ((dtF t n).take p) = (CS t (kpF t p n), byF t (kpF t p n)) := by
 have h := Rn (CS t n) (fun l hl => by
  unfold CS at hl
  obtain ⟨i, hi, rfl⟩ := List.mem_map.1 hl
  exact hg i (List.mem_range.1 hi)) p
 rw [fH, Ho t (Kq t p n)] at h
 rw [← DQ]; exact h
theorem K7 : ∀ (bs sp : List Fo), (BQ sp bs).1.length ≤ sp.length + bs.length
 | [], sp => Nat.le_refl _
 | b :: bs, sp => by
   have h := K7 bs (ER sp b)
   have h2 : (ER sp b).length ≤ sp.length + 1 := by unfold ER; split <;> simp
   rw [BQ, List.length_cons]; dsimp only; omega
theorem UJ {n : Nat} {l : List Int} : (HJ n l).length ≤ l.length := by
 have hn : (HJ n l).Nodup := (Va n l).imp fun h => by omega
 exact List.Nodup.length_le_of_subset hn fun x hx => (Nr hx).2.2
theorem bR {m : Md} (hm : AT m = 0) (c : Int) : (D3 m c).1.length ≤ 13 := by
 unfold D3
 split
 · exact Nat.zero_le _
 · dsimp only
   split
   · simp
   · have h1 := J9 m (BK m c).1 m.rules
     have h2 := UJ (n := (AR m.vars).toNat) (l := B6 m (BK m c).1 m.rules)
     have h3 := J5 hm
     omega
theorem IT {t : Tk} (h : BE t = 0) (st cl : Int) : (Ai t st cl).1.length ≤ 832 := by
 unfold Ai
 split
 · exact Nat.zero_le _
 · split
   · exact Nat.zero_le _
   · have h1 := I7 t st cl (D3 t.model st).1
     have h2 := bR (Cg h).2.2 st
     dsimp only
     omega
section
variable {t : Tk} {e : Exp}
theorem Grown.rooms (g : Grown t e) : spF t e.spots.length = e.spots := g.spots.symm
theorem Grown.nk (g : Grown t e) {i : Nat} (h : i ≤ e.spots.length) : nkF t i ≤ e.spots.length := by
 have := LM t h
 rw [g.rooms] at this
 exact this
theorem Grown.goodRc (g : Grown t e) {i : Nat} (h : i < e.spots.length) : goodRc (HQ t i) := by
 have h1 := g.step h
 have h2 := K7 (Ai t e.spots[i].kind e.spots[i].val).1 (spF t i)
 have h3 := IT g.task e.spots[i].kind e.spots[i].val
 have h4 := g.few
 constructor
 · rw [Mf]; unfold nkF; rw [h1.1]; omega
 · intro n hn
   unfold HQ newK at hn
   rcases List.mem_cons.1 hn with rfl | hn
   · omega
   · obtain ⟨b, hb, rfl⟩ := List.mem_map.1 hn
     exact Uf (HA g.task _ b (List.mem_of_mem_drop hb))
end
structure Ms where
 up : Bool
 n : Nat
 s : Nat
 m : Nat
 a : Nat
def Tq : Ms := ⟨true, 0, 0, 0, 0⟩
def Ms.go (x : Ms) : Ms := ⟨x.up, x.n + 1, x.s, max x.m (x.n + 1), if x.n < x.m then x.a + 1 else x.a⟩
def JZ (t : Tk) (x : Ms) : Prop := x.n < nkF t x.n ∧ byF t (x.n + 1) ≤ 1048576
noncomputable instance (t : Tk) (x : Ms) : Decidable (JZ t x) := by unfold JZ; infer_instance
noncomputable def wkF (t : Tk) : Nat → Ms → Ms
 | 0, x => x
 | k + 1, x => if JZ t x then wkF t k x.go else x
noncomputable def mvF (t : Tk) (x : Ms) (m : Fo) : Ms :=
 if m.kind = 4 then ⟨true, x.n, x.s, x.m, x.a⟩
 else if x.up = false then x
 else if m.kind = 1 then wkF t m.val.toNat x
 else if m.kind = 2 then ⟨x.up, x.n, x.n, x.m, x.a⟩
 else ⟨false, kpF t (byF t x.s + m.val.toNat) x.n, kpF t (byF t x.s + m.val.toNat) x.n, x.m, x.a⟩
noncomputable def runM (t : Tk) (l : List Fo) : Ms := l.foldl (mvF t) Tq
noncomputable def gN (t : Tk) (x : Ms) : Ou :=
 ⟨x.up, nkF t x.n, x.n, x.s, x.a, x.up && decide (x.n = nkF t x.n), x.up && decide (x.n = nkF t x.n) && decide ((EE (exG t)).2 ≠ 0)⟩
noncomputable def Bu (t : Tk) (l : List Fo) : Ou × Int :=
 if (An t).2 ≠ 0 then (Ov, (An t).2)
 else if GH l ≠ 0 then (Ov, GH l)
 else (gN t (runM t l), 0)
structure MsI (t : Tk) (e : Exp) (x : Ms) : Prop where
 s : x.s ≤ x.n
 n : x.n ≤ x.m
 m : x.m ≤ e.spots.length
 b : byF t x.n ≤ 1048576
section
variable {t : Tk} {e : Exp}
theorem MsI.nil : MsI t e Tq := ⟨Nat.le_refl _, Nat.le_refl _, Nat.zero_le _, Nat.zero_le _⟩
theorem MsI.nN {x : Ms} (h : MsI t e x) : x.n ≤ e.spots.length := Nat.le_trans h.n h.m
theorem Grown.nk_at (g : Grown t e) {i : Nat} (h : i < e.spots.length) : i < nkF t i := g.room i h
theorem Grown.nk_end (g : Grown t e) : nkF t e.spots.length = e.spots.length := by unfold nkF; rw [g.rooms]
theorem MsI.lt (g : Grown t e) {x : Ms} (h : MsI t e x) (hk : x.n < nkF t x.n) : x.n < e.spots.length := by
 have := g.nk h.nN
 omega
theorem MsI.go (g : Grown t e) {x : Ms} (h : MsI t e x) (hk : JZ t x) : MsI t e x.go := by
 have h1 := h.lt g hk.1
 have h2 := h.m
 have h3 := h.s
 exact ⟨show x.s ≤ x.n + 1 by omega, show x.n + 1 ≤ max x.m (x.n + 1) by omega, show max x.m (x.n + 1) ≤ _ by omega, hk.2⟩
theorem MsI.wk (g : Grown t e) : ∀ (k : Nat) {x : Ms}, MsI t e x → MsI t e (wkF t k x)
 | 0, x, h => h
 | k + 1, x, h => by
   rw [wkF]; split
   · exact MsI.wk g k (h.go g (by assumption))
   · exact h
theorem Td (t : Tk) : ∀ (k : Nat) (x : Ms), x.a ≤ (wkF t k x).a ∧ (wkF t k x).a + x.n ≤ x.a + (wkF t k x).n ∧ x.n ≤ (wkF t k x).n
 | 0, x => ⟨Nat.le_refl _, Nat.le_refl _, Nat.le_refl _⟩
 | k + 1, x => by
   rw [wkF]; split
   · have h := Td t k x.go
     have h1 : x.go.a ≤ x.a + 1 ∧ x.a ≤ x.go.a := by unfold Ms.go; dsimp only; split <;> omega
     have h2 : x.go.n = x.n + 1 := rfl
     omega
   · exact ⟨Nat.le_refl _, Nat.le_refl _, Nat.le_refl _⟩
theorem MsI.mv (g : Grown t e) {x : Ms} (h : MsI t e x) (m : Fo) : MsI t e (mvF t x m) := by
 unfold mvF
 split
 · exact ⟨h.s, h.n, h.m, h.b⟩
 split
 · exact h
 split
 · exact h.wk g _
 split
 · exact ⟨Nat.le_refl _, h.n, h.m, h.b⟩
 · have h1 := Kq t (byF t x.s + m.val.toNat) x.n
   have h2 := h.n
   have h3 := DB t h1
   have h4 := h.b
   exact ⟨Nat.le_refl _, Nat.le_trans h1 h2, h.m, Nat.le_trans h3 h4⟩
theorem Z3 (g : Grown t e) {x : Ms} (h : MsI t e x) (m : Fo) : (mvF t x m).a ≤ x.a + 20000 := by
 have hN := g.few
 unfold mvF
 split
 · exact Nat.le_add_right _ _
 split
 · exact Nat.le_add_right _ _
 split
 · have h1 := Td t m.val.toNat x
   have h2 := (h.wk g m.val.toNat).nN
   omega
 split <;> exact Nat.le_add_right _ _
end
def mxF : Int → List Int → Int
 | n, [] => n
 | n, p :: ps => mxF (if n ≤ p then p + 1 else n) ps
theorem gj (n : Int) (l : List Int) (i : Nat) (h : i < l.length) : mxF n (l.drop i) = mxF (if n ≤ l[i] then l[i] + 1 else n) (l.drop (i + 1)) := by
 rw [ja h, mxF]
theorem Z2 : ∀ (bs sp : List Fo), mxF (sp.length : Int) (BQ sp bs).2 = ((BQ sp bs).1.length : Int)
 | [], sp => rfl
 | b :: bs, sp => by
   have e : (if (sp.length : Int) ≤ (plc b sp : Int) then (plc b sp : Int) + 1 else (sp.length : Int)) = ((ER sp b).length : Int) := by
    by_cases h : b ∈ sp
    · have := Uv.1 h
      rw [if_neg jB, Qn h]
    · rw [MC h, if_pos (Int.le_refl _), MV h, List.length_append]; rfl
   rw [BQ]; dsimp only
   rw [mxF, e]
   exact Z2 bs (ER sp b)
theorem iC (t : Tk) (i : Nat) : mxF (nkF t i : Int) (plF t i) = (nkF t (i + 1) : Int) := by
 unfold nkF
 rw [spF, plF]
 cases (spF t i)[i]? with
 | none => rfl
 | some s => exact Z2 _ _
theorem MJ (t : Tk) {i j : Nat} (h : i ≤ j) : nkF t i ≤ nkF t j := LM t h
noncomputable def nwF (sp bs : List Fo) (k : Nat) : List Fo := (BQ sp (bs.take k)).1.drop sp.length
theorem LX (sp bs : List Fo) (k : Nat) : (BQ sp (bs.take k)).1 = sp ++ nwF sp bs k := by
 obtain ⟨r, h⟩ := Kw (bs.take k) sp
 unfold nwF; rw [h, List.drop_left]
theorem dr (sp bs : List Fo) : nwF sp bs 0 = [] := by unfold nwF; simp [BQ]
theorem b9 (sp bs : List Fo) (k : Nat) (h : k < bs.length) : nwF sp bs (k + 1) = if bs[k] ∈ sp ++ nwF sp bs k then nwF sp bs k else nwF sp bs k ++ [bs[k]] := by
 have e := JO bs sp k h
 have e1 := congrArg Prod.fst e
 rw [LX, LX] at e1
 dsimp only at e1
 unfold ER at e1
 split at e1
 · rw [if_pos (by assumption)]; exact List.append_cancel_left e1
 · rw [if_neg (by assumption)]
   rw [List.append_assoc] at e1
   exact List.append_cancel_left e1
theorem gK (sp bs : List Fo) (k : Nat) : (nwF sp bs k).length ≤ k := by
 have h := K7 (bs.take k) sp
 rw [LX, List.length_append, List.length_take] at h
 omega
section
variable {t : Tk} {e : Exp}
theorem Grown.nw (g : Grown t e) {i : Nat} (h : i < e.spots.length) : spF t (i + 1) = spF t i ++ nwF (spF t i) (Ai t e.spots[i].kind e.spots[i].val).1 (Ai t e.spots[i].kind e.spots[i].val).1.length := by
 rw [(g.step h).1, ← LX, List.take_length]
theorem Grown.newK (g : Grown t e) {i : Nat} (h : i < e.spots.length) : newK t i = (nwF (spF t i) (Ai t e.spots[i].kind e.spots[i].val).1 (Ai t e.spots[i].kind e.spots[i].val).1.length).map C8 := by
 unfold Go.Sp.newK nkF
 rw [g.nw h, List.drop_left]
theorem Grown.rs (t : Tk) (i : Nat) : (rsF t i : Int) = 12 + 4 * ((nkF t (i + 1) : Int) - nkF t i) := by
 have := MJ t (Nat.le_add_right i 1)
 unfold rsF; omega
end
theorem Zq {α : Type} {l : List α} (h : l.Nodup) {i : Nat} (hi : i < l.length) : l[i] ∉ l.take i := fun hm => by
 obtain ⟨j, hj, e⟩ := List.getElem_of_mem hm
 rw [List.getElem_take] at e
 have := (List.getElem_inj h).1 e
 rw [List.length_take] at hj; omega
theorem PJ {α : Type} {l r : List α} (h : (l ++ r).Nodup) {i : Nat} (hi : i < r.length) : r[i] ∉ l ++ r.take i := by
 have h1 := Zq h (i := l.length + i) (by rw [List.length_append]; omega)
 rw [List.getElem_append_right jB, List.take_length_add_append] at h1
 simpa using h1
theorem I8 {t : Tk} {x : Ms} (h : ¬ JZ t x) : ∀ k, wkF t k x = x
 | 0 => rfl
 | k + 1 => by rw [wkF, if_neg h]
theorem L7 {t : Tk} {x : Ms} (h : JZ t x) (k : Nat) : wkF t (k + 1) x = wkF t k x.go := by rw [wkF, if_pos h]
theorem YO {b : Nat} : ∀ (l : List Nat), (∀ x ∈ l, x ≤ b) → l.sum ≤ l.length * b
 | [], _ => Nat.zero_le _
 | x :: l, h => by
   have h1 := YO l fun y hy => h y (List.mem_cons_of_mem _ hy)
   have h2 := h x List.mem_cons_self
   rw [List.sum_cons, List.length_cons, Nat.succ_mul]; omega
theorem bI {t : Tk} (h : BE t = 0) (i : Nat) : (plF t i).length ≤ 832 := by
 unfold plF
 split
 · exact Nat.zero_le _
 · rw [Ez]; exact IT h _ _
section
variable {t : Tk} {e : Exp}
theorem Grown.ways (g : Grown t e) {init am : Int} (g' : Gn) (h : g'.gr = ⟨e.spots, init, e.next, e.sets, am⟩) : g'.ways g'.next.length ≤ 68719476736 := by
 have hn : e.next = g'.next.map (·.map fun k : Nat => (k : Int)) := (congrArg Gr.next h).symm
 have hl : g'.next.length = e.spots.length := by
  have := congrArg List.length hn
  rw [g.next, List.length_map, List.length_map, List.length_range] at this
  exact this.symm
 have hb : ∀ x ∈ (g'.next.take g'.next.length).map List.length, x ≤ 832 := by
  intro x hx
  obtain ⟨r, hr, rfl⟩ := List.mem_map.1 hx
  have hr' := List.mem_of_mem_take hr
  have h1 : r.map (fun k : Nat => (k : Int)) ∈ e.next := by rw [hn]; exact List.mem_map.2 ⟨r, hr', rfl⟩
  rw [g.next] at h1
  obtain ⟨i, _, hi⟩ := List.mem_map.1 h1
  have h2 := bI g.task i
  rw [hi, List.length_map] at h2
  exact h2
 have h3 := YO _ hb
 have h4 := g.few
 unfold Gn.ways
 rw [List.length_map, List.length_take, Nat.min_self, hl] at h3
 rw [hl]
 have : e.spots.length * 832 ≤ 20000 * 832 := Nat.mul_le_mul_right _ h4
 omega
end
theorem Vs (t : Tk) {s n N : Nat} {many : Nat} (h2 : n ≤ N) (h3 : byF t n ≤ byF t s + many) (h4 : n = N ∨ byF t s + many < byF t (n + 1)) : kpF t (byF t s + many) N = n := Vq t h2 h3 h4
end Go.Sp
