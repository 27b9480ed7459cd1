/- Own texts. -/
import Derived.Test.YtnlfhnbcdfdhgaaGreatDoorA24
set_option linter.unusedVariables false
set_option linter.unusedSimpArgs false
set_option maxRecDepth 100000
set_option maxHeartbeats 4000000
namespace Go.Proofs.YtnlfhnbcdfdhgaaGreatDoor
open Go Go.Av Go.Sp
theorem Mb : Cal Tryz.prog 152 := Cal.of Tryz.func152 (by kernel_rfl) (by kernel_rfl)
theorem PY : Cal Tryz.prog 101 := Cal.of Tryz.func101 (by kernel_rfl) (by kernel_rfl)
theorem Ku : Cal Tryz.prog 57 := Cal.of Tryz.func57 (by kernel_rfl) (by kernel_rfl)
theorem L9 {x y : Int} (j : Nat) (hx0 : 0 ≤ x) (hx : x % 2 ^ j = 0) (hx1 : x < 2 ^ 63) (hy0 : 0 ≤ y) (hy : y < 2 ^ j) (hj : (2 : Int) ^ j < 2 ^ 63) : bits .or .i64 x y = x + y :=
 bits_join .i64 63 (by decide) EZ j x y hx0 hx hx1 hy0 hy (Int.lt_trans hy hj)
theorem or4 {a b c d : Int} (ha : 0 ≤ a ∧ a ≤ 255) (hb : 0 ≤ b ∧ b ≤ 255) (hc : 0 ≤ c ∧ c ≤ 255) (hd : 0 ≤ d ∧ d ≤ 255) :
 bits .or .i64 (bits .or .i64 (bits .or .i64 (a * 16777216) (b * 65536)) (c * 256)) d = 16777216 * a + 65536 * b + 256 * c + d := by
 rw [L9 (x := a * 16777216) (y := b * 65536) 24 jB jB jB jB jB (by decide)]
 rw [L9 (y := c * 256) 16 jB jB jB jB jB (by decide)]
 rw [L9 (y := d) 8 jB jB jB jB jB (by decide)]
 omega
theorem gM (G : List (Nat × List D)) (b : List UInt8) (h : 4 ≤ b.length) : ACr Tryz.prog G 152 [.d (CT b)] (.int (g4 b 0)) := by
 refine Cz (ts := [2]) Tryz.f152.ntmps Tryz.func152 rfl rfl rfl (by simp [Tryz.ntmps152]) fun W I => ?_
 have q0 := (b[0]).toNat_lt
 have q1 := (b[0 + 1]).toNat_lt
 have q2 := (b[1 + 1]).toNat_lt
 have q3 := (b[2 + 1]).toNat_lt
 repeat' (first | exact jA | refine stp ?_ | refine two ?_ ?_ | refine imp fun hc => ?_; try exact cx hc | refine all fun v_ => ?_)
 ((with_reducible apply rq1); rfl; rfl)
 refine AA (congrArg AV.int ?_)
 simp only [Int.reduceToNat, Int.reducePow, Nat.zero_add, Nat.reduceAdd]
 simp only [Nat.zero_add, Nat.reduceAdd] at q1 q2 q3
 rw [or4 jB jB jB jB, g4, GV _ _ jB, GV _ _ jB, GV _ _ jB, GV _ _ jB]
def Gi (b : List UInt8) : List Int × Int × Bool := if wholeAt b then ((Bk b).1, ((Bk b).2 : Int), true) else ([], 0, false)
theorem HL {b : List UInt8} (h : ¬ wholeAt b) : Gi b = ([], 0, false) := by rw [Gi, if_neg h]
theorem NO {p q : Prop} (hp : p) (h : p → q := by
 apply cmp; (focus (first
  | ((with_reducible apply GR); rfl; exact Mb; (focus exact gM _ _ (by first | omega | (rw [List.length_drop]; omega))); rfl)
  | ((with_reducible apply Cs); rfl; decide +kernel; rfl; exact Mb; (focus exact gM _ _ (by first | omega | (rw [List.length_drop]; omega))); rfl)
  ))
 exact fun h => h) : q := h hp
theorem Ml {p q : Prop} (hp : p) (h : p → q := by
 apply cmp; (focus (first
  | ((with_reducible apply eK); rfl; exact Mb; (focus exact gM _ _ (by first | omega | (rw [List.length_drop]; omega))); rfl)
  ))
 exact fun h => h) : q := h hp
theorem first (G : List (Nat × List D)) (b : List UInt8) (hb : b.length * 1 ≤ 140737488355328) : ACr Tryz.prog G 101 [.d (CT b)] (.tup [.d (AJ (Gi b).1), .int (Gi b).2.1, .bool (Gi b).2.2]) := by
 refine AK (ts := [2, 3, 4]) Tryz.f101.ntmps Tryz.func101 rfl rfl rfl (by simp [Tryz.ntmps101]) fun W I => ?_
 have hg := IV b 0
 repeat' (first | refine NO ?_ | refine ca Er (Sum _ _) ?_ | refine Ml ?_ | refine caq Er (Sum _ _) ?_ | exact jA | refine AP ?_ | refine two ?_ ?_ | refine imp fun hc => ?_; try exact cx hc | refine all fun v_ => ?_)
 · refine AI (Cj (t := 2) 1 8 rfl) ?_
   ((with_reducible apply rq3); rfl; rfl; rfl; rfl)
   refine AA ?_
   rw [HL (fun hw => by have := hw.1; omega)]; rfl
 · refine AI (Cj (t := 2) 1 8 rfl) ?_
   ((with_reducible apply rq3); rfl; rfl; rfl; rfl)
   refine AA ?_
   rw [HL (fun hw => by have := hw.2.1; omega)]; rfl
 · refine AI (Cj (t := 2) 1 8 rfl) ?_
   ((with_reducible apply rq3); rfl; rfl; rfl; rfl)
   refine AA ?_
   rw [HL (fun hw => by have := hw.2.2.1; omega)]; rfl
 · refine AI (Cj (t := 2) 1 8 rfl) ?_
   ((with_reducible apply rq3); rfl; rfl; rfl; rfl)
   refine AA ?_
   rw [HL (fun hw => by
    have e : (4 + 4 * g4 b 0).toNat = 4 + 4 * (g4 b 0).toNat := by omega
    rw [e, Hk] at hc
    exact hc hw.2.2.2.1)]
   rfl
 have e : (4 + 4 * g4 b 0).toNat = 4 + 4 * (g4 b 0).toNat := by omega
 rw [e, Hk] at hc
 have hs := jY hc
 obtain ⟨N, hN⟩ : ∃ N : Nat, g4 b 0 = N := ⟨(g4 b 0).toNat, by omega⟩
 have hN' : (g4 b 0).toNat = N := by omega
 refine Db (E := 3) (sz := 1) AS ?_
 refine Dn (X := Nat × Sl) (fun y => [(0, .d (CT b)), (6, .int (4 + 4 * g4 b 0)), (7, .val y.2.v), (8, .int (4 + 4 * y.1))]) (fun y => [AL y.2.v 3 1 AS (EX b 4 y.1)]) (fun y => y.1 ≤ N ∧ Cw (EX b 4 y.1)) (fun y => N - y.1) (0, Sl.nil) ⟨Nat.zero_le _, fun n hn => by simp [EX] at hn⟩ ?_ rfl ?_
 · exact leD
 rintro ⟨j, q⟩ ⟨h1, h2⟩
 dsimp only at h1 h2 ⊢
 have hlen := K3 b 4 j
 have ej : ((4 : Int) + 4 * j).toNat = 4 + 4 * j := by omega
 have hk := IV b (4 + 4 * j)
 by_cases hj : j < N
 · repeat' (first | refine NO ?_ | refine ca Er (Sum _ _) ?_ | refine Ml ?_ | refine caq Er (Sum _ _) ?_ | exact jA | refine AP ?_ | refine two ?_ ?_ | refine imp fun hc => ?_; try exact cx hc | refine all fun v_ => ?_)
   · refine AI (VS.trans jE (Cj (t := 2) 1 8 rfl)) ?_
     ((with_reducible apply rq3); rfl; rfl; rfl; rfl)
     refine AA ?_
     rw [HL (fun hw => ?_)]
     · rfl
     · have := hw.2.2.2.2 (g4 b (4 + 4 * j)) (by rw [hN']; exact List.mem_map.2 ⟨j, List.mem_range.2 hj, rfl⟩)
       rw [ej, Hk, Nat.add_zero] at hc
       omega
   · rw [ej, Hk, Nat.add_zero] at hc
     refine ⟨(j + 1, v_), ⟨by dsimp only; omega, ?_⟩, jC, ?_, ?_⟩
     · dsimp only
       rw [KK]
       intro n hn
       rcases List.mem_append.1 hn with hn | hn
       · exact h2 n hn
       · rw [List.mem_singleton.1 hn]; omega
     · exact leD
     · dsimp only
       rw [KK, ej, Hk, Nat.add_zero]
 · obtain rfl : j = N := by omega
   repeat' (first | refine NO ?_ | refine ca Er (Sum _ _) ?_ | refine Ml ?_ | refine caq Er (Sum _ _) ?_ | exact jA | refine AP ?_ | refine two ?_ ?_ | refine imp fun hc => ?_; try exact cx hc | refine all fun v_ => ?_)
   refine AI (Bq (t := 2) (eb := 8) rfl rfl (fun x => rfl) (by rw [hlen]; omega)) ?_
   ((with_reducible apply rq3); rfl; rfl; rfl; rfl)
   refine AA ?_
   have hw : wholeAt b := ⟨by omega, by omega, by omega, by rw [Nat.add_zero] at hs; exact hs, by rw [hN']; exact h2⟩
   rw [Gi, if_pos hw]
   simp only [Bk, hN']
   have e3 : (4 + 4 * g4 b 0 + 4 : Int) = ((8 + 4 * j : Nat) : Int) := by omega
   rw [e3]
theorem Read (G : List (Nat × List D)) (t : Tp) : ACr Tryz.prog G 57 [tpA t] (.tup [.d (AX (Hx t).1.1), .int (Hx t).1.2, .int (Hx t).2]) := by
 refine AK (ts := [2, 3, 4]) Tryz.f57.ntmps Tryz.func57 rfl rfl rfl (by simp [Tryz.ntmps57]) fun W I => ?_
 by_cases hm : FE t
 · have hlen := hm.1
   repeat' (first | refine cae Be (ED _ _ hm) ?_ | refine ca Be (EN _ _ hm) ?_ | exact jA | refine AP ?_ | refine two ?_ ?_ | refine imp fun hc => ?_; try exact cx hc | refine all fun v_ => ?_)
   rename_i bt qd
   refine Db (E := 49) (sz := 1) BP ?_
   refine AG (X := List (List Int) × Nat × Sl) (fun y => [(5, .val (.pointer (some ⟨v_, 0, none⟩))), (7, .val y.2.2.v), (8, .int y.2.1)]) (fun y => [AL y.2.2.v 49 1 BP y.1, .cells v_ 80 [.d (CT t.data), .int t.synced]]) (fun y => NZ t.data y.1 y.2.1 ∧ y.1.length ≤ y.2.1) (fun y => t.data.length - y.2.1) ([], 0, Sl.nil) ⟨Rq _, Nat.zero_le _⟩
    (VS.trans (VS.drop (h' := [AL Sl.nil.v 49 1 BP [], .cells v_ 80 [.val qd.v, .int t.synced], AL qd.v 5 1 Dp t.data]) IE) (VS.trans (EA (h1 := [_, _]) 1 rfl rfl (fun _ => rfl) jB (CvE.refl _ _ _) (CvH.keep (CvH.cells (.cons .here (.cons (.same _) .nil)) (.refl _)))) (VS.of_le ?_))) ?_
   · exact leD
   rintro ⟨l, a, q⟩ ⟨h1, h2⟩
   dsimp only at h1 h2 ⊢
   have h3 := h1.1
   by_cases hw : wholeAt (t.data.drop a)
   · have ef : Gi (t.data.drop ((a : Int)).toNat) = ((Bk (t.data.drop a)).1, ((Bk (t.data.drop a)).2 : Int), true) := by rw [Int.toNat_natCast, Gi, if_pos hw]
     have hq := IN hw
     rw [List.length_drop] at hq
     have F := first G (t.data.drop (a : Int).toNat) (by rw [List.length_drop]; omega)
     rw [ef] at F
     dsimp only at F
     repeat' (first | refine ca PY (F) ?_ | exact jA | refine AP ?_ | refine two ?_ ?_ | refine imp fun hc => ?_; try exact cx hc | refine all fun v_ => ?_)
     refine ⟨(l ++ [(Bk (t.data.drop a)).1], a + (Bk (t.data.drop a)).2, v_), ⟨Tf h1 hw, ?_⟩, ?_, VS.of_le ?_⟩
     · dsimp only; rw [List.length_append, List.length_singleton]; omega
     · dsimp only; omega
     · exact leD
   · have ef : Gi (t.data.drop ((a : Int)).toNat) = ([], 0, false) := by rw [Int.toNat_natCast, Gi, if_neg hw]
     have F := first G (t.data.drop (a : Int).toNat) (by rw [List.length_drop]; omega)
     rw [ef] at F
     dsimp only at F
     repeat' (first | refine ca PY (F) ?_ | exact jA | refine AP ?_ | refine two ?_ ?_ | refine imp fun hc => ?_; try exact cx hc | refine all fun v_ => ?_)
     refine AI (VS.trans (VS.drop (h' := [AL q.v 49 1 BP l]) IE) (Bq (t := 2) (eb := 24) rfl rfl (fun x => rfl) jB)) ?_
     ((with_reducible apply rq3); rfl; rfl; rfl; rfl)
     exact AA (by rw [Hx, if_pos hm, U9 h1 hw])
 · repeat' (first | refine cae Be (ED _ _ hm) ?_ | refine ca Be (EN _ _ hm) ?_ | exact jA | refine AP ?_ | refine two ?_ ?_ | refine imp fun hc => ?_; try exact cx hc | refine all fun v_ => ?_)
   refine AI (VS.trans jE (Cj (t := 2) 1 24 rfl)) ?_
   ((with_reducible apply rq3); rfl; rfl; rfl; rfl)
   refine AA ?_
   have e : Hx t = (([], 0), 9) := if_neg hm
   rw [e]; rfl
end Go.Proofs.YtnlfhnbcdfdhgaaGreatDoor
namespace Go.Sp
open Go Go.Av
structure Sr where
 up : Bool
 thr : Int
 most : Int
 tape : Tp
 out : Ou
end Go.Sp
namespace Go.Proofs.YtnlfhnbcdfdhgaaGreatDoor
open Go Go.Av Go.Sp
theorem JG : Cal Tryz.prog 95 := Cal.of Tryz.func95 (by kernel_rfl) (by kernel_rfl)
theorem Nl : Cal Tryz.prog 97 := Cal.of Tryz.func97 (by kernel_rfl) (by kernel_rfl)
theorem Ns : Cal Tryz.prog 52 := Cal.of Tryz.func52 (by kernel_rfl) (by kernel_rfl)
abbrev skD (bs : Nat) (t : Tk) (q : Sl) (a b : AV) (r : Sr) : Ent :=
 .cells bs 82 [.d (Au t.model.vars), .d (Ae t.model.rules), .d (Ar t.props), .d (AO t.formula), .bool r.up, .val q.v, a, b, .int r.thr, .int r.most, .d (CT r.tape.data), .int r.tape.synced, .bool r.out.up, .int r.out.found, .int r.out.thr, .int r.out.safe, .int r.out.again, .bool r.out.done, .bool r.out.holds]
abbrev skC (bs : Nat) (t : Tk) (q : Sl) (s : Sto) (r : Sr) : Ent := skD bs t q (.d (AJ s.loose)) (.d (AX s.runs)) r
abbrev skH (bs : Nat) (t : Tk) (l : List Fo) (r : Sr) (v : Sl × Sto) : H := [skC bs t v.1 v.2 r, AL v.1.v 106 2 Fo.cells l]
theorem X7 {s : Fo} (h : C9 s) : bits .or .i64 (s.kind * 64) s.val = C8 s :=
 L9 6 (by obtain ⟨⟨a, b⟩, c, d⟩ := h; omega) jB (by obtain ⟨⟨a, b⟩, c, d⟩ := h; omega) h.2.1 (by obtain ⟨⟨a, b⟩, c, d⟩ := h; omega) (by decide)
theorem keyOf (G : List (Nat × List D)) (s : Fo) (h : C9 s) : ACr Tryz.prog G 95 [.agg [.int s.kind, .int s.val]] (.int (C8 s)) := by
 refine AK (ts := [2]) Tryz.f95.ntmps Tryz.func95 rfl rfl rfl (by simp [Tryz.ntmps95]) fun W I => ?_
 have hb := X7 h
 obtain ⟨⟨h1, h2⟩, h3, h4⟩ := h
 repeat' (first | exact jA | refine AP ?_ | refine two ?_ ?_ | refine imp fun hc => ?_; try exact cx hc | refine all fun v_ => ?_)
 refine AI jE ?_
 ((with_reducible apply rq1); rfl; rfl)
 exact AA (by rw [← hb, show (2 : Int) ^ Int.toNat 6 = 64 by decide])
theorem bY (G : List (Nat × List D)) (s : Fo) (h : C9 s) : ACr Tryz.prog G 97 [.int (C8 s)] (.agg [.int s.kind, .int s.val]) := by
 refine BV (rs := [.cell 2 106]) Tryz.f97.ntmps Tryz.func97 rfl rfl rfl (by simp [Tryz.ntmps97]) fun W I => ?_
 have hk := YZ h
 obtain ⟨⟨h1, h2⟩, h3, h4⟩ := h
 repeat' (first | exact jA | refine AP ?_ | refine two ?_ ?_ | refine imp fun hc => ?_; try exact cx hc | refine all fun v_ => ?_)
 have e1 : C8 s / 2 ^ Int.toNat 6 = s.kind := by
  rw [show (2 : Int) ^ Int.toNat 6 = 64 by decide]
  exact congrArg Fo.kind hk
 have e2 : bits .and .i64 (C8 s) 63 = s.val := by
  have h0 : 0 ≤ C8 s := by unfold C8; omega
  have h5 : C8 s ≤ 9223372036854775807 := by unfold C8; omega
  have := bits_mask .i64 63 (by decide) EZ 6 (by decide) (C8 s) h0 jB
  exact this.trans (congrArg Fo.val hk)
 rw [e1, e2]
 exact Mv (xs := [.agg [.int s.kind, .int s.val]]) ⟨Ax rfl (by (with_reducible exact ElC.h)) rfl AW rfl, trivial⟩ rfl (h' := []) (jc _) (AA rfl)
theorem MB : Cal Tryz.prog 141 := Cal.of Tryz.func141 (by kernel_rfl) (by kernel_rfl)
theorem own (G : List (Nat × List D)) (s : Sto) : AC Tryz.prog G 141 [stA s] [] fun r h => ∃ v : Sl × Sl, r = .ret (.agg [.val v.1.v, .val v.2.v]) ∧ h = [AL v.2.v 49 1 BP s.runs, AL v.1.v 3 1 AS s.loose] := by
 refine AC.factI (f := BP) (xs := s.runs) (.agg (.there .here)) fun hlr => ?_
 refine AC.factN (g := BP) (f := AS) (xss := s.runs) 1 8 (fun _ => rfl) (.agg (.there .here)) fun hN => ?_
 have hL := VM G s.loose
 refine BV (rs := [.cell 2 77]) Tryz.f141.ntmps Tryz.func141 rfl rfl rfl (by simp [Tryz.ntmps141]) fun W I => ?_
 repeat' (first | refine cae CN (hL) ?_ | exact jA | refine AF ?_ | refine two ?_ ?_ | refine AB fun c_ => ?_ | refine imp fun hc => ?_; try exact cx1 hc | refine all fun v_ => ?_)
 obtain ⟨bo, rfl⟩ : ∃ x, x = v_ := ⟨v_, rfl⟩
 obtain ⟨q, rfl⟩ : ∃ x, x = v_ := ⟨v_, rfl⟩
 obtain ⟨br, rfl⟩ : ∃ x, x = v_ := ⟨v_, rfl⟩
 obtain ⟨bs, rfl⟩ : ∃ x, x = v_ := ⟨v_, rfl⟩
 refine Db (E := 49) (sz := 1) BP ?_
 refine AG (X := Nat × Sl) (fun y => [(2, .val (.pointer (some ⟨br, 0, none⟩))), (3, .val (.pointer (some ⟨bo, 0, none⟩))), (11, .d (AX s.runs)), (12, .int s.runs.length), (13, .int y.1)]) (fun y => [AL y.2.v 49 1 BP (s.runs.take y.1), AL q.v 3 1 AS s.loose, .cells bo 77 [.val q.v, .val y.2.v], .cells br 77 [.val Sl.nil.v, .val Sl.nil.v]]) (fun y => y.1 ≤ s.runs.length) (fun y => s.runs.length - y.1) (0, Sl.nil) (Nat.zero_le _) (VS.take AH ?_) ?_
 · exact leD
 rintro ⟨i, p⟩ hi
 dsimp only at hi ⊢
 by_cases hil : i < s.runs.length
 · have et : s.runs.take i ++ [s.runs[i]] = s.runs.take (i + 1) := (jZ hil).symm
   have hlen : (s.runs.take i).length = i := by rw [List.length_take]; omega
   have hlr2 := hN s.runs[i] (jb hil)
   have hR := AC.frz 8 (VM G s.runs[i]) rfl (fun _ => rfl) hlr2
   repeat' (first | refine XW ?_ | refine two ?_ ?_ | (refine imp fun hc => ?_) <;> try (first | contradiction | (exfalso; omega)) | refine all fun v_ => ?_)
   refine ⟨?_⟩
   refine CL [AL p.v 49 1 BP (s.runs.take i), .cells bo 77 [.val q.v, .val p.v]] mixed rfl (by (repeat ((with_reducible apply Hd.cons); rfl)); exact Hd.nil) (by (repeat (with_reducible apply Al)); exact len_nil) (by decide +kernel) BF ?_
   repeat' (first | refine ca CN (hR) ?_ | refine caq CN (hR) ?_ | refine i7 (DP (f := BP) (u := s.runs[i])) ?_ | exact jA | refine AF ?_ | refine two ?_ ?_ | refine AB fun c_ => ?_ | refine imp fun hc => ?_; try exact cx1 hc | refine all fun v_ => ?_)
   all_goals
    refine ⟨(i + 1, v_), hil, jC, VS.take (by dsimp only; rw [← et]; exact AH) ?_⟩
    exact leD
 obtain rfl : i = s.runs.length := by omega
 rw [List.take_length]
 repeat' (first | exact jA | refine AF ?_ | refine two ?_ ?_ | refine AB fun c_ => ?_ | refine imp fun hc => ?_; try exact cx1 hc | refine all fun v_ => ?_)
 refine Mv (xs := [.agg [.val q.v, .val p.v]]) ⟨Ax rfl (by (with_reducible exact ElC.h)) rfl AW rfl, trivial⟩ rfl (h' := [AL p.v 49 1 BP s.runs, AL q.v 3 1 AS s.loose]) IE ?_
 exact ⟨(q, p), rfl, rfl⟩
theorem aj : Cal Tryz.prog 94 := Cal.of Tryz.func94 (by kernel_rfl) (by kernel_rfl)
theorem Yb (G : List (Nat × List D)) (s : Sto) (n : Int) (h0 : (Gl s n).2 ≠ 0) : ACr Tryz.prog G 94 [stA s, .int n] (.tup [stA (E5 s n).1.1, .bool (E5 s n).1.2, .int (E5 s n).2]) := by
 have hH := Wz G s n
 unfold E5
 rw [if_pos h0]
 generalize (Gl s n) = v at hH h0
 obtain ⟨o, e⟩ := v
 dsimp only at hH h0 ⊢
 refine BV (rs := [.cell 4 77, .tmp 5, .tmp 6]) Tryz.f94.ntmps Tryz.func94 rfl rfl rfl (by simp [Tryz.ntmps94]) fun W I => ?_
 repeat' (first | refine ca Ew (hH) ?_ | exact jA | refine AF ?_ | refine two ?_ ?_ | refine AB fun c_ => ?_ | refine imp fun hc => ?_; try exact cx1 hc | refine all fun v_ => ?_)
 exact D1 (xs := [.agg [.val (.slice none 0 0), .val (.slice none 0 0)], .bool false, .int e]) (ys := [.agg [.d (AJ []), .d (AX [])], .bool false, .int e]) vid ⟨Ax rfl (by (with_reducible exact ElC.h)) rfl AW rfl, A4 rfl, A4 rfl, trivial⟩ ⟨AV.le_agg ⟨AV.le_nil 1 8, AV.le_nil 1 24, trivial⟩, AV.le_refl _, AV.le_refl _, trivial⟩ rfl (h' := []) (jc _) (AA rfl)
theorem ZN (G : List (Nat × List D)) (s : Sto) (n : Int) (h0 : Gl s n = (true, 0)) : ACr Tryz.prog G 94 [stA s, .int n] (.tup [stA (E5 s n).1.1, .bool (E5 s n).1.2, .int (E5 s n).2]) := by
 have hH := Wz G s n
 unfold E5
 rw [h0] at hH ⊢
 dsimp only at hH ⊢
 rw [if_neg (fun k => k rfl), if_pos rfl]
 dsimp only
 refine AC.factI (f := AS) (xs := s.loose) (.agg .here) fun hll => ?_
 refine AC.factI (f := BP) (xs := s.runs) (.agg (.there .here)) fun hlr => ?_
 refine BV (rs := [.cell 4 77, .tmp 5, .tmp 6]) Tryz.f94.ntmps Tryz.func94 rfl rfl rfl (by simp [Tryz.ntmps94]) fun W I => ?_
 repeat' (first | refine ca Ew (hH) ?_ | refine cag MB (own G s) ?_ | exact jA | refine AF ?_ | refine two ?_ ?_ | refine AB fun c_ => ?_ | refine imp fun hc => ?_; try exact cx1 hc | refine all fun v_ => ?_)
 obtain ⟨bo, rfl⟩ : ∃ x, x = v_ := ⟨v_, rfl⟩
 obtain ⟨⟨q, p⟩, rfl⟩ : ∃ x, x = v_ := ⟨v_, rfl⟩
 obtain ⟨br, rfl⟩ : ∃ x, x = v_ := ⟨v_, rfl⟩
 dsimp only
 refine FM (VS.trans (VS.take (hc := [AL q.v 3 1 AS (s.loose), AL p.v 49 1 BP (s.runs), .cells br 77 [.val q.v, .val p.v]]) AH (Env.le_refl _))
  (VS.trans (EA (h1 := []) (h' := [AL p.v 49 1 BP (s.runs), .cells br 77 [.d (AJ (s.loose)), .val p.v]]) 8 rfl rfl (fun _ => rfl) jB (CvE.refl _ _ _) ?_)
  (EA (h1 := []) (h' := [.cells br 77 [.d (AJ (s.loose)), .d (AX (s.runs))]]) 24 rfl rfl (fun _ => rfl) jB (CvE.refl _ _ _) ?_))) (xs := [.agg [.d (AJ (s.loose)), .d (AX (s.runs))], .bool false, .int 0]) ⟨Ax rfl (by (with_reducible exact ElC.h)) rfl AW rfl, A4 rfl, A4 rfl, trivial⟩ rfl (h' := []) (jc _) (AA rfl)
 · exact .keep (.cells (.cons .here (.cons (.same _) .nil)) (.refl _))
 · exact .cells (.cons (.same _) (.cons .here .nil)) (.refl _)
theorem W6 (G : List (Nat × List D)) (s : Sto) (n : Int) (h0 : Gl s n = (false, 0)) (hp : EB s) (hf : (Bw s).length = 20000) : ACr Tryz.prog G 94 [stA s, .int n] (.tup [stA (E5 s n).1.1, .bool (E5 s n).1.2, .int (E5 s n).2]) := by
 have hH := Wz G s n
 unfold E5
 rw [h0] at hH ⊢
 dsimp only at hH ⊢
 rw [if_neg (fun k => k rfl), if_neg (by decide), if_pos hf]
 have hfew := hp.few
 have hK := aJ G s jB jB
 rw [hf] at hK
 refine BV (rs := [.cell 4 77, .tmp 5, .tmp 6]) Tryz.f94.ntmps Tryz.func94 rfl rfl rfl (by simp [Tryz.ntmps94]) fun W I => ?_
 repeat' (first | refine ca Ew (hH) ?_ | refine ca Lb (hK) ?_ | refine cag MB (own G s) ?_ | exact jA | refine AF ?_ | refine two ?_ ?_ | refine AB fun c_ => ?_ | refine imp fun hc => ?_; try exact cx1 hc | refine all fun v_ => ?_)
 exact D1 (xs := [.agg [.val (.slice none 0 0), .val (.slice none 0 0)], .bool false, .int 12]) (ys := [.agg [.d (AJ []), .d (AX [])], .bool false, .int 12]) vid ⟨Ax rfl (by (with_reducible exact ElC.h)) rfl AW rfl, A4 rfl, A4 rfl, trivial⟩ ⟨AV.le_agg ⟨AV.le_nil 1 8, AV.le_nil 1 24, trivial⟩, AV.le_refl _, AV.le_refl _, trivial⟩ rfl (h' := []) (jc _) (AA rfl)
theorem UY (G : List (Nat × List D)) (s : Sto) (n : Int) (h0 : Gl s n = (false, 0)) (hp : EB s) (hf : ¬ (Bw s).length = 20000) (h7 : s.loose.length + 1 < 8) : ACr Tryz.prog G 94 [stA s, .int n] (.tup [stA (E5 s n).1.1, .bool (E5 s n).1.2, .int (E5 s n).2]) := by
 have hH := Wz G s n
 unfold E5
 rw [h0] at hH ⊢
 dsimp only at hH ⊢
 rw [if_neg (fun k => k rfl), if_neg (by decide), if_neg hf, if_pos h7]
 dsimp only
 have hfew := hp.few
 have hK := aJ G s jB jB
 have hkl := JU s
 have hrf := Ni s.runs fun r hr => (hp.runs r hr).1
 have hll : (s.loose ++ [n]).length = s.loose.length + 1 := by simp
 refine BV (rs := [.cell 4 77, .tmp 5, .tmp 6]) Tryz.f94.ntmps Tryz.func94 rfl rfl rfl (by simp [Tryz.ntmps94]) fun W I => ?_
 repeat' (first | refine ca Ew (hH) ?_ | refine ca Lb (hK) ?_ | refine cag MB (own G s) ?_ | refine i7 (DP (f := AS) (u := n)) ?_ | exact jA | refine AF ?_ | refine two ?_ ?_ | refine AB fun c_ => ?_ | refine imp fun hc => ?_; try exact cx1 hc | refine all fun v_ => ?_)
 obtain ⟨q2, rfl⟩ : ∃ x, x = v_ := ⟨v_, rfl⟩
 obtain ⟨bo, rfl⟩ : ∃ x, x = v_ := ⟨v_, rfl⟩
 obtain ⟨⟨q, p⟩, rfl⟩ : ∃ x, x = v_ := ⟨v_, rfl⟩
 obtain ⟨br, rfl⟩ : ∃ x, x = v_ := ⟨v_, rfl⟩
 dsimp only
 refine FM (VS.trans (VS.take (hc := [AL q2.v 3 1 AS (s.loose ++ [n]), AL p.v 49 1 BP (s.runs), .cells br 77 [.val q2.v, .val p.v]]) AH (Env.le_refl _))
  (VS.trans (EA (h1 := []) (h' := [AL p.v 49 1 BP (s.runs), .cells br 77 [.d (AJ (s.loose ++ [n])), .val p.v]]) 8 rfl rfl (fun _ => rfl) jB (CvE.refl _ _ _) ?_)
  (EA (h1 := []) (h' := [.cells br 77 [.d (AJ (s.loose ++ [n])), .d (AX (s.runs))]]) 24 rfl rfl (fun _ => rfl) jB (CvE.refl _ _ _) ?_))) (xs := [.agg [.d (AJ (s.loose ++ [n])), .d (AX (s.runs))], .bool true, .int 0]) ⟨Ax rfl (by (with_reducible exact ElC.h)) rfl AW rfl, A4 rfl, A4 rfl, trivial⟩ rfl (h' := []) (jc _) (AA rfl)
 · exact .keep (.cells (.cons .here (.cons (.same _) .nil)) (.refl _))
 · exact .cells (.cons (.same _) (.cons .here .nil)) (.refl _)
end Go.Proofs.YtnlfhnbcdfdhgaaGreatDoor
