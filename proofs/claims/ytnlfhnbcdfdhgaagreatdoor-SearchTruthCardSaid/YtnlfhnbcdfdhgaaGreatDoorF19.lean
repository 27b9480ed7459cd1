/- A bundle of this claim's own texts: U6 P1 O7 E14 O9. -/
import Derived.Test.YtnlfhnbcdfdhgaaGreatDoorF2
import Derived.Test.YtnlfhnbcdfdhgaaGreatDoorF13
import Derived.Test.YtnlfhnbcdfdhgaaGreatDoorF16
import Derived.Test.YtnlfhnbcdfdhgaaGreatDoorF18
set_option linter.unusedVariables false
set_option linter.unusedSimpArgs false
set_option maxRecDepth 100000
set_option maxHeartbeats 4000000
namespace Go.Proofs.YtnlfhnbcdfdhgaaGreatDoor
open Go Go.Av Go.Sp

theorem LO : Cal Tryz.prog 152 := Cal.of Tryz.func152 (by kernel_rfl) (by kernel_rfl)
theorem Mz : Cal Tryz.prog 101 := Cal.of Tryz.func101 (by kernel_rfl) (by kernel_rfl)
theorem JA : Cal Tryz.prog 57 := Cal.of Tryz.func57 (by kernel_rfl) (by kernel_rfl)
theorem Kg {x y : Int} (j : Nat) (hx0 : 0 ≤ x) (hx : x % 2 ^ j = 0) (hx1 : x < 2 ^ 63) (hy0 : 0 ≤ y) (hy : y < 2 ^ j) (hj : (2 : Int) ^ j < 2 ^ 63) : bits .or .i64 x y = x + y :=
 bits_join .i64 63 (by decide) Dq j x y hx0 hx hx1 hy0 hy (Int.lt_trans hy hj)
theorem or4 {a b c d : Int} (ha : 0 ≤ a ∧ a ≤ 255) (hb : 0 ≤ b ∧ b ≤ 255) (hc : 0 ≤ c ∧ c ≤ 255) (hd : 0 ≤ d ∧ d ≤ 255) :
 bits .or .i64 (bits .or .i64 (bits .or .i64 (a * 16777216) (b * 65536)) (c * 256)) d = 16777216 * a + 65536 * b + 256 * c + d := by
 rw [Kg (x := a * 16777216) (y := b * 65536) 24 (by omega) (by omega) (by omega) (by omega) (by omega) (by decide)]
 rw [Kg (y := c * 256) 16 (by omega) (by omega) (by omega) (by omega) (by omega) (by decide)]
 rw [Kg (y := d) 8 (by omega) (by omega) (by omega) (by omega) (by omega) (by decide)]
 omega
theorem cy (G : List (Nat × List D)) (b : List UInt8) (h : 4 ≤ b.length) : ACr Tryz.prog G 152 [.d (B0 b)] (.int (g4 b 0)) := by
 refine Dl (ts := [2]) Tryz.f152.ntmps Tryz.func152 rfl rfl rfl (by simp [Tryz.ntmps152]) fun W I => ?_
 have q0 := (b[0]).toNat_lt
 have q1 := (b[0 + 1]).toNat_lt
 have q2 := (b[1 + 1]).toNat_lt
 have q3 := (b[2 + 1]).toNat_lt
 repeat' (first
  | exact True.intro
  | refine stp ?_
  | refine two ?_ ?_
  | (refine imp fun hc => ?_) <;> try exact cx hc
  | refine all fun v_ => ?_)
 ((with_reducible apply rq1); rfl; rfl)
 refine AB (congrArg AV.int ?_)
 simp only [Int.reduceToNat, Int.reducePow, Nat.zero_add, Nat.reduceAdd]
 simp only [Nat.zero_add, Nat.reduceAdd] at q1 q2 q3
 rw [or4 (by omega) (by omega) (by omega) (by omega), g4, FY _ _ (by omega), FY _ _ (by omega), FY _ _ (by omega), FY _ _ (by omega)]
def Ff (b : List UInt8) : List Int × Int × Bool := if wholeAt b then ((BG b).1, ((BG b).2 : Int), true) else ([], 0, false)
theorem Fp {b : List UInt8} (h : ¬ wholeAt b) : Ff b = ([], 0, false) := by rw [Ff, if_neg h]
theorem Lt {p q : Prop} (hp : p) (h : p → q := by
 apply cmp; (focus (first
  | ((with_reducible apply Dg); (focus rfl); (focus exact LO); (focus exact cy _ _ (by first | omega | (rw [List.length_drop]; omega))); (focus rfl))
  | ((with_reducible apply Bc); (focus rfl); (focus (decide +kernel)); (focus rfl); (focus exact LO); (focus exact cy _ _ (by first | omega | (rw [List.length_drop]; omega))); (focus rfl))
  ))
 exact fun h => h) : q := h hp
theorem Kr {p q : Prop} (hp : p) (h : p → q := by
 apply cmp; (focus (first
  | ((with_reducible apply b7); (focus rfl); (focus exact LO); (focus exact cy _ _ (by first | omega | (rw [List.length_drop]; omega))); (focus rfl))
  ))
 exact fun h => h) : q := h hp
theorem first (G : List (Nat × List D)) (b : List UInt8) (hb : b.length * 1 ≤ 140737488355328) : ACr Tryz.prog G 101 [.d (B0 b)] (.tup [.d (AK (Ff b).1), .int (Ff b).2.1, .bool (Ff b).2.2]) := by
 refine AJ (ts := [2, 3, 4]) Tryz.f101.ntmps Tryz.func101 rfl rfl rfl (by simp [Tryz.ntmps101]) fun W I => ?_
 have hg := HQ b 0
 repeat' (first
  | refine Lt ?_
  | refine ca D8 (Sum _ _) ?_
  | refine Kr ?_
  | refine caq D8 (Sum _ _) ?_
  | exact True.intro | refine AP ?_ | refine two ?_ ?_
  | (refine imp fun hc => ?_) <;> try exact cx hc
  | refine all fun v_ => ?_)
 · refine AN (EZ (t := 2) 1 8 rfl) ?_
   ((with_reducible apply rq3); rfl; rfl; rfl; rfl)
   refine AB ?_
   rw [Fp (fun hw => by have := hw.1; omega)]; rfl
 · refine AN (EZ (t := 2) 1 8 rfl) ?_
   ((with_reducible apply rq3); rfl; rfl; rfl; rfl)
   refine AB ?_
   rw [Fp (fun hw => by have := hw.2.1; omega)]; rfl
 · refine AN (EZ (t := 2) 1 8 rfl) ?_
   ((with_reducible apply rq3); rfl; rfl; rfl; rfl)
   refine AB ?_
   rw [Fp (fun hw => by have := hw.2.2.1; omega)]; rfl
 · refine AN (EZ (t := 2) 1 8 rfl) ?_
   ((with_reducible apply rq3); rfl; rfl; rfl; rfl)
   refine AB ?_
   rw [Fp (fun hw => by
    have e : (4 + 4 * g4 b 0).toNat = 4 + 4 * (g4 b 0).toNat := by omega
    rw [e, Gb] at hc
    exact hc hw.2.2.2.1)]
   rfl
 have e : (4 + 4 * g4 b 0).toNat = 4 + 4 * (g4 b 0).toNat := by omega
 rw [e, Gb] at hc
 have hs := Decidable.not_not.1 hc
 obtain ⟨N, hN⟩ : ∃ N : Nat, g4 b 0 = N := ⟨(g4 b 0).toNat, by omega⟩
 have hN' : (g4 b 0).toNat = N := by omega
 refine F6 (E := 3) (sz := 1) Aa ?_
 refine Ku (X := Nat × Sl) (fun y => [(0, .d (B0 b)), (6, .int (4 + 4 * g4 b 0)), (7, .val y.2.v), (8, .int (4 + 4 * y.1))]) (fun y => [AH y.2.v 3 1 Aa (Dk b 4 y.1)]) (fun y => y.1 ≤ N ∧ CO (Dk b 4 y.1)) (fun y => N - y.1) (0, Sl.nil) ⟨Nat.zero_le _, fun n hn => by simp [Dk] at hn⟩ ?_ rfl ?_
 · exact leD
 rintro ⟨j, q⟩ ⟨h1, h2⟩
 dsimp only at h1 h2 ⊢
 have hlen := JR b 4 j
 have ej : ((4 : Int) + 4 * j).toNat = 4 + 4 * j := by omega
 have hk := HQ b (4 + 4 * j)
 by_cases hj : j < N
 · repeat' (first
    | refine Lt ?_
    | refine ca D8 (Sum _ _) ?_
    | refine Kr ?_
    | refine caq D8 (Sum _ _) ?_
    | exact True.intro | refine AP ?_ | refine two ?_ ?_
    | (refine imp fun hc => ?_) <;> try exact cx hc
    | refine all fun v_ => ?_)
   · refine AN (VS.trans (VS.drop (List.nil_sublist _)) (EZ (t := 2) 1 8 rfl)) ?_
     ((with_reducible apply rq3); rfl; rfl; rfl; rfl)
     refine AB ?_
     rw [Fp (fun hw => ?_)]
     · rfl
     · have := hw.2.2.2.2 (g4 b (4 + 4 * j)) (by rw [hN']; exact List.mem_map.2 ⟨j, List.mem_range.2 hj, rfl⟩)
       rw [ej, Gb, Nat.add_zero] at hc
       omega
   · rw [ej, Gb, Nat.add_zero] at hc
     refine ⟨(j + 1, v_), ⟨by dsimp only; omega, ?_⟩, by dsimp only; omega, ?_, ?_⟩
     · dsimp only
       rw [IS]
       intro n hn
       rcases List.mem_append.1 hn with hn | hn
       · exact h2 n hn
       · rw [List.mem_singleton.1 hn]; omega
     · exact leD
     · dsimp only
       rw [IS, ej, Gb, Nat.add_zero]
 · obtain rfl : j = N := by omega
   repeat' (first
    | refine Lt ?_
    | refine ca D8 (Sum _ _) ?_
    | refine Kr ?_
    | refine caq D8 (Sum _ _) ?_
    | exact True.intro | refine AP ?_ | refine two ?_ ?_
    | (refine imp fun hc => ?_) <;> try exact cx hc
    | refine all fun v_ => ?_)
   refine AN (By (t := 2) (eb := 8) rfl rfl (fun x => rfl) (by rw [hlen]; omega)) ?_
   ((with_reducible apply rq3); rfl; rfl; rfl; rfl)
   refine AB ?_
   have hw : wholeAt b := ⟨by omega, by omega, by omega, by rw [Nat.add_zero] at hs; exact hs, by rw [hN']; exact h2⟩
   rw [Ff, if_pos hw]
   simp only [BG, hN']
   have e3 : (4 + 4 * g4 b 0 + 4 : Int) = ((8 + 4 * j : Nat) : Int) := by omega
   rw [e3]
theorem Read (G : List (Nat × List D)) (t : Tp) : ACr Tryz.prog G 57 [tpA t] (.tup [.d (Ah (GZ t).1.1), .int (GZ t).1.2, .int (GZ t).2]) := by
 refine AJ (ts := [2, 3, 4]) Tryz.f57.ntmps Tryz.func57 rfl rfl rfl (by simp [Tryz.ntmps57]) fun W I => ?_
 by_cases hm : EO t
 · have hlen := hm.1
   repeat' (first
    | refine cae BA (DM _ _ hm) ?_
    | refine ca BA (DN _ _ hm) ?_
    | exact True.intro | refine AP ?_ | refine two ?_ ?_
    | (refine imp fun hc => ?_) <;> try exact cx hc
    | refine all fun v_ => ?_)
   rename_i bt qd
   refine F6 (E := 49) (sz := 1) BP ?_
   refine AM (X := List (List Int) × Nat × Sl) (fun y => [(5, .val (.pointer (some ⟨v_, 0, none⟩))), (7, .val y.2.2.v), (8, .int y.2.1)]) (fun y => [AH y.2.2.v 49 1 BP y.1, .cells v_ 80 [.d (B0 t.data), .int t.synced]]) (fun y => Lo t.data y.1 y.2.1 ∧ y.1.length ≤ y.2.1) (fun y => t.data.length - y.2.1) ([], 0, Sl.nil) ⟨Qv _, Nat.zero_le _⟩
    (VS.trans (VS.drop (h' := [AH Sl.nil.v 49 1 BP [], .cells v_ 80 [.val qd.v, .int t.synced], AH qd.v 5 1 Cy t.data]) (by exact HX)) (VS.trans (D1 (h1 := [_, _]) 1 rfl rfl (fun _ => rfl) (by omega) (CvE.refl _ _ _) (CvH.keep (CvH.cells (.cons .here (.cons (.same _) .nil)) (.refl _)))) (VS.of_le ?_))) ?_
   · exact leD
   rintro ⟨l, a, q⟩ ⟨h1, h2⟩
   dsimp only at h1 h2 ⊢
   have h3 := h1.1
   by_cases hw : wholeAt (t.data.drop a)
   · have ef : Ff (t.data.drop ((a : Int)).toNat) = ((BG (t.data.drop a)).1, ((BG (t.data.drop a)).2 : Int), true) := by rw [Int.toNat_natCast, Ff, if_pos hw]
     have hq := Gx hw
     rw [List.length_drop] at hq
     have F := first G (t.data.drop (a : Int).toNat) (by rw [List.length_drop]; omega)
     rw [ef] at F
     dsimp only at F
     repeat' (first
      | refine ca Mz (F) ?_
      | exact True.intro | refine AP ?_ | refine two ?_ ?_
      | (refine imp fun hc => ?_) <;> try exact cx hc
      | refine all fun v_ => ?_)
     refine ⟨(l ++ [(BG (t.data.drop a)).1], a + (BG (t.data.drop a)).2, v_), ⟨Qe h1 hw, ?_⟩, ?_, VS.of_le ?_⟩
     · dsimp only; rw [List.length_append, List.length_singleton]; omega
     · dsimp only; omega
     · exact leD
   · have ef : Ff (t.data.drop ((a : Int)).toNat) = ([], 0, false) := by rw [Int.toNat_natCast, Ff, if_neg hw]
     have F := first G (t.data.drop (a : Int).toNat) (by rw [List.length_drop]; omega)
     rw [ef] at F
     dsimp only at F
     repeat' (first
      | refine ca Mz (F) ?_
      | exact True.intro | refine AP ?_ | refine two ?_ ?_
      | (refine imp fun hc => ?_) <;> try exact cx hc
      | refine all fun v_ => ?_)
     refine AN (VS.trans (VS.drop (h' := [AH q.v 49 1 BP l]) (by exact HX)) (By (t := 2) (eb := 24) rfl rfl (fun x => rfl) (by omega))) ?_
     ((with_reducible apply rq3); rfl; rfl; rfl; rfl)
     exact AB (by rw [GZ, if_pos hm, TW h1 hw])
 · repeat' (first
    | refine cae BA (DM _ _ hm) ?_
    | refine ca BA (DN _ _ hm) ?_
    | exact True.intro | refine AP ?_ | refine two ?_ ?_
    | (refine imp fun hc => ?_) <;> try exact cx hc
    | refine all fun v_ => ?_)
   refine AN (VS.trans (VS.drop (List.nil_sublist _)) (EZ (t := 2) 1 24 rfl)) ?_
   ((with_reducible apply rq3); rfl; rfl; rfl; rfl)
   refine AB ?_
   have e : GZ t = (([], 0), 9) := if_neg hm
   rw [e]; rfl
end Go.Proofs.YtnlfhnbcdfdhgaaGreatDoor
namespace Go.Sp
open Go Go.Av
structure Sr where
 up : Bool
 thr : Int
 most : Int
 tape : Tp
 out : Ou
end Go.Sp
namespace Go.Proofs.YtnlfhnbcdfdhgaaGreatDoor
open Go Go.Av Go.Sp
theorem Hr : Cal Tryz.prog 95 := Cal.of Tryz.func95 (by kernel_rfl) (by kernel_rfl)
theorem LR : Cal Tryz.prog 97 := Cal.of Tryz.func97 (by kernel_rfl) (by kernel_rfl)
theorem Kp : Cal Tryz.prog 52 := Cal.of Tryz.func52 (by kernel_rfl) (by kernel_rfl)
abbrev skD (bs : Nat) (t : Tk) (q : Sl) (a b : AV) (r : Sr) : Ent :=
 .cells bs 82 [.d (BT t.model.vars), .d (A2 t.model.rules), .d (BU t.props), .d (AO t.formula), .bool r.up, .val q.v, a, b, .int r.thr, .int r.most, .d (B0 r.tape.data), .int r.tape.synced, .bool r.out.up, .int r.out.found, .int r.out.thr, .int r.out.safe, .int r.out.again, .bool r.out.done, .bool r.out.holds]
abbrev skC (bs : Nat) (t : Tk) (q : Sl) (s : Sto) (r : Sr) : Ent := skD bs t q (.d (AK s.loose)) (.d (Ah s.runs)) r
abbrev skH (bs : Nat) (t : Tk) (l : List Fo) (r : Sr) (v : Sl × Sto) : H := [skC bs t v.1 v.2 r, AH v.1.v 106 2 Fo.cells l]
theorem XQ {s : Fo} (h : CX s) : bits .or .i64 (s.kind * 64) s.val = CU s :=
 Kg 6 (by obtain ⟨⟨a, b⟩, c, d⟩ := h; omega) (by omega) (by obtain ⟨⟨a, b⟩, c, d⟩ := h; omega) h.2.1 (by obtain ⟨⟨a, b⟩, c, d⟩ := h; omega) (by decide)
theorem keyOf (G : List (Nat × List D)) (s : Fo) (h : CX s) : ACr Tryz.prog G 95 [.agg [.int s.kind, .int s.val]] (.int (CU s)) := by
 refine AJ (ts := [2]) Tryz.f95.ntmps Tryz.func95 rfl rfl rfl (by simp [Tryz.ntmps95]) fun W I => ?_
 have hb := XQ h
 obtain ⟨⟨h1, h2⟩, h3, h4⟩ := h
 repeat' (first
  | exact True.intro | refine AP ?_ | refine two ?_ ?_
  | (refine imp fun hc => ?_) <;> try exact cx hc
  | refine all fun v_ => ?_)
 refine AN (VS.drop (List.nil_sublist _)) ?_
 ((with_reducible apply rq1); rfl; rfl)
 exact AB (by rw [← hb, show (2 : Int) ^ Int.toNat 6 = 64 by decide])
theorem XU (G : List (Nat × List D)) (s : Fo) (h : CX s) : ACr Tryz.prog G 97 [.int (CU s)] (.agg [.int s.kind, .int s.val]) := by
 refine Bm (rs := [.cell 2 106]) Tryz.f97.ntmps Tryz.func97 rfl rfl rfl (by simp [Tryz.ntmps97]) fun W I => ?_
 have hk := YB h
 obtain ⟨⟨h1, h2⟩, h3, h4⟩ := h
 repeat' (first
  | exact True.intro | refine AP ?_ | refine two ?_ ?_
  | (refine imp fun hc => ?_) <;> try exact cx hc
  | refine all fun v_ => ?_)
 have e1 : CU s / 2 ^ Int.toNat 6 = s.kind := by
  rw [show (2 : Int) ^ Int.toNat 6 = 64 by decide]
  exact congrArg Fo.kind hk
 have e2 : bits .and .i64 (CU s) 63 = s.val := by
  have h0 : 0 ≤ CU s := by unfold CU; omega
  have h5 : CU s ≤ 9223372036854775807 := by unfold CU; omega
  have := bits_mask .i64 63 (by decide) Dq 6 (by decide) (CU s) h0 (by omega)
  exact this.trans (congrArg Fo.val hk)
 rw [e1, e2]
 exact NO (xs := [.agg [.int s.kind, .int s.val]]) ⟨Ax rfl (by (with_reducible exact ElC.h)) rfl (by exact Ab) rfl, trivial⟩ rfl (h' := []) (List.nil_sublist _) (AB rfl)
theorem KX : Cal Tryz.prog 141 := Cal.of Tryz.func141 (by kernel_rfl) (by kernel_rfl)
theorem own (G : List (Nat × List D)) (s : Sto) : AC Tryz.prog G 141 [stA s] [] fun r h => ∃ v : Sl × Sl, r = .ret (.agg [.val v.1.v, .val v.2.v]) ∧ h = [AH v.2.v 49 1 BP s.runs, AH v.1.v 3 1 Aa s.loose] := by
 refine AC.factI (f := BP) (xs := s.runs) (.agg (.there .here)) fun hlr => ?_
 refine AC.factN (g := BP) (f := Aa) (xss := s.runs) 1 8 (fun _ => rfl) (.agg (.there .here)) fun hN => ?_
 have hL := TN G s.loose
 refine Bm (rs := [.cell 2 77]) Tryz.f141.ntmps Tryz.func141 rfl rfl rfl (by simp [Tryz.ntmps141]) fun W I => ?_
 repeat' (first
  | refine cae Bv (hL) ?_
  | exact True.intro | refine AG ?_ | refine two ?_ ?_ | refine AF fun c_ => ?_
  | (refine imp fun hc => ?_) <;> try exact cx1 hc
  | refine all fun v_ => ?_)
 obtain ⟨bo, rfl⟩ : ∃ x, x = v_ := ⟨v_, rfl⟩
 obtain ⟨q, rfl⟩ : ∃ x, x = v_ := ⟨v_, rfl⟩
 obtain ⟨br, rfl⟩ : ∃ x, x = v_ := ⟨v_, rfl⟩
 obtain ⟨bs, rfl⟩ : ∃ x, x = v_ := ⟨v_, rfl⟩
 refine F6 (E := 49) (sz := 1) BP ?_
 refine AM (X := Nat × Sl) (fun y => [(2, .val (.pointer (some ⟨br, 0, none⟩))), (3, .val (.pointer (some ⟨bo, 0, none⟩))), (11, .d (Ah s.runs)), (12, .int s.runs.length), (13, .int y.1)]) (fun y => [AH y.2.v 49 1 BP (s.runs.take y.1), AH q.v 3 1 Aa s.loose, .cells bo 77 [.val q.v, .val y.2.v], .cells br 77 [.val Sl.nil.v, .val Sl.nil.v]]) (fun y => y.1 ≤ s.runs.length) (fun y => s.runs.length - y.1) (0, Sl.nil) (Nat.zero_le _) (VS.take (by exact AD) ?_) ?_
 · exact leD
 rintro ⟨i, p⟩ hi
 dsimp only at hi ⊢
 by_cases hil : i < s.runs.length
 · have et : s.runs.take i ++ [s.runs[i]] = s.runs.take (i + 1) := (List.take_succ_eq_append_getElem hil).symm
   have hlen : (s.runs.take i).length = i := by rw [List.length_take]; omega
   have hlr2 := hN s.runs[i] (List.getElem_mem hil)
   have hR := AC.frz 8 (TN G s.runs[i]) rfl (fun _ => rfl) hlr2
   repeat' (first
    | refine Ps ?_ | refine two ?_ ?_
    | (refine imp fun hc => ?_) <;> try (first | contradiction | (exfalso; omega))
    | refine all fun v_ => ?_)
   refine ⟨?_⟩
   refine Bn [AH p.v 49 1 BP (s.runs.take i), .cells bo 77 [.val q.v, .val p.v]] mixed rfl (by (repeat ((with_reducible apply Hd.cons); (focus rfl))); exact Hd.nil) (by (repeat (with_reducible apply AU)); exact len_nil) (by decide +kernel) (by exact AW) ?_
   repeat' (first
    | refine ca Bv (hR) ?_
    | refine caq Bv (hR) ?_
    | ((with_reducible apply (BX (f := BP) (u := s.runs[i]))); (focus rfl); (focus rfl); (focus (with_reducible exact ElC.h)); (focus exact BS); (focus rfl); (focus rfl); (focus rfl); (focus rfl); (focus exact Af); (focus exact Af))
    | exact True.intro | refine AG ?_ | refine two ?_ ?_ | refine AF fun c_ => ?_
    | (refine imp fun hc => ?_) <;> try exact cx1 hc
    | refine all fun v_ => ?_)
   all_goals
    refine ⟨(i + 1, v_), hil, by dsimp only; omega, VS.take (by dsimp only; rw [← et]; exact AD) ?_⟩
    exact leD
 obtain rfl : i = s.runs.length := by omega
 rw [List.take_length]
 repeat' (first
  | exact True.intro | refine AG ?_ | refine two ?_ ?_ | refine AF fun c_ => ?_
  | (refine imp fun hc => ?_) <;> try exact cx1 hc
  | refine all fun v_ => ?_)
 refine NO (xs := [.agg [.val q.v, .val p.v]]) ⟨Ax rfl (by (with_reducible exact ElC.h)) rfl (by exact Ab) rfl, trivial⟩ rfl (h' := [AH p.v 49 1 BP s.runs, AH q.v 3 1 Aa s.loose]) (by exact HX) ?_
 exact ⟨(q, p), rfl, rfl⟩
end Go.Proofs.YtnlfhnbcdfdhgaaGreatDoor
namespace Go.Av
open Go
def eW (s : ByteArray) : List D := [.s s]
section
variable {k : Kx} {Q : Exit → Env → H → Prop} {ρ : Env} {h h' : H} {ops : Array Oper} {l : List Oper} {d : Nat} {ty : TypeId} {pos : String} {after : Array Edge}
theorem Zu {α : Type} {f : α → List D} {u : α} {T E : TypeId} {x : Operand} {cs : List AV} {z : Value} {sz eb : Nat} (h0 : evO ρ x = some (.agg cs)) (hu : cs = (f u).map D.av) (hT : k.P.underlying T = some (.slice E)) (he : El k.P E z sz eb) (hsz : ∀ y, (f y).length = sz) (h1 : Nat.blt 0 sz = true) (hc : Nat.ble sz 1000000 = true)
 (hd : Nat.blt d k.n = true) (hj : All fun q : Sl => JL k ops l Q ((d, .val q.v) :: ρ) (AH q.v E sz f [u] :: h)) : JL k ops (⟨some d, .buildSlice T 1 #[(0, x)], ty, pos, after, none⟩ :: l) Q ρ h := by
 subst hu
 have hc' := Nat.le_of_ble_eq_true hc
 refine KJ (f := f) (ys := [u]) (xs := [x]) hT he (blt h1) (by simp) rfl ?_ ?_ hsz (by simp; omega) hd ⟨fun v => Ii (h1 := []) rfl fun q e => by subst e; exact hj.get q⟩
 · simp only [List.map_cons, List.map_nil, AA h0]; rfl
 · intro x hx
   simp only [List.mem_cons, List.not_mem_nil, or_false] at hx
   rw [hx, AA h0]
   exact J6 _
theorem O6 {T E : TypeId} {x y u : Operand} {sz1 eb1 sz2 eb2 sz3 eb3 : Nat} {r1 r2 r3 : List (List D)} {z : Value} {eb : Nat} (hx : evO ρ x = some (.d (.l sz1 eb1 r1))) (hy : evO ρ y = some (.d (.l sz2 eb2 r2))) (hu : evO ρ u = some (.d (.l sz3 eb3 r3))) (hT : k.P.underlying T = some (.slice E)) (he : El k.P E z 1 eb) (hb : Nat.ble eb 1000000 = true)
 (hd : Nat.blt d k.n = true) (hj : JL k ops l Q ((d, .d (.l 1 eb [[.l sz1 eb1 r1], [.l sz2 eb2 r2], [.l sz3 eb3 r3]])) :: ρ) h) : JL k ops (⟨some d, .buildSlice T 3 #[(0, x), (1, y), (2, u)], ty, pos, after, none⟩ :: l) Q ρ h := by
 have hb' := Nat.le_of_ble_eq_true hb
 refine Bp (xs := [x, y, u]) (rows := [[.l sz1 eb1 r1], [.l sz2 eb2 r2], [.l sz3 eb3 r3]]) hT he (by decide) rfl rfl ?_ ?_ ?_ ?_ ?_ (fun t ht => by cases ht; exact blt hd) hj
 · simp [AA hx, AA hy, AA hu, D.av, AV.cl]
 · intro o ho
   simp only [List.mem_cons, List.not_mem_nil, or_false] at ho
   rcases ho with rfl | rfl | rfl
   · rw [AA hx]; rfl
   · rw [AA hy]; rfl
   · rw [AA hu]; rfl
 · intro r hr
   simp only [List.mem_cons, List.not_mem_nil, or_false] at hr
   rcases hr with rfl | rfl | rfl <;> rfl
 · simp; omega
 · simp
theorem RH {T E : TypeId} {a b : ByteArray} {z : Value} {eb : Nat} (hT : k.P.underlying T = some (.slice E)) (he : El k.P E z 1 eb) (hb : Nat.ble eb 1000000 = true)
 (hd : Nat.blt d k.n = true) (hj : JL k ops l Q ((d, .d (.l 1 eb ([a, b].map eW))) :: ρ) h) : JL k ops (⟨some d, .buildSlice T 2 #[(0, .const (.string a)), (1, .const (.string b))], ty, pos, after, none⟩ :: l) Q ρ h := by
 have hb' := Nat.le_of_ble_eq_true hb
 refine Bp (xs := [.const (.string a), .const (.string b)]) (rows := [[.s a], [.s b]]) hT he (by decide) rfl rfl ?_ ?_ ?_ ?_ ?_ (fun t ht => by cases ht; exact blt hd) hj
 · simp [ev, D.av, AV.cl]
 · intro o ho
   simp only [List.mem_cons, List.not_mem_nil, or_false] at ho
   rcases ho with rfl | rfl <;> rfl
 · intro r hr
   simp only [List.mem_cons, List.not_mem_nil, or_false] at hr
   rcases hr with rfl | rfl <;> rfl
 · simp; omega
 · simp
end
end Go.Av
namespace Go.Proofs.YtnlfhnbcdfdhgaaGreatDoor
open Go Go.Av Go.Sp
theorem Yu : Cal Tryz.prog 94 := Cal.of Tryz.func94 (by kernel_rfl) (by kernel_rfl)
theorem WZ (G : List (Nat × List D)) (s : Sto) (n : Int) (h0 : (Fj s n).2 ≠ 0) : ACr Tryz.prog G 94 [stA s, .int n] (.tup [stA (EJ s n).1.1, .bool (EJ s n).1.2, .int (EJ s n).2]) := by
 have hH := VM G s n
 unfold EJ
 rw [if_pos h0]
 generalize (Fj s n) = v at hH h0
 obtain ⟨o, e⟩ := v
 dsimp only at hH h0 ⊢
 refine Bm (rs := [.cell 4 77, .tmp 5, .tmp 6]) Tryz.f94.ntmps Tryz.func94 rfl rfl rfl (by simp [Tryz.ntmps94]) fun W I => ?_
 repeat' (first
  | refine ca EF (hH) ?_
  | exact True.intro | refine AG ?_ | refine two ?_ ?_ | refine AF fun c_ => ?_
  | (refine imp fun hc => ?_) <;> try exact cx1 hc
  | refine all fun v_ => ?_)
 exact Eo (xs := [.agg [.val (.slice none 0 0), .val (.slice none 0 0)], .bool false, .int e]) (ys := [.agg [.d (AK []), .d (Ah [])], .bool false, .int e]) vid ⟨Ax rfl (by (with_reducible exact ElC.h)) rfl (by exact Ab) rfl, Az rfl, Az rfl, trivial⟩ ⟨AV.le_agg ⟨AV.le_nil 1 8, AV.le_nil 1 24, trivial⟩, AV.le_refl _, AV.le_refl _, trivial⟩ rfl (h' := []) (List.nil_sublist _) (AB rfl)
theorem YN (G : List (Nat × List D)) (s : Sto) (n : Int) (h0 : Fj s n = (true, 0)) : ACr Tryz.prog G 94 [stA s, .int n] (.tup [stA (EJ s n).1.1, .bool (EJ s n).1.2, .int (EJ s n).2]) := by
 have hH := VM G s n
 unfold EJ
 rw [h0] at hH ⊢
 dsimp only at hH ⊢
 rw [if_neg (fun k => k rfl), if_pos rfl]
 dsimp only
 refine AC.factI (f := Aa) (xs := s.loose) (.agg .here) fun hll => ?_
 refine AC.factI (f := BP) (xs := s.runs) (.agg (.there .here)) fun hlr => ?_
 refine Bm (rs := [.cell 4 77, .tmp 5, .tmp 6]) Tryz.f94.ntmps Tryz.func94 rfl rfl rfl (by simp [Tryz.ntmps94]) fun W I => ?_
 repeat' (first
  | refine ca EF (hH) ?_
  | refine cag KX (own G s) ?_
  | exact True.intro | refine AG ?_ | refine two ?_ ?_ | refine AF fun c_ => ?_
  | (refine imp fun hc => ?_) <;> try exact cx1 hc
  | refine all fun v_ => ?_)
 obtain ⟨bo, rfl⟩ : ∃ x, x = v_ := ⟨v_, rfl⟩
 obtain ⟨⟨q, p⟩, rfl⟩ : ∃ x, x = v_ := ⟨v_, rfl⟩
 obtain ⟨br, rfl⟩ : ∃ x, x = v_ := ⟨v_, rfl⟩
 dsimp only
 refine HA (VS.trans (VS.take (hc := [AH q.v 3 1 Aa (s.loose), AH p.v 49 1 BP (s.runs), .cells br 77 [.val q.v, .val p.v]]) (by exact AD) (Env.le_refl _))
  (VS.trans (D1 (h1 := []) (h' := [AH p.v 49 1 BP (s.runs), .cells br 77 [.d (AK (s.loose)), .val p.v]]) 8 rfl rfl (fun _ => rfl) (by omega) (CvE.refl _ _ _) ?_)
  (D1 (h1 := []) (h' := [.cells br 77 [.d (AK (s.loose)), .d (Ah (s.runs))]]) 24 rfl rfl (fun _ => rfl) (by omega) (CvE.refl _ _ _) ?_))) (xs := [.agg [.d (AK (s.loose)), .d (Ah (s.runs))], .bool false, .int 0]) ⟨Ax rfl (by (with_reducible exact ElC.h)) rfl (by exact Ab) rfl, Az rfl, Az rfl, trivial⟩ rfl (h' := []) (List.nil_sublist _) (AB rfl)
 · exact .keep (.cells (.cons .here (.cons (.same _) .nil)) (.refl _))
 · exact .cells (.cons (.same _) (.cons .here .nil)) (.refl _)
theorem VP (G : List (Nat × List D)) (s : Sto) (n : Int) (h0 : Fj s n = (false, 0)) (hp : DK s) (hf : (BR s).length = 20000) : ACr Tryz.prog G 94 [stA s, .int n] (.tup [stA (EJ s n).1.1, .bool (EJ s n).1.2, .int (EJ s n).2]) := by
 have hH := VM G s n
 unfold EJ
 rw [h0] at hH ⊢
 dsimp only at hH ⊢
 rw [if_neg (fun k => k rfl), if_neg (by decide), if_pos hf]
 have hfew := hp.few
 have hK := YS G s (by omega) (by omega)
 rw [hf] at hK
 refine Bm (rs := [.cell 4 77, .tmp 5, .tmp 6]) Tryz.f94.ntmps Tryz.func94 rfl rfl rfl (by simp [Tryz.ntmps94]) fun W I => ?_
 repeat' (first
  | refine ca EF (hH) ?_
  | refine ca J0 (hK) ?_
  | refine cag KX (own G s) ?_
  | exact True.intro | refine AG ?_ | refine two ?_ ?_ | refine AF fun c_ => ?_
  | (refine imp fun hc => ?_) <;> try exact cx1 hc
  | refine all fun v_ => ?_)
 exact Eo (xs := [.agg [.val (.slice none 0 0), .val (.slice none 0 0)], .bool false, .int 12]) (ys := [.agg [.d (AK []), .d (Ah [])], .bool false, .int 12]) vid ⟨Ax rfl (by (with_reducible exact ElC.h)) rfl (by exact Ab) rfl, Az rfl, Az rfl, trivial⟩ ⟨AV.le_agg ⟨AV.le_nil 1 8, AV.le_nil 1 24, trivial⟩, AV.le_refl _, AV.le_refl _, trivial⟩ rfl (h' := []) (List.nil_sublist _) (AB rfl)
theorem R6 (G : List (Nat × List D)) (s : Sto) (n : Int) (h0 : Fj s n = (false, 0)) (hp : DK s) (hf : ¬ (BR s).length = 20000) (h7 : s.loose.length + 1 < 8) : ACr Tryz.prog G 94 [stA s, .int n] (.tup [stA (EJ s n).1.1, .bool (EJ s n).1.2, .int (EJ s n).2]) := by
 have hH := VM G s n
 unfold EJ
 rw [h0] at hH ⊢
 dsimp only at hH ⊢
 rw [if_neg (fun k => k rfl), if_neg (by decide), if_neg hf, if_pos h7]
 dsimp only
 have hfew := hp.few
 have hK := YS G s (by omega) (by omega)
 have hkl := Hg s
 have hrf := K8 s.runs fun r hr => (hp.runs r hr).1
 have hll : (s.loose ++ [n]).length = s.loose.length + 1 := by simp
 refine Bm (rs := [.cell 4 77, .tmp 5, .tmp 6]) Tryz.f94.ntmps Tryz.func94 rfl rfl rfl (by simp [Tryz.ntmps94]) fun W I => ?_
 repeat' (first
  | refine ca EF (hH) ?_
  | refine ca J0 (hK) ?_
  | refine cag KX (own G s) ?_
  | ((with_reducible apply (BX (f := Aa) (u := n))); (focus rfl); (focus rfl); (focus (with_reducible exact ElC.h)); (focus exact BS); (focus rfl); (focus rfl); (focus rfl); (focus rfl); (focus exact Af); (focus exact Af))
  | exact True.intro | refine AG ?_ | refine two ?_ ?_ | refine AF fun c_ => ?_
  | (refine imp fun hc => ?_) <;> try exact cx1 hc
  | refine all fun v_ => ?_)
 obtain ⟨q2, rfl⟩ : ∃ x, x = v_ := ⟨v_, rfl⟩
 obtain ⟨bo, rfl⟩ : ∃ x, x = v_ := ⟨v_, rfl⟩
 obtain ⟨⟨q, p⟩, rfl⟩ : ∃ x, x = v_ := ⟨v_, rfl⟩
 obtain ⟨br, rfl⟩ : ∃ x, x = v_ := ⟨v_, rfl⟩
 dsimp only
 refine HA (VS.trans (VS.take (hc := [AH q2.v 3 1 Aa (s.loose ++ [n]), AH p.v 49 1 BP (s.runs), .cells br 77 [.val q2.v, .val p.v]]) (by exact AD) (Env.le_refl _))
  (VS.trans (D1 (h1 := []) (h' := [AH p.v 49 1 BP (s.runs), .cells br 77 [.d (AK (s.loose ++ [n])), .val p.v]]) 8 rfl rfl (fun _ => rfl) (by omega) (CvE.refl _ _ _) ?_)
  (D1 (h1 := []) (h' := [.cells br 77 [.d (AK (s.loose ++ [n])), .d (Ah (s.runs))]]) 24 rfl rfl (fun _ => rfl) (by omega) (CvE.refl _ _ _) ?_))) (xs := [.agg [.d (AK (s.loose ++ [n])), .d (Ah (s.runs))], .bool true, .int 0]) ⟨Ax rfl (by (with_reducible exact ElC.h)) rfl (by exact Ab) rfl, Az rfl, Az rfl, trivial⟩ rfl (h' := []) (List.nil_sublist _) (AB rfl)
 · exact .keep (.cells (.cons .here (.cons (.same _) .nil)) (.refl _))
 · exact .cells (.cons (.same _) (.cons .here .nil)) (.refl _)
end Go.Proofs.YtnlfhnbcdfdhgaaGreatDoor
