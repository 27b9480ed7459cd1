/- Contracts: tape.get, foretellref.fourAt, tape.first, tape.Read. -/
import Derived.Test.YtffdlpjbbkhcnaaU3
import Derived.Test.YtffdlpjbbkhcnaaU2
import Derived.Test.YtffdlpjbbkhcnaaSj
import Derived.Test.YtffdlpjbbkhcnaaSk
namespace Go.Proofs.Ytffdlpjbbkhcnaa
open Go Go.Av Go.Sp
set_option maxRecDepth 100000

theorem cal_tget : Cal Try.prog 72 := Cal.of Try.func72 (by kernel_rfl) (by kernel_rfl)
theorem cal_fourAt : Cal Try.prog 57 := Cal.of Try.func57 (by kernel_rfl) (by kernel_rfl)
theorem cal_first : Cal Try.prog 56 := Cal.of Try.func56 (by kernel_rfl) (by kernel_rfl)
theorem cal_Read : Cal Try.prog 27 := Cal.of Try.func27 (by kernel_rfl) (by kernel_rfl)
theorem or_high {x y : Int} (j : Nat) (hx0 : 0 ≤ x) (hx : x % 2 ^ j = 0) (hx1 : x < 2 ^ 63) (hy0 : 0 ≤ y) (hy : y < 2 ^ j) (hj : (2 : Int) ^ j < 2 ^ 63) : bits .or .i64 x y = x + y :=
  bits_join .i64 63 (by decide) wraps_i64 j x y hx0 hx hx1 hy0 hy (Int.lt_trans hy hj)
theorem or4 {a b c d : Int} (ha : 0 ≤ a ∧ a ≤ 255) (hb : 0 ≤ b ∧ b ≤ 255) (hc : 0 ≤ c ∧ c ≤ 255) (hd : 0 ≤ d ∧ d ≤ 255) :
    bits .or .i64 (bits .or .i64 (bits .or .i64 (a * 16777216) (b * 65536)) (c * 256)) d = 16777216 * a + 65536 * b + 256 * c + d := by
  rw [or_high (x := a * 16777216) (y := b * 65536) 24 (by omega) (by omega) (by omega) (by omega) (by omega) (by decide)]
  rw [or_high (y := c * 256) 16 (by omega) (by omega) (by omega) (by omega) (by omega) (by decide)]
  rw [or_high (y := d) 8 (by omega) (by omega) (by omega) (by omega) (by omega) (by decide)]
  omega
theorem tget (G : List (Nat × List D)) (b : List UInt8) (h : 4 ≤ b.length) : ACr Try.prog G 72 [.d (bytesD b)] (.int (g4 b 0)) := by
  refine AC_of (ts := [2]) Try.f72.ntmps Try.func72 rfl rfl rfl (by simp [Try.ntmps72]) fun W I => ?_
  have q0 := (b[0]).toNat_lt
  have q1 := (b[0 + 1]).toNat_lt
  have q2 := (b[1 + 1]).toNat_lt
  have q3 := (b[2 + 1]).toNat_lt
  repeat' (first
    | refine stp ?_
    | refine two ?_ ?_
    | (refine imp fun hc => ?_) <;> try (first | contradiction | (exfalso; omega))
    | refine all fun v_ => ?_)
  ((with_reducible apply rq1); rfl; rfl)
  refine ret_eq (congrArg AV.int ?_)
  simp only [Int.reduceToNat, Int.reducePow, Nat.zero_add, Nat.reduceAdd]
  simp only [Nat.zero_add, Nat.reduceAdd] at q1 q2 q3
  rw [or4 (by omega) (by omega) (by omega) (by omega), g4, at8_get _ _ (by omega), at8_get _ _ (by omega), at8_get _ _ (by omega), at8_get _ _ (by omega)]
theorem fourAt (G : List (Nat × List D)) (b : List UInt8) (n : Nat) (h : n + 4 ≤ b.length) (hb : b.length * 1 ≤ 140737488355328) : ACr Try.prog G 57 [.d (bytesD b), .int n] (.int (g4 b n)) := by
  refine AC_of (ts := [4]) Try.f57.ntmps Try.func57 rfl rfl rfl (by simp [Try.ntmps57]) fun W I => ?_
  have q0 := (b[n]).toNat_lt
  have q1 := (b[n + 1]).toNat_lt
  have q2 := (b[n + 1 + 1]).toNat_lt
  have q3 := (b[n + 2 + 1]).toNat_lt
  repeat' (first
    | refine stp ?_
    | refine two ?_ ?_
    | (refine imp fun hc => ?_) <;> try (first | contradiction | (exfalso; omega))
    | refine all fun v_ => ?_)
  ((with_reducible apply rq1); rfl; rfl)
  refine ret_eq (congrArg AV.int ?_)
  rw [g4, at8_get _ _ (by omega), at8_get _ _ (by omega), at8_get _ _ (by omega), at8_get _ _ (by omega)]
/-- P11.6: the first record. -/
def firstV (b : List UInt8) : List Int × Int × Bool := if wholeAt b then ((firstOf b).1, ((firstOf b).2 : Int), true) else ([], 0, false)
theorem firstV_no {b : List UInt8} (h : ¬ wholeAt b) : firstV b = ([], 0, false) := by rw [firstV, if_neg h]
theorem first (G : List (Nat × List D)) (b : List UInt8) (hb : b.length * 1 ≤ 140737488355328) : ACr Try.prog G 56 [.d (bytesD b)] (.tup [.d (intsD (firstV b).1), .int (firstV b).2.1, .bool (firstV b).2.2]) := by
  refine AC_ofV (ts := [2, 3, 4]) Try.f56.ntmps Try.func56 rfl rfl rfl (by simp [Try.ntmps56]) fun W I => ?_
  have hg := g4_bound b 0
  repeat' (first
    | ((with_reducible apply call0); (focus rfl); (focus exact cal_tget); (focus exact tget _ _ (by first | omega | (rw [List.length_drop]; omega))); (focus rfl))
    | ((with_reducible apply je_call0); (focus rfl); (focus (decide +kernel)); (focus rfl); (focus exact cal_tget); (focus exact tget _ _ (by first | omega | (rw [List.length_drop]; omega))); (focus rfl))
    | ((with_reducible apply call0); (focus rfl); (focus exact cal_Sum); (focus exact Sum _ _); (focus rfl))
    | ((with_reducible apply je_call0); (focus rfl); (focus (decide +kernel)); (focus rfl); (focus exact cal_Sum); (focus exact Sum _ _); (focus rfl))
    | ((with_reducible apply qcall); (focus rfl); (focus exact cal_tget); (focus exact tget _ _ (by first | omega | (rw [List.length_drop]; omega))); (focus rfl))
    | ((with_reducible apply qcall); (focus rfl); (focus exact cal_Sum); (focus exact Sum _ _); (focus rfl))
    | refine stpa ?_
    | refine two ?_ ?_
    | (refine imp fun hc => ?_) <;> try (first | contradiction | (exfalso; omega))
    | refine all fun v_ => ?_)
  · refine retv (vnil (t := 2) 1 8 rfl) ?_
    ((with_reducible apply rq3); rfl; rfl; rfl; rfl)
    refine ret_eq ?_
    rw [firstV_no (fun hw => by have := hw.1; omega)]; rfl
  · refine retv (vnil (t := 2) 1 8 rfl) ?_
    ((with_reducible apply rq3); rfl; rfl; rfl; rfl)
    refine ret_eq ?_
    rw [firstV_no (fun hw => by have := hw.2.1; omega)]; rfl
  · refine retv (vnil (t := 2) 1 8 rfl) ?_
    ((with_reducible apply rq3); rfl; rfl; rfl; rfl)
    refine ret_eq ?_
    rw [firstV_no (fun hw => by have := hw.2.2.1; omega)]; rfl
  · refine retv (vnil (t := 2) 1 8 rfl) ?_
    ((with_reducible apply rq3); rfl; rfl; rfl; rfl)
    refine ret_eq ?_
    rw [firstV_no (fun hw => by
      have e : (4 + 4 * g4 b 0).toNat = 4 + 4 * (g4 b 0).toNat := by omega
      rw [e, g4_drop] at hc
      exact hc hw.2.2.2.1)]
    rfl
  have e : (4 + 4 * g4 b 0).toNat = 4 + 4 * (g4 b 0).toNat := by omega
  rw [e, g4_drop] at hc
  have hs := Decidable.not_not.1 hc
  obtain ⟨N, hN⟩ : ∃ N : Nat, g4 b 0 = N := ⟨(g4 b 0).toNat, by omega⟩
  have hN' : (g4 b 0).toNat = N := by omega
  refine jrow (E := 3) (sz := 1) intC ?_
  refine J_loop (X := Nat × Sl) (fun y => [(0, .d (bytesD b)), (6, .int (4 + 4 * g4 b 0)), (7, .val y.2.v), (8, .int (4 + 4 * y.1))]) (fun y => [rowE y.2.v 3 1 intC (fourL b 4 y.1)]) (fun y => y.1 ≤ N ∧ okNums (fourL b 4 y.1)) (fun y => N - y.1) (0, Sl.nil) ⟨Nat.zero_le _, fun n hn => by simp [fourL] at hn⟩ ?_ rfl ?_
  · repeat (first
      | exact Env.le_nil _
      | refine Env.le_cons (AV.le_refl _) ?_
      | refine Env.le_cons (AV.le_int rfl (by first | rfl | omega | (dsimp only; omega))) ?_)
  rintro ⟨j, q⟩ ⟨h1, h2⟩
  dsimp only at h1 h2 ⊢
  have hlen := fourL_length b 4 j
  have ej : ((4 : Int) + 4 * j).toNat = 4 + 4 * j := by omega
  have hk := g4_bound b (4 + 4 * j)
  by_cases hj : j < N
  · repeat' (first
      | ((with_reducible apply call0); (focus rfl); (focus exact cal_tget); (focus exact tget _ _ (by first | omega | (rw [List.length_drop]; omega))); (focus rfl))
      | ((with_reducible apply je_call0); (focus rfl); (focus (decide +kernel)); (focus rfl); (focus exact cal_tget); (focus exact tget _ _ (by first | omega | (rw [List.length_drop]; omega))); (focus rfl))
      | ((with_reducible apply call0); (focus rfl); (focus exact cal_Sum); (focus exact Sum _ _); (focus rfl))
      | ((with_reducible apply je_call0); (focus rfl); (focus (decide +kernel)); (focus rfl); (focus exact cal_Sum); (focus exact Sum _ _); (focus rfl))
      | ((with_reducible apply qcall); (focus rfl); (focus exact cal_tget); (focus exact tget _ _ (by first | omega | (rw [List.length_drop]; omega))); (focus rfl))
      | ((with_reducible apply qcall); (focus rfl); (focus exact cal_Sum); (focus exact Sum _ _); (focus rfl))
      | refine stpa ?_
      | refine two ?_ ?_
      | (refine imp fun hc => ?_) <;> try (first | contradiction | (exfalso; omega))
      | refine all fun v_ => ?_)
    · refine retv (VS.trans (VS.drop (List.nil_sublist _)) (vnil (t := 2) 1 8 rfl)) ?_
      ((with_reducible apply rq3); rfl; rfl; rfl; rfl)
      refine ret_eq ?_
      rw [firstV_no (fun hw => ?_)]
      · rfl
      · have := hw.2.2.2.2 (g4 b (4 + 4 * j)) (by rw [hN']; exact List.mem_map.2 ⟨j, List.mem_range.2 hj, rfl⟩)
        rw [ej, g4_drop, Nat.add_zero] at hc
        omega
    · rw [ej, g4_drop, Nat.add_zero] at hc
      refine ⟨(j + 1, v_), ⟨by dsimp only; omega, ?_⟩, by dsimp only; omega, ?_, ?_⟩
      · dsimp only
        rw [fourL_succ]
        intro n hn
        rcases List.mem_append.1 hn with hn | hn
        · exact h2 n hn
        · rw [List.mem_singleton.1 hn]; omega
      · repeat (first
          | exact Env.le_nil _
          | refine Env.le_cons (AV.le_refl _) ?_
          | refine Env.le_cons (AV.le_int rfl (by first | rfl | omega | (dsimp only; omega))) ?_)
      · dsimp only
        rw [fourL_succ, ej, g4_drop, Nat.add_zero]
  · obtain rfl : j = N := by omega
    repeat' (first
      | ((with_reducible apply call0); (focus rfl); (focus exact cal_tget); (focus exact tget _ _ (by first | omega | (rw [List.length_drop]; omega))); (focus rfl))
      | ((with_reducible apply je_call0); (focus rfl); (focus (decide +kernel)); (focus rfl); (focus exact cal_tget); (focus exact tget _ _ (by first | omega | (rw [List.length_drop]; omega))); (focus rfl))
      | ((with_reducible apply call0); (focus rfl); (focus exact cal_Sum); (focus exact Sum _ _); (focus rfl))
      | ((with_reducible apply je_call0); (focus rfl); (focus (decide +kernel)); (focus rfl); (focus exact cal_Sum); (focus exact Sum _ _); (focus rfl))
      | ((with_reducible apply qcall); (focus rfl); (focus exact cal_tget); (focus exact tget _ _ (by first | omega | (rw [List.length_drop]; omega))); (focus rfl))
      | ((with_reducible apply qcall); (focus rfl); (focus exact cal_Sum); (focus exact Sum _ _); (focus rfl))
      | refine stpa ?_
      | refine two ?_ ?_
      | (refine imp fun hc => ?_) <;> try (first | contradiction | (exfalso; omega))
      | refine all fun v_ => ?_)
    refine retv (vfreeze (t := 2) (eb := 8) rfl rfl (fun x => rfl) (by rw [hlen]; omega)) ?_
    ((with_reducible apply rq3); rfl; rfl; rfl; rfl)
    refine ret_eq ?_
    have hw : wholeAt b := ⟨by omega, by omega, by omega, by rw [Nat.add_zero] at hs; exact hs, by rw [hN']; exact h2⟩
    rw [firstV, if_pos hw]
    simp only [firstOf, hN']
    have e3 : (4 + 4 * g4 b 0 + 4 : Int) = ((8 + 4 * j : Nat) : Int) := by omega
    rw [e3]
theorem Read (G : List (Nat × List D)) (t : Tp) : ACr Try.prog G 27 [tpA t] (.tup [.d (listsD (readOf t).1.1), .int (readOf t).1.2, .int (readOf t).2]) := by
  refine AC_ofV (ts := [2, 3, 4]) Try.f27.ntmps Try.func27 rfl rfl rfl (by simp [Try.ntmps27]) fun W I => ?_
  by_cases hm : mayT t
  · have hlen := hm.1
    repeat' (first
      | ((with_reducible apply callE1); (focus rfl); (focus exact cal_topen); (focus exact topen_ok _ _ hm); (focus rfl))
      | ((with_reducible apply je_callE); (focus rfl); (focus (decide +kernel)); (focus rfl); (focus exact cal_topen); (focus exact topen_ok _ _ hm); (focus rfl))
      | ((with_reducible apply call0); (focus rfl); (focus exact cal_topen); (focus exact topen_no _ _ hm); (focus rfl))
      | ((with_reducible apply je_call0); (focus rfl); (focus (decide +kernel)); (focus rfl); (focus exact cal_topen); (focus exact topen_no _ _ hm); (focus rfl))
      | refine stpa ?_
      | refine two ?_ ?_
      | (refine imp fun hc => ?_) <;> try (first | contradiction | (exfalso; omega))
      | refine all fun v_ => ?_)
    rename_i bt qd
    refine jrow (E := 36) (sz := 1) listC ?_
    refine J_loopV (X := List (List Int) × Nat × Sl) (fun y => [(5, .val (.pointer (some ⟨v_, 0, none⟩))), (7, .val y.2.2.v), (8, .int y.2.1)]) (fun y => [rowE y.2.2.v 36 1 listC y.1, .cells v_ 27 [.d (bytesD t.data), .int t.synced]]) (fun y => readTo t.data y.1 y.2.1 ∧ y.1.length ≤ y.2.1) (fun y => t.data.length - y.2.1) ([], 0, Sl.nil) ⟨readTo_zero _, Nat.zero_le _⟩
      (VS.trans (VS.drop (h' := [rowE Sl.nil.v 36 1 listC [], .cells v_ 27 [.val qd.v, .int t.synced], rowE qd.v 5 1 byteC t.data]) (by (repeat (first | exact List.nil_sublist _ | (with_reducible apply List.Sublist.cons_cons) | apply List.Sublist.cons)))) (VS.trans (vdat (h1 := [_, _]) 1 rfl rfl (fun _ => rfl) (by omega) (CvE.refl _ _ _) (CvH.keep (CvH.cells (.cons .here (.cons (.same _) .nil)) (.refl _)))) (VS.of_le ?_))) ?_
    · repeat (first
        | exact Env.le_nil _
        | refine Env.le_cons (AV.le_refl _) ?_
        | refine Env.le_cons (AV.le_int rfl (by first | rfl | omega | (dsimp only; omega))) ?_)
    rintro ⟨l, a, q⟩ ⟨h1, h2⟩
    dsimp only at h1 h2 ⊢
    have h3 := h1.1
    by_cases hw : wholeAt (t.data.drop a)
    · have ef : firstV (t.data.drop ((a : Int)).toNat) = ((firstOf (t.data.drop a)).1, ((firstOf (t.data.drop a)).2 : Int), true) := by rw [Int.toNat_natCast, firstV, if_pos hw]
      have hq := whole_le hw
      rw [List.length_drop] at hq
      have F := first G (t.data.drop (a : Int).toNat) (by rw [List.length_drop]; omega)
      rw [ef] at F
      dsimp only at F
      repeat' (first
        | ((with_reducible apply call0); (focus rfl); (focus exact cal_first); (focus exact F); (focus rfl))
        | ((with_reducible apply je_call0); (focus rfl); (focus (decide +kernel)); (focus rfl); (focus exact cal_first); (focus exact F); (focus rfl))
        | refine stpa ?_
        | refine two ?_ ?_
        | (refine imp fun hc => ?_) <;> try (first | contradiction | (exfalso; omega))
        | refine all fun v_ => ?_)
      refine ⟨(l ++ [(firstOf (t.data.drop a)).1], a + (firstOf (t.data.drop a)).2, v_), ⟨readTo_next h1 hw, ?_⟩, ?_, VS.of_le ?_⟩
      · dsimp only; rw [List.length_append, List.length_singleton]; omega
      · dsimp only; omega
      · repeat (first
          | exact Env.le_nil _
          | refine Env.le_cons (AV.le_refl _) ?_
          | refine Env.le_cons (AV.le_int rfl (by first | rfl | omega | (dsimp only; omega))) ?_)
    · have ef : firstV (t.data.drop ((a : Int)).toNat) = ([], 0, false) := by rw [Int.toNat_natCast, firstV, if_neg hw]
      have F := first G (t.data.drop (a : Int).toNat) (by rw [List.length_drop]; omega)
      rw [ef] at F
      dsimp only at F
      repeat' (first
        | ((with_reducible apply call0); (focus rfl); (focus exact cal_first); (focus exact F); (focus rfl))
        | ((with_reducible apply je_call0); (focus rfl); (focus (decide +kernel)); (focus rfl); (focus exact cal_first); (focus exact F); (focus rfl))
        | refine stpa ?_
        | refine two ?_ ?_
        | (refine imp fun hc => ?_) <;> try (first | contradiction | (exfalso; omega))
        | refine all fun v_ => ?_)
      refine retv (VS.trans (VS.drop (h' := [rowE q.v 36 1 listC l]) (by (repeat (first | exact List.nil_sublist _ | (with_reducible apply List.Sublist.cons_cons) | apply List.Sublist.cons)))) (vfreeze (t := 2) (eb := 24) rfl rfl (fun x => rfl) (by omega))) ?_
      ((with_reducible apply rq3); rfl; rfl; rfl; rfl)
      exact ret_eq (by rw [readOf, if_pos hm, readTo_end h1 hw])
  · repeat' (first
      | ((with_reducible apply callE1); (focus rfl); (focus exact cal_topen); (focus exact topen_ok _ _ hm); (focus rfl))
      | ((with_reducible apply je_callE); (focus rfl); (focus (decide +kernel)); (focus rfl); (focus exact cal_topen); (focus exact topen_ok _ _ hm); (focus rfl))
      | ((with_reducible apply call0); (focus rfl); (focus exact cal_topen); (focus exact topen_no _ _ hm); (focus rfl))
      | ((with_reducible apply je_call0); (focus rfl); (focus (decide +kernel)); (focus rfl); (focus exact cal_topen); (focus exact topen_no _ _ hm); (focus rfl))
      | refine stpa ?_
      | refine two ?_ ?_
      | (refine imp fun hc => ?_) <;> try (first | contradiction | (exfalso; omega))
      | refine all fun v_ => ?_)
    refine retv (VS.trans (VS.drop (List.nil_sublist _)) (vnil (t := 2) 1 24 rfl)) ?_
    ((with_reducible apply rq3); rfl; rfl; rfl; rfl)
    refine ret_eq ?_
    have e : readOf t = (([], 0), 9) := if_neg hm
    rw [e]; rfl
end Go.Proofs.Ytffdlpjbbkhcnaa
