/- A bundle of this claim's own texts: W8. -/
import Derived.Test.YtniklgkoiaeipaaGreatDoorD3
import Derived.Test.YtniklgkoiaeipaaGreatDoorD14
import Derived.Test.YtniklgkoiaeipaaGreatDoorD38
set_option linter.unusedVariables false
set_option linter.unusedSimpArgs false
set_option maxRecDepth 100000
set_option maxHeartbeats 4000000
namespace Go.Proofs.YtniklgkoiaeipaaGreatDoor
open Go Go.Av Go.Sp

theorem armXW8_1 {p q : Prop} (hp : p) (h : p → q := by
 apply cmp; (focus (first
  | ((with_reducible apply call0); (focus rfl); (focus exact cal_Parts); (focus exact hP); (focus rfl))
  | ((with_reducible apply je_call0); (focus rfl); (focus (decide +kernel)); (focus rfl); (focus exact cal_Parts); (focus exact hP); (focus rfl))
  ))
 exact fun h => h) : q := h hp
theorem fill (l : List Fo) (p : Int) (es : List Int) (al : List (List Bool)) (s bt br i : Nat) (R : List AV) (g : GoodF l p) (hal : ∀ (j : Nat) (h : j < al.length), (al[j].length : Int) = p) (hs : s < al.length) (hN : al.length ≤ 24) (hi : i < l.length) (hel : es.length = l.length) (hes : ∀ (j : Nat) (hj : j < es.length), es[j] = (Sp.endOf l j).1) (hRl : R.length = l.length) (hR : ∀ j, i < j → j < l.length → R[j]? = some (.d (boolsD (wRow l al s j)))) :
 AC Tryz.prog GP 174 [.val (.pointer (some ⟨bt, 0, none⟩)), .int i] [.cells bt 177 [.d (opsD l), .d (intsD es), .d (lettD al), .int s, .val (.slice (some ⟨br, 0, none⟩) l.length l.length)], .cells br 72 R] fun r h => ∃ v : Unit, r = .ret (.tup []) ∧ h = [.cells bt 177 [.d (opsD l), .d (intsD es), .d (lettD al), .int s, .val (.slice (some ⟨br, 0, none⟩) l.length l.length)], .cells br 72 (R.set i (.d (boolsD (wRow l al s i))))] := by
 have h60 := g.h60
 have hk := g.kind i hi
 have hP := Parts l[i].kind
 have hblt : Nat.blt i R.length = true := blt_of (by omega)
 have hlen := wRow_len l al s
 have hget := wRow_get l al s
 have hw := wAt_eq l al s i hi
 refine AC_ofV (ts := []) Tryz.f174.ntmps Tryz.func174 rfl rfl rfl (by simp [Tryz.ntmps174]) fun W I => ?_
 by_cases k17 : l[i].kind = 17
 · have hp : Go.Sp.partsOf l[i].kind = (1, 0) := by rw [k17]; decide
   obtain ⟨q1, q2, q3, q4, q5⟩ := first_in hi (g.well i hi) (by first | (rw [hp]; decide) | omega)
   rw [hp] at hP
   dsimp only at hP
   have hA : R[i + 1]? = some (.d (boolsD (wRow l al s (i + 1)))) := hR _ (by omega) q1
   have hrow := wRow_ahead (al := al) (s := s) hi k17 (by omega) rfl
   repeat' (first
    | ((with_reducible apply jp); (focus ((with_reducible apply pu_func1); (focus rfl))); (focus rfl))
    | refine armXW8_1 ?_
    | ((with_reducible apply js_u); (focus rfl); (focus rfl); (focus rfl); (focus (with_reducible exact ElC.h)); (focus exact updD); (focus exact hblt))
    | exact True.intro | refine stpH ?_ | refine two ?_ ?_ | refine allc fun c_ => ?_
    | (refine imp fun hc => ?_) <;> try exact cx1 hc
    | refine all fun v_ => ?_)
   rename_i bq ba bb _ _
   have S := settle GP l es al s bt br bq i (R.set i (.val (.slice (some ⟨bq, 0, none⟩) al.length al.length))) (laOf 17 (wAt l al s (i + 1)) (if i < second l i then wAt l al s (second l i) else fun _ => false) (wnx s al.length)) 204 #[.pointer (some ⟨ba, 0, none⟩)]
    (.cells ba 72 [.d (boolsD (wRow l al s (i + 1)))]) (.cells bb 72 [.val (.slice none 0 0)]) (List.replicate al.length false) cal_fillF (fun j hj x => by
     have := fillF GP (wRow l al s (i + 1)) (.val (.slice none 0 0)) ba bb j x (by rw [hlen]; exact hj)
     rw [hget] at this
     rw [la17]; exact this) rfl hs hN hi (by simp [hRl, hi]) (by simp)
   rw [hrow] at S
   repeat' (first
    | ((with_reducible apply jp); (focus ((with_reducible apply pu_func1); (focus rfl))); (focus rfl))
    | refine armXW8_1 ?_
    | ((with_reducible apply js_u); (focus rfl); (focus rfl); (focus rfl); (focus (with_reducible exact ElC.h)); (focus exact updD); (focus exact hblt))
    | ((with_reducible apply callG); (focus rfl); (focus exact cal_settle); (focus exact S); (focus exact takeD); (focus rfl); (focus exact appD))
    | exact True.intro | refine stpH ?_ | refine two ?_ ?_ | refine allc fun c_ => ?_
    | (refine imp fun hc => ?_) <;> try exact cx1 hc
    | refine all fun v_ => ?_)
   refine retv (VS.trans (VS.take (hc := [.cells bq 4 ((wRow l al s i).map AV.bool), .cells bt 177 [.d (opsD l), .d (intsD es), .d (lettD al), .int s, .val (.slice (some ⟨br, 0, none⟩) l.length l.length)], .cells br 72 (R.set i (.val (.slice (some ⟨bq, 0, none⟩) al.length al.length)))]) (by exact takeD) (Env.le_refl _)) (vdatC (f := boolC) (h1 := []) (h2 := [.cells bt 177 [.d (opsD l), .d (intsD es), .d (lettD al), .int s, .val (.slice (some ⟨br, 0, none⟩) l.length l.length)], .cells br 72 (R.set i (.val (.slice (some ⟨bq, 0, none⟩) al.length al.length)))]) (h' := [.cells bt 177 [.d (opsD l), .d (intsD es), .d (lettD al), .int s, .val (.slice (some ⟨br, 0, none⟩) l.length l.length)], .cells br 72 (R.set i (.d (boolsD (wRow l al s i))))]) 1 rfl rfl (bools_flat _) (wRow_len _ _ _ _) (fun _ => rfl) (by omega) (by omega) (CvE.refl _ _ _) (.keep (.cells (Cvs.at _ _ R i) (.refl _))))) ?_
   exact ⟨(), rfl, rfl⟩
 by_cases k18 : l[i].kind = 18
 · have hp : Go.Sp.partsOf l[i].kind = (1, 0) := by rw [k18]; decide
   obtain ⟨q1, q2, q3, q4, q5⟩ := first_in hi (g.well i hi) (by first | (rw [hp]; decide) | omega)
   rw [hp] at hP
   dsimp only at hP
   have hA : R[i + 1]? = some (.d (boolsD (wRow l al s (i + 1)))) := hR _ (by omega) q1
   have hrow := wRow_ahead (al := al) (s := s) hi k18 (by omega) rfl
   repeat' (first
    | ((with_reducible apply jp); (focus ((with_reducible apply pu_func1); (focus rfl))); (focus rfl))
    | refine armXW8_1 ?_
    | ((with_reducible apply js_u); (focus rfl); (focus rfl); (focus rfl); (focus (with_reducible exact ElC.h)); (focus exact updD); (focus exact hblt))
    | exact True.intro | refine stpH ?_ | refine two ?_ ?_ | refine allc fun c_ => ?_
    | (refine imp fun hc => ?_) <;> try exact cx1 hc
    | refine all fun v_ => ?_)
   rename_i bq ba bb _ _ _
   have S := settle GP l es al s bt br bq i (R.set i (.val (.slice (some ⟨bq, 0, none⟩) al.length al.length))) (laOf 18 (wAt l al s (i + 1)) (if i < second l i then wAt l al s (second l i) else fun _ => false) (wnx s al.length)) 205 #[.pointer (some ⟨ba, 0, none⟩)]
    (.cells ba 72 [.d (boolsD (wRow l al s (i + 1)))]) (.cells bb 72 [.val (.slice none 0 0)]) (List.replicate al.length false) cal_fillG (fun j hj x => by
     have := fillG GP (wRow l al s (i + 1)) (.val (.slice none 0 0)) ba bb j x (by rw [hlen]; exact hj)
     rw [hget] at this
     rw [la18]; exact this) rfl hs hN hi (by simp [hRl, hi]) (by simp)
   rw [hrow] at S
   repeat' (first
    | ((with_reducible apply jp); (focus ((with_reducible apply pu_func1); (focus rfl))); (focus rfl))
    | refine armXW8_1 ?_
    | ((with_reducible apply js_u); (focus rfl); (focus rfl); (focus rfl); (focus (with_reducible exact ElC.h)); (focus exact updD); (focus exact hblt))
    | ((with_reducible apply callG); (focus rfl); (focus exact cal_settle); (focus exact S); (focus exact takeD); (focus rfl); (focus exact appD))
    | exact True.intro | refine stpH ?_ | refine two ?_ ?_ | refine allc fun c_ => ?_
    | (refine imp fun hc => ?_) <;> try exact cx1 hc
    | refine all fun v_ => ?_)
   refine retv (VS.trans (VS.take (hc := [.cells bq 4 ((wRow l al s i).map AV.bool), .cells bt 177 [.d (opsD l), .d (intsD es), .d (lettD al), .int s, .val (.slice (some ⟨br, 0, none⟩) l.length l.length)], .cells br 72 (R.set i (.val (.slice (some ⟨bq, 0, none⟩) al.length al.length)))]) (by exact takeD) (Env.le_refl _)) (vdatC (f := boolC) (h1 := []) (h2 := [.cells bt 177 [.d (opsD l), .d (intsD es), .d (lettD al), .int s, .val (.slice (some ⟨br, 0, none⟩) l.length l.length)], .cells br 72 (R.set i (.val (.slice (some ⟨bq, 0, none⟩) al.length al.length)))]) (h' := [.cells bt 177 [.d (opsD l), .d (intsD es), .d (lettD al), .int s, .val (.slice (some ⟨br, 0, none⟩) l.length l.length)], .cells br 72 (R.set i (.d (boolsD (wRow l al s i))))]) 1 rfl rfl (bools_flat _) (wRow_len _ _ _ _) (fun _ => rfl) (by omega) (by omega) (CvE.refl _ _ _) (.keep (.cells (Cvs.at _ _ R i) (.refl _))))) ?_
   exact ⟨(), rfl, rfl⟩
 by_cases k15 : l[i].kind = 15
 · have hp : Go.Sp.partsOf l[i].kind = (2, 0) := by rw [k15]; decide
   obtain ⟨q1, q2, q3, q4, q5⟩ := first_in hi (g.well i hi) (by first | (rw [hp]; decide) | omega)
   obtain ⟨r1, r2⟩ := second_in hi (g.well i hi) (by rw [hp])
   rw [hp] at hP
   dsimp only at hP
   have hA : R[i + 1]? = some (.d (boolsD (wRow l al s (i + 1)))) := hR _ (by omega) q1
   have he1 : es[i + 1]'(by omega) = (second l i : Int) := by
    rw [hes _ (by omega), ← q4]
   have hB : R[(es[i + 1]'(by omega)).toNat]? = some (.d (boolsD (wRow l al s (second l i)))) := by
    rw [he1, Int.toNat_natCast]; exact hR _ (by omega) r1
   have hrow := wRow_ahead (al := al) (s := s) hi k15 (by omega) (if_pos (show i < second l i by omega))
   repeat' (first
    | ((with_reducible apply jp); (focus ((with_reducible apply pu_func1); (focus rfl))); (focus rfl))
    | refine armXW8_1 ?_
    | ((with_reducible apply js_u); (focus rfl); (focus rfl); (focus rfl); (focus (with_reducible exact ElC.h)); (focus exact updD); (focus exact hblt))
    | exact True.intro | refine stpH ?_ | refine two ?_ ?_ | refine allc fun c_ => ?_
    | (refine imp fun hc => ?_) <;> try exact cx1 hc
    | refine all fun v_ => ?_)
   rename_i bq ba bb _ _ _ _
   have S := settle GP l es al s bt br bq i (R.set i (.val (.slice (some ⟨bq, 0, none⟩) al.length al.length))) (laOf 15 (wAt l al s (i + 1)) (wAt l al s (second l i)) (wnx s al.length)) 206 #[.pointer (some ⟨bb, 0, none⟩), .pointer (some ⟨ba, 0, none⟩)]
    (.cells ba 72 [.d (boolsD (wRow l al s (i + 1)))]) (.cells bb 72 [.d (boolsD (wRow l al s (second l i)))]) (List.replicate al.length false) cal_fillU (fun j hj x => by
     have := fillU GP (wRow l al s (i + 1)) (wRow l al s (second l i)) ba bb j x (by rw [hlen]; exact hj) (by rw [hlen]; exact hj)
     rw [hget, hget] at this
     rw [la15]; exact this) rfl hs hN hi (by simp [hRl, hi]) (by simp)
   rw [hrow] at S
   repeat' (first
    | ((with_reducible apply jp); (focus ((with_reducible apply pu_func1); (focus rfl))); (focus rfl))
    | refine armXW8_1 ?_
    | ((with_reducible apply js_u); (focus rfl); (focus rfl); (focus rfl); (focus (with_reducible exact ElC.h)); (focus exact updD); (focus exact hblt))
    | ((with_reducible apply callG); (focus rfl); (focus exact cal_settle); (focus exact S); (focus exact takeD); (focus rfl); (focus exact appD))
    | exact True.intro | refine stpH ?_ | refine two ?_ ?_ | refine allc fun c_ => ?_
    | (refine imp fun hc => ?_) <;> try exact cx1 hc
    | refine all fun v_ => ?_)
   refine retv (VS.trans (VS.take (hc := [.cells bq 4 ((wRow l al s i).map AV.bool), .cells bt 177 [.d (opsD l), .d (intsD es), .d (lettD al), .int s, .val (.slice (some ⟨br, 0, none⟩) l.length l.length)], .cells br 72 (R.set i (.val (.slice (some ⟨bq, 0, none⟩) al.length al.length)))]) (by exact takeD) (Env.le_refl _)) (vdatC (f := boolC) (h1 := []) (h2 := [.cells bt 177 [.d (opsD l), .d (intsD es), .d (lettD al), .int s, .val (.slice (some ⟨br, 0, none⟩) l.length l.length)], .cells br 72 (R.set i (.val (.slice (some ⟨bq, 0, none⟩) al.length al.length)))]) (h' := [.cells bt 177 [.d (opsD l), .d (intsD es), .d (lettD al), .int s, .val (.slice (some ⟨br, 0, none⟩) l.length l.length)], .cells br 72 (R.set i (.d (boolsD (wRow l al s i))))]) 1 rfl rfl (bools_flat _) (wRow_len _ _ _ _) (fun _ => rfl) (by omega) (by omega) (CvE.refl _ _ _) (.keep (.cells (Cvs.at _ _ R i) (.refl _))))) ?_
   exact ⟨(), rfl, rfl⟩
 by_cases k16 : l[i].kind = 16
 · have hp : Go.Sp.partsOf l[i].kind = (2, 0) := by rw [k16]; decide
   obtain ⟨q1, q2, q3, q4, q5⟩ := first_in hi (g.well i hi) (by first | (rw [hp]; decide) | omega)
   obtain ⟨r1, r2⟩ := second_in hi (g.well i hi) (by rw [hp])
   rw [hp] at hP
   dsimp only at hP
   have hA : R[i + 1]? = some (.d (boolsD (wRow l al s (i + 1)))) := hR _ (by omega) q1
   have he1 : es[i + 1]'(by omega) = (second l i : Int) := by
    rw [hes _ (by omega), ← q4]
   have hB : R[(es[i + 1]'(by omega)).toNat]? = some (.d (boolsD (wRow l al s (second l i)))) := by
    rw [he1, Int.toNat_natCast]; exact hR _ (by omega) r1
   have hrow := wRow_ahead (al := al) (s := s) hi k16 (by omega) (if_pos (show i < second l i by omega))
   repeat' (first
    | ((with_reducible apply jp); (focus ((with_reducible apply pu_func1); (focus rfl))); (focus rfl))
    | refine armXW8_1 ?_
    | ((with_reducible apply js_u); (focus rfl); (focus rfl); (focus rfl); (focus (with_reducible exact ElC.h)); (focus exact updD); (focus exact hblt))
    | exact True.intro | refine stpH ?_ | refine two ?_ ?_ | refine allc fun c_ => ?_
    | (refine imp fun hc => ?_) <;> try exact cx1 hc
    | refine all fun v_ => ?_)
   rename_i bq ba bb _ _ _ _ _
   have S := settle GP l es al s bt br bq i (R.set i (.val (.slice (some ⟨bq, 0, none⟩) al.length al.length))) (laOf 16 (wAt l al s (i + 1)) (wAt l al s (second l i)) (wnx s al.length)) 207 #[.pointer (some ⟨bb, 0, none⟩), .pointer (some ⟨ba, 0, none⟩)]
    (.cells ba 72 [.d (boolsD (wRow l al s (i + 1)))]) (.cells bb 72 [.d (boolsD (wRow l al s (second l i)))]) (List.replicate al.length false) cal_fillR (fun j hj x => by
     have := fillR GP (wRow l al s (i + 1)) (wRow l al s (second l i)) ba bb j x (by rw [hlen]; exact hj) (by rw [hlen]; exact hj)
     rw [hget, hget] at this
     rw [la16]; exact this) rfl hs hN hi (by simp [hRl, hi]) (by simp)
   rw [hrow] at S
   repeat' (first
    | ((with_reducible apply jp); (focus ((with_reducible apply pu_func1); (focus rfl))); (focus rfl))
    | refine armXW8_1 ?_
    | ((with_reducible apply js_u); (focus rfl); (focus rfl); (focus rfl); (focus (with_reducible exact ElC.h)); (focus exact updD); (focus exact hblt))
    | ((with_reducible apply callG); (focus rfl); (focus exact cal_settle); (focus exact S); (focus exact takeD); (focus rfl); (focus exact appD))
    | exact True.intro | refine stpH ?_ | refine two ?_ ?_ | refine allc fun c_ => ?_
    | (refine imp fun hc => ?_) <;> try exact cx1 hc
    | refine all fun v_ => ?_)
   refine retv (VS.trans (VS.take (hc := [.cells bq 4 ((wRow l al s i).map AV.bool), .cells bt 177 [.d (opsD l), .d (intsD es), .d (lettD al), .int s, .val (.slice (some ⟨br, 0, none⟩) l.length l.length)], .cells br 72 (R.set i (.val (.slice (some ⟨bq, 0, none⟩) al.length al.length)))]) (by exact takeD) (Env.le_refl _)) (vdatC (f := boolC) (h1 := []) (h2 := [.cells bt 177 [.d (opsD l), .d (intsD es), .d (lettD al), .int s, .val (.slice (some ⟨br, 0, none⟩) l.length l.length)], .cells br 72 (R.set i (.val (.slice (some ⟨bq, 0, none⟩) al.length al.length)))]) (h' := [.cells bt 177 [.d (opsD l), .d (intsD es), .d (lettD al), .int s, .val (.slice (some ⟨br, 0, none⟩) l.length l.length)], .cells br 72 (R.set i (.d (boolsD (wRow l al s i))))]) 1 rfl rfl (bools_flat _) (wRow_len _ _ _ _) (fun _ => rfl) (by omega) (by omega) (CvE.refl _ _ _) (.keep (.cells (Cvs.at _ _ R i) (.refl _))))) ?_
   exact ⟨(), rfl, rfl⟩
 by_cases kA : l[i].kind = 13 ∨ l[i].kind = 11 ∨ l[i].kind = 12
 · have hp : Go.Sp.partsOf l[i].kind = (0, 0) := by rcases kA with h | h | h <;> (rw [h]; decide)
   rw [hp] at hP
   dsimp only at hP
   repeat' (first
    | ((with_reducible apply jp); (focus ((with_reducible apply pu_func1); (focus rfl))); (focus rfl))
    | refine armXW8_1 ?_
    | ((with_reducible apply js_u); (focus rfl); (focus rfl); (focus rfl); (focus (with_reducible exact ElC.h)); (focus exact updD); (focus exact hblt))
    | exact True.intro | refine stpH ?_ | refine two ?_ ?_ | refine allc fun c_ => ?_
    | (refine imp fun hc => ?_) <;> try exact cx1 hc
    | refine all fun v_ => ?_)
   rename_i bq ba bb _ _ _ _
   refine J_loopV (X := Nat × List Bool) (fun y => [(0, .val (.pointer (some ⟨bt, 0, none⟩))), (4, .val (.slice (some ⟨bq, 0, none⟩) al.length al.length)), (5, .val (.pointer (some ⟨ba, 0, none⟩))), (6, .val (.pointer (some ⟨bb, 0, none⟩))), (9, .val (.pointer (some ⟨v_, 0, none⟩))), (72, .int al.length), (73, .int y.1)]) (fun y => [.cells v_ 62 [.int l[i].kind, .int l[i].val], .cells bb 72 [.val (.slice none 0 0)], .cells ba 72 [.val (.slice none 0 0)], .cells bq 4 (y.2.map AV.bool), .cells bt 177 [.d (opsD l), .d (intsD es), .d (lettD al), .int s, .val (.slice (some ⟨br, 0, none⟩) l.length l.length)], .cells br 72 (R.set i (.val (.slice (some ⟨bq, 0, none⟩) al.length al.length)))]) (fun y => y.1 ≤ al.length ∧ WRow (wAt l al s i) al.length y.1 y.2) (fun y => al.length - y.1) (0, List.replicate al.length false) ⟨Nat.zero_le _, WRow.start _ _⟩ (VS.of_le ?_) ?_
   · exact leD
   rintro ⟨j, row⟩ ⟨d1, d2⟩
   dsimp only at d1 d2 ⊢
   have dl := d2.len
   by_cases hj : ¬ j < al.length
   · obtain rfl : j = al.length := by omega
     obtain rfl : row = wRow l al s i := d2.fin
     repeat' (first
      | ((with_reducible apply jp); (focus ((with_reducible apply pu_func1); (focus rfl))); (focus rfl))
      | refine armXW8_1 ?_
      | ((with_reducible apply js_u); (focus rfl); (focus rfl); (focus rfl); (focus (with_reducible exact ElC.h)); (focus exact updD); (focus exact hblt))
      | exact True.intro | refine stpH ?_ | refine two ?_ ?_ | refine allc fun c_ => ?_
      | (refine imp fun hc => ?_) <;> try exact cx1 hc
      | refine all fun v_ => ?_)
     refine retv (VS.trans (VS.take (hc := [.cells bq 4 ((wRow l al s i).map AV.bool), .cells bt 177 [.d (opsD l), .d (intsD es), .d (lettD al), .int s, .val (.slice (some ⟨br, 0, none⟩) l.length l.length)], .cells br 72 (R.set i (.val (.slice (some ⟨bq, 0, none⟩) al.length al.length)))]) (by exact takeD) (Env.le_refl _)) (vdatC (f := boolC) (h1 := []) (h2 := [.cells bt 177 [.d (opsD l), .d (intsD es), .d (lettD al), .int s, .val (.slice (some ⟨br, 0, none⟩) l.length l.length)], .cells br 72 (R.set i (.val (.slice (some ⟨bq, 0, none⟩) al.length al.length)))]) (h' := [.cells bt 177 [.d (opsD l), .d (intsD es), .d (lettD al), .int s, .val (.slice (some ⟨br, 0, none⟩) l.length l.length)], .cells br 72 (R.set i (.d (boolsD (wRow l al s i))))]) 1 rfl rfl (bools_flat _) (wRow_len _ _ _ _) (fun _ => rfl) (by omega) (by omega) (CvE.refl _ _ _) (.keep (.cells (Cvs.at _ _ R i) (.refl _))))) ?_
     exact ⟨(), rfl, rfl⟩
   replace hj := Decidable.not_not.1 hj
   have hwj := congrFun hw j
   unfold stepW at hwj
   rw [kindAt_eq l i hi, valAt_eq l i hi] at hwj
   have dA : j < (wRow l al s (i + 1)).length := by rw [hlen]; exact hj
   have gA := hget (i + 1) j dA
   by_cases k13 : l[i].kind = 13
   · obtain ⟨v0, v1⟩ := g.prop i hi k13
     have halj := hal j hj
     have hv : l[i].val.toNat < al[j].length := by omega
     rw [if_pos k13, letB, List.getElem?_eq_getElem hj] at hwj
     have hwj2 : wAt l al s i j = al[j][l[i].val.toNat] := by rw [hwj]; simp [hv]
     repeat' (first
      | ((with_reducible apply jp); (focus ((with_reducible apply pu_func1); (focus rfl))); (focus rfl))
      | refine armXW8_1 ?_
      | ((with_reducible apply js_u); (focus rfl); (focus rfl); (focus rfl); (focus (with_reducible exact ElC.h)); (focus exact updD); (focus exact hblt))
      | exact True.intro | refine stpH ?_ | refine two ?_ ?_ | refine allc fun c_ => ?_
      | (refine imp fun hc => ?_) <;> try exact cx1 hc
      | refine all fun v_ => ?_)
     refine ⟨(j + 1, row.set j (al[j][l[i].val.toNat])), ⟨by dsimp only; omega, d2.next ?_⟩, by dsimp only; omega, VS.of_le ?_⟩
     rotate_left
     · exact leD
     exact hwj2
   by_cases k11 : l[i].kind = 11
   · rw [if_neg k13, if_pos k11] at hwj
     repeat' (first
      | ((with_reducible apply jp); (focus ((with_reducible apply pu_func1); (focus rfl))); (focus rfl))
      | refine armXW8_1 ?_
      | ((with_reducible apply js_u); (focus rfl); (focus rfl); (focus rfl); (focus (with_reducible exact ElC.h)); (focus exact updD); (focus exact hblt))
      | exact True.intro | refine stpH ?_ | refine two ?_ ?_ | refine allc fun c_ => ?_
      | (refine imp fun hc => ?_) <;> try exact cx1 hc
      | refine all fun v_ => ?_)
     refine ⟨(j + 1, row.set j (true)), ⟨by dsimp only; omega, d2.next ?_⟩, by dsimp only; omega, VS.of_le ?_⟩
     rotate_left
     · exact leD
     exact hwj
   · rw [if_neg k13, if_neg k11, if_pos (by omega)] at hwj
     repeat' (first
      | ((with_reducible apply jp); (focus ((with_reducible apply pu_func1); (focus rfl))); (focus rfl))
      | refine armXW8_1 ?_
      | ((with_reducible apply js_u); (focus rfl); (focus rfl); (focus rfl); (focus (with_reducible exact ElC.h)); (focus exact updD); (focus exact hblt))
      | exact True.intro | refine stpH ?_ | refine two ?_ ?_ | refine allc fun c_ => ?_
      | (refine imp fun hc => ?_) <;> try exact cx1 hc
      | refine all fun v_ => ?_)
     refine ⟨(j + 1, row), ⟨by dsimp only; omega, d2.no ?_⟩, by dsimp only; omega, VS.of_le ?_⟩
     rotate_left
     · exact leD
     exact hwj
 by_cases kB : l[i].kind = 10 ∨ l[i].kind = 14
 · have hq : 1 ≤ (Go.Sp.partsOf l[i].kind).1 := by rcases kB with h | h <;> (rw [h]; decide)
   have hp : Go.Sp.partsOf l[i].kind = (1, 0) := by rcases kB with h | h <;> (rw [h]; decide)
   obtain ⟨q1, q2, q3, q4, q5⟩ := first_in hi (g.well i hi) (by first | (rw [hp]; decide) | omega)
   rw [hp] at hP
   dsimp only at hP
   have hA : R[i + 1]? = some (.d (boolsD (wRow l al s (i + 1)))) := hR _ (by omega) q1
   repeat' (first
    | ((with_reducible apply jp); (focus ((with_reducible apply pu_func1); (focus rfl))); (focus rfl))
    | refine armXW8_1 ?_
    | ((with_reducible apply js_u); (focus rfl); (focus rfl); (focus rfl); (focus (with_reducible exact ElC.h)); (focus exact updD); (focus exact hblt))
    | exact True.intro | refine stpH ?_ | refine two ?_ ?_ | refine allc fun c_ => ?_
    | (refine imp fun hc => ?_) <;> try exact cx1 hc
    | refine all fun v_ => ?_)
   rename_i bq ba bb _ _ _ _ _
   refine J_loopV (X := Nat × List Bool) (fun y => [(0, .val (.pointer (some ⟨bt, 0, none⟩))), (4, .val (.slice (some ⟨bq, 0, none⟩) al.length al.length)), (5, .val (.pointer (some ⟨ba, 0, none⟩))), (6, .val (.pointer (some ⟨bb, 0, none⟩))), (9, .val (.pointer (some ⟨v_, 0, none⟩))), (72, .int al.length), (73, .int y.1)]) (fun y => [.cells v_ 62 [.int l[i].kind, .int l[i].val], .cells bb 72 [.val (.slice none 0 0)], .cells ba 72 [.d (boolsD (wRow l al s (i + 1)))], .cells bq 4 (y.2.map AV.bool), .cells bt 177 [.d (opsD l), .d (intsD es), .d (lettD al), .int s, .val (.slice (some ⟨br, 0, none⟩) l.length l.length)], .cells br 72 (R.set i (.val (.slice (some ⟨bq, 0, none⟩) al.length al.length)))]) (fun y => y.1 ≤ al.length ∧ WRow (wAt l al s i) al.length y.1 y.2) (fun y => al.length - y.1) (0, List.replicate al.length false) ⟨Nat.zero_le _, WRow.start _ _⟩ (VS.of_le ?_) ?_
   · exact leD
   rintro ⟨j, row⟩ ⟨d1, d2⟩
   dsimp only at d1 d2 ⊢
   have dl := d2.len
   by_cases hj : ¬ j < al.length
   · obtain rfl : j = al.length := by omega
     obtain rfl : row = wRow l al s i := d2.fin
     repeat' (first
      | ((with_reducible apply jp); (focus ((with_reducible apply pu_func1); (focus rfl))); (focus rfl))
      | refine armXW8_1 ?_
      | ((with_reducible apply js_u); (focus rfl); (focus rfl); (focus rfl); (focus (with_reducible exact ElC.h)); (focus exact updD); (focus exact hblt))
      | exact True.intro | refine stpH ?_ | refine two ?_ ?_ | refine allc fun c_ => ?_
      | (refine imp fun hc => ?_) <;> try exact cx1 hc
      | refine all fun v_ => ?_)
     refine retv (VS.trans (VS.take (hc := [.cells bq 4 ((wRow l al s i).map AV.bool), .cells bt 177 [.d (opsD l), .d (intsD es), .d (lettD al), .int s, .val (.slice (some ⟨br, 0, none⟩) l.length l.length)], .cells br 72 (R.set i (.val (.slice (some ⟨bq, 0, none⟩) al.length al.length)))]) (by exact takeD) (Env.le_refl _)) (vdatC (f := boolC) (h1 := []) (h2 := [.cells bt 177 [.d (opsD l), .d (intsD es), .d (lettD al), .int s, .val (.slice (some ⟨br, 0, none⟩) l.length l.length)], .cells br 72 (R.set i (.val (.slice (some ⟨bq, 0, none⟩) al.length al.length)))]) (h' := [.cells bt 177 [.d (opsD l), .d (intsD es), .d (lettD al), .int s, .val (.slice (some ⟨br, 0, none⟩) l.length l.length)], .cells br 72 (R.set i (.d (boolsD (wRow l al s i))))]) 1 rfl rfl (bools_flat _) (wRow_len _ _ _ _) (fun _ => rfl) (by omega) (by omega) (CvE.refl _ _ _) (.keep (.cells (Cvs.at _ _ R i) (.refl _))))) ?_
     exact ⟨(), rfl, rfl⟩
   replace hj := Decidable.not_not.1 hj
   have hwj := congrFun hw j
   unfold stepW at hwj
   rw [kindAt_eq l i hi, valAt_eq l i hi] at hwj
   have dA : j < (wRow l al s (i + 1)).length := by rw [hlen]; exact hj
   have gA := hget (i + 1) j dA
   rw [if_neg (by omega), if_neg (by omega), if_neg (by omega)] at hwj
   by_cases k10 : l[i].kind = 10
   · rw [if_pos k10] at hwj
     repeat' (first
      | ((with_reducible apply jp); (focus ((with_reducible apply pu_func1); (focus rfl))); (focus rfl))
      | refine armXW8_1 ?_
      | ((with_reducible apply js_u); (focus rfl); (focus rfl); (focus rfl); (focus (with_reducible exact ElC.h)); (focus exact updD); (focus exact hblt))
      | exact True.intro | refine stpH ?_ | refine two ?_ ?_ | refine allc fun c_ => ?_
      | (refine imp fun hc => ?_) <;> try exact cx1 hc
      | refine all fun v_ => ?_)
     refine ⟨(j + 1, row.set j (!(wRow l al s (i + 1))[j])), ⟨by dsimp only; omega, d2.next ?_⟩, by dsimp only; omega, VS.of_le ?_⟩
     rotate_left
     · exact leD
     rw [hwj, gA]
   · rw [if_neg k10, if_neg (by omega), if_neg (by omega), if_pos (by omega)] at hwj
     have dX : wnx s al.length j < (wRow l al s (i + 1)).length := by rw [hlen]; unfold wnx; split <;> omega
     have gX := hget (i + 1) _ dX
     repeat' (first
      | ((with_reducible apply callG); (focus rfl); (focus exact cal_behind); (focus exact behind GP l es al s bt br j hN (by omega)); (focus exact takeD); (focus rfl); (focus exact appD))
      | exact True.intro | refine stp1 ?_ | refine two ?_ ?_ | refine allc fun c_ => ?_
      | (refine imp fun hc => ?_) <;> try exact cx hc
      | refine all fun v_ => ?_)
     refine ⟨?_⟩
     refine J_region_HB [.cells bt 177 [.d (opsD l), .d (intsD es), .d (lettD al), .int s, .val (.slice (some ⟨br, 0, none⟩) l.length l.length)]] mixed rfl (by (repeat ((with_reducible apply Hd.cons); (focus rfl))); exact Hd.nil) (by (repeat (with_reducible apply len_cons)); exact len_nil) (by decide +kernel) (by exact takeD) ?_
     repeat' (first
      | ((with_reducible apply callG); (focus rfl); (focus exact cal_behind); (focus exact behind GP l es al s bt br j hN (by omega)); (focus exact takeD); (focus rfl); (focus exact appD))
      | exact True.intro | refine stpH ?_ | refine two ?_ ?_ | refine allc fun c_ => ?_
      | (refine imp fun hc => ?_) <;> try exact cx1 hc
      | refine all fun v_ => ?_)
     refine ⟨(j + 1, row.set j ((wRow l al s (i + 1))[wnx s al.length j])), ⟨by dsimp only; omega, d2.next ?_⟩, by dsimp only; omega, VS.take (by exact takeD) ?_⟩
     rotate_left
     · exact leD
     rw [hwj, gX]
 have kC : l[i].kind = 8 ∨ l[i].kind = 9 := by omega
 have hq : (Go.Sp.partsOf l[i].kind).1 = 2 := by rcases kC with h | h <;> (rw [h]; decide)
 have hp : Go.Sp.partsOf l[i].kind = (2, 0) := by rcases kC with h | h <;> (rw [h]; decide)
 obtain ⟨q1, q2, q3, q4, q5⟩ := first_in hi (g.well i hi) (by first | (rw [hp]; decide) | omega)
 obtain ⟨r1, r2⟩ := second_in hi (g.well i hi) (by rw [hp])
 rw [hp] at hP
 dsimp only at hP
 have hA : R[i + 1]? = some (.d (boolsD (wRow l al s (i + 1)))) := hR _ (by omega) q1
 have he1 : es[i + 1]'(by omega) = (second l i : Int) := by
  rw [hes _ (by omega), ← q4]
 have hB : R[(es[i + 1]'(by omega)).toNat]? = some (.d (boolsD (wRow l al s (second l i)))) := by
  rw [he1, Int.toNat_natCast]; exact hR _ (by omega) r1
 repeat' (first
  | ((with_reducible apply jp); (focus ((with_reducible apply pu_func1); (focus rfl))); (focus rfl))
  | refine armXW8_1 ?_
  | ((with_reducible apply js_u); (focus rfl); (focus rfl); (focus rfl); (focus (with_reducible exact ElC.h)); (focus exact updD); (focus exact hblt))
  | exact True.intro | refine stpH ?_ | refine two ?_ ?_ | refine allc fun c_ => ?_
  | (refine imp fun hc => ?_) <;> try exact cx1 hc
  | refine all fun v_ => ?_)
 rename_i bq ba bb _ _ _ _ _
 refine J_loopV (X := Nat × List Bool) (fun y => [(0, .val (.pointer (some ⟨bt, 0, none⟩))), (4, .val (.slice (some ⟨bq, 0, none⟩) al.length al.length)), (5, .val (.pointer (some ⟨ba, 0, none⟩))), (6, .val (.pointer (some ⟨bb, 0, none⟩))), (9, .val (.pointer (some ⟨v_, 0, none⟩))), (72, .int al.length), (73, .int y.1)]) (fun y => [.cells v_ 62 [.int l[i].kind, .int l[i].val], .cells bb 72 [.d (boolsD (wRow l al s (second l i)))], .cells ba 72 [.d (boolsD (wRow l al s (i + 1)))], .cells bq 4 (y.2.map AV.bool), .cells bt 177 [.d (opsD l), .d (intsD es), .d (lettD al), .int s, .val (.slice (some ⟨br, 0, none⟩) l.length l.length)], .cells br 72 (R.set i (.val (.slice (some ⟨bq, 0, none⟩) al.length al.length)))]) (fun y => y.1 ≤ al.length ∧ WRow (wAt l al s i) al.length y.1 y.2) (fun y => al.length - y.1) (0, List.replicate al.length false) ⟨Nat.zero_le _, WRow.start _ _⟩ (VS.of_le ?_) ?_
 · exact leD
 rintro ⟨j, row⟩ ⟨d1, d2⟩
 dsimp only at d1 d2 ⊢
 have dl := d2.len
 by_cases hj : ¬ j < al.length
 · obtain rfl : j = al.length := by omega
   obtain rfl : row = wRow l al s i := d2.fin
   repeat' (first
    | ((with_reducible apply jp); (focus ((with_reducible apply pu_func1); (focus rfl))); (focus rfl))
    | refine armXW8_1 ?_
    | ((with_reducible apply js_u); (focus rfl); (focus rfl); (focus rfl); (focus (with_reducible exact ElC.h)); (focus exact updD); (focus exact hblt))
    | exact True.intro | refine stpH ?_ | refine two ?_ ?_ | refine allc fun c_ => ?_
    | (refine imp fun hc => ?_) <;> try exact cx1 hc
    | refine all fun v_ => ?_)
   refine retv (VS.trans (VS.take (hc := [.cells bq 4 ((wRow l al s i).map AV.bool), .cells bt 177 [.d (opsD l), .d (intsD es), .d (lettD al), .int s, .val (.slice (some ⟨br, 0, none⟩) l.length l.length)], .cells br 72 (R.set i (.val (.slice (some ⟨bq, 0, none⟩) al.length al.length)))]) (by exact takeD) (Env.le_refl _)) (vdatC (f := boolC) (h1 := []) (h2 := [.cells bt 177 [.d (opsD l), .d (intsD es), .d (lettD al), .int s, .val (.slice (some ⟨br, 0, none⟩) l.length l.length)], .cells br 72 (R.set i (.val (.slice (some ⟨bq, 0, none⟩) al.length al.length)))]) (h' := [.cells bt 177 [.d (opsD l), .d (intsD es), .d (lettD al), .int s, .val (.slice (some ⟨br, 0, none⟩) l.length l.length)], .cells br 72 (R.set i (.d (boolsD (wRow l al s i))))]) 1 rfl rfl (bools_flat _) (wRow_len _ _ _ _) (fun _ => rfl) (by omega) (by omega) (CvE.refl _ _ _) (.keep (.cells (Cvs.at _ _ R i) (.refl _))))) ?_
   exact ⟨(), rfl, rfl⟩
 replace hj := Decidable.not_not.1 hj
 have hwj := congrFun hw j
 unfold stepW at hwj
 rw [kindAt_eq l i hi, valAt_eq l i hi] at hwj
 have dA : j < (wRow l al s (i + 1)).length := by rw [hlen]; exact hj
 have gA := hget (i + 1) j dA
 rw [if_neg (by omega), if_neg (by omega), if_neg (by omega), if_neg (by omega)] at hwj
 have dB : j < (wRow l al s (second l i)).length := by rw [hlen]; exact hj
 have gB := hget (second l i) j dB
 rw [if_pos (show i < second l i by omega)] at hwj
 rw [← gA, ← gB] at hwj
 by_cases k8 : l[i].kind = 8
 · rw [if_pos k8] at hwj
   repeat' (first
    | ((with_reducible apply jp); (focus ((with_reducible apply pu_func1); (focus rfl))); (focus rfl))
    | refine armXW8_1 ?_
    | ((with_reducible apply js_u); (focus rfl); (focus rfl); (focus rfl); (focus (with_reducible exact ElC.h)); (focus exact updD); (focus exact hblt))
    | exact True.intro | refine stpH ?_ | refine two ?_ ?_ | refine allc fun c_ => ?_
    | (refine imp fun hc => ?_) <;> try exact cx1 hc
    | refine all fun v_ => ?_)
   all_goals
    refine ⟨(j + 1, row.set j (_)), ⟨by dsimp only; omega, d2.next ?_⟩, by dsimp only; omega, VS.of_le ?_⟩
    rotate_left
    · exact leD
    rw [hwj, hc]; rfl
 · rw [if_neg k8, if_pos (by omega)] at hwj
   repeat' (first
    | ((with_reducible apply jp); (focus ((with_reducible apply pu_func1); (focus rfl))); (focus rfl))
    | refine armXW8_1 ?_
    | ((with_reducible apply js_u); (focus rfl); (focus rfl); (focus rfl); (focus (with_reducible exact ElC.h)); (focus exact updD); (focus exact hblt))
    | exact True.intro | refine stpH ?_ | refine two ?_ ?_ | refine allc fun c_ => ?_
    | (refine imp fun hc => ?_) <;> try exact cx1 hc
    | refine all fun v_ => ?_)
   all_goals
    refine ⟨(j + 1, row.set j (_)), ⟨by dsimp only; omega, d2.next ?_⟩, by dsimp only; omega, VS.of_le ?_⟩
    rotate_left
    · exact leD
    rw [hwj, hc]; rfl
end Go.Proofs.YtniklgkoiaeipaaGreatDoor
