/- A bundle of this claim's own texts: R12 R13 R14. -/
import Derived.Test.YtajnpfgelpkijaaGreatDoorZ10
import Derived.Test.YtajnpfgelpkijaaGreatDoorZ11
import Derived.Test.YtajnpfgelpkijaaGreatDoorZ12
import Derived.Test.YtajnpfgelpkijaaGreatDoorZ16
set_option linter.unusedVariables false
set_option linter.unusedSimpArgs false
set_option maxRecDepth 100000
set_option maxHeartbeats 4000000
namespace Go.Sp
open Go Go.Av
theorem propI_len {w : List UInt8} (h0 : 0 < w.length) (h1 : 1 < w.length) (h : w.length = 2) : propI w = if w[0].toNat = 80 ∧ 48 ≤ w[1].toNat ∧ w[1].toNat ≤ 53 then (w[1].toNat : Int) - 48 else -1 := by
 match w, h with
 | [a, b], _ =>
   show propI [a, b] = if a.toNat = 80 ∧ 48 ≤ b.toNat ∧ b.toNat ≤ 53 then (b.toNat : Int) - 48 else -1
   by_cases e : a = 80
   · subst e
     by_cases c : 48 ≤ b.toNat ∧ b.toNat ≤ 53
     · rw [if_pos ⟨rfl, c⟩]; exact if_pos c
     · rw [if_neg (fun k => c k.2)]; exact if_neg c
   · rw [if_neg (fun k => e (UInt8.toNat_inj.1 k.1))]
     unfold propI
     split
     · rename_i d he
       simp only [List.cons.injEq] at he
       exact absurd he.1 e
     · rfl
theorem propI_else {w : List UInt8} (h : w.length ≠ 2) : propI w = -1 := by
 unfold propI
 split
 · exact absurd rfl h
 · rfl
end Go.Sp
namespace Go.Proofs.YtajnpfgelpkijaaGreatDoor
open Go Go.Av Go.Sp
theorem cal_opOf : Cal Tryz.prog 44 := Cal.of Tryz.func44 (by kernel_rfl) (by kernel_rfl)
theorem cal_termOf : Cal Tryz.prog 18 := Cal.of Tryz.func18 (by kernel_rfl) (by kernel_rfl)
theorem ropOf (G : List (Nat × List D)) (qv qr : Sl) (vars : List Vr) (w : List UInt8) (hv : vars.length ≤ 100000) : AC Tryz.prog G 44 [.agg [.val qv.v, .val qr.v], .val (.string (tx w))] [rowE qv.v 68 4 Vr.cells vars] fun e h => ∃ _ : Unit, e = .ret (.agg [.int (opF vars w).kind, .int (opF vars w).val]) ∧ h = [rowE qv.v 68 4 Vr.cells vars] := by
 have hV := rvarOf G qv qr vars w hv
 have hNum := rnumOf G w
 refine AC_ofR (rs := [.cell 4 53]) Tryz.f44.ntmps Tryz.func44 rfl rfl rfl (by simp [Tryz.ntmps44]) fun W I => ?_
 repeat' (first
  | ((with_reducible apply jp); (focus (first | ((with_reducible apply pu_lenT); rfl; rfl) | ((with_reducible apply pu_eqT); rfl; rfl) | ((with_reducible apply pu_neT); rfl; rfl) | ((with_reducible apply pu_atT); rfl; rfl; rfl; omega))); (focus rfl))
  | refine allocD ?_
  | refine ca cal_markOf (hM) ?_
  | exact True.intro | refine stpA ?_ | refine two ?_ ?_
  | (refine imp fun hc => ?_) <;> try exact cx hc
  | refine all fun v_ => ?_)
 rename_i bm
 obtain ⟨bo, rfl⟩ : ∃ x, x = v_ := ⟨v_, rfl⟩
 refine J_loopV (X := Nat) (fun k => [(1, .val (.string (tx w))), (2, .val (.pointer (some ⟨bm, 0, none⟩))), (4, .val (.pointer (some ⟨bo, 0, none⟩))), (5, .int ((k : Nat) + 3 : Nat))]) (fun _ => [.cells bo 53 [.int 0, .int 0], .cells bm 25 [.val qv.v, .val qr.v], rowE qv.v 68 4 Vr.cells vars]) (fun k => k ≤ 16 ∧ ∀ j, j < k → markL (j + 3 : Nat) = w → w = []) (fun k => 16 - k) 0 ⟨Nat.zero_le _, fun j hj => absurd hj (Nat.not_lt_zero _)⟩ (VS.take (by exact takedD) ?_) ?_
 · exact leD
 rintro k ⟨hk0, hprev⟩
 by_cases hk : k < 16
 · have hM := markOf G ((k + 3 : Nat) : Int)
   repeat' (first
    | ((with_reducible apply jp); (focus (first | ((with_reducible apply pu_lenT); rfl; rfl) | ((with_reducible apply pu_eqT); rfl; rfl) | ((with_reducible apply pu_neT); rfl; rfl) | ((with_reducible apply pu_atT); rfl; rfl; rfl; omega))); (focus rfl))
    | refine allocD ?_
    | refine ca cal_markOf (hM) ?_
    | exact True.intro | refine stpA ?_ | refine two ?_ ?_
    | (refine imp fun hc => ?_) <;> try exact cx hc
    | refine all fun v_ => ?_)
   · rename_i hc1
     have e1 : markL (k + 3 : Nat) = w := tx_eq hc1
     have e2 : w ≠ [] := fun e => by subst e; simp at hc
     have hmK : markK w = some k := markK_first hk e1 e2 fun i hi e => e2 (hprev i hi e)
     have hop : opF vars w = ⟨(k + 3 : Nat), 0⟩ := by unfold opF; rw [hmK]
     rw [hop]
     refine retr (VS.take (hc := [.cells bo 53 [.int ((k + 3 : Nat) : Int), .int 0], rowE qv.v 68 4 Vr.cells vars]) (by exact takedD) (Env.le_refl _)) (xs := [.agg [.int ((k + 3 : Nat) : Int), .int 0]]) ⟨rv_agg rfl (by (with_reducible exact ElC.h)) rfl (by exact memD) rfl, trivial⟩ rfl (h' := [rowE qv.v 68 4 Vr.cells vars]) (List.sublist_cons_self _ _) ⟨(), rfl, rfl⟩
   · rename_i hc1
     refine ⟨k + 1, ⟨by omega, fun j hj e => List.length_eq_zero_iff.1 (by omega)⟩, by omega, VS.take (by exact takedD) ?_⟩
     exact leD
   · refine ⟨k + 1, ⟨by omega, fun j hj e => ?_⟩, by omega, VS.take (by exact takedD) ?_⟩
     · by_cases ej : j = k
       · subst ej; exact absurd e (tx_ne hc)
       · exact hprev j (by omega) e
     · exact leD
 obtain rfl : k = 16 := by omega
 have hmK : markK w = none := by
  by_cases e : w = []
  · rw [e]; exact markK_empty
  · exact markK_never fun i hi k => e (hprev i hi k)
 by_cases h1 : 0 ≤ varI vars w
 · have hop : opF vars w = ⟨2, varI vars w⟩ := by unfold opF; rw [hmK]; simp only; rw [if_pos h1]
   rw [hop]
   generalize varI vars w = n at h1 hV ⊢
   repeat' (first
    | ((with_reducible apply jp); (focus (first | ((with_reducible apply pu_lenT); rfl; rfl) | ((with_reducible apply pu_eqT); rfl; rfl) | ((with_reducible apply pu_neT); rfl; rfl) | ((with_reducible apply pu_atT); rfl; rfl; rfl; omega))); (focus rfl))
    | refine allocD ?_
    | refine cag cal_varOf (hV) ?_
    | exact True.intro | refine stpA ?_ | refine two ?_ ?_
    | (refine imp fun hc => ?_) <;> try exact cx hc
    | refine all fun v_ => ?_)
   refine retr (VS.take (hc := [.cells bo 53 [.int 2, .int n], rowE qv.v 68 4 Vr.cells vars]) (by exact takedD) (Env.le_refl _)) (xs := [.agg [.int 2, .int n]]) ⟨rv_agg rfl (by (with_reducible exact ElC.h)) rfl (by exact memD) rfl, trivial⟩ rfl (h' := [rowE qv.v 68 4 Vr.cells vars]) (List.sublist_cons_self _ _) ⟨(), rfl, rfl⟩
 have key : propI w = -1 → opF vars w = if numI w < 5000 then ⟨1, numI w⟩ else ⟨0, 0⟩ := fun hp => by unfold opF; rw [hmK]; simp only; rw [if_neg h1, hp, if_neg (by decide)]
 by_cases hl : w.length = 2
 · have hn0 : 0 < w.length := by omega
   have hn1 : 1 < w.length := by omega
   have hpi := propI_len hn0 hn1 hl
   by_cases hb : w[0].toNat = 80 ∧ 48 ≤ w[1].toNat ∧ w[1].toNat ≤ 53
   · rw [if_pos hb] at hpi
     have hop : opF vars w = ⟨13, (w[1].toNat : Int) - 48⟩ := by unfold opF; rw [hmK]; simp only; rw [if_neg h1, hpi, if_pos (by omega)]
     rw [hop]
     have hIn := In G (w[1].toNat : Int) 48 53
     rw [decide_eq_true (by omega)] at hIn
     generalize varI vars w = n' at h1 hV key ⊢
     repeat' (first
      | ((with_reducible apply jp); (focus (first | ((with_reducible apply pu_lenT); rfl; rfl) | ((with_reducible apply pu_eqT); rfl; rfl) | ((with_reducible apply pu_neT); rfl; rfl) | ((with_reducible apply pu_atT); rfl; rfl; rfl; omega))); (focus rfl))
      | refine allocD ?_
      | refine cag cal_varOf (hV) ?_
      | refine ca cal_In (hIn) ?_
      | ((with_reducible apply jp); (focus (first | ((with_reducible apply (pu_atT (n := 0))); rfl; rfl; rfl; exact hn0) | ((with_reducible apply (pu_atT (n := 1))); rfl; rfl; rfl; exact hn1))); (focus rfl))
      | exact True.intro | refine stpA ?_ | refine two ?_ ?_
      | (refine imp fun hc => ?_) <;> try exact cx hc
      | refine all fun v_ => ?_)
     · refine retr (VS.take (hc := [.cells bo 53 [.int 13, .int ((w[1].toNat : Int) - 48)], rowE qv.v 68 4 Vr.cells vars]) (by exact takedD) (Env.le_refl _)) (xs := [.agg [.int 13, .int ((w[1].toNat : Int) - 48)]]) ⟨rv_agg rfl (by (with_reducible exact ElC.h)) rfl (by exact memD) rfl, trivial⟩ rfl (h' := [rowE qv.v 68 4 Vr.cells vars]) (List.sublist_cons_self _ _) ⟨(), rfl, rfl⟩
     all_goals exact absurd (congrArg (fun n : Nat => (n : Int)) hb.1) hc
   · rw [if_neg hb] at hpi
     rw [key hpi]
     have hIn := In G (w[1].toNat : Int) 48 53
     generalize varI vars w = n' at h1 hV key ⊢
     generalize numI w = m at hNum ⊢
     by_cases h3 : m < 5000
     · rw [if_pos h3]
       repeat' (first
        | ((with_reducible apply jp); (focus (first | ((with_reducible apply pu_lenT); rfl; rfl) | ((with_reducible apply pu_eqT); rfl; rfl) | ((with_reducible apply pu_neT); rfl; rfl) | ((with_reducible apply pu_atT); rfl; rfl; rfl; omega))); (focus rfl))
        | refine allocD ?_
        | refine cag cal_varOf (hV) ?_
        | refine ca cal_In (hIn) ?_
        | refine ca cal_numberOf (hNum) ?_
        | ((with_reducible apply jp); (focus (first | ((with_reducible apply (pu_atT (n := 0))); rfl; rfl; rfl; exact hn0) | ((with_reducible apply (pu_atT (n := 1))); rfl; rfl; rfl; exact hn1))); (focus rfl))
        | exact True.intro | refine stpA ?_ | refine two ?_ ?_
        | (refine imp fun hc => ?_) <;> try exact cx hc
        | refine all fun v_ => ?_)
       · rename_i hc1; exact absurd ⟨Int.ofNat.inj hc1, by have := hc.1; exact Int.ofNat_le.1 this, by have := hc.2; exact Int.ofNat_le.1 this⟩ hb
       all_goals refine retr (VS.take (hc := [.cells bo 53 [.int 1, .int m], rowE qv.v 68 4 Vr.cells vars]) (by exact takedD) (Env.le_refl _)) (xs := [.agg [.int 1, .int m]]) ⟨rv_agg rfl (by (with_reducible exact ElC.h)) rfl (by exact memD) rfl, trivial⟩ rfl (h' := [rowE qv.v 68 4 Vr.cells vars]) (List.sublist_cons_self _ _) ⟨(), rfl, rfl⟩
     · rw [if_neg h3]
       repeat' (first
        | ((with_reducible apply jp); (focus (first | ((with_reducible apply pu_lenT); rfl; rfl) | ((with_reducible apply pu_eqT); rfl; rfl) | ((with_reducible apply pu_neT); rfl; rfl) | ((with_reducible apply pu_atT); rfl; rfl; rfl; omega))); (focus rfl))
        | refine allocD ?_
        | refine cag cal_varOf (hV) ?_
        | refine ca cal_In (hIn) ?_
        | refine ca cal_numberOf (hNum) ?_
        | ((with_reducible apply jp); (focus (first | ((with_reducible apply (pu_atT (n := 0))); rfl; rfl; rfl; exact hn0) | ((with_reducible apply (pu_atT (n := 1))); rfl; rfl; rfl; exact hn1))); (focus rfl))
        | exact True.intro | refine stpA ?_ | refine two ?_ ?_
        | (refine imp fun hc => ?_) <;> try exact cx hc
        | refine all fun v_ => ?_)
       · rename_i hc1; exact absurd ⟨Int.ofNat.inj hc1, by have := hc.1; exact Int.ofNat_le.1 this, by have := hc.2; exact Int.ofNat_le.1 this⟩ hb
       all_goals refine retr (VS.take (hc := [.cells bo 53 [.int 0, .int 0], rowE qv.v 68 4 Vr.cells vars]) (by exact takedD) (Env.le_refl _)) (xs := [.agg [.int 0, .int 0]]) ⟨rv_agg rfl (by (with_reducible exact ElC.h)) rfl (by exact memD) rfl, trivial⟩ rfl (h' := [rowE qv.v 68 4 Vr.cells vars]) (List.sublist_cons_self _ _) ⟨(), rfl, rfl⟩
 · rw [key (propI_else hl)]
   generalize varI vars w = n' at h1 hV key ⊢
   generalize numI w = m at hNum ⊢
   by_cases h3 : m < 5000
   · rw [if_pos h3]
     repeat' (first
      | ((with_reducible apply jp); (focus (first | ((with_reducible apply pu_lenT); rfl; rfl) | ((with_reducible apply pu_eqT); rfl; rfl) | ((with_reducible apply pu_neT); rfl; rfl) | ((with_reducible apply pu_atT); rfl; rfl; rfl; omega))); (focus rfl))
      | refine allocD ?_
      | refine cag cal_varOf (hV) ?_
      | refine ca cal_numberOf (hNum) ?_
      | exact True.intro | refine stpA ?_ | refine two ?_ ?_
      | (refine imp fun hc => ?_) <;> try exact cx hc
      | refine all fun v_ => ?_)
     all_goals refine retr (VS.take (hc := [.cells bo 53 [.int 1, .int m], rowE qv.v 68 4 Vr.cells vars]) (by exact takedD) (Env.le_refl _)) (xs := [.agg [.int 1, .int m]]) ⟨rv_agg rfl (by (with_reducible exact ElC.h)) rfl (by exact memD) rfl, trivial⟩ rfl (h' := [rowE qv.v 68 4 Vr.cells vars]) (List.sublist_cons_self _ _) ⟨(), rfl, rfl⟩
   · rw [if_neg h3]
     repeat' (first
      | ((with_reducible apply jp); (focus (first | ((with_reducible apply pu_lenT); rfl; rfl) | ((with_reducible apply pu_eqT); rfl; rfl) | ((with_reducible apply pu_neT); rfl; rfl) | ((with_reducible apply pu_atT); rfl; rfl; rfl; omega))); (focus rfl))
      | refine allocD ?_
      | refine cag cal_varOf (hV) ?_
      | refine ca cal_numberOf (hNum) ?_
      | exact True.intro | refine stpA ?_ | refine two ?_ ?_
      | (refine imp fun hc => ?_) <;> try exact cx hc
      | refine all fun v_ => ?_)
     all_goals refine retr (VS.take (hc := [.cells bo 53 [.int 0, .int 0], rowE qv.v 68 4 Vr.cells vars]) (by exact takedD) (Env.le_refl _)) (xs := [.agg [.int 0, .int 0]]) ⟨rv_agg rfl (by (with_reducible exact ElC.h)) rfl (by exact memD) rfl, trivial⟩ rfl (h' := [rowE qv.v 68 4 Vr.cells vars]) (List.sublist_cons_self _ _) ⟨(), rfl, rfl⟩
theorem rtermOf (G : List (Nat × List D)) (qv qr : Sl) (vars : List Vr) (ws : List (List UInt8)) (n : Nat) (hn : n ≤ ws.length) (hv : vars.length ≤ 100000) (hl : ws.length ≤ 100000) : AC Tryz.prog G 18 [.agg [.val qv.v, .val qr.v], .d (linD ws), .int (n : Nat)] [rowE qv.v 68 4 Vr.cells vars] fun e h => ∃ _ : Unit, e = .ret (.d (opsD ((ws.drop n).map (opF vars)))) ∧ h = [rowE qv.v 68 4 Vr.cells vars] := by
 refine AC_ofV (ts := [6]) Tryz.f18.ntmps Tryz.func18 rfl rfl rfl (by simp [Tryz.ntmps18]) fun W I => ?_
 have hO := ropOf G qv qr vars [] hv
 refine jrow (E := 53) (sz := 2) Fo.cells ?_
 repeat' (first
  | ((with_reducible apply jp); (focus (first | ((with_reducible apply pu_lenT); rfl; rfl) | ((with_reducible apply pu_eqT); rfl; rfl) | ((with_reducible apply pu_neT); rfl; rfl) | ((with_reducible apply pu_atT); rfl; rfl; rfl; omega))); (focus rfl))
  | refine allocD ?_
  | refine cag cal_opOf (hO) ?_
  | ((with_reducible apply (japU1 (f := Fo.cells) (u := opF vars ws[i]))); (focus rfl); (focus rfl); (focus (with_reducible exact ElC.h)); (focus exact updqD); (focus rfl); (focus rfl); (focus rfl); (focus rfl); (focus exact bndD); (focus exact bndD))
  | exact True.intro | refine stpA ?_ | refine two ?_ ?_
  | (refine imp fun hc => ?_) <;> try exact cx hc
  | refine all fun v_ => ?_)
 obtain ⟨bm, rfl⟩ : ∃ x, x = v_ := ⟨v_, rfl⟩
 refine J_loopV (X := Nat × Sl) (fun y => [(1, .d (linD ws)), (3, .val (.pointer (some ⟨bm, 0, none⟩))), (7, .val y.2.v), (8, .int y.1)]) (fun y => [rowE y.2.v 53 2 Fo.cells (((ws.drop n).take (y.1 - n)).map (opF vars)), .cells bm 25 [.val qv.v, .val qr.v], rowE qv.v 68 4 Vr.cells vars]) (fun y => n ≤ y.1 ∧ y.1 ≤ ws.length) (fun y => ws.length - y.1) (n, Sl.nil) ⟨Nat.le_refl _, hn⟩ (VS.take (by dsimp only; rw [Nat.sub_self]; exact takedD) ?_) ?_
 · exact leD
 rintro ⟨i, q⟩ ⟨hi0, hi1⟩
 dsimp only at hi0 hi1 ⊢
 by_cases hi : i < ws.length
 · have e : ((ws.drop n).take (i + 1 - n)).map (opF vars) = ((ws.drop n).take (i - n)).map (opF vars) ++ [opF vars ws[i]] := by
    rw [show i + 1 - n = i - n + 1 by omega, List.take_succ_eq_append_getElem (by rw [List.length_drop]; omega), List.map_append, List.getElem_drop]
    simp only [show n + (i - n) = i by omega]
    rfl
   have hlen : (((ws.drop n).take (i - n)).map (opF vars)).length ≤ 100000 := by rw [List.length_map, List.length_take, List.length_drop]; omega
   have hO := ropOf G qv qr vars ws[i] hv
   generalize ((ws.drop n).take (i - n)).map (opF vars) = ys at e hlen ⊢
   repeat' (first
    | ((with_reducible apply jp); (focus (first | ((with_reducible apply pu_lenT); rfl; rfl) | ((with_reducible apply pu_eqT); rfl; rfl) | ((with_reducible apply pu_neT); rfl; rfl) | ((with_reducible apply pu_atT); rfl; rfl; rfl; omega))); (focus rfl))
    | refine allocD ?_
    | refine cag cal_opOf (hO) ?_
    | ((with_reducible apply (japU1 (f := Fo.cells) (u := opF vars ws[i]))); (focus rfl); (focus rfl); (focus (with_reducible exact ElC.h)); (focus exact updqD); (focus rfl); (focus rfl); (focus rfl); (focus rfl); (focus exact bndD); (focus exact bndD))
    | exact True.intro | refine stp0 ?_ | refine two ?_ ?_ | refine allc fun c_ => ?_
    | (refine imp fun hc => ?_) <;> try exact cx hc
    | refine all fun v_ => ?_)
   refine ⟨?_⟩
   refine J_region_HB [rowE q.v 53 2 Fo.cells ys, rowE qv.v 68 4 Vr.cells vars] mixed rfl (by (repeat ((with_reducible apply Hd.cons); (focus rfl))); exact Hd.nil) (by (repeat (with_reducible apply len_cons)); exact len_nil) (by decide +kernel) (by exact takeD) ?_
   repeat' (first
    | ((with_reducible apply jp); (focus (first | ((with_reducible apply pu_lenT); rfl; rfl) | ((with_reducible apply pu_eqT); rfl; rfl) | ((with_reducible apply pu_neT); rfl; rfl) | ((with_reducible apply pu_atT); rfl; rfl; rfl; omega))); (focus rfl))
    | refine allocD ?_
    | refine cag cal_opOf (hO) ?_
    | ((with_reducible apply (japU1 (f := Fo.cells) (u := opF vars ws[i]))); (focus rfl); (focus rfl); (focus (with_reducible exact ElC.h)); (focus exact updqD); (focus rfl); (focus rfl); (focus rfl); (focus rfl); (focus exact bndD); (focus exact bndD))
    | exact True.intro | refine stpH ?_ | refine two ?_ ?_ | refine allc fun c_ => ?_
    | (refine imp fun hc => ?_) <;> try exact cx1 hc
    | refine all fun v_ => ?_)
   refine ⟨(i + 1, v_), ⟨by dsimp only; omega, by dsimp only; omega⟩, by dsimp only; omega, VS.take (by dsimp only; rw [e]; exact takedD) ?_⟩
   exact leD
 obtain rfl : i = ws.length := by omega
 have e2 : (ws.drop n).take (ws.length - n) = ws.drop n := List.take_of_length_le (by rw [List.length_drop]; exact Nat.le_refl _)
 rw [e2]
 have hlen : ((ws.drop n).map (opF vars)).length ≤ 100000 := by rw [List.length_map, List.length_drop]; omega
 generalize (ws.drop n).map (opF vars) = ys at hlen ⊢
 repeat' (first
  | exact True.intro | refine stpA ?_ | refine two ?_ ?_
  | (refine imp fun hc => ?_) <;> try exact cx hc
  | refine all fun v_ => ?_)
 refine retv (VS.trans (vfreeze (t := 6) (eb := 16) rfl rfl (fun x => rfl) (by omega)) (VS.take (hc := [rowE qv.v 68 4 Vr.cells vars]) (by exact takedD) (Env.le_refl _))) ?_
 ((with_reducible apply rq1); rfl; rfl)
 exact ⟨(), rfl, rfl⟩
end Go.Proofs.YtajnpfgelpkijaaGreatDoor
namespace Go.Av
open Go
def loopIn : Code → Option Code
 | .seq a b => match loopIn a with
   | some x => some x
   | none => loopIn b
 | .block _ a => loopIn a
 | .loop x => some x
 | _ => none
end Go.Av
namespace Go.Sp
open Go Go.Av
theorem spl_flat (c : UInt8) (r : List UInt8) : ∀ ws : List (List UInt8), (∀ w ∈ ws, c ∉ w) → spl c ((ws.flatMap fun w => w ++ [c]) ++ r) = ws ++ spl c r
 | [], _ => rfl
 | w :: ws, hn => by
   rw [List.flatMap_cons, List.append_assoc, List.append_assoc, List.singleton_append, spl_app c w _ (hn w List.mem_cons_self), spl_flat c r ws fun x hx => hn x (List.mem_cons_of_mem _ hx)]
   rfl
theorem CutI.front {c : UInt8} {s : List UInt8} {f i : Nat} {ws : List (List UInt8)} (h : CutI c s f i ws) : (spl c s).dropLast = ws ++ (spl c (s.drop f)).dropLast := by
 have e : spl c s = ws ++ spl c (s.drop f) := by
  conv => lhs; rw [← List.take_append_drop f s, h.pre, spl_flat c _ ws h.no]
 rw [e]
 exact List.dropLast_append_of_ne_nil (spl_ne c _)
theorem TkN.lineF {n : Nat} {q q' : Rs} {l : Ln} (h : TkN n q.t) (e : Go.Sp.lineF q l = some q') : TkN (n + 1) q'.t := by
 obtain ⟨h1, h2, h3, h4⟩ := h
 cases lineF_R e with
 | var h a b c d => exact ⟨by simp; omega, by simp; omega, fun r hr => Nat.le_succ_of_le (h3 r hr), by simp; omega⟩
 | rule h r =>
   refine ⟨by simp; omega, by simp; omega, fun r hr => ?_, by simp; omega⟩
   rcases List.mem_append.1 hr with hr | hr
   · exact Nat.le_succ_of_le (h3 r hr)
   · simp only [List.mem_cons, List.not_mem_nil, or_false] at hr
     subst hr
     exact Nat.zero_le _
 | set h w r =>
   have k := addSet_len q.t.model.rules ⟨varI q.t.model.vars w, r.map (opF q.t.model.vars)⟩
   exact ⟨by simp; omega, by show (addSet _ _).length ≤ _; rw [k.1]; omega, fun r hr => k.2 n h3 r hr, by simp; omega⟩
 | prop h r => exact ⟨by simp; omega, by simp; omega, fun r hr => Nat.le_succ_of_le (h3 r hr), by simp; omega⟩
 | check h r => exact ⟨by simp; omega, by simp; omega, fun r hr => Nat.le_succ_of_le (h3 r hr), by simp; omega⟩
theorem readF_bad {s : List UInt8} {f i : Nat} {ws : List (List UInt8)} {q : Rs} {L : List UInt8} (hs : s.length ≤ 10000) (h : CutI 10 s f i (ws ++ [L])) (hq : readL ⟨tk0, 0⟩ (ws.map (spl 32)) = some q) (hn : lineF q (spl 32 L) = none) : readF 1 3 (tx s) = (tk0, 3) := by
 unfold readF
 rw [if_neg (by rw [tx_size]; omega), show (tx s).data.toList = s from rfl, h.front, List.map_append, readL_app, List.map_append, readL_app, hq]
 simp only [List.map_cons, List.map_nil, Option.bind_some, readL, hn, Option.bind_none]
theorem readF_end {s : List UInt8} {f : Nat} {ws : List (List UInt8)} {q : Rs} (hs : s.length ≤ 10000) (h : CutI 10 s f s.length ws) (hq : readL ⟨tk0, 0⟩ (ws.map (spl 32)) = some q) : readF 1 3 (tx s) = if q.tm = 3 ∧ f = s.length ∧ taskF q.t = 0 then (q.t, 0) else (tk0, 3) := by
 obtain ⟨e1, e2⟩ := h.lines
 unfold readF
 rw [if_neg (by rw [tx_size]; omega), show (tx s).data.toList = s from rfl, e1, hq]
 simp only [e2]
theorem readL_next {ws : List (List UInt8)} {q q' : Rs} {L : List UInt8} (hq : readL ⟨tk0, 0⟩ (ws.map (spl 32)) = some q) (hn : lineF q (spl 32 L) = some q') : readL ⟨tk0, 0⟩ ((ws ++ [L]).map (spl 32)) = some q' := by
 rw [List.map_append, List.map_cons, List.map_nil, readL_snoc, hq]; exact hn
end Go.Sp
namespace Go.Proofs.YtajnpfgelpkijaaGreatDoor
open Go Go.Av Go.Sp
abbrev tkH (bp : Nat) (d : Pq) (qv qr qs qp : Sl) : H := [.cells bp 29 [.val qv.v, .val qr.v, .val qp.v, .d (opsD d.form)], rowE qv.v 68 4 Vr.cells d.vars, rowE qr.v 72 2 ruX (d.rl qs), rowE qs.v 75 2 St.cells d.sets, rowE qp.v 27 1 termC d.props]
theorem tk_freeze (bp : Nat) (d : Pq) (qv qr qs qp : Sl) (hok : d.ok) (hl : d.sets.length ≤ 50000) {ρ : Env} : VS ρ (tkH bp d qv qr qs qp) ρ [.cells bp 29 [.val qv.v, .val qr.v, .val qp.v, .d (opsD d.form)], rowE qv.v 68 4 Vr.cells d.vars, rowE qr.v 72 2 ruX (d.rules.map ruD), rowE qp.v 27 1 termC d.props] := by
 cases hc : d.cur with
 | none =>
   have e : d.rl qs = d.rules.map ruD := by unfold Pq.rl Pq.rules; rw [hc]; simp
   unfold tkH
   rw [e]
   exact VS.take (by exact takedD) (Env.le_refl _)
 | some g =>
   have e1 : d.rl qs = d.done.map ruD ++ [(g, slD qs)] := by unfold Pq.rl; rw [hc]
   have e2 : d.rules.map ruD = d.done.map ruD ++ [(g, setsD d.sets)] := by unfold Pq.rules; rw [hc, List.map_append]; rfl
   have e3 : rowE qr.v 72 2 ruX (d.rules.map ruD) = Ent.row qr.v (d.rl qs).length 72 2 ((((d.done.map ruD ++ [(g, setsD d.sets)]).map ruX).flatten).map D.av) := by
    unfold rowE
    rw [e2, e1]; simp only [List.length_append, List.length_cons, List.length_nil]
   rw [e3]
   unfold tkH
   have e4 : rowE qr.v 72 2 ruX (d.rl qs) = Ent.row qr.v (d.rl qs).length 72 2 ((((d.done.map ruD ++ [(g, slD qs)]).map ruX).flatten).map D.av) := by
    unfold rowE
    rw [e1]
   rw [e4]
   exact vdat (h1 := [_, _, _]) (h2 := [_]) (f := St.cells) (xs := d.sets) (v := qs.v) 32 rfl rfl (fun _ => rfl) (by omega) (CvE.refl _ _ _) (.keep (.keep (.row (Cvs.lastU (pre := [opsD g]) (post := []) _ rfl rfl rfl) (.refl _))))
theorem tk_all (bp : Nat) (d : Pq) (qv qr qs qp : Sl) (hok : d.ok) (hv : d.vars.length ≤ 50000) (hs : d.sets.length ≤ 50000) (hr : d.rules.length ≤ 50000) (hp : d.props.length ≤ 50000) {ρ : Env} :
 VS ρ (tkH bp d qv qr qs qp) ρ [.cells bp 29 [.d (varsD d.tk.model.vars), .d (rulesD d.tk.model.rules), .d (termsD d.tk.props), .d (opsD d.tk.formula)]] := by
 refine VS.trans (tk_freeze bp d qv qr qs qp hok hs) ?_
 have er : (d.rules.map ruD).map ruX = d.rules.map Ru.cells := by rw [List.map_map]; rfl
 have e1 : (D.l 2 48 ((d.rules.map ruD).map ruX)) = rulesD d.rules := by rw [er]
 refine VS.trans (vdat (h1 := [_]) (h2 := [_, _]) (f := Vr.cells) (xs := d.vars) (v := qv.v) 40 rfl rfl (fun _ => rfl) (by omega) (CvE.refl _ _ _) (.cells (.cons .here (.cons (.same _) (.cons (.same _) (.cons (.same _) .nil)))) (.refl _))) ?_
 refine VS.trans (vdat (h1 := [_]) (h2 := [_]) (f := ruX) (xs := d.rules.map ruD) (v := qr.v) 48 rfl rfl (fun _ => rfl) (by rw [List.length_map]; omega) (CvE.refl _ _ _) (.cells (.cons (.same _) (.cons .here (.cons (.same _) (.cons (.same _) .nil)))) (.refl _))) ?_
 rw [e1]
 exact vdat (h1 := [_]) (h2 := []) (f := termC) (xs := d.props) (v := qp.v) 24 rfl rfl (fun _ => rfl) (by omega) (CvE.refl _ _ _) (.cells (.cons (.same _) (.cons (.same _) (.cons .here (.cons (.same _) .nil)))) (.refl _))
theorem cal_TaskRead : Cal Tryz.prog 6 := Cal.of Tryz.func6 (by kernel_rfl) (by kernel_rfl)
structure RdI (s : List UInt8) (i f tm : Nat) (ws : List (List UInt8)) (d : Pq) : Prop where
 le : i ≤ s.length
 cut : CutI 10 s f i ws
 cnt : TkN i d.tk
 ok : d.ok
 rd : readL ⟨tk0, 0⟩ (ws.map (spl 32)) = some ⟨d.tk, tm⟩
 tm3 : tm ≤ 3
 one : tm = 1 → d.cur ≠ none
abbrev RdX := Nat × Nat × Nat × List (List UInt8) × Pq × Sl × Sl × Sl × Sl
abbrev rdS (s : List UInt8) (br bt : Nat) (y : RdX) : Env := [(0, .val (.string (tx s))), (2, .val (.pointer (some ⟨br, 0, none⟩))), (4, .val (.pointer (some ⟨bt, 0, none⟩))), (5, .int y.2.2.1), (6, .int y.2.1), (7, .int y.1)]
abbrev rdH (br bt : Nat) (y : RdX) : H := .cells br 29 [.val (.slice none 0 0), .val (.slice none 0 0), .val (.slice none 0 0), .val (.slice none 0 0)] :: tkH bt y.2.2.2.2.1 y.2.2.2.2.2.1 y.2.2.2.2.2.2.1 y.2.2.2.2.2.2.2.1 y.2.2.2.2.2.2.2.2
def RdGo (s : List UInt8) (W : World) (I : Nat → Prop) (br bt : Nat) (y : RdX) : Prop := ∀ (x : Code) (Q2 : Exit → Env → H → Prop), (Tryz.f6.body).bind loopIn = some x → (∀ ρ h, retR Tryz.prog GP [.cell 2 29, .tmp 3] (fun e h => e = .ret (.tup [tkA (readF 1 3 (tx s)).1, .int (readF 1 3 (tx s)).2]) ∧ h = []) .ret ρ h → Q2 .ret ρ h) →
 J ⟨Tryz.prog, ⟨W, I, [], GP⟩, Tryz.f6.ntmps, []⟩ x (thenQ (fun ρ' h' => ∃ y' : RdX, RdI s y'.1 y'.2.1 y'.2.2.1 y'.2.2.2.1 y'.2.2.2.2.1 ∧ s.length - y'.1 < s.length - y.1 ∧ VS ρ' h' (rdS s br bt y') (rdH br bt y')) Q2) (rdS s br bt y) (rdH br bt y)
structure RdL (s : List UInt8) (i f tm : Nat) (ws : List (List UInt8)) (d : Pq) (L w0 : List UInt8) (r : List (List UInt8)) : Prop where
 cut : CutI 10 s (i + 1) (i + 1) (ws ++ [L])
 hW : ACr Tryz.prog GP 16 [.val (.string (tx ((s.drop (f : Int).toNat).take ((i : Int).toNat - (f : Int).toNat))))] (.d (linD (w0 :: r)))
 len : r.length ≤ 10000
 bad : lineF ⟨d.tk, tm⟩ (w0 :: r) = none → readF 1 3 (tx s) = (tk0, 3)
 go : ∀ q' tm', lineF ⟨d.tk, tm⟩ (w0 :: r) = some ⟨q', tm'⟩ → TkN (i + 1) q' ∧ readL ⟨tk0, 0⟩ ((ws ++ [L]).map (spl 32)) = some ⟨q', tm'⟩
end Go.Proofs.YtajnpfgelpkijaaGreatDoor
