/- A bundle of this claim's own texts: R7. -/
import Derived.Test.YtajnpfgelpkijaaGreatDoorZ11
import Derived.Test.YtajnpfgelpkijaaGreatDoorZ12
import Derived.Test.YtajnpfgelpkijaaGreatDoorZ13
set_option linter.unusedVariables false
set_option linter.unusedSimpArgs false
set_option maxRecDepth 100000
set_option maxHeartbeats 4000000
namespace Go.Sp
open Go Go.Av
theorem name_eq {s : ByteArray} {w : List UInt8} (h : (s == tx w) = true) : s.data.toList = w := by rw [(ba_beq _ _).1 h]
theorem name_ne {s : ByteArray} {w : List UInt8} (h : (s == tx w) = false) : s.data.toList ≠ w := fun e => by
 rw [← e, tx_list, (ba_beq s s).2 rfl] at h; cases h
theorem tx_eq {a w : List UInt8} (h : (tx a == tx w) = true) : a = w := tx_inj ((ba_beq _ _).1 h)
theorem tx_ne {a w : List UInt8} (h : (tx a == tx w) = false) : a ≠ w := fun e => by
 rw [e, (ba_beq _ _).2 rfl] at h; cases h
theorem varI_none {l : List Vr} {w : List UInt8} (h : ∀ j (hj : j < l.length), l[j].name.data.toList ≠ w) : varI l w = -1 := varI_no fun v hv => by
 obtain ⟨j, hj, rfl⟩ := List.getElem_of_mem hv
 exact h j hj
end Go.Sp
namespace Go.Proofs.YtajnpfgelpkijaaGreatDoor
open Go Go.Av Go.Sp
theorem fd_pad : Fld Tryz.prog 57 0 0 := by unfold Fld; kernel_rfl
instance instR7_2 : FdC Tryz.prog 57 0 0 := ⟨fd_pad⟩
theorem el_ppad : El Tryz.prog 55 (.pointer none) 1 8 := by unfold El; kernel_rfl
instance instR7_3 : ElC Tryz.prog 55 (.pointer none) 1 8 := ⟨el_ppad⟩
theorem cal_pvar : Cal Tryz.prog 40 := Cal.of Tryz.func40 (by kernel_rfl) (by kernel_rfl)
theorem cal_ppop : Cal Tryz.prog 74 := Cal.of Tryz.func74 (by kernel_rfl) (by kernel_rfl)
theorem cal_pterm : Cal Tryz.prog 39 := Cal.of Tryz.func39 (by kernel_rfl) (by kernel_rfl)
theorem pvar (G : List (Nat × List D)) (bp : Nat) (qv : Sl) (x1 x2 x3 : AV) (vars : List Vr) (w : List UInt8) (hv : vars.length ≤ 100000) : AC Tryz.prog G 40 [.val (.pointer (some ⟨bp, 0, none⟩)), .val (.string (tx w))] [.cells bp 57 [.val qv.v, x1, x2, x3], rowE qv.v 68 4 Vr.cells vars] fun e h => ∃ _ : Unit, e = .ret (.int (varI vars w)) ∧ h = [.cells bp 57 [.val qv.v, x1, x2, x3], rowE qv.v 68 4 Vr.cells vars] := by
 refine AC_ofV (ts := [4]) Tryz.f40.ntmps Tryz.func40 rfl rfl rfl (by simp [Tryz.ntmps40]) fun W I => ?_
 repeat' (first
  | ((with_reducible apply jp); (focus ((with_reducible apply pu_load_row_agg); (focus rfl); (focus (with_reducible exact ElC.h)); (focus rfl); (focus exact memD); (focus exact fun _ => rfl); (focus omega))); (focus rfl))
  | exact True.intro | refine stpA ?_ | refine two ?_ ?_
  | (refine imp fun hc => ?_) <;> try exact cx hc
  | refine all fun v_ => ?_)
 refine J_loopV (X := Nat) (fun i => [(1, .val (.string (tx w))), (12, .val qv.v), (13, .int vars.length), (14, .int i)]) (fun _ => [.cells bp 57 [.val qv.v, x1, x2, x3], rowE qv.v 68 4 Vr.cells vars]) (fun i => i ≤ vars.length ∧ ∀ j (hj : j < i) (hl : j < vars.length), vars[j].name.data.toList ≠ w) (fun i => vars.length - i) 0 ⟨Nat.zero_le _, fun j hj => absurd hj (Nat.not_lt_zero _)⟩ (VS.take (by exact takedD) ?_) ?_
 · exact leD
 rintro i ⟨hi0, hprev⟩
 by_cases hi : i < vars.length
 · repeat' (first
    | ((with_reducible apply jp); (focus ((with_reducible apply pu_load_row_agg); (focus rfl); (focus (with_reducible exact ElC.h)); (focus rfl); (focus exact memD); (focus exact fun _ => rfl); (focus omega))); (focus rfl))
    | exact True.intro | refine stpA ?_ | refine two ?_ ?_
    | (refine imp fun hc => ?_) <;> try exact cx hc
    | refine all fun v_ => ?_)
   · refine retv (VS.take (hc := [.cells bp 57 [.val qv.v, x1, x2, x3], rowE qv.v 68 4 Vr.cells vars]) (by exact takedD) (Env.le_refl _)) ?_
     ((with_reducible apply rq1); rfl; rfl)
     exact ⟨(), by rw [varI_first i hi (name_eq hc) fun j hj => hprev j hj (by omega)], rfl⟩
   · refine ⟨i + 1, ⟨by omega, fun j hj hl => ?_⟩, by omega, VS.take (by exact takedD) ?_⟩
     · by_cases e : j = i
       · subst e; exact name_ne hc
       · exact hprev j (by omega) hl
     · exact leD
 obtain rfl : i = vars.length := by omega
 repeat' (first
  | ((with_reducible apply jp); (focus ((with_reducible apply pu_load_row_agg); (focus rfl); (focus (with_reducible exact ElC.h)); (focus rfl); (focus exact memD); (focus exact fun _ => rfl); (focus omega))); (focus rfl))
  | exact True.intro | refine stpA ?_ | refine two ?_ ?_
  | (refine imp fun hc => ?_) <;> try exact cx hc
  | refine all fun v_ => ?_)
 refine retv (VS.take (hc := [.cells bp 57 [.val qv.v, x1, x2, x3], rowE qv.v 68 4 Vr.cells vars]) (by exact takedD) (Env.le_refl _)) ?_
 ((with_reducible apply rq1); rfl; rfl)
 exact ⟨(), by rw [varI_none fun j hj => hprev j hj hj], rfl⟩
theorem el_marks : El Tryz.prog 124 (.agg (Array.replicate 19 (.string ByteArray.empty))) 19 304 := by unfold El; kernel_rfl
theorem marksT_map (k : Nat) (h : k ≤ 18) : (marksT.map D.av)[k]? = some (.val (.string (tx (markL k)))) := by
 have := marksT_at (k := (k : Int)) (by omega) (by omega)
 rw [show (0 + ((k : Int).toNat) * 1) = k by omega] at this
 rw [List.getElem?_map, this]; rfl
theorem mark_low : ∀ k : Fin 3, markL ((k.val : Nat) : Int) = [] := by decide
theorem ppop (bp : Nat) (qv : Sl) (x1 x2 x3 : AV) (vars : List Vr) (w : List UInt8) (hv : vars.length ≤ 100000) (hw : w.length ≤ 100000) : AC Tryz.prog GP 74 [.val (.pointer (some ⟨bp, 0, none⟩)), .val (.string (tx w))] [.cells bp 57 [.val qv.v, x1, x2, x3], rowE qv.v 68 4 Vr.cells vars] fun e h => ∃ _ : Unit, e = .ret (.agg [.int (padOp atoiV vars w).kind, .int (padOp atoiV vars w).val]) ∧ h = [.cells bp 57 [.val qv.v, x1, x2, x3], rowE qv.v 68 4 Vr.cells vars] := by
 have hw2 : (Lib.trimPrefix w [80]).length ≤ 100000 := by
  unfold Lib.trimPrefix
  split
  · rw [List.length_drop]; omega
  · exact hw
 have hV := pvar GP bp qv x1 x2 x3 vars w hv
 have hC := CutPrefix w
 have hA1 := Atoi w hw
 have hA2 := Atoi (Lib.trimPrefix w [80]) hw2
 refine AC_ofR (rs := [.cell 4 53]) Tryz.f74.ntmps Tryz.func74 rfl rfl rfl (by simp [Tryz.ntmps74]) fun W I => ?_
 repeat' (first
  | refine cag cal_pvar (hV) ?_
  | refine ca cal_CutPrefix (hC) ?_
  | refine ca cal_Atoi (hA1) ?_
  | refine ca cal_Atoi (hA2) ?_
  | ((with_reducible apply jp); (focus ((with_reducible apply pu_load_globA); (focus rfl); (focus exact el_marks); (focus exact GP_marks); (focus rfl))); (focus rfl))
  | ((with_reducible apply jp); (focus ((with_reducible apply (pu_index_agg (n := k) (r := .val (.string (tx (markL k)))))); rfl; rfl; rfl; rfl; exact el_string; omega; exact hmk)); (focus rfl))
  | exact True.intro | refine stpA ?_ | refine two ?_ ?_
  | (refine imp fun hc => ?_) <;> try exact cx hc
  | refine all fun v_ => ?_)
 obtain ⟨bo, rfl⟩ : ∃ x, x = v_ := ⟨v_, rfl⟩
 refine J_loopV (X := Nat) (fun k => [(0, .val (.pointer (some ⟨bp, 0, none⟩))), (1, .val (.string (tx w))), (4, .val (.pointer (some ⟨bo, 0, none⟩))), (14, .agg (marksT.map D.av)), (15, .int k)]) (fun _ => [.cells bo 53 [.int 0, .int 0], .cells bp 57 [.val qv.v, x1, x2, x3], rowE qv.v 68 4 Vr.cells vars]) (fun k => k ≤ 19 ∧ ∀ j, j < k → markL (j : Nat) = w → w = []) (fun k => 19 - k) 0 ⟨Nat.zero_le _, fun j hj => absurd hj (Nat.not_lt_zero _)⟩ (VS.take (by exact takedD) ?_) ?_
 · exact leD
 rintro k ⟨hk0, hprev⟩
 by_cases hk : k < 19
 · have hmk := marksT_map k (by omega)
   repeat' (first
    | refine cag cal_pvar (hV) ?_
    | refine ca cal_CutPrefix (hC) ?_
    | refine ca cal_Atoi (hA1) ?_
    | refine ca cal_Atoi (hA2) ?_
    | ((with_reducible apply jp); (focus ((with_reducible apply pu_load_globA); (focus rfl); (focus exact el_marks); (focus exact GP_marks); (focus rfl))); (focus rfl))
    | ((with_reducible apply jp); (focus ((with_reducible apply (pu_index_agg (n := k) (r := .val (.string (tx (markL k)))))); rfl; rfl; rfl; rfl; exact el_string; omega; exact hmk)); (focus rfl))
    | exact True.intro | refine stpA ?_ | refine two ?_ ?_
    | (refine imp fun hc => ?_) <;> try exact cx hc
    | refine all fun v_ => ?_)
   · refine ⟨k + 1, ⟨by omega, fun j hj e => ?_⟩, by omega, VS.take (by exact takedD) ?_⟩
     · by_cases ej : j = k
       · subst ej; rw [← e]; exact tx_eq hc
       · exact hprev j (by omega) e
     · exact leD
   · rename_i hne
     have e1 : markL (k : Nat) = w := tx_eq hc
     have e2 : w ≠ [] := fun e => tx_ne hne (by rw [e1, e])
     have k3 : 3 ≤ k := by
      by_cases k3 : k < 3
      · exact absurd (e1.symm.trans (mark_low ⟨k, k3⟩)) e2
      · omega
     have hmK : markK w = some (k - 3) := markK_first (by omega) (by rw [Nat.sub_add_cancel k3]; exact e1) e2 fun i hi e => e2 (hprev (i + 3) (by omega) e)
     have hop : padOp atoiV vars w = ⟨(k : Nat), 0⟩ := by unfold padOp; rw [hmK]; simp only; rw [Nat.sub_add_cancel k3]
     rw [hop]
     refine retr (VS.take (hc := [.cells bo 53 [.int (k : Nat), .int 0], .cells bp 57 [.val qv.v, x1, x2, x3], rowE qv.v 68 4 Vr.cells vars]) (by exact takedD) (Env.le_refl _)) (xs := [.agg [.int (k : Nat), .int 0]]) ⟨rv_agg rfl (by (with_reducible exact ElC.h)) rfl (by exact memD) rfl, trivial⟩ rfl (h' := [.cells bp 57 [.val qv.v, x1, x2, x3], rowE qv.v 68 4 Vr.cells vars]) (List.sublist_cons_self _ _) ⟨(), rfl, rfl⟩
   · refine ⟨k + 1, ⟨by omega, fun j hj e => ?_⟩, by omega, VS.take (by exact takedD) ?_⟩
     · by_cases ej : j = k
       · subst ej; exact absurd e (tx_ne hc)
       · exact hprev j (by omega) e
     · exact leD
 obtain rfl : k = 19 := by omega
 have hmK : markK w = none := by
  by_cases e : w = []
  · rw [e]; exact markK_empty
  · exact markK_never fun i hi k => e (hprev (i + 3) (by omega) k)
 by_cases h1 : 0 ≤ varI vars w
 · have hop : padOp atoiV vars w = ⟨2, varI vars w⟩ := by unfold padOp; rw [hmK]; simp only; rw [if_pos h1]
   rw [hop]
   generalize varI vars w = n at h1 hV ⊢
   repeat' (first
    | refine cag cal_pvar (hV) ?_
    | refine ca cal_CutPrefix (hC) ?_
    | refine ca cal_Atoi (hA1) ?_
    | refine ca cal_Atoi (hA2) ?_
    | ((with_reducible apply jp); (focus ((with_reducible apply pu_load_globA); (focus rfl); (focus exact el_marks); (focus exact GP_marks); (focus rfl))); (focus rfl))
    | ((with_reducible apply jp); (focus ((with_reducible apply (pu_index_agg (n := k) (r := .val (.string (tx (markL k)))))); rfl; rfl; rfl; rfl; exact el_string; omega; exact hmk)); (focus rfl))
    | exact True.intro | refine stpA ?_ | refine two ?_ ?_
    | (refine imp fun hc => ?_) <;> try exact cx hc
    | refine all fun v_ => ?_)
   refine retr (VS.take (hc := [.cells bo 53 [.int 2, .int n], .cells bp 57 [.val qv.v, x1, x2, x3], rowE qv.v 68 4 Vr.cells vars]) (by exact takedD) (Env.le_refl _)) (xs := [.agg [.int 2, .int n]]) ⟨rv_agg rfl (by (with_reducible exact ElC.h)) rfl (by exact memD) rfl, trivial⟩ rfl (h' := [.cells bp 57 [.val qv.v, x1, x2, x3], rowE qv.v 68 4 Vr.cells vars]) (List.sublist_cons_self _ _) ⟨(), rfl, rfl⟩
 by_cases h2 : Lib.hasPrefix w [80] = true
 · obtain ⟨r, e⟩ := (has_P w).1 h2
   have hop : padOp atoiV vars w = ⟨13, atoiV (Lib.trimPrefix w [80])⟩ := by unfold padOp; rw [hmK]; simp only; rw [if_neg h1, e, trim_P]; rfl
   rw [hop]
   rw [h2] at hC
   generalize Lib.trimPrefix w [80] = r' at hC hA2 hw2 ⊢
   generalize atoiV r' = n at hA2 ⊢
   generalize varI vars w = n' at h1 hV ⊢
   repeat' (first
    | refine cag cal_pvar (hV) ?_
    | refine ca cal_CutPrefix (hC) ?_
    | refine ca cal_Atoi (hA1) ?_
    | refine ca cal_Atoi (hA2) ?_
    | ((with_reducible apply jp); (focus ((with_reducible apply pu_load_globA); (focus rfl); (focus exact el_marks); (focus exact GP_marks); (focus rfl))); (focus rfl))
    | ((with_reducible apply jp); (focus ((with_reducible apply (pu_index_agg (n := k) (r := .val (.string (tx (markL k)))))); rfl; rfl; rfl; rfl; exact el_string; omega; exact hmk)); (focus rfl))
    | exact True.intro | refine stpA ?_ | refine two ?_ ?_
    | (refine imp fun hc => ?_) <;> try exact cx hc
    | refine all fun v_ => ?_)
   refine retr (VS.take (hc := [.cells bo 53 [.int 13, .int n], .cells bp 57 [.val qv.v, x1, x2, x3], rowE qv.v 68 4 Vr.cells vars]) (by exact takedD) (Env.le_refl _)) (xs := [.agg [.int 13, .int n]]) ⟨rv_agg rfl (by (with_reducible exact ElC.h)) rfl (by exact memD) rfl, trivial⟩ rfl (h' := [.cells bp 57 [.val qv.v, x1, x2, x3], rowE qv.v 68 4 Vr.cells vars]) (List.sublist_cons_self _ _) ⟨(), rfl, rfl⟩
 · have hop : padOp atoiV vars w = ⟨1, atoiV w⟩ := by
    unfold padOp; rw [hmK]; simp only; rw [if_neg h1]
    split
    · rename_i r; exact absurd ((has_P _).2 ⟨r, rfl⟩) h2
    · rfl
   rw [hop]
   rw [Bool.not_eq_true] at h2
   rw [h2] at hC
   generalize Lib.trimPrefix w [80] = r' at hC hA2 hw2 ⊢
   generalize atoiV w = n at hA1 ⊢
   generalize varI vars w = n' at h1 hV ⊢
   repeat' (first
    | refine cag cal_pvar (hV) ?_
    | refine ca cal_CutPrefix (hC) ?_
    | refine ca cal_Atoi (hA1) ?_
    | refine ca cal_Atoi (hA2) ?_
    | ((with_reducible apply jp); (focus ((with_reducible apply pu_load_globA); (focus rfl); (focus exact el_marks); (focus exact GP_marks); (focus rfl))); (focus rfl))
    | ((with_reducible apply jp); (focus ((with_reducible apply (pu_index_agg (n := k) (r := .val (.string (tx (markL k)))))); rfl; rfl; rfl; rfl; exact el_string; omega; exact hmk)); (focus rfl))
    | exact True.intro | refine stpA ?_ | refine two ?_ ?_
    | (refine imp fun hc => ?_) <;> try exact cx hc
    | refine all fun v_ => ?_)
   refine retr (VS.take (hc := [.cells bo 53 [.int 1, .int n], .cells bp 57 [.val qv.v, x1, x2, x3], rowE qv.v 68 4 Vr.cells vars]) (by exact takedD) (Env.le_refl _)) (xs := [.agg [.int 1, .int n]]) ⟨rv_agg rfl (by (with_reducible exact ElC.h)) rfl (by exact memD) rfl, trivial⟩ rfl (h' := [.cells bp 57 [.val qv.v, x1, x2, x3], rowE qv.v 68 4 Vr.cells vars]) (List.sublist_cons_self _ _) ⟨(), rfl, rfl⟩
theorem pterm (bp : Nat) (qv : Sl) (x1 x2 x3 : AV) (vars : List Vr) (ws : List (List UInt8)) (hv : vars.length ≤ 100000) (hw : ∀ w ∈ ws, w.length ≤ 100000) (hl : ws.length ≤ 100000) : AC Tryz.prog GP 39 [.val (.pointer (some ⟨bp, 0, none⟩)), .d (linD ws)] [.cells bp 57 [.val qv.v, x1, x2, x3], rowE qv.v 68 4 Vr.cells vars] fun e h => ∃ _ : Unit, e = .ret (.d (opsD (ws.map (padOp atoiV vars)))) ∧ h = [.cells bp 57 [.val qv.v, x1, x2, x3], rowE qv.v 68 4 Vr.cells vars] := by
 refine AC_ofV (ts := [4]) Tryz.f39.ntmps Tryz.func39 rfl rfl rfl (by simp [Tryz.ntmps39]) fun W I => ?_
 refine jrow (E := 53) (sz := 2) Fo.cells ?_
 repeat' (first
  | refine cag cal_ppop (ppop bp qv x1 x2 x3 vars ws[i] hv (hw _ (List.getElem_mem hi))) ?_
  | ((with_reducible apply (japU1 (f := Fo.cells) (u := padOp atoiV vars ws[i]))); (focus rfl); (focus rfl); (focus (with_reducible exact ElC.h)); (focus exact updqD); (focus rfl); (focus rfl); (focus rfl); (focus rfl); (focus exact bndD); (focus exact bndD))
  | exact True.intro | refine stpA ?_ | refine two ?_ ?_
  | (refine imp fun hc => ?_) <;> try exact cx hc
  | refine all fun v_ => ?_)
 refine J_loopV (X := Nat × Sl) (fun y => [(0, .val (.pointer (some ⟨bp, 0, none⟩))), (5, .val y.2.v), (8, .d (linD ws)), (9, .int ws.length), (10, .int y.1)]) (fun y => [rowE y.2.v 53 2 Fo.cells ((ws.take y.1).map (padOp atoiV vars)), .cells bp 57 [.val qv.v, x1, x2, x3], rowE qv.v 68 4 Vr.cells vars]) (fun y => y.1 ≤ ws.length) (fun y => ws.length - y.1) (0, Sl.nil) (Nat.zero_le _) (VS.take (by exact takedD) ?_) ?_
 · exact leD
 rintro ⟨i, q⟩ hi0
 dsimp only at hi0 ⊢
 by_cases hi : i < ws.length
 · have e : (ws.take (i + 1)).map (padOp atoiV vars) = (ws.take i).map (padOp atoiV vars) ++ [padOp atoiV vars ws[i]] := by
    rw [List.take_succ_eq_append_getElem hi, List.map_append]; rfl
   have hlen : ((ws.take i).map (padOp atoiV vars)).length = i := by rw [List.length_map, List.length_take]; omega
   generalize (ws.take i).map (padOp atoiV vars) = ys at e hlen ⊢
   repeat' (first
    | refine cag cal_ppop (ppop bp qv x1 x2 x3 vars ws[i] hv (hw _ (List.getElem_mem hi))) ?_
    | ((with_reducible apply (japU1 (f := Fo.cells) (u := padOp atoiV vars ws[i]))); (focus rfl); (focus rfl); (focus (with_reducible exact ElC.h)); (focus exact updqD); (focus rfl); (focus rfl); (focus rfl); (focus rfl); (focus exact bndD); (focus exact bndD))
    | exact True.intro | refine stpA ?_ | refine two ?_ ?_
    | (refine imp fun hc => ?_) <;> try exact cx hc
    | refine all fun v_ => ?_)
   refine ⟨(i + 1, v_), by dsimp only; omega, by dsimp only; omega, VS.take (by dsimp only; rw [e]; exact takedD) ?_⟩
   exact leD
 obtain rfl : i = ws.length := by omega
 rw [List.take_length]
 have hlen : (ws.map (padOp atoiV vars)).length ≤ 100000 := by rw [List.length_map]; exact hl
 generalize ws.map (padOp atoiV vars) = ys at hlen ⊢
 repeat' (first
  | exact True.intro | refine stpA ?_ | refine two ?_ ?_
  | (refine imp fun hc => ?_) <;> try exact cx hc
  | refine all fun v_ => ?_)
 refine retv (VS.trans (vfreeze (t := 4) (eb := 16) rfl rfl (fun x => rfl) (by omega)) (VS.take (hc := [.cells bp 57 [.val qv.v, x1, x2, x3], rowE qv.v 68 4 Vr.cells vars]) (by exact takedD) (Env.le_refl _))) ?_
 ((with_reducible apply rq1); rfl; rfl)
 exact ⟨(), rfl, rfl⟩
end Go.Proofs.YtajnpfgelpkijaaGreatDoor
