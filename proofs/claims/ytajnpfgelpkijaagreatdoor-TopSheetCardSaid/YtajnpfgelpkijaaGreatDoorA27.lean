/- A bundle of this claim's own texts: R7 V11. -/
import Derived.Test.YtajnpfgelpkijaaGreatDoorA5
import Derived.Test.YtajnpfgelpkijaaGreatDoorA7
import Derived.Test.YtajnpfgelpkijaaGreatDoorA15
import Derived.Test.YtajnpfgelpkijaaGreatDoorA19
import Derived.Test.YtajnpfgelpkijaaGreatDoorA21
import Derived.Test.YtajnpfgelpkijaaGreatDoorA24
set_option linter.unusedVariables false
set_option linter.unusedSimpArgs false
set_option maxRecDepth 100000
set_option maxHeartbeats 4000000
namespace Go.Sp
open Go Go.Av
theorem cd {s : ByteArray} {w : List UInt8} (h : (s == tx w) = true) : s.data.toList = w := by rw [(Eh _ _).1 h]
theorem bH {s : ByteArray} {w : List UInt8} (h : (s == tx w) = false) : s.data.toList ≠ w := fun e => by
 rw [← e, FJ, (Eh s s).2 rfl] at h; cases h
theorem IF {a w : List UInt8} (h : (tx a == tx w) = true) : a = w := Yb ((Eh _ _).1 h)
theorem KQ {a w : List UInt8} (h : (tx a == tx w) = false) : a ≠ w := fun e => by
 rw [e, (Eh _ _).2 rfl] at h; cases h
theorem Va {l : List Vr} {w : List UInt8} (h : ∀ j (hj : j < l.length), l[j].name.data.toList ≠ w) : Be l w = -1 := U2 fun v hv => by
 obtain ⟨j, hj, rfl⟩ := List.getElem_of_mem hv
 exact h j hj
end Go.Sp
namespace Go.Proofs.YtajnpfgelpkijaaGreatDoor
open Go Go.Av Go.Sp
theorem fJ : Fld Tryz.prog 57 0 0 := by unfold Fld; kernel_rfl
instance instR7_2 : FdC Tryz.prog 57 0 0 := ⟨fJ⟩
theorem bk : El Tryz.prog 55 (.pointer none) 1 8 := by unfold El; kernel_rfl
instance instR7_3 : ElC Tryz.prog 55 (.pointer none) 1 8 := ⟨bk⟩
theorem Ex : Cal Tryz.prog 40 := Cal.of Tryz.func40 (by kernel_rfl) (by kernel_rfl)
theorem Qz : Cal Tryz.prog 74 := Cal.of Tryz.func74 (by kernel_rfl) (by kernel_rfl)
theorem F4 : Cal Tryz.prog 39 := Cal.of Tryz.func39 (by kernel_rfl) (by kernel_rfl)
theorem fZ (G : List (Nat × List D)) (bp : Nat) (qv : Sl) (x1 x2 x3 : AV) (vars : List Vr) (w : List UInt8) (hv : vars.length ≤ 100000) : AC Tryz.prog G 40 [.val (.pointer (some ⟨bp, 0, none⟩)), .val (.string (tx w))] [.cells bp 57 [.val qv.v, x1, x2, x3], AF qv.v 68 4 Vr.cells vars] fun e h => ∃ _ : Unit, e = .ret (.int (Be vars w)) ∧ h = [.cells bp 57 [.val qv.v, x1, x2, x3], AF qv.v 68 4 Vr.cells vars] := by
 refine AK (ts := [4]) Tryz.f40.ntmps Tryz.func40 rfl rfl rfl (by simp [Tryz.ntmps40]) fun W I => ?_
 repeat' (first
  | ((with_reducible apply jp); (focus ((with_reducible apply DA); (focus rfl); (focus (with_reducible exact ElC.h)); (focus rfl); (focus exact Ai); (focus exact fun _ => rfl); (focus omega))); (focus rfl))
  | exact True.intro | refine AM ?_ | refine two ?_ ?_
  | (refine imp fun hc => ?_) <;> try exact cx hc
  | refine all fun v_ => ?_)
 refine AL (X := Nat) (fun i => [(1, .val (.string (tx w))), (12, .val qv.v), (13, .int vars.length), (14, .int i)]) (fun _ => [.cells bp 57 [.val qv.v, x1, x2, x3], AF qv.v 68 4 Vr.cells vars]) (fun i => i ≤ vars.length ∧ ∀ j (hj : j < i) (hl : j < vars.length), vars[j].name.data.toList ≠ w) (fun i => vars.length - i) 0 ⟨Nat.zero_le _, fun j hj => absurd hj (Nat.not_lt_zero _)⟩ (VS.take (by exact AB) ?_) ?_
 · exact leD
 rintro i ⟨hi0, hprev⟩
 by_cases hi : i < vars.length
 · repeat' (first
    | ((with_reducible apply jp); (focus ((with_reducible apply DA); (focus rfl); (focus (with_reducible exact ElC.h)); (focus rfl); (focus exact Ai); (focus exact fun _ => rfl); (focus omega))); (focus rfl))
    | exact True.intro | refine AM ?_ | refine two ?_ ?_
    | (refine imp fun hc => ?_) <;> try exact cx hc
    | refine all fun v_ => ?_)
   · refine AO (VS.take (hc := [.cells bp 57 [.val qv.v, x1, x2, x3], AF qv.v 68 4 Vr.cells vars]) (by exact AB) (Env.le_refl _)) ?_
     ((with_reducible apply rq1); rfl; rfl)
     exact ⟨(), by rw [Ty i hi (cd hc) fun j hj => hprev j hj (by omega)], rfl⟩
   · refine ⟨i + 1, ⟨by omega, fun j hj hl => ?_⟩, by omega, VS.take (by exact AB) ?_⟩
     · by_cases e : j = i
       · subst e; exact bH hc
       · exact hprev j (by omega) hl
     · exact leD
 obtain rfl : i = vars.length := by omega
 repeat' (first
  | ((with_reducible apply jp); (focus ((with_reducible apply DA); (focus rfl); (focus (with_reducible exact ElC.h)); (focus rfl); (focus exact Ai); (focus exact fun _ => rfl); (focus omega))); (focus rfl))
  | exact True.intro | refine AM ?_ | refine two ?_ ?_
  | (refine imp fun hc => ?_) <;> try exact cx hc
  | refine all fun v_ => ?_)
 refine AO (VS.take (hc := [.cells bp 57 [.val qv.v, x1, x2, x3], AF qv.v 68 4 Vr.cells vars]) (by exact AB) (Env.le_refl _)) ?_
 ((with_reducible apply rq1); rfl; rfl)
 exact ⟨(), by rw [Va fun j hj => hprev j hj hj], rfl⟩
theorem Gw : El Tryz.prog 124 (.agg (Array.replicate 19 (.string ByteArray.empty))) 19 304 := by unfold El; kernel_rfl
theorem S7 (k : Nat) (h : k ≤ 18) : (Jp.map D.av)[k]? = some (.val (.string (tx (B7 k)))) := by
 have := Nh (k := (k : Int)) (by omega) (by omega)
 rw [show (0 + ((k : Int).toNat) * 1) = k by omega] at this
 rw [List.getElem?_map, this]; rfl
theorem Yw : ∀ k : Fin 3, B7 ((k.val : Nat) : Int) = [] := by decide
theorem gZ (bp : Nat) (qv : Sl) (x1 x2 x3 : AV) (vars : List Vr) (w : List UInt8) (hv : vars.length ≤ 100000) (hw : w.length ≤ 100000) : AC Tryz.prog GP 74 [.val (.pointer (some ⟨bp, 0, none⟩)), .val (.string (tx w))] [.cells bp 57 [.val qv.v, x1, x2, x3], AF qv.v 68 4 Vr.cells vars] fun e h => ∃ _ : Unit, e = .ret (.agg [.int (A4 Ae vars w).kind, .int (A4 Ae vars w).val]) ∧ h = [.cells bp 57 [.val qv.v, x1, x2, x3], AF qv.v 68 4 Vr.cells vars] := by
 have hw2 : (Lib.trimPrefix w [80]).length ≤ 100000 := by
  unfold Lib.trimPrefix
  split
  · rw [List.length_drop]; omega
  · exact hw
 have hV := fZ GP bp qv x1 x2 x3 vars w hv
 have hC := XE w
 have hA1 := Atoi w hw
 have hA2 := Atoi (Lib.trimPrefix w [80]) hw2
 refine Et (rs := [.cell 4 53]) Tryz.f74.ntmps Tryz.func74 rfl rfl rfl (by simp [Tryz.ntmps74]) fun W I => ?_
 repeat' (first
  | refine cag Ex (hV) ?_
  | refine ca C3 (hC) ?_
  | refine ca Bu (hA1) ?_
  | refine ca Bu (hA2) ?_
  | ((with_reducible apply jp); (focus ((with_reducible apply C8); (focus rfl); (focus exact Gw); (focus exact Fa); (focus rfl))); (focus rfl))
  | ((with_reducible apply jp); (focus ((with_reducible apply (CE (n := k) (r := .val (.string (tx (B7 k)))))); rfl; rfl; rfl; rfl; exact EX; omega; exact hmk)); (focus rfl))
  | exact True.intro | refine AM ?_ | refine two ?_ ?_
  | (refine imp fun hc => ?_) <;> try exact cx hc
  | refine all fun v_ => ?_)
 obtain ⟨bo, rfl⟩ : ∃ x, x = v_ := ⟨v_, rfl⟩
 refine AL (X := Nat) (fun k => [(0, .val (.pointer (some ⟨bp, 0, none⟩))), (1, .val (.string (tx w))), (4, .val (.pointer (some ⟨bo, 0, none⟩))), (14, .agg (Jp.map D.av)), (15, .int k)]) (fun _ => [.cells bo 53 [.int 0, .int 0], .cells bp 57 [.val qv.v, x1, x2, x3], AF qv.v 68 4 Vr.cells vars]) (fun k => k ≤ 19 ∧ ∀ j, j < k → B7 (j : Nat) = w → w = []) (fun k => 19 - k) 0 ⟨Nat.zero_le _, fun j hj => absurd hj (Nat.not_lt_zero _)⟩ (VS.take (by exact AB) ?_) ?_
 · exact leD
 rintro k ⟨hk0, hprev⟩
 by_cases hk : k < 19
 · have hmk := S7 k (by omega)
   repeat' (first
    | refine cag Ex (hV) ?_
    | refine ca C3 (hC) ?_
    | refine ca Bu (hA1) ?_
    | refine ca Bu (hA2) ?_
    | ((with_reducible apply jp); (focus ((with_reducible apply C8); (focus rfl); (focus exact Gw); (focus exact Fa); (focus rfl))); (focus rfl))
    | ((with_reducible apply jp); (focus ((with_reducible apply (CE (n := k) (r := .val (.string (tx (B7 k)))))); rfl; rfl; rfl; rfl; exact EX; omega; exact hmk)); (focus rfl))
    | exact True.intro | refine AM ?_ | refine two ?_ ?_
    | (refine imp fun hc => ?_) <;> try exact cx hc
    | refine all fun v_ => ?_)
   · refine ⟨k + 1, ⟨by omega, fun j hj e => ?_⟩, by omega, VS.take (by exact AB) ?_⟩
     · by_cases ej : j = k
       · subst ej; rw [← e]; exact IF hc
       · exact hprev j (by omega) e
     · exact leD
   · rename_i hne
     have e1 : B7 (k : Nat) = w := IF hc
     have e2 : w ≠ [] := fun e => KQ hne (by rw [e1, e])
     have k3 : 3 ≤ k := by
      by_cases k3 : k < 3
      · exact absurd (e1.symm.trans (Yw ⟨k, k3⟩)) e2
      · omega
     have hmK : D3 w = some (k - 3) := Rf (by omega) (by rw [Nat.sub_add_cancel k3]; exact e1) e2 fun i hi e => e2 (hprev (i + 3) (by omega) e)
     have hop : A4 Ae vars w = ⟨(k : Nat), 0⟩ := by unfold A4; rw [hmK]; simp only; rw [Nat.sub_add_cancel k3]
     rw [hop]
     refine Jt (VS.take (hc := [.cells bo 53 [.int (k : Nat), .int 0], .cells bp 57 [.val qv.v, x1, x2, x3], AF qv.v 68 4 Vr.cells vars]) (by exact AB) (Env.le_refl _)) (xs := [.agg [.int (k : Nat), .int 0]]) ⟨CI rfl (by (with_reducible exact ElC.h)) rfl (by exact Ai) rfl, trivial⟩ rfl (h' := [.cells bp 57 [.val qv.v, x1, x2, x3], AF qv.v 68 4 Vr.cells vars]) (List.sublist_cons_self _ _) ⟨(), rfl, rfl⟩
   · refine ⟨k + 1, ⟨by omega, fun j hj e => ?_⟩, by omega, VS.take (by exact AB) ?_⟩
     · by_cases ej : j = k
       · subst ej; exact absurd e (KQ hc)
       · exact hprev j (by omega) e
     · exact leD
 obtain rfl : k = 19 := by omega
 have hmK : D3 w = none := by
  by_cases e : w = []
  · rw [e]; exact Qm
  · exact Rt fun i hi k => e (hprev (i + 3) (by omega) k)
 by_cases h1 : 0 ≤ Be vars w
 · have hop : A4 Ae vars w = ⟨2, Be vars w⟩ := by unfold A4; rw [hmK]; simp only; rw [if_pos h1]
   rw [hop]
   generalize Be vars w = n at h1 hV ⊢
   repeat' (first
    | refine cag Ex (hV) ?_
    | refine ca C3 (hC) ?_
    | refine ca Bu (hA1) ?_
    | refine ca Bu (hA2) ?_
    | ((with_reducible apply jp); (focus ((with_reducible apply C8); (focus rfl); (focus exact Gw); (focus exact Fa); (focus rfl))); (focus rfl))
    | ((with_reducible apply jp); (focus ((with_reducible apply (CE (n := k) (r := .val (.string (tx (B7 k)))))); rfl; rfl; rfl; rfl; exact EX; omega; exact hmk)); (focus rfl))
    | exact True.intro | refine AM ?_ | refine two ?_ ?_
    | (refine imp fun hc => ?_) <;> try exact cx hc
    | refine all fun v_ => ?_)
   refine Jt (VS.take (hc := [.cells bo 53 [.int 2, .int n], .cells bp 57 [.val qv.v, x1, x2, x3], AF qv.v 68 4 Vr.cells vars]) (by exact AB) (Env.le_refl _)) (xs := [.agg [.int 2, .int n]]) ⟨CI rfl (by (with_reducible exact ElC.h)) rfl (by exact Ai) rfl, trivial⟩ rfl (h' := [.cells bp 57 [.val qv.v, x1, x2, x3], AF qv.v 68 4 Vr.cells vars]) (List.sublist_cons_self _ _) ⟨(), rfl, rfl⟩
 by_cases h2 : Lib.hasPrefix w [80] = true
 · obtain ⟨r, e⟩ := (ZC w).1 h2
   have hop : A4 Ae vars w = ⟨13, Ae (Lib.trimPrefix w [80])⟩ := by unfold A4; rw [hmK]; simp only; rw [if_neg h1, e, dd]; rfl
   rw [hop]
   rw [h2] at hC
   generalize Lib.trimPrefix w [80] = r' at hC hA2 hw2 ⊢
   generalize Ae r' = n at hA2 ⊢
   generalize Be vars w = n' at h1 hV ⊢
   repeat' (first
    | refine cag Ex (hV) ?_
    | refine ca C3 (hC) ?_
    | refine ca Bu (hA1) ?_
    | refine ca Bu (hA2) ?_
    | ((with_reducible apply jp); (focus ((with_reducible apply C8); (focus rfl); (focus exact Gw); (focus exact Fa); (focus rfl))); (focus rfl))
    | ((with_reducible apply jp); (focus ((with_reducible apply (CE (n := k) (r := .val (.string (tx (B7 k)))))); rfl; rfl; rfl; rfl; exact EX; omega; exact hmk)); (focus rfl))
    | exact True.intro | refine AM ?_ | refine two ?_ ?_
    | (refine imp fun hc => ?_) <;> try exact cx hc
    | refine all fun v_ => ?_)
   refine Jt (VS.take (hc := [.cells bo 53 [.int 13, .int n], .cells bp 57 [.val qv.v, x1, x2, x3], AF qv.v 68 4 Vr.cells vars]) (by exact AB) (Env.le_refl _)) (xs := [.agg [.int 13, .int n]]) ⟨CI rfl (by (with_reducible exact ElC.h)) rfl (by exact Ai) rfl, trivial⟩ rfl (h' := [.cells bp 57 [.val qv.v, x1, x2, x3], AF qv.v 68 4 Vr.cells vars]) (List.sublist_cons_self _ _) ⟨(), rfl, rfl⟩
 · have hop : A4 Ae vars w = ⟨1, Ae w⟩ := by
    unfold A4; rw [hmK]; simp only; rw [if_neg h1]
    split
    · rename_i r; exact absurd ((ZC _).2 ⟨r, rfl⟩) h2
    · rfl
   rw [hop]
   rw [Bool.not_eq_true] at h2
   rw [h2] at hC
   generalize Lib.trimPrefix w [80] = r' at hC hA2 hw2 ⊢
   generalize Ae w = n at hA1 ⊢
   generalize Be vars w = n' at h1 hV ⊢
   repeat' (first
    | refine cag Ex (hV) ?_
    | refine ca C3 (hC) ?_
    | refine ca Bu (hA1) ?_
    | refine ca Bu (hA2) ?_
    | ((with_reducible apply jp); (focus ((with_reducible apply C8); (focus rfl); (focus exact Gw); (focus exact Fa); (focus rfl))); (focus rfl))
    | ((with_reducible apply jp); (focus ((with_reducible apply (CE (n := k) (r := .val (.string (tx (B7 k)))))); rfl; rfl; rfl; rfl; exact EX; omega; exact hmk)); (focus rfl))
    | exact True.intro | refine AM ?_ | refine two ?_ ?_
    | (refine imp fun hc => ?_) <;> try exact cx hc
    | refine all fun v_ => ?_)
   refine Jt (VS.take (hc := [.cells bo 53 [.int 1, .int n], .cells bp 57 [.val qv.v, x1, x2, x3], AF qv.v 68 4 Vr.cells vars]) (by exact AB) (Env.le_refl _)) (xs := [.agg [.int 1, .int n]]) ⟨CI rfl (by (with_reducible exact ElC.h)) rfl (by exact Ai) rfl, trivial⟩ rfl (h' := [.cells bp 57 [.val qv.v, x1, x2, x3], AF qv.v 68 4 Vr.cells vars]) (List.sublist_cons_self _ _) ⟨(), rfl, rfl⟩
theorem UW (bp : Nat) (qv : Sl) (x1 x2 x3 : AV) (vars : List Vr) (ws : List (List UInt8)) (hv : vars.length ≤ 100000) (hw : ∀ w ∈ ws, w.length ≤ 100000) (hl : ws.length ≤ 100000) : AC Tryz.prog GP 39 [.val (.pointer (some ⟨bp, 0, none⟩)), .d (Y9 ws)] [.cells bp 57 [.val qv.v, x1, x2, x3], AF qv.v 68 4 Vr.cells vars] fun e h => ∃ _ : Unit, e = .ret (.d (AN (ws.map (A4 Ae vars)))) ∧ h = [.cells bp 57 [.val qv.v, x1, x2, x3], AF qv.v 68 4 Vr.cells vars] := by
 refine AK (ts := [4]) Tryz.f39.ntmps Tryz.func39 rfl rfl rfl (by simp [Tryz.ntmps39]) fun W I => ?_
 refine FQ (E := 53) (sz := 2) Fo.cells ?_
 repeat' (first
  | refine cag Qz (gZ bp qv x1 x2 x3 vars ws[i] hv (hw _ (List.getElem_mem hi))) ?_
  | ((with_reducible apply (Bm (f := Fo.cells) (u := A4 Ae vars ws[i]))); (focus rfl); (focus rfl); (focus (with_reducible exact ElC.h)); (focus exact BT); (focus rfl); (focus rfl); (focus rfl); (focus rfl); (focus exact Ad); (focus exact Ad))
  | exact True.intro | refine AM ?_ | refine two ?_ ?_
  | (refine imp fun hc => ?_) <;> try exact cx hc
  | refine all fun v_ => ?_)
 refine AL (X := Nat × Sl) (fun y => [(0, .val (.pointer (some ⟨bp, 0, none⟩))), (5, .val y.2.v), (8, .d (Y9 ws)), (9, .int ws.length), (10, .int y.1)]) (fun y => [AF y.2.v 53 2 Fo.cells ((ws.take y.1).map (A4 Ae vars)), .cells bp 57 [.val qv.v, x1, x2, x3], AF qv.v 68 4 Vr.cells vars]) (fun y => y.1 ≤ ws.length) (fun y => ws.length - y.1) (0, Sl.nil) (Nat.zero_le _) (VS.take (by exact AB) ?_) ?_
 · exact leD
 rintro ⟨i, q⟩ hi0
 dsimp only at hi0 ⊢
 by_cases hi : i < ws.length
 · have e : (ws.take (i + 1)).map (A4 Ae vars) = (ws.take i).map (A4 Ae vars) ++ [A4 Ae vars ws[i]] := by
    rw [List.take_succ_eq_append_getElem hi, List.map_append]; rfl
   have hlen : ((ws.take i).map (A4 Ae vars)).length = i := by rw [List.length_map, List.length_take]; omega
   generalize (ws.take i).map (A4 Ae vars) = ys at e hlen ⊢
   repeat' (first
    | refine cag Qz (gZ bp qv x1 x2 x3 vars ws[i] hv (hw _ (List.getElem_mem hi))) ?_
    | ((with_reducible apply (Bm (f := Fo.cells) (u := A4 Ae vars ws[i]))); (focus rfl); (focus rfl); (focus (with_reducible exact ElC.h)); (focus exact BT); (focus rfl); (focus rfl); (focus rfl); (focus rfl); (focus exact Ad); (focus exact Ad))
    | exact True.intro | refine AM ?_ | refine two ?_ ?_
    | (refine imp fun hc => ?_) <;> try exact cx hc
    | refine all fun v_ => ?_)
   refine ⟨(i + 1, v_), by dsimp only; omega, by dsimp only; omega, VS.take (by dsimp only; rw [e]; exact AB) ?_⟩
   exact leD
 obtain rfl : i = ws.length := by omega
 rw [List.take_length]
 have hlen : (ws.map (A4 Ae vars)).length ≤ 100000 := by rw [List.length_map]; exact hl
 generalize ws.map (A4 Ae vars) = ys at hlen ⊢
 repeat' (first
  | exact True.intro | refine AM ?_ | refine two ?_ ?_
  | (refine imp fun hc => ?_) <;> try exact cx hc
  | refine all fun v_ => ?_)
 refine AO (VS.trans (Ci (t := 4) (eb := 16) rfl rfl (fun x => rfl) (by omega)) (VS.take (hc := [.cells bp 57 [.val qv.v, x1, x2, x3], AF qv.v 68 4 Vr.cells vars]) (by exact AB) (Env.le_refl _))) ?_
 ((with_reducible apply rq1); rfl; rfl)
 exact ⟨(), rfl, rfl⟩
theorem UT : Cal Tryz.prog 65 := Cal.of Tryz.func65 (by kernel_rfl) (by kernel_rfl)
theorem TJ : Cal Tryz.prog 66 := Cal.of Tryz.func66 (by kernel_rfl) (by kernel_rfl)
theorem GH : Cal Tryz.prog 67 := Cal.of Tryz.func67 (by kernel_rfl) (by kernel_rfl)
theorem Su : Cal Tryz.prog 68 := Cal.of Tryz.func68 (by kernel_rfl) (by kernel_rfl)
theorem Tf : Cal Tryz.prog 69 := Cal.of Tryz.func69 (by kernel_rfl) (by kernel_rfl)
theorem las1 (k : Nat) (ea eb ec ed : Ent) : AC Tryz.prog GP 65 [.int k] [ea, eb, ec, ed] fun r h => ∃ _ : Unit, r = .ret (.bool true) ∧ h = [ea, eb, ec, ed] := by
 refine AK (ts := [2]) Tryz.f65.ntmps Tryz.func65 rfl rfl rfl (by simp [Tryz.ntmps65]) fun W I => ?_
 repeat' (first
  | exact True.intro | refine AJ ?_ | refine two ?_ ?_ | refine AG fun c_ => ?_
  | (refine imp fun hc => ?_) <;> try exact cx1 hc
  | refine all fun v_ => ?_)
 all_goals
  refine CY ?_
  ((with_reducible apply rq1); rfl; rfl)
  exact ⟨(), rfl, rfl⟩
theorem las2 (home k : Nat) (bh : Nat) (eb ec ed : Ent) : AC Tryz.prog GP 66 [.int k, .val (.pointer (some ⟨bh, 0, none⟩))] [.cells bh 3 [.int home], eb, ec, ed] fun r h => ∃ _ : Unit, r = .ret (.bool (decide (k = home))) ∧ h = [.cells bh 3 [.int home], eb, ec, ed] := by
 refine AK (ts := [3]) Tryz.f66.ntmps Tryz.func66 rfl rfl rfl (by simp [Tryz.ntmps66]) fun W I => ?_
 repeat' (first
  | exact True.intro | refine AJ ?_ | refine two ?_ ?_ | refine AG fun c_ => ?_
  | (refine imp fun hc => ?_) <;> try exact cx1 hc
  | refine all fun v_ => ?_)
 all_goals
  refine CY ?_
  ((with_reducible apply rq1); rfl; rfl)
  exact ⟨(), by simp; omega, rfl⟩
theorem las5 (home k : Nat) (bh : Nat) (eb ec ed : Ent) : AC Tryz.prog GP 69 [.int k, .val (.pointer (some ⟨bh, 0, none⟩))] [.cells bh 3 [.int home], eb, ec, ed] fun r h => ∃ _ : Unit, r = .ret (.bool (decide (k = home))) ∧ h = [.cells bh 3 [.int home], eb, ec, ed] := by
 refine AK (ts := [3]) Tryz.f69.ntmps Tryz.func69 rfl rfl rfl (by simp [Tryz.ntmps69]) fun W I => ?_
 repeat' (first
  | exact True.intro | refine AJ ?_ | refine two ?_ ?_ | refine AG fun c_ => ?_
  | (refine imp fun hc => ?_) <;> try exact cx1 hc
  | refine all fun v_ => ?_)
 all_goals
  refine CY ?_
  ((with_reducible apply rq1); rfl; rfl)
  exact ⟨(), by simp; omega, rfl⟩
theorem eN (g : Gn) (home k : Nat) (hk : k < g.spots.length) (bh bp : Nat) (ec ed : Ent) : AC Tryz.prog GP 67 [.int k, .val (.pointer (some ⟨bp, 0, none⟩)), .val (.pointer (some ⟨bh, 0, none⟩))] [.cells bh 3 [.int home], .cells bp 43 [.d (Af (A1 g))], ec, ed] fun r h => ∃ _ : Unit, r = .ret (.bool (Hy g home k)) ∧ h = [.cells bh 3 [.int home], .cells bp 43 [.d (Af (A1 g))], ec, ed] := by
 have hl := DX g
 have hn := Ce (A1 g) k (by omega)
 refine AK (ts := [4]) Tryz.f67.ntmps Tryz.func67 rfl rfl rfl (by simp [Tryz.ntmps67]) fun W I => ?_
 repeat' (first
  | exact True.intro | refine AJ ?_ | refine two ?_ ?_ | refine AG fun c_ => ?_
  | (refine imp fun hc => ?_) <;> try exact cx1 hc
  | refine all fun v_ => ?_)
 all_goals
  refine CY ?_
  ((with_reducible apply rq1); rfl; rfl)
  exact ⟨(), by unfold Hy; rw [hn]; simp; omega, rfl⟩
theorem las4 (g : Gn) (hok : g.ok) (bit k : Nat) (hk : k < g.spots.length) (hb : bit < 6) (bg bb : Nat) (ea eb : Ent) : AC Tryz.prog GP 68 [.int k, .val (.pointer (some ⟨bg, 0, none⟩)), .val (.pointer (some ⟨bb, 0, none⟩))] [ea, eb, .cells bg 99 [.d (AN g.spots), .int g.init, .d (BJ g.next), .d (Af g.sets), .int g.many], .cells bb 3 [.int bit]] fun r h => ∃ _ : Unit, r = .ret (.bool ((ni g.sets k).testBit bit)) ∧ h = [ea, eb, .cells bg 99 [.d (AN g.spots), .int g.init, .d (BJ g.next), .d (Af g.sets), .int g.many], .cells bb 3 [.int bit]] := by
 have hl := hok.sets
 have hn := Ce g.sets k (by omega)
 have hs := hok.bits k (by omega)
 have hm := hok.many
 have hs' : g.sets[k] < 64 := Nat.lt_of_lt_of_le hs (by have := Nat.pow_le_pow_right (n := 2) (by decide) hm; exact this)
 have hbd := Of g.sets[k] bit
 refine AK (ts := [4]) Tryz.f68.ntmps Tryz.func68 rfl rfl rfl (by simp [Tryz.ntmps68]) fun W I => ?_
 repeat' (first
  | exact True.intro | refine AJ ?_ | refine two ?_ ?_ | refine AG fun c_ => ?_
  | (refine imp fun hc => ?_) <;> try exact cx1 hc
  | refine all fun v_ => ?_)
 all_goals
  refine CY ?_
  ((with_reducible apply rq1); rfl; rfl)
  refine ⟨(), ?_, rfl⟩
  have e1 : (bit : Int).toNat = bit := Int.toNat_natCast bit
  have e2 : (g.sets[k] : Int) / 2 ^ bit = ((g.sets[k] / 2 ^ bit : Nat) : Int) := by simp
  have e3 : g.sets[k] / 2 ^ bit ≤ g.sets[k] := Nat.div_le_self _ _
  have e4 : (ni g.sets k).testBit bit = decide ((g.sets[k] : Int) / 2 ^ bit % 2 = 1) := by
   rw [hn]
   by_cases h : g.sets[k].testBit bit = true
   · rw [h]; exact (decide_eq_true (hbd.2 h)).symm
   · rw [Bool.not_eq_true] at h
     rw [h]; exact (decide_eq_false (fun h' => by rw [hbd.1 h'] at h; cases h)).symm
  generalize g.sets[k] / 2 ^ bit = z at e2 e3
  rw [e4, e1, eD (by rw [e2]; omega) (by rw [e2]; omega)]
end Go.Proofs.YtajnpfgelpkijaaGreatDoor
