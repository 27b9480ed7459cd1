/- A bundle of this claim's own texts: Cf M4 Top G1 G7 G8 T7 M7. -/
import Derived.Test.YtmamiihpghnmmaaDoorCards
import Derived.Test.YtmamiihpghnmmaaDoorTie
import Derived.WalkKit
import Derived.ProofKit
import Derived.OpenShut
import Derived.Deep.DeepHandedRow
import Derived.Lib.LaidTab
import Derived.Test.YtmamiihpghnmmaaDoorZ1
import Derived.Test.YtmamiihpghnmmaaDoorZ2
import Derived.Test.YtmamiihpghnmmaaDoorZ3
import Derived.Test.YtmamiihpghnmmaaDoorZ4
import Derived.Test.YtmamiihpghnmmaaDoorZ8
import Derived.Test.YtmamiihpghnmmaaDoorZ16
namespace Go.Proofs.YtmamiihpghnmmaaDoor
open Go Go.Av Go.Sp
set_option linter.unusedVariables false
set_option linter.unusedSimpArgs false
set_option maxRecDepth 100000
set_option maxHeartbeats 4000000
theorem conf_int {g : Nat} {xs : List D} (h : Conf Tryd.prog (g + 1) 3 xs) : ∃ n, xs = [.i .i64 n] := by obtain ⟨n, h, _⟩ := conf_int_of Tryd.underlying3 h; exact ⟨n, h⟩
theorem conf_Op {g : Nat} {xs : List D} (h : Conf Tryd.prog (g + 2) 96 xs) : ∃ o : Fo, xs = o.cells := by
  obtain ⟨p0, p1, rfl, h0, h1⟩ := conf_struct2_of Tryd.underlying96 h
  obtain ⟨a, rfl⟩ := conf_int h0
  obtain ⟨b, rfl⟩ := conf_int h1
  exact ⟨⟨a, b⟩, rfl⟩
theorem conf_ops {g : Nat} {xs : List D} (h : Conf Tryd.prog (g + 3) 27 xs) : ∃ l : List Fo, xs = [opsD l] ∧ l.length * 16 ≤ 140737488351232 := conf_slice_of Tryd.underlying27 (by kernel_rfl) (by kernel_rfl) (fun _ h => conf_Op h) h
theorem conf_ints {g : Nat} {xs : List D} (h : Conf Tryd.prog (g + 2) 50 xs) : ∃ l : List Int, xs = [intsD l] ∧ l.length * 8 ≤ 140737488351232 := conf_slice_of Tryd.underlying50 (by kernel_rfl) (by kernel_rfl) (fun _ h => by obtain ⟨n, h⟩ := conf_int h; exact ⟨n, h⟩) h
end Go.Proofs.YtmamiihpghnmmaaDoor
namespace Go.Proofs.YtmamiihpghnmmaaDoor
open Go Go.Av Go.Sp
set_option linter.unusedVariables false
set_option linter.unusedSimpArgs false
set_option maxRecDepth 100000
set_option maxHeartbeats 4000000

theorem cal_models : Cal Tryd.prog 15 := Cal.of Tryd.func15 (by kernel_rfl) (by kernel_rfl)
theorem conf_Variable {g : Nat} {xs : List D} (h : Conf Tryd.prog (g + 2) 79 xs) : ∃ v : Vr, xs = v.cells := by
  obtain ⟨p0, p1, p2, p3, rfl, h0, h1, h2, h3⟩ := conf_struct4_of Tryd.underlying79 h
  obtain ⟨s, rfl, _⟩ := conf_string_of Tryd.underlying9 h0
  obtain ⟨a, rfl⟩ := conf_int h1
  obtain ⟨b, rfl⟩ := conf_int h2
  obtain ⟨c, rfl⟩ := conf_int h3
  exact ⟨⟨s, a, b, c⟩, rfl⟩
theorem conf_vars {g : Nat} {xs : List D} (h : Conf Tryd.prog (g + 3) 22 xs) : ∃ l : List Vr, xs = [varsD l] ∧ l.length * 40 ≤ 140737488351232 := conf_slice_of Tryd.underlying22 (by kernel_rfl) (by kernel_rfl) (fun _ h => conf_Variable h) h
theorem conf_Set {g : Nat} {xs : List D} (h : Conf Tryd.prog (g + 4) 73 xs) : ∃ s : St, xs = s.cells := by
  obtain ⟨p0, p1, rfl, h0, h1⟩ := conf_struct2_of Tryd.underlying73 h
  obtain ⟨a, rfl⟩ := conf_int h0
  obtain ⟨l, rfl, _⟩ := conf_ops h1
  exact ⟨⟨a, l⟩, rfl⟩
theorem conf_sets {g : Nat} {xs : List D} (h : Conf Tryd.prog (g + 5) 69 xs) : ∃ l : List St, xs = [setsD l] ∧ l.length * 32 ≤ 140737488351232 := conf_slice_of Tryd.underlying69 (by kernel_rfl) (by kernel_rfl) (fun _ h => conf_Set h) h
theorem conf_Rule {g : Nat} {xs : List D} (h : Conf Tryd.prog (g + 6) 71 xs) : ∃ r : Ru, xs = r.cells := by
  obtain ⟨p0, p1, rfl, h0, h1⟩ := conf_struct2_of Tryd.underlying71 h
  obtain ⟨a, rfl, _⟩ := conf_ops h0
  obtain ⟨l, rfl, _⟩ := conf_sets h1
  exact ⟨⟨a, l⟩, rfl⟩
theorem conf_rules {g : Nat} {xs : List D} (h : Conf Tryd.prog (g + 7) 23 xs) : ∃ l : List Ru, xs = [rulesD l] ∧ l.length * 48 ≤ 140737488351232 := conf_slice_of Tryd.underlying23 (by kernel_rfl) (by kernel_rfl) (fun _ h => conf_Rule h) h
theorem conf_Model {g : Nat} {xs : List D} (h : Conf Tryd.prog (g + 8) 25 xs) : ∃ m : Md, xs = m.cells := by
  obtain ⟨p0, p1, rfl, h0, h1⟩ := conf_struct2_of Tryd.underlying25 h
  obtain ⟨a, rfl, _⟩ := conf_vars h0
  obtain ⟨l, rfl, _⟩ := conf_rules h1
  exact ⟨⟨a, l⟩, rfl⟩
theorem models (G : List (Nat × List D)) (m : Md) : ACr Tryd.prog G 15 [mdA m] (mdA m) := by
  refine AC.factI (f := Vr.cells) (xs := m.vars) (.agg .here) fun hlv => ?_
  refine AC.factI (f := Ru.cells) (xs := m.rules) (.agg (.there .here)) fun hlr => ?_
  refine AC.factU (f := Ru.cells) (e := St.cells) (g := Ru.sets) (xs := m.rules) 1 (fun _ => rfl) (.agg (.there .here)) fun hls => ?_
  refine AC_ofR (rs := [.cell 2 25]) Tryd.f15.ntmps Tryd.func15 rfl rfl rfl (by simp [Tryd.ntmps15]) fun W I => ?_
  all_goals haveI fA_ : FlagA := ⟨⟩
  all_goals haveI fH_ : FlagH := ⟨⟩
  repeat' (first
    | ((with_reducible apply call0); (focus rfl); (focus exact cal_ops); (focus exact opsU _ _); (focus rfl))
    | ((with_reducible apply je_call0); (focus rfl); (focus (decide +kernel)); (focus rfl); (focus exact cal_ops); (focus exact opsU _ _); (focus rfl))
    | exact True.intro
    | refine stp ?_
    | refine two ?_ ?_
    | refine allc fun c_ => ?_
    | (refine imp fun hc => ?_) <;> try (first | contradiction | (exfalso; omega) | (exfalso; exact absurd (of_dT hc) (by assumption)) | (exfalso; exact of_dF hc (by assumption)))
    | refine all fun v_ => ?_)
  all_goals clear fA_ fH_
  rename_i bm bt
  refine jrow (E := 71) (sz := 2) Ru.cells ?_
  refine J_loopV (X := Nat × Sl) (fun y => [(1, .val (.pointer (some ⟨bm, 0, none⟩))), (2, .val (.pointer (some ⟨bt, 0, none⟩))), (3, .val (.pointer (some ⟨v_, 0, none⟩))), (4, .int y.1)]) (fun y => [rowE y.2.v 71 2 Ru.cells (m.rules.take y.1), .cells v_ 25 [.d (varsD m.vars), .val y.2.v], .cells bm 25 [.d (varsD m.vars), .d (rulesD m.rules)], .cells bt 25 [.val (.slice none 0 0), .val (.slice none 0 0)]]) (fun y => y.1 ≤ m.rules.length) (fun y => m.rules.length - y.1) (0, Sl.nil) (Nat.zero_le _) (VS.take (by ((repeat (first | exact Take.nil | ((with_reducible apply Take.cons); (focus ((repeat (first | exact Sel.here | with_reducible apply Sel.there)); done))))); done)) ?_) ?_
  · repeat (first
      | exact Env.le_nil _
      | refine Env.le_cons (AV.le_refl _) ?_
      | refine Env.le_cons (AV.le_int rfl (by first | rfl | omega | (dsimp only; omega))) ?_)
  rintro ⟨i, q⟩ h1
  dsimp only at h1 ⊢
  have hlen : (m.rules.take i).length = i := by rw [List.length_take]; omega
  by_cases hi : i < m.rules.length
  · have hlsi := hls m.rules[i] (List.getElem_mem hi)
    all_goals haveI fA_ : FlagA := ⟨⟩
    all_goals haveI fH_ : FlagH := ⟨⟩
    repeat' (first
      | ((with_reducible apply call0); (focus rfl); (focus exact cal_ops); (focus exact opsU _ _); (focus rfl))
      | ((with_reducible apply je_call0); (focus rfl); (focus (decide +kernel)); (focus rfl); (focus exact cal_ops); (focus exact opsU _ _); (focus rfl))
      | exact True.intro
      | refine stp ?_
      | refine two ?_ ?_
      | refine allc fun c_ => ?_
      | (refine imp fun hc => ?_) <;> try (first | contradiction | (exfalso; omega) | (exfalso; exact absurd (of_dT hc) (by assumption)) | (exfalso; exact of_dF hc (by assumption)))
      | refine all fun v_ => ?_)
    all_goals clear fA_ fH_
    refine jrow (E := 73) (sz := 2) St.cells ?_
    rename_i bo
    refine J_loopV (X := Nat × Sl) (fun y => [(1, .val (.pointer (some ⟨bm, 0, none⟩))), (2, .val (.pointer (some ⟨bt, 0, none⟩))), (3, .val (.pointer (some ⟨bo, 0, none⟩))), (4, .int i), (5, .val (.pointer (some ⟨v_, 0, none⟩))), (6, .int y.1)]) (fun y => [rowE y.2.v 73 2 St.cells (m.rules[i].sets.take y.1), .cells v_ 71 [.d (opsD m.rules[i].guard), .val y.2.v], rowE q.v 71 2 Ru.cells (m.rules.take i), .cells bo 25 [.d (varsD m.vars), .val q.v], .cells bm 25 [.d (varsD m.vars), .d (rulesD m.rules)], .cells bt 25 [.val (.slice none 0 0), .val (.slice none 0 0)]]) (fun y => y.1 ≤ m.rules[i].sets.length) (fun y => m.rules[i].sets.length - y.1) (0, Sl.nil) (Nat.zero_le _) (VS.take (by ((repeat (first | exact Take.nil | ((with_reducible apply Take.cons); (focus ((repeat (first | exact Sel.here | with_reducible apply Sel.there)); done))))); done)) ?_) ?_
    · repeat (first
        | exact Env.le_nil _
        | refine Env.le_cons (AV.le_refl _) ?_
        | refine Env.le_cons (AV.le_int rfl (by first | rfl | omega | (dsimp only; omega))) ?_)
    rintro ⟨k, p⟩ k1
    dsimp only at k1 ⊢
    have hlen2 : (m.rules[i].sets.take k).length = k := by rw [List.length_take]; omega
    by_cases hk : k < m.rules[i].sets.length
    · have et : m.rules[i].sets.take k ++ [m.rules[i].sets[k]] = m.rules[i].sets.take (k + 1) := (List.take_succ_eq_append_getElem hk).symm
      all_goals haveI fA_ : FlagA := ⟨⟩
      all_goals haveI fH_ : FlagH := ⟨⟩
      all_goals haveI fS_ : StopAt 2 := ⟨⟩
      repeat' (first
        | ((with_reducible apply call0); (focus rfl); (focus exact cal_ops); (focus exact opsU _ _); (focus rfl))
        | ((with_reducible apply je_call0); (focus rfl); (focus (decide +kernel)); (focus rfl); (focus exact cal_ops); (focus exact opsU _ _); (focus rfl))
        | exact True.intro
        | refine stp ?_
        | refine two ?_ ?_
        | refine allc fun c_ => ?_
        | (refine imp fun hc => ?_) <;> try (first | contradiction | (exfalso; omega))
        | refine all fun v_ => ?_)
      all_goals clear fA_ fH_ fS_
      refine ⟨?_⟩
      refine J_region_HB [rowE p.v 73 2 St.cells (m.rules[i].sets.take k)] mixed rfl (by (repeat ((with_reducible apply Hd.cons); (focus rfl))); exact Hd.nil) (by (repeat (with_reducible apply len_cons)); exact len_nil) (by decide +kernel) (by ((repeat (first | with_reducible exact Take.nil | ((with_reducible apply Take.cons); (focus ((repeat (first | with_reducible exact Sel.here | with_reducible apply Sel.there)); done))))); done)) ?_
      all_goals haveI fA_ : FlagA := ⟨⟩
      all_goals haveI fH_ : FlagH := ⟨⟩
      repeat' (first
        | ((with_reducible apply call0); (focus rfl); (focus exact cal_ops); (focus exact opsU _ _); (focus rfl))
        | ((with_reducible apply je_call0); (focus rfl); (focus (decide +kernel)); (focus rfl); (focus exact cal_ops); (focus exact opsU _ _); (focus rfl))
        | ((with_reducible apply (jbuild_agg (cs := St.cells (m.rules[i].sets[k])))); (focus rfl); (focus rfl); (focus (with_reducible exact ElC.h)); (focus rfl); (focus rfl); (focus rfl); (focus rfl); (focus rfl))
        | exact True.intro
        | refine stp ?_
        | refine two ?_ ?_
        | refine allc fun c_ => ?_
        | (refine imp fun hc => ?_) <;> try (first | contradiction | (exfalso; omega) | (exfalso; exact absurd (of_dT hc) (by assumption)) | (exfalso; exact of_dF hc (by assumption)))
        | refine all fun v_ => ?_)
      all_goals clear fA_ fH_
      refine ⟨(k + 1, v_), by dsimp only; omega, by dsimp only; omega, ?_⟩
      dsimp only
      rw [← et]
      refine VS.take (by ((repeat (first | exact Take.nil | ((with_reducible apply Take.cons); (focus ((repeat (first | exact Sel.here | with_reducible apply Sel.there)); done))))); done)) ?_
      repeat (first
        | exact Env.le_nil _
        | refine Env.le_cons (AV.le_refl _) ?_
        | refine Env.le_cons (AV.le_int rfl (by first | rfl | omega | (dsimp only; omega))) ?_)
    obtain rfl : k = m.rules[i].sets.length := by omega
    rw [List.take_length]
    have et : m.rules.take i ++ [m.rules[i]] = m.rules.take (i + 1) := (List.take_succ_eq_append_getElem hi).symm
    refine J_vs (vdat (h1 := []) (h' := [.cells v_ 71 [.d (opsD m.rules[i].guard), .d (setsD m.rules[i].sets)], rowE q.v 71 2 Ru.cells (m.rules.take i), .cells bo 25 [.d (varsD m.vars), .val q.v], .cells bm 25 [.d (varsD m.vars), .d (rulesD m.rules)], .cells bt 25 [.val (.slice none 0 0), .val (.slice none 0 0)]]) 32 rfl rfl (fun _ => rfl) hlsi (CvE.refl _ _ _) (CvH.cells (.cons (.same _) (.cons .here .nil)) (.refl _))) ?_
    all_goals haveI fA_ : FlagA := ⟨⟩
    all_goals haveI fH_ : FlagH := ⟨⟩
    repeat' (first
      | ((with_reducible apply call0); (focus rfl); (focus exact cal_ops); (focus exact opsU _ _); (focus rfl))
      | ((with_reducible apply je_call0); (focus rfl); (focus (decide +kernel)); (focus rfl); (focus exact cal_ops); (focus exact opsU _ _); (focus rfl))
      | ((with_reducible apply (jbuild_agg (cs := Ru.cells m.rules[i]))); (focus rfl); (focus rfl); (focus (with_reducible exact ElC.h)); (focus rfl); (focus rfl); (focus rfl); (focus rfl); (focus rfl))
      | ((with_reducible apply (japU1 (f := Ru.cells) (u := m.rules[i]))); (focus rfl); (focus rfl); (focus (with_reducible exact ElC.h)); (focus (intro q_; (repeat (first | with_reducible exact Upd.here | with_reducible apply Upd.there)); done)); (focus rfl); (focus rfl); (focus rfl); (focus rfl); (focus (first | omega | (simp only [List.length_map, List.length_range, List.length_append, List.length_cons, List.length_nil, List.length_take, List.length_drop, List.length_set, List.length_replicate]; omega))); (focus (first | omega | (simp only [List.length_map, List.length_range, List.length_append, List.length_cons, List.length_nil, List.length_take, List.length_drop, List.length_set, List.length_replicate]; omega))))
      | exact True.intro
      | refine stp ?_
      | refine two ?_ ?_
      | refine allc fun c_ => ?_
      | (refine imp fun hc => ?_) <;> try (first | contradiction | (exfalso; omega) | (exfalso; exact absurd (of_dT hc) (by assumption)) | (exfalso; exact of_dF hc (by assumption)))
      | refine all fun v_ => ?_)
    all_goals clear fA_ fH_
    refine ⟨(i + 1, v_), by dsimp only; omega, by dsimp only; omega, ?_⟩
    dsimp only
    rw [← et]
    refine VS.take (by ((repeat (first | exact Take.nil | ((with_reducible apply Take.cons); (focus ((repeat (first | exact Sel.here | with_reducible apply Sel.there)); done))))); done)) ?_
    repeat (first
      | exact Env.le_nil _
      | refine Env.le_cons (AV.le_refl _) ?_
      | refine Env.le_cons (AV.le_int rfl (by first | rfl | omega | (dsimp only; omega))) ?_)
  obtain rfl : i = m.rules.length := by omega
  rw [List.take_length]
  refine J_vs (vdat (h1 := []) (h' := [.cells v_ 25 [.d (varsD m.vars), .d (rulesD m.rules)], .cells bm 25 [.d (varsD m.vars), .d (rulesD m.rules)], .cells bt 25 [.val (.slice none 0 0), .val (.slice none 0 0)]]) 48 rfl rfl (fun _ => rfl) hlr (CvE.refl _ _ _) (CvH.cells (.cons (.same _) (.cons .here .nil)) (.refl _))) ?_
  all_goals haveI fA_ : FlagA := ⟨⟩
  all_goals haveI fH_ : FlagH := ⟨⟩
  repeat' (first
    | exact True.intro
    | refine stp ?_
    | refine two ?_ ?_
    | refine allc fun c_ => ?_
    | (refine imp fun hc => ?_) <;> try (first | contradiction | (exfalso; omega) | (exfalso; exact absurd (of_dT hc) (by assumption)) | (exfalso; exact of_dF hc (by assumption)))
    | refine all fun v_ => ?_)
  all_goals clear fA_ fH_
  exact retr0 (xs := [mdA m]) ⟨rv_agg rfl (by (with_reducible exact ElC.h)) rfl (by ((repeat (first | exact List.mem_cons_self | apply List.mem_cons_of_mem)); done)) rfl, trivial⟩ rfl (h' := []) (List.nil_sublist _) (ret_eq rfl)
end Go.Proofs.YtmamiihpghnmmaaDoor
namespace Go.Proofs.YtmamiihpghnmmaaDoor
open Go Go.Av Go.Sp Go.ChangeShapes Go.WideShapes Go.ChangeAt Go.RowKit
set_option linter.unusedVariables false
set_option linter.unusedSimpArgs false
set_option maxRecDepth 100000
set_option maxHeartbeats 4000000

abbrev laidRow := Rows.productChecksRow
theorem own : ownKnob Tryd.prog.godebug = none := by kernel_rfl
theorem laidOutAll : laidOutB Tryd.prog = true := by kernel_rfl
theorem gTab : Tryd.prog.globalNamed "foretell/polish.parts" = some 0 := by kernel_rfl
theorem gTabType : (Tryd.prog.globals[0]?).map (·.type) = some 154 := by kernel_rfl
theorem cellsTab : Tryd.prog.cellsOf 154 = 19 := by kernel_rfl
theorem cellsInt : Tryd.prog.cellsOf 3 = 1 := by kernel_rfl
def partsZ : List Int := [-1, 0, 0, 2, 2, 2, 2, 2, 2, 2, 1, 0, 0, 0, 1, 2, 2, 1, 1]
theorem table {W : World} (h : laidMetH Tryd.prog laidRow.laid W) : Lib.TabIs Tryd.prog W "foretell/polish.parts" .i64 partsZ :=
  Lib.tabIs_of_head (rest := []) gTab gTabType Tryd.underlying154 Tryd.underlying3 cellsInt cellsTab h

theorem globPD {W : World} (h : laidMetH Tryd.prog laidRow.laid W) : ∀ q ∈ GP, PD W (fun b => b < W.heap.size) q.2 ⟨q.1, 0, none⟩ := by
  intro q hq
  obtain rfl : q = (0, partsT) := by simpa [GP] using hq
  have hc : ∀ (i : Nat) (hi : i < partsZ.length), W.cell? ⟨0, i, none⟩ = some (.int .i64 partsZ[i]) := fun i hi => by simpa [List.getElem?_eq_getElem hi] using (table h).cell gTab i hi
  refine ⟨World.block_lt_of_cell? _ _ (hc 0 (by decide)), fun u x hx => ?_⟩
  have hu : u < partsZ.length := by
    have := (List.getElem?_eq_some_iff.1 hx).1
    simpa [partsT, partsZ] using this
  have e : partsT[u]? = some (.i .i64 partsZ[u]) := by
    have : partsT = partsZ.map fun n => D.i .i64 n := rfl
    rw [this, List.getElem?_map, List.getElem?_eq_getElem hu]; rfl
  rw [e] at hx
  cases hx
  exact ⟨_, by rw [Addr.add_lit, Nat.zero_add]; exact hc u hu, .i _ _⟩

noncomputable def laidWorld (os : Os) : World :=
  { World.holding Tryd.prog os ⟨#[], #[], []⟩ with heap := (World.holding Tryd.prog os ⟨#[], #[], []⟩).heap.modify 0 fun
      | .cells _ t frozen => .cells (partsZ.map fun n => Value.int .i64 n).toArray t frozen
      | o => o }
end Go.Proofs.YtmamiihpghnmmaaDoor
namespace Go.Sp
open Go.Av
set_option linter.unusedVariables false
set_option linter.unusedSimpArgs false

structure Gn where
  spots : List Fo
  init : Nat
  next : List (List Nat)
  sets : List Nat
  many : Nat
def Gn.nx (g : Gn) (i : Nat) : List Nat := (g.next[i]?).getD []
inductive Rch (nx : Nat → List Nat) : Nat → Nat → Prop where
  | refl (i : Nat) : Rch nx i i
  | step {i j k : Nat} (h : Rch nx i j) (e : k ∈ nx j) : Rch nx i k
theorem Rch.one {nx : Nat → List Nat} {i j : Nat} (e : j ∈ nx i) : Rch nx i j := .step (.refl i) e
theorem Rch.closed {nx : Nat → List Nat} {S : Nat → Prop} (hS : ∀ i, S i → ∀ k ∈ nx i, S k) {i j : Nat} (h : Rch nx i j) (hi : S i) : S j := by
  induction h with
  | refl => exact hi
  | step _ e ih => exact hS _ ih _ e
end Go.Sp
namespace Go.Sp
open Go.Av
set_option linter.unusedVariables false
set_option linter.unusedSimpArgs false

def gi (l : List Int) (i : Nat) : Int := (l[i]?).getD 0
theorem gi_get (l : List Int) (i : Nat) (h : i < l.length) : gi l i = l[i] := by simp [gi, List.getElem?_eq_getElem h]
theorem gi_out (l : List Int) (i : Nat) (h : l.length ≤ i) : gi l i = 0 := by simp [gi, List.getElem?_eq_none h]
theorem gi_set (l : List Int) (i j : Nat) (v : Int) (h : i < l.length) : gi (l.set i v) j = if j = i then v else gi l j := by
  unfold gi
  by_cases e : j = i
  · subst e; rw [if_pos rfl, List.getElem?_set_self h]; rfl
  · rw [if_neg e, List.getElem?_set_ne (Ne.symm e)]

structure TS where
  order : List Int
  low : List Int
  part : List Int
  opn : List Nat
  calls : List (Nat × Nat)
  met : Nat

abbrev TS.F (s : TS) : List Nat := s.calls.map Prod.fst
def TS.done (nx : Nat → List Nat) (s : TS) (v w : Nat) : Prop := w ∈ nx v ∧ ∀ j, (v, j) ∈ s.calls → w ∈ (nx v).take j
def isLeast (nx : Nat → List Nat) (v : Nat) (m : Int) : Prop := ∃ k : Nat, m = k ∧ Rch nx v k ∧ Rch nx k v ∧ ∀ u, Rch nx v u → Rch nx u v → k ≤ u

structure TInv (nx : Nat → List Nat) (n : Nat) (x : Option Nat) (s : TS) : Prop where
  lo : s.order.length = n
  ll : s.low.length = n
  lp : s.part.length = n
  om : ∀ v, 0 ≤ gi s.order v ∧ gi s.order v ≤ s.met
  pw : s.opn.Pairwise (fun a b => gi s.order a < gi s.order b)
  mem : ∀ v, v ∈ s.opn ↔ gi s.order v ≠ 0 ∧ gi s.part v < 0
  fpw : s.F.Pairwise (fun a b => gi s.order a < gi s.order b)
  fin : ∀ c ∈ s.F, c ∈ s.opn
  fj : ∀ p ∈ s.calls, p.2 ≤ (nx p.1).length
  bot : s.opn.head? = s.F.head?
  vis : ∀ v w, gi s.order v ≠ 0 → s.done nx v w → gi s.order w ≠ 0 ∨ x = some w
  dsc : ∀ c ∈ s.F, ∀ v ∈ s.opn, gi s.order c ≤ gi s.order v → Rch nx c v
  cls : ∀ v, gi s.order v ≠ 0 → 0 ≤ gi s.part v → ∀ w ∈ nx v, gi s.order w ≠ 0 ∧ 0 ≤ gi s.part w
  prt : ∀ v, gi s.order v ≠ 0 → 0 ≤ gi s.part v → isLeast nx v (gi s.part v)
  lwr : ∀ v ∈ s.opn, ∃ w ∈ s.opn, gi s.order w = gi s.low v ∧ Rch nx v w
  lwf : ∀ v ∈ s.opn, gi s.low v ≤ gi s.order v ∧ (v ∉ s.F → gi s.low v < gi s.order v)
  anc : ∀ c ∈ s.F, ∀ v ∈ s.opn, gi s.order c ≤ gi s.order v → (∀ q ∈ s.F, gi s.order q ≤ gi s.order v → gi s.order q ≤ gi s.order c) →
    gi s.low c ≤ gi s.low v ∧ ∀ w, s.done nx v w → w ∈ s.opn → gi s.low c ≤ gi s.order w
  pn : ∀ v, v < n → gi s.order v = 0 → gi s.part v = -1

section
variable {nx : Nat → List Nat} {n : Nat} {x : Option Nat} {s : TS}

theorem TInv.lt (t : TInv nx n x s) {v : Nat} (h : gi s.order v ≠ 0) : v < n := by
  rcases Nat.lt_or_ge v n with h' | h'
  · exact h'
  · exact absurd (gi_out s.order v (by rw [t.lo]; exact h')) h

theorem calls_last {p : Nat × Nat} (h : s.calls.getLast? = some p) : s.calls = s.calls.dropLast ++ [p] := by
  obtain ⟨ys, e⟩ := List.getLast?_eq_some_iff.1 h
  rw [e]; simp
theorem last_mem {p : Nat × Nat} (h : s.calls.getLast? = some p) : p ∈ s.calls := by rw [calls_last h]; simp
end
end Go.Sp
namespace Go.Sp
open Go.Av
set_option linter.unusedVariables false
set_option linter.unusedSimpArgs false
section
variable {nx : Nat → List Nat} {n : Nat} {x : Option Nat} {s : TS}

structure AtEnd (nx : Nat → List Nat) (n : Nat) (s : TS) (a : Nat) : Prop where
  inv : TInv nx n none s
  last : ∃ p, s.calls.getLast? = some p ∧ p.1 = a ∧ p.2 = (nx a).length
namespace AtEnd
set_option linter.unusedVariables false
set_option linter.unusedSimpArgs false
variable {a : Nat}
theorem aF (t : AtEnd nx n s a) : a ∈ s.F := by
  obtain ⟨p, h, e, _⟩ := t.last
  rw [← e]; exact List.mem_map.2 ⟨p, last_mem h, rfl⟩
theorem ao (t : AtEnd nx n s a) : a ∈ s.opn := t.inv.fin a t.aF
theorem an (t : AtEnd nx n s a) : a < n := t.inv.lt ((t.inv.mem a).1 t.ao).1
end AtEnd

theorem gi_rep (n i : Nat) : gi (List.replicate n 0) i = 0 := by
  unfold gi; rw [List.getElem?_replicate]; split <;> rfl
end
end Go.Sp
namespace Go.Sp
open Go.Av
set_option linter.unusedVariables false
set_option linter.unusedSimpArgs false

end Go.Sp
namespace Go.Sp
open Go.Av
set_option linter.unusedVariables false
set_option linter.unusedSimpArgs false

def fromP (nx : Nat → List Nat) (fr : List Nat) (i : Nat) : Prop := ∃ j ∈ fr, Rch nx j i
noncomputable instance (nx : Nat → List Nat) (fr : List Nat) (i : Nat) : Decidable (fromP nx fr i) := Classical.propDecidable _
noncomputable def fromL (nx : Nat → List Nat) (n : Nat) (fr : List Nat) : List Bool := (List.range n).map fun i => decide (fromP nx fr i)
structure FI (nx : Nat → List Nat) (n : Nat) (fr : List Nat) (x : Option (Nat × Nat)) (st : List Int) : Prop where
  len : st.length = n
  val : ∀ v, gi st v = 0 ∨ gi st v = 1 ∨ gi st v = 2
  sound : ∀ v, gi st v ≠ 0 → fromP nx fr v
  init : ∀ v ∈ fr, gi st v ≠ 0
  cl : ∀ v, gi st v = 2 → ∀ (m : Nat) (hm : m < (nx v).length), (∀ j, x = some (v, j) → m < j) → gi st (nx v)[m] ≠ 0
def not2 : List Int → Nat
  | [] => 0
  | b :: l => (if b = 2 then 0 else 1) + not2 l
theorem not2_set2 : ∀ (l : List Int) (i : Nat) (h : i < l.length), l[i] ≠ 2 → not2 (l.set i 2) + 1 = not2 l
  | [], i, h, _ => by simp at h
  | b :: l, 0, _, h0 => by
    have : b ≠ 2 := h0
    simp [not2, this, Nat.add_comm]
  | b :: l, i + 1, h, h0 => by
    have ih := not2_set2 l i (by simpa using h) (by simpa using h0)
    simp only [List.set_cons_succ, not2]
    omega
theorem not2_set1 : ∀ (l : List Int) (i : Nat) (h : i < l.length), l[i] ≠ 2 → not2 (l.set i 1) = not2 l
  | [], i, h, _ => by simp at h
  | b :: l, 0, _, h0 => by
    have : b ≠ 2 := h0
    simp [not2, this]
  | b :: l, i + 1, h, h0 => by
    have ih := not2_set1 l i (by simpa using h) (by simpa using h0)
    simp only [List.set_cons_succ, not2]
    omega
section
variable {nx : Nat → List Nat} {n : Nat} {fr : List Nat} {st : List Int}
theorem FI.take {v : Nat} (t : FI nx n fr none st) (hv : gi st v = 1) : FI nx n fr (some (v, 0)) (st.set v 2) := by
  have hl : v < st.length := by
    rcases Nat.lt_or_ge v st.length with h | h
    · exact h
    · rw [gi_out _ _ h] at hv; cases hv
  refine ⟨by simp [t.len], fun w => ?_, fun w hw => ?_, fun w hw => ?_, fun w hw m hm hx => ?_⟩
  · rw [gi_set _ _ _ _ hl]; split
    · exact .inr (.inr rfl)
    · exact t.val w
  · rw [gi_set _ _ _ _ hl] at hw
    by_cases e : w = v
    · rw [e]; exact t.sound v (by omega)
    · rw [if_neg e] at hw; exact t.sound w hw
  · rw [gi_set _ _ _ _ hl]; split
    · decide
    · exact t.init w hw
  · by_cases e : w = v
    · have := hx 0 (by rw [e]); omega
    · rw [gi_set _ _ _ _ hl, if_neg e] at hw
      have := t.cl w hw m hm fun j h => by cases h
      rw [gi_set _ _ _ _ hl]; split
      · decide
      · exact this
def markF (st : List Int) (w : Nat) : List Int := if gi st w = 0 then st.set w 1 else st
theorem markF_length (st : List Int) (w : Nat) : (markF st w).length = st.length := by unfold markF; split <;> simp
theorem FI.mark {v j : Nat} (hn : ∀ i, ∀ k ∈ nx i, k < n) (t : FI nx n fr (some (v, j)) st) (hv : gi st v = 2) (hj : j < (nx v).length) : FI nx n fr (some (v, j + 1)) (markF st (nx v)[j]) ∧ gi (markF st (nx v)[j]) v = 2 ∧ not2 (markF st (nx v)[j]) = not2 st := by
  have hl : (nx v)[j] < st.length := by rw [t.len]; exact hn v _ (List.getElem_mem hj)
  have hkeep : ∀ w, gi st w ≠ 0 → gi (markF st (nx v)[j]) w = gi st w := fun w hw => by
    unfold markF; split
    · rename_i h0
      rw [gi_set _ _ _ _ hl, if_neg]
      intro e; rw [e] at hw; exact hw h0
    · rfl
  have hself : gi (markF st (nx v)[j]) (nx v)[j] ≠ 0 := by
    unfold markF; split
    · rw [gi_set _ _ _ _ hl, if_pos rfl]; decide
    · assumption
  have h2 : ∀ w, gi (markF st (nx v)[j]) w = 2 → gi st w = 2 := fun w hw => by
    unfold markF at hw; split at hw
    · rw [gi_set _ _ _ _ hl] at hw
      split at hw
      · cases hw
      · exact hw
    · exact hw
  refine ⟨⟨by rw [markF_length, t.len], fun w => ?_, fun w hw => ?_, fun w hw => ?_, fun w hw m hm hx => ?_⟩, ?_, ?_⟩
  · unfold markF; split
    · rw [gi_set _ _ _ _ hl]; split
      · exact .inr (.inl rfl)
      · exact t.val w
    · exact t.val w
  · by_cases e : w = (nx v)[j]
    · obtain ⟨a, h1, h3⟩ := t.sound v (by omega)
      rw [e]; exact ⟨a, h1, .step h3 (List.getElem_mem hj)⟩
    · refine t.sound w ?_
      unfold markF at hw; split at hw
      · rw [gi_set _ _ _ _ hl, if_neg e] at hw; exact hw
      · exact hw
  · rw [hkeep w (t.init w hw)]; exact t.init w hw
  · by_cases e : w = v ∧ m = j
    · obtain ⟨rfl, rfl⟩ := e; exact hself
    · have := t.cl w (h2 w hw) m hm fun i hi => by
        cases hi
        have := hx (j + 1) rfl
        have : m ≠ j := fun h => e ⟨rfl, h⟩
        omega
      rw [hkeep _ this]; exact this
  · rw [hkeep v (by omega)]; exact hv
  · unfold markF; split
    · rename_i h0
      exact not2_set1 _ _ hl (by rw [← gi_get _ _ hl, h0]; decide)
    · rfl
theorem FI.done {v : Nat} (t : FI nx n fr (some (v, (nx v).length)) st) : FI nx n fr none st :=
  { t with cl := fun w hw m hm _ => t.cl w hw m hm fun j h => by cases h; exact hm }
theorem FI.all (t : FI nx n fr none st) (h1 : ∀ i, i < n → gi st i ≠ 1) (hn : ∀ i, ∀ k ∈ nx i, k < n) : st.map (fun s => decide (0 < s)) = fromL nx n fr := by
  refine List.ext_getElem (by simp [fromL, t.len]) fun i h2 h3 => ?_
  have hi : i < st.length := by simpa using h2
  have e : (fromL nx n fr)[i] = decide (fromP nx fr i) := by simp [fromL]
  rw [e, List.getElem_map, ← gi_get _ _ hi]
  have h02 : ∀ v, gi st v ≠ 0 → gi st v = 2 := fun v hv => by
    have hvn : v < n := by
      rcases Nat.lt_or_ge v st.length with h | h
      · rw [t.len] at h; exact h
      · rw [gi_out _ _ h] at hv; exact absurd rfl hv
    rcases t.val v with h | h | h
    · exact absurd h hv
    · exact absurd h (h1 v hvn)
    · exact h
  have key : gi st i ≠ 0 ↔ fromP nx fr i := by
    refine ⟨t.sound i, fun ⟨j, hj, hr⟩ => ?_⟩
    refine Rch.closed (S := fun v => gi st v ≠ 0) (fun v hv w hw => ?_) hr (t.init j hj)
    obtain ⟨m, hm, rfl⟩ := List.getElem_of_mem hw
    exact t.cl v (h02 v hv) m hm fun _ h => by cases h
  have hval := t.val i
  by_cases h : fromP nx fr i
  · have := key.2 h
    rw [decide_eq_true h, decide_eq_true (by omega)]
  · have : ¬ gi st i ≠ 0 := fun hh => h (key.1 hh)
    rw [decide_eq_false h, decide_eq_false (by omega)]
end
end Go.Sp
namespace Go.Sp
open Go Go.Av
set_option linter.unusedVariables false
set_option linter.unusedSimpArgs false

end Go.Sp
namespace Go.Sp
open Go Go.Av
set_option linter.unusedVariables false
set_option linter.unusedSimpArgs false

structure La where
  stop : Nat → Bool
  val : Nat → Bool
  nxt : Nat → Nat
  base : Bool
def La.step (a : La) (i : Nat) (x : Bool) : Bool := if a.stop i then a.val i else x
def La.up (a : La) : Nat → Nat → Bool
  | 0, _ => a.base
  | k + 1, i => a.step i (a.up k (a.nxt i))
theorem La.step_mono (a : La) {i : Nat} (h : a.step i a.base ≠ a.base) (x : Bool) : a.step i x ≠ a.base := by
  unfold La.step at h ⊢
  by_cases c : a.stop i
  · rw [if_pos c] at h ⊢; exact h
  · rw [if_neg c] at h; exact absurd rfl h
structure La.On (a : La) (row : Nat → Bool) : Prop where
  sound : ∀ i, row i ≠ a.base → ∃ k, a.up k i ≠ a.base
  fore : ∀ i, row i ≠ a.base → a.step i (row (a.nxt i)) ≠ a.base
theorem bool_ne {a b c : Bool} (h : a ≠ c) (h' : b ≠ c) : a = b := by revert h h'; cases a <;> cases b <;> cases c <;> decide
theorem La.rest {a : La} {row : Nat → Bool} {N : Nat} (hcl : ∀ i, i < N → a.nxt i < N) (h : ∀ i, i < N → row i = a.step i (row (a.nxt i))) : ∀ (k i : Nat), i < N → a.up k i ≠ a.base → row i ≠ a.base
  | 0, _, _, hk => absurd rfl hk
  | k + 1, i, hi, hk => by
    rw [h i hi]
    rw [La.up] at hk
    by_cases c : a.up k (a.nxt i) = a.base
    · rw [c] at hk; exact a.step_mono hk _
    · rw [bool_ne (La.rest hcl h k _ (hcl i hi) c) c]; exact hk
theorem La.On.done {a : La} {row : Nat → Bool} {N : Nat} (h : a.On row) (hcl : ∀ i, i < N → a.nxt i < N) (hr : ∀ i, i < N → row i = a.step i (row (a.nxt i))) {i : Nat} (hi : i < N) : row i ≠ a.base ↔ ∃ k, a.up k i ≠ a.base :=
  ⟨h.sound i, fun ⟨k, hk⟩ => La.rest hcl hr k i hi hk⟩
def La.itr (a : La) : Nat → Nat → Nat
  | 0, i => i
  | k + 1, i => a.itr k (a.nxt i)
theorem La.itr_add (a : La) : ∀ (j k i : Nat), a.itr (j + k) i = a.itr k (a.itr j i)
  | 0, k, i => by rw [Nat.zero_add]; rfl
  | j + 1, k, i => by rw [Nat.succ_add]; exact La.itr_add a j k (a.nxt i)
theorem La.up_skip (a : La) : ∀ (j m i : Nat), (∀ j', j' < j → ¬ a.stop (a.itr j' i)) → a.up (j + m) i = a.up m (a.itr j i)
  | 0, m, i, _ => by rw [Nat.zero_add]; rfl
  | j + 1, m, i, h => by
    have h0 : ¬ a.stop i := h 0 (by omega)
    rw [Nat.succ_add, La.up, La.step, if_neg h0]
    exact La.up_skip a j m (a.nxt i) fun j' hj => h (j' + 1) (by omega)
theorem La.up_first (a : La) : ∀ (k i : Nat), a.up k i ≠ a.base → ∃ j, j < k ∧ a.stop (a.itr j i) ∧ ∀ j', j' < j → ¬ a.stop (a.itr j' i)
  | 0, _, h => absurd rfl h
  | k + 1, i, h => by
    by_cases c : a.stop i
    · exact ⟨0, by omega, c, fun _ h => by omega⟩
    · rw [La.up, La.step, if_neg c] at h
      obtain ⟨j, h1, h2, h3⟩ := La.up_first a k (a.nxt i) h
      refine ⟨j + 1, by omega, h2, fun j' hj => ?_⟩
      cases j' with
      | zero => exact c
      | succ j' => exact h3 j' (by omega)
theorem La.up_all (a : La) (N i : Nat) (hc : ∀ k, ∃ k', k' ≤ k ∧ k' ≤ N ∧ a.itr k' i = a.itr k i) : (∃ k, a.up k i ≠ a.base) ↔ a.up (N + 1) i ≠ a.base := by
  refine ⟨fun ⟨k, hk⟩ => ?_, fun h => ⟨_, h⟩⟩
  obtain ⟨j, h1, h2, h3⟩ := a.up_first k i hk
  obtain ⟨j', k1, k2, k3⟩ := hc j
  have hj : j ≤ N := by
    by_cases e : j' = j
    · omega
    · exact absurd (k3 ▸ h2) (h3 j' (by omega))
  obtain ⟨m, rfl⟩ : ∃ m, k = j + (m + 1) := ⟨k - j - 1, by omega⟩
  rw [La.up_skip a j (m + 1) i h3, La.up, La.step, if_pos h2] at hk
  rw [show N + 1 = j + ((N - j) + 1) by omega, La.up_skip a j _ i h3, La.up, La.step, if_pos h2]
  exact hk
def wnx (s N i : Nat) : Nat := if i + 1 < N then i + 1 else s
theorem La.itr_succ (a : La) (k i : Nat) : a.itr (k + 1) i = a.nxt (a.itr k i) := by rw [La.itr_add a k 1 i]; rfl
theorem La.itr_lt (a : La) {s N : Nat} (hn : a.nxt = wnx s N) (hs : s < N) {i : Nat} (hi : i < N) : ∀ k, a.itr k i < N
  | 0 => hi
  | k + 1 => by rw [La.itr_succ, hn, wnx]; split <;> omega
theorem La.itr_ge (a : La) {s N : Nat} (hn : a.nxt = wnx s N) (i : Nat) : ∀ k, i + k ≤ a.itr k i ∨ s ≤ a.itr k i
  | 0 => .inl (Nat.le_refl _)
  | k + 1 => by
    rw [La.itr_succ, hn, wnx]
    rcases La.itr_ge a hn i k with h | h <;> split <;> omega
theorem La.itr_loop (a : La) {s N : Nat} (hn : a.nxt = wnx s N) (hs : s < N) {p : Nat} (hp : s ≤ p) (hp' : p < N) : ∀ j, j ≤ N - s → a.itr j p = if p + j < N then p + j else p + j - (N - s)
  | 0, _ => by simp [La.itr, hp']
  | j + 1, hj => by
    rw [La.itr_succ, La.itr_loop a hn hs hp hp' j (by omega), hn, wnx]
    by_cases c1 : p + j < N
    · rw [if_pos c1]
      by_cases c2 : p + j + 1 < N
      · rw [if_pos c2, if_pos (by omega)]; omega
      · rw [if_neg c2, if_neg (by omega)]; omega
    · rw [if_neg c1, if_pos (by omega), if_neg (by omega)]; omega
theorem La.cover (a : La) {s N : Nat} (hn : a.nxt = wnx s N) (hs : s < N) {i : Nat} (hi : i < N) (k : Nat) : ∃ k', k' ≤ k ∧ k' ≤ N ∧ a.itr k' i = a.itr k i := by
  induction k using Nat.strongRecOn with
  | ind k ih =>
    by_cases c : k ≤ N
    · exact ⟨k, Nat.le_refl _, c, rfl⟩
    obtain ⟨k', h1, h2, h3⟩ := ih (k - (N - s)) (by omega)
    have hg : s ≤ a.itr (k - (N - s)) i := by have := La.itr_ge a hn i (k - (N - s)); omega
    have hl := La.itr_loop a hn hs hg (La.itr_lt a hn hs hi _) (N - s) (Nat.le_refl _)
    rw [← La.itr_add, if_neg (by omega), show k - (N - s) + (N - s) = k by omega] at hl
    exact ⟨k', by omega, h2, by rw [h3, hl]; omega⟩
theorem La.On.scan {a : La} {row : Nat → Bool} {s N : Nat} (h : a.On row) (hr : ∀ i, i < N → row i = a.step i (row (a.nxt i))) (hn : a.nxt = wnx s N) (hs : s < N) {i : Nat} (hi : i < N) : row i = a.up (N + 1) i := by
  have hcl : ∀ i, i < N → a.nxt i < N := fun i hi => by rw [hn, wnx]; split <;> omega
  have e := (h.done hcl hr hi).trans (a.up_all N i (a.cover hn hs hi))
  by_cases c : row i = a.base
  · by_cases c' : a.up (N + 1) i = a.base
    · rw [c, c']
    · exact absurd c (e.2 c')
  · exact bool_ne c (e.1 c)
end Go.Sp
namespace Go.Sp
open Go Go.Av
set_option linter.unusedVariables false
set_option linter.unusedSimpArgs false

def rd (row : List Bool) (b : Bool) (i : Nat) : Bool := (row[i]?).getD b
theorem rd_at {row : List Bool} {b : Bool} {i : Nat} (h : i < row.length) : rd row b i = row[i] := by unfold rd; rw [List.getElem?_eq_getElem h]; rfl
abbrev RowOn (a : La) (row : List Bool) : Prop := a.On (rd row a.base)
theorem RowOn.scan {a : La} {row : List Bool} {s : Nat} (h : RowOn a row) (hn : a.nxt = wnx s row.length) (hs : s < row.length) (hr : ∀ (i : Nat) (hi : i < row.length) (hi' : a.nxt i < row.length), row[i] = a.step i row[a.nxt i]) : ∀ (i : Nat) (h : i < row.length), row[i] = a.up (row.length + 1) i := by
  intro i hi
  have := La.On.scan (N := row.length) h (fun i hi => by
    have hx : a.nxt i < row.length := by rw [hn, wnx]; split <;> omega
    rw [rd_at hi, rd_at hx]; exact hr i hi hx) hn hs hi
  rw [rd_at hi] at this
  exact this
theorem Cvs.at (v : Value) (d : D) : ∀ (R : List AV) (i : Nat), Cvs v d (R.set i (.val v)) (R.set i (.d d))
  | [], _ => .nil
  | x :: R, 0 => .cons .here (Cvs.refl v d R)
  | x :: R, i + 1 => .cons (.same x) (Cvs.at v d R i)
end Go.Sp
namespace Go.Proofs.YtmamiihpghnmmaaDoor
open Go Go.Av Go.Sp
set_option linter.unusedVariables false
set_option linter.unusedSimpArgs false
set_option maxRecDepth 100000
set_option maxHeartbeats 4000000

end Go.Proofs.YtmamiihpghnmmaaDoor
namespace Go.Sp
open Go Go.Av
set_option linter.unusedVariables false
set_option linter.unusedSimpArgs false
def inits (m : Md) : List Int := m.vars.map Vr.init
end Go.Sp
namespace Go.Proofs.YtmamiihpghnmmaaDoor
open Go Go.Av Go.Sp
set_option linter.unusedVariables false
set_option linter.unusedSimpArgs false
set_option maxRecDepth 100000
set_option maxHeartbeats 4000000

theorem cal_First : Cal Tryd.prog 48 := Cal.of Tryd.func48 (by kernel_rfl) (by kernel_rfl)
theorem cal_FirstCode : Cal Tryd.prog 51 := Cal.of Tryd.func51 (by kernel_rfl) (by kernel_rfl)
theorem First (m : Md) : ACr Tryd.prog GP 48 [mdA m] (.tup [.int (codeF m (inits m)).1, .int (codeF m (inits m)).2]) := by
  refine AC.factI (f := Vr.cells) (xs := m.vars) (.agg .here) fun hlv => ?_
  refine AC_ofV (ts := [2, 3]) Tryd.f48.ntmps Tryd.func48 rfl rfl rfl (by simp [Tryd.ntmps48]) fun W I => ?_
  have hin : (inits m).length = m.vars.length := by simp [inits]
  all_goals haveI fA_ : FlagA := ⟨⟩
  all_goals haveI fH_ : FlagH := ⟨⟩
  repeat' (first
    | exact True.intro
    | refine stp ?_
    | refine two ?_ ?_
    | refine allc fun c_ => ?_
    | (refine imp fun hc => ?_) <;> try (first | contradiction | (exfalso; omega) | (exfalso; exact absurd (of_dT hc) (by assumption)) | (exfalso; exact of_dF hc (by assumption)))
    | refine all fun v_ => ?_)
  all_goals clear fA_ fH_
  obtain ⟨bm, rfl⟩ : ∃ x, x = v_ := ⟨v_, rfl⟩
  refine jrow (E := 3) (sz := 1) intC ?_
  refine J_loopV (X := Nat × Sl) (fun y => [(1, .val (.pointer (some ⟨bm, 0, none⟩))), (4, .val y.2.v), (8, .d (varsD m.vars)), (9, .int m.vars.length), (10, .int y.1)]) (fun y => [rowE y.2.v 3 1 intC ((inits m).take y.1), .cells bm 25 [.d (varsD m.vars), .d (rulesD m.rules)]]) (fun y => y.1 ≤ m.vars.length) (fun y => m.vars.length - y.1) (0, Sl.nil) (Nat.zero_le _) (VS.of_le ?_) ?_
  · repeat (first
      | exact Env.le_nil _
      | refine Env.le_cons (AV.le_refl _) ?_
      | refine Env.le_cons (AV.le_int rfl (by first | rfl | omega | (dsimp only; omega))) ?_)
  rintro ⟨i, q⟩ h1
  dsimp only at h1 ⊢
  have hlen : ((inits m).take i).length = i := by rw [List.length_take]; omega
  by_cases hi : i < m.vars.length
  · have et : (inits m).take i ++ [m.vars[i].init] = (inits m).take (i + 1) := by rw [List.take_succ_eq_append_getElem (by omega)]; simp [inits]
    all_goals haveI fA_ : FlagA := ⟨⟩
    all_goals haveI fH_ : FlagH := ⟨⟩
    repeat' (first
      | exact True.intro
      | refine stp ?_
      | refine two ?_ ?_
      | refine allc fun c_ => ?_
      | (refine imp fun hc => ?_) <;> try (first | contradiction | (exfalso; omega) | (exfalso; exact absurd (of_dT hc) (by assumption)) | (exfalso; exact of_dF hc (by assumption)))
      | refine all fun v_ => ?_)
    all_goals clear fA_ fH_
    refine ⟨(i + 1, v_), by dsimp only; omega, by dsimp only; omega, ?_⟩
    dsimp only
    rw [← et]
    refine VS.take (by ((repeat (first | exact Take.nil | ((with_reducible apply Take.cons); (focus ((repeat (first | exact Sel.here | with_reducible apply Sel.there)); done))))); done)) ?_
    repeat (first
      | exact Env.le_nil _
      | refine Env.le_cons (AV.le_refl _) ?_
      | refine Env.le_cons (AV.le_int rfl (by first | rfl | omega | (dsimp only; omega))) ?_)
  obtain rfl : i = m.vars.length := by omega
  rw [List.take_of_length_le (by omega)]
  refine J_vs (vdat (h1 := []) (h' := [.cells bm 25 [.d (varsD m.vars), .d (rulesD m.rules)]]) 8 rfl rfl (fun _ => rfl) (by omega) (CvE.cons (t := 4) rfl .here (CvE.refl _ _ _)) (CvH.refl _)) ?_
  all_goals haveI fA_ : FlagA := ⟨⟩
  all_goals haveI fH_ : FlagH := ⟨⟩
  repeat' (first
    | ((with_reducible apply call0); (focus rfl); (focus exact cal_Code); (focus exact Code _ _); (focus rfl))
    | ((with_reducible apply je_call0); (focus rfl); (focus (decide +kernel)); (focus rfl); (focus exact cal_Code); (focus exact Code _ _); (focus rfl))
    | exact True.intro
    | refine stp ?_
    | refine two ?_ ?_
    | refine allc fun c_ => ?_
    | (refine imp fun hc => ?_) <;> try (first | contradiction | (exfalso; omega) | (exfalso; exact absurd (of_dT hc) (by assumption)) | (exfalso; exact of_dF hc (by assumption)))
    | refine all fun v_ => ?_)
  all_goals clear fA_ fH_
  refine retv (VS.drop (List.nil_sublist _)) ?_
  ((with_reducible apply rq2); rfl; rfl; rfl)
  exact ret_eq rfl
theorem FirstCode (G : List (Nat × List D)) (m : Md) : ACr Tryd.prog G 51 [mdA m] (.tup [.int (codeF m (inits m)).1, .int (codeF m (inits m)).2]) := by
  refine AC.factI (f := Vr.cells) (xs := m.vars) (.agg .here) fun hlv => ?_
  refine AC_ofV (ts := [2, 3]) Tryd.f51.ntmps Tryd.func51 rfl rfl rfl (by simp [Tryd.ntmps51]) fun W I => ?_
  have hin : (inits m).length = m.vars.length := by simp [inits]
  all_goals haveI fA_ : FlagA := ⟨⟩
  all_goals haveI fH_ : FlagH := ⟨⟩
  repeat' (first
    | exact True.intro
    | refine stp ?_
    | refine two ?_ ?_
    | refine allc fun c_ => ?_
    | (refine imp fun hc => ?_) <;> try (first | contradiction | (exfalso; omega) | (exfalso; exact absurd (of_dT hc) (by assumption)) | (exfalso; exact of_dF hc (by assumption)))
    | refine all fun v_ => ?_)
  all_goals clear fA_ fH_
  obtain ⟨bm, rfl⟩ : ∃ x, x = v_ := ⟨v_, rfl⟩
  refine jrow (E := 3) (sz := 1) intC ?_
  refine J_loopV (X := Nat × Sl) (fun y => [(1, .val (.pointer (some ⟨bm, 0, none⟩))), (4, .val y.2.v), (5, .int y.1)]) (fun y => [rowE y.2.v 3 1 intC ((inits m).take y.1), .cells bm 25 [.d (varsD m.vars), .d (rulesD m.rules)]]) (fun y => y.1 ≤ m.vars.length) (fun y => m.vars.length - y.1) (0, Sl.nil) (Nat.zero_le _) (VS.of_le ?_) ?_
  · repeat (first
      | exact Env.le_nil _
      | refine Env.le_cons (AV.le_refl _) ?_
      | refine Env.le_cons (AV.le_int rfl (by first | rfl | omega | (dsimp only; omega))) ?_)
  rintro ⟨i, q⟩ h1
  dsimp only at h1 ⊢
  have hlen : ((inits m).take i).length = i := by rw [List.length_take]; omega
  by_cases hi : i < m.vars.length
  · have et : (inits m).take i ++ [m.vars[i].init] = (inits m).take (i + 1) := by rw [List.take_succ_eq_append_getElem (by omega)]; simp [inits]
    all_goals haveI fA_ : FlagA := ⟨⟩
    all_goals haveI fH_ : FlagH := ⟨⟩
    repeat' (first
      | exact True.intro
      | refine stp ?_
      | refine two ?_ ?_
      | refine allc fun c_ => ?_
      | (refine imp fun hc => ?_) <;> try (first | contradiction | (exfalso; omega) | (exfalso; exact absurd (of_dT hc) (by assumption)) | (exfalso; exact of_dF hc (by assumption)))
      | refine all fun v_ => ?_)
    all_goals clear fA_ fH_
    refine ⟨(i + 1, v_), by dsimp only; omega, by dsimp only; omega, ?_⟩
    dsimp only
    rw [← et]
    refine VS.take (by ((repeat (first | exact Take.nil | ((with_reducible apply Take.cons); (focus ((repeat (first | exact Sel.here | with_reducible apply Sel.there)); done))))); done)) ?_
    repeat (first
      | exact Env.le_nil _
      | refine Env.le_cons (AV.le_refl _) ?_
      | refine Env.le_cons (AV.le_int rfl (by first | rfl | omega | (dsimp only; omega))) ?_)
  obtain rfl : i = m.vars.length := by omega
  rw [List.take_of_length_le (by omega)]
  refine J_vs (vdat (h1 := []) (h' := [.cells bm 25 [.d (varsD m.vars), .d (rulesD m.rules)]]) 8 rfl rfl (fun _ => rfl) (by omega) (CvE.cons (t := 4) rfl .here (CvE.refl _ _ _)) (CvH.refl _)) ?_
  all_goals haveI fA_ : FlagA := ⟨⟩
  all_goals haveI fH_ : FlagH := ⟨⟩
  repeat' (first
    | ((with_reducible apply call0); (focus rfl); (focus exact cal_CodeOf); (focus exact CodeOf _ _ _); (focus rfl))
    | ((with_reducible apply je_call0); (focus rfl); (focus (decide +kernel)); (focus rfl); (focus exact cal_CodeOf); (focus exact CodeOf _ _ _); (focus rfl))
    | exact True.intro
    | refine stp ?_
    | refine two ?_ ?_
    | refine allc fun c_ => ?_
    | (refine imp fun hc => ?_) <;> try (first | contradiction | (exfalso; omega) | (exfalso; exact absurd (of_dT hc) (by assumption)) | (exfalso; exact of_dF hc (by assumption)))
    | refine all fun v_ => ?_)
  all_goals clear fA_ fH_
  refine retv (VS.drop (List.nil_sublist _)) ?_
  ((with_reducible apply rq2); rfl; rfl; rfl)
  exact ret_eq rfl
end Go.Proofs.YtmamiihpghnmmaaDoor
