/- Contracts: polish's reader, polish.Ends. -/
import Derived.Test.YtmamiihpghnmmaaDoorT1
import Derived.RegionTactic
namespace Go.Proofs.YtmamiihpghnmmaaDoor
open Go Go.Av Go.Sp
set_option linter.unusedVariables false
set_option linter.unusedSimpArgs false
set_option maxRecDepth 100000
set_option maxHeartbeats 4000000

theorem cal_skip : Cal Tryd.prog 90 := Cal.of Tryd.func90 (by kernel_rfl) (by kernel_rfl)
theorem cal_Ends1 : Cal Tryd.prog 89 := Cal.of Tryd.func89 (by kernel_rfl) (by kernel_rfl)
theorem cal_Ends : Cal Tryd.prog 62 := Cal.of Tryd.func62 (by kernel_rfl) (by kernel_rfl)

theorem ends1_idle (p q : Addr) (w : World) :
    CallsD Tryd.prog 89 #[.pointer (some p), .pointer (some q)] .returning w fun e u' w' => e = .returned (.tuple #[]) ∧ u' = .returning ∧ w' = w := by
  refine callsD_of_wpS Tryd.func89 rfl fun c₀ cs hu => ?_
  apply wpS_seq
  apply wpS_region
  simp [wpOpsS, go_sem, recoverD, hu, Tryd.ntmps89, Exit.thenS]
  apply wpS_seq
  apply wpS_region
  simp [wpOpsS, go_sem, Exit.thenS]
  refine wpS_cond (t := false) (by simp [Act.eval, Array.replicate]) ?_
  simp only [Bool.false_eq_true, if_false]
  refine wpS_of_wp (wp_skip ?_)
  cases c₀
  simp_all [bodyPostS, results, Tryd.results89]

theorem ends1_pan (b c : Nat) (hbc : b ≠ c) (x y : Value) (n : Int) (w : World) (hb : w.heap[b]? = some (.cells #[x] 50 (0, 0))) (hc : w.heap[c]? = some (.cells #[y] 31 (0, 0))) :
    CallsD Tryd.prog 89 #[.pointer (some ⟨b, 0, none⟩), .pointer (some ⟨c, 0, none⟩)] (.panicking [{ v := .iface 31 (.int .i64 n), recovered := false }]) w fun e u' w' =>
      e = .returned (.tuple #[]) ∧ u' = .panicking [{ v := .iface 31 (.int .i64 n), recovered := true }] ∧ w' = ((w.setCell ⟨b, 0, none⟩ (.slice none 0 0)).setCell ⟨c, 0, none⟩ (.int .i64 n)).drew := by
  refine callsD_of_wpS Tryd.func89 rfl fun c₀ cs hu => ?_
  apply wpS_seq
  apply wpS_region
  simp [wpOpsS, go_sem, recoverD, hu, Tryd.ntmps89, Exit.thenS]
  apply wpS_seq
  apply wpS_region
  simp [wpOpsS, go_sem, Exit.thenS]
  refine wpS_cond (t := true) (by simp [Act.eval, Array.replicate]) ?_
  simp only [if_true]
  refine wpS_of_wp ?_
  have hcb : w.cell? ⟨b, 0, none⟩ = some x := by rw [cell_of_row w b 0 _ _ _ hb]; rfl
  have hcc : w.cell? ⟨c, 0, none⟩ = some y := by rw [cell_of_row w c 0 _ _ _ hc]; rfl
  have fb : w.frozen? ⟨b, 0, none⟩ = false := by simp [World.frozen?, hb]
  have fc : w.frozen? ⟨c, 0, none⟩ = false := by simp [World.frozen?, hc]
  have hta : ∀ w : World, (Instr.typeAssert (.iface 31 (.int .i64 n)) 20 31 false).run Tryd.prog w = .ok (.int .i64 n) w := fun w => by
    simp [Instr.typeAssert, run_underlying Tryd.underlying31]
  go_region
  all_goals
    cases c₀
    simp_all [bodyPostS, results, Tryd.results89]

theorem ends1_cd_idle (p q : Addr) (h : H) : CD Tryd.prog 89 #[.pointer (some p), .pointer (some q)] .returning h h .returning :=
  fun _ _ w hok => (ends1_idle p q w).mono fun _ _ _ ⟨h1, h2, h3⟩ => ⟨h1, h2, h3 ▸ hok, fun _ _ => by rw [h3]⟩
theorem ends1_cd_pan (b c : Nat) (x y : AV) (n : Int) : CD Tryd.prog 89 #[.pointer (some ⟨b, 0, none⟩), .pointer (some ⟨c, 0, none⟩)] (.panicking [{ v := .iface 31 (.int .i64 n), recovered := false }])
    [.cells c 31 [y], .cells b 50 [x]] [.cells c 31 [.int n], .cells b 50 [.val (.slice none 0 0)]] (.panicking [{ v := .iface 31 (.int .i64 n), recovered := true }]) := by
  intro cx I w hok
  obtain ⟨u1, d1⟩ := Ent.cells_one (hok.ent (.cells b 50 [x]) (by simp))
  obtain ⟨u2, d2⟩ := Ent.cells_one (hok.ent (.cells c 31 [y]) (by simp))
  have hbc : b ≠ c := by
    have := hok.nd
    simp [blks, Ent.blk] at this
    exact fun e => this e.symm
  refine (ends1_pan b c hbc u1 u2 n w d1 d2).mono ?_
  rintro e u' w' ⟨h1, h2, rfl⟩
  obtain ⟨k1, k2⟩ := Ok.set1 (h1 := [.cells c 31 [y]]) (h2 := []) (v := .slice none 0 0) hok
  obtain ⟨k3, k4⟩ := Ok.set1 (h1 := []) (v := .int .i64 n) k1
  exact ⟨h1, h2, k3.same (Same.drewN 1), fun z hz => (k4 z hz).trans (k2 z hz)⟩

/-- What the reader's call leaves. -/
def skipQ (l : List Fo) (b b' i : Nat) (es : List Int) (e : AE) (h : H) : Prop :=
  ∃ es' : List Int, es'.length = l.length ∧ h = [.cells b 119 [.d (opsD l), .val (.slice (some ⟨b', 0, none⟩) l.length l.length)], .cells b' 3 (es'.map AV.int)] ∧
    ((∃ n : Nat, e = .ret (.int n) ∧ Sp.endOf l i = ((n : Int), 0) ∧ (∀ j, i ≤ j → j < n → (Sp.endOf l j).2 = 0 ∧ es'[j]? = some (Sp.endOf l j).1) ∧ ∀ j, (j < i ∨ n ≤ j) → es'[j]? = es[j]?) ∨
     ((Sp.endOf l i).2 ≠ 0 ∧ e = .pan [{ v := .iface 31 (.int .i64 (Sp.endOf l i).2), recovered := false }]))

theorem skip (l : List Fo) (b b' : Nat) (hl : l.length ≤ 60) : ∀ (m i : Nat) (es : List Int), l.length ≤ i + m → es.length = l.length →
    AC Tryd.prog GP 90 [.val (.pointer (some ⟨b, 0, none⟩)), .int i] [.cells b 119 [.d (opsD l), .val (.slice (some ⟨b', 0, none⟩) l.length l.length)], .cells b' 3 (es.map AV.int)] (skipQ l b b' i es) := by
  have done : ∀ (i : Nat) (es : List Int), es.length = l.length → (l.length : Int) ≤ i → skipQ l b b' i es (.pan [{ v := .iface 31 (.int .i64 4), recovered := false }]) [.cells b 119 [.d (opsD l), .val (.slice (some ⟨b', 0, none⟩) l.length l.length)], .cells b' 3 (es.map AV.int)] := fun i es hes hi =>
    ⟨es, hes, rfl, .inr ⟨by rw [endOf_none l i (by omega)]; decide, by rw [endOf_none l i (by omega)]⟩⟩
  intro m
  induction m with
  | zero =>
    intro i es hm hes
    refine AC_of (ts := [4]) 49 Tryd.func90 rfl rfl rfl (by simp) fun W I => ?_
    repeat' (first
      | ((with_reducible apply call0); (focus rfl); (focus exact cal_Parts); (focus exact Parts _); (focus rfl))
      | ((with_reducible apply je_call0); (focus rfl); (focus (decide +kernel)); (focus rfl); (focus exact cal_Parts); (focus exact Parts _); (focus rfl))
      | exact True.intro
      | refine stp ?_
      | refine two ?_ ?_
      | (refine imp fun hc => ?_) <;> try (first | contradiction | (exfalso; omega))
      | refine all fun v_ => ?_)
    exact done i es hes (by assumption)
  | succ m ih =>
    intro i es hm hes
    refine AC_of (ts := [4]) 49 Tryd.func90 rfl rfl rfl (by simp) fun W I => ?_
    repeat' (first
      | ((with_reducible apply call0); (focus rfl); (focus exact cal_Parts); (focus exact Parts _); (focus rfl))
      | ((with_reducible apply je_call0); (focus rfl); (focus (decide +kernel)); (focus rfl); (focus exact cal_Parts); (focus exact Parts _); (focus rfl))
      | exact True.intro
      | refine stp ?_
      | refine two ?_ ?_
      | (refine imp fun hc => ?_) <;> try (first | contradiction | (exfalso; omega))
      | refine all fun v_ => ?_)
    · exact done i es hes (by assumption)
    · have he := endOf_at l i (by omega)
      rw [if_pos hc] at he
      exact ⟨es, hes, rfl, .inr ⟨by rw [he]; exact hc, by rw [he]⟩⟩
    have hi : i < l.length := by omega
    have he := endOf_at l i hi
    have hp := partsOf_le l[i].kind
    rw [if_neg hc] at he
    generalize hn : (partsOf l[i].kind).1 = n at he hp ⊢
    refine J_loop (X := Nat × Nat × List Int) (fun y => [(0, .val (.pointer (some ⟨b, 0, none⟩))), (1, .int i), (34, .int n), (35, .int y.1), (7, .int y.2.1)])
      (fun y => [.cells b 119 [.d (opsD l), .val (.slice (some ⟨b', 0, none⟩) l.length l.length)], .cells b' 3 (y.2.2.map AV.int)])
      (fun y => (y.1 : Int) ≤ n ∧ i < y.2.1 ∧ y.2.1 ≤ l.length ∧ y.2.2.length = l.length ∧ Sp.endOf l i = (if n - y.1 = 0 then ((y.2.1 : Int), 0) else scan (l.drop y.2.1) (n - y.1) y.2.1) ∧
        (∀ j, i < j → j < y.2.1 → (Sp.endOf l j).2 = 0 ∧ y.2.2[j]? = some (Sp.endOf l j).1) ∧ ∀ j, (j ≤ i ∨ y.2.1 ≤ j) → y.2.2[j]? = es[j]?)
      (fun y => n.toNat - y.1) (0, i + 1, es) ?_ ?_ rfl ?_
    · refine ⟨by omega, by dsimp only; omega, by dsimp only; omega, hes, ?_, fun j h1 h2 => by dsimp only at h2; omega, fun _ _ => rfl⟩
      rw [he]
      have : (1 : Int) + n - 1 = n - ((0 : Nat) : Int) := by omega
      dsimp only
      rw [this]
      rfl
    · repeat (first
        | exact Env.le_nil _
        | refine Env.le_cons (AV.le_refl _) ?_
        | refine Env.le_cons (AV.le_int rfl (by first | rfl | omega | (dsimp only; omega))) ?_)
    rintro ⟨j, e, fs⟩ ⟨h1, h2, h3, h4, h5, h6, h7⟩
    dsimp only at h1 h2 h3 h4 h5 h6 h7 ⊢
    repeat' (first
      | ((with_reducible apply call0); (focus rfl); (focus exact cal_Parts); (focus exact Parts _); (focus rfl))
      | ((with_reducible apply je_call0); (focus rfl); (focus (decide +kernel)); (focus rfl); (focus exact cal_Parts); (focus exact Parts _); (focus rfl))
      | exact True.intro
      | refine stp ?_
      | refine two ?_ ?_
      | (refine imp fun hc => ?_) <;> try (first | contradiction | (exfalso; omega))
      | refine all fun v_ => ?_)
    · refine callA rfl cal_skip (ih e fs (by omega) h4) rfl (fun r h' hq => ?_) (fun ch h' hq => ?_)
      · obtain ⟨es', k1, rfl, ⟨n', k2, k3, k4, k5⟩ | ⟨_, k2⟩⟩ := hq
        · cases k2
          repeat' (first
            | ((with_reducible apply call0); (focus rfl); (focus exact cal_Parts); (focus exact Parts _); (focus rfl))
            | ((with_reducible apply je_call0); (focus rfl); (focus (decide +kernel)); (focus rfl); (focus exact cal_Parts); (focus exact Parts _); (focus rfl))
            | exact True.intro
            | refine stp ?_
            | refine two ?_ ?_
            | (refine imp fun hc => ?_) <;> try (first | contradiction | (exfalso; omega))
            | refine all fun v_ => ?_)
          have hb := endOf_bound l e (by rw [k3])
          rw [k3] at hb
          refine ⟨(j + 1, n', es'), ⟨by dsimp only; omega, by dsimp only at hb ⊢; omega, by dsimp only at hb ⊢; omega, k1, ?_, ?_, ?_⟩, by dsimp only; omega, ?_, rfl⟩
          · rw [h5, if_neg (by omega)]
            dsimp only
            by_cases hlast : n - ((j + 1 : Nat) : Int) = 0
            · rw [if_pos hlast]
              have : n - (j : Int) = 1 := by omega
              rw [this]
              have := k3
              unfold Sp.endOf at this
              rwa [Int.toNat_natCast] at this
            · rw [if_neg hlast]
              have : n - (j : Int) = (n - ((j + 1 : Nat) : Int)) + 1 := by omega
              rw [this, scan_next l e _ (by omega), k3]
              rfl
          · intro p hp1 hp2
            dsimp only at hp2 ⊢
            by_cases hpe : e ≤ p
            · exact k4 p hpe hp2
            · rw [k5 p (.inl (by omega))]
              exact h6 p hp1 (by omega)
          · intro p hp1
            dsimp only at hp1 ⊢
            dsimp only at hb
            rw [k5 p (by omega)]
            exact h7 p (by omega)
          · repeat (first
              | exact Env.le_nil _
              | refine Env.le_cons (AV.le_refl _) ?_
              | refine Env.le_cons (AV.le_int rfl (by first | rfl | omega | (dsimp only; omega))) ?_)
        · cases k2
      · obtain ⟨es', k1, rfl, ⟨n', k2, k3, k4⟩ | ⟨k3, k2⟩⟩ := hq
        · cases k2
        · cases k2
          repeat' (refine stp ?_)
          refine ⟨es', k1, rfl, .inr ?_⟩
          have : (Sp.endOf l i).2 = (Sp.endOf l e).2 := by
            rw [h5, if_neg (by omega)]
            by_cases hlast : n - (j : Int) = 1
            · rw [hlast]; unfold Sp.endOf; rw [Int.toNat_natCast]
            · have h : n - (j : Int) = (n - ((j + 1 : Nat) : Int)) + 1 := by omega
              rw [h, scan_next l e _ (by omega), if_pos k3]
          rw [this]
          exact ⟨k3, rfl⟩
    · repeat' (first
        | ((with_reducible apply call0); (focus rfl); (focus exact cal_Parts); (focus exact Parts _); (focus rfl))
        | ((with_reducible apply je_call0); (focus rfl); (focus (decide +kernel)); (focus rfl); (focus exact cal_Parts); (focus exact Parts _); (focus rfl))
        | exact True.intro
        | refine stp ?_
        | refine two ?_ ?_
        | (refine imp fun hc => ?_) <;> try (first | contradiction | (exfalso; omega))
        | refine all fun v_ => ?_)
      refine js_int (h1 := [_]) rfl rfl el_int rfl (by omega) ?_
      simp only [List.cons_append, List.nil_append, Int.toNat_natCast, Nat.mul_one]
      repeat' (first
        | ((with_reducible apply call0); (focus rfl); (focus exact cal_Parts); (focus exact Parts _); (focus rfl))
        | ((with_reducible apply je_call0); (focus rfl); (focus (decide +kernel)); (focus rfl); (focus exact cal_Parts); (focus exact Parts _); (focus rfl))
        | exact True.intro
        | refine stp ?_
        | refine two ?_ ?_
        | (refine imp fun hc => ?_) <;> try (first | contradiction | (exfalso; omega))
        | refine all fun v_ => ?_)
      ((with_reducible apply rq1); rfl; rfl)
      have hz : n - (j : Int) = 0 := by omega
      rw [if_pos hz] at h5
      refine ⟨fs.set i e, by simpa using h4, rfl, .inl ⟨e, rfl, h5, fun p hp1 hp2 => ?_, fun p hp1 => ?_⟩⟩
      · by_cases hpi : p = i
        · subst hpi
          rw [h5]
          exact ⟨rfl, by rw [List.getElem?_set_self (by omega)]⟩
        · rw [List.getElem?_set_ne (by omega)]
          exact h6 p (by omega) hp2
      · rw [List.getElem?_set_ne (by omega)]
        exact h7 p (by omega)

theorem Ends (l : List Fo) : ACr Tryd.prog GP 62 [.d (opsD l)] (.tup [.d (intsD (endsOf l).1), .int (endsOf l).2]) := by
  refine AC_ofD 25 Tryd.func62 rfl rfl (by simp) fun W I => ?_
  apply J2_seq1
  repeat' (first
    | exact True.intro
    | refine stp ?_
    | refine two ?_ ?_
    | (refine imp fun hc => ?_) <;> try (first | contradiction | (exfalso; omega))
    | refine all fun v_ => ?_)
  refine jalloc1 el_ints rfl rfl fun b2 => ?_
  refine jalloc1 el_Errno rfl rfl fun b3 => ?_
  repeat' (first
    | exact True.intro
    | refine stp ?_
    | refine two ?_ ?_
    | (refine imp fun hc => ?_) <;> try (first | contradiction | (exfalso; omega))
    | refine all fun v_ => ?_)
  apply tq2_normal
  apply J2_seq1
  repeat' (first
    | exact True.intro
    | refine stp ?_
    | refine two ?_ ?_
    | (refine imp fun hc => ?_) <;> try (first | contradiction | (exfalso; omega))
    | refine all fun v_ => ?_)
  · refine js_one (h1 := [_]) rfl rfl rfl el_ints rfl ?_
    simp only [List.cons_append, List.nil_append]
    refine js_one (h1 := []) rfl rfl rfl el_Errno rfl ?_
    simp only [List.nil_append]
    repeat' (first
      | exact True.intro
      | refine stp ?_
      | refine two ?_ ?_
      | (refine imp fun hc => ?_) <;> try (first | contradiction | (exfalso; omega))
      | refine all fun v_ => ?_)
    apply tq2_ret
    refine LQ_cells2 rfl (by unfold isAggB; kernel_rfl) (by unfold isAggB; kernel_rfl) rfl rfl (List.mem_cons_of_mem _ List.mem_cons_self) List.mem_cons_self rfl (List.nil_sublist _) (AV.le_nil 1 8) (AV.le_refl _) ?_
    refine ret_eq ?_
    rw [endsOf, if_pos (by omega)]; rfl
  apply tq2_normal
  dsimp only
  refine J2_seq (J2_defer (vs := [.pointer (some ⟨b2, 0, none⟩), .pointer (some ⟨b3, 0, none⟩)]) rfl rfl ?_)
  apply tq2_normal
  dsimp only
  apply J2_seq1
  repeat' (first
    | exact True.intro
    | refine stp ?_
    | refine two ?_ ?_
    | (refine imp fun hc => ?_) <;> try (first | contradiction | (exfalso; omega))
    | refine all fun v_ => ?_)
  refine jmake_int rfl rfl el_int (by omega) (by omega) rfl fun b' => ?_
  repeat' (first
    | exact True.intro
    | refine stp ?_
    | refine two ?_ ?_
    | (refine imp fun hc => ?_) <;> try (first | contradiction | (exfalso; omega))
    | refine all fun v_ => ?_)
  refine jbox rfl rfl rfl fun b => ?_
  repeat' (first
    | exact True.intro
    | refine stp ?_
    | refine two ?_ ?_
    | (refine imp fun hc => ?_) <;> try (first | contradiction | (exfalso; omega))
    | refine all fun v_ => ?_)
  apply tq2_normal
  dsimp only
  apply J2_seq1
  repeat' (first
    | exact True.intro
    | refine stp ?_
    | refine two ?_ ?_
    | (refine imp fun hc => ?_) <;> try (first | contradiction | (exfalso; omega))
    | refine all fun v_ => ?_)
  have hk : AC Tryd.prog GP 90 [.val (.pointer (some ⟨b, 0, none⟩)), .int 0] [.cells b 119 [.d (opsD l), .val (.slice (some ⟨b', 0, none⟩) l.length l.length)], .cells b' 3 ((List.replicate l.length 0).map AV.int)] (skipQ l b b' 0 (List.replicate l.length 0)) :=
    skip l b b' (by omega) l.length 0 (List.replicate l.length 0) (by omega) (by simp)
  have pan : ∀ (n : Int) (ρ : Env) (es : List Int), n = (endsOf l).2 → (endsOf l).1 = [] →
      LQ ⟨Tryd.prog, ⟨W, I, [], GP⟩, 25, [{ target := .fn (.func 89) #[.pointer (some ⟨b2, 0, none⟩), .pointer (some ⟨b3, 0, none⟩)], args := #[] }]⟩ Tryd.f62
        (ACpost GP W I [] fun e h => e = .ret (.tup [.d (intsD (endsOf l).1), .int (endsOf l).2]) ∧ h = []) (some (.panicking [{ v := .iface 31 (.int .i64 n), recovered := false }]))
        ((2, .val (.pointer (some ⟨b2, 0, none⟩))) :: (3, .val (.pointer (some ⟨b3, 0, none⟩))) :: ρ)
        [.cells b 119 [.d (opsD l), .val (.slice (some ⟨b', 0, none⟩) l.length l.length)], .cells b' 3 (es.map AV.int), .cells b3 31 [.val (.int .i64 0)], .cells b2 50 [.val (.slice none 0 0)]]
        [{ target := .fn (.func 89) #[.pointer (some ⟨b2, 0, none⟩), .pointer (some ⟨b3, 0, none⟩)], args := #[] }] := by
    intro n ρ es h1 h2
    refine LQ_vs (VS.drop (h' := [.cells b3 31 [.val (.int .i64 0)], .cells b2 50 [.val (.slice none 0 0)]]) (.cons _ (.cons _ (.refl _)))) ?_
    refine LQ_defer (by simp) cal_Ends1 (ends1_cd_pan b2 b3 _ _ n) (m := .returning) rfl ?_
    refine LQ_cells2 (h0 := []) (y1 := .d (intsD [])) rfl (by unfold isAggB; kernel_rfl) (by unfold isAggB; kernel_rfl) rfl rfl (List.mem_cons_of_mem _ List.mem_cons_self) List.mem_cons_self rfl (List.nil_sublist _) (AV.le_nil 1 8) (AV.le_refl _) ?_
    refine ret_eq ?_
    rw [h1, h2]
  have h60 : ¬ 60 < l.length := by omega
  refine callw (hc := [_, _]) rfl cal_skip rfl hk rfl (fun r h' hq => ?_) (fun ch h' hq => ?_)
  · obtain ⟨es', k1, rfl, ⟨n', k2, k3, k4, k5⟩ | ⟨_, k2⟩⟩ := hq
    · cases k2
      have hb := endOf_bound l 0 (by rw [show ((0 : Nat) : Int) = 0 from rfl]; rw [show ((0 : Nat) : Int) = 0 from rfl] at k3; rw [k3])
      rw [show ((0 : Nat) : Int) = 0 from rfl] at k3 hb
      rw [k3] at hb
      simp only [List.cons_append, List.nil_append]
      repeat' (first
        | exact True.intro
        | refine stp ?_
        | refine two ?_ ?_
        | (refine imp fun hc => ?_) <;> try (first | contradiction | (exfalso; omega))
        | refine all fun v_ => ?_)
      · apply tq2_panic
        dsimp only at hb
        have h3 : (endsOf l) = ([], 3) := by rw [endsOf, if_neg h60, k3, if_neg (by simp), if_pos (by dsimp only; omega)]
        refine LQ_vs (VS.of_le ?_) (pan _ [] es' ?_ ?_)
        · repeat (first
            | exact Env.le_nil _
            | refine Env.le_cons (AV.le_refl _) ?_
            | refine Env.le_cons (AV.le_int rfl (by first | rfl | omega | (dsimp only; omega))) ?_)
        · rw [h3]
        · rw [h3]
      · have hn : n' = l.length := by omega
        have he : es' = (List.range l.length).map fun i : Nat => (Sp.endOf l i).1 := by
          apply List.ext_getElem?
          intro j
          by_cases hj : j < l.length
          · rw [(k4 j (Nat.zero_le _) (by omega)).2, List.getElem?_map, List.getElem?_range hj]; rfl
          · rw [List.getElem?_eq_none (by omega), List.getElem?_eq_none (by simp; omega)]
        have h3 : (endsOf l) = (es', 0) := by rw [endsOf, if_neg h60, k3, if_neg (by simp), if_neg (by dsimp only; omega), he]
        apply tq2_normal
        dsimp only
        apply J2_of
        repeat' (first
          | exact True.intro
          | refine stp ?_
          | refine two ?_ ?_
          | (refine imp fun hc => ?_) <;> try (first | contradiction | (exfalso; omega))
          | refine all fun v_ => ?_)
        refine JL_vs (VS.freezeCells (t := 24) (h1 := [_]) (rows := es'.map intC) (sz := 1) (eb := 8) (by decide) rfl rfl (ints_flat es') (by simp [k1]) (by simp [intC]) (by omega) (by simp only [maxLen]; omega)) ?_
        simp only [List.cons_append, List.nil_append]
        refine js_one (h1 := [_, _]) rfl rfl rfl el_ints rfl ?_
        simp only [List.cons_append, List.nil_append]
        refine js_one (h1 := [_]) rfl rfl rfl el_Errno rfl ?_
        simp only [List.cons_append, List.nil_append]
        repeat' (first
          | exact True.intro
          | refine stp ?_
          | refine two ?_ ?_
          | (refine imp fun hc => ?_) <;> try (first | contradiction | (exfalso; omega))
          | refine all fun v_ => ?_)
        refine LQ_defer (by simp) cal_Ends1 (ends1_cd_idle _ _ _) (m := .returning) rfl ?_
        refine LQ_cells2 (h0 := []) rfl (by unfold isAggB; kernel_rfl) (by unfold isAggB; kernel_rfl) rfl rfl (List.mem_cons_of_mem _ (List.mem_cons_of_mem _ List.mem_cons_self)) (List.mem_cons_of_mem _ List.mem_cons_self) rfl (List.nil_sublist _) (AV.le_refl _) (AV.le_refl _) ?_
        refine ret_eq ?_
        rw [h3]
    · cases k2
  · obtain ⟨es', k1, rfl, ⟨n', k2, k3, k4⟩ | ⟨k3, k2⟩⟩ := hq
    · cases k2
    · cases k2
      have k3 : (Sp.endOf l 0).2 ≠ 0 := k3
      repeat' (refine stp ?_)
      apply tq2_panic
      refine LQ_vs (VS.of_le ?_) (pan _ [] es' ?_ ?_)
      · repeat (first
          | exact Env.le_nil _
          | refine Env.le_cons (AV.le_refl _) ?_
          | refine Env.le_cons (AV.le_int rfl (by first | rfl | omega | (dsimp only; omega))) ?_)
      · rw [endsOf, if_neg h60, if_pos k3]; rfl
      · rw [endsOf, if_neg h60, if_pos k3]
end Go.Proofs.YtmamiihpghnmmaaDoor
