/- Contract: expr.Eval. -/
import Derived.Test.YtacdheachjnejaaDoorY2
import Derived.Test.YtacdheachjnejaaDoorG10
import Derived.Test.YtacdheachjnejaaDoorT9
import Derived.Test.YtacdheachjnejaaDoorT2
namespace Go.Proofs.YtacdheachjnejaaDoor
open Go Go.Av Go.Sp
set_option linter.unusedVariables false
set_option linter.unusedSimpArgs false
set_option maxRecDepth 100000
set_option maxHeartbeats 4000000
theorem cal_Eval : Cal Tryd.prog 14 := Cal.of Tryd.func14 (by kernel_rfl) (by kernel_rfl)
theorem cal_Eval1 : Cal Tryd.prog 43 := Cal.of Tryd.func43 (by kernel_rfl) (by kernel_rfl)
theorem eval1_idle (p q : Addr) (w : World) :
    CallsD Tryd.prog 43 #[.pointer (some p), .pointer (some q)] .returning w fun e u' w' => e = .returned (.tuple #[]) ∧ u' = .returning ∧ w' = w := by
  refine callsD_of_wpS Tryd.func43 rfl fun c₀ cs hu => ?_
  apply wpS_seq
  apply wpS_region
  simp [wpOpsS, go_sem, recoverD, hu, Tryd.ntmps43, Exit.thenS]
  apply wpS_seq
  apply wpS_region
  simp [wpOpsS, go_sem, Exit.thenS]
  refine wpS_cond (t := false) (by simp [Act.eval, Array.replicate]) ?_
  simp only [Bool.false_eq_true, if_false]
  refine wpS_of_wp (wp_skip ?_)
  cases c₀
  simp_all [bodyPostS, results, Tryd.results43]

theorem eval1_pan (b c : Nat) (hbc : b ≠ c) (x y : Value) (n : Int) (w : World) (hb : w.heap[b]? = some (.cells #[x] 3 (0, 0))) (hc : w.heap[c]? = some (.cells #[y] 25 (0, 0))) :
    CallsD Tryd.prog 43 #[.pointer (some ⟨b, 0, none⟩), .pointer (some ⟨c, 0, none⟩)] (.panicking [{ v := .iface 25 (.int .i64 n), recovered := false }]) w fun e u' w' =>
      e = .returned (.tuple #[]) ∧ u' = .panicking [{ v := .iface 25 (.int .i64 n), recovered := true }] ∧ w' = ((w.setCell ⟨b, 0, none⟩ (.int .i64 0)).setCell ⟨c, 0, none⟩ (.int .i64 n)).drew := by
  refine callsD_of_wpS Tryd.func43 rfl fun c₀ cs hu => ?_
  apply wpS_seq
  apply wpS_region
  simp [wpOpsS, go_sem, recoverD, hu, Tryd.ntmps43, Exit.thenS]
  apply wpS_seq
  apply wpS_region
  simp [wpOpsS, go_sem, Exit.thenS]
  refine wpS_cond (t := true) (by simp [Act.eval, Array.replicate]) ?_
  simp only [if_true]
  refine wpS_of_wp ?_
  have hcb : w.cell? ⟨b, 0, none⟩ = some x := by rw [cell_of_row w b 0 _ _ _ hb]; rfl
  have hcc : w.cell? ⟨c, 0, none⟩ = some y := by rw [cell_of_row w c 0 _ _ _ hc]; rfl
  have fb : w.frozen? ⟨b, 0, none⟩ = false := by simp [World.frozen?, hb]
  have fc : w.frozen? ⟨c, 0, none⟩ = false := by simp [World.frozen?, hc]
  have hta : ∀ w : World, (Instr.typeAssert (.iface 25 (.int .i64 n)) 20 25 false).run Tryd.prog w = .ok (.int .i64 n) w := fun w => by
    simp [Instr.typeAssert, run_underlying Tryd.underlying25]
  go_region
  all_goals
    cases c₀
    simp_all [bodyPostS, results, Tryd.results43]

theorem eval1_cd_idle (p q : Addr) (h : H) : CD Tryd.prog 43 #[.pointer (some p), .pointer (some q)] .returning h h .returning :=
  fun _ _ w hok => (eval1_idle p q w).mono fun _ _ _ ⟨h1, h2, h3⟩ => ⟨h1, h2, h3 ▸ hok, fun _ _ => by rw [h3]⟩
theorem eval1_cd_pan (b c : Nat) (x y : AV) (n : Int) : CD Tryd.prog 43 #[.pointer (some ⟨b, 0, none⟩), .pointer (some ⟨c, 0, none⟩)] (.panicking [{ v := .iface 25 (.int .i64 n), recovered := false }])
    [.cells c 25 [y], .cells b 3 [x]] [.cells c 25 [.int n], .cells b 3 [.val (.int .i64 0)]] (.panicking [{ v := .iface 25 (.int .i64 n), recovered := true }]) := by
  intro cx I w hok
  obtain ⟨u1, d1⟩ := Ent.cells_one (hok.ent (.cells b 3 [x]) (by simp))
  obtain ⟨u2, d2⟩ := Ent.cells_one (hok.ent (.cells c 25 [y]) (by simp))
  have hbc : b ≠ c := by
    have := hok.nd
    simp [blks, Ent.blk] at this
    exact fun e => this e.symm
  refine (eval1_pan b c hbc u1 u2 n w d1 d2).mono ?_
  rintro e u' w' ⟨h1, h2, rfl⟩
  obtain ⟨k1, k2⟩ := Ok.set1 (h1 := [.cells c 25 [y]]) (h2 := []) (v := .int .i64 0) hok
  obtain ⟨k3, k4⟩ := Ok.set1 (h1 := []) (v := .int .i64 n) k1
  exact ⟨h1, h2, k3.same (Same.drewN 1), fun z hz => (k4 z hz).trans (k2 z hz)⟩
theorem mdo_at (G : List (Nat × List D)) (bm : Nat) (env S base : List Int) (k v n : Int) (q : Sl) (hS : S.length ≤ 900) (h : Doing k v env S base n) : AC Tryd.prog G 44 [.val (.pointer (some ⟨bm, 0, none⟩)), .agg [.int k, .int v]] [.cells bm 65 [.val q.v, .d (intsD env)], rowE q.v 3 1 intC S] (DoQ bm env base n) := by
  rcases h with ⟨rfl, h⟩ | ⟨rfl, rfl, h0, h1, rfl⟩ | ⟨rfl, a, rfl, ha, rfl⟩ | ⟨a, b, rfl, la, lb, h⟩
  · exact do0 G bm env S k v n q (by omega) h
  · exact dov G bm env S v q (by omega) h0 h1
  · simp only [List.length_append, List.length_cons, List.length_nil] at hS
    exact don G bm env base v a q (by omega) ha
  · simp only [List.length_append, List.length_cons, List.length_nil] at hS
    have hm : -2000000000000 ≤ a * b ∧ a * b ≤ 2000000000000 := by
      have h : (a * b).natAbs ≤ 1000000 * 1000000 := by
        rw [Int.natAbs_mul]
        unfold limP at la lb
        exact Nat.mul_le_mul (by omega) (by omega)
      generalize a * b = z at h
      omega
    rcases h with ⟨rfl, rfl⟩ | ⟨rfl, rfl⟩ | ⟨rfl, rfl⟩ | ⟨rfl, rfl⟩ | ⟨rfl, rfl⟩ | ⟨rfl, b1, b2, rfl⟩ | ⟨rfl, b1, b2, rfl⟩
    · exact do_add G bm env base v a b q (by omega) la lb (by unfold limP at la lb; omega)
    · exact do_sub G bm env base v a b q (by omega) la lb (by unfold limP at la lb; omega)
    · exact do_mul G bm env base v a b q (by omega) la lb hm
    · exact do_eq G bm env base v a b q (by omega) la lb (by split <;> decide)
    · exact do_lt G bm env base v a b q (by omega) la lb (by split <;> decide)
    · exact do_and G bm env base v a b q (by omega) la lb (by rcases b1 with rfl | rfl <;> rcases b2 with rfl | rfl <;> decide)
    · exact do_or G bm env base v a b q (by omega) la lb (by rcases b1 with rfl | rfl <;> rcases b2 with rfl | rfl <;> decide)
theorem Eval (l : List Fo) (env : List Int) : ACr Tryd.prog GP 14 [.d (opsD l), .d (intsD env)] (.tup [.int (evalF l env).1, .int (evalF l env).2]) := by
  refine AC.factI (f := intC) (xs := env) (.there .here) fun hlv => ?_
  have hC := ECheck l env.length
  refine AC_ofD Tryd.f14.ntmps Tryd.func14 rfl rfl (by simp [Tryd.ntmps14]) fun W I => ?_
  have hgood := goodE_of (l := l) (vars := env.length)
  unfold evalF
  generalize exprC l env.length = p at hC hgood ⊢
  obtain ⟨t, e⟩ := p
  dsimp only at hC hgood ⊢
  apply J2_seq1
  repeat' (first
    | ((with_reducible apply call0); (focus rfl); (focus exact cal_ECheck); (focus exact hC); (focus rfl))
    | ((with_reducible apply je_call0); (focus rfl); (focus (decide +kernel)); (focus rfl); (focus exact cal_ECheck); (focus exact hC); (focus rfl))
    | exact True.intro
    | refine stph ?_
    | refine two ?_ ?_
    | refine allc fun c_ => ?_
    | (refine imp fun hc => ?_) <;> try (first | contradiction | (exfalso; omega) | (exfalso; exact absurd (of_dT hc) (by assumption)) | (exfalso; exact of_dF hc (by assumption)))
    | refine all fun v_ => ?_)
  rename_i bn
  rename Nat => be
  apply tq2_normal
  apply J2_seq1
  by_cases he : e ≠ 0
  · repeat' (first
      | ((with_reducible apply call0); (focus rfl); (focus exact cal_ECheck); (focus exact hC); (focus rfl))
      | ((with_reducible apply je_call0); (focus rfl); (focus (decide +kernel)); (focus rfl); (focus exact cal_ECheck); (focus exact hC); (focus rfl))
      | exact True.intro
      | refine stph ?_
      | refine two ?_ ?_
      | refine allc fun c_ => ?_
      | (refine imp fun hc => ?_) <;> try (first | contradiction | (exfalso; omega) | (exfalso; exact absurd (of_dT hc) (by assumption)) | (exfalso; exact of_dF hc (by assumption)))
      | refine all fun v_ => ?_)
    apply tq2_ret
    refine LQ_cells2 (h0 := []) rfl (by unfold isAggB; kernel_rfl) (by unfold isAggB; kernel_rfl) rfl rfl (by ((repeat (first | exact List.mem_cons_self | apply List.mem_cons_of_mem)); done)) (by ((repeat (first | exact List.mem_cons_self | apply List.mem_cons_of_mem)); done)) rfl (List.nil_sublist _) (AV.le_refl _) (AV.le_refl _) ?_
    refine ret_eq ?_
    rw [if_pos he]
  replace he := Decidable.not_not.1 he
  obtain ⟨g, _, hv6⟩ := hgood he
  have h60 := g.h60
  subst he
  rw [if_neg (fun h => h rfl)]
  repeat' (first
    | ((with_reducible apply call0); (focus rfl); (focus exact cal_ECheck); (focus exact hC); (focus rfl))
    | ((with_reducible apply je_call0); (focus rfl); (focus (decide +kernel)); (focus rfl); (focus exact cal_ECheck); (focus exact hC); (focus rfl))
    | exact True.intro
    | refine stph ?_
    | refine two ?_ ?_
    | refine allc fun c_ => ?_
    | (refine imp fun hc => ?_) <;> try (first | contradiction | (exfalso; omega) | (exfalso; exact absurd (of_dT hc) (by assumption)) | (exfalso; exact of_dF hc (by assumption)))
    | refine all fun v_ => ?_)
  apply tq2_normal
  dsimp only
  apply J2_seq1
  repeat' (first
    | exact True.intro
    | refine stph ?_
    | refine two ?_ ?_
    | refine allc fun c_ => ?_
    | (refine imp fun hc => ?_) <;> try (first | contradiction | (exfalso; omega) | (exfalso; exact absurd (of_dT hc) (by assumption)) | (exfalso; exact of_dF hc (by assumption)))
    | refine all fun v_ => ?_)
  refine J_loopV (X := Nat) (fun i => [(0, .d (opsD l)), (1, .d (intsD env)), (4, .val (.pointer (some ⟨bn, 0, none⟩))), (5, .val (.pointer (some ⟨be, 0, none⟩))), (22, .d (intsD env)), (23, .int env.length), (24, .int i)]) (fun _ => [.cells be 25 [.int 0], .cells bn 3 [.int 0]]) (fun i => i ≤ env.length ∧ ∀ (j : Nat) (h : j < env.length), j < i → limP env[j]) (fun i => env.length - i) 0 ⟨Nat.zero_le _, fun _ _ h => absurd h (Nat.not_lt_zero _)⟩ (VS.of_le ?_) ?_
  · repeat (first
      | exact Env.le_nil _
      | refine Env.le_cons (AV.le_refl _) ?_
      | refine Env.le_cons (AV.le_int rfl (by first | rfl | omega | (dsimp only; omega))) ?_)
  rintro i ⟨h1, h2⟩
  by_cases hi : i < env.length
  · by_cases hl : limP env[i]
    · have hl' := hl
      unfold limP at hl'
      repeat' (first
        | exact True.intro
        | refine stph ?_
        | refine two ?_ ?_
        | refine allc fun c_ => ?_
        | (refine imp fun hc => ?_) <;> try (first | contradiction | (exfalso; omega) | (exfalso; exact absurd (of_dT hc) (by assumption)) | (exfalso; exact of_dF hc (by assumption)))
        | refine all fun v_ => ?_)
      refine ⟨i + 1, ⟨by omega, fun j hj hji => ?_⟩, by omega, VS.of_le ?_⟩
      · by_cases e : j = i
        · subst e; exact hl
        · exact h2 j hj (by omega)
      · repeat (first
          | exact Env.le_nil _
          | refine Env.le_cons (AV.le_refl _) ?_
          | refine Env.le_cons (AV.le_int rfl (by first | rfl | omega | (dsimp only; omega))) ?_)
    · have hno : ¬ ∀ v ∈ env, limP v := fun h => hl (h _ (List.getElem_mem hi))
      have hl' := hl
      unfold limP at hl'
      rw [if_neg hno]
      repeat' (first
        | exact True.intro
        | refine stph ?_
        | refine two ?_ ?_
        | refine allc fun c_ => ?_
        | (refine imp fun hc => ?_) <;> try (first | contradiction | (exfalso; omega) | (exfalso; exact absurd (of_dT hc) (by assumption)) | (exfalso; exact of_dF hc (by assumption)))
        | refine all fun v_ => ?_)
      all_goals
        apply tq2_ret
        refine LQ_cells2 (h0 := []) rfl (by unfold isAggB; kernel_rfl) (by unfold isAggB; kernel_rfl) rfl rfl (by ((repeat (first | exact List.mem_cons_self | apply List.mem_cons_of_mem)); done)) (by ((repeat (first | exact List.mem_cons_self | apply List.mem_cons_of_mem)); done)) rfl (List.nil_sublist _) (AV.le_refl _) (AV.le_refl _) ?_
        exact ret_eq rfl
  obtain rfl : i = env.length := by omega
  have henv : ∀ v ∈ env, limP v := fun v hv => by
    obtain ⟨j, hj, rfl⟩ := List.getElem_of_mem hv
    exact h2 j hj hj
  rw [if_pos henv]
  repeat' (first
    | exact True.intro
    | refine stph ?_
    | refine two ?_ ?_
    | refine allc fun c_ => ?_
    | (refine imp fun hc => ?_) <;> try (first | contradiction | (exfalso; omega) | (exfalso; exact absurd (of_dT hc) (by assumption)) | (exfalso; exact of_dF hc (by assumption)))
    | refine all fun v_ => ?_)
  apply tq2_normal
  dsimp only
  refine J2_seq (J2_defer (vs := [.pointer (some ⟨bn, 0, none⟩), .pointer (some ⟨be, 0, none⟩)]) rfl rfl ?_)
  apply tq2_normal
  dsimp only
  apply J2_seq1
  repeat' (first
    | exact True.intro
    | refine stph ?_
    | refine two ?_ ?_
    | refine allc fun c_ => ?_
    | (refine imp fun hc => ?_) <;> try (first | contradiction | (exfalso; omega) | (exfalso; exact absurd (of_dT hc) (by assumption)) | (exfalso; exact of_dF hc (by assumption)))
    | refine all fun v_ => ?_)
  obtain ⟨bm, rfl⟩ : ∃ x, x = v_ := ⟨_, rfl⟩
  apply tq2_normal
  dsimp only
  apply J2_seq1
  repeat' (first
    | exact True.intro
    | refine stph ?_
    | refine two ?_ ?_
    | refine allc fun c_ => ?_
    | (refine imp fun hc => ?_) <;> try (first | contradiction | (exfalso; omega) | (exfalso; exact absurd (of_dT hc) (by assumption)) | (exfalso; exact of_dF hc (by assumption)))
    | refine all fun v_ => ?_)
  refine J_loopV (X := Nat × List Int × Sl) (fun y => [(0, .d (opsD l)), (4, .val (.pointer (some ⟨bn, 0, none⟩))), (5, .val (.pointer (some ⟨be, 0, none⟩))), (10, .val (.pointer (some ⟨bm, 0, none⟩))), (11, .int ((y.1 : Int) - 1))]) (fun y => [.cells bm 65 [.val y.2.2.v, .d (intsD env)], rowE y.2.2.v 3 1 intC y.2.1, .cells be 25 [.int 0], .cells bn 3 [.int 0]]) (fun y => y.1 ≤ l.length ∧ Stk l (evF l env) y.1 y.2.1 ∧ ∀ j, y.1 ≤ j → j < l.length → (evAt l env j).isSome) (fun y => y.1) (l.length, [], Sl.nil) ⟨Nat.le_refl _, .nil (Nat.le_refl _), fun j h1 h2 => by dsimp only at h1; omega⟩ (VS.trans (VS.nilrow 3 1) (VS.take (by ((repeat (first | exact Take.nil | ((with_reducible apply Take.cons); (focus ((repeat (first | exact Sel.here | with_reducible apply Sel.there)); done))))); done)) ?_)) ?_
  · repeat (first
      | exact Env.le_nil _
      | refine Env.le_cons (AV.le_refl _) ?_
      | refine Env.le_cons (AV.le_int rfl (by first | rfl | omega | (dsimp only; omega))) ?_)
  rintro ⟨i, S, q⟩ ⟨k1, k2, k3⟩
  dsimp only at k1 k2 k3 ⊢
  have hSl := k2.len g.well k1
  cases i with
  | zero =>
    obtain ⟨S', rfl, hS'⟩ := k2.inv g.pos
    obtain ⟨_, _, hend, _, _⟩ := endsOf_ok (l := l) (es := (endsOf l).1) (Prod.ext rfl g.ends)
    have hE : (Sp.endOf l ((0 : Nat) : Int)).1.toNat = l.length := by
      rw [show ((0 : Nat) : Int) = 0 from rfl, hend]; exact Int.toNat_natCast _
    rw [hE] at hS'
    obtain rfl := hS'.fin (Nat.le_refl _)
    have h0 := evF_eq (k3 0 (Nat.le_refl _) g.pos)
    have hwk : wk l env = (evF l env 0, 0) := by unfold wk; rw [h0]
    rw [hwk]
    generalize evF l env 0 = n
    repeat' (first
      | ((with_reducible apply callG); (focus rfl); (focus exact cal_pop); (focus exact pop GP bm env [] n q (by decide)); (focus ((repeat (first | with_reducible exact Take.nil | ((with_reducible apply Take.cons); (focus ((repeat (first | with_reducible exact Sel.here | with_reducible apply Sel.there)); done))))); done)); (focus rfl); (focus (intro v_; (repeat (first | exact App.nil | apply App.cons)); done)))
      | exact True.intro
      | refine stph ?_
      | refine two ?_ ?_
      | refine allc fun c_ => ?_
      | (refine imp fun hc => ?_) <;> try (first | contradiction | (exfalso; omega) | (exfalso; exact absurd (of_dT hc) (by assumption)) | (exfalso; exact of_dF hc (by assumption)))
      | refine all fun v_ => ?_)
    apply tq2_normal
    dsimp only
    apply J2_of
    repeat' (first
      | ((with_reducible apply callG); (focus rfl); (focus exact cal_pop); (focus exact pop GP bm env [] n q (by decide)); (focus ((repeat (first | with_reducible exact Take.nil | ((with_reducible apply Take.cons); (focus ((repeat (first | with_reducible exact Sel.here | with_reducible apply Sel.there)); done))))); done)); (focus rfl); (focus (intro v_; (repeat (first | exact App.nil | apply App.cons)); done)))
      | exact True.intro
      | refine stph ?_
      | refine two ?_ ?_
      | refine allc fun c_ => ?_
      | (refine imp fun hc => ?_) <;> try (first | contradiction | (exfalso; omega) | (exfalso; exact absurd (of_dT hc) (by assumption)) | (exfalso; exact of_dF hc (by assumption)))
      | refine all fun v_ => ?_)
    refine LQ_defer (by simp) cal_Eval1 (eval1_cd_idle _ _ _) (m := .returning) rfl ?_
    refine LQ_cells2 (h0 := []) rfl (by unfold isAggB; kernel_rfl) (by unfold isAggB; kernel_rfl) rfl rfl (by ((repeat (first | exact List.mem_cons_self | apply List.mem_cons_of_mem)); done)) (by ((repeat (first | exact List.mem_cons_self | apply List.mem_cons_of_mem)); done)) rfl (List.nil_sublist _) (AV.le_refl _) (AV.le_refl _) ?_
    exact ret_eq rfl
  | succ m =>
    have hm : m < l.length := by omega
    have hm1 : ((m + 1 : Nat) : Int) - 1 = (m : Int) := by omega
    obtain ⟨base, n, d, d1, d2⟩ := k2.step g henv hm (fun j h1 h2 => k3 j (by omega) h2)
    have hac := mdo_at GP bm env S base l[m].kind l[m].val n q (by omega) d
    rw [hm1]
    repeat' (first
      | exact True.intro
      | refine stph ?_
      | refine two ?_ ?_
      | refine allc fun c_ => ?_
      | (refine imp fun hc => ?_) <;> try (first | contradiction | (exfalso; omega) | (exfalso; exact absurd (of_dT hc) (by assumption)) | (exfalso; exact of_dF hc (by assumption)))
      | refine all fun v_ => ?_)
    refine callw (hc := [_, _]) rfl cal_mdo rfl hac rfl (fun r h' hq => ?_) (fun ch h' hq => ?_)
    · obtain ⟨v, ⟨hl, hr, rfl⟩ | ⟨_, hr, _⟩⟩ := hq
      · cases hr
        simp only [List.cons_append, List.nil_append]
        repeat' (first
          | exact True.intro
          | refine stph ?_
          | refine two ?_ ?_
          | refine allc fun c_ => ?_
          | (refine imp fun hc => ?_) <;> try (first | contradiction | (exfalso; omega) | (exfalso; exact absurd (of_dT hc) (by assumption)) | (exfalso; exact of_dF hc (by assumption)))
          | refine all fun v_ => ?_)
        refine ⟨(m, base ++ [n], v), ⟨by dsimp only; omega, (d1 hl).2, fun j h1 h2 => ?_⟩, by dsimp only; omega, VS.of_le ?_⟩
        · by_cases e : j = m
          · subst e; rw [(d1 hl).1]; rfl
          · exact k3 j (by dsimp only at h1; omega) h2
        · repeat (first
            | exact Env.le_nil _
            | refine Env.le_cons (AV.le_refl _) ?_
            | refine Env.le_cons (AV.le_int rfl (by first | rfl | omega | (dsimp only; omega))) ?_)
      · cases hr
    · obtain ⟨v, ⟨_, hr, _⟩ | ⟨hl, hr, rfl⟩⟩ := hq
      · cases hr
      · cases hr
        have hno : evAt l env 0 = none := by
          cases hx : evAt l env 0 with
          | none => rfl
          | some v =>
            obtain ⟨_, _, hend, _, _⟩ := endsOf_ok (l := l) (es := (endsOf l).1) (Prod.ext rfl g.ends)
            have hend' : (Sp.endOf l ((0 : Nat) : Int)).1 = l.length := by rw [show ((0 : Nat) : Int) = 0 from rfl, hend]
            have := ev_all g l.length 0 g.pos (by rw [hend']; omega) (by rw [hx]; rfl) m (Nat.zero_le _) (by rw [hend']; omega)
            rw [d2 hl] at this; exact absurd this (by simp)
        have hwk : wk l env = (0, 8) := by unfold wk; rw [hno]
        rw [hwk]
        simp only [List.cons_append, List.nil_append]
        repeat' (refine stp ?_)
        apply tq2_panic
        refine LQ_vs (VS.take (hc := [.cells be 25 [.int 0], .cells bn 3 [.int 0]]) (by ((repeat (first | exact Take.nil | ((with_reducible apply Take.cons); (focus ((repeat (first | exact Sel.here | with_reducible apply Sel.there)); done))))); done)) (Env.le_refl _)) ?_
        refine LQ_defer (by simp) cal_Eval1 (eval1_cd_pan bn be _ _ 8) (m := .returning) rfl ?_
        refine LQ_cells2 (h0 := []) rfl (by unfold isAggB; kernel_rfl) (by unfold isAggB; kernel_rfl) rfl rfl (by ((repeat (first | exact List.mem_cons_self | apply List.mem_cons_of_mem)); done)) (by ((repeat (first | exact List.mem_cons_self | apply List.mem_cons_of_mem)); done)) rfl (List.nil_sublist _) (AV.le_refl _) (AV.le_refl _) ?_
        exact ret_eq rfl
end Go.Proofs.YtacdheachjnejaaDoor
