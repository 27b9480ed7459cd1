/- A bundle of this claim's own texts: N2 Y3. -/
import Derived.Test.YtajnpfgelpkijaaGreatDoorA4
import Derived.Test.YtajnpfgelpkijaaGreatDoorA6
import Derived.Test.YtajnpfgelpkijaaGreatDoorA7
import Derived.Test.YtajnpfgelpkijaaGreatDoorA8
import Derived.Test.YtajnpfgelpkijaaGreatDoorA10
import Derived.Test.YtajnpfgelpkijaaGreatDoorA12
import Derived.Test.YtajnpfgelpkijaaGreatDoorA16
import Derived.Test.YtajnpfgelpkijaaGreatDoorA23
import Derived.Test.YtajnpfgelpkijaaGreatDoorA26
import Derived.Test.YtajnpfgelpkijaaGreatDoorA39
set_option linter.unusedVariables false
set_option linter.unusedSimpArgs false
set_option maxRecDepth 100000
set_option maxHeartbeats 4000000
namespace Go.Proofs.YtajnpfgelpkijaaGreatDoor
open Go Go.Av Go.Sp
theorem DJ : Cal Tryz.prog 27 := Cal.of Tryz.func27 (by kernel_rfl) (by kernel_rfl)
theorem Sh  (t : Tk) : ACr Tryz.prog GP 27 [tkA t] (.int (A2 t)) := by
 have hP := cz t.model t.props
 have hC := Check t.formula t.props.length
 unfold A2
 generalize CS t.model t.props = e1 at hP ⊢
 generalize DS t.formula t.props.length = e2 at hC ⊢
 refine AK (ts := [2]) Tryz.f27.ntmps Tryz.func27 rfl rfl rfl (by simp [Tryz.ntmps27]) fun W I => ?_
 by_cases h1 : e1 ≠ 0
 · repeat' (first
    | refine ca Fy (hP) ?_
    | refine ca Fs (hC) ?_
    | exact True.intro | refine AJ ?_ | refine two ?_ ?_ | refine AG fun c_ => ?_
    | (refine imp fun hc => ?_) <;> try exact cx1 hc
    | refine all fun v_ => ?_)
   refine AO (VS.drop (List.nil_sublist _)) ?_
   ((with_reducible apply rq1); rfl; rfl)
   exact AD (by rw [if_pos h1])
 · repeat' (first
    | refine ca Fy (hP) ?_
    | refine ca Fs (hC) ?_
    | exact True.intro | refine AJ ?_ | refine two ?_ ?_ | refine AG fun c_ => ?_
    | (refine imp fun hc => ?_) <;> try exact cx1 hc
    | refine all fun v_ => ?_)
   refine AO (VS.drop (List.nil_sublist _)) ?_
   ((with_reducible apply rq1); rfl; rfl)
   exact AD (by rw [if_neg h1])
theorem D6 : Cal Tryz.prog 100 := Cal.of Tryz.func100 (by kernel_rfl) (by kernel_rfl)
theorem Nv : Cal Tryz.prog 137 := Cal.of Tryz.func137 (by kernel_rfl) (by kernel_rfl)
theorem TD (p q : Addr) (w : World) :
 CallsD Tryz.prog 137 #[.pointer (some p), .pointer (some q)] .returning w fun e u' w' => e = .returned (.tuple #[]) ∧ u' = .returning ∧ w' = w := by
 refine callsD_of_wpS Tryz.func137 rfl fun c₀ cs hu => ?_
 apply wpS_seq
 apply wpS_region
 simp [wpOpsS, go_sem, recoverD, hu, Tryz.ntmps137, Exit.thenS]
 apply wpS_seq
 apply wpS_region
 simp [wpOpsS, go_sem, Exit.thenS]
 refine wpS_cond (t := false) (by simp [Act.eval, Array.replicate]) ?_
 simp only [Bool.false_eq_true, if_false]
 refine wpS_of_wp (wp_skip ?_)
 cases c₀
 simp_all [bodyPostS, results, Tryz.results137]

theorem Wz (b c : Nat) (hbc : b ≠ c) (x y : Value) (n : Int) (w : World) (hb : w.heap[b]? = some (.cells #[x] 3 (0, 0))) (hc : w.heap[c]? = some (.cells #[y] 30 (0, 0))) :
 CallsD Tryz.prog 137 #[.pointer (some ⟨b, 0, none⟩), .pointer (some ⟨c, 0, none⟩)] (.panicking [{ v := .iface 30 (.int .i64 n), recovered := false }]) w fun e u' w' =>
  e = .returned (.tuple #[]) ∧ u' = .panicking [{ v := .iface 30 (.int .i64 n), recovered := true }] ∧ w' = ((w.setCell ⟨b, 0, none⟩ (.int .i64 0)).setCell ⟨c, 0, none⟩ (.int .i64 n)).drew := by
 refine callsD_of_wpS Tryz.func137 rfl fun c₀ cs hu => ?_
 apply wpS_seq
 apply wpS_region
 simp [wpOpsS, go_sem, recoverD, hu, Tryz.ntmps137, Exit.thenS]
 apply wpS_seq
 apply wpS_region
 simp [wpOpsS, go_sem, Exit.thenS]
 refine wpS_cond (t := true) (by simp [Act.eval, Array.replicate]) ?_
 simp only [if_true]
 refine wpS_of_wp ?_
 have hcb : w.cell? ⟨b, 0, none⟩ = some x := by rw [cell_of_row w b 0 _ _ _ hb]; rfl
 have hcc : w.cell? ⟨c, 0, none⟩ = some y := by rw [cell_of_row w c 0 _ _ _ hc]; rfl
 have fb : w.frozen? ⟨b, 0, none⟩ = false := by simp [World.frozen?, hb]
 have fc : w.frozen? ⟨c, 0, none⟩ = false := by simp [World.frozen?, hc]
 have hta : ∀ w : World, (Instr.typeAssert (.iface 30 (.int .i64 n)) 20 30 false).run Tryz.prog w = .ok (.int .i64 n) w := fun w => by
  simp [Instr.typeAssert, run_underlying Tryz.underlying30]
 go_region
 all_goals
  cases c₀
  simp_all [bodyPostS, results, Tryz.results137]

theorem ND (p q : Addr) (h : H) : CD Tryz.prog 137 #[.pointer (some p), .pointer (some q)] .returning h h .returning :=
 fun _ _ w hok => (TD p q w).mono fun _ _ _ ⟨h1, h2, h3⟩ => ⟨h1, h2, h3 ▸ hok, fun _ _ => by rw [h3]⟩
theorem OS (b c : Nat) (x y : AV) (n : Int) : CD Tryz.prog 137 #[.pointer (some ⟨b, 0, none⟩), .pointer (some ⟨c, 0, none⟩)] (.panicking [{ v := .iface 30 (.int .i64 n), recovered := false }])
 [.cells c 30 [y], .cells b 3 [x]] [.cells c 30 [.int n], .cells b 3 [.val (.int .i64 0)]] (.panicking [{ v := .iface 30 (.int .i64 n), recovered := true }]) := by
 intro cx I w hok
 obtain ⟨u1, d1⟩ := Ent.cells_one (hok.ent (.cells b 3 [x]) (by simp))
 obtain ⟨u2, d2⟩ := Ent.cells_one (hok.ent (.cells c 30 [y]) (by simp))
 have hbc : b ≠ c := by
  have := hok.nd
  simp [blks, Ent.blk] at this
  exact fun e => this e.symm
 refine (Wz b c hbc u1 u2 n w d1 d2).mono ?_
 rintro e u' w' ⟨h1, h2, rfl⟩
 obtain ⟨k1, k2⟩ := Ok.set1 (h1 := [.cells c 30 [y]]) (h2 := []) (v := .int .i64 0) hok
 obtain ⟨k3, k4⟩ := Ok.set1 (h1 := []) (v := .int .i64 n) k1
 exact ⟨h1, h2, k3.same (Ev.drewN 1), fun z hz => (k4 z hz).trans (k2 z hz)⟩
theorem e9 (G : List (Nat × List D)) (bm : Nat) (env S base : List Int) (k v n : Int) (q : Sl) (hS : S.length ≤ 900) (h : c7 k v env S base n) : AC Tryz.prog G 138 [.val (.pointer (some ⟨bm, 0, none⟩)), .agg [.int k, .int v]] [.cells bm 208 [.val q.v, .d (AP env)], AF q.v 3 1 Ag S] (DoQ bm env base n) := by
 rcases h with ⟨rfl, h⟩ | ⟨rfl, rfl, h0, h1, rfl⟩ | ⟨rfl, a, rfl, ha, rfl⟩ | ⟨a, b, rfl, la, lb, h⟩
 · exact do0 G bm env S k v n q (by omega) h
 · exact dov G bm env S v q (by omega) h0 h1
 · simp only [List.length_append, List.length_cons, List.length_nil] at hS
   exact don G bm env base v a q (by omega) ha
 · simp only [List.length_append, List.length_cons, List.length_nil] at hS
   have hm : -2000000000000 ≤ a * b ∧ a * b ≤ 2000000000000 := by
    have h : (a * b).natAbs ≤ 1000000 * 1000000 := by
     rw [Int.natAbs_mul]
     unfold Al at la lb
     exact Nat.mul_le_mul (by omega) (by omega)
    generalize a * b = z at h
    omega
   rcases h with ⟨rfl, rfl⟩ | ⟨rfl, rfl⟩ | ⟨rfl, rfl⟩ | ⟨rfl, rfl⟩ | ⟨rfl, rfl⟩ | ⟨rfl, b1, b2, rfl⟩ | ⟨rfl, b1, b2, rfl⟩
   · exact dS G bm env base v a b q (by omega) la lb (by unfold Al at la lb; omega)
   · exact de G bm env base v a b q (by omega) la lb (by unfold Al at la lb; omega)
   · exact eJ G bm env base v a b q (by omega) la lb hm
   · exact gH G bm env base v a b q (by omega) la lb (by split <;> decide)
   · exact iG G bm env base v a b q (by omega) la lb (by split <;> decide)
   · exact fG G bm env base v a b q (by omega) la lb (by rcases b1 with rfl | rfl <;> rcases b2 with rfl | rfl <;> decide)
   · exact gV G bm env base v a b q (by omega) la lb (by rcases b1 with rfl | rfl <;> rcases b2 with rfl | rfl <;> decide)
theorem Eval (l : List Fo) (env : List Int) : ACr Tryz.prog GP 100 [.d (AN l), .d (AP env)] (.tup [.int (CL l env).1, .int (CL l env).2]) := by
 refine AC.factI (f := Ag) (xs := env) (.there .here) fun hlv => ?_
 have hC := ZZ l env.length
 refine Yh Tryz.f100.ntmps Tryz.func100 rfl rfl (by simp [Tryz.ntmps100]) fun W I => ?_
 have hgood := MM (l := l) (vars := env.length)
 unfold CL
 generalize Cn l env.length = p at hC hgood ⊢
 obtain ⟨t, e⟩ := p
 dsimp only at hC hgood ⊢
 apply EK
 repeat' (first
  | refine ca GU (hC) ?_
  | exact True.intro | refine AJ ?_ | refine two ?_ ?_ | refine AG fun c_ => ?_
  | (refine imp fun hc => ?_) <;> try exact cx1 hc
  | refine all fun v_ => ?_)
 rename_i bn
 rename Nat => be
 apply Bq
 apply EK
 by_cases he : e ≠ 0
 · repeat' (first
    | refine ca GU (hC) ?_
    | exact True.intro | refine AJ ?_ | refine two ?_ ?_ | refine AG fun c_ => ?_
    | (refine imp fun hc => ?_) <;> try exact cx1 hc
    | refine all fun v_ => ?_)
   apply PV
   refine Dh (h0 := []) rfl (by unfold A0; kernel_rfl) (by unfold A0; kernel_rfl) rfl rfl (by exact Ai) (by exact Ai) rfl (List.nil_sublist _) (AV.le_refl _) (AV.le_refl _) ?_
   refine AD ?_
   rw [if_pos he]
 replace he := Decidable.not_not.1 he
 obtain ⟨g, _, hv6⟩ := hgood he
 have h60 := g.h60
 subst he
 rw [if_neg (fun h => h rfl)]
 repeat' (first
  | refine ca GU (hC) ?_
  | exact True.intro | refine AJ ?_ | refine two ?_ ?_ | refine AG fun c_ => ?_
  | (refine imp fun hc => ?_) <;> try exact cx1 hc
  | refine all fun v_ => ?_)
 apply Bq
 dsimp only
 apply EK
 repeat' (first
  | exact True.intro | refine AJ ?_ | refine two ?_ ?_ | refine AG fun c_ => ?_
  | (refine imp fun hc => ?_) <;> try exact cx1 hc
  | refine all fun v_ => ?_)
 refine AL (X := Nat) (fun i => [(0, .d (AN l)), (1, .d (AP env)), (4, .val (.pointer (some ⟨bn, 0, none⟩))), (5, .val (.pointer (some ⟨be, 0, none⟩))), (22, .d (AP env)), (23, .int env.length), (24, .int i)]) (fun _ => [.cells be 30 [.int 0], .cells bn 3 [.int 0]]) (fun i => i ≤ env.length ∧ ∀ (j : Nat) (h : j < env.length), j < i → Al env[j]) (fun i => env.length - i) 0 ⟨Nat.zero_le _, fun _ _ h => absurd h (Nat.not_lt_zero _)⟩ (VS.of_le ?_) ?_
 · exact leD
 rintro i ⟨h1, h2⟩
 by_cases hi : i < env.length
 · by_cases hl : Al env[i]
   · have hl' := hl
     unfold Al at hl'
     repeat' (first
      | exact True.intro | refine AJ ?_ | refine two ?_ ?_ | refine AG fun c_ => ?_
      | (refine imp fun hc => ?_) <;> try exact cx1 hc
      | refine all fun v_ => ?_)
     refine ⟨i + 1, ⟨by omega, fun j hj hji => ?_⟩, by omega, VS.of_le ?_⟩
     · by_cases e : j = i
       · subst e; exact hl
       · exact h2 j hj (by omega)
     · exact leD
   · have hno : ¬ ∀ v ∈ env, Al v := fun h => hl (h _ (List.getElem_mem hi))
     have hl' := hl
     unfold Al at hl'
     rw [if_neg hno]
     repeat' (first
      | exact True.intro | refine AJ ?_ | refine two ?_ ?_ | refine AG fun c_ => ?_
      | (refine imp fun hc => ?_) <;> try exact cx1 hc
      | refine all fun v_ => ?_)
     all_goals
      apply PV
      refine Dh (h0 := []) rfl (by unfold A0; kernel_rfl) (by unfold A0; kernel_rfl) rfl rfl (by exact Ai) (by exact Ai) rfl (List.nil_sublist _) (AV.le_refl _) (AV.le_refl _) ?_
      exact AD rfl
 obtain rfl : i = env.length := by omega
 have henv : ∀ v ∈ env, Al v := fun v hv => by
  obtain ⟨j, hj, rfl⟩ := List.getElem_of_mem hv
  exact h2 j hj hj
 rw [if_pos henv]
 repeat' (first
  | exact True.intro | refine AJ ?_ | refine two ?_ ?_ | refine AG fun c_ => ?_
  | (refine imp fun hc => ?_) <;> try exact cx1 hc
  | refine all fun v_ => ?_)
 apply Bq
 dsimp only
 refine TI (SI (vs := [.pointer (some ⟨bn, 0, none⟩), .pointer (some ⟨be, 0, none⟩)]) rfl rfl ?_)
 apply Bq
 dsimp only
 apply EK
 repeat' (first
  | exact True.intro | refine AJ ?_ | refine two ?_ ?_ | refine AG fun c_ => ?_
  | (refine imp fun hc => ?_) <;> try exact cx1 hc
  | refine all fun v_ => ?_)
 obtain ⟨bm, rfl⟩ : ∃ x, x = v_ := ⟨_, rfl⟩
 apply Bq
 dsimp only
 apply EK
 repeat' (first
  | exact True.intro | refine AJ ?_ | refine two ?_ ?_ | refine AG fun c_ => ?_
  | (refine imp fun hc => ?_) <;> try exact cx1 hc
  | refine all fun v_ => ?_)
 refine AL (X := Nat × List Int × Sl) (fun y => [(0, .d (AN l)), (4, .val (.pointer (some ⟨bn, 0, none⟩))), (5, .val (.pointer (some ⟨be, 0, none⟩))), (10, .val (.pointer (some ⟨bm, 0, none⟩))), (11, .int ((y.1 : Int) - 1))]) (fun y => [.cells bm 208 [.val y.2.2.v, .d (AP env)], AF y.2.2.v 3 1 Ag y.2.1, .cells be 30 [.int 0], .cells bn 3 [.int 0]]) (fun y => y.1 ≤ l.length ∧ Stk l (evF l env) y.1 y.2.1 ∧ ∀ j, y.1 ≤ j → j < l.length → (Cy l env j).isSome) (fun y => y.1) (l.length, [], Sl.nil) ⟨Nat.le_refl _, .nil (Nat.le_refl _), fun j h1 h2 => by dsimp only at h1; omega⟩ (VS.trans (VS.nilrow 3 1) (VS.take (by exact AB) ?_)) ?_
 · exact leD
 rintro ⟨i, S, q⟩ ⟨k1, k2, k3⟩
 dsimp only at k1 k2 k3 ⊢
 have hSl := k2.len g.well k1
 cases i with
 | zero =>
   obtain ⟨S', rfl, hS'⟩ := k2.inv g.pos
   obtain ⟨_, _, hend, _, _⟩ := Cb (l := l) (es := (Az l).1) (Prod.ext rfl g.ends)
   have hE : (Sp.AT l ((0 : Nat) : Int)).1.toNat = l.length := by
    rw [show ((0 : Nat) : Int) = 0 from rfl, hend]; exact Int.toNat_natCast _
   rw [hE] at hS'
   obtain rfl := hS'.fin (Nat.le_refl _)
   have h0 := PQ (k3 0 (Nat.le_refl _) g.pos)
   have hwk : wk l env = (evF l env 0, 0) := by unfold wk; rw [h0]
   rw [hwk]
   generalize evF l env 0 = n
   repeat' (first
    | ((with_reducible apply Au); (focus rfl); (focus exact CC); (focus exact pop GP bm env [] n q (by decide)); (focus exact AS); (focus rfl); (focus exact A8))
    | exact True.intro | refine AJ ?_ | refine two ?_ ?_ | refine AG fun c_ => ?_
    | (refine imp fun hc => ?_) <;> try exact cx1 hc
    | refine all fun v_ => ?_)
   apply Bq
   dsimp only
   apply aC
   repeat' (first
    | ((with_reducible apply Au); (focus rfl); (focus exact CC); (focus exact pop GP bm env [] n q (by decide)); (focus exact AS); (focus rfl); (focus exact A8))
    | exact True.intro | refine AJ ?_ | refine two ?_ ?_ | refine AG fun c_ => ?_
    | (refine imp fun hc => ?_) <;> try exact cx1 hc
    | refine all fun v_ => ?_)
   refine It (by simp) Nv (ND _ _ _) (m := .returning) rfl ?_
   refine Dh (h0 := []) rfl (by unfold A0; kernel_rfl) (by unfold A0; kernel_rfl) rfl rfl (by exact Ai) (by exact Ai) rfl (List.nil_sublist _) (AV.le_refl _) (AV.le_refl _) ?_
   exact AD rfl
 | succ m =>
   have hm : m < l.length := by omega
   have hm1 : ((m + 1 : Nat) : Int) - 1 = (m : Int) := by omega
   obtain ⟨base, n, d, d1, d2⟩ := k2.step g henv hm (fun j h1 h2 => k3 j (by omega) h2)
   have hac := e9 GP bm env S base l[m].kind l[m].val n q (by omega) d
   rw [hm1]
   repeat' (first
    | exact True.intro | refine AJ ?_ | refine two ?_ ?_ | refine AG fun c_ => ?_
    | (refine imp fun hc => ?_) <;> try exact cx1 hc
    | refine all fun v_ => ?_)
   refine SS (hc := [_, _]) rfl cD rfl hac rfl (fun r h' hq => ?_) (fun ch h' hq => ?_)
   · obtain ⟨v, ⟨hl, hr, rfl⟩ | ⟨_, hr, _⟩⟩ := hq
     · cases hr
       simp only [List.cons_append, List.nil_append]
       repeat' (first
        | exact True.intro | refine AJ ?_ | refine two ?_ ?_ | refine AG fun c_ => ?_
        | (refine imp fun hc => ?_) <;> try exact cx1 hc
        | refine all fun v_ => ?_)
       refine ⟨(m, base ++ [n], v), ⟨by dsimp only; omega, (d1 hl).2, fun j h1 h2 => ?_⟩, by dsimp only; omega, VS.of_le ?_⟩
       · by_cases e : j = m
         · subst e; rw [(d1 hl).1]; rfl
         · exact k3 j (by dsimp only at h1; omega) h2
       · exact leD
     · cases hr
   · obtain ⟨v, ⟨_, hr, _⟩ | ⟨hl, hr, rfl⟩⟩ := hq
     · cases hr
     · cases hr
       have hno : Cy l env 0 = none := by
        cases hx : Cy l env 0 with
        | none => rfl
        | some v =>
          obtain ⟨_, _, hend, _, _⟩ := Cb (l := l) (es := (Az l).1) (Prod.ext rfl g.ends)
          have hend' : (Sp.AT l ((0 : Nat) : Int)).1 = l.length := by rw [show ((0 : Nat) : Int) = 0 from rfl, hend]
          have := dy g l.length 0 g.pos (by rw [hend']; omega) (by rw [hx]; rfl) m (Nat.zero_le _) (by rw [hend']; omega)
          rw [d2 hl] at this; exact absurd this (by simp)
       have hwk : wk l env = (0, 8) := by unfold wk; rw [hno]
       rw [hwk]
       simp only [List.cons_append, List.nil_append]
       repeat' (refine stp ?_)
       apply Ju
       refine U3 (VS.take (hc := [.cells be 30 [.int 0], .cells bn 3 [.int 0]]) (by exact AB) (Env.le_refl _)) ?_
       refine It (by simp) Nv (OS bn be _ _ 8) (m := .returning) rfl ?_
       refine Dh (h0 := []) rfl (by unfold A0; kernel_rfl) (by unfold A0; kernel_rfl) rfl rfl (by exact Ai) (by exact Ai) rfl (List.nil_sublist _) (AV.le_refl _) (AV.le_refl _) ?_
       exact AD rfl
end Go.Proofs.YtajnpfgelpkijaaGreatDoor
