/- A bundle of this claim's own texts: N9 N10 G17 N11. -/
import Derived.Test.YtmamiihpghnmmaaDoorZ4
import Derived.Test.YtmamiihpghnmmaaDoorZ9
import Derived.Test.YtmamiihpghnmmaaDoorZ16
import Derived.Test.YtmamiihpghnmmaaDoorZ19
namespace Go.Av
open Go
set_option linter.unusedVariables false
set_option linter.unusedSimpArgs false
section
variable {k : Kx} {Q : Exit → Env → H → Prop} {ρ : Env} {h h' : H} {ops : Array Oper} {l : List Oper} {ty : TypeId} {pos : String} {after : Array Edge}
theorem js_insS {α : Type} [DecidableEq α] {kd : TypeDesc} {kv : α → Value} (K : KeyK kd kv) {T KT ET : TypeId} {x y u : Operand} {b : Nat} {xs : List α} {a : α}
    (hx : evO ρ x = some (.val (.map (some b)))) (hy : evO ρ y = some (.val (kv a))) (hv : evO ρ u = some (.agg [])) (hT : k.P.underlying T = some (.map KT ET)) (hK : k.P.underlying KT = some kd)
    (hu : Upd (.raw b (setO kv xs)) (.raw b (setO kv (xs ++ [a]))) h h') (hno : a ∉ xs)
    (hj : JL k ops l Q ρ h') : JL k ops (⟨none, .insert T x y u, ty, pos, after, none⟩ :: l) Q ρ h := by
  have hno' : getM (xs.map fun x => (x, ())) a = none := getM_no fun p hp => by
    obtain ⟨x, hx, rfl⟩ := List.mem_map.1 hp
    exact fun e => hno (by subst e; exact hx)
  have hu' : Upd (.raw b (mapO (entL kv (fun _ : Unit => .agg #[]) (xs.map fun x => (x, ()))))) (.raw b (mapO (entL kv (fun _ : Unit => .agg #[]) (xs.map (fun x => (x, ())) ++ [(a, ())])))) h h' := by
    have := hu
    unfold setO at this
    rwa [List.map_append] at this
  refine js_insMr K hx hy hv (fun w I v hr => ?_) hT hK hu' hno' hj
  obtain ⟨vs, e, r⟩ := hr
  cases vs with
  | nil => exact e
  | cons _ _ => exact r.elim
theorem jrow_int1 {d : Nat} {T E : TypeId} {x : Operand} {a : Int} {z : Value} {eb : Nat} (h0 : evO ρ x = some (.int a)) (hT : k.P.underlying T = some (.slice E)) (he : El k.P E z 1 eb)
    (hd : Nat.blt d k.n = true) (hj : All fun q : Sl => JL k ops l Q ((d, .val q.v) :: ρ) (rowE q.v E 1 Sp.intC [a] :: h)) : JL k ops (⟨some d, .buildSlice T 1 #[(0, x)], ty, pos, after, none⟩ :: l) Q ρ h := by
  refine JL_buildRow (f := Sp.intC) (ys := [a]) (xs := [x]) hT he (by decide) (by simp) rfl ?_ ?_ (fun _ => rfl) (by simp) hd ⟨fun v => JL_slice (h1 := []) rfl fun q e => by subst e; exact hj.get q⟩
  · simp only [List.map_cons, List.map_nil, ev_of_evO h0]; rfl
  · intro x hx
    simp only [List.mem_cons, List.not_mem_nil, or_false] at hx
    rw [hx, ev_of_evO h0]; rfl
end
end Go.Av
namespace Go.Proofs.YtmamiihpghnmmaaDoor
open Go Go.Av Go.Sp
set_option linter.unusedVariables false
set_option linter.unusedSimpArgs false
set_option maxRecDepth 100000
set_option maxHeartbeats 4000000
theorem cal_Reach : Cal Tryd.prog 28 := Cal.of Tryd.func28 (by kernel_rfl) (by kernel_rfl)
theorem Reach (m : Md) : ACr Tryd.prog GP 28 [mdA m] (.tup [.d (intsD (reachF m).1), .int (reachF m).2]) := by
  have hF := First m
  refine AC_ofV (ts := [2, 3]) Tryd.f28.ntmps Tryd.func28 rfl rfl rfl (by simp [Tryd.ntmps28]) fun W I => ?_
  unfold reachF
  by_cases h0 : modelF m ≠ 0
  · have hc : codeF m (inits m) = (0, modelF m) := by unfold codeF; rw [if_pos h0]
    rw [hc] at hF
    rw [if_pos h0]
    dsimp only at hF ⊢
    generalize modelF m = e at hF h0 ⊢
    all_goals haveI fA_ : FlagA := ⟨⟩
    all_goals haveI fH_ : FlagH := ⟨⟩
    repeat' (first
      | ((with_reducible apply call0); (focus rfl); (focus exact cal_First); (focus exact hF); (focus rfl))
      | ((with_reducible apply je_call0); (focus rfl); (focus (decide +kernel)); (focus rfl); (focus exact cal_First); (focus exact hF); (focus rfl))
      | exact True.intro
      | refine stp ?_
      | refine two ?_ ?_
      | refine allc fun c_ => ?_
      | (refine imp fun hc => ?_) <;> try (first | contradiction | (exfalso; omega) | (exfalso; exact absurd (of_dT hc) (by assumption)) | (exfalso; exact of_dF hc (by assumption)))
      | refine all fun v_ => ?_)
    all_goals clear fA_ fH_
    refine retv (VS.trans (VS.drop (List.nil_sublist _)) (vnil (t := 2) 1 8 rfl)) ?_
    ((with_reducible apply rq2); rfl; rfl; rfl)
    exact ret_eq rfl
  rw [if_neg h0]
  replace h0 := Decidable.not_not.1 h0
  obtain ⟨n, hn, n1, n2⟩ := states_nat h0
  obtain ⟨f1, f2, f3⟩ := first_ok h0
  have hF : ACr Tryd.prog GP 48 [mdA m] (.tup [.int (firstF m), .int 0]) := by
    rw [f1] at hF; exact hF
  rw [hn, Int.toNat_natCast]
  have hS := RM.start h0 hn
  generalize hfm : firstF m = fst at hF hS
  all_goals haveI fA_ : FlagA := ⟨⟩
  all_goals haveI fH_ : FlagH := ⟨⟩
  repeat' (first
    | ((with_reducible apply call0); (focus rfl); (focus exact cal_First); (focus exact hF); (focus rfl))
    | ((with_reducible apply je_call0); (focus rfl); (focus (decide +kernel)); (focus rfl); (focus exact cal_First); (focus exact hF); (focus rfl))
    | ((with_reducible apply (jmkset (Value.int .i64))); (focus rfl))
    | ((with_reducible apply jp); (focus ((with_reducible apply (pu_lookS (keyK_int .i64))); rfl; rfl; rfl; rfl; (focus (with_reducible exact ElC.h)); (focus ((repeat (first | exact List.mem_cons_self | apply List.mem_cons_of_mem)); done)))); (focus rfl))
    | ((with_reducible apply (js_putS (keyK_int .i64))); (focus rfl); (focus rfl); (focus rfl); (focus rfl); (focus rfl); (focus ((repeat (first | with_reducible exact Upd.here | with_reducible apply Upd.there)); done)); (focus assumption))
    | exact True.intro
    | refine stp ?_
    | refine two ?_ ?_
    | refine allc fun c_ => ?_
    | (refine imp fun hc => ?_) <;> try (first | contradiction | (exfalso; omega) | (exfalso; exact absurd (of_dT hc) (by assumption)) | (exfalso; exact of_dF hc (by assumption)))
    | refine all fun v_ => ?_)
  all_goals clear fA_ fH_
  refine js_insS (kv := Value.int .i64) (a := fst) (keyK_int .i64) rfl rfl rfl rfl rfl (by ((repeat (first | with_reducible exact Upd.here | with_reducible apply Upd.there)); done)) List.not_mem_nil ?_
  repeat (first | with_reducible refine tq_normal ?_ | with_reducible refine J_seq ?_ | with_reducible refine J_region ?_ | with_reducible refine JL_nil ?_ | refine jp (pu_move rfl) rfl ?_ | refine jp (pu_assign rfl) rfl ?_)
  refine jrow_int1 (a := fst) rfl rfl (by (with_reducible exact ElC.h)) rfl ?_
  all_goals haveI fA_ : FlagA := ⟨⟩
  all_goals haveI fH_ : FlagH := ⟨⟩
  repeat' (first
    | ((with_reducible apply call0); (focus rfl); (focus exact cal_First); (focus exact hF); (focus rfl))
    | ((with_reducible apply je_call0); (focus rfl); (focus (decide +kernel)); (focus rfl); (focus exact cal_First); (focus exact hF); (focus rfl))
    | ((with_reducible apply (jmkset (Value.int .i64))); (focus rfl))
    | ((with_reducible apply jp); (focus ((with_reducible apply (pu_lookS (keyK_int .i64))); rfl; rfl; rfl; rfl; (focus (with_reducible exact ElC.h)); (focus ((repeat (first | exact List.mem_cons_self | apply List.mem_cons_of_mem)); done)))); (focus rfl))
    | ((with_reducible apply (js_putS (keyK_int .i64))); (focus rfl); (focus rfl); (focus rfl); (focus rfl); (focus rfl); (focus ((repeat (first | with_reducible exact Upd.here | with_reducible apply Upd.there)); done)); (focus assumption))
    | exact True.intro
    | refine stp ?_
    | refine two ?_ ?_
    | refine allc fun c_ => ?_
    | (refine imp fun hc => ?_) <;> try (first | contradiction | (exfalso; omega) | (exfalso; exact absurd (of_dT hc) (by assumption)) | (exfalso; exact of_dF hc (by assumption)))
    | refine all fun v_ => ?_)
  all_goals clear fA_ fH_
  obtain ⟨q0, rfl⟩ : ∃ x, x = v_ := ⟨v_, rfl⟩
  obtain ⟨bs, rfl⟩ : ∃ x, x = v_ := ⟨v_, rfl⟩
  obtain ⟨bm, rfl⟩ : ∃ x, x = v_ := ⟨v_, rfl⟩
  refine J_loopV (X := Nat × Sl × List Int) (fun y => [(1, .val (.pointer (some ⟨bm, 0, none⟩))), (6, .val (.map (some bs))), (7, .val y.2.1.v), (8, .int y.1)]) (fun y => [rowE y.2.1.v 3 1 intC y.2.2, .raw bs (setO (Value.int .i64) y.2.2), .cells bm 25 [.d (varsD m.vars), .d (rulesD m.rules)]]) (fun y => y.1 ≤ y.2.2.length ∧ RM m n y.1 y.2.2) (fun y => n - y.1) (0, q0, [fst]) ⟨Nat.zero_le _, hS⟩ (VS.take (by ((repeat (first | exact Take.nil | ((with_reducible apply Take.cons); (focus ((repeat (first | exact Sel.here | with_reducible apply Sel.there)); done))))); done)) ?_) ?_
  · repeat (first
      | exact Env.le_nil _
      | refine Env.le_cons (AV.le_refl _) ?_
      | refine Env.le_cons (AV.le_int rfl (by first | rfl | omega | (dsimp only; omega))) ?_)
  rintro ⟨i, q, xs⟩ ⟨hi, hr⟩
  dsimp only at hi hr ⊢
  have hlen := hr.len
  by_cases hil : i < xs.length
  · have hN := Next m xs[i]
    have hnx := hr.next hil
    have hadd : ∀ ys y, RM m n i ys → (h : i < ys.length) → ys[i] = xs[i] → y ∈ (nextF m xs[i]).1 → y ∉ ys → RM m n i (ys ++ [y]) := fun ys y r h e hy hno => r.add h0 hn h (by rw [e]; exact hy) hno
    have hfin : ∀ ys, RM m n i ys → (h : i < ys.length) → ys[i] = xs[i] → (∀ y ∈ (nextF m xs[i]).1, y ∈ ys) → RM m n (i + 1) ys := fun ys r h e hy => r.next h (by rw [e]; exact hy)
    clear hnx
    generalize nextF m xs[i] = p at hN hadd hfin
    obtain ⟨ns, e⟩ := p
    dsimp only at hN hadd hfin
    all_goals haveI fA_ : FlagA := ⟨⟩
    all_goals haveI fH_ : FlagH := ⟨⟩
    repeat' (first
      | ((with_reducible apply call0); (focus rfl); (focus exact cal_Next); (focus exact hN); (focus rfl))
      | ((with_reducible apply je_call0); (focus rfl); (focus (decide +kernel)); (focus rfl); (focus exact cal_Next); (focus exact hN); (focus rfl))
      | exact True.intro
      | refine stp ?_
      | refine two ?_ ?_
      | refine allc fun c_ => ?_
      | (refine imp fun hc => ?_) <;> try (first | contradiction | (exfalso; omega) | (exfalso; exact absurd (of_dT hc) (by assumption)) | (exfalso; exact of_dF hc (by assumption)))
      | refine all fun v_ => ?_)
    all_goals clear fA_ fH_
    refine jfact (t := 44) rfl fun hnl => ?_
    refine J_loopV (X := Nat × Sl × List Int) (fun y => [(1, .val (.pointer (some ⟨bm, 0, none⟩))), (6, .val (.map (some bs))), (7, .val y.2.1.v), (8, .int i), (44, .d (intsD ns)), (45, .int ns.length), (46, .int y.1)]) (fun y => [rowE y.2.1.v 3 1 intC y.2.2, .raw bs (setO (Value.int .i64) y.2.2), .cells bm 25 [.d (varsD m.vars), .d (rulesD m.rules)]]) (fun y => y.1 ≤ ns.length ∧ RM m n i y.2.2 ∧ (∃ h : i < y.2.2.length, y.2.2[i] = xs[i]) ∧ ∀ z ∈ ns.take y.1, z ∈ y.2.2) (fun y => ns.length - y.1) (0, q, xs) ⟨Nat.zero_le _, hr, ⟨hil, rfl⟩, fun z hz => (by cases hz)⟩ (VS.take (by ((repeat (first | exact Take.nil | ((with_reducible apply Take.cons); (focus ((repeat (first | exact Sel.here | with_reducible apply Sel.there)); done))))); done)) ?_) ?_
    · repeat (first
        | exact Env.le_nil _
        | refine Env.le_cons (AV.le_refl _) ?_
        | refine Env.le_cons (AV.le_int rfl (by first | rfl | omega | (dsimp only; omega))) ?_)
    rintro ⟨k, q, ys⟩ ⟨hk, hry, ⟨hiy, hye⟩, hin⟩
    dsimp only at hk hry hiy hye hin ⊢
    have hylen := hry.len
    by_cases hkl : k < ns.length
    · have htk : ∀ z, z ∈ ns.take (k + 1) → z ∈ ns.take k ∨ z = ns[k] := fun z h => by
        rw [List.take_succ_eq_append_getElem hkl] at h
        rcases List.mem_append.1 h with h | h
        · exact .inl h
        · exact .inr (List.mem_singleton.1 h)
      by_cases hm : ns[k] ∈ ys
      · all_goals haveI fA_ : FlagA := ⟨⟩
        all_goals haveI fH_ : FlagH := ⟨⟩
        repeat' (first
          | ((with_reducible apply (jmkset (Value.int .i64))); (focus rfl))
          | ((with_reducible apply jp); (focus ((with_reducible apply (pu_lookS (keyK_int .i64))); rfl; rfl; rfl; rfl; (focus (with_reducible exact ElC.h)); (focus ((repeat (first | exact List.mem_cons_self | apply List.mem_cons_of_mem)); done)))); (focus rfl))
          | ((with_reducible apply (js_putS (keyK_int .i64))); (focus rfl); (focus rfl); (focus rfl); (focus rfl); (focus rfl); (focus ((repeat (first | with_reducible exact Upd.here | with_reducible apply Upd.there)); done)); (focus assumption))
          | exact True.intro
          | refine stp ?_
          | refine two ?_ ?_
          | refine allc fun c_ => ?_
          | (refine imp fun hc => ?_) <;> try (first | contradiction | (exfalso; omega) | (exfalso; exact absurd (of_dT hc) (by assumption)) | (exfalso; exact of_dF hc (by assumption)))
          | refine all fun v_ => ?_)
        all_goals clear fA_ fH_
        refine ⟨(k + 1, q, ys), ⟨by dsimp only; omega, hry, ⟨hiy, hye⟩, fun z hz => ?_⟩, by dsimp only; omega, VS.take (by ((repeat (first | exact Take.nil | ((with_reducible apply Take.cons); (focus ((repeat (first | exact Sel.here | with_reducible apply Sel.there)); done))))); done)) ?_⟩
        · rcases htk z hz with h | rfl
          · exact hin z h
          · exact hm
        · repeat (first
            | exact Env.le_nil _
            | refine Env.le_cons (AV.le_refl _) ?_
            | refine Env.le_cons (AV.le_int rfl (by first | rfl | omega | (dsimp only; omega))) ?_)
      · have hr2 := hadd ys ns[k] hry hiy hye (List.getElem_mem hkl) hm
        all_goals haveI fA_ : FlagA := ⟨⟩
        all_goals haveI fH_ : FlagH := ⟨⟩
        repeat' (first
          | ((with_reducible apply (jmkset (Value.int .i64))); (focus rfl))
          | ((with_reducible apply jp); (focus ((with_reducible apply (pu_lookS (keyK_int .i64))); rfl; rfl; rfl; rfl; (focus (with_reducible exact ElC.h)); (focus ((repeat (first | exact List.mem_cons_self | apply List.mem_cons_of_mem)); done)))); (focus rfl))
          | ((with_reducible apply (js_putS (keyK_int .i64))); (focus rfl); (focus rfl); (focus rfl); (focus rfl); (focus rfl); (focus ((repeat (first | with_reducible exact Upd.here | with_reducible apply Upd.there)); done)); (focus assumption))
          | exact True.intro
          | refine stp ?_
          | refine two ?_ ?_
          | refine allc fun c_ => ?_
          | (refine imp fun hc => ?_) <;> try (first | contradiction | (exfalso; omega) | (exfalso; exact absurd (of_dT hc) (by assumption)) | (exfalso; exact of_dF hc (by assumption)))
          | refine all fun v_ => ?_)
        all_goals clear fA_ fH_
        refine ⟨(k + 1, v_, ys ++ [ns[k]]), ⟨by dsimp only; omega, hr2, ⟨by simp; omega, by dsimp only; rw [List.getElem_append_left hiy]; exact hye⟩, fun z hz => ?_⟩, by dsimp only; omega, VS.take (by ((repeat (first | exact Take.nil | ((with_reducible apply Take.cons); (focus ((repeat (first | exact Sel.here | with_reducible apply Sel.there)); done))))); done)) ?_⟩
        · rcases htk z hz with h | rfl
          · exact List.mem_append_left _ (hin z h)
          · exact List.mem_append_right _ (List.mem_singleton.2 rfl)
        · repeat (first
            | exact Env.le_nil _
            | refine Env.le_cons (AV.le_refl _) ?_
            | refine Env.le_cons (AV.le_int rfl (by first | rfl | omega | (dsimp only; omega))) ?_)
    obtain rfl : k = ns.length := by omega
    rw [List.take_length] at hin
    have hr3 := hfin ys hry hiy hye hin
    all_goals haveI fA_ : FlagA := ⟨⟩
    all_goals haveI fH_ : FlagH := ⟨⟩
    repeat' (first
      | exact True.intro
      | refine stp ?_
      | refine two ?_ ?_
      | refine allc fun c_ => ?_
      | (refine imp fun hc => ?_) <;> try (first | contradiction | (exfalso; omega) | (exfalso; exact absurd (of_dT hc) (by assumption)) | (exfalso; exact of_dF hc (by assumption)))
      | refine all fun v_ => ?_)
    all_goals clear fA_ fH_
    refine ⟨(i + 1, q, ys), ⟨by dsimp only; omega, hr3⟩, by dsimp only; omega, VS.take (by ((repeat (first | exact Take.nil | ((with_reducible apply Take.cons); (focus ((repeat (first | exact Sel.here | with_reducible apply Sel.there)); done))))); done)) ?_⟩
    repeat (first
      | exact Env.le_nil _
      | refine Env.le_cons (AV.le_refl _) ?_
      | refine Env.le_cons (AV.le_int rfl (by first | rfl | omega | (dsimp only; omega))) ?_)
  have hfin := hr.fin h0 (by omega)
  all_goals haveI fA_ : FlagA := ⟨⟩
  all_goals haveI fH_ : FlagH := ⟨⟩
  repeat' (first
    | ((with_reducible apply callG); (focus rfl); (focus exact cal_SortI); (focus exact SortU GP q xs (by omega)); (focus ((repeat (first | with_reducible exact Take.nil | ((with_reducible apply Take.cons); (focus ((repeat (first | with_reducible exact Sel.here | with_reducible apply Sel.there)); done))))); done)); (focus rfl); (focus (intro v_; (repeat (first | exact App.nil | apply App.cons)); done)))
    | exact True.intro
    | refine stp ?_
    | refine two ?_ ?_
    | refine allc fun c_ => ?_
    | (refine imp fun hc => ?_) <;> try (first | contradiction | (exfalso; omega) | (exfalso; exact absurd (of_dT hc) (by assumption)) | (exfalso; exact of_dF hc (by assumption)))
    | refine all fun v_ => ?_)
  all_goals clear fA_ fH_
  rw [hfin]
  have hrl : (reachL m n).length ≤ n := by rw [← hfin, sortI_length]; exact hlen
  refine retv (VS.trans (vfreeze (t := 2) (eb := 8) rfl rfl (fun x => rfl) (by omega)) (VS.drop (List.nil_sublist _))) ?_
  ((with_reducible apply rq2); rfl; rfl; rfl)
  exact ret_eq rfl
end Go.Proofs.YtmamiihpghnmmaaDoor
namespace Go.Proofs.YtmamiihpghnmmaaDoor
open Go Go.Av Go.Sp
set_option linter.unusedVariables false
set_option linter.unusedSimpArgs false
set_option maxRecDepth 100000
set_option maxHeartbeats 4000000
theorem cal_ReachOf : Cal Tryd.prog 29 := Cal.of Tryd.func29 (by kernel_rfl) (by kernel_rfl)
theorem ReachOf (G : List (Nat × List D)) (m : Md) : ACr Tryd.prog G 29 [mdA m] (.tup [.d (intsD (reachF m).1), .int (reachF m).2]) := by
  have hF := FirstCode G m
  have hC := StateCount G m
  refine AC_ofV (ts := [2, 3]) Tryd.f29.ntmps Tryd.func29 rfl rfl rfl (by simp [Tryd.ntmps29]) fun W I => ?_
  unfold reachF
  unfold countF at hC
  by_cases h0 : modelF m ≠ 0
  · have hc : codeF m (inits m) = (0, modelF m) := by unfold codeF; rw [if_pos h0]
    rw [hc] at hF
    rw [if_pos h0]
    dsimp only at hF ⊢
    generalize modelF m = e at hF h0 ⊢
    all_goals haveI fA_ : FlagA := ⟨⟩
    all_goals haveI fH_ : FlagH := ⟨⟩
    repeat' (first
      | ((with_reducible apply call0); (focus rfl); (focus exact cal_FirstCode); (focus exact hF); (focus rfl))
      | ((with_reducible apply je_call0); (focus rfl); (focus (decide +kernel)); (focus rfl); (focus exact cal_FirstCode); (focus exact hF); (focus rfl))
      | exact True.intro
      | refine stp ?_
      | refine two ?_ ?_
      | refine allc fun c_ => ?_
      | (refine imp fun hc => ?_) <;> try (first | contradiction | (exfalso; omega) | (exfalso; exact absurd (of_dT hc) (by assumption)) | (exfalso; exact of_dF hc (by assumption)))
      | refine all fun v_ => ?_)
    all_goals clear fA_ fH_
    refine retv (VS.trans (VS.drop (List.nil_sublist _)) (vnil (t := 2) 1 8 rfl)) ?_
    ((with_reducible apply rq2); rfl; rfl; rfl)
    exact ret_eq rfl
  rw [if_neg h0] at hC ⊢
  replace h0 := Decidable.not_not.1 h0
  obtain ⟨n, hn, n1, n2⟩ := states_nat h0
  obtain ⟨f1, f2, f3⟩ := first_ok h0
  have hF : ACr Tryd.prog G 51 [mdA m] (.tup [.int (firstF m), .int 0]) := by
    rw [f1] at hF; exact hF
  rw [hn] at hC f3
  rw [hn, Int.toNat_natCast]
  dsimp only at hC
  have hto := nxM_lt h0 hn
  have hrg := nextF_range h0
  rw [hn] at hrg
  have hup := fun st => upS_reach (m := m) (n := n) (st := st)
  generalize firstF m = fst at hF f2 f3 hup
  all_goals haveI fA_ : FlagA := ⟨⟩
  all_goals haveI fH_ : FlagH := ⟨⟩
  repeat' (first
    | ((with_reducible apply call0); (focus rfl); (focus exact cal_FirstCode); (focus exact hF); (focus rfl))
    | ((with_reducible apply je_call0); (focus rfl); (focus (decide +kernel)); (focus rfl); (focus exact cal_FirstCode); (focus exact hF); (focus rfl))
    | ((with_reducible apply call0); (focus rfl); (focus exact cal_StateCount); (focus exact hC); (focus rfl))
    | ((with_reducible apply je_call0); (focus rfl); (focus (decide +kernel)); (focus rfl); (focus exact cal_StateCount); (focus exact hC); (focus rfl))
    | exact True.intro
    | refine stp ?_
    | refine two ?_ ?_
    | refine allc fun c_ => ?_
    | (refine imp fun hc => ?_) <;> try (first | contradiction | (exfalso; omega) | (exfalso; exact absurd (of_dT hc) (by assumption)) | (exfalso; exact of_dF hc (by assumption)))
    | refine all fun v_ => ?_)
  all_goals clear fA_ fH_
  obtain ⟨bi, rfl⟩ : ∃ x, x = v_ := ⟨v_, rfl⟩
  obtain ⟨bm, rfl⟩ : ∃ x, x = v_ := ⟨v_, rfl⟩
  have hfr : fst.toNat < n := by omega
  have hF0 : FI (nxM m) n [fst.toNat] none ((List.replicate n (0 : Int)).set fst.toNat 1) := by
    have hg : ∀ v, gi ((List.replicate n (0 : Int)).set fst.toNat 1) v = if v = fst.toNat then 1 else 0 := fun v => by
      rw [gi_set _ _ _ _ (by simpa using hfr), gi_rep]
    refine ⟨by simp, fun v => ?_, fun v hv => ?_, fun v hv => ?_, fun v hv => ?_⟩
    · rw [hg]; split
      · exact .inr (.inl rfl)
      · exact .inl rfl
    · rw [hg] at hv
      by_cases e : v = fst.toNat
      · exact ⟨_, List.mem_singleton.2 rfl, e ▸ .refl _⟩
      · rw [if_neg e] at hv; exact absurd rfl hv
    · rw [hg, if_pos (List.mem_singleton.1 hv)]; decide
    · rw [hg] at hv
      split at hv
      · exact absurd hv (by decide)
      · exact absurd hv (by decide)
  generalize (List.replicate n (0 : Int)).set fst.toNat 1 = st0 at hF0 ⊢
  refine J_loopV (X := List Int × Bool) (fun y => [(1, .val (.pointer (some ⟨bm, 0, none⟩))), (6, .int n), (8, .val (.slice (some ⟨bi, 0, none⟩) n n)), (9, .bool y.2)]) (fun y => [.cells bi 3 (y.1.map AV.int), .cells bm 25 [.d (varsD m.vars), .d (rulesD m.rules)]]) (fun y => FI (nxM m) n [fst.toNat] none y.1 ∧ (y.2 = false → ∀ i, i < n → gi y.1 i ≠ 1)) (fun y => 2 * not2 y.1 + (if y.2 then 1 else 0)) (st0, true) ⟨hF0, fun h => by cases h⟩ (VS.take (by ((repeat (first | exact Take.nil | ((with_reducible apply Take.cons); (focus ((repeat (first | exact Sel.here | with_reducible apply Sel.there)); done))))); done)) ?_) ?_
  · repeat (first
      | exact Env.le_nil _
      | refine Env.le_cons (AV.le_refl _) ?_
      | refine Env.le_cons (AV.le_int rfl (by first | rfl | omega | (dsimp only; omega))) ?_)
  clear hF0
  rintro ⟨st, ag⟩ ⟨k1, k2⟩
  dsimp only at k1 k2 ⊢
  have hl := k1.len
  cases ag with
  | false =>
    have hfin := hup st (k1.all (k2 rfl) hto)
    rw [← hfin]
    all_goals haveI fA_ : FlagA := ⟨⟩
    all_goals haveI fH_ : FlagH := ⟨⟩
    repeat' (first
      | ((with_reducible apply call0); (focus rfl); (focus exact cal_FirstCode); (focus exact hF); (focus rfl))
      | ((with_reducible apply je_call0); (focus rfl); (focus (decide +kernel)); (focus rfl); (focus exact cal_FirstCode); (focus exact hF); (focus rfl))
      | ((with_reducible apply call0); (focus rfl); (focus exact cal_StateCount); (focus exact hC); (focus rfl))
      | ((with_reducible apply je_call0); (focus rfl); (focus (decide +kernel)); (focus rfl); (focus exact cal_StateCount); (focus exact hC); (focus rfl))
      | exact True.intro
      | refine stp ?_
      | refine two ?_ ?_
      | refine allc fun c_ => ?_
      | (refine imp fun hc => ?_) <;> try (first | contradiction | (exfalso; omega) | (exfalso; exact absurd (of_dT hc) (by assumption)) | (exfalso; exact of_dF hc (by assumption)))
      | refine all fun v_ => ?_)
    all_goals clear fA_ fH_
    refine jrow (E := 3) (sz := 1) intC ?_
    refine J_loopV (X := Nat × Sl) (fun y => [(6, .int n), (8, .val (.slice (some ⟨bi, 0, none⟩) n n)), (14, .val y.2.v), (15, .int y.1)]) (fun y => [rowE y.2.v 3 1 intC (upS y.1 st), .cells bi 3 (st.map AV.int)]) (fun y => y.1 ≤ n) (fun y => n - y.1) (0, Sl.nil) (Nat.zero_le _) (VS.take (by ((repeat (first | exact Take.nil | ((with_reducible apply Take.cons); (focus ((repeat (first | exact Sel.here | with_reducible apply Sel.there)); done))))); done)) ?_) ?_
    · repeat (first
        | exact Env.le_nil _
        | refine Env.le_cons (AV.le_refl _) ?_
        | refine Env.le_cons (AV.le_int rfl (by first | rfl | omega | (dsimp only; omega))) ?_)
    rintro ⟨k, q⟩ hk
    dsimp only at hk ⊢
    have hul := upS_len k st
    by_cases hkn : k < n
    · have hgk := gi_get st k (by omega)
      by_cases hpos : 0 < st[k]
      · have hu := upS_yes (k := k) (st := st) (by rw [hgk]; exact hpos)
        all_goals haveI fA_ : FlagA := ⟨⟩
        all_goals haveI fH_ : FlagH := ⟨⟩
        repeat' (first
          | ((with_reducible apply call0); (focus rfl); (focus exact cal_FirstCode); (focus exact hF); (focus rfl))
          | ((with_reducible apply je_call0); (focus rfl); (focus (decide +kernel)); (focus rfl); (focus exact cal_FirstCode); (focus exact hF); (focus rfl))
          | ((with_reducible apply call0); (focus rfl); (focus exact cal_StateCount); (focus exact hC); (focus rfl))
          | ((with_reducible apply je_call0); (focus rfl); (focus (decide +kernel)); (focus rfl); (focus exact cal_StateCount); (focus exact hC); (focus rfl))
          | exact True.intro
          | refine stp ?_
          | refine two ?_ ?_
          | refine allc fun c_ => ?_
          | (refine imp fun hc => ?_) <;> try (first | contradiction | (exfalso; omega) | (exfalso; exact absurd (of_dT hc) (by assumption)) | (exfalso; exact of_dF hc (by assumption)))
          | refine all fun v_ => ?_)
        all_goals clear fA_ fH_
        refine ⟨(k + 1, v_), by dsimp only; omega, by dsimp only; omega, VS.take (by dsimp only; rw [hu]; ((repeat (first | exact Take.nil | ((with_reducible apply Take.cons); (focus ((repeat (first | exact Sel.here | with_reducible apply Sel.there)); done))))); done)) ?_⟩
        repeat (first
          | exact Env.le_nil _
          | refine Env.le_cons (AV.le_refl _) ?_
          | refine Env.le_cons (AV.le_int rfl (by first | rfl | omega | (dsimp only; omega))) ?_)
      · have hu := upS_no (k := k) (st := st) (by rw [hgk]; exact hpos)
        all_goals haveI fA_ : FlagA := ⟨⟩
        all_goals haveI fH_ : FlagH := ⟨⟩
        repeat' (first
          | ((with_reducible apply call0); (focus rfl); (focus exact cal_FirstCode); (focus exact hF); (focus rfl))
          | ((with_reducible apply je_call0); (focus rfl); (focus (decide +kernel)); (focus rfl); (focus exact cal_FirstCode); (focus exact hF); (focus rfl))
          | ((with_reducible apply call0); (focus rfl); (focus exact cal_StateCount); (focus exact hC); (focus rfl))
          | ((with_reducible apply je_call0); (focus rfl); (focus (decide +kernel)); (focus rfl); (focus exact cal_StateCount); (focus exact hC); (focus rfl))
          | exact True.intro
          | refine stp ?_
          | refine two ?_ ?_
          | refine allc fun c_ => ?_
          | (refine imp fun hc => ?_) <;> try (first | contradiction | (exfalso; omega) | (exfalso; exact absurd (of_dT hc) (by assumption)) | (exfalso; exact of_dF hc (by assumption)))
          | refine all fun v_ => ?_)
        all_goals clear fA_ fH_
        refine ⟨(k + 1, q), by dsimp only; omega, by dsimp only; omega, VS.take (by dsimp only; rw [hu]; ((repeat (first | exact Take.nil | ((with_reducible apply Take.cons); (focus ((repeat (first | exact Sel.here | with_reducible apply Sel.there)); done))))); done)) ?_⟩
        repeat (first
          | exact Env.le_nil _
          | refine Env.le_cons (AV.le_refl _) ?_
          | refine Env.le_cons (AV.le_int rfl (by first | rfl | omega | (dsimp only; omega))) ?_)
    obtain rfl : k = n := by omega
    all_goals haveI fA_ : FlagA := ⟨⟩
    all_goals haveI fH_ : FlagH := ⟨⟩
    repeat' (first
      | ((with_reducible apply call0); (focus rfl); (focus exact cal_FirstCode); (focus exact hF); (focus rfl))
      | ((with_reducible apply je_call0); (focus rfl); (focus (decide +kernel)); (focus rfl); (focus exact cal_FirstCode); (focus exact hF); (focus rfl))
      | ((with_reducible apply call0); (focus rfl); (focus exact cal_StateCount); (focus exact hC); (focus rfl))
      | ((with_reducible apply je_call0); (focus rfl); (focus (decide +kernel)); (focus rfl); (focus exact cal_StateCount); (focus exact hC); (focus rfl))
      | exact True.intro
      | refine stp ?_
      | refine two ?_ ?_
      | refine allc fun c_ => ?_
      | (refine imp fun hc => ?_) <;> try (first | contradiction | (exfalso; omega) | (exfalso; exact absurd (of_dT hc) (by assumption)) | (exfalso; exact of_dF hc (by assumption)))
      | refine all fun v_ => ?_)
    all_goals clear fA_ fH_
    refine retv (VS.trans (vfreeze (t := 2) (eb := 8) rfl rfl (fun x => rfl) (by omega)) (VS.drop (List.nil_sublist _))) ?_
    ((with_reducible apply rq2); rfl; rfl; rfl)
    exact ret_eq rfl
  | true =>
    all_goals haveI fA_ : FlagA := ⟨⟩
    all_goals haveI fH_ : FlagH := ⟨⟩
    repeat' (first
      | ((with_reducible apply call0); (focus rfl); (focus exact cal_FirstCode); (focus exact hF); (focus rfl))
      | ((with_reducible apply je_call0); (focus rfl); (focus (decide +kernel)); (focus rfl); (focus exact cal_FirstCode); (focus exact hF); (focus rfl))
      | ((with_reducible apply call0); (focus rfl); (focus exact cal_StateCount); (focus exact hC); (focus rfl))
      | ((with_reducible apply je_call0); (focus rfl); (focus (decide +kernel)); (focus rfl); (focus exact cal_StateCount); (focus exact hC); (focus rfl))
      | exact True.intro
      | refine stp ?_
      | refine two ?_ ?_
      | refine allc fun c_ => ?_
      | (refine imp fun hc => ?_) <;> try (first | contradiction | (exfalso; omega) | (exfalso; exact absurd (of_dT hc) (by assumption)) | (exfalso; exact of_dF hc (by assumption)))
      | refine all fun v_ => ?_)
    all_goals clear fA_ fH_
    refine J_loopV (X := List Int × Bool × Nat) (fun y => [(1, .val (.pointer (some ⟨bm, 0, none⟩))), (6, .int n), (8, .val (.slice (some ⟨bi, 0, none⟩) n n)), (9, .bool y.2.1), (10, .int y.2.2)]) (fun y => [.cells bi 3 (y.1.map AV.int), .cells bm 25 [.d (varsD m.vars), .d (rulesD m.rules)]]) (fun y => FI (nxM m) n [fst.toNat] none y.1 ∧ y.2.2 ≤ n ∧ (y.2.1 = false → y.1 = st ∧ ∀ j, j < y.2.2 → gi st j ≠ 1) ∧ (y.2.1 = true → not2 y.1 < not2 st)) (fun y => n - y.2.2) (st, false, 0) ⟨k1, Nat.zero_le _, fun _ => ⟨rfl, fun j h => absurd h (Nat.not_lt_zero j)⟩, fun h => (by cases h)⟩ (VS.take (by ((repeat (first | exact Take.nil | ((with_reducible apply Take.cons); (focus ((repeat (first | exact Sel.here | with_reducible apply Sel.there)); done))))); done)) ?_) ?_
    · repeat (first
        | exact Env.le_nil _
        | refine Env.le_cons (AV.le_refl _) ?_
        | refine Env.le_cons (AV.le_int rfl (by first | rfl | omega | (dsimp only; omega))) ?_)
    rintro ⟨s1, a1, i⟩ ⟨q1, q2, q3, q4⟩
    dsimp only at q1 q2 q3 q4 ⊢
    have hl1 := q1.len
    by_cases hi : ¬ i < n
    · all_goals haveI fA_ : FlagA := ⟨⟩
      all_goals haveI fH_ : FlagH := ⟨⟩
      repeat' (first
        | ((with_reducible apply call0); (focus rfl); (focus exact cal_FirstCode); (focus exact hF); (focus rfl))
        | ((with_reducible apply je_call0); (focus rfl); (focus (decide +kernel)); (focus rfl); (focus exact cal_FirstCode); (focus exact hF); (focus rfl))
        | ((with_reducible apply call0); (focus rfl); (focus exact cal_StateCount); (focus exact hC); (focus rfl))
        | ((with_reducible apply je_call0); (focus rfl); (focus (decide +kernel)); (focus rfl); (focus exact cal_StateCount); (focus exact hC); (focus rfl))
        | exact True.intro
        | refine stp ?_
        | refine two ?_ ?_
        | refine allc fun c_ => ?_
        | (refine imp fun hc => ?_) <;> try (first | contradiction | (exfalso; omega) | (exfalso; exact absurd (of_dT hc) (by assumption)) | (exfalso; exact of_dF hc (by assumption)))
        | refine all fun v_ => ?_)
      all_goals clear fA_ fH_
      refine ⟨(s1, a1), ⟨q1, fun h j hj => ?_⟩, ?_, VS.take (by ((repeat (first | exact Take.nil | ((with_reducible apply Take.cons); (focus ((repeat (first | exact Sel.here | with_reducible apply Sel.there)); done))))); done)) ?_⟩
      · obtain ⟨e1, e2⟩ := q3 h
        rw [e1]; exact e2 j (by omega)
      · dsimp only
        cases a1 with
        | false => rw [(q3 rfl).1]; simp
        | true => have := q4 rfl; simp; omega
      · repeat (first
          | exact Env.le_nil _
          | refine Env.le_cons (AV.le_refl _) ?_
          | refine Env.le_cons (AV.le_int rfl (by first | rfl | omega | (dsimp only; omega))) ?_)
    replace hi := Decidable.not_not.1 hi
    have hgi : gi s1 i = s1[i]'(by omega) := gi_get _ _ _
    by_cases h1 : ¬ gi s1 i = 1
    · have h1' : ¬ s1[i]'(by omega) = 1 := by rw [← hgi]; exact h1
      all_goals haveI fA_ : FlagA := ⟨⟩
      all_goals haveI fH_ : FlagH := ⟨⟩
      repeat' (first
        | ((with_reducible apply call0); (focus rfl); (focus exact cal_FirstCode); (focus exact hF); (focus rfl))
        | ((with_reducible apply je_call0); (focus rfl); (focus (decide +kernel)); (focus rfl); (focus exact cal_FirstCode); (focus exact hF); (focus rfl))
        | ((with_reducible apply call0); (focus rfl); (focus exact cal_StateCount); (focus exact hC); (focus rfl))
        | ((with_reducible apply je_call0); (focus rfl); (focus (decide +kernel)); (focus rfl); (focus exact cal_StateCount); (focus exact hC); (focus rfl))
        | exact True.intro
        | refine stp ?_
        | refine two ?_ ?_
        | refine allc fun c_ => ?_
        | (refine imp fun hc => ?_) <;> try (first | contradiction | (exfalso; omega) | (exfalso; exact absurd (of_dT hc) (by assumption)) | (exfalso; exact of_dF hc (by assumption)))
        | refine all fun v_ => ?_)
      all_goals clear fA_ fH_
      refine ⟨(s1, a1, i + 1), ⟨q1, by dsimp only; omega, fun h => ⟨(q3 h).1, fun j hj => ?_⟩, q4⟩, by dsimp only; omega, VS.take (by ((repeat (first | exact Take.nil | ((with_reducible apply Take.cons); (focus ((repeat (first | exact Sel.here | with_reducible apply Sel.there)); done))))); done)) ?_⟩
      · by_cases e : j = i
        · rw [e, ← (q3 h).1]; exact h1
        · exact (q3 h).2 j (by dsimp only at hj; omega)
      · repeat (first
          | exact Env.le_nil _
          | refine Env.le_cons (AV.le_refl _) ?_
          | refine Env.le_cons (AV.le_int rfl (by first | rfl | omega | (dsimp only; omega))) ?_)
    replace h1 := Decidable.not_not.1 h1
    have h1' : s1[i]'(by omega) = 1 := by rw [← hgi]; exact h1
    have hn2 := not2_set2 s1 i (by omega) (by rw [h1']; decide)
    have hsl : (s1.set i 2).length = n := by simp [hl1]
    have hle2 : not2 s1 ≤ not2 st := by
      cases a1 with
      | false => rw [(q3 rfl).1]; exact Nat.le_refl _
      | true => exact Nat.le_of_lt (q4 rfl)
    have hN := NextOf G m i
    have hnl := nxM_len m i
    have hng := nxM_get m i
    have hrg := hrg i
    have hto' := hto i
    generalize hp : nextF m i = p at hN hrg
    obtain ⟨ns, e⟩ := p
    have hnl : (nxM m i).length = ns.length := by rw [hnl, hp]
    have hng : ∀ j (h : j < (nxM m i).length) (h' : j < ns.length), (nxM m i)[j] = ns[j].toNat := fun j h h' => by rw [hng j h]; simp only [hp]
    dsimp only at hN hrg
    all_goals haveI fA_ : FlagA := ⟨⟩
    all_goals haveI fH_ : FlagH := ⟨⟩
    repeat' (first
      | ((with_reducible apply call0); (focus rfl); (focus exact cal_NextOf); (focus exact hN); (focus rfl))
      | ((with_reducible apply je_call0); (focus rfl); (focus (decide +kernel)); (focus rfl); (focus exact cal_NextOf); (focus exact hN); (focus rfl))
      | exact True.intro
      | refine stp ?_
      | refine two ?_ ?_
      | refine allc fun c_ => ?_
      | (refine imp fun hc => ?_) <;> try (first | contradiction | (exfalso; omega) | (exfalso; exact absurd (of_dT hc) (by assumption)) | (exfalso; exact of_dF hc (by assumption)))
      | refine all fun v_ => ?_)
    all_goals clear fA_ fH_
    refine jfact (t := 11) rfl fun hnb => ?_
    refine J_loopV (X := List Int × Nat) (fun y => [(1, .val (.pointer (some ⟨bm, 0, none⟩))), (6, .int n), (8, .val (.slice (some ⟨bi, 0, none⟩) n n)), (9, .bool true), (10, .int i), (11, .d (intsD ns)), (13, .int y.2)]) (fun y => [.cells bi 3 (y.1.map AV.int), .cells bm 25 [.d (varsD m.vars), .d (rulesD m.rules)]]) (fun y => FI (nxM m) n [fst.toNat] (some (i, y.2)) y.1 ∧ gi y.1 i = 2 ∧ not2 y.1 = not2 (s1.set i 2) ∧ y.2 ≤ ns.length) (fun y => ns.length - y.2) (s1.set i 2, 0) ⟨q1.take h1, by rw [gi_set _ _ _ _ (by omega), if_pos rfl], rfl, Nat.zero_le _⟩ (VS.take (by ((repeat (first | exact Take.nil | ((with_reducible apply Take.cons); (focus ((repeat (first | exact Sel.here | with_reducible apply Sel.there)); done))))); done)) ?_) ?_
    · repeat (first
        | exact Env.le_nil _
        | refine Env.le_cons (AV.le_refl _) ?_
        | refine Env.le_cons (AV.le_int rfl (by first | rfl | omega | (dsimp only; omega))) ?_)
    rintro ⟨s2, j⟩ ⟨r1, r2, r3, r4⟩
    dsimp only at r1 r2 r3 r4 ⊢
    have hl2 := r1.len
    by_cases hj : j < ns.length
    · have hj' : j < (nxM m i).length := by rw [hnl]; exact hj
      have hm := r1.mark hto r2 hj'
      rw [hng j hj' hj] at hm
      have hkk := hrg _ (List.getElem_mem hj)
      have hgk : gi s2 ns[j].toNat = s2[ns[j].toNat]'(by omega) := gi_get _ _ _
      by_cases hz : s2[ns[j].toNat]'(by omega) = 0
      · have em : markF s2 ns[j].toNat = s2.set ns[j].toNat 1 := by rw [markF, hgk, if_pos hz]
        rw [em] at hm
        all_goals haveI fA_ : FlagA := ⟨⟩
        all_goals haveI fH_ : FlagH := ⟨⟩
        repeat' (first
          | exact True.intro
          | refine stp ?_
          | refine two ?_ ?_
          | refine allc fun c_ => ?_
          | (refine imp fun hc => ?_) <;> try (first | contradiction | (exfalso; omega) | (exfalso; exact absurd (of_dT hc) (by assumption)) | (exfalso; exact of_dF hc (by assumption)))
          | refine all fun v_ => ?_)
        all_goals clear fA_ fH_
        refine ⟨(s2.set ns[j].toNat 1, j + 1), ⟨hm.1, hm.2.1, hm.2.2.trans r3, by dsimp only; omega⟩, by dsimp only; omega, VS.take (by ((repeat (first | exact Take.nil | ((with_reducible apply Take.cons); (focus ((repeat (first | exact Sel.here | with_reducible apply Sel.there)); done))))); done)) ?_⟩
        repeat (first
          | exact Env.le_nil _
          | refine Env.le_cons (AV.le_refl _) ?_
          | refine Env.le_cons (AV.le_int rfl (by first | rfl | omega | (dsimp only; omega))) ?_)
      · have em : markF s2 ns[j].toNat = s2 := by rw [markF, hgk, if_neg hz]
        rw [em] at hm
        all_goals haveI fA_ : FlagA := ⟨⟩
        all_goals haveI fH_ : FlagH := ⟨⟩
        repeat' (first
          | exact True.intro
          | refine stp ?_
          | refine two ?_ ?_
          | refine allc fun c_ => ?_
          | (refine imp fun hc => ?_) <;> try (first | contradiction | (exfalso; omega) | (exfalso; exact absurd (of_dT hc) (by assumption)) | (exfalso; exact of_dF hc (by assumption)))
          | refine all fun v_ => ?_)
        all_goals clear fA_ fH_
        refine ⟨(s2, j + 1), ⟨hm.1, hm.2.1, r3, by dsimp only; omega⟩, by dsimp only; omega, VS.take (by ((repeat (first | exact Take.nil | ((with_reducible apply Take.cons); (focus ((repeat (first | exact Sel.here | with_reducible apply Sel.there)); done))))); done)) ?_⟩
        repeat (first
          | exact Env.le_nil _
          | refine Env.le_cons (AV.le_refl _) ?_
          | refine Env.le_cons (AV.le_int rfl (by first | rfl | omega | (dsimp only; omega))) ?_)
    · have ej : j = (nxM m i).length := by omega
      rw [ej] at r1
      all_goals haveI fA_ : FlagA := ⟨⟩
      all_goals haveI fH_ : FlagH := ⟨⟩
      repeat' (first
        | exact True.intro
        | refine stp ?_
        | refine two ?_ ?_
        | refine allc fun c_ => ?_
        | (refine imp fun hc => ?_) <;> try (first | contradiction | (exfalso; omega) | (exfalso; exact absurd (of_dT hc) (by assumption)) | (exfalso; exact of_dF hc (by assumption)))
        | refine all fun v_ => ?_)
      all_goals clear fA_ fH_
      refine ⟨(s2, true, i + 1), ⟨r1.done, by dsimp only; omega, fun h => (by cases h), fun _ => by dsimp only; omega⟩, by dsimp only; omega, VS.take (by ((repeat (first | exact Take.nil | ((with_reducible apply Take.cons); (focus ((repeat (first | exact Sel.here | with_reducible apply Sel.there)); done))))); done)) ?_⟩
      repeat (first
        | exact Env.le_nil _
        | refine Env.le_cons (AV.le_refl _) ?_
        | refine Env.le_cons (AV.le_int rfl (by first | rfl | omega | (dsimp only; omega))) ?_)
end Go.Proofs.YtmamiihpghnmmaaDoor
namespace Go.Sp
open Go Go.Av
set_option linter.unusedVariables false
set_option linter.unusedSimpArgs false

def at0 (l : List Int) (i : Nat) : Int := (l[i]?).getD 0
theorem at0_get (l : List Int) (i : Nat) (h : i < l.length) : at0 l i = l[i] := by simp [at0, List.getElem?_eq_getElem h]
def leadsP (m : Md) (n : Nat) (A : List Int) (i : Nat) : Prop := (0 ≤ at0 A i ∧ at0 A i < n) ∧ at0 A (i + 1) ∈ (nextF m (at0 A i)).1
def runsP (m : Md) (n : Nat) (A : List Int) : Prop := ∀ i, i + 1 < A.length → leadsP m n A i
noncomputable instance (m : Md) (n : Nat) (A : List Int) : Decidable (runsP m n A) := Classical.propDecidable _
def roundL (stem loop : List Int) : List Int := stem ++ loop ++ loop.take 1
noncomputable def runF (m : Md) (stem loop : List Int) : Bool × Int :=
  if modelF m ≠ 0 then (false, modelF m)
  else if loop = [] ∨ (stem ++ loop).head? ≠ some (firstF m) then (false, 0)
  else (decide (runsP m (prodV m.vars).toNat (roundL stem loop)), 0)
theorem runF_no {m : Md} {stem loop : List Int} (h0 : modelF m = 0) (h : loop = [] ∨ (stem ++ loop).head? ≠ some (firstF m)) : runF m stem loop = (false, 0) := by
  unfold runF; rw [if_neg (fun k => k h0), if_pos h]
theorem runF_at {m : Md} {n : Nat} {stem loop : List Int} {b : Bool} (h0 : modelF m = 0) (hn : prodV m.vars = n) (h1 : loop ≠ []) (h2 : (stem ++ loop).head? = some (firstF m)) (hb : b = true ↔ runsP m n (roundL stem loop)) : runF m stem loop = (b, 0) := by
  unfold runF
  rw [if_neg (fun k => k h0), if_neg (fun k => k.elim h1 fun k => k h2), hn, Int.toNat_natCast]
  congr 1
  cases b with
  | true => exact decide_eq_true (hb.1 rfl)
  | false => exact decide_eq_false fun k => by have := hb.2 k; cases this
end Go.Sp
namespace Go.Proofs.YtmamiihpghnmmaaDoor
open Go Go.Av Go.Sp
set_option linter.unusedVariables false
set_option linter.unusedSimpArgs false
set_option maxRecDepth 100000
set_option maxHeartbeats 4000000
theorem cal_GrowI : Cal Tryd.prog 85 := Cal.of Tryd.func85 (by kernel_rfl) (by kernel_rfl)
theorem cal_ConcatI : Cal Tryd.prog 58 := Cal.of Tryd.func58 (by kernel_rfl) (by kernel_rfl)
theorem cal_Runs : Cal Tryd.prog 30 := Cal.of Tryd.func30 (by kernel_rfl) (by kernel_rfl)
theorem GrowI (G : List (Nat × List D)) (n : Nat) (hn : n ≤ 2000000) : AC Tryd.prog G 85 [.val (.slice none 0 0), .int n] [] fun r h => ∃ q : Sl, r = .ret (.val q.v) ∧ h = [rowE q.v 3 1 intC []] := by
  refine AC_ofV (ts := [4]) Tryd.f85.ntmps Tryd.func85 rfl rfl rfl (by simp [Tryd.ntmps85]) fun W I => ?_
  by_cases h0 : 0 < n
  · all_goals haveI fA_ : FlagA := ⟨⟩
    all_goals haveI fH_ : FlagH := ⟨⟩
    repeat' (first
      | ((with_reducible apply jp); (focus ((with_reducible apply pu_cap); rfl; rfl)); (focus rfl))
      | ((with_reducible apply jp); (focus ((with_reducible apply pu_slice_nil); rfl; rfl; rfl; (focus (with_reducible exact ElC.h)))); (focus rfl))
      | ((with_reducible apply (japp_zeros (n := n) intC 0 (.i .i64 0))); (focus rfl); (focus rfl); (focus omega); (focus rfl); (focus rfl); (focus (with_reducible exact ElC.h)); (focus rfl); (focus rfl); (focus exact fun w I => rfl); (focus omega); (focus omega); (focus omega); (focus rfl))
      | exact True.intro
      | refine stp ?_
      | refine two ?_ ?_
      | refine allc fun c_ => ?_
      | (refine imp fun hc => ?_) <;> try (first | contradiction | (exfalso; omega) | (exfalso; exact absurd (of_dT hc) (by assumption)) | (exfalso; exact of_dF hc (by assumption)))
      | refine all fun v_ => ?_)
    all_goals clear fA_ fH_
    refine retv0 ?_
    ((with_reducible apply rq1); rfl; rfl)
    exact ⟨v_, rfl, rfl⟩
  · obtain rfl : n = 0 := by omega
    all_goals haveI fA_ : FlagA := ⟨⟩
    all_goals haveI fH_ : FlagH := ⟨⟩
    repeat' (first
      | ((with_reducible apply jp); (focus ((with_reducible apply pu_cap); rfl; rfl)); (focus rfl))
      | ((with_reducible apply jp); (focus ((with_reducible apply pu_slice_nil); rfl; rfl; rfl; (focus (with_reducible exact ElC.h)))); (focus rfl))
      | ((with_reducible apply (japp_zeros (n := n) intC 0 (.i .i64 0))); (focus rfl); (focus rfl); (focus omega); (focus rfl); (focus rfl); (focus (with_reducible exact ElC.h)); (focus rfl); (focus rfl); (focus exact fun w I => rfl); (focus omega); (focus omega); (focus omega); (focus rfl))
      | exact True.intro
      | refine stp ?_
      | refine two ?_ ?_
      | refine allc fun c_ => ?_
      | (refine imp fun hc => ?_) <;> try (first | contradiction | (exfalso; omega) | (exfalso; exact absurd (of_dT hc) (by assumption)) | (exfalso; exact of_dF hc (by assumption)))
      | refine all fun v_ => ?_)
    all_goals clear fA_ fH_
    refine retv (VS.nilrow 3 1) ?_
    ((with_reducible apply rq1); rfl; rfl)
    exact ⟨Sl.nil, rfl, rfl⟩
def sumI (ls : List (List Int)) (i : Nat) : Nat := ((ls.take i).flatten).length
theorem sumI_succ (ls : List (List Int)) (i : Nat) (h : i < ls.length) : sumI ls (i + 1) = sumI ls i + ls[i].length := by
  unfold sumI
  rw [List.take_succ_eq_append_getElem h, List.flatten_append, List.length_append]; simp
theorem flat_succ (ls : List (List Int)) (i : Nat) (h : i < ls.length) : (ls.take (i + 1)).flatten = (ls.take i).flatten ++ ls[i] := by
  rw [List.take_succ_eq_append_getElem h, List.flatten_append]; simp
theorem sumI_le (ls : List (List Int)) (i : Nat) (h : i ≤ ls.length) : sumI ls i ≤ ls.flatten.length := by
  have e : ls.flatten = (ls.take i).flatten ++ (ls.drop i).flatten := by rw [← List.flatten_append, List.take_append_drop]
  unfold sumI
  rw [e, List.length_append]; omega
theorem ConcatI (G : List (Nat × List D)) (ls : List (List Int)) (hs : ls.flatten.length ≤ 2000000) : ACr Tryd.prog G 58 [.d (.l 1 24 (ls.map fun l => [intsD l]))] (.d (intsD ls.flatten)) := by
  refine AC_ofV (ts := [2]) Tryd.f58.ntmps Tryd.func58 rfl rfl rfl (by simp [Tryd.ntmps58]) fun W I => ?_
  refine jfact (t := 0) rfl fun hl => ?_
  all_goals haveI fA_ : FlagA := ⟨⟩
  all_goals haveI fH_ : FlagH := ⟨⟩
  repeat' (first
    | exact True.intro
    | refine stp ?_
    | refine two ?_ ?_
    | refine allc fun c_ => ?_
    | (refine imp fun hc => ?_) <;> try (first | contradiction | (exfalso; omega) | (exfalso; exact absurd (of_dT hc) (by assumption)) | (exfalso; exact of_dF hc (by assumption)))
    | refine all fun v_ => ?_)
  all_goals clear fA_ fH_
  refine J_loopV (X := Nat) (fun i => [(0, .d (.l 1 24 (ls.map fun l => [intsD l]))), (3, .int (sumI ls i)), (9, .d (.l 1 24 (ls.map fun l => [intsD l]))), (10, .int ls.length), (11, .int i)]) (fun _ => []) (fun i => i ≤ ls.length) (fun i => ls.length - i) 0 (Nat.zero_le _) (VS.of_le ?_) ?_
  · repeat (first
      | exact Env.le_nil _
      | refine Env.le_cons (AV.le_refl _) ?_
      | refine Env.le_cons (AV.le_int rfl (by first | rfl | omega | (dsimp only; omega))) ?_)
  rintro i h1
  by_cases hi : i < ls.length
  · have e1 := sumI_succ ls i hi
    have e2 := sumI_le ls (i + 1) hi
    all_goals haveI fA_ : FlagA := ⟨⟩
    all_goals haveI fH_ : FlagH := ⟨⟩
    repeat' (first
      | exact True.intro
      | refine stp ?_
      | refine two ?_ ?_
      | refine allc fun c_ => ?_
      | (refine imp fun hc => ?_) <;> try (first | contradiction | (exfalso; omega) | (exfalso; exact absurd (of_dT hc) (by assumption)) | (exfalso; exact of_dF hc (by assumption)))
      | refine all fun v_ => ?_)
    all_goals clear fA_ fH_
    refine ⟨i + 1, by omega, by omega, VS.of_le ?_⟩
    repeat (first
      | exact Env.le_nil _
      | refine Env.le_cons (AV.le_refl _) ?_
      | refine Env.le_cons (AV.le_int rfl (by first | rfl | omega | (dsimp only; omega))) ?_)
  obtain rfl : i = ls.length := by omega
  have e2 := sumI_le ls ls.length (Nat.le_refl _)
  all_goals haveI fA_ : FlagA := ⟨⟩
  all_goals haveI fH_ : FlagH := ⟨⟩
  repeat' (first
    | ((with_reducible apply callG); (focus rfl); (focus exact cal_GrowI); (focus exact GrowI G (sumI ls ls.length) (by omega)); (focus ((repeat (first | with_reducible exact Take.nil | ((with_reducible apply Take.cons); (focus ((repeat (first | with_reducible exact Sel.here | with_reducible apply Sel.there)); done))))); done)); (focus rfl); (focus (intro v_; (repeat (first | exact App.nil | apply App.cons)); done)))
    | exact True.intro
    | refine stp ?_
    | refine two ?_ ?_
    | refine allc fun c_ => ?_
    | (refine imp fun hc => ?_) <;> try (first | contradiction | (exfalso; omega) | (exfalso; exact absurd (of_dT hc) (by assumption)) | (exfalso; exact of_dF hc (by assumption)))
    | refine all fun v_ => ?_)
  all_goals clear fA_ fH_
  refine J_loopV (X := Nat × Sl) (fun y => [(6, .val y.2.v), (25, .d (.l 1 24 (ls.map fun l => [intsD l]))), (26, .int ls.length), (27, .int y.1)]) (fun y => [rowE y.2.v 3 1 intC (ls.take y.1).flatten]) (fun y => y.1 ≤ ls.length) (fun y => ls.length - y.1) (0, v_) (Nat.zero_le _) (VS.take (by ((repeat (first | exact Take.nil | ((with_reducible apply Take.cons); (focus ((repeat (first | exact Sel.here | with_reducible apply Sel.there)); done))))); done)) ?_) ?_
  · repeat (first
      | exact Env.le_nil _
      | refine Env.le_cons (AV.le_refl _) ?_
      | refine Env.le_cons (AV.le_int rfl (by first | rfl | omega | (dsimp only; omega))) ?_)
  rintro ⟨i, q⟩ h1
  dsimp only at h1 ⊢
  by_cases hi : i < ls.length
  · have e1 := flat_succ ls i hi
    have e3 := sumI_succ ls i hi
    have e2 := sumI_le ls (i + 1) hi
    unfold sumI at e2 e3
    all_goals haveI fA_ : FlagA := ⟨⟩
    repeat' (first
      | exact True.intro
      | refine stp ?_
      | refine two ?_ ?_
      | (refine imp fun hc => ?_) <;> try (first | contradiction | (exfalso; omega))
      | refine all fun v_ => ?_)
    all_goals clear fA_
    refine ⟨(i + 1, v_), by dsimp only; omega, by dsimp only; omega, VS.take (by dsimp only; rw [e1]; ((repeat (first | exact Take.nil | ((with_reducible apply Take.cons); (focus ((repeat (first | exact Sel.here | with_reducible apply Sel.there)); done))))); done)) ?_⟩
    repeat (first
      | exact Env.le_nil _
      | refine Env.le_cons (AV.le_refl _) ?_
      | refine Env.le_cons (AV.le_int rfl (by first | rfl | omega | (dsimp only; omega))) ?_)
  obtain rfl : i = ls.length := by omega
  rw [List.take_length]
  all_goals haveI fA_ : FlagA := ⟨⟩
  repeat' (first
    | exact True.intro
    | refine stp ?_
    | refine two ?_ ?_
    | (refine imp fun hc => ?_) <;> try (first | contradiction | (exfalso; omega))
    | refine all fun v_ => ?_)
  all_goals clear fA_
  refine retv (vfreeze (t := 2) (eb := 8) rfl rfl (fun x => rfl) (by omega)) ?_
  ((with_reducible apply rq1); rfl; rfl)
  exact ret_eq rfl
end Go.Proofs.YtmamiihpghnmmaaDoor
