/- A bundle of this claim's own texts: Q3 N7 N11. -/
import Derived.Test.YtcikppldaepodaaGreatDoorZ2
import Derived.Test.YtcikppldaepodaaGreatDoorZ3
import Derived.Test.YtcikppldaepodaaGreatDoorZ15
namespace Go.Proofs.YtcikppldaepodaaGreatDoor
open Go Go.Av Go.Sp
set_option linter.unusedVariables false
set_option linter.unusedSimpArgs false
set_option maxRecDepth 100000
set_option maxHeartbeats 4000000
theorem cal_SortI : Cal Tryz.prog 196 := Cal.of Tryz.func196 (by kernel_rfl) (by kernel_rfl)
theorem cal_CompactI : Cal Tryz.prog 197 := Cal.of Tryz.func197 (by kernel_rfl) (by kernel_rfl)
theorem cal_IndexI : Cal Tryz.prog 145 := Cal.of Tryz.func145 (by kernel_rfl) (by kernel_rfl)
theorem cal_ContainsI : Cal Tryz.prog 82 := Cal.of Tryz.func82 (by kernel_rfl) (by kernel_rfl)
theorem SortI (G : List (Nat × List D)) (q : Sl) (xs : List Int) (hb : xs.length < 4611686018427387904) : AC Tryz.prog G 196 [.val q.v] [rowE q.v 3 1 intC xs] fun e h => e = .ret (.tup []) ∧ h = [rowE q.v 3 1 intC (sortI xs)] :=
  AC_sortI q xs hb (fun blk cap zs w h1 h2 h3 => Any.slices_Sort_int Tryz.lays189 blk 0 cap zs w h1 h2 h3) fun w => Any.slices_Sort_int_none Tryz.lays189 none 0 w
theorem CompactI (G : List (Nat × List D)) (q : Sl) (xs : List Int) (hb : xs.length ≤ 9223372036854775807) (hk : (Lib.compact xs).length ≤ xs.length) : AC Tryz.prog G 197 [.val q.v] [rowE q.v 3 1 intC xs] fun e h => ∃ q' : Sl, e = .ret (.val q'.v) ∧ h = [rowE q'.v 3 1 intC (Lib.compact xs)] :=
  AC_compactI q xs hb hk (fun blk cap zs w h1 h2 h3 => Any.slices_Compact_int Tryz.lays20 blk 0 cap zs w h1 h2 h3) fun w => Any.slices_Compact_int_empty Tryz.lays20 none 0 w
def indexZ (v : Int) : List Int → Nat → Int
  | [], _ => -1
  | x :: l, i => if v = x then i else indexZ v l (i + 1)
theorem indexZ_at (v : Int) (l : List Int) (i : Nat) (h : i < l.length) : indexZ v (l.drop i) i = if v = l[i] then (i : Int) else indexZ v (l.drop (i + 1)) (i + 1) := by
  rw [List.drop_eq_getElem_cons h, indexZ]
theorem indexZ_end (v : Int) (l : List Int) (i : Nat) (h : l.length ≤ i) : indexZ v (l.drop i) i = -1 := by
  rw [List.drop_of_length_le h, indexZ]
theorem indexZ_in (v : Int) : ∀ (l : List Int) (i : Nat), 0 ≤ indexZ v l i ↔ v ∈ l
  | [], i => by simp [indexZ]
  | x :: l, i => by
    rw [indexZ, List.mem_cons]
    by_cases h : v = x
    · rw [if_pos h]; exact ⟨fun _ => .inl h, fun _ => by omega⟩
    · rw [if_neg h, indexZ_in v l (i + 1)]; exact ⟨.inr, fun k => k.resolve_left h⟩
theorem IndexI (G : List (Nat × List D)) (l : List Int) (v : Int) : ACr Tryz.prog G 145 [.d (intsD l), .int v] (.int (indexZ v l 0)) := by
  refine AC_ofV (ts := [4]) Tryz.f145.ntmps Tryz.func145 rfl rfl rfl (by simp [Tryz.ntmps145]) fun W I => ?_
  refine jfact (t := 0) rfl fun hl => ?_
  all_goals haveI fA_ : FlagA := ⟨⟩
  all_goals haveI fH_ : FlagH := ⟨⟩
  repeat' (first
    | exact True.intro
    | refine stp ?_
    | refine two ?_ ?_
    | refine allc fun c_ => ?_
    | (refine imp fun hc => ?_) <;> try (first | contradiction | (exfalso; omega) | (exfalso; exact absurd (of_dT hc) (by assumption)) | (exfalso; exact of_dF hc (by assumption)))
    | refine all fun v_ => ?_)
  all_goals clear fA_ fH_
  refine J_loopV (X := Nat) (fun i => [(0, .d (intsD l)), (1, .int v), (7, .int l.length), (8, .int i)]) (fun _ => []) (fun i => i ≤ l.length ∧ indexZ v l 0 = indexZ v (l.drop i) i) (fun i => l.length - i) 0 ⟨Nat.zero_le _, rfl⟩ (VS.of_le ?_) ?_
  · repeat (first
      | exact Env.le_nil _
      | refine Env.le_cons (AV.le_refl _) ?_
      | refine Env.le_cons (AV.le_int rfl (by first | rfl | omega | (dsimp only; omega))) ?_)
  rintro i ⟨h1, h2⟩
  by_cases hi : i < l.length
  · rw [indexZ_at v l i hi] at h2
    by_cases hv : v = l[i]
    · rw [if_pos hv] at h2
      all_goals haveI fA_ : FlagA := ⟨⟩
      all_goals haveI fH_ : FlagH := ⟨⟩
      repeat' (first
        | exact True.intro
        | refine stp ?_
        | refine two ?_ ?_
        | refine allc fun c_ => ?_
        | (refine imp fun hc => ?_) <;> try (first | contradiction | (exfalso; omega) | (exfalso; exact absurd (of_dT hc) (by assumption)) | (exfalso; exact of_dF hc (by assumption)))
        | refine all fun v_ => ?_)
      all_goals clear fA_ fH_
      refine retv0 ?_
      ((with_reducible apply rq1); rfl; rfl)
      exact ret_eq (by rw [h2])
    · rw [if_neg hv] at h2
      all_goals haveI fA_ : FlagA := ⟨⟩
      all_goals haveI fH_ : FlagH := ⟨⟩
      repeat' (first
        | exact True.intro
        | refine stp ?_
        | refine two ?_ ?_
        | refine allc fun c_ => ?_
        | (refine imp fun hc => ?_) <;> try (first | contradiction | (exfalso; omega) | (exfalso; exact absurd (of_dT hc) (by assumption)) | (exfalso; exact of_dF hc (by assumption)))
        | refine all fun v_ => ?_)
      all_goals clear fA_ fH_
      refine ⟨i + 1, ⟨by omega, h2⟩, by omega, VS.of_le ?_⟩
      repeat (first
        | exact Env.le_nil _
        | refine Env.le_cons (AV.le_refl _) ?_
        | refine Env.le_cons (AV.le_int rfl (by first | rfl | omega | (dsimp only; omega))) ?_)
  rw [indexZ_end v l i (by omega)] at h2
  all_goals haveI fA_ : FlagA := ⟨⟩
  all_goals haveI fH_ : FlagH := ⟨⟩
  repeat' (first
    | exact True.intro
    | refine stp ?_
    | refine two ?_ ?_
    | refine allc fun c_ => ?_
    | (refine imp fun hc => ?_) <;> try (first | contradiction | (exfalso; omega) | (exfalso; exact absurd (of_dT hc) (by assumption)) | (exfalso; exact of_dF hc (by assumption)))
    | refine all fun v_ => ?_)
  all_goals clear fA_ fH_
  refine retv0 ?_
  ((with_reducible apply rq1); rfl; rfl)
  exact ret_eq (by rw [h2])
theorem ContainsI (G : List (Nat × List D)) (l : List Int) (v : Int) : ACr Tryz.prog G 82 [.d (intsD l), .int v] (.bool (decide (v ∈ l))) := by
  refine AC_ofV (ts := [4]) Tryz.f82.ntmps Tryz.func82 rfl rfl rfl (by simp [Tryz.ntmps82]) fun W I => ?_
  all_goals haveI fA_ : FlagA := ⟨⟩
  all_goals haveI fH_ : FlagH := ⟨⟩
  repeat' (first
    | ((with_reducible apply call0); (focus rfl); (focus exact cal_IndexI); (focus exact IndexI _ _ _); (focus rfl))
    | ((with_reducible apply je_call0); (focus rfl); (focus (decide +kernel)); (focus rfl); (focus exact cal_IndexI); (focus exact IndexI _ _ _); (focus rfl))
    | exact True.intro
    | refine stp ?_
    | refine two ?_ ?_
    | refine allc fun c_ => ?_
    | (refine imp fun hc => ?_) <;> try (first | contradiction | (exfalso; omega) | (exfalso; exact absurd (of_dT hc) (by assumption)) | (exfalso; exact of_dF hc (by assumption)))
    | refine all fun v_ => ?_)
  all_goals clear fA_ fH_
  refine retv0 ?_
  ((with_reducible apply rq1); rfl; rfl)
  refine ret_eq (congrArg AV.bool ?_)
  exact decide_eq_decide.2 (indexZ_in v l 0)
end Go.Proofs.YtcikppldaepodaaGreatDoor
namespace Go.Proofs.YtcikppldaepodaaGreatDoor
open Go Go.Av Go.Sp
set_option linter.unusedVariables false
set_option linter.unusedSimpArgs false
set_option maxRecDepth 100000
set_option maxHeartbeats 4000000
theorem cal_next : Cal Tryz.prog 144 := Cal.of Tryz.func144 (by kernel_rfl) (by kernel_rfl)
theorem cal_Next : Cal Tryz.prog 81 := Cal.of Tryz.func81 (by kernel_rfl) (by kernel_rfl)
theorem SortU (G : List (Nat × List D)) (q : Sl) (xs : List Int) (hb : xs.length < 4611686018427387904) : AC Tryz.prog G 196 [.val q.v] [rowE q.v 3 1 intC xs] fun e h => ∃ _ : Unit, e = .ret (.tup []) ∧ h = [rowE q.v 3 1 intC (sortI xs)] :=
  (SortI G q xs hb).mono fun _ _ h => ⟨(), h.1, h.2⟩
theorem CompactU (G : List (Nat × List D)) (q : Sl) (xs : List Int) (hb : xs.length ≤ 1000000) : AC Tryz.prog G 197 [.val q.v] [rowE q.v 3 1 intC xs] fun e h => ∃ q' : Sl, e = .ret (.val q'.v) ∧ h = [rowE q'.v 3 1 intC (Lib.compact xs)] :=
  CompactI G q xs (by omega) (compact_len xs _ (Nat.le_refl _))
theorem next (m : Md) (hm : modelF m = 0) (vs : List Int) (g : InV m vs) : AC Tryz.prog GP 144 [mdA m, .d (intsD vs)] [] fun e h => ∃ q : Sl, e = .ret (.val q.v) ∧ h = [rowE q.v 3 1 intC (Lib.compact (sortI (codesL m vs m.rules)))] := by
  have h12 := modelF_few hm
  refine AC_ofV (ts := [4]) Tryz.f144.ntmps Tryz.func144 rfl rfl rfl (by simp [Tryz.ntmps144]) fun W I => ?_
  all_goals haveI fA_ : FlagA := ⟨⟩
  all_goals haveI fH_ : FlagH := ⟨⟩
  repeat' (first
    | exact True.intro
    | refine stp ?_
    | refine two ?_ ?_
    | refine allc fun c_ => ?_
    | (refine imp fun hc => ?_) <;> try (first | contradiction | (exfalso; omega) | (exfalso; exact absurd (of_dT hc) (by assumption)) | (exfalso; exact of_dF hc (by assumption)))
    | refine all fun v_ => ?_)
  all_goals clear fA_ fH_
  obtain ⟨bm, rfl⟩ : ∃ x, x = v_ := ⟨v_, rfl⟩
  refine jrow (E := 3) (sz := 1) intC ?_
  refine J_loopV (X := Nat × Sl) (fun y => [(1, .d (intsD vs)), (2, .val (.pointer (some ⟨bm, 0, none⟩))), (5, .val y.2.v), (13, .d (rulesD m.rules)), (14, .int m.rules.length), (15, .int y.1)]) (fun y => [rowE y.2.v 3 1 intC (codesL m vs (m.rules.take y.1)), .cells bm 25 [.d (varsD m.vars), .d (rulesD m.rules)]]) (fun y => y.1 ≤ m.rules.length) (fun y => m.rules.length - y.1) (0, Sl.nil) (Nat.zero_le _) (VS.take (by ((repeat (first | exact Take.nil | ((with_reducible apply Take.cons); (focus ((repeat (first | exact Sel.here | with_reducible apply Sel.there)); done))))); done)) ?_) ?_
  · repeat (first
      | exact Env.le_nil _
      | refine Env.le_cons (AV.le_refl _) ?_
      | refine Env.le_cons (AV.le_int rfl (by first | rfl | omega | (dsimp only; omega))) ?_)
  rintro ⟨i, q⟩ hi
  dsimp only at hi ⊢
  have hln := codesL_len m vs (m.rules.take i)
  rw [List.length_take] at hln
  by_cases hil : i < m.rules.length
  · have hr := List.getElem_mem hil
    have hA := after m hm _ hr vs g
    cases ho : afterF m m.rules[i] vs with
    | none =>
      have hs := codesL_none hil ho
      rw [ho] at hA
      simp only [Option.getD_none, Option.isSome_none] at hA
      all_goals haveI fA_ : FlagA := ⟨⟩
      all_goals haveI fH_ : FlagH := ⟨⟩
      repeat' (first
        | ((with_reducible apply call0); (focus rfl); (focus exact cal_after); (focus exact hA); (focus rfl))
        | ((with_reducible apply je_call0); (focus rfl); (focus (decide +kernel)); (focus rfl); (focus exact cal_after); (focus exact hA); (focus rfl))
        | exact True.intro
        | refine stp ?_
        | refine two ?_ ?_
        | refine allc fun c_ => ?_
        | (refine imp fun hc => ?_) <;> try (first | contradiction | (exfalso; omega) | (exfalso; exact absurd (of_dT hc) (by assumption)) | (exfalso; exact of_dF hc (by assumption)))
        | refine all fun v_ => ?_)
      all_goals clear fA_ fH_
      refine ⟨(i + 1, q), by dsimp only; omega, by dsimp only; omega, VS.take (by dsimp only; rw [hs]; ((repeat (first | exact Take.nil | ((with_reducible apply Take.cons); (focus ((repeat (first | exact Sel.here | with_reducible apply Sel.there)); done))))); done)) ?_⟩
      repeat (first
        | exact Env.le_nil _
        | refine Env.le_cons (AV.le_refl _) ?_
        | refine Env.le_cons (AV.le_int rfl (by first | rfl | omega | (dsimp only; omega))) ?_)
    | some out =>
      have hs := codesL_some hil ho
      rw [ho] at hA
      simp only [Option.getD_some, Option.isSome_some] at hA
      all_goals haveI fA_ : FlagA := ⟨⟩
      all_goals haveI fH_ : FlagH := ⟨⟩
      repeat' (first
        | ((with_reducible apply call0); (focus rfl); (focus exact cal_after); (focus exact hA); (focus rfl))
        | ((with_reducible apply je_call0); (focus rfl); (focus (decide +kernel)); (focus rfl); (focus exact cal_after); (focus exact hA); (focus rfl))
        | ((with_reducible apply call0); (focus rfl); (focus exact cal_Code); (focus exact Code _ _); (focus rfl))
        | ((with_reducible apply je_call0); (focus rfl); (focus (decide +kernel)); (focus rfl); (focus exact cal_Code); (focus exact Code _ _); (focus rfl))
        | exact True.intro
        | refine stp ?_
        | refine two ?_ ?_
        | refine allc fun c_ => ?_
        | (refine imp fun hc => ?_) <;> try (first | contradiction | (exfalso; omega) | (exfalso; exact absurd (of_dT hc) (by assumption)) | (exfalso; exact of_dF hc (by assumption)))
        | refine all fun v_ => ?_)
      all_goals clear fA_ fH_
      refine ⟨(i + 1, v_), by dsimp only; omega, by dsimp only; omega, VS.take (by dsimp only; rw [hs]; ((repeat (first | exact Take.nil | ((with_reducible apply Take.cons); (focus ((repeat (first | exact Sel.here | with_reducible apply Sel.there)); done))))); done)) ?_⟩
      repeat (first
        | exact Env.le_nil _
        | refine Env.le_cons (AV.le_refl _) ?_
        | refine Env.le_cons (AV.le_int rfl (by first | rfl | omega | (dsimp only; omega))) ?_)
  obtain rfl : i = m.rules.length := by omega
  rw [List.take_length] at hln ⊢
  generalize codesL m vs m.rules = cs at hln ⊢
  have hsl := sortI_length cs
  all_goals haveI fA_ : FlagA := ⟨⟩
  all_goals haveI fH_ : FlagH := ⟨⟩
  repeat' (first
    | ((with_reducible apply callG); (focus rfl); (focus exact cal_SortI); (focus exact SortU GP q cs (by omega)); (focus ((repeat (first | with_reducible exact Take.nil | ((with_reducible apply Take.cons); (focus ((repeat (first | with_reducible exact Sel.here | with_reducible apply Sel.there)); done))))); done)); (focus rfl); (focus (intro v_; (repeat (first | exact App.nil | apply App.cons)); done)))
    | ((with_reducible apply callG); (focus rfl); (focus exact cal_CompactI); (focus exact CompactU GP q (sortI cs) (by omega)); (focus ((repeat (first | with_reducible exact Take.nil | ((with_reducible apply Take.cons); (focus ((repeat (first | with_reducible exact Sel.here | with_reducible apply Sel.there)); done))))); done)); (focus rfl); (focus (intro v_; (repeat (first | exact App.nil | apply App.cons)); done)))
    | exact True.intro
    | refine stp ?_
    | refine two ?_ ?_
    | refine allc fun c_ => ?_
    | (refine imp fun hc => ?_) <;> try (first | contradiction | (exfalso; omega) | (exfalso; exact absurd (of_dT hc) (by assumption)) | (exfalso; exact of_dF hc (by assumption)))
    | refine all fun v_ => ?_)
  all_goals clear fA_ fH_
  refine retv (VS.drop (h' := [rowE v_.v 3 1 intC (Lib.compact (sortI cs))]) (by (repeat (first | exact List.nil_sublist _ | (with_reducible apply List.Sublist.cons_cons) | apply List.Sublist.cons)))) ?_
  ((with_reducible apply rq1); rfl; rfl)
  exact ⟨v_, rfl, rfl⟩
theorem Next (m : Md) (code : Int) : ACr Tryz.prog GP 81 [mdA m, .int code] (.tup [.d (intsD (nextF m code).1), .int (nextF m code).2]) := by
  have hV := Values m code
  refine AC_ofV (ts := [4, 5]) Tryz.f81.ntmps Tryz.func81 rfl rfl rfl (by simp [Tryz.ntmps81]) fun W I => ?_
  by_cases h1 : (valsF m code).2 ≠ 0
  · rw [nextF_err h1]
    all_goals haveI fA_ : FlagA := ⟨⟩
    all_goals haveI fH_ : FlagH := ⟨⟩
    repeat' (first
      | ((with_reducible apply call0); (focus rfl); (focus exact cal_Values); (focus exact hV); (focus rfl))
      | ((with_reducible apply je_call0); (focus rfl); (focus (decide +kernel)); (focus rfl); (focus exact cal_Values); (focus exact hV); (focus rfl))
      | exact True.intro
      | refine stp ?_
      | refine two ?_ ?_
      | refine allc fun c_ => ?_
      | (refine imp fun hc => ?_) <;> try (first | contradiction | (exfalso; omega) | (exfalso; exact absurd (of_dT hc) (by assumption)) | (exfalso; exact of_dF hc (by assumption)))
      | refine all fun v_ => ?_)
    all_goals clear fA_ fH_
    refine retv (VS.trans (VS.drop (List.nil_sublist _)) (vnil (t := 4) 1 8 rfl)) ?_
    ((with_reducible apply rq2); rfl; rfl; rfl)
    exact ret_eq rfl
  rw [nextF_ok (Decidable.not_not.1 h1)]
  obtain ⟨hm, c0, c1, hF⟩ := valsF_ok (Decidable.not_not.1 h1)
  have g := InV.vals hm c0 c1
  rw [hF] at hV
  dsimp only at hV
  clear h1
  have hN := next m hm _ g
  have hr := codesL_range hm g
  obtain ⟨n, hn, n1, n2⟩ := states_nat hm
  rw [hn] at hr ⊢
  rw [compact_sort n _ hr] at hN
  generalize codesL m (valsT m.vars code) m.rules = cs at hN hr ⊢
  have hul := upTo_len n cs
  rw [Int.toNat_natCast]
  by_cases hcs : cs = []
  · subst hcs
    rw [upTo_nil] at hN hul
    rw [if_pos rfl]
    all_goals haveI fA_ : FlagA := ⟨⟩
    all_goals haveI fH_ : FlagH := ⟨⟩
    repeat' (first
      | ((with_reducible apply call0); (focus rfl); (focus exact cal_Values); (focus exact hV); (focus rfl))
      | ((with_reducible apply je_call0); (focus rfl); (focus (decide +kernel)); (focus rfl); (focus exact cal_Values); (focus exact hV); (focus rfl))
      | ((with_reducible apply callE1); (focus rfl); (focus exact cal_next); (focus exact hN); (focus rfl))
      | ((with_reducible apply je_callE); (focus rfl); (focus (decide +kernel)); (focus rfl); (focus exact cal_next); (focus exact hN); (focus rfl))
      | exact True.intro
      | refine stp ?_
      | refine two ?_ ?_
      | refine allc fun c_ => ?_
      | (refine imp fun hc => ?_) <;> try (first | contradiction | (exfalso; omega) | (exfalso; exact absurd (of_dT hc) (by assumption)) | (exfalso; exact of_dF hc (by assumption)))
      | refine all fun v_ => ?_)
    all_goals clear fA_ fH_
    refine retv (VS.trans (vfreeze (t := 4) (eb := 8) rfl rfl (fun x => rfl) (by simp)) (VS.drop (List.nil_sublist _))) ?_
    ((with_reducible apply rq2); rfl; rfl; rfl)
    exact ret_eq rfl
  · rw [if_neg hcs]
    have hu0 : 0 < (upTo n cs).length := by
      obtain ⟨x, hx⟩ := List.exists_mem_of_ne_nil _ hcs
      exact List.length_pos_of_mem ((mem_upTo hr x).2 hx)
    all_goals haveI fA_ : FlagA := ⟨⟩
    all_goals haveI fH_ : FlagH := ⟨⟩
    repeat' (first
      | ((with_reducible apply call0); (focus rfl); (focus exact cal_Values); (focus exact hV); (focus rfl))
      | ((with_reducible apply je_call0); (focus rfl); (focus (decide +kernel)); (focus rfl); (focus exact cal_Values); (focus exact hV); (focus rfl))
      | ((with_reducible apply callE1); (focus rfl); (focus exact cal_next); (focus exact hN); (focus rfl))
      | ((with_reducible apply je_callE); (focus rfl); (focus (decide +kernel)); (focus rfl); (focus exact cal_next); (focus exact hN); (focus rfl))
      | exact True.intro
      | refine stp ?_
      | refine two ?_ ?_
      | refine allc fun c_ => ?_
      | (refine imp fun hc => ?_) <;> try (first | contradiction | (exfalso; omega) | (exfalso; exact absurd (of_dT hc) (by assumption)) | (exfalso; exact of_dF hc (by assumption)))
      | refine all fun v_ => ?_)
    all_goals clear fA_ fH_
    refine retv (VS.trans (vfreeze (t := 4) (eb := 8) rfl rfl (fun x => rfl) (by omega)) (VS.drop (List.nil_sublist _))) ?_
    ((with_reducible apply rq2); rfl; rfl; rfl)
    exact ret_eq rfl
end Go.Proofs.YtcikppldaepodaaGreatDoor
namespace Go.Proofs.YtcikppldaepodaaGreatDoor
open Go Go.Av Go.Sp
set_option linter.unusedVariables false
set_option linter.unusedSimpArgs false
set_option maxRecDepth 100000
set_option maxHeartbeats 4000000
theorem cal_GrowI : Cal Tryz.prog 143 := Cal.of Tryz.func143 (by kernel_rfl) (by kernel_rfl)
theorem cal_ConcatI : Cal Tryz.prog 80 := Cal.of Tryz.func80 (by kernel_rfl) (by kernel_rfl)
theorem cal_Runs : Cal Tryz.prog 26 := Cal.of Tryz.func26 (by kernel_rfl) (by kernel_rfl)
theorem GrowI (G : List (Nat × List D)) (n : Nat) (hn : n ≤ 2000000) : AC Tryz.prog G 143 [.val (.slice none 0 0), .int n] [] fun r h => ∃ q : Sl, r = .ret (.val q.v) ∧ h = [rowE q.v 3 1 intC []] := by
  refine AC_ofV (ts := [4]) Tryz.f143.ntmps Tryz.func143 rfl rfl rfl (by simp [Tryz.ntmps143]) fun W I => ?_
  by_cases h0 : 0 < n
  · all_goals haveI fA_ : FlagA := ⟨⟩
    all_goals haveI fH_ : FlagH := ⟨⟩
    repeat' (first
      | ((with_reducible apply jp); (focus ((with_reducible apply pu_cap); rfl; rfl)); (focus rfl))
      | ((with_reducible apply jp); (focus ((with_reducible apply pu_slice_nil); rfl; rfl; rfl; (focus (with_reducible exact ElC.h)))); (focus rfl))
      | ((with_reducible apply (japp_zeros (n := n) intC 0 (.i .i64 0))); (focus rfl); (focus rfl); (focus omega); (focus rfl); (focus rfl); (focus (with_reducible exact ElC.h)); (focus rfl); (focus rfl); (focus exact fun w I => rfl); (focus omega); (focus omega); (focus omega); (focus rfl))
      | exact True.intro
      | refine stp ?_
      | refine two ?_ ?_
      | refine allc fun c_ => ?_
      | (refine imp fun hc => ?_) <;> try (first | contradiction | (exfalso; omega) | (exfalso; exact absurd (of_dT hc) (by assumption)) | (exfalso; exact of_dF hc (by assumption)))
      | refine all fun v_ => ?_)
    all_goals clear fA_ fH_
    refine retv0 ?_
    ((with_reducible apply rq1); rfl; rfl)
    exact ⟨v_, rfl, rfl⟩
  · obtain rfl : n = 0 := by omega
    all_goals haveI fA_ : FlagA := ⟨⟩
    all_goals haveI fH_ : FlagH := ⟨⟩
    repeat' (first
      | ((with_reducible apply jp); (focus ((with_reducible apply pu_cap); rfl; rfl)); (focus rfl))
      | ((with_reducible apply jp); (focus ((with_reducible apply pu_slice_nil); rfl; rfl; rfl; (focus (with_reducible exact ElC.h)))); (focus rfl))
      | ((with_reducible apply (japp_zeros (n := n) intC 0 (.i .i64 0))); (focus rfl); (focus rfl); (focus omega); (focus rfl); (focus rfl); (focus (with_reducible exact ElC.h)); (focus rfl); (focus rfl); (focus exact fun w I => rfl); (focus omega); (focus omega); (focus omega); (focus rfl))
      | exact True.intro
      | refine stp ?_
      | refine two ?_ ?_
      | refine allc fun c_ => ?_
      | (refine imp fun hc => ?_) <;> try (first | contradiction | (exfalso; omega) | (exfalso; exact absurd (of_dT hc) (by assumption)) | (exfalso; exact of_dF hc (by assumption)))
      | refine all fun v_ => ?_)
    all_goals clear fA_ fH_
    refine retv (VS.nilrow 3 1) ?_
    ((with_reducible apply rq1); rfl; rfl)
    exact ⟨Sl.nil, rfl, rfl⟩
def sumI (ls : List (List Int)) (i : Nat) : Nat := ((ls.take i).flatten).length
theorem sumI_succ (ls : List (List Int)) (i : Nat) (h : i < ls.length) : sumI ls (i + 1) = sumI ls i + ls[i].length := by
  unfold sumI
  rw [List.take_succ_eq_append_getElem h, List.flatten_append, List.length_append]; simp
theorem flat_succ (ls : List (List Int)) (i : Nat) (h : i < ls.length) : (ls.take (i + 1)).flatten = (ls.take i).flatten ++ ls[i] := by
  rw [List.take_succ_eq_append_getElem h, List.flatten_append]; simp
theorem sumI_le (ls : List (List Int)) (i : Nat) (h : i ≤ ls.length) : sumI ls i ≤ ls.flatten.length := by
  have e : ls.flatten = (ls.take i).flatten ++ (ls.drop i).flatten := by rw [← List.flatten_append, List.take_append_drop]
  unfold sumI
  rw [e, List.length_append]; omega
theorem ConcatI (G : List (Nat × List D)) (ls : List (List Int)) (hs : ls.flatten.length ≤ 2000000) : ACr Tryz.prog G 80 [.d (.l 1 24 (ls.map fun l => [intsD l]))] (.d (intsD ls.flatten)) := by
  refine AC_ofV (ts := [2]) Tryz.f80.ntmps Tryz.func80 rfl rfl rfl (by simp [Tryz.ntmps80]) fun W I => ?_
  refine jfact (t := 0) rfl fun hl => ?_
  all_goals haveI fA_ : FlagA := ⟨⟩
  all_goals haveI fH_ : FlagH := ⟨⟩
  repeat' (first
    | exact True.intro
    | refine stp ?_
    | refine two ?_ ?_
    | refine allc fun c_ => ?_
    | (refine imp fun hc => ?_) <;> try (first | contradiction | (exfalso; omega) | (exfalso; exact absurd (of_dT hc) (by assumption)) | (exfalso; exact of_dF hc (by assumption)))
    | refine all fun v_ => ?_)
  all_goals clear fA_ fH_
  refine J_loopV (X := Nat) (fun i => [(0, .d (.l 1 24 (ls.map fun l => [intsD l]))), (3, .int (sumI ls i)), (9, .d (.l 1 24 (ls.map fun l => [intsD l]))), (10, .int ls.length), (11, .int i)]) (fun _ => []) (fun i => i ≤ ls.length) (fun i => ls.length - i) 0 (Nat.zero_le _) (VS.of_le ?_) ?_
  · repeat (first
      | exact Env.le_nil _
      | refine Env.le_cons (AV.le_refl _) ?_
      | refine Env.le_cons (AV.le_int rfl (by first | rfl | omega | (dsimp only; omega))) ?_)
  rintro i h1
  by_cases hi : i < ls.length
  · have e1 := sumI_succ ls i hi
    have e2 := sumI_le ls (i + 1) hi
    all_goals haveI fA_ : FlagA := ⟨⟩
    all_goals haveI fH_ : FlagH := ⟨⟩
    repeat' (first
      | exact True.intro
      | refine stp ?_
      | refine two ?_ ?_
      | refine allc fun c_ => ?_
      | (refine imp fun hc => ?_) <;> try (first | contradiction | (exfalso; omega) | (exfalso; exact absurd (of_dT hc) (by assumption)) | (exfalso; exact of_dF hc (by assumption)))
      | refine all fun v_ => ?_)
    all_goals clear fA_ fH_
    refine ⟨i + 1, by omega, by omega, VS.of_le ?_⟩
    repeat (first
      | exact Env.le_nil _
      | refine Env.le_cons (AV.le_refl _) ?_
      | refine Env.le_cons (AV.le_int rfl (by first | rfl | omega | (dsimp only; omega))) ?_)
  obtain rfl : i = ls.length := by omega
  have e2 := sumI_le ls ls.length (Nat.le_refl _)
  all_goals haveI fA_ : FlagA := ⟨⟩
  all_goals haveI fH_ : FlagH := ⟨⟩
  repeat' (first
    | ((with_reducible apply callG); (focus rfl); (focus exact cal_GrowI); (focus exact GrowI G (sumI ls ls.length) (by omega)); (focus ((repeat (first | with_reducible exact Take.nil | ((with_reducible apply Take.cons); (focus ((repeat (first | with_reducible exact Sel.here | with_reducible apply Sel.there)); done))))); done)); (focus rfl); (focus (intro v_; (repeat (first | exact App.nil | apply App.cons)); done)))
    | exact True.intro
    | refine stp ?_
    | refine two ?_ ?_
    | refine allc fun c_ => ?_
    | (refine imp fun hc => ?_) <;> try (first | contradiction | (exfalso; omega) | (exfalso; exact absurd (of_dT hc) (by assumption)) | (exfalso; exact of_dF hc (by assumption)))
    | refine all fun v_ => ?_)
  all_goals clear fA_ fH_
  refine J_loopV (X := Nat × Sl) (fun y => [(6, .val y.2.v), (25, .d (.l 1 24 (ls.map fun l => [intsD l]))), (26, .int ls.length), (27, .int y.1)]) (fun y => [rowE y.2.v 3 1 intC (ls.take y.1).flatten]) (fun y => y.1 ≤ ls.length) (fun y => ls.length - y.1) (0, v_) (Nat.zero_le _) (VS.take (by ((repeat (first | exact Take.nil | ((with_reducible apply Take.cons); (focus ((repeat (first | exact Sel.here | with_reducible apply Sel.there)); done))))); done)) ?_) ?_
  · repeat (first
      | exact Env.le_nil _
      | refine Env.le_cons (AV.le_refl _) ?_
      | refine Env.le_cons (AV.le_int rfl (by first | rfl | omega | (dsimp only; omega))) ?_)
  rintro ⟨i, q⟩ h1
  dsimp only at h1 ⊢
  by_cases hi : i < ls.length
  · have e1 := flat_succ ls i hi
    have e3 := sumI_succ ls i hi
    have e2 := sumI_le ls (i + 1) hi
    unfold sumI at e2 e3
    all_goals haveI fA_ : FlagA := ⟨⟩
    repeat' (first
      | exact True.intro
      | refine stp ?_
      | refine two ?_ ?_
      | (refine imp fun hc => ?_) <;> try (first | contradiction | (exfalso; omega))
      | refine all fun v_ => ?_)
    all_goals clear fA_
    refine ⟨(i + 1, v_), by dsimp only; omega, by dsimp only; omega, VS.take (by dsimp only; rw [e1]; ((repeat (first | exact Take.nil | ((with_reducible apply Take.cons); (focus ((repeat (first | exact Sel.here | with_reducible apply Sel.there)); done))))); done)) ?_⟩
    repeat (first
      | exact Env.le_nil _
      | refine Env.le_cons (AV.le_refl _) ?_
      | refine Env.le_cons (AV.le_int rfl (by first | rfl | omega | (dsimp only; omega))) ?_)
  obtain rfl : i = ls.length := by omega
  rw [List.take_length]
  all_goals haveI fA_ : FlagA := ⟨⟩
  repeat' (first
    | exact True.intro
    | refine stp ?_
    | refine two ?_ ?_
    | (refine imp fun hc => ?_) <;> try (first | contradiction | (exfalso; omega))
    | refine all fun v_ => ?_)
  all_goals clear fA_
  refine retv (vfreeze (t := 2) (eb := 8) rfl rfl (fun x => rfl) (by omega)) ?_
  ((with_reducible apply rq1); rfl; rfl)
  exact ret_eq rfl
end Go.Proofs.YtcikppldaepodaaGreatDoor
