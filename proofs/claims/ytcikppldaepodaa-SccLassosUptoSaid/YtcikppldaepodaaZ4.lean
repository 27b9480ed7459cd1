/- A bundle of this claim's own texts: V1b V2 V3. -/
import Derived.Test.YtcikppldaepodaaZ3
namespace Go.Proofs.Ytcikppldaepodaa
open Go Go.Av Go.Sp
set_option linter.unusedVariables false
set_option linter.unusedSimpArgs false
set_option maxRecDepth 100000
set_option maxHeartbeats 4000000
theorem GraphFault (G : List (Nat × List D)) (g : Gr) : ACr Try.prog G 58 [grA g] (.int (graphF g)) := by
  refine AC.factN (g := listC) (f := intC) (xss := g.next) 1 8 (fun _ => rfl) (.agg (.there (.there .here))) fun hN => ?_
  refine AC_ofV (ts := [2]) Try.f58.ntmps Try.func58 rfl rfl rfl (by simp [Try.ntmps58]) fun W I => ?_
  by_cases q1 : ¬ g.spots.length ≤ 20000
  · have hh : ¬ headG g := fun h => by obtain ⟨_, _, _, _, _, _, _⟩ := h; omega
    all_goals haveI fA_ : FlagA := ⟨⟩
    repeat' (first
      | ((with_reducible apply call0); (focus rfl); (focus exact cal_In); (focus exact In _ _ _ _); (focus rfl))
      | ((with_reducible apply je_call0); (focus rfl); (focus (decide +kernel)); (focus rfl); (focus exact cal_In); (focus exact In _ _ _ _); (focus rfl))
      | exact True.intro
      | refine stp ?_
      | refine two ?_ ?_
      | (refine imp fun hc => ?_) <;> try (first | contradiction | (exfalso; omega))
      | refine all fun v_ => ?_)
    all_goals clear fA_
    refine retv (VS.drop (List.nil_sublist _)) ?_
    ((with_reducible apply rq1); rfl; rfl)
    exact ret_eq (by rw [graphF_head hh])
  replace q1 := Decidable.not_not.1 q1
  by_cases q2 : ¬ g.next.length = g.spots.length
  · have hh : ¬ headG g := fun h => by obtain ⟨_, _, _, _, _, _, _⟩ := h; omega
    all_goals haveI fA_ : FlagA := ⟨⟩
    repeat' (first
      | ((with_reducible apply call0); (focus rfl); (focus exact cal_In); (focus exact In _ _ _ _); (focus rfl))
      | ((with_reducible apply je_call0); (focus rfl); (focus (decide +kernel)); (focus rfl); (focus exact cal_In); (focus exact In _ _ _ _); (focus rfl))
      | exact True.intro
      | refine stp ?_
      | refine two ?_ ?_
      | (refine imp fun hc => ?_) <;> try (first | contradiction | (exfalso; omega))
      | refine all fun v_ => ?_)
    all_goals clear fA_
    refine retv (VS.drop (List.nil_sublist _)) ?_
    ((with_reducible apply rq1); rfl; rfl)
    exact ret_eq (by rw [graphF_head hh])
  replace q2 := Decidable.not_not.1 q2
  by_cases q3 : ¬ g.sets.length = g.spots.length
  · have hh : ¬ headG g := fun h => by obtain ⟨_, _, _, _, _, _, _⟩ := h; omega
    all_goals haveI fA_ : FlagA := ⟨⟩
    repeat' (first
      | ((with_reducible apply call0); (focus rfl); (focus exact cal_In); (focus exact In _ _ _ _); (focus rfl))
      | ((with_reducible apply je_call0); (focus rfl); (focus (decide +kernel)); (focus rfl); (focus exact cal_In); (focus exact In _ _ _ _); (focus rfl))
      | exact True.intro
      | refine stp ?_
      | refine two ?_ ?_
      | (refine imp fun hc => ?_) <;> try (first | contradiction | (exfalso; omega))
      | refine all fun v_ => ?_)
    all_goals clear fA_
    refine retv (VS.drop (List.nil_sublist _)) ?_
    ((with_reducible apply rq1); rfl; rfl)
    exact ret_eq (by rw [graphF_head hh])
  replace q3 := Decidable.not_not.1 q3
  by_cases q4 : ¬ 0 ≤ g.init
  · have hh : ¬ headG g := fun h => by obtain ⟨_, _, _, _, _, _, _⟩ := h; omega
    all_goals haveI fA_ : FlagA := ⟨⟩
    repeat' (first
      | ((with_reducible apply call0); (focus rfl); (focus exact cal_In); (focus exact In _ _ _ _); (focus rfl))
      | ((with_reducible apply je_call0); (focus rfl); (focus (decide +kernel)); (focus rfl); (focus exact cal_In); (focus exact In _ _ _ _); (focus rfl))
      | exact True.intro
      | refine stp ?_
      | refine two ?_ ?_
      | (refine imp fun hc => ?_) <;> try (first | contradiction | (exfalso; omega))
      | refine all fun v_ => ?_)
    all_goals clear fA_
    refine retv (VS.drop (List.nil_sublist _)) ?_
    ((with_reducible apply rq1); rfl; rfl)
    exact ret_eq (by rw [graphF_head hh])
  replace q4 := Decidable.not_not.1 q4
  by_cases q5 : ¬ g.init ≤ g.spots.length
  · have hh : ¬ headG g := fun h => by obtain ⟨_, _, _, _, _, _, _⟩ := h; omega
    all_goals haveI fA_ : FlagA := ⟨⟩
    repeat' (first
      | ((with_reducible apply call0); (focus rfl); (focus exact cal_In); (focus exact In _ _ _ _); (focus rfl))
      | ((with_reducible apply je_call0); (focus rfl); (focus (decide +kernel)); (focus rfl); (focus exact cal_In); (focus exact In _ _ _ _); (focus rfl))
      | exact True.intro
      | refine stp ?_
      | refine two ?_ ?_
      | (refine imp fun hc => ?_) <;> try (first | contradiction | (exfalso; omega))
      | refine all fun v_ => ?_)
    all_goals clear fA_
    refine retv (VS.drop (List.nil_sublist _)) ?_
    ((with_reducible apply rq1); rfl; rfl)
    exact ret_eq (by rw [graphF_head hh])
  replace q5 := Decidable.not_not.1 q5
  by_cases q6 : ¬ 0 ≤ g.many
  · have hh : ¬ headG g := fun h => by obtain ⟨_, _, _, _, _, _, _⟩ := h; omega
    all_goals haveI fA_ : FlagA := ⟨⟩
    repeat' (first
      | ((with_reducible apply call0); (focus rfl); (focus exact cal_In); (focus exact In _ _ _ _); (focus rfl))
      | ((with_reducible apply je_call0); (focus rfl); (focus (decide +kernel)); (focus rfl); (focus exact cal_In); (focus exact In _ _ _ _); (focus rfl))
      | exact True.intro
      | refine stp ?_
      | refine two ?_ ?_
      | (refine imp fun hc => ?_) <;> try (first | contradiction | (exfalso; omega))
      | refine all fun v_ => ?_)
    all_goals clear fA_
    refine retv (VS.drop (List.nil_sublist _)) ?_
    ((with_reducible apply rq1); rfl; rfl)
    exact ret_eq (by rw [graphF_head hh])
  replace q6 := Decidable.not_not.1 q6
  by_cases q7 : ¬ g.many ≤ 6
  · have hh : ¬ headG g := fun h => by obtain ⟨_, _, _, _, _, _, _⟩ := h; omega
    all_goals haveI fA_ : FlagA := ⟨⟩
    repeat' (first
      | ((with_reducible apply call0); (focus rfl); (focus exact cal_In); (focus exact In _ _ _ _); (focus rfl))
      | ((with_reducible apply je_call0); (focus rfl); (focus (decide +kernel)); (focus rfl); (focus exact cal_In); (focus exact In _ _ _ _); (focus rfl))
      | exact True.intro
      | refine stp ?_
      | refine two ?_ ?_
      | (refine imp fun hc => ?_) <;> try (first | contradiction | (exfalso; omega))
      | refine all fun v_ => ?_)
    all_goals clear fA_
    refine retv (VS.drop (List.nil_sublist _)) ?_
    ((with_reducible apply rq1); rfl; rfl)
    exact ret_eq (by rw [graphF_head hh])
  replace q7 := Decidable.not_not.1 q7
  have hh : headG g := ⟨q1, q2, q3, q4, q5, q6, q7⟩
  all_goals haveI fA_ : FlagA := ⟨⟩
  repeat' (first
    | ((with_reducible apply call0); (focus rfl); (focus exact cal_In); (focus exact In _ _ _ _); (focus rfl))
    | ((with_reducible apply je_call0); (focus rfl); (focus (decide +kernel)); (focus rfl); (focus exact cal_In); (focus exact In _ _ _ _); (focus rfl))
    | exact True.intro
    | refine stp ?_
    | refine two ?_ ?_
    | (refine imp fun hc => ?_) <;> try (first | contradiction | (exfalso; omega))
    | refine all fun v_ => ?_)
  all_goals clear fA_
  refine J_loopV (X := Nat × Int) (fun y => [(1, .val (.pointer (some ⟨v_, 0, none⟩))), (3, .int g.spots.length), (4, .int y.2), (5, .int y.1)]) (fun _ => [.cells v_ 26 [.d (opsD g.spots), .int g.init, .d (listsD g.next), .d (intsD g.sets), .int g.many]]) (fun y => (y.1 : Int) ≤ g.many ∧ y.2 = 2 ^ y.1) (fun y => g.many.toNat - y.1) (0, 1) ⟨by dsimp only; omega, rfl⟩ (VS.of_le ?_) ?_
  · repeat (first
      | exact Env.le_nil _
      | refine Env.le_cons (AV.le_refl _) ?_
      | refine Env.le_cons (AV.le_int rfl (by first | rfl | omega | (dsimp only; omega))) ?_)
  rintro ⟨n, p⟩ ⟨n1, n2⟩
  dsimp only at n1 n2 ⊢
  have hp := pow6n n (by omega)
  by_cases hn : (n : Int) < g.many
  · have hp' := pow6n (n + 1) (by omega)
    rw [Int.pow_succ] at hp'
    all_goals haveI fA_ : FlagA := ⟨⟩
    repeat' (first
      | ((with_reducible apply call0); (focus rfl); (focus exact cal_In); (focus exact In _ _ _ _); (focus rfl))
      | ((with_reducible apply je_call0); (focus rfl); (focus (decide +kernel)); (focus rfl); (focus exact cal_In); (focus exact In _ _ _ _); (focus rfl))
      | exact True.intro
      | refine stp ?_
      | refine two ?_ ?_
      | (refine imp fun hc => ?_) <;> try (first | contradiction | (exfalso; omega))
      | refine all fun v_ => ?_)
    all_goals clear fA_
    refine ⟨(n + 1, p * 2), ⟨by dsimp only; omega, by dsimp only; rw [Int.pow_succ, n2]⟩, by dsimp only; omega, VS.of_le ?_⟩
    repeat (first
      | exact Env.le_nil _
      | refine Env.le_cons (AV.le_refl _) ?_
      | refine Env.le_cons (AV.le_int rfl (by first | rfl | omega | (dsimp only; omega))) ?_)
  obtain rfl : n = g.many.toNat := by omega
  all_goals haveI fA_ : FlagA := ⟨⟩
  repeat' (first
    | ((with_reducible apply call0); (focus rfl); (focus exact cal_In); (focus exact In _ _ _ _); (focus rfl))
    | ((with_reducible apply je_call0); (focus rfl); (focus (decide +kernel)); (focus rfl); (focus exact cal_In); (focus exact In _ _ _ _); (focus rfl))
    | exact True.intro
    | refine stp ?_
    | refine two ?_ ?_
    | (refine imp fun hc => ?_) <;> try (first | contradiction | (exfalso; omega))
    | refine all fun v_ => ?_)
  all_goals clear fA_
  refine J_loopV (X := Nat) (fun i => [(1, .val (.pointer (some ⟨v_, 0, none⟩))), (3, .int g.spots.length), (4, .int p), (6, .int i)]) (fun _ => [.cells v_ 26 [.d (opsD g.spots), .int g.init, .d (listsD g.next), .d (intsD g.sets), .int g.many]]) (fun i => i ≤ g.spots.length ∧ ∀ j, j < i → spotG g j) (fun i => g.spots.length - i) 0 ⟨Nat.zero_le _, fun _ h => by omega⟩ (VS.of_le ?_) ?_
  · repeat (first
      | exact Env.le_nil _
      | refine Env.le_cons (AV.le_refl _) ?_
      | refine Env.le_cons (AV.le_int rfl (by first | rfl | omega | (dsimp only; omega))) ?_)
  rintro i ⟨h1, h2⟩
  by_cases hi : ¬ i < g.spots.length
  · all_goals haveI fA_ : FlagA := ⟨⟩
    repeat' (first
      | ((with_reducible apply call0); (focus rfl); (focus exact cal_In); (focus exact In _ _ _ _); (focus rfl))
      | ((with_reducible apply je_call0); (focus rfl); (focus (decide +kernel)); (focus rfl); (focus exact cal_In); (focus exact In _ _ _ _); (focus rfl))
      | exact True.intro
      | refine stp ?_
      | refine two ?_ ?_
      | (refine imp fun hc => ?_) <;> try (first | contradiction | (exfalso; omega))
      | refine all fun v_ => ?_)
    all_goals clear fA_
    refine retv (VS.drop (List.nil_sublist _)) ?_
    ((with_reducible apply rq1); rfl; rfl)
    exact ret_eq (by rw [graphF_ok ⟨hh, fun j hj => h2 j (by omega)⟩])
  replace hi := Decidable.not_not.1 hi
  have hli : i < g.next.length := by omega
  have hsi : i < g.sets.length := by omega
  have hlj := hN (g.next[i]'(by omega)) (List.getElem_mem _)
  by_cases hs : ¬ (0 ≤ g.sets[i] ∧ g.sets[i] ≤ p - 1)
  · all_goals haveI fA_ : FlagA := ⟨⟩
    repeat' (first
      | ((with_reducible apply call0); (focus rfl); (focus exact cal_In); (focus exact In _ _ _ _); (focus rfl))
      | ((with_reducible apply je_call0); (focus rfl); (focus (decide +kernel)); (focus rfl); (focus exact cal_In); (focus exact In _ _ _ _); (focus rfl))
      | exact True.intro
      | refine stp ?_
      | refine two ?_ ?_
      | (refine imp fun hc => ?_) <;> try (first | contradiction | (exfalso; omega))
      | refine all fun v_ => ?_)
    all_goals clear fA_
    refine retv (VS.drop (List.nil_sublist _)) ?_
    ((with_reducible apply rq1); rfl; rfl)
    exact ret_eq (by rw [graphF_spot hi (fun h => by have := h.2 hsi; omega)])
  replace hs := Decidable.not_not.1 hs
  all_goals haveI fA_ : FlagA := ⟨⟩
  repeat' (first
    | ((with_reducible apply call0); (focus rfl); (focus exact cal_In); (focus exact In _ _ _ _); (focus rfl))
    | ((with_reducible apply je_call0); (focus rfl); (focus (decide +kernel)); (focus rfl); (focus exact cal_In); (focus exact In _ _ _ _); (focus rfl))
    | exact True.intro
    | refine stp ?_
    | refine two ?_ ?_
    | (refine imp fun hc => ?_) <;> try (first | contradiction | (exfalso; omega))
    | refine all fun v_ => ?_)
  all_goals clear fA_
  refine J_loopV (X := Nat) (fun j => [(1, .val (.pointer (some ⟨v_, 0, none⟩))), (3, .int g.spots.length), (4, .int p), (6, .int i), (7, .int j)]) (fun _ => [.cells v_ 26 [.d (opsD g.spots), .int g.init, .d (listsD g.next), .d (intsD g.sets), .int g.many]]) (fun j => j ≤ (g.next[i]'(by omega)).length ∧ ∀ (m : Nat) (hm : m < (g.next[i]'(by omega)).length), m < j → 0 ≤ (g.next[i]'(by omega))[m] ∧ (g.next[i]'(by omega))[m] < g.spots.length) (fun j => (g.next[i]'(by omega)).length - j) 0 ⟨Nat.zero_le _, fun _ _ h => by omega⟩ (VS.of_le ?_) ?_
  · repeat (first
      | exact Env.le_nil _
      | refine Env.le_cons (AV.le_refl _) ?_
      | refine Env.le_cons (AV.le_int rfl (by first | rfl | omega | (dsimp only; omega))) ?_)
  rintro j ⟨h3, h4⟩
  by_cases hj : j < (g.next[i]'(by omega)).length
  · all_goals haveI fA_ : FlagA := ⟨⟩
    repeat' (first
      | ((with_reducible apply call0); (focus rfl); (focus exact cal_In); (focus exact In _ _ _ _); (focus rfl))
      | ((with_reducible apply je_call0); (focus rfl); (focus (decide +kernel)); (focus rfl); (focus exact cal_In); (focus exact In _ _ _ _); (focus rfl))
      | exact True.intro
      | refine stp ?_
      | refine two ?_ ?_
      | (refine imp fun hc => ?_) <;> try (first | contradiction | (exfalso; omega))
      | refine all fun v_ => ?_)
    all_goals clear fA_
    all_goals first
      | (refine retv (VS.drop (List.nil_sublist _)) ?_
         ((with_reducible apply rq1); rfl; rfl)
         exact ret_eq (by rw [graphF_spot hi (fun h => by have := h.1 hli _ (List.getElem_mem hj); omega)]))
      | (refine ⟨j + 1, ⟨by omega, fun m hm hmj => ?_⟩, by omega, VS.of_le ?_⟩
         · by_cases e : m = j
           · subst e; omega
           · exact h4 m hm (by omega)
         · repeat (first
             | exact Env.le_nil _
             | refine Env.le_cons (AV.le_refl _) ?_
             | refine Env.le_cons (AV.le_int rfl (by first | rfl | omega | (dsimp only; omega))) ?_))
  have hall : ∀ k ∈ (g.next[i]'(by omega)), 0 ≤ k ∧ k < g.spots.length := fun k hk => by
    obtain ⟨m, hm, rfl⟩ := List.getElem_of_mem hk
    exact h4 m hm (by omega)
  all_goals haveI fA_ : FlagA := ⟨⟩
  repeat' (first
    | ((with_reducible apply call0); (focus rfl); (focus exact cal_In); (focus exact In _ _ _ _); (focus rfl))
    | ((with_reducible apply je_call0); (focus rfl); (focus (decide +kernel)); (focus rfl); (focus exact cal_In); (focus exact In _ _ _ _); (focus rfl))
    | exact True.intro
    | refine stp ?_
    | refine two ?_ ?_
    | (refine imp fun hc => ?_) <;> try (first | contradiction | (exfalso; omega))
    | refine all fun v_ => ?_)
  all_goals clear fA_
  refine ⟨i + 1, ⟨by omega, fun m hm => ?_⟩, by omega, VS.of_le ?_⟩
  · by_cases e : m = i
    · subst e; exact ⟨fun _ => hall, fun _ => by omega⟩
    · exact h2 m (by omega)
  · repeat (first
      | exact Env.le_nil _
      | refine Env.le_cons (AV.le_refl _) ?_
      | refine Env.le_cons (AV.le_int rfl (by first | rfl | omega | (dsimp only; omega))) ?_)
end Go.Proofs.Ytcikppldaepodaa
namespace Go.Proofs.Ytcikppldaepodaa
open Go Go.Av Go.Sp
set_option linter.unusedVariables false
set_option linter.unusedSimpArgs false
set_option maxRecDepth 100000
set_option maxHeartbeats 4000000

theorem cal_reachedFrom : Cal Try.prog 60 := Cal.of Try.func60 (by kernel_rfl) (by kernel_rfl)
theorem cal_ReachedOf : Cal Try.prog 35 := Cal.of Try.func35 (by kernel_rfl) (by kernel_rfl)
theorem cal_SReached : Cal Try.prog 53 := Cal.of Try.func53 (by kernel_rfl) (by kernel_rfl)
theorem cal_visit : Cal Try.prog 67 := Cal.of Try.func67 (by kernel_rfl) (by kernel_rfl)
abbrev gnA (g : Gn) : AV := .agg [.d (opsD g.spots), .int g.init, .d (natLD g.next), .d (natsD g.sets), .int g.many]
theorem gnA_eq (g : Gn) : grA g.gr = gnA g := by
  unfold grA gnA Gn.gr
  rw [natsD_eq, natLD_eq]
theorem reachedFrom (G : List (Nat × List D)) (g : Gn) (fr : List Nat) (hnl : g.next.length = g.spots.length) (hto : ∀ i, ∀ k ∈ g.nx i, k < g.spots.length) (hfr : ∀ j ∈ fr, j < g.spots.length) (hsz : g.spots.length ≤ 20000) :
    ACr Try.prog G 60 [gnA g, .d (natsD fr)] (.d (boolsD (fromL g.nx g.spots.length fr))) := by
  refine AC.factN (g := natLC) (f := natC) (xss := g.next) 1 8 (fun _ => rfl) (.agg (.there (.there .here))) fun hN => ?_
  refine AC.factI (f := natC) (xs := fr) (.there .here) fun hfl => ?_
  refine AC_ofV (ts := [4]) Try.f60.ntmps Try.func60 rfl rfl rfl (by simp [Try.ntmps60]) fun W I => ?_
  all_goals haveI fA_ : FlagA := ⟨⟩
  repeat' (first
    | exact True.intro
    | refine stp ?_
    | refine two ?_ ?_
    | (refine imp fun hc => ?_) <;> try (first | contradiction | (exfalso; omega))
    | refine all fun v_ => ?_)
  all_goals clear fA_
  rename_i bg
  refine J_loopV (X := List Int × Nat) (fun y => [(1, .d (natsD fr)), (2, .val (.pointer (some ⟨bg, 0, none⟩))), (5, .val (.slice (some ⟨v_, 0, none⟩) g.spots.length g.spots.length)), (6, .int y.2)]) (fun y => [.cells v_ 3 (y.1.map AV.int), .cells bg 26 [.d (opsD g.spots), .int g.init, .d (natLD g.next), .d (natsD g.sets), .int g.many]]) (fun y => y.2 ≤ fr.length ∧ y.1.length = g.spots.length ∧ (∀ v, gi y.1 v = 0 ∨ gi y.1 v = 1) ∧ (∀ v, gi y.1 v ≠ 0 → v ∈ fr) ∧ ∀ (m : Nat) (hm : m < fr.length), m < y.2 → gi y.1 fr[m] ≠ 0) (fun y => fr.length - y.2) (List.replicate g.spots.length 0, 0) ⟨Nat.zero_le _, by simp, fun v => .inl (gi_rep _ _), fun v h => absurd (gi_rep _ _) h, fun _ _ h => by omega⟩ (VS.of_le ?_) ?_
  · repeat (first
      | exact Env.le_nil _
      | refine Env.le_cons (AV.le_refl _) ?_
      | refine Env.le_cons (AV.le_int rfl (by first | rfl | omega | (dsimp only; omega))) ?_)
  rintro ⟨st, i⟩ ⟨h1, h2, h3, h4, h5⟩
  dsimp only at h1 h2 h3 h4 h5 ⊢
  by_cases hi : i < fr.length
  · have hk := hfr fr[i] (List.getElem_mem hi)
    all_goals haveI fA_ : FlagA := ⟨⟩
    repeat' (first
      | exact True.intro
      | refine stp ?_
      | refine two ?_ ?_
      | (refine imp fun hc => ?_) <;> try (first | contradiction | (exfalso; omega))
      | refine all fun v_ => ?_)
    all_goals clear fA_
    refine ⟨(st.set fr[i] 1, i + 1), ⟨by dsimp only; omega, by simp [h2], fun v => ?_, fun v hv => ?_, fun m hm hmi => ?_⟩, by dsimp only; omega, VS.of_le ?_⟩
    · rw [gi_set _ _ _ _ (by omega)]; split
      · exact .inr rfl
      · exact h3 v
    · dsimp only at hv
      rw [gi_set _ _ _ _ (by omega)] at hv
      by_cases e : v = fr[i]
      · rw [e]; exact List.getElem_mem hi
      · rw [if_neg e] at hv; exact h4 v hv
    · dsimp only at hmi ⊢
      rw [gi_set _ _ _ _ (by omega)]; split
      · decide
      · rename_i hne
        exact h5 m hm (by
          have : m ≠ i := fun e => hne (by subst e; rfl)
          omega)
    · repeat (first
        | exact Env.le_nil _
        | refine Env.le_cons (AV.le_refl _) ?_
        | refine Env.le_cons (AV.le_int rfl (by first | rfl | omega | (dsimp only; omega))) ?_)
  have hF : FI g.nx g.spots.length fr none st := ⟨h2, fun v => by rcases h3 v with h | h; exact .inl h; exact .inr (.inl h), fun v hv => ⟨v, h4 v hv, .refl v⟩, fun v hv => by
    obtain ⟨m, hm, rfl⟩ := List.getElem_of_mem hv
    exact h5 m hm (by omega), fun v hv => by rcases h3 v with h | h <;> omega⟩
  all_goals haveI fA_ : FlagA := ⟨⟩
  repeat' (first
    | exact True.intro
    | refine stp ?_
    | refine two ?_ ?_
    | (refine imp fun hc => ?_) <;> try (first | contradiction | (exfalso; omega))
    | refine all fun v_ => ?_)
  all_goals clear fA_
  refine J_loopV (X := List Int × Bool) (fun y => [(2, .val (.pointer (some ⟨bg, 0, none⟩))), (5, .val (.slice (some ⟨v_, 0, none⟩) g.spots.length g.spots.length)), (7, .bool y.2)]) (fun y => [.cells v_ 3 (y.1.map AV.int), .cells bg 26 [.d (opsD g.spots), .int g.init, .d (natLD g.next), .d (natsD g.sets), .int g.many]]) (fun y => FI g.nx g.spots.length fr none y.1 ∧ (y.2 = false → ∀ i, i < g.spots.length → gi y.1 i ≠ 1)) (fun y => 2 * not2 y.1 + (if y.2 then 1 else 0)) (st, true) ⟨hF, fun h => by cases h⟩ (VS.of_le ?_) ?_
  · repeat (first
      | exact Env.le_nil _
      | refine Env.le_cons (AV.le_refl _) ?_
      | refine Env.le_cons (AV.le_int rfl (by first | rfl | omega | (dsimp only; omega))) ?_)
  clear hF h1 h2 h3 h4 h5 hi
  rintro ⟨st, ag⟩ ⟨k1, k2⟩
  dsimp only at k1 k2 ⊢
  have hl := k1.len
  cases ag with
  | false =>
    all_goals haveI fA_ : FlagA := ⟨⟩
    repeat' (first
      | exact True.intro
      | refine stp ?_
      | refine two ?_ ?_
      | (refine imp fun hc => ?_) <;> try (first | contradiction | (exfalso; omega))
      | refine all fun v_ => ?_)
    all_goals clear fA_
    refine jrow (E := 4) (sz := 1) boolC ?_
    refine J_loop (X := Nat × Sl) (fun y => [(5, .val (.slice (some ⟨v_, 0, none⟩) g.spots.length g.spots.length)), (10, .val y.2.v), (11, .int y.1)]) (fun y => [rowE y.2.v 4 1 boolC ((st.map fun s => decide (0 < s)).take y.1), .cells v_ 3 (st.map AV.int), .cells bg 26 [.d (opsD g.spots), .int g.init, .d (natLD g.next), .d (natsD g.sets), .int g.many]]) (fun y => y.1 ≤ st.length) (fun y => st.length - y.1) (0, Sl.nil) (Nat.zero_le _) ?_ rfl ?_
    · repeat (first
        | exact Env.le_nil _
        | refine Env.le_cons (AV.le_refl _) ?_
        | refine Env.le_cons (AV.le_int rfl (by first | rfl | omega | (dsimp only; omega))) ?_)
    rintro ⟨i, q⟩ h1
    dsimp only at h1 ⊢
    have hlen : ((st.map fun s => decide (0 < s)).take i).length = i := by rw [List.length_take, List.length_map]; omega
    by_cases hi : i < st.length
    · all_goals haveI fA_ : FlagA := ⟨⟩
      repeat' (first
        | exact True.intro
        | refine stp ?_
        | refine two ?_ ?_
        | (refine imp fun hc => ?_) <;> try (first | contradiction | (exfalso; omega))
        | refine all fun v_ => ?_)
      all_goals clear fA_
      refine ⟨(i + 1, v_), by dsimp only; omega, by dsimp only; omega, ?_, ?_⟩
      · repeat (first
          | exact Env.le_nil _
          | refine Env.le_cons (AV.le_refl _) ?_
          | refine Env.le_cons (AV.le_int rfl (by first | rfl | omega | (dsimp only; omega))) ?_)
      · dsimp only
        rw [List.take_succ_eq_append_getElem (by rw [List.length_map]; exact hi), List.getElem_map]
    · all_goals haveI fA_ : FlagA := ⟨⟩
      repeat' (first
        | exact True.intro
        | refine stp ?_
        | refine two ?_ ?_
        | (refine imp fun hc => ?_) <;> try (first | contradiction | (exfalso; omega))
        | refine all fun v_ => ?_)
      all_goals clear fA_
      refine retv (VS.trans (VS.drop (h' := [rowE q.v 4 1 boolC ((st.map fun s => decide (0 < s)).take i)]) (by (repeat (first | exact List.nil_sublist _ | (with_reducible apply List.Sublist.cons_cons) | apply List.Sublist.cons)))) (vfreeze (t := 4) (eb := 1) rfl rfl (fun x => rfl) (by omega))) ?_
      ((with_reducible apply rq1); rfl; rfl)
      refine ret_eq ?_
      rw [List.take_of_length_le (by rw [List.length_map]; omega), k1.all (k2 rfl) hto]
  | true =>
    all_goals haveI fA_ : FlagA := ⟨⟩
    repeat' (first
      | exact True.intro
      | refine stp ?_
      | refine two ?_ ?_
      | (refine imp fun hc => ?_) <;> try (first | contradiction | (exfalso; omega))
      | refine all fun v_ => ?_)
    all_goals clear fA_
    refine J_loopV (X := List Int × Bool × Nat) (fun y => [(2, .val (.pointer (some ⟨bg, 0, none⟩))), (5, .val (.slice (some ⟨v_, 0, none⟩) g.spots.length g.spots.length)), (7, .bool y.2.1), (8, .int y.2.2)]) (fun y => [.cells v_ 3 (y.1.map AV.int), .cells bg 26 [.d (opsD g.spots), .int g.init, .d (natLD g.next), .d (natsD g.sets), .int g.many]]) (fun y => FI g.nx g.spots.length fr none y.1 ∧ y.2.2 ≤ g.spots.length ∧ (y.2.1 = false → y.1 = st ∧ ∀ j, j < y.2.2 → gi st j ≠ 1) ∧ (y.2.1 = true → not2 y.1 < not2 st)) (fun y => g.spots.length - y.2.2) (st, false, 0) ⟨k1, Nat.zero_le _, fun _ => ⟨rfl, fun j h => absurd h (Nat.not_lt_zero j)⟩, fun h => (by cases h)⟩ (VS.of_le ?_) ?_
    · repeat (first
        | exact Env.le_nil _
        | refine Env.le_cons (AV.le_refl _) ?_
        | refine Env.le_cons (AV.le_int rfl (by first | rfl | omega | (dsimp only; omega))) ?_)
    rintro ⟨s1, a1, i⟩ ⟨q1, q2, q3, q4⟩
    dsimp only at q1 q2 q3 q4 ⊢
    have hl1 := q1.len
    by_cases hi : ¬ i < g.spots.length
    · all_goals haveI fA_ : FlagA := ⟨⟩
      repeat' (first
        | exact True.intro
        | refine stp ?_
        | refine two ?_ ?_
        | (refine imp fun hc => ?_) <;> try (first | contradiction | (exfalso; omega))
        | refine all fun v_ => ?_)
      all_goals clear fA_
      refine ⟨(s1, a1), ⟨q1, fun h j hj => ?_⟩, ?_, VS.of_le ?_⟩
      · obtain ⟨e1, e2⟩ := q3 h
        rw [e1]; exact e2 j (by omega)
      · dsimp only
        cases a1 with
        | false => rw [(q3 rfl).1]; simp
        | true => have := q4 rfl; simp; omega
      · repeat (first
          | exact Env.le_nil _
          | refine Env.le_cons (AV.le_refl _) ?_
          | refine Env.le_cons (AV.le_int rfl (by first | rfl | omega | (dsimp only; omega))) ?_)
    replace hi := Decidable.not_not.1 hi
    have hgi : gi s1 i = s1[i]'(by omega) := gi_get _ _ _
    by_cases h1 : ¬ gi s1 i = 1
    · have h1' : ¬ s1[i]'(by omega) = 1 := by rw [← hgi]; exact h1
      all_goals haveI fA_ : FlagA := ⟨⟩
      repeat' (first
        | exact True.intro
        | refine stp ?_
        | refine two ?_ ?_
        | (refine imp fun hc => ?_) <;> try (first | contradiction | (exfalso; omega))
        | refine all fun v_ => ?_)
      all_goals clear fA_
      refine ⟨(s1, a1, i + 1), ⟨q1, by dsimp only; omega, fun h => ⟨(q3 h).1, fun j hj => ?_⟩, q4⟩, by dsimp only; omega, VS.of_le ?_⟩
      · by_cases e : j = i
        · rw [e, ← (q3 h).1]; exact h1
        · exact (q3 h).2 j (by dsimp only at hj; omega)
      · repeat (first
          | exact Env.le_nil _
          | refine Env.le_cons (AV.le_refl _) ?_
          | refine Env.le_cons (AV.le_int rfl (by first | rfl | omega | (dsimp only; omega))) ?_)
    replace h1 := Decidable.not_not.1 h1
    have h1' : s1[i]'(by omega) = 1 := by rw [← hgi]; exact h1
    have hn2 := not2_set2 s1 i (by omega) (by rw [h1']; decide)
    have hsl : (s1.set i 2).length = g.spots.length := by simp [hl1]
    have hle2 : not2 s1 ≤ not2 st := by
      cases a1 with
      | false => rw [(q3 rfl).1]; exact Nat.le_refl _
      | true => exact Nat.le_of_lt (q4 rfl)
    all_goals haveI fA_ : FlagA := ⟨⟩
    repeat' (first
      | exact True.intro
      | refine stp ?_
      | refine two ?_ ?_
      | (refine imp fun hc => ?_) <;> try (first | contradiction | (exfalso; omega))
      | refine all fun v_ => ?_)
    all_goals clear fA_
    refine J_loopV (X := List Int × Nat) (fun y => [(2, .val (.pointer (some ⟨bg, 0, none⟩))), (5, .val (.slice (some ⟨v_, 0, none⟩) g.spots.length g.spots.length)), (7, .bool true), (8, .int i), (9, .int y.2)]) (fun y => [.cells v_ 3 (y.1.map AV.int), .cells bg 26 [.d (opsD g.spots), .int g.init, .d (natLD g.next), .d (natsD g.sets), .int g.many]]) (fun y => FI g.nx g.spots.length fr (some (i, y.2)) y.1 ∧ gi y.1 i = 2 ∧ not2 y.1 = not2 (s1.set i 2) ∧ y.2 ≤ (g.nx i).length) (fun y => (g.nx i).length - y.2) (s1.set i 2, 0) ⟨q1.take h1, by rw [gi_set _ _ _ _ (by omega), if_pos rfl], rfl, Nat.zero_le _⟩ (VS.of_le ?_) ?_
    · repeat (first
        | exact Env.le_nil _
        | refine Env.le_cons (AV.le_refl _) ?_
        | refine Env.le_cons (AV.le_int rfl (by first | rfl | omega | (dsimp only; omega))) ?_)
    rintro ⟨s2, j⟩ ⟨r1, r2, r3, r4⟩
    dsimp only at r1 r2 r3 r4 ⊢
    have hl2 := r1.len
    have hnx := g.nx_get i (by omega)
    have hlj := hN (g.next[i]'(by omega)) (List.getElem_mem _)
    rw [hnx] at r4
    by_cases hj : j < (g.next[i]'(by omega)).length
    · have hj' : j < (g.nx i).length := by rw [hnx]; exact hj
      have hkk := hto i _ (List.getElem_mem hj')
      have hm := r1.mark hto r2 hj'
      have hke : (g.nx i)[j] = (g.next[i]'(by omega))[j] := by simp only [hnx]
      rw [hke] at hm hkk
      have hgk : gi s2 ((g.next[i]'(by omega))[j]) = s2[(g.next[i]'(by omega))[j]]'(by omega) := gi_get _ _ _
      by_cases h0 : s2[(g.next[i]'(by omega))[j]]'(by omega) = 0
      · have em : markF s2 ((g.next[i]'(by omega))[j]) = s2.set ((g.next[i]'(by omega))[j]) 1 := by rw [markF, hgk, if_pos h0]
        rw [em] at hm
        all_goals haveI fA_ : FlagA := ⟨⟩
        repeat' (first
          | exact True.intro
          | refine stp ?_
          | refine two ?_ ?_
          | (refine imp fun hc => ?_) <;> try (first | contradiction | (exfalso; omega))
          | refine all fun v_ => ?_)
        all_goals clear fA_
        refine ⟨(s2.set ((g.next[i]'(by omega))[j]) 1, j + 1), ⟨hm.1, hm.2.1, hm.2.2.trans r3, by dsimp only; rw [hnx]; omega⟩, by dsimp only; rw [hnx]; omega, VS.of_le ?_⟩
        repeat (first
          | exact Env.le_nil _
          | refine Env.le_cons (AV.le_refl _) ?_
          | refine Env.le_cons (AV.le_int rfl (by first | rfl | omega | (dsimp only; omega))) ?_)
      · have em : markF s2 ((g.next[i]'(by omega))[j]) = s2 := by rw [markF, hgk, if_neg h0]
        rw [em] at hm
        all_goals haveI fA_ : FlagA := ⟨⟩
        repeat' (first
          | exact True.intro
          | refine stp ?_
          | refine two ?_ ?_
          | (refine imp fun hc => ?_) <;> try (first | contradiction | (exfalso; omega))
          | refine all fun v_ => ?_)
        all_goals clear fA_
        refine ⟨(s2, j + 1), ⟨hm.1, hm.2.1, r3, by dsimp only; rw [hnx]; omega⟩, by dsimp only; rw [hnx]; omega, VS.of_le ?_⟩
        repeat (first
          | exact Env.le_nil _
          | refine Env.le_cons (AV.le_refl _) ?_
          | refine Env.le_cons (AV.le_int rfl (by first | rfl | omega | (dsimp only; omega))) ?_)
    · have ej : j = (g.nx i).length := by rw [hnx]; omega
      rw [ej] at r1
      all_goals haveI fA_ : FlagA := ⟨⟩
      repeat' (first
        | exact True.intro
        | refine stp ?_
        | refine two ?_ ?_
        | (refine imp fun hc => ?_) <;> try (first | contradiction | (exfalso; omega))
        | refine all fun v_ => ?_)
      all_goals clear fA_
      refine ⟨(s2, true, i + 1), ⟨r1.done, by dsimp only; omega, fun h => (by cases h), fun _ => by dsimp only; omega⟩, by dsimp only; omega, VS.of_le ?_⟩
      repeat (first
        | exact Env.le_nil _
        | refine Env.le_cons (AV.le_refl _) ?_
        | refine Env.le_cons (AV.le_int rfl (by first | rfl | omega | (dsimp only; omega))) ?_)
theorem ReachedOf (G : List (Nat × List D)) (g : Gr) : ACr Try.prog G 35 [grA g] (.tup [.d (boolsD (reachedOf g).1), .int (reachedOf g).2]) := by
  refine AC_ofV (ts := [2, 3]) Try.f35.ntmps Try.func35 rfl rfl rfl (by simp [Try.ntmps35]) fun W I => ?_
  have E := GraphFault G g
  by_cases hk : ¬ okG g
  · have e : graphF g = 9 := if_neg hk
    rw [e] at E
    all_goals haveI fA_ : FlagA := ⟨⟩
    repeat' (first
      | ((with_reducible apply call0); (focus rfl); (focus exact cal_GraphFault); (focus exact E); (focus rfl))
      | ((with_reducible apply je_call0); (focus rfl); (focus (decide +kernel)); (focus rfl); (focus exact cal_GraphFault); (focus exact E); (focus rfl))
      | ((with_reducible apply call0); (focus rfl); (focus exact cal_reachedFrom); (focus exact reachedFrom _ _ _ hok.next (fun i => g.nx_lt hok i) (by assumption) hok.size); (focus rfl))
      | ((with_reducible apply je_call0); (focus rfl); (focus (decide +kernel)); (focus rfl); (focus exact cal_reachedFrom); (focus exact reachedFrom _ _ _ hok.next (fun i => g.nx_lt hok i) (by assumption) hok.size); (focus rfl))
      | exact True.intro
      | refine stp ?_
      | refine two ?_ ?_
      | (refine imp fun hc => ?_) <;> try (first | contradiction | (exfalso; omega))
      | refine all fun v_ => ?_)
    all_goals clear fA_
    refine retv (VS.trans (VS.drop (List.nil_sublist _)) (vnil (t := 2) 1 1 rfl)) ?_
    ((with_reducible apply rq2); rfl; rfl; rfl)
    exact ret_eq (by rw [reachedOf_no hk]; rfl)
  obtain ⟨g, rfl, hok⟩ := okG_nat (Decidable.not_not.1 hk)
  rw [graphF_ok (Gn.ok_gr hok)] at E
  rw [gnA_eq] at E ⊢
  clear hk
  all_goals haveI fA_ : FlagA := ⟨⟩
  repeat' (first
    | ((with_reducible apply call0); (focus rfl); (focus exact cal_GraphFault); (focus exact E); (focus rfl))
    | ((with_reducible apply je_call0); (focus rfl); (focus (decide +kernel)); (focus rfl); (focus exact cal_GraphFault); (focus exact E); (focus rfl))
    | ((with_reducible apply call0); (focus rfl); (focus exact cal_reachedFrom); (focus exact reachedFrom _ _ _ hok.next (fun i => g.nx_lt hok i) (by assumption) hok.size); (focus rfl))
    | ((with_reducible apply je_call0); (focus rfl); (focus (decide +kernel)); (focus rfl); (focus exact cal_reachedFrom); (focus exact reachedFrom _ _ _ hok.next (fun i => g.nx_lt hok i) (by assumption) hok.size); (focus rfl))
    | exact True.intro
    | refine stp ?_
    | refine two ?_ ?_
    | (refine imp fun hc => ?_) <;> try (first | contradiction | (exfalso; omega))
    | refine all fun v_ => ?_)
  all_goals clear fA_
  rename Nat => bg
  have hb := hok.init
  have hs := hok.size
  refine jrow (E := 3) (sz := 1) natC ?_
  refine J_loop (X := Nat × Sl) (fun y => [(1, .val (.pointer (some ⟨bg, 0, none⟩))), (5, .val y.2.v), (6, .int y.1)]) (fun y => [rowE y.2.v 3 1 natC (List.range y.1), .cells bg 26 [.d (opsD g.spots), .int g.init, .d (natLD g.next), .d (natsD g.sets), .int g.many]]) (fun y => y.1 ≤ g.init) (fun y => g.init - y.1) (0, Sl.nil) (Nat.zero_le _) ?_ rfl ?_
  · repeat (first
      | exact Env.le_nil _
      | refine Env.le_cons (AV.le_refl _) ?_
      | refine Env.le_cons (AV.le_int rfl (by first | rfl | omega | (dsimp only; omega))) ?_)
  rintro ⟨i, q⟩ h1
  dsimp only at h1 ⊢
  by_cases hi : i < g.init
  · all_goals haveI fA_ : FlagA := ⟨⟩
    repeat' (first
      | ((with_reducible apply call0); (focus rfl); (focus exact cal_GraphFault); (focus exact E); (focus rfl))
      | ((with_reducible apply je_call0); (focus rfl); (focus (decide +kernel)); (focus rfl); (focus exact cal_GraphFault); (focus exact E); (focus rfl))
      | ((with_reducible apply call0); (focus rfl); (focus exact cal_reachedFrom); (focus exact reachedFrom _ _ _ hok.next (fun i => g.nx_lt hok i) (by assumption) hok.size); (focus rfl))
      | ((with_reducible apply je_call0); (focus rfl); (focus (decide +kernel)); (focus rfl); (focus exact cal_reachedFrom); (focus exact reachedFrom _ _ _ hok.next (fun i => g.nx_lt hok i) (by assumption) hok.size); (focus rfl))
      | exact True.intro
      | refine stp ?_
      | refine two ?_ ?_
      | (refine imp fun hc => ?_) <;> try (first | contradiction | (exfalso; omega))
      | refine all fun v_ => ?_)
    all_goals clear fA_
    refine ⟨(i + 1, v_), by dsimp only; omega, by dsimp only; omega, ?_, ?_⟩
    · repeat (first
        | exact Env.le_nil _
        | refine Env.le_cons (AV.le_refl _) ?_
        | refine Env.le_cons (AV.le_int rfl (by first | rfl | omega | (dsimp only; omega))) ?_)
    · dsimp only
      rw [List.range_succ]
  obtain rfl : i = g.init := by omega
  have hfr : ∀ j ∈ List.range g.init, j < g.spots.length := fun j hj => by have := List.mem_range.1 hj; have := hok.init; omega
  refine J_vs (vdat (h1 := []) (h' := [_]) 8 rfl rfl (fun _ => rfl) (by rw [List.length_range]; omega) (CvE.cons (t := 5) rfl .here (CvE.refl _ _ _)) (CvH.refl _)) ?_
  all_goals haveI fA_ : FlagA := ⟨⟩
  repeat' (first
    | ((with_reducible apply call0); (focus rfl); (focus exact cal_GraphFault); (focus exact E); (focus rfl))
    | ((with_reducible apply je_call0); (focus rfl); (focus (decide +kernel)); (focus rfl); (focus exact cal_GraphFault); (focus exact E); (focus rfl))
    | ((with_reducible apply call0); (focus rfl); (focus exact cal_reachedFrom); (focus exact reachedFrom _ _ _ hok.next (fun i => g.nx_lt hok i) (by assumption) hok.size); (focus rfl))
    | ((with_reducible apply je_call0); (focus rfl); (focus (decide +kernel)); (focus rfl); (focus exact cal_reachedFrom); (focus exact reachedFrom _ _ _ hok.next (fun i => g.nx_lt hok i) (by assumption) hok.size); (focus rfl))
    | exact True.intro
    | refine stp ?_
    | refine two ?_ ?_
    | (refine imp fun hc => ?_) <;> try (first | contradiction | (exfalso; omega))
    | refine all fun v_ => ?_)
  all_goals clear fA_
  refine retv (VS.drop (List.nil_sublist _)) ?_
  ((with_reducible apply rq2); rfl; rfl; rfl)
  exact ret_eq (by rw [reachedOf_ok hok, fromL_init])
end Go.Proofs.Ytcikppldaepodaa
namespace Go.Proofs.Ytcikppldaepodaa
open Go Go.Av Go.Sp
set_option linter.unusedVariables false
set_option linter.unusedSimpArgs false
set_option maxRecDepth 100000
set_option maxHeartbeats 4000000

abbrev visH (bs bt bv : Nat) (n : Nat) (p : List Bool × List Nat) (q : Sl) : H := [.cells bs 59 [.val (.slice (some ⟨bv, 0, none⟩) n n)], .cells bv 4 (p.1.map AV.bool), .cells bt 24 [.val q.v], rowE q.v 3 1 natC p.2]
theorem visit (G : List (Nat × List D)) (bs bt bv n i : Nat) (p : List Bool × List Nat) (q : Sl) (hn : p.1.length = n) (hi : i < n) (hl : n ≤ 20000) (hp : p.2.length ≤ 100000) :
    AC Try.prog G 67 [.int i, .val (.pointer (some ⟨bs, 0, none⟩)), .val (.pointer (some ⟨bt, 0, none⟩))] (visH bs bt bv n p q) fun r h => ∃ q' : Sl, r = .ret (.tup []) ∧ h = visH bs bt bv n (visitF p i) q' := by
  refine AC_of (ts := []) Try.f67.ntmps Try.func67 rfl rfl rfl (by simp [Try.ntmps67]) fun W I => ?_
  have hb := bi_get p.1 i (by omega)
  by_cases h : p.1[i]'(by omega) = true
  · have e : visitF p i = p := by rw [visitF, hb, if_pos h]
    rw [e]
    all_goals haveI fA_ : FlagA := ⟨⟩
    repeat' (first
      | exact True.intro
      | refine stp ?_
      | refine two ?_ ?_
      | (refine imp fun hc => ?_) <;> try (first | contradiction | (exfalso; omega))
      | refine all fun v_ => ?_)
    all_goals clear fA_
    · exact rq0 rfl ⟨_, rfl, rfl⟩
    · rw [h] at hc; cases hc
  · have e : visitF p i = (p.1.set i true, p.2 ++ [i]) := by rw [visitF, hb, if_neg h]
    rw [e]
    all_goals haveI fA_ : FlagA := ⟨⟩
    repeat' (first
      | exact True.intro
      | refine stp ?_
      | refine two ?_ ?_
      | (refine imp fun hc => ?_) <;> try (first | contradiction | (exfalso; omega))
      | refine all fun v_ => ?_)
    all_goals clear fA_
    exact rq0 rfl ⟨_, rfl, rfl⟩
theorem unseen_rep : ∀ n : Nat, unseen (List.replicate n false) = n
  | 0 => rfl
  | n + 1 => by rw [List.replicate_succ, unseen, unseen_rep n]; simp [Nat.add_comm]
theorem getC_last {α : Type} (r : List α) (v : α) (h : ((((r ++ [v]).length : Nat) : Int) - 1).toNat < (r ++ [v]).length) : (r ++ [v])[((((r ++ [v]).length : Nat) : Int) - 1).toNat] = v := by
  have e : ((((r ++ [v]).length : Nat) : Int) - 1).toNat = r.length := by simp
  simp [e]
theorem takeC_last {α : Type} (r : List α) (v : α) : (r ++ [v]).take ((((r ++ [v]).length : Nat) : Int) - 1).toNat = r := by
  have e : ((((r ++ [v]).length : Nat) : Int) - 1).toNat = r.length := by simp
  rw [e, List.take_left]
theorem SReached (G : List (Nat × List D)) (g : Gr) : ACr Try.prog G 53 [grA g] (.tup [.d (boolsD (reachedOf g).1), .int (reachedOf g).2]) := by
  refine AC_ofV (ts := [2, 3]) Try.f53.ntmps Try.func53 rfl rfl rfl (by simp [Try.ntmps53]) fun W I => ?_
  have E := SCheck G g
  by_cases hk : ¬ okG g
  · have e : graphF g = 9 := if_neg hk
    rw [e] at E
    all_goals haveI fA_ : FlagA := ⟨⟩
    repeat' (first
      | ((with_reducible apply call0); (focus rfl); (focus exact cal_SCheck); (focus exact E); (focus rfl))
      | ((with_reducible apply je_call0); (focus rfl); (focus (decide +kernel)); (focus rfl); (focus exact cal_SCheck); (focus exact E); (focus rfl))
      | exact True.intro
      | refine stp ?_
      | refine two ?_ ?_
      | (refine imp fun hc => ?_) <;> try (first | contradiction | (exfalso; omega))
      | refine all fun v_ => ?_)
    all_goals clear fA_
    refine retv (VS.trans (VS.drop (List.nil_sublist _)) (vnil (t := 2) 1 1 rfl)) ?_
    ((with_reducible apply rq2); rfl; rfl; rfl)
    exact ret_eq (by rw [reachedOf_no hk]; rfl)
  obtain ⟨g, rfl, hok⟩ := okG_nat (Decidable.not_not.1 hk)
  rw [graphF_ok (Gn.ok_gr hok)] at E
  rw [gnA_eq] at E ⊢
  clear hk
  have hs := hok.size
  have hi0 := hok.init
  have hnl := hok.next
  all_goals haveI fA_ : FlagA := ⟨⟩
  repeat' (first
    | ((with_reducible apply call0); (focus rfl); (focus exact cal_SCheck); (focus exact E); (focus rfl))
    | ((with_reducible apply je_call0); (focus rfl); (focus (decide +kernel)); (focus rfl); (focus exact cal_SCheck); (focus exact E); (focus rfl))
    | exact True.intro
    | refine stp ?_
    | refine two ?_ ?_
    | (refine imp fun hc => ?_) <;> try (first | contradiction | (exfalso; omega))
    | refine all fun v_ => ?_)
  all_goals clear fA_
  rename_i bg bv bs
  rename Nat => bt
  refine jrow (E := 3) (sz := 1) natC ?_
  refine J_loopV (X := (List Bool × List Nat) × Sl × Nat) (fun y => [(1, .val (.pointer (some ⟨bg, 0, none⟩))), (5, .val (.pointer (some ⟨bs, 0, none⟩))), (6, .val (.pointer (some ⟨bt, 0, none⟩))), (7, .val (.func (.func 67) #[] #[.pointer (some ⟨bs, 0, none⟩), .pointer (some ⟨bt, 0, none⟩)])), (23, .int g.init), (24, .int y.2.2)]) (fun y => [.cells bs 59 [.val (.slice (some ⟨bv, 0, none⟩) g.spots.length g.spots.length)], .cells bv 4 (y.1.1.map AV.bool), .cells bt 24 [.val y.2.1.v], rowE y.2.1.v 3 1 natC y.1.2, .cells bg 26 [.d (opsD g.spots), .int g.init, .d (natLD g.next), .d (natsD g.sets), .int g.many]]) (fun y => RI g none y.2.2 y.1 ∧ y.2.2 ≤ g.init ∧ muR y.1 ≤ 2 * g.spots.length) (fun y => g.init - y.2.2) ((List.replicate g.spots.length false, []), Sl.nil, 0) ⟨RI.start g, Nat.zero_le _, ?_⟩ (VS.take (by ((repeat (first | with_reducible exact Take.nil | ((with_reducible apply Take.cons); (focus ((repeat (first | with_reducible exact Sel.here | with_reducible apply Sel.there)); done))))); done)) ?_) ?_
  · simp [muR, unseen_rep]
  · repeat (first
      | exact Env.le_nil _
      | refine Env.le_cons (AV.le_refl _) ?_
      | refine Env.le_cons (AV.le_int rfl (by first | rfl | omega | (dsimp only; omega))) ?_)
  rintro ⟨p, q, i⟩ ⟨h1, h2, h3⟩
  dsimp only at h1 h2 h3 ⊢
  have hp := h1.len
  have hp2 : p.2.length ≤ 100000 := by unfold muR at h3; omega
  by_cases hi : i < g.init
  · have hin : i < g.spots.length := by omega
    all_goals haveI fA_ : FlagA := ⟨⟩
    repeat' (first
      | ((with_reducible apply callGV); (focus rfl); (focus rfl); (focus exact cal_visit); (focus exact visit _ bs bt bv _ i p q hp hin hs hp2); (focus ((repeat (first | with_reducible exact Take.nil | ((with_reducible apply Take.cons); (focus ((repeat (first | with_reducible exact Sel.here | with_reducible apply Sel.there)); done))))); done)); (focus rfl); (focus (intro v_; (repeat (first | exact App.nil | apply App.cons)); done)))
      | exact True.intro
      | refine stp ?_
      | refine two ?_ ?_
      | (refine imp fun hc => ?_) <;> try (first | contradiction | (exfalso; omega))
      | refine all fun v_ => ?_)
    all_goals clear fA_
    have hm := visit_mu (p := p) (i := i) (by omega)
    refine ⟨(visitF p i, v_, i + 1), ⟨h1.initStep hok hi, by dsimp only; omega, by dsimp only; omega⟩, by dsimp only; omega, VS.of_le ?_⟩
    repeat (first
      | exact Env.le_nil _
      | refine Env.le_cons (AV.le_refl _) ?_
      | refine Env.le_cons (AV.le_int rfl (by first | rfl | omega | (dsimp only; omega))) ?_)
  obtain rfl : i = g.init := by omega
  all_goals haveI fA_ : FlagA := ⟨⟩
  repeat' (first
    | exact True.intro
    | refine stp ?_
    | refine two ?_ ?_
    | (refine imp fun hc => ?_) <;> try (first | contradiction | (exfalso; omega))
    | refine all fun v_ => ?_)
  all_goals clear fA_
  refine J_loopV (X := (List Bool × List Nat) × Sl) (fun y => [(1, .val (.pointer (some ⟨bg, 0, none⟩))), (5, .val (.pointer (some ⟨bs, 0, none⟩))), (6, .val (.pointer (some ⟨bt, 0, none⟩))), (7, .val (.func (.func 67) #[] #[.pointer (some ⟨bs, 0, none⟩), .pointer (some ⟨bt, 0, none⟩)]))]) (fun y => [.cells bs 59 [.val (.slice (some ⟨bv, 0, none⟩) g.spots.length g.spots.length)], .cells bv 4 (y.1.1.map AV.bool), .cells bt 24 [.val y.2.v], rowE y.2.v 3 1 natC y.1.2, .cells bg 26 [.d (opsD g.spots), .int g.init, .d (natLD g.next), .d (natsD g.sets), .int g.many]]) (fun y => RI g none g.init y.1 ∧ muR y.1 ≤ 2 * g.spots.length) (fun y => muR y.1) (p, q) ⟨h1, h3⟩ (VS.of_le ?_) ?_
  · repeat (first
      | exact Env.le_nil _
      | refine Env.le_cons (AV.le_refl _) ?_
      | refine Env.le_cons (AV.le_int rfl (by first | rfl | omega | (dsimp only; omega))) ?_)
  clear h1 h3 hp hp2 hi h2
  rintro ⟨⟨s, td⟩, q⟩ ⟨h1, h3⟩
  dsimp only at h1 h3 ⊢
  have hp := h1.len
  have hp2 : td.length ≤ 100000 := by unfold muR at h3; dsimp only at h3; omega
  rcases List.eq_nil_or_concat td with e | ⟨r, v, e⟩
  · subst e
    all_goals haveI fA_ : FlagA := ⟨⟩
    repeat' (first
      | exact True.intro
      | refine stp ?_
      | refine two ?_ ?_
      | (refine imp fun hc => ?_) <;> try (first | contradiction | (exfalso; omega))
      | refine all fun v_ => ?_)
    all_goals clear fA_
    refine retv (VS.trans (VS.drop (h' := [.cells bv 4 (s.map AV.bool)]) (by (repeat (first | exact List.nil_sublist _ | (with_reducible apply List.Sublist.cons_cons) | apply List.Sublist.cons)))) (vfz (t := 2) (f := boolC) (h1 := []) 1 1 rfl rfl rfl (bools_flat s) hp (fun _ => rfl) (by omega) (by omega))) ?_
    ((with_reducible apply rq2); rfl; rfl; rfl)
    exact ret_eq (by rw [reachedOf_ok hok, ← h1.all rfl])
  · rw [List.concat_eq_append] at e
    subst e
    have hv := h1.todo v (by simp)
    have hvn : v < g.next.length := by omega
    have hlr : ((r ++ [v]).length : Int) = r.length + 1 := by simp
    all_goals haveI fA_ : FlagA := ⟨⟩
    repeat' (first
      | exact True.intro
      | refine stp ?_
      | refine two ?_ ?_
      | (refine imp fun hc => ?_) <;> try (first | contradiction | (exfalso; omega))
      | refine all fun v_ => ?_)
    all_goals clear fA_
    simp only [getC_last, takeC_last]
    all_goals haveI fA_ : FlagA := ⟨⟩
    repeat' (first
      | exact True.intro
      | refine stp ?_
      | refine two ?_ ?_
      | (refine imp fun hc => ?_) <;> try (first | contradiction | (exfalso; omega))
      | refine all fun v_ => ?_)
    all_goals clear fA_
    have h1' := h1.pop (v := v) (r := r) rfl
    have hm1 : muR (s, r) < muR (s, r ++ [v]) := by simp [muR]
    have hnx := g.nx_get v hvn
    refine J_loopV (X := (List Bool × List Nat) × Sl × Nat) (fun y => [(1, .val (.pointer (some ⟨bg, 0, none⟩))), (5, .val (.pointer (some ⟨bs, 0, none⟩))), (6, .val (.pointer (some ⟨bt, 0, none⟩))), (7, .val (.func (.func 67) #[] #[.pointer (some ⟨bs, 0, none⟩), .pointer (some ⟨bt, 0, none⟩)])), (49, .d (natsD g.next[v])), (50, .int g.next[v].length), (51, .int y.2.2)]) (fun y => [.cells bs 59 [.val (.slice (some ⟨bv, 0, none⟩) g.spots.length g.spots.length)], .cells bv 4 (y.1.1.map AV.bool), .cells bt 24 [.val y.2.1.v], rowE y.2.1.v 3 1 natC y.1.2, .cells bg 26 [.d (opsD g.spots), .int g.init, .d (natLD g.next), .d (natsD g.sets), .int g.many]]) (fun y => RI g (some (v, y.2.2)) g.init y.1 ∧ bi y.1.1 v = true ∧ y.2.2 ≤ g.next[v].length ∧ muR y.1 ≤ muR (s, r)) (fun y => g.next[v].length - y.2.2) ((s, r), v_, 0) ⟨h1', hv.2, Nat.zero_le _, Nat.le_refl _⟩ (VS.of_le ?_) ?_
    · repeat (first
        | exact Env.le_nil _
        | refine Env.le_cons (AV.le_refl _) ?_
        | refine Env.le_cons (AV.le_int rfl (by first | rfl | omega | (dsimp only; omega))) ?_)
    rintro ⟨p, q, j⟩ ⟨k1, k2, k3, k4⟩
    dsimp only at k1 k2 k3 k4 ⊢
    refine jfact (t := 49) rfl fun hlj => ?_
    have hpl := k1.len
    have hp3 : p.2.length ≤ 100000 := by
      have h5 : muR p ≤ 2 * g.spots.length := by omega
      unfold muR at h5; omega
    by_cases hj : j < g.next[v].length
    · have hj' : j < (g.nx v).length := by rw [hnx]; exact hj
      have hke : (g.nx v)[j] = g.next[v][j] := by simp only [hnx]
      have hkn := g.nx_lt hok v _ (List.getElem_mem hj')
      have ke := k1.edge hok k2 hj'
      rw [hke] at hkn ke
      all_goals haveI fA_ : FlagA := ⟨⟩
      repeat' (first
        | ((with_reducible apply callGV); (focus rfl); (focus rfl); (focus exact cal_visit); (focus exact visit _ bs bt bv _ g.next[v][j] p q hpl hkn hs hp3); (focus ((repeat (first | with_reducible exact Take.nil | ((with_reducible apply Take.cons); (focus ((repeat (first | with_reducible exact Sel.here | with_reducible apply Sel.there)); done))))); done)); (focus rfl); (focus (intro v_; (repeat (first | exact App.nil | apply App.cons)); done)))
        | exact True.intro
        | refine stp ?_
        | refine two ?_ ?_
        | (refine imp fun hc => ?_) <;> try (first | contradiction | (exfalso; omega))
        | refine all fun v_ => ?_)
      all_goals clear fA_
      have hm := visit_mu (p := p) (i := g.next[v][j]) (by omega)
      refine ⟨(visitF p g.next[v][j], v_, j + 1), ⟨ke, visit_keeps (by omega) k2, by dsimp only; omega, by dsimp only; omega⟩, by dsimp only; omega, VS.of_le ?_⟩
      repeat (first
        | exact Env.le_nil _
        | refine Env.le_cons (AV.le_refl _) ?_
        | refine Env.le_cons (AV.le_int rfl (by first | rfl | omega | (dsimp only; omega))) ?_)
    · have ej : j = (g.nx v).length := by rw [hnx]; omega
      rw [ej] at k1
      all_goals haveI fA_ : FlagA := ⟨⟩
      repeat' (first
        | exact True.intro
        | refine stp ?_
        | refine two ?_ ?_
        | (refine imp fun hc => ?_) <;> try (first | contradiction | (exfalso; omega))
        | refine all fun v_ => ?_)
      all_goals clear fA_
      refine ⟨(p, q), ⟨k1.done, by dsimp only; omega⟩, by dsimp only; omega, VS.of_le ?_⟩
      repeat (first
        | exact Env.le_nil _
        | refine Env.le_cons (AV.le_refl _) ?_
        | refine Env.le_cons (AV.le_int rfl (by first | rfl | omega | (dsimp only; omega))) ?_)
end Go.Proofs.Ytcikppldaepodaa
