/- Contracts: foretellref.reachedFrom, ReachedOf; scc.Reached. -/
import Derived.Test.YtffdlpjbbkhcnaaV1b
import Derived.Test.YtffdlpjbbkhcnaaG1
namespace Go.Proofs.Ytffdlpjbbkhcnaa
open Go Go.Av Go.Sp
set_option linter.unusedVariables false
set_option linter.unusedSimpArgs false
set_option maxRecDepth 100000
set_option maxHeartbeats 4000000

theorem cal_reachedFrom : Cal Try.prog 62 := Cal.of Try.func62 (by kernel_rfl) (by kernel_rfl)
theorem cal_ReachedOf : Cal Try.prog 39 := Cal.of Try.func39 (by kernel_rfl) (by kernel_rfl)
theorem cal_SReached : Cal Try.prog 38 := Cal.of Try.func38 (by kernel_rfl) (by kernel_rfl)
theorem cal_visit : Cal Try.prog 61 := Cal.of Try.func61 (by kernel_rfl) (by kernel_rfl)
abbrev gnA (g : Gn) : AV := .agg [.d (opsD g.spots), .int g.init, .d (natLD g.next), .d (natsD g.sets), .int g.many]
theorem gnA_eq (g : Gn) : grA g.gr = gnA g := by
  unfold grA gnA Gn.gr
  rw [natsD_eq, natLD_eq]
theorem reachedFrom (G : List (Nat × List D)) (g : Gn) (fr : List Nat) (hnl : g.next.length = g.spots.length) (hto : ∀ i, ∀ k ∈ g.nx i, k < g.spots.length) (hfr : ∀ j ∈ fr, j < g.spots.length) (hsz : g.spots.length ≤ 20000) :
    ACr Try.prog G 62 [gnA g, .d (natsD fr)] (.d (boolsD (fromL g.nx g.spots.length fr))) := by
  refine AC.factN (g := natLC) (f := natC) (xss := g.next) 1 8 (fun _ => rfl) (.agg (.there (.there .here))) fun hN => ?_
  refine AC.factI (f := natC) (xs := fr) (.there .here) fun hfl => ?_
  refine AC_ofV (ts := [4]) Try.f62.ntmps Try.func62 rfl rfl rfl (by simp [Try.ntmps62]) fun W I => ?_
  repeat' (first
    | exact True.intro
    | refine stpa ?_
    | refine two ?_ ?_
    | (refine imp fun hc => ?_) <;> try (first | contradiction | (exfalso; omega))
    | refine all fun v_ => ?_)
  rename_i bg
  refine J_loopV (X := List Int × Nat) (fun y => [(1, .d (natsD fr)), (2, .val (.pointer (some ⟨bg, 0, none⟩))), (5, .val (.slice (some ⟨v_, 0, none⟩) g.spots.length g.spots.length)), (6, .int y.2)]) (fun y => [.cells v_ 3 (y.1.map AV.int), .cells bg 50 [.d (opsD g.spots), .int g.init, .d (natLD g.next), .d (natsD g.sets), .int g.many]]) (fun y => y.2 ≤ fr.length ∧ y.1.length = g.spots.length ∧ (∀ v, gi y.1 v = 0 ∨ gi y.1 v = 1) ∧ (∀ v, gi y.1 v ≠ 0 → v ∈ fr) ∧ ∀ (m : Nat) (hm : m < fr.length), m < y.2 → gi y.1 fr[m] ≠ 0) (fun y => fr.length - y.2) (List.replicate g.spots.length 0, 0) ⟨Nat.zero_le _, by simp, fun v => .inl (gi_rep _ _), fun v h => absurd (gi_rep _ _) h, fun _ _ h => by omega⟩ (VS.of_le ?_) ?_
  · repeat (first
      | exact Env.le_nil _
      | refine Env.le_cons (AV.le_refl _) ?_
      | refine Env.le_cons (AV.le_int rfl (by first | rfl | omega | (dsimp only; omega))) ?_)
  rintro ⟨st, i⟩ ⟨h1, h2, h3, h4, h5⟩
  dsimp only at h1 h2 h3 h4 h5 ⊢
  by_cases hi : i < fr.length
  · have hk := hfr fr[i] (List.getElem_mem hi)
    repeat' (first
      | exact True.intro
      | refine stpa ?_
      | refine two ?_ ?_
      | (refine imp fun hc => ?_) <;> try (first | contradiction | (exfalso; omega))
      | refine all fun v_ => ?_)
    refine ⟨(st.set fr[i] 1, i + 1), ⟨by dsimp only; omega, by simp [h2], fun v => ?_, fun v hv => ?_, fun m hm hmi => ?_⟩, by dsimp only; omega, VS.of_le ?_⟩
    · rw [gi_set _ _ _ _ (by omega)]; split
      · exact .inr rfl
      · exact h3 v
    · dsimp only at hv
      rw [gi_set _ _ _ _ (by omega)] at hv
      by_cases e : v = fr[i]
      · rw [e]; exact List.getElem_mem hi
      · rw [if_neg e] at hv; exact h4 v hv
    · dsimp only at hmi ⊢
      rw [gi_set _ _ _ _ (by omega)]; split
      · decide
      · rename_i hne
        exact h5 m hm (by
          have : m ≠ i := fun e => hne (by subst e; rfl)
          omega)
    · repeat (first
        | exact Env.le_nil _
        | refine Env.le_cons (AV.le_refl _) ?_
        | refine Env.le_cons (AV.le_int rfl (by first | rfl | omega | (dsimp only; omega))) ?_)
  have hF : FI g.nx g.spots.length fr none st := ⟨h2, fun v => by rcases h3 v with h | h; exact .inl h; exact .inr (.inl h), fun v hv => ⟨v, h4 v hv, .refl v⟩, fun v hv => by
    obtain ⟨m, hm, rfl⟩ := List.getElem_of_mem hv
    exact h5 m hm (by omega), fun v hv => by rcases h3 v with h | h <;> omega⟩
  repeat' (first
    | exact True.intro
    | refine stpa ?_
    | refine two ?_ ?_
    | (refine imp fun hc => ?_) <;> try (first | contradiction | (exfalso; omega))
    | refine all fun v_ => ?_)
  refine J_loopV (X := List Int × Bool) (fun y => [(2, .val (.pointer (some ⟨bg, 0, none⟩))), (5, .val (.slice (some ⟨v_, 0, none⟩) g.spots.length g.spots.length)), (7, .bool y.2)]) (fun y => [.cells v_ 3 (y.1.map AV.int), .cells bg 50 [.d (opsD g.spots), .int g.init, .d (natLD g.next), .d (natsD g.sets), .int g.many]]) (fun y => FI g.nx g.spots.length fr none y.1 ∧ (y.2 = false → ∀ i, i < g.spots.length → gi y.1 i ≠ 1)) (fun y => 2 * not2 y.1 + (if y.2 then 1 else 0)) (st, true) ⟨hF, fun h => by cases h⟩ (VS.of_le ?_) ?_
  · repeat (first
      | exact Env.le_nil _
      | refine Env.le_cons (AV.le_refl _) ?_
      | refine Env.le_cons (AV.le_int rfl (by first | rfl | omega | (dsimp only; omega))) ?_)
  clear hF h1 h2 h3 h4 h5 hi
  rintro ⟨st, ag⟩ ⟨k1, k2⟩
  dsimp only at k1 k2 ⊢
  have hl := k1.len
  cases ag with
  | false =>
    repeat' (first
      | exact True.intro
      | refine stpa ?_
      | refine two ?_ ?_
      | (refine imp fun hc => ?_) <;> try (first | contradiction | (exfalso; omega))
      | refine all fun v_ => ?_)
    refine jrow (E := 4) (sz := 1) boolC ?_
    refine J_loop (X := Nat × Sl) (fun y => [(5, .val (.slice (some ⟨v_, 0, none⟩) g.spots.length g.spots.length)), (10, .val y.2.v), (11, .int y.1)]) (fun y => [rowE y.2.v 4 1 boolC ((st.map fun s => decide (0 < s)).take y.1), .cells v_ 3 (st.map AV.int), .cells bg 50 [.d (opsD g.spots), .int g.init, .d (natLD g.next), .d (natsD g.sets), .int g.many]]) (fun y => y.1 ≤ st.length) (fun y => st.length - y.1) (0, Sl.nil) (Nat.zero_le _) ?_ rfl ?_
    · repeat (first
        | exact Env.le_nil _
        | refine Env.le_cons (AV.le_refl _) ?_
        | refine Env.le_cons (AV.le_int rfl (by first | rfl | omega | (dsimp only; omega))) ?_)
    rintro ⟨i, q⟩ h1
    dsimp only at h1 ⊢
    have hlen : ((st.map fun s => decide (0 < s)).take i).length = i := by rw [List.length_take, List.length_map]; omega
    by_cases hi : i < st.length
    · repeat' (first
        | exact True.intro
        | refine stpa ?_
        | refine two ?_ ?_
        | (refine imp fun hc => ?_) <;> try (first | contradiction | (exfalso; omega))
        | refine all fun v_ => ?_)
      refine ⟨(i + 1, v_), by dsimp only; omega, by dsimp only; omega, ?_, ?_⟩
      · repeat (first
          | exact Env.le_nil _
          | refine Env.le_cons (AV.le_refl _) ?_
          | refine Env.le_cons (AV.le_int rfl (by first | rfl | omega | (dsimp only; omega))) ?_)
      · dsimp only
        rw [List.take_succ_eq_append_getElem (by rw [List.length_map]; exact hi), List.getElem_map]
    · repeat' (first
        | exact True.intro
        | refine stpa ?_
        | refine two ?_ ?_
        | (refine imp fun hc => ?_) <;> try (first | contradiction | (exfalso; omega))
        | refine all fun v_ => ?_)
      refine retv (VS.trans (VS.drop (h' := [rowE q.v 4 1 boolC ((st.map fun s => decide (0 < s)).take i)]) (by (repeat (first | exact List.nil_sublist _ | (with_reducible apply List.Sublist.cons_cons) | apply List.Sublist.cons)))) (vfreeze (t := 4) (eb := 1) rfl rfl (fun x => rfl) (by omega))) ?_
      ((with_reducible apply rq1); rfl; rfl)
      refine ret_eq ?_
      rw [List.take_of_length_le (by rw [List.length_map]; omega), k1.all (k2 rfl) hto]
  | true =>
    repeat' (first
      | exact True.intro
      | refine stpa ?_
      | refine two ?_ ?_
      | (refine imp fun hc => ?_) <;> try (first | contradiction | (exfalso; omega))
      | refine all fun v_ => ?_)
    refine J_loopV (X := List Int × Bool × Nat) (fun y => [(2, .val (.pointer (some ⟨bg, 0, none⟩))), (5, .val (.slice (some ⟨v_, 0, none⟩) g.spots.length g.spots.length)), (7, .bool y.2.1), (8, .int y.2.2)]) (fun y => [.cells v_ 3 (y.1.map AV.int), .cells bg 50 [.d (opsD g.spots), .int g.init, .d (natLD g.next), .d (natsD g.sets), .int g.many]]) (fun y => FI g.nx g.spots.length fr none y.1 ∧ y.2.2 ≤ g.spots.length ∧ (y.2.1 = false → y.1 = st ∧ ∀ j, j < y.2.2 → gi st j ≠ 1) ∧ (y.2.1 = true → not2 y.1 < not2 st)) (fun y => g.spots.length - y.2.2) (st, false, 0) ⟨k1, Nat.zero_le _, fun _ => ⟨rfl, fun j h => absurd h (Nat.not_lt_zero j)⟩, fun h => (by cases h)⟩ (VS.of_le ?_) ?_
    · repeat (first
        | exact Env.le_nil _
        | refine Env.le_cons (AV.le_refl _) ?_
        | refine Env.le_cons (AV.le_int rfl (by first | rfl | omega | (dsimp only; omega))) ?_)
    rintro ⟨s1, a1, i⟩ ⟨q1, q2, q3, q4⟩
    dsimp only at q1 q2 q3 q4 ⊢
    have hl1 := q1.len
    by_cases hi : ¬ i < g.spots.length
    · repeat' (first
        | exact True.intro
        | refine stpa ?_
        | refine two ?_ ?_
        | (refine imp fun hc => ?_) <;> try (first | contradiction | (exfalso; omega))
        | refine all fun v_ => ?_)
      refine ⟨(s1, a1), ⟨q1, fun h j hj => ?_⟩, ?_, VS.of_le ?_⟩
      · obtain ⟨e1, e2⟩ := q3 h
        rw [e1]; exact e2 j (by omega)
      · dsimp only
        cases a1 with
        | false => rw [(q3 rfl).1]; simp
        | true => have := q4 rfl; simp; omega
      · repeat (first
          | exact Env.le_nil _
          | refine Env.le_cons (AV.le_refl _) ?_
          | refine Env.le_cons (AV.le_int rfl (by first | rfl | omega | (dsimp only; omega))) ?_)
    replace hi := Decidable.not_not.1 hi
    have hgi : gi s1 i = s1[i]'(by omega) := gi_get _ _ _
    by_cases h1 : ¬ gi s1 i = 1
    · have h1' : ¬ s1[i]'(by omega) = 1 := by rw [← hgi]; exact h1
      repeat' (first
        | exact True.intro
        | refine stpa ?_
        | refine two ?_ ?_
        | (refine imp fun hc => ?_) <;> try (first | contradiction | (exfalso; omega))
        | refine all fun v_ => ?_)
      refine ⟨(s1, a1, i + 1), ⟨q1, by dsimp only; omega, fun h => ⟨(q3 h).1, fun j hj => ?_⟩, q4⟩, by dsimp only; omega, VS.of_le ?_⟩
      · by_cases e : j = i
        · rw [e, ← (q3 h).1]; exact h1
        · exact (q3 h).2 j (by dsimp only at hj; omega)
      · repeat (first
          | exact Env.le_nil _
          | refine Env.le_cons (AV.le_refl _) ?_
          | refine Env.le_cons (AV.le_int rfl (by first | rfl | omega | (dsimp only; omega))) ?_)
    replace h1 := Decidable.not_not.1 h1
    have h1' : s1[i]'(by omega) = 1 := by rw [← hgi]; exact h1
    have hn2 := not2_set2 s1 i (by omega) (by rw [h1']; decide)
    have hsl : (s1.set i 2).length = g.spots.length := by simp [hl1]
    have hle2 : not2 s1 ≤ not2 st := by
      cases a1 with
      | false => rw [(q3 rfl).1]; exact Nat.le_refl _
      | true => exact Nat.le_of_lt (q4 rfl)
    repeat' (first
      | exact True.intro
      | refine stpa ?_
      | refine two ?_ ?_
      | (refine imp fun hc => ?_) <;> try (first | contradiction | (exfalso; omega))
      | refine all fun v_ => ?_)
    refine J_loopV (X := List Int × Nat) (fun y => [(2, .val (.pointer (some ⟨bg, 0, none⟩))), (5, .val (.slice (some ⟨v_, 0, none⟩) g.spots.length g.spots.length)), (7, .bool true), (8, .int i), (9, .int y.2)]) (fun y => [.cells v_ 3 (y.1.map AV.int), .cells bg 50 [.d (opsD g.spots), .int g.init, .d (natLD g.next), .d (natsD g.sets), .int g.many]]) (fun y => FI g.nx g.spots.length fr (some (i, y.2)) y.1 ∧ gi y.1 i = 2 ∧ not2 y.1 = not2 (s1.set i 2) ∧ y.2 ≤ (g.nx i).length) (fun y => (g.nx i).length - y.2) (s1.set i 2, 0) ⟨q1.take h1, by rw [gi_set _ _ _ _ (by omega), if_pos rfl], rfl, Nat.zero_le _⟩ (VS.of_le ?_) ?_
    · repeat (first
        | exact Env.le_nil _
        | refine Env.le_cons (AV.le_refl _) ?_
        | refine Env.le_cons (AV.le_int rfl (by first | rfl | omega | (dsimp only; omega))) ?_)
    rintro ⟨s2, j⟩ ⟨r1, r2, r3, r4⟩
    dsimp only at r1 r2 r3 r4 ⊢
    have hl2 := r1.len
    have hnx := g.nx_get i (by omega)
    have hlj := hN (g.next[i]'(by omega)) (List.getElem_mem _)
    rw [hnx] at r4
    by_cases hj : j < (g.next[i]'(by omega)).length
    · have hj' : j < (g.nx i).length := by rw [hnx]; exact hj
      have hkk := hto i _ (List.getElem_mem hj')
      have hm := r1.mark hto r2 hj'
      have hke : (g.nx i)[j] = (g.next[i]'(by omega))[j] := by simp only [hnx]
      rw [hke] at hm hkk
      have hgk : gi s2 ((g.next[i]'(by omega))[j]) = s2[(g.next[i]'(by omega))[j]]'(by omega) := gi_get _ _ _
      by_cases h0 : s2[(g.next[i]'(by omega))[j]]'(by omega) = 0
      · have em : markF s2 ((g.next[i]'(by omega))[j]) = s2.set ((g.next[i]'(by omega))[j]) 1 := by rw [markF, hgk, if_pos h0]
        rw [em] at hm
        repeat' (first
          | exact True.intro
          | refine stpa ?_
          | refine two ?_ ?_
          | (refine imp fun hc => ?_) <;> try (first | contradiction | (exfalso; omega))
          | refine all fun v_ => ?_)
        refine ⟨(s2.set ((g.next[i]'(by omega))[j]) 1, j + 1), ⟨hm.1, hm.2.1, hm.2.2.trans r3, by dsimp only; rw [hnx]; omega⟩, by dsimp only; rw [hnx]; omega, VS.of_le ?_⟩
        repeat (first
          | exact Env.le_nil _
          | refine Env.le_cons (AV.le_refl _) ?_
          | refine Env.le_cons (AV.le_int rfl (by first | rfl | omega | (dsimp only; omega))) ?_)
      · have em : markF s2 ((g.next[i]'(by omega))[j]) = s2 := by rw [markF, hgk, if_neg h0]
        rw [em] at hm
        repeat' (first
          | exact True.intro
          | refine stpa ?_
          | refine two ?_ ?_
          | (refine imp fun hc => ?_) <;> try (first | contradiction | (exfalso; omega))
          | refine all fun v_ => ?_)
        refine ⟨(s2, j + 1), ⟨hm.1, hm.2.1, r3, by dsimp only; rw [hnx]; omega⟩, by dsimp only; rw [hnx]; omega, VS.of_le ?_⟩
        repeat (first
          | exact Env.le_nil _
          | refine Env.le_cons (AV.le_refl _) ?_
          | refine Env.le_cons (AV.le_int rfl (by first | rfl | omega | (dsimp only; omega))) ?_)
    · have ej : j = (g.nx i).length := by rw [hnx]; omega
      rw [ej] at r1
      repeat' (first
        | exact True.intro
        | refine stpa ?_
        | refine two ?_ ?_
        | (refine imp fun hc => ?_) <;> try (first | contradiction | (exfalso; omega))
        | refine all fun v_ => ?_)
      refine ⟨(s2, true, i + 1), ⟨r1.done, by dsimp only; omega, fun h => (by cases h), fun _ => by dsimp only; omega⟩, by dsimp only; omega, VS.of_le ?_⟩
      repeat (first
        | exact Env.le_nil _
        | refine Env.le_cons (AV.le_refl _) ?_
        | refine Env.le_cons (AV.le_int rfl (by first | rfl | omega | (dsimp only; omega))) ?_)
theorem ReachedOf (G : List (Nat × List D)) (g : Gr) : ACr Try.prog G 39 [grA g] (.tup [.d (boolsD (reachedOf g).1), .int (reachedOf g).2]) := by
  refine AC_ofV (ts := [2, 3]) Try.f39.ntmps Try.func39 rfl rfl rfl (by simp [Try.ntmps39]) fun W I => ?_
  have E := GraphFault G g
  by_cases hk : ¬ okG g
  · have e : graphF g = 9 := if_neg hk
    rw [e] at E
    repeat' (first
      | ((with_reducible apply call0); (focus rfl); (focus exact cal_GraphFault); (focus exact E); (focus rfl))
      | ((with_reducible apply je_call0); (focus rfl); (focus (decide +kernel)); (focus rfl); (focus exact cal_GraphFault); (focus exact E); (focus rfl))
      | ((with_reducible apply call0); (focus rfl); (focus exact cal_reachedFrom); (focus exact reachedFrom _ _ _ hok.next (fun i => g.nx_lt hok i) (by assumption) hok.size); (focus rfl))
      | ((with_reducible apply je_call0); (focus rfl); (focus (decide +kernel)); (focus rfl); (focus exact cal_reachedFrom); (focus exact reachedFrom _ _ _ hok.next (fun i => g.nx_lt hok i) (by assumption) hok.size); (focus rfl))
      | exact True.intro
      | refine stpa ?_
      | refine two ?_ ?_
      | (refine imp fun hc => ?_) <;> try (first | contradiction | (exfalso; omega))
      | refine all fun v_ => ?_)
    refine retv (VS.trans (VS.drop (List.nil_sublist _)) (vnil (t := 2) 1 1 rfl)) ?_
    ((with_reducible apply rq2); rfl; rfl; rfl)
    exact ret_eq (by rw [reachedOf_no hk]; rfl)
  obtain ⟨g, rfl, hok⟩ := okG_nat (Decidable.not_not.1 hk)
  rw [graphF_ok (Gn.ok_gr hok)] at E
  rw [gnA_eq] at E ⊢
  clear hk
  repeat' (first
    | ((with_reducible apply call0); (focus rfl); (focus exact cal_GraphFault); (focus exact E); (focus rfl))
    | ((with_reducible apply je_call0); (focus rfl); (focus (decide +kernel)); (focus rfl); (focus exact cal_GraphFault); (focus exact E); (focus rfl))
    | ((with_reducible apply call0); (focus rfl); (focus exact cal_reachedFrom); (focus exact reachedFrom _ _ _ hok.next (fun i => g.nx_lt hok i) (by assumption) hok.size); (focus rfl))
    | ((with_reducible apply je_call0); (focus rfl); (focus (decide +kernel)); (focus rfl); (focus exact cal_reachedFrom); (focus exact reachedFrom _ _ _ hok.next (fun i => g.nx_lt hok i) (by assumption) hok.size); (focus rfl))
    | exact True.intro
    | refine stpa ?_
    | refine two ?_ ?_
    | (refine imp fun hc => ?_) <;> try (first | contradiction | (exfalso; omega))
    | refine all fun v_ => ?_)
  rename Nat => bg
  have hb := hok.init
  have hs := hok.size
  refine jrow (E := 3) (sz := 1) natC ?_
  refine J_loop (X := Nat × Sl) (fun y => [(1, .val (.pointer (some ⟨bg, 0, none⟩))), (5, .val y.2.v), (6, .int y.1)]) (fun y => [rowE y.2.v 3 1 natC (List.range y.1), .cells bg 50 [.d (opsD g.spots), .int g.init, .d (natLD g.next), .d (natsD g.sets), .int g.many]]) (fun y => y.1 ≤ g.init) (fun y => g.init - y.1) (0, Sl.nil) (Nat.zero_le _) ?_ rfl ?_
  · repeat (first
      | exact Env.le_nil _
      | refine Env.le_cons (AV.le_refl _) ?_
      | refine Env.le_cons (AV.le_int rfl (by first | rfl | omega | (dsimp only; omega))) ?_)
  rintro ⟨i, q⟩ h1
  dsimp only at h1 ⊢
  by_cases hi : i < g.init
  · repeat' (first
      | ((with_reducible apply call0); (focus rfl); (focus exact cal_GraphFault); (focus exact E); (focus rfl))
      | ((with_reducible apply je_call0); (focus rfl); (focus (decide +kernel)); (focus rfl); (focus exact cal_GraphFault); (focus exact E); (focus rfl))
      | ((with_reducible apply call0); (focus rfl); (focus exact cal_reachedFrom); (focus exact reachedFrom _ _ _ hok.next (fun i => g.nx_lt hok i) (by assumption) hok.size); (focus rfl))
      | ((with_reducible apply je_call0); (focus rfl); (focus (decide +kernel)); (focus rfl); (focus exact cal_reachedFrom); (focus exact reachedFrom _ _ _ hok.next (fun i => g.nx_lt hok i) (by assumption) hok.size); (focus rfl))
      | exact True.intro
      | refine stpa ?_
      | refine two ?_ ?_
      | (refine imp fun hc => ?_) <;> try (first | contradiction | (exfalso; omega))
      | refine all fun v_ => ?_)
    refine ⟨(i + 1, v_), by dsimp only; omega, by dsimp only; omega, ?_, ?_⟩
    · repeat (first
        | exact Env.le_nil _
        | refine Env.le_cons (AV.le_refl _) ?_
        | refine Env.le_cons (AV.le_int rfl (by first | rfl | omega | (dsimp only; omega))) ?_)
    · dsimp only
      rw [List.range_succ]
  obtain rfl : i = g.init := by omega
  have hfr : ∀ j ∈ List.range g.init, j < g.spots.length := fun j hj => by have := List.mem_range.1 hj; have := hok.init; omega
  refine J_vs (vdat (h1 := []) (h' := [_]) 8 rfl rfl (fun _ => rfl) (by rw [List.length_range]; omega) (CvE.cons (t := 5) rfl .here (CvE.refl _ _ _)) (CvH.refl _)) ?_
  repeat' (first
    | ((with_reducible apply call0); (focus rfl); (focus exact cal_GraphFault); (focus exact E); (focus rfl))
    | ((with_reducible apply je_call0); (focus rfl); (focus (decide +kernel)); (focus rfl); (focus exact cal_GraphFault); (focus exact E); (focus rfl))
    | ((with_reducible apply call0); (focus rfl); (focus exact cal_reachedFrom); (focus exact reachedFrom _ _ _ hok.next (fun i => g.nx_lt hok i) (by assumption) hok.size); (focus rfl))
    | ((with_reducible apply je_call0); (focus rfl); (focus (decide +kernel)); (focus rfl); (focus exact cal_reachedFrom); (focus exact reachedFrom _ _ _ hok.next (fun i => g.nx_lt hok i) (by assumption) hok.size); (focus rfl))
    | exact True.intro
    | refine stpa ?_
    | refine two ?_ ?_
    | (refine imp fun hc => ?_) <;> try (first | contradiction | (exfalso; omega))
    | refine all fun v_ => ?_)
  refine retv (VS.drop (List.nil_sublist _)) ?_
  ((with_reducible apply rq2); rfl; rfl; rfl)
  exact ret_eq (by rw [reachedOf_ok hok, fromL_init])
end Go.Proofs.Ytffdlpjbbkhcnaa
