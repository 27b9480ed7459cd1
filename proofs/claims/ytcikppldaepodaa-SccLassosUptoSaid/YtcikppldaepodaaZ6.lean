/- A bundle of this claim's own texts: V5. -/
import Derived.Test.YtcikppldaepodaaZ5
namespace Go.Proofs.Ytcikppldaepodaa
open Go Go.Av Go.Sp
set_option linter.unusedVariables false
set_option linter.unusedSimpArgs false
set_option maxRecDepth 100000
set_option maxHeartbeats 4000000

theorem getC_lastA {α : Type} (r : List α) (p : α) (k : Nat) (hk : k = r.length) (h : k < (r ++ [p]).length) : (r ++ [p])[k] = p := by subst hk; simp
theorem getC_lastB {α : Type} (r : List α) (p : α) (h : ((((r ++ [p]).length : Nat) : Int) - 1).toNat < (r ++ [p]).length) : (r ++ [p])[((((r ++ [p]).length : Nat) : Int) - 1).toNat]'h = p :=
  getC_lastA r p _ (by simp) h
theorem leave (G : List (Nat × List D)) (sb bo bl bp n a j : Nat) (g : Gn) (s : TS) (r : List (Nat × Nat)) (qo qc : Sl) (ft : Fit n s) (ha : a < n) (hc : s.calls = r ++ [(a, j)]) (hr : ∀ p ∈ r, p.1 < n) (hop : ∀ v ∈ s.opn, v < n)
    (hmem : a ∈ s.opn) (hix : ∀ (i : Nat) (hi : i < s.opn.length), s.opn[i] = a → i = s.opn.idxOf a) :
    AC Try.prog G 68 [.val (.pointer (some ⟨sb, 0, none⟩)), .int a] (srH sb bo bl bp n g s qo qc) fun r h => ∃ y : Sl × Sl, r = .ret (.tup []) ∧ h = srH sb bo bl bp n g (s.leave a) y.1 y.2 := by
  obtain ⟨order, low, part, opn, calls, met⟩ := s
  dsimp only at hc hop hmem hix
  subst hc
  obtain ⟨f1, f2, f3, f4, f5, f6, f7⟩ := ft
  dsimp only at f2 f3 f4 f5 f6 f7
  refine AC_of (ts := []) Try.f68.ntmps Try.func68 rfl rfl rfl (by simp [Try.ntmps68]) fun W I => ?_
  have hlr : ((r ++ [(a, j)]).length : Int) = r.length + 1 := by simp
  dsimp only [srH]
  refine J_seq ?_
  refine J_cutV (X := Sl) (fun _ => [(0, .val (.pointer (some ⟨sb, 0, none⟩))), (1, .int a)]) (fun y => srH sb bo bl bp n g ⟨order, low, part, opn, r, met⟩ qo y) ?_ (fun qc' => ?_)
  · all_goals haveI fA_ : FlagA := ⟨⟩
    repeat' (first
      | exact True.intro
      | refine stp ?_
      | refine two ?_ ?_
      | (refine imp fun hc => ?_) <;> try (first | contradiction | (exfalso; omega))
      | refine all fun v_ => ?_)
    all_goals clear fA_
    have em : (((r ++ [(a, j)]).length : Int) - 1).toNat = r.length := by omega
    rw [em]
    refine ⟨qc.cut r.length, VS.trans (VS.cut (E := 90) (q := qc) (n := r.length) (f := frC) (xs := r ++ [(a, j)]) (sz := 2) (h' := srH sb bo bl bp n g ⟨order, low, part, opn, r, met⟩ qo (qc.cut r.length)) ?_ (fun _ => rfl) (by simp)) (VS.of_le ?_)⟩
    · rw [List.take_left]
      exact .there (.there (.there (.there (.there .here))))
    · repeat (first
        | exact Env.le_nil _
        | refine Env.le_cons (AV.le_refl _) ?_
        | refine Env.le_cons (AV.le_int rfl (by first | rfl | omega | (dsimp only; omega))) ?_)
  refine tq_normal ?_
  have hopl : 0 < opn.length := List.length_pos_of_mem hmem
  have hixl : opn.idxOf a < opn.length := List.idxOf_lt_length_of_mem hmem
  rcases List.eq_nil_or_concat r with e | ⟨r', p, e⟩
  · subst e
    have eL : (TS.mk order low part opn ([] ++ [(a, j)]) met).low1 a = low := low1_none a rfl
    by_cases he : ¬ gi (low) a = gi order a
    · have eS : TS.leave ⟨order, low, part, opn, ([]) ++ [(a, j)], met⟩ a = ⟨order, low, part, opn, [], met⟩ := by
        unfold TS.leave TS.pop
        rw [eL, if_pos he]
        simp
      rw [eS]
      dsimp only [srH]
      rw [gi_get _ _ (by first | omega | (simp only [List.length_set]; omega)), gi_get _ _ (by omega)] at he
      all_goals haveI fA_ : FlagA := ⟨⟩
      repeat' (first
        | exact True.intro
        | refine stp ?_
        | refine two ?_ ?_
        | (refine imp fun hc => ?_) <;> try (first | contradiction | (exfalso; omega))
        | refine all fun v_ => ?_)
      all_goals clear fA_
      skip
      exact rq0 rfl ⟨(qo, qc'), rfl, rfl⟩
    replace he := Decidable.not_not.1 he
    have eS : TS.leave ⟨order, low, part, opn, ([]) ++ [(a, j)], met⟩ a = ⟨order, low, setAllP part (opn.drop (opn.idxOf a)) (leastOf a (opn.drop (opn.idxOf a))), opn.take (opn.idxOf a), [], met⟩ := by
      unfold TS.leave TS.pop
      rw [eL, if_neg (by simpa using he)]
      simp
    rw [eS]
    dsimp only [srH]
    rw [gi_get _ _ (by first | omega | (simp only [List.length_set]; omega)), gi_get _ _ (by omega)] at he
    all_goals haveI fA_ : FlagA := ⟨⟩
    repeat' (first
      | exact True.intro
      | refine stp ?_
      | refine two ?_ ?_
      | (refine imp fun hc => ?_) <;> try (first | contradiction | (exfalso; omega))
      | refine all fun v_ => ?_)
    all_goals clear fA_
    skip
    refine J_loopV (X := Nat) (fun i => [(0, .val (.pointer (some ⟨sb, 0, none⟩))), (1, .int a), (5, .int i)]) (fun _ => srH sb bo bl bp n g ⟨order, low, part, opn, [], met⟩ qo qc') (fun i => opn.idxOf a ≤ i ∧ i < opn.length) (fun i => i) (opn.length - 1) ⟨by omega, by omega⟩ (VS.of_le ?_) ?_
    · repeat (first
        | exact Env.le_nil _
        | refine Env.le_cons (AV.le_refl _) ?_
        | refine Env.le_cons (AV.le_int rfl (by first | rfl | omega | (dsimp only; omega))) ?_)
    rintro i ⟨i1, i2⟩
    by_cases hi : ¬ opn[i] = a
    · have hne : i ≠ opn.idxOf a := fun e => hi (by subst e; exact List.getElem_idxOf i2)
      have hi' : ¬ (opn[i] : Int) = a := by omega
      all_goals haveI fA_ : FlagA := ⟨⟩
      repeat' (first
        | exact True.intro
        | refine stp ?_
        | refine two ?_ ?_
        | (refine imp fun hc => ?_) <;> try (first | contradiction | (exfalso; omega))
        | refine all fun v_ => ?_)
      all_goals clear fA_
      refine ⟨i - 1, ⟨by omega, by omega⟩, by omega, VS.of_le ?_⟩
      repeat (first
        | exact Env.le_nil _
        | refine Env.le_cons (AV.le_refl _) ?_
        | refine Env.le_cons (AV.le_int rfl (by first | rfl | omega | (dsimp only; omega))) ?_)
    replace hi := Decidable.not_not.1 hi
    have hi' : (opn[i] : Int) = a := by omega
    have ei := hix i i2 hi
    have hdl : (opn.drop i).length = opn.length - i := List.length_drop
    have hCk : ∀ (k : Nat) (hk : i + k < opn.length), (opn.drop i).take (k + 1) = (opn.drop i).take k ++ [opn[i + k]] := fun k hk => by
      rw [List.take_succ_eq_append_getElem (by omega)]; simp
    rw [← ei]
    all_goals haveI fA_ : FlagA := ⟨⟩
    repeat' (first
      | exact True.intro
      | refine stp ?_
      | refine two ?_ ?_
      | (refine imp fun hc => ?_) <;> try (first | contradiction | (exfalso; omega))
      | refine all fun v_ => ?_)
    all_goals clear fA_
    refine J_loopV (X := Nat) (fun k => [(0, .val (.pointer (some ⟨sb, 0, none⟩))), (5, .int i), (6, .int (leastOf a ((opn.drop i).take k))), (103, .val (qo.sub i 1).v), (104, .int (opn.length - i : Nat)), (105, .int k)]) (fun _ => srH sb bo bl bp n g ⟨order, low, part, opn, [], met⟩ qo qc') (fun k => k ≤ opn.length - i) (fun k => opn.length - i - k) 0 (Nat.zero_le _) (VS.of_le ?_) ?_
    · repeat (first
        | exact Env.le_nil _
        | refine Env.le_cons (AV.le_refl _) ?_
        | refine Env.le_cons (AV.le_int rfl (by first | rfl | omega | (dsimp only; omega))) ?_)
    rintro k hk
    by_cases hkl : k < opn.length - i
    · have e6 : leastOf a ((opn.drop i).take (k + 1)) = min (leastOf a ((opn.drop i).take k)) (opn[i + k]'(by omega)) := by
        rw [hCk k (by omega)]; simp [leastOf, List.foldl_append]
      all_goals haveI fA_ : FlagA := ⟨⟩
      repeat' (first
        | exact True.intro
        | refine stp ?_
        | refine two ?_ ?_
        | (refine imp fun hc => ?_) <;> try (first | contradiction | (exfalso; omega))
        | refine all fun v_ => ?_)
      all_goals clear fA_
      refine ⟨k + 1, by omega, by omega, VS.of_le ?_⟩
      rw [e6]
      repeat (first
        | exact Env.le_nil _
        | refine Env.le_cons (AV.le_refl _) ?_
        | refine Env.le_cons (AV.le_int rfl (by first | rfl | omega | (dsimp only; omega))) ?_)
    have ek : (opn.drop i).take k = opn.drop i := List.take_of_length_le (by omega)
    rw [ek]
    all_goals haveI fA_ : FlagA := ⟨⟩
    repeat' (first
      | exact True.intro
      | refine stp ?_
      | refine two ?_ ?_
      | (refine imp fun hc => ?_) <;> try (first | contradiction | (exfalso; omega))
      | refine all fun v_ => ?_)
    all_goals clear fA_
    refine J_loopV (X := Nat) (fun k => [(0, .val (.pointer (some ⟨sb, 0, none⟩))), (5, .int i), (6, .int (leastOf a (opn.drop i))), (118, .val (qo.sub i 1).v), (119, .int (opn.length - i : Nat)), (120, .int k)]) (fun k => srH sb bo bl bp n g ⟨order, low, setAllP part ((opn.drop i).take k) (leastOf a (opn.drop i)), opn, [], met⟩ qo qc') (fun k => k ≤ opn.length - i) (fun k => opn.length - i - k) 0 (Nat.zero_le _) (VS.of_le ?_) ?_
    · repeat (first
        | exact Env.le_nil _
        | refine Env.le_cons (AV.le_refl _) ?_
        | refine Env.le_cons (AV.le_int rfl (by first | rfl | omega | (dsimp only; omega))) ?_)
    rintro k' hk'
    have hsl := setAllP_length (leastOf a (opn.drop i)) ((opn.drop i).take k') part
    by_cases hkl' : k' < opn.length - i
    · have hlt := hop (opn[i + k']'(by omega)) (List.getElem_mem _)
      have e7 : setAllP part ((opn.drop i).take (k' + 1)) (leastOf a (opn.drop i)) = (setAllP part ((opn.drop i).take k') (leastOf a (opn.drop i))).set (opn[i + k']'(by omega)) (leastOf a (opn.drop i)) := by
        rw [hCk k' (by omega)]; simp [setAllP, List.foldl_append]
      all_goals haveI fA_ : FlagA := ⟨⟩
      repeat' (first
        | exact True.intro
        | refine stp ?_
        | refine two ?_ ?_
        | (refine imp fun hc => ?_) <;> try (first | contradiction | (exfalso; omega))
        | refine all fun v_ => ?_)
      all_goals clear fA_
      refine ⟨k' + 1, by omega, by omega, ?_⟩
      rw [e7]
      refine VS.of_le ?_
      repeat (first
        | exact Env.le_nil _
        | refine Env.le_cons (AV.le_refl _) ?_
        | refine Env.le_cons (AV.le_int rfl (by first | rfl | omega | (dsimp only; omega))) ?_)
    have ek' : (opn.drop i).take k' = opn.drop i := List.take_of_length_le (by omega)
    rw [ek']
    all_goals haveI fA_ : FlagA := ⟨⟩
    repeat' (first
      | exact True.intro
      | refine stp ?_
      | refine two ?_ ?_
      | (refine imp fun hc => ?_) <;> try (first | contradiction | (exfalso; omega))
      | refine all fun v_ => ?_)
    all_goals clear fA_
    exact rq0 rfl ⟨(v_, qc'), rfl, rfl⟩
  · rw [List.concat_eq_append] at e
    subst e
    obtain ⟨u, ju⟩ := p
    have hu : u < n := hr (u, ju) (by simp)
    have hlr' : ((r' ++ [(u, ju)]).length : Int) = r'.length + 1 := by simp
    have eL : (TS.mk order low part opn ((r' ++ [(u, ju)]) ++ [(a, j)]) met).low1 a = low.set u (min (low[u]'(by omega)) (low[a]'(by omega))) := by
      rw [low1_some (p := (u, ju)) a (by simp)]
      dsimp only
      rw [gi_get _ _ (by omega), gi_get _ _ (by omega)]
    by_cases he : ¬ gi (low.set u (min (low[u]'(by omega)) (low[a]'(by omega)))) a = gi order a
    · have eS : TS.leave ⟨order, low, part, opn, (r' ++ [(u, ju)]) ++ [(a, j)], met⟩ a = ⟨order, low.set u (min (low[u]'(by omega)) (low[a]'(by omega))), part, opn, r' ++ [(u, ju)], met⟩ := by
        unfold TS.leave TS.pop
        rw [eL, if_pos he]
        simp
      rw [eS]
      dsimp only [srH]
      rw [gi_get _ _ (by first | omega | (simp only [List.length_set]; omega)), gi_get _ _ (by omega)] at he
      all_goals haveI fA_ : FlagA := ⟨⟩
      repeat' (first
        | exact True.intro
        | refine stp ?_
        | refine two ?_ ?_
        | (refine imp fun hc => ?_) <;> try (first | contradiction | (exfalso; omega))
        | refine all fun v_ => ?_)
      all_goals clear fA_
      simp only [getC_lastB]
      all_goals haveI fA_ : FlagA := ⟨⟩
      repeat' (first
        | exact True.intro
        | refine stp ?_
        | refine two ?_ ?_
        | (refine imp fun hc => ?_) <;> try (first | contradiction | (exfalso; omega))
        | refine all fun v_ => ?_)
      all_goals clear fA_
      exact rq0 rfl ⟨(qo, qc'), rfl, rfl⟩
    replace he := Decidable.not_not.1 he
    have eS : TS.leave ⟨order, low, part, opn, (r' ++ [(u, ju)]) ++ [(a, j)], met⟩ a = ⟨order, low.set u (min (low[u]'(by omega)) (low[a]'(by omega))), setAllP part (opn.drop (opn.idxOf a)) (leastOf a (opn.drop (opn.idxOf a))), opn.take (opn.idxOf a), r' ++ [(u, ju)], met⟩ := by
      unfold TS.leave TS.pop
      rw [eL, if_neg (by simpa using he)]
      simp
    rw [eS]
    dsimp only [srH]
    rw [gi_get _ _ (by first | omega | (simp only [List.length_set]; omega)), gi_get _ _ (by omega)] at he
    all_goals haveI fA_ : FlagA := ⟨⟩
    repeat' (first
      | exact True.intro
      | refine stp ?_
      | refine two ?_ ?_
      | (refine imp fun hc => ?_) <;> try (first | contradiction | (exfalso; omega))
      | refine all fun v_ => ?_)
    all_goals clear fA_
    simp only [getC_lastB]
    all_goals haveI fA_ : FlagA := ⟨⟩
    repeat' (first
      | exact True.intro
      | refine stp ?_
      | refine two ?_ ?_
      | (refine imp fun hc => ?_) <;> try (first | contradiction | (exfalso; omega))
      | refine all fun v_ => ?_)
    all_goals clear fA_
    refine J_loopV (X := Nat) (fun i => [(0, .val (.pointer (some ⟨sb, 0, none⟩))), (1, .int a), (5, .int i)]) (fun _ => srH sb bo bl bp n g ⟨order, low.set u (min (low[u]'(by omega)) (low[a]'(by omega))), part, opn, r' ++ [(u, ju)], met⟩ qo qc') (fun i => opn.idxOf a ≤ i ∧ i < opn.length) (fun i => i) (opn.length - 1) ⟨by omega, by omega⟩ (VS.of_le ?_) ?_
    · repeat (first
        | exact Env.le_nil _
        | refine Env.le_cons (AV.le_refl _) ?_
        | refine Env.le_cons (AV.le_int rfl (by first | rfl | omega | (dsimp only; omega))) ?_)
    rintro i ⟨i1, i2⟩
    by_cases hi : ¬ opn[i] = a
    · have hne : i ≠ opn.idxOf a := fun e => hi (by subst e; exact List.getElem_idxOf i2)
      have hi' : ¬ (opn[i] : Int) = a := by omega
      all_goals haveI fA_ : FlagA := ⟨⟩
      repeat' (first
        | exact True.intro
        | refine stp ?_
        | refine two ?_ ?_
        | (refine imp fun hc => ?_) <;> try (first | contradiction | (exfalso; omega))
        | refine all fun v_ => ?_)
      all_goals clear fA_
      refine ⟨i - 1, ⟨by omega, by omega⟩, by omega, VS.of_le ?_⟩
      repeat (first
        | exact Env.le_nil _
        | refine Env.le_cons (AV.le_refl _) ?_
        | refine Env.le_cons (AV.le_int rfl (by first | rfl | omega | (dsimp only; omega))) ?_)
    replace hi := Decidable.not_not.1 hi
    have hi' : (opn[i] : Int) = a := by omega
    have ei := hix i i2 hi
    have hdl : (opn.drop i).length = opn.length - i := List.length_drop
    have hCk : ∀ (k : Nat) (hk : i + k < opn.length), (opn.drop i).take (k + 1) = (opn.drop i).take k ++ [opn[i + k]] := fun k hk => by
      rw [List.take_succ_eq_append_getElem (by omega)]; simp
    rw [← ei]
    all_goals haveI fA_ : FlagA := ⟨⟩
    repeat' (first
      | exact True.intro
      | refine stp ?_
      | refine two ?_ ?_
      | (refine imp fun hc => ?_) <;> try (first | contradiction | (exfalso; omega))
      | refine all fun v_ => ?_)
    all_goals clear fA_
    refine J_loopV (X := Nat) (fun k => [(0, .val (.pointer (some ⟨sb, 0, none⟩))), (5, .int i), (6, .int (leastOf a ((opn.drop i).take k))), (103, .val (qo.sub i 1).v), (104, .int (opn.length - i : Nat)), (105, .int k)]) (fun _ => srH sb bo bl bp n g ⟨order, low.set u (min (low[u]'(by omega)) (low[a]'(by omega))), part, opn, r' ++ [(u, ju)], met⟩ qo qc') (fun k => k ≤ opn.length - i) (fun k => opn.length - i - k) 0 (Nat.zero_le _) (VS.of_le ?_) ?_
    · repeat (first
        | exact Env.le_nil _
        | refine Env.le_cons (AV.le_refl _) ?_
        | refine Env.le_cons (AV.le_int rfl (by first | rfl | omega | (dsimp only; omega))) ?_)
    rintro k hk
    by_cases hkl : k < opn.length - i
    · have e6 : leastOf a ((opn.drop i).take (k + 1)) = min (leastOf a ((opn.drop i).take k)) (opn[i + k]'(by omega)) := by
        rw [hCk k (by omega)]; simp [leastOf, List.foldl_append]
      all_goals haveI fA_ : FlagA := ⟨⟩
      repeat' (first
        | exact True.intro
        | refine stp ?_
        | refine two ?_ ?_
        | (refine imp fun hc => ?_) <;> try (first | contradiction | (exfalso; omega))
        | refine all fun v_ => ?_)
      all_goals clear fA_
      refine ⟨k + 1, by omega, by omega, VS.of_le ?_⟩
      rw [e6]
      repeat (first
        | exact Env.le_nil _
        | refine Env.le_cons (AV.le_refl _) ?_
        | refine Env.le_cons (AV.le_int rfl (by first | rfl | omega | (dsimp only; omega))) ?_)
    have ek : (opn.drop i).take k = opn.drop i := List.take_of_length_le (by omega)
    rw [ek]
    all_goals haveI fA_ : FlagA := ⟨⟩
    repeat' (first
      | exact True.intro
      | refine stp ?_
      | refine two ?_ ?_
      | (refine imp fun hc => ?_) <;> try (first | contradiction | (exfalso; omega))
      | refine all fun v_ => ?_)
    all_goals clear fA_
    refine J_loopV (X := Nat) (fun k => [(0, .val (.pointer (some ⟨sb, 0, none⟩))), (5, .int i), (6, .int (leastOf a (opn.drop i))), (118, .val (qo.sub i 1).v), (119, .int (opn.length - i : Nat)), (120, .int k)]) (fun k => srH sb bo bl bp n g ⟨order, low.set u (min (low[u]'(by omega)) (low[a]'(by omega))), setAllP part ((opn.drop i).take k) (leastOf a (opn.drop i)), opn, r' ++ [(u, ju)], met⟩ qo qc') (fun k => k ≤ opn.length - i) (fun k => opn.length - i - k) 0 (Nat.zero_le _) (VS.of_le ?_) ?_
    · repeat (first
        | exact Env.le_nil _
        | refine Env.le_cons (AV.le_refl _) ?_
        | refine Env.le_cons (AV.le_int rfl (by first | rfl | omega | (dsimp only; omega))) ?_)
    rintro k' hk'
    have hsl := setAllP_length (leastOf a (opn.drop i)) ((opn.drop i).take k') part
    by_cases hkl' : k' < opn.length - i
    · have hlt := hop (opn[i + k']'(by omega)) (List.getElem_mem _)
      have e7 : setAllP part ((opn.drop i).take (k' + 1)) (leastOf a (opn.drop i)) = (setAllP part ((opn.drop i).take k') (leastOf a (opn.drop i))).set (opn[i + k']'(by omega)) (leastOf a (opn.drop i)) := by
        rw [hCk k' (by omega)]; simp [setAllP, List.foldl_append]
      all_goals haveI fA_ : FlagA := ⟨⟩
      repeat' (first
        | exact True.intro
        | refine stp ?_
        | refine two ?_ ?_
        | (refine imp fun hc => ?_) <;> try (first | contradiction | (exfalso; omega))
        | refine all fun v_ => ?_)
      all_goals clear fA_
      refine ⟨k' + 1, by omega, by omega, ?_⟩
      rw [e7]
      refine VS.of_le ?_
      repeat (first
        | exact Env.le_nil _
        | refine Env.le_cons (AV.le_refl _) ?_
        | refine Env.le_cons (AV.le_int rfl (by first | rfl | omega | (dsimp only; omega))) ?_)
    have ek' : (opn.drop i).take k' = opn.drop i := List.take_of_length_le (by omega)
    rw [ek']
    all_goals haveI fA_ : FlagA := ⟨⟩
    repeat' (first
      | exact True.intro
      | refine stp ?_
      | refine two ?_ ?_
      | (refine imp fun hc => ?_) <;> try (first | contradiction | (exfalso; omega))
      | refine all fun v_ => ?_)
    all_goals clear fA_
    exact rq0 rfl ⟨(v_, qc'), rfl, rfl⟩
end Go.Proofs.Ytcikppldaepodaa
