/- A bundle of this claim's own texts: V5. -/
import Derived.Test.YtajnpfgelpkijaaGreatDoorA22
set_option linter.unusedVariables false
set_option linter.unusedSimpArgs false
set_option maxRecDepth 100000
set_option maxHeartbeats 4000000
namespace Go.Proofs.YtajnpfgelpkijaaGreatDoor
open Go Go.Av Go.Sp

theorem Tm {α : Type} (r : List α) (p : α) (k : Nat) (hk : k = r.length) (h : k < (r ++ [p]).length) : (r ++ [p])[k] = p := by subst hk; simp
theorem Mm {α : Type} (r : List α) (p : α) (h : ((((r ++ [p]).length : Nat) : Int) - 1).toNat < (r ++ [p]).length) : (r ++ [p])[((((r ++ [p]).length : Nat) : Int) - 1).toNat]'h = p :=
 Tm r p _ (by simp) h
theorem leave (G : List (Nat × List D)) (sb bo bl bp n a j : Nat) (g : Gn) (s : TS) (r : List (Nat × Nat)) (qo qc : Sl) (ft : Fit n s) (ha : a < n) (hc : s.calls = r ++ [(a, j)]) (hr : ∀ p ∈ r, p.1 < n) (hop : ∀ v ∈ s.opn, v < n)
 (hmem : a ∈ s.opn) (hix : ∀ (i : Nat) (hi : i < s.opn.length), s.opn[i] = a → i = s.opn.idxOf a) :
 AC Tryz.prog G 143 [.val (.pointer (some ⟨sb, 0, none⟩)), .int a] (srH sb bo bl bp n g s qo qc) fun r h => ∃ y : Sl × Sl, r = .ret (.tup []) ∧ h = srH sb bo bl bp n g (s.leave a) y.1 y.2 := by
 obtain ⟨order, low, part, opn, calls, met⟩ := s
 dsimp only at hc hop hmem hix
 subst hc
 obtain ⟨f1, f2, f3, f4, f5, f6, f7⟩ := ft
 dsimp only at f2 f3 f4 f5 f6 f7
 refine Dd (ts := []) Tryz.f143.ntmps Tryz.func143 rfl rfl rfl (by simp [Tryz.ntmps143]) fun W I => ?_
 have hlr : ((r ++ [(a, j)]).length : Int) = r.length + 1 := by simp
 dsimp only [srH]
 refine FF ?_
 refine Mc (X := Sl) (fun _ => [(0, .val (.pointer (some ⟨sb, 0, none⟩))), (1, .int a)]) (fun y => srH sb bo bl bp n g ⟨order, low, part, opn, r, met⟩ qo y) ?_ (fun qc' => ?_)
 · repeat' (first
    | exact True.intro | refine AM ?_ | refine two ?_ ?_
    | (refine imp fun hc => ?_) <;> try exact cx hc
    | refine all fun v_ => ?_)
   have em : (((r ++ [(a, j)]).length : Int) - 1).toNat = r.length := by omega
   rw [em]
   refine ⟨qc.cut r.length, VS.trans (VS.cut (E := 215) (q := qc) (n := r.length) (f := frC) (xs := r ++ [(a, j)]) (sz := 2) (h' := srH sb bo bl bp n g ⟨order, low, part, opn, r, met⟩ qo (qc.cut r.length)) ?_ (fun _ => rfl) (by simp)) (VS.of_le ?_)⟩
   · rw [List.take_left]
     exact .there (.there (.there (.there (.there .here))))
   · exact leD
 refine Cw ?_
 have hopl : 0 < opn.length := List.length_pos_of_mem hmem
 have hixl : opn.idxOf a < opn.length := List.idxOf_lt_length_of_mem hmem
 rcases List.eq_nil_or_concat r with e | ⟨r', p, e⟩
 · subst e
   have eL : (TS.mk order low part opn ([] ++ [(a, j)]) met).low1 a = low := Fu a rfl
   by_cases he : ¬ gi (low) a = gi order a
   · have eS : TS.leave ⟨order, low, part, opn, ([]) ++ [(a, j)], met⟩ a = ⟨order, low, part, opn, [], met⟩ := by
      unfold TS.leave TS.pop
      rw [eL, if_pos he]
      simp
     rw [eS]
     dsimp only [srH]
     rw [CM _ _ (by first | omega | (simp only [List.length_set]; omega)), CM _ _ (by omega)] at he
     repeat' (first
      | exact True.intro | refine AM ?_ | refine two ?_ ?_
      | (refine imp fun hc => ?_) <;> try exact cx hc
      | refine all fun v_ => ?_)
     skip
     exact rq0 rfl ⟨(qo, qc'), rfl, rfl⟩
   replace he := Decidable.not_not.1 he
   have eS : TS.leave ⟨order, low, part, opn, ([]) ++ [(a, j)], met⟩ a = ⟨order, low, BB part (opn.drop (opn.idxOf a)) (Go.Sp.leastOf a (opn.drop (opn.idxOf a))), opn.take (opn.idxOf a), [], met⟩ := by
    unfold TS.leave TS.pop
    rw [eL, if_neg (by simpa using he)]
    simp
   rw [eS]
   dsimp only [srH]
   rw [CM _ _ (by first | omega | (simp only [List.length_set]; omega)), CM _ _ (by omega)] at he
   repeat' (first
    | exact True.intro | refine AM ?_ | refine two ?_ ?_
    | (refine imp fun hc => ?_) <;> try exact cx hc
    | refine all fun v_ => ?_)
   skip
   refine AL (X := Nat) (fun i => [(0, .val (.pointer (some ⟨sb, 0, none⟩))), (1, .int a), (5, .int i)]) (fun _ => srH sb bo bl bp n g ⟨order, low, part, opn, [], met⟩ qo qc') (fun i => opn.idxOf a ≤ i ∧ i < opn.length) (fun i => i) (opn.length - 1) ⟨by omega, by omega⟩ (VS.of_le ?_) ?_
   · exact leD
   rintro i ⟨i1, i2⟩
   by_cases hi : ¬ opn[i] = a
   · have hne : i ≠ opn.idxOf a := fun e => hi (by subst e; exact List.getElem_idxOf i2)
     have hi' : ¬ (opn[i] : Int) = a := by omega
     repeat' (first
      | exact True.intro | refine AM ?_ | refine two ?_ ?_
      | (refine imp fun hc => ?_) <;> try exact cx hc
      | refine all fun v_ => ?_)
     refine ⟨i - 1, ⟨by omega, by omega⟩, by omega, VS.of_le ?_⟩
     exact leD
   replace hi := Decidable.not_not.1 hi
   have hi' : (opn[i] : Int) = a := by omega
   have ei := hix i i2 hi
   have hdl : (opn.drop i).length = opn.length - i := List.length_drop
   have hCk : ∀ (k : Nat) (hk : i + k < opn.length), (opn.drop i).take (k + 1) = (opn.drop i).take k ++ [opn[i + k]] := fun k hk => by
    rw [List.take_succ_eq_append_getElem (by omega)]; simp
   rw [← ei]
   repeat' (first
    | exact True.intro | refine AM ?_ | refine two ?_ ?_
    | (refine imp fun hc => ?_) <;> try exact cx hc
    | refine all fun v_ => ?_)
   refine AL (X := Nat) (fun k => [(0, .val (.pointer (some ⟨sb, 0, none⟩))), (5, .int i), (6, .int (Go.Sp.leastOf a ((opn.drop i).take k))), (103, .val (qo.sub i 1).v), (104, .int (opn.length - i : Nat)), (105, .int k)]) (fun _ => srH sb bo bl bp n g ⟨order, low, part, opn, [], met⟩ qo qc') (fun k => k ≤ opn.length - i) (fun k => opn.length - i - k) 0 (Nat.zero_le _) (VS.of_le ?_) ?_
   · exact leD
   rintro k hk
   by_cases hkl : k < opn.length - i
   · have e6 : Go.Sp.leastOf a ((opn.drop i).take (k + 1)) = min (Go.Sp.leastOf a ((opn.drop i).take k)) (opn[i + k]'(by omega)) := by
      rw [hCk k (by omega)]; simp [Go.Sp.leastOf, List.foldl_append]
     repeat' (first
      | exact True.intro | refine AM ?_ | refine two ?_ ?_
      | (refine imp fun hc => ?_) <;> try exact cx hc
      | refine all fun v_ => ?_)
     refine ⟨k + 1, by omega, by omega, VS.of_le ?_⟩
     rw [e6]
     exact leD
   have ek : (opn.drop i).take k = opn.drop i := List.take_of_length_le (by omega)
   rw [ek]
   repeat' (first
    | exact True.intro | refine AM ?_ | refine two ?_ ?_
    | (refine imp fun hc => ?_) <;> try exact cx hc
    | refine all fun v_ => ?_)
   refine AL (X := Nat) (fun k => [(0, .val (.pointer (some ⟨sb, 0, none⟩))), (5, .int i), (6, .int (Go.Sp.leastOf a (opn.drop i))), (118, .val (qo.sub i 1).v), (119, .int (opn.length - i : Nat)), (120, .int k)]) (fun k => srH sb bo bl bp n g ⟨order, low, BB part ((opn.drop i).take k) (Go.Sp.leastOf a (opn.drop i)), opn, [], met⟩ qo qc') (fun k => k ≤ opn.length - i) (fun k => opn.length - i - k) 0 (Nat.zero_le _) (VS.of_le ?_) ?_
   · exact leD
   rintro k' hk'
   have hsl := DY (Go.Sp.leastOf a (opn.drop i)) ((opn.drop i).take k') part
   by_cases hkl' : k' < opn.length - i
   · have hlt := hop (opn[i + k']'(by omega)) (List.getElem_mem _)
     have e7 : BB part ((opn.drop i).take (k' + 1)) (Go.Sp.leastOf a (opn.drop i)) = (BB part ((opn.drop i).take k') (Go.Sp.leastOf a (opn.drop i))).set (opn[i + k']'(by omega)) (Go.Sp.leastOf a (opn.drop i)) := by
      rw [hCk k' (by omega)]; simp [BB, List.foldl_append]
     repeat' (first
      | exact True.intro | refine AM ?_ | refine two ?_ ?_
      | (refine imp fun hc => ?_) <;> try exact cx hc
      | refine all fun v_ => ?_)
     refine ⟨k' + 1, by omega, by omega, ?_⟩
     rw [e7]
     refine VS.of_le ?_
     exact leD
   have ek' : (opn.drop i).take k' = opn.drop i := List.take_of_length_le (by omega)
   rw [ek']
   repeat' (first
    | exact True.intro | refine AM ?_ | refine two ?_ ?_
    | (refine imp fun hc => ?_) <;> try exact cx hc
    | refine all fun v_ => ?_)
   exact rq0 rfl ⟨(v_, qc'), rfl, rfl⟩
 · rw [List.concat_eq_append] at e
   subst e
   obtain ⟨u, ju⟩ := p
   have hu : u < n := hr (u, ju) (by simp)
   have hlr' : ((r' ++ [(u, ju)]).length : Int) = r'.length + 1 := by simp
   have eL : (TS.mk order low part opn ((r' ++ [(u, ju)]) ++ [(a, j)]) met).low1 a = low.set u (min (low[u]'(by omega)) (low[a]'(by omega))) := by
    rw [J6 (p := (u, ju)) a (by simp)]
    dsimp only
    rw [CM _ _ (by omega), CM _ _ (by omega)]
   by_cases he : ¬ gi (low.set u (min (low[u]'(by omega)) (low[a]'(by omega)))) a = gi order a
   · have eS : TS.leave ⟨order, low, part, opn, (r' ++ [(u, ju)]) ++ [(a, j)], met⟩ a = ⟨order, low.set u (min (low[u]'(by omega)) (low[a]'(by omega))), part, opn, r' ++ [(u, ju)], met⟩ := by
      unfold TS.leave TS.pop
      rw [eL, if_pos he]
      simp
     rw [eS]
     dsimp only [srH]
     rw [CM _ _ (by first | omega | (simp only [List.length_set]; omega)), CM _ _ (by omega)] at he
     repeat' (first
      | exact True.intro | refine AM ?_ | refine two ?_ ?_
      | (refine imp fun hc => ?_) <;> try exact cx hc
      | refine all fun v_ => ?_)
     simp only [Mm]
     repeat' (first
      | exact True.intro | refine AM ?_ | refine two ?_ ?_
      | (refine imp fun hc => ?_) <;> try exact cx hc
      | refine all fun v_ => ?_)
     exact rq0 rfl ⟨(qo, qc'), rfl, rfl⟩
   replace he := Decidable.not_not.1 he
   have eS : TS.leave ⟨order, low, part, opn, (r' ++ [(u, ju)]) ++ [(a, j)], met⟩ a = ⟨order, low.set u (min (low[u]'(by omega)) (low[a]'(by omega))), BB part (opn.drop (opn.idxOf a)) (Go.Sp.leastOf a (opn.drop (opn.idxOf a))), opn.take (opn.idxOf a), r' ++ [(u, ju)], met⟩ := by
    unfold TS.leave TS.pop
    rw [eL, if_neg (by simpa using he)]
    simp
   rw [eS]
   dsimp only [srH]
   rw [CM _ _ (by first | omega | (simp only [List.length_set]; omega)), CM _ _ (by omega)] at he
   repeat' (first
    | exact True.intro | refine AM ?_ | refine two ?_ ?_
    | (refine imp fun hc => ?_) <;> try exact cx hc
    | refine all fun v_ => ?_)
   simp only [Mm]
   repeat' (first
    | exact True.intro | refine AM ?_ | refine two ?_ ?_
    | (refine imp fun hc => ?_) <;> try exact cx hc
    | refine all fun v_ => ?_)
   refine AL (X := Nat) (fun i => [(0, .val (.pointer (some ⟨sb, 0, none⟩))), (1, .int a), (5, .int i)]) (fun _ => srH sb bo bl bp n g ⟨order, low.set u (min (low[u]'(by omega)) (low[a]'(by omega))), part, opn, r' ++ [(u, ju)], met⟩ qo qc') (fun i => opn.idxOf a ≤ i ∧ i < opn.length) (fun i => i) (opn.length - 1) ⟨by omega, by omega⟩ (VS.of_le ?_) ?_
   · exact leD
   rintro i ⟨i1, i2⟩
   by_cases hi : ¬ opn[i] = a
   · have hne : i ≠ opn.idxOf a := fun e => hi (by subst e; exact List.getElem_idxOf i2)
     have hi' : ¬ (opn[i] : Int) = a := by omega
     repeat' (first
      | exact True.intro | refine AM ?_ | refine two ?_ ?_
      | (refine imp fun hc => ?_) <;> try exact cx hc
      | refine all fun v_ => ?_)
     refine ⟨i - 1, ⟨by omega, by omega⟩, by omega, VS.of_le ?_⟩
     exact leD
   replace hi := Decidable.not_not.1 hi
   have hi' : (opn[i] : Int) = a := by omega
   have ei := hix i i2 hi
   have hdl : (opn.drop i).length = opn.length - i := List.length_drop
   have hCk : ∀ (k : Nat) (hk : i + k < opn.length), (opn.drop i).take (k + 1) = (opn.drop i).take k ++ [opn[i + k]] := fun k hk => by
    rw [List.take_succ_eq_append_getElem (by omega)]; simp
   rw [← ei]
   repeat' (first
    | exact True.intro | refine AM ?_ | refine two ?_ ?_
    | (refine imp fun hc => ?_) <;> try exact cx hc
    | refine all fun v_ => ?_)
   refine AL (X := Nat) (fun k => [(0, .val (.pointer (some ⟨sb, 0, none⟩))), (5, .int i), (6, .int (Go.Sp.leastOf a ((opn.drop i).take k))), (103, .val (qo.sub i 1).v), (104, .int (opn.length - i : Nat)), (105, .int k)]) (fun _ => srH sb bo bl bp n g ⟨order, low.set u (min (low[u]'(by omega)) (low[a]'(by omega))), part, opn, r' ++ [(u, ju)], met⟩ qo qc') (fun k => k ≤ opn.length - i) (fun k => opn.length - i - k) 0 (Nat.zero_le _) (VS.of_le ?_) ?_
   · exact leD
   rintro k hk
   by_cases hkl : k < opn.length - i
   · have e6 : Go.Sp.leastOf a ((opn.drop i).take (k + 1)) = min (Go.Sp.leastOf a ((opn.drop i).take k)) (opn[i + k]'(by omega)) := by
      rw [hCk k (by omega)]; simp [Go.Sp.leastOf, List.foldl_append]
     repeat' (first
      | exact True.intro | refine AM ?_ | refine two ?_ ?_
      | (refine imp fun hc => ?_) <;> try exact cx hc
      | refine all fun v_ => ?_)
     refine ⟨k + 1, by omega, by omega, VS.of_le ?_⟩
     rw [e6]
     exact leD
   have ek : (opn.drop i).take k = opn.drop i := List.take_of_length_le (by omega)
   rw [ek]
   repeat' (first
    | exact True.intro | refine AM ?_ | refine two ?_ ?_
    | (refine imp fun hc => ?_) <;> try exact cx hc
    | refine all fun v_ => ?_)
   refine AL (X := Nat) (fun k => [(0, .val (.pointer (some ⟨sb, 0, none⟩))), (5, .int i), (6, .int (Go.Sp.leastOf a (opn.drop i))), (118, .val (qo.sub i 1).v), (119, .int (opn.length - i : Nat)), (120, .int k)]) (fun k => srH sb bo bl bp n g ⟨order, low.set u (min (low[u]'(by omega)) (low[a]'(by omega))), BB part ((opn.drop i).take k) (Go.Sp.leastOf a (opn.drop i)), opn, r' ++ [(u, ju)], met⟩ qo qc') (fun k => k ≤ opn.length - i) (fun k => opn.length - i - k) 0 (Nat.zero_le _) (VS.of_le ?_) ?_
   · exact leD
   rintro k' hk'
   have hsl := DY (Go.Sp.leastOf a (opn.drop i)) ((opn.drop i).take k') part
   by_cases hkl' : k' < opn.length - i
   · have hlt := hop (opn[i + k']'(by omega)) (List.getElem_mem _)
     have e7 : BB part ((opn.drop i).take (k' + 1)) (Go.Sp.leastOf a (opn.drop i)) = (BB part ((opn.drop i).take k') (Go.Sp.leastOf a (opn.drop i))).set (opn[i + k']'(by omega)) (Go.Sp.leastOf a (opn.drop i)) := by
      rw [hCk k' (by omega)]; simp [BB, List.foldl_append]
     repeat' (first
      | exact True.intro | refine AM ?_ | refine two ?_ ?_
      | (refine imp fun hc => ?_) <;> try exact cx hc
      | refine all fun v_ => ?_)
     refine ⟨k' + 1, by omega, by omega, ?_⟩
     rw [e7]
     refine VS.of_le ?_
     exact leD
   have ek' : (opn.drop i).take k' = opn.drop i := List.take_of_length_le (by omega)
   rw [ek']
   repeat' (first
    | exact True.intro | refine AM ?_ | refine two ?_ ?_
    | (refine imp fun hc => ?_) <;> try exact cx hc
    | refine all fun v_ => ?_)
   exact rq0 rfl ⟨(v_, qc'), rfl, rfl⟩
end Go.Proofs.YtajnpfgelpkijaaGreatDoor
