/- Own texts. -/
import Derived.Test.YtnlfhnbcdfdhgaaGreatDoorA36
set_option linter.unusedVariables false
set_option linter.unusedSimpArgs false
set_option maxRecDepth 100000
set_option maxHeartbeats 4000000
namespace Go.Proofs.YtnlfhnbcdfdhgaaGreatDoor
open Go Go.Av Go.Sp
theorem UM {α : Type} (r : List α) (p : α) (k : Nat) (hk : k = r.length) (h : k < (r ++ [p]).length) : (r ++ [p])[k] = p := by subst hk; simp
theorem Nh {α : Type} (r : List α) (p : α) (h : ((((r ++ [p]).length : Nat) : Int) - 1).toNat < (r ++ [p]).length) : (r ++ [p])[((((r ++ [p]).length : Nat) : Int) - 1).toNat]'h = p :=
 UM r p _ (by simp) h
theorem leave (G : List (Nat × List D)) (sb bo bl bp n a j : Nat) (g : Gn) (s : TS) (r : List (Nat × Nat)) (qo qc : Sl) (ft : Fit n s) (ha : a < n) (hc : s.calls = r ++ [(a, j)]) (hr : ∀ p ∈ r, p.1 < n) (hop : ∀ v ∈ s.opn, v < n)
 (hmem : a ∈ s.opn) (hix : ∀ (i : Nat) (hi : i < s.opn.length), s.opn[i] = a → i = s.opn.idxOf a) :
 AC Tryz.prog G 153 [.val (.pointer (some ⟨sb, 0, none⟩)), .int a] (srH sb bo bl bp n g s qo qc) fun r h => ∃ y : Sl × Sl, r = .ret (.tup []) ∧ h = srH sb bo bl bp n g (s.leave a) y.1 y.2 := by
 obtain ⟨order, low, part, opn, calls, met⟩ := s
 dsimp only at hc hop hmem hix
 subst hc
 obtain ⟨f1, f2, f3, f4, f5, f6, f7⟩ := ft
 dsimp only at f2 f3 f4 f5 f6 f7
 refine Cz (ts := []) Tryz.f153.ntmps Tryz.func153 rfl rfl rfl (by simp [Tryz.ntmps153]) fun W I => ?_
 have hlr : ((r ++ [(a, j)]).length : Int) = r.length + 1 := by simp
 dsimp only [srH]
 refine Pt ?_
 refine NN (X := Sl) (fun _ => [(0, .val (.pointer (some ⟨sb, 0, none⟩))), (1, .int a)]) (fun y => srH sb bo bl bp n g ⟨order, low, part, opn, r, met⟩ qo y) ?_ (fun qc' => ?_)
 · repeat' (first | exact jA | refine AP ?_ | refine two ?_ ?_ | refine imp fun hc => ?_; try exact cx hc | refine all fun v_ => ?_)
   have em : (((r ++ [(a, j)]).length : Int) - 1).toNat = r.length := by omega
   rw [em]
   refine ⟨qc.cut r.length, VS.trans (VS.cut (E := 215) (q := qc) (n := r.length) (f := frC) (xs := r ++ [(a, j)]) (sz := 2) (h' := srH sb bo bl bp n g ⟨order, low, part, opn, r, met⟩ qo (qc.cut r.length)) ?_ (fun _ => rfl) (by simp)) (VS.of_le ?_)⟩
   · rw [List.take_left]
     exact .there (.there (.there (.there (.there .here))))
   · exact leD
 refine En ?_
 have hopl : 0 < opn.length := List.length_pos_of_mem hmem
 have hixl : opn.idxOf a < opn.length := List.idxOf_lt_length_of_mem hmem
 rcases List.eq_nil_or_concat r with e | ⟨r', p, e⟩
 · subst e
   have eL : (TS.mk order low part opn ([] ++ [(a, j)]) met).low1 a = low := HY a rfl
   by_cases he : ¬ gi (low) a = gi order a
   · have eS : TS.leave ⟨order, low, part, opn, ([]) ++ [(a, j)], met⟩ a = ⟨order, low, part, opn, [], met⟩ := by
      unfold TS.leave TS.pop
      rw [eL, if_pos he]
      simp
     rw [eS]
     dsimp only [srH]
     rw [B0 _ _ (by first | omega | (simp only [List.length_set]; omega)), B0 _ _ jB] at he
     repeat' (first | exact jA | refine AP ?_ | refine two ?_ ?_ | refine imp fun hc => ?_; try exact cx hc | refine all fun v_ => ?_)
     skip
     exact rq0 rfl ⟨(qo, qc'), rfl, rfl⟩
   replace he := jY he
   have eS : TS.leave ⟨order, low, part, opn, ([]) ++ [(a, j)], met⟩ a = ⟨order, low, Bb part (opn.drop (opn.idxOf a)) (Go.Sp.leastOf a (opn.drop (opn.idxOf a))), opn.take (opn.idxOf a), [], met⟩ := by
    unfold TS.leave TS.pop
    rw [eL, if_neg (by simpa using he)]
    simp
   rw [eS]
   dsimp only [srH]
   rw [B0 _ _ (by first | omega | (simp only [List.length_set]; omega)), B0 _ _ jB] at he
   repeat' (first | exact jA | refine AP ?_ | refine two ?_ ?_ | refine imp fun hc => ?_; try exact cx hc | refine all fun v_ => ?_)
   skip
   refine AG (X := Nat) (fun i => [(0, .val (.pointer (some ⟨sb, 0, none⟩))), (1, .int a), (5, .int i)]) (fun _ => srH sb bo bl bp n g ⟨order, low, part, opn, [], met⟩ qo qc') (fun i => opn.idxOf a ≤ i ∧ i < opn.length) (fun i => i) (opn.length - 1) ⟨by omega, by omega⟩ (VS.of_le ?_) ?_
   · exact leD
   rintro i ⟨i1, i2⟩
   by_cases hi : ¬ opn[i] = a
   · have hne : i ≠ opn.idxOf a := fun e => hi (by subst e; exact List.getElem_idxOf i2)
     have hi' : ¬ (opn[i] : Int) = a := by omega
     repeat' (first | exact jA | refine AP ?_ | refine two ?_ ?_ | refine imp fun hc => ?_; try exact cx hc | refine all fun v_ => ?_)
     refine ⟨i - 1, ⟨by omega, by omega⟩, by omega, VS.of_le ?_⟩
     exact leD
   replace hi := jY hi
   have hi' : (opn[i] : Int) = a := by omega
   have ei := hix i i2 hi
   have hdl : (opn.drop i).length = opn.length - i := List.length_drop
   have hCk : ∀ (k : Nat) (hk : i + k < opn.length), (opn.drop i).take (k + 1) = (opn.drop i).take k ++ [opn[i + k]] := fun k hk => by
    rw [jZ jB]; simp
   rw [← ei]
   repeat' (first | exact jA | refine AP ?_ | refine two ?_ ?_ | refine imp fun hc => ?_; try exact cx hc | refine all fun v_ => ?_)
   refine AG (X := Nat) (fun k => [(0, .val (.pointer (some ⟨sb, 0, none⟩))), (5, .int i), (6, .int (Go.Sp.leastOf a ((opn.drop i).take k))), (103, .val (qo.sub i 1).v), (104, .int (opn.length - i : Nat)), (105, .int k)]) (fun _ => srH sb bo bl bp n g ⟨order, low, part, opn, [], met⟩ qo qc') (fun k => k ≤ opn.length - i) (fun k => opn.length - i - k) 0 (Nat.zero_le _) (VS.of_le ?_) ?_
   · exact leD
   rintro k hk
   by_cases hkl : k < opn.length - i
   · have e6 : Go.Sp.leastOf a ((opn.drop i).take (k + 1)) = min (Go.Sp.leastOf a ((opn.drop i).take k)) (opn[i + k]'jB) := by
      rw [hCk k jB]; simp [Go.Sp.leastOf, List.foldl_append]
     repeat' (first | exact jA | refine AP ?_ | refine two ?_ ?_ | refine imp fun hc => ?_; try exact cx hc | refine all fun v_ => ?_)
     refine ⟨k + 1, by omega, by omega, VS.of_le ?_⟩
     rw [e6]
     exact leD
   have ek : (opn.drop i).take k = opn.drop i := List.take_of_length_le jB
   rw [ek]
   repeat' (first | exact jA | refine AP ?_ | refine two ?_ ?_ | refine imp fun hc => ?_; try exact cx hc | refine all fun v_ => ?_)
   refine AG (X := Nat) (fun k => [(0, .val (.pointer (some ⟨sb, 0, none⟩))), (5, .int i), (6, .int (Go.Sp.leastOf a (opn.drop i))), (118, .val (qo.sub i 1).v), (119, .int (opn.length - i : Nat)), (120, .int k)]) (fun k => srH sb bo bl bp n g ⟨order, low, Bb part ((opn.drop i).take k) (Go.Sp.leastOf a (opn.drop i)), opn, [], met⟩ qo qc') (fun k => k ≤ opn.length - i) (fun k => opn.length - i - k) 0 (Nat.zero_le _) (VS.of_le ?_) ?_
   · exact leD
   rintro k' hk'
   have hsl := EL (Go.Sp.leastOf a (opn.drop i)) ((opn.drop i).take k') part
   by_cases hkl' : k' < opn.length - i
   · have hlt := hop (opn[i + k']'jB) (jb _)
     have e7 : Bb part ((opn.drop i).take (k' + 1)) (Go.Sp.leastOf a (opn.drop i)) = (Bb part ((opn.drop i).take k') (Go.Sp.leastOf a (opn.drop i))).set (opn[i + k']'jB) (Go.Sp.leastOf a (opn.drop i)) := by
      rw [hCk k' jB]; simp [Bb, List.foldl_append]
     repeat' (first | exact jA | refine AP ?_ | refine two ?_ ?_ | refine imp fun hc => ?_; try exact cx hc | refine all fun v_ => ?_)
     refine ⟨k' + 1, by omega, by omega, ?_⟩
     rw [e7]
     refine VS.of_le ?_
     exact leD
   have ek' : (opn.drop i).take k' = opn.drop i := List.take_of_length_le jB
   rw [ek']
   repeat' (first | exact jA | refine AP ?_ | refine two ?_ ?_ | refine imp fun hc => ?_; try exact cx hc | refine all fun v_ => ?_)
   exact rq0 rfl ⟨(v_, qc'), rfl, rfl⟩
 · rw [List.concat_eq_append] at e
   subst e
   obtain ⟨u, ju⟩ := p
   have hu : u < n := hr (u, ju) (by simp)
   have hlr' : ((r' ++ [(u, ju)]).length : Int) = r'.length + 1 := by simp
   have eL : (TS.mk order low part opn ((r' ++ [(u, ju)]) ++ [(a, j)]) met).low1 a = low.set u (min (low[u]'jB) (low[a]'jB)) := by
    rw [LC (p := (u, ju)) a (by simp)]
    dsimp only
    rw [B0 _ _ jB, B0 _ _ jB]
   by_cases he : ¬ gi (low.set u (min (low[u]'jB) (low[a]'jB))) a = gi order a
   · have eS : TS.leave ⟨order, low, part, opn, (r' ++ [(u, ju)]) ++ [(a, j)], met⟩ a = ⟨order, low.set u (min (low[u]'jB) (low[a]'jB)), part, opn, r' ++ [(u, ju)], met⟩ := by
      unfold TS.leave TS.pop
      rw [eL, if_pos he]
      simp
     rw [eS]
     dsimp only [srH]
     rw [B0 _ _ (by first | omega | (simp only [List.length_set]; omega)), B0 _ _ jB] at he
     repeat' (first | exact jA | refine AP ?_ | refine two ?_ ?_ | refine imp fun hc => ?_; try exact cx hc | refine all fun v_ => ?_)
     simp only [Nh]
     repeat' (first | exact jA | refine AP ?_ | refine two ?_ ?_ | refine imp fun hc => ?_; try exact cx hc | refine all fun v_ => ?_)
     exact rq0 rfl ⟨(qo, qc'), rfl, rfl⟩
   replace he := jY he
   have eS : TS.leave ⟨order, low, part, opn, (r' ++ [(u, ju)]) ++ [(a, j)], met⟩ a = ⟨order, low.set u (min (low[u]'jB) (low[a]'jB)), Bb part (opn.drop (opn.idxOf a)) (Go.Sp.leastOf a (opn.drop (opn.idxOf a))), opn.take (opn.idxOf a), r' ++ [(u, ju)], met⟩ := by
    unfold TS.leave TS.pop
    rw [eL, if_neg (by simpa using he)]
    simp
   rw [eS]
   dsimp only [srH]
   rw [B0 _ _ (by first | omega | (simp only [List.length_set]; omega)), B0 _ _ jB] at he
   repeat' (first | exact jA | refine AP ?_ | refine two ?_ ?_ | refine imp fun hc => ?_; try exact cx hc | refine all fun v_ => ?_)
   simp only [Nh]
   repeat' (first | exact jA | refine AP ?_ | refine two ?_ ?_ | refine imp fun hc => ?_; try exact cx hc | refine all fun v_ => ?_)
   refine AG (X := Nat) (fun i => [(0, .val (.pointer (some ⟨sb, 0, none⟩))), (1, .int a), (5, .int i)]) (fun _ => srH sb bo bl bp n g ⟨order, low.set u (min (low[u]'jB) (low[a]'jB)), part, opn, r' ++ [(u, ju)], met⟩ qo qc') (fun i => opn.idxOf a ≤ i ∧ i < opn.length) (fun i => i) (opn.length - 1) ⟨by omega, by omega⟩ (VS.of_le ?_) ?_
   · exact leD
   rintro i ⟨i1, i2⟩
   by_cases hi : ¬ opn[i] = a
   · have hne : i ≠ opn.idxOf a := fun e => hi (by subst e; exact List.getElem_idxOf i2)
     have hi' : ¬ (opn[i] : Int) = a := by omega
     repeat' (first | exact jA | refine AP ?_ | refine two ?_ ?_ | refine imp fun hc => ?_; try exact cx hc | refine all fun v_ => ?_)
     refine ⟨i - 1, ⟨by omega, by omega⟩, by omega, VS.of_le ?_⟩
     exact leD
   replace hi := jY hi
   have hi' : (opn[i] : Int) = a := by omega
   have ei := hix i i2 hi
   have hdl : (opn.drop i).length = opn.length - i := List.length_drop
   have hCk : ∀ (k : Nat) (hk : i + k < opn.length), (opn.drop i).take (k + 1) = (opn.drop i).take k ++ [opn[i + k]] := fun k hk => by
    rw [jZ jB]; simp
   rw [← ei]
   repeat' (first | exact jA | refine AP ?_ | refine two ?_ ?_ | refine imp fun hc => ?_; try exact cx hc | refine all fun v_ => ?_)
   refine AG (X := Nat) (fun k => [(0, .val (.pointer (some ⟨sb, 0, none⟩))), (5, .int i), (6, .int (Go.Sp.leastOf a ((opn.drop i).take k))), (103, .val (qo.sub i 1).v), (104, .int (opn.length - i : Nat)), (105, .int k)]) (fun _ => srH sb bo bl bp n g ⟨order, low.set u (min (low[u]'jB) (low[a]'jB)), part, opn, r' ++ [(u, ju)], met⟩ qo qc') (fun k => k ≤ opn.length - i) (fun k => opn.length - i - k) 0 (Nat.zero_le _) (VS.of_le ?_) ?_
   · exact leD
   rintro k hk
   by_cases hkl : k < opn.length - i
   · have e6 : Go.Sp.leastOf a ((opn.drop i).take (k + 1)) = min (Go.Sp.leastOf a ((opn.drop i).take k)) (opn[i + k]'jB) := by
      rw [hCk k jB]; simp [Go.Sp.leastOf, List.foldl_append]
     repeat' (first | exact jA | refine AP ?_ | refine two ?_ ?_ | refine imp fun hc => ?_; try exact cx hc | refine all fun v_ => ?_)
     refine ⟨k + 1, by omega, by omega, VS.of_le ?_⟩
     rw [e6]
     exact leD
   have ek : (opn.drop i).take k = opn.drop i := List.take_of_length_le jB
   rw [ek]
   repeat' (first | exact jA | refine AP ?_ | refine two ?_ ?_ | refine imp fun hc => ?_; try exact cx hc | refine all fun v_ => ?_)
   refine AG (X := Nat) (fun k => [(0, .val (.pointer (some ⟨sb, 0, none⟩))), (5, .int i), (6, .int (Go.Sp.leastOf a (opn.drop i))), (118, .val (qo.sub i 1).v), (119, .int (opn.length - i : Nat)), (120, .int k)]) (fun k => srH sb bo bl bp n g ⟨order, low.set u (min (low[u]'jB) (low[a]'jB)), Bb part ((opn.drop i).take k) (Go.Sp.leastOf a (opn.drop i)), opn, r' ++ [(u, ju)], met⟩ qo qc') (fun k => k ≤ opn.length - i) (fun k => opn.length - i - k) 0 (Nat.zero_le _) (VS.of_le ?_) ?_
   · exact leD
   rintro k' hk'
   have hsl := EL (Go.Sp.leastOf a (opn.drop i)) ((opn.drop i).take k') part
   by_cases hkl' : k' < opn.length - i
   · have hlt := hop (opn[i + k']'jB) (jb _)
     have e7 : Bb part ((opn.drop i).take (k' + 1)) (Go.Sp.leastOf a (opn.drop i)) = (Bb part ((opn.drop i).take k') (Go.Sp.leastOf a (opn.drop i))).set (opn[i + k']'jB) (Go.Sp.leastOf a (opn.drop i)) := by
      rw [hCk k' jB]; simp [Bb, List.foldl_append]
     repeat' (first | exact jA | refine AP ?_ | refine two ?_ ?_ | refine imp fun hc => ?_; try exact cx hc | refine all fun v_ => ?_)
     refine ⟨k' + 1, by omega, by omega, ?_⟩
     rw [e7]
     refine VS.of_le ?_
     exact leD
   have ek' : (opn.drop i).take k' = opn.drop i := List.take_of_length_le jB
   rw [ek']
   repeat' (first | exact jA | refine AP ?_ | refine two ?_ ?_ | refine imp fun hc => ?_; try exact cx hc | refine all fun v_ => ?_)
   exact rq0 rfl ⟨(v_, qc'), rfl, rfl⟩
theorem JZ (G : List (Nat × List D)) (sb bo bl bp n a j : Nat) (g : Gn) (s : TS) (r : List (Nat × Nat)) (qo qc : Sl) (ft : Fit n s) (hok : g.ok) (hn : g.spots.length = n) (t : B3 g.nx n none s) (hc : s.calls = r ++ [(a, j)]) :
 AC Tryz.prog G 104 [.val (.pointer (some ⟨sb, 0, none⟩))] (srH sb bo bl bp n g s qo qc) fun rr h => ∃ y : Sl × Sl, rr = .ret (.tup []) ∧ h = srH sb bo bl bp n g (s.go g.nx) y.1 y.2 := by
 have hlast : s.calls.getLast? = some (a, j) := by rw [hc]; simp
 have hF : ∀ p ∈ s.calls, p.1 < n := fun p hp => t.lt ((t.mem p.1).1 (t.fin p.1 (List.mem_map.2 ⟨p, hp, rfl⟩))).1
 have ha : a < n := hF (a, j) (by rw [hc]; simp)
 have hr : ∀ p ∈ r, p.1 < n := fun p hp => hF p (by rw [hc]; simp [hp])
 have hop : ∀ v ∈ s.opn, v < n := fun v hv => t.lt ((t.mem v).1 hv).1
 have hmem : a ∈ s.opn := t.fin a (List.mem_map.2 ⟨(a, j), by rw [hc]; simp, rfl⟩)
 have hix : ∀ (i : Nat) (hi : i < s.opn.length), s.opn[i] = a → i = s.opn.idxOf a := fun i hi e => t.idx i hi e
 have L := leave G sb bo bl bp n a j g s r qo qc ft ha hc hr hop hmem hix
 have hnl := hok.next
 have hjl : j ≤ (g.nx a).length := t.fj (a, j) (by rw [hc]; simp)
 obtain ⟨order, low, part, opn, calls, met⟩ := s
 dsimp only at hc hop hmem hix
 subst hc
 obtain ⟨f1, f2, f3, f4, f5, f6, f7⟩ := ft
 dsimp only at f2 f3 f4 f5 f6 f7
 refine Cz (ts := []) Tryz.f104.ntmps Tryz.func104 rfl rfl rfl (by simp [Tryz.ntmps104]) fun W I => ?_
 have hlr : ((r ++ [(a, j)]).length : Int) = r.length + 1 := by simp
 have enx : g.nx a = g.next[a]'jB := g.nx_get a jB
 have enl : (g.nx a).length = (g.next[a]'jB).length := by rw [enx]
 dsimp only [srH]
 refine Pt ?_
 refine NN (X := Unit) (fun _ => [(0, .val (.pointer (some ⟨sb, 0, none⟩))), (2, .val (.pointer (some (qc.at (r.length * 2)))))]) (fun _ => srH sb bo bl bp n g ⟨order, low, part, opn, r ++ [(a, j)], met⟩ qo qc) ?_ (fun _ => ?_)
 · repeat' (first | exact jA | refine AP ?_ | refine two ?_ ?_ | refine imp fun hc => ?_; try exact cx hc | refine all fun v_ => ?_)
   have em : (((r ++ [(a, j)]).length : Int) - 1).toNat = r.length := by omega
   rw [em]
   refine ⟨(), VS.of_le ?_⟩
   exact leD
 refine En ?_
 dsimp only [srH]
 have hgetf : (r ++ [(a, j)])[r.length]'(by simp) = (a, j) := by simp
 by_cases hj : ¬ j < (g.nx a).length
 · have eS : TS.go g.nx ⟨order, low, part, opn, r ++ [(a, j)], met⟩ = TS.leave ⟨order, low, part, opn, r ++ [(a, j)], met⟩ a := by
    unfold TS.go; simp [hlast, hj]
   rw [eS]
   dsimp only [srH] at L
   repeat' (first | refine cag LH (L) ?_ | exact jA | refine AP ?_ | refine two ?_ ?_ | refine imp fun hc => ?_; try exact cx hc | refine all fun v_ => ?_)
   try simp only [hgetf]
   repeat' (first | refine cag LH (L) ?_ | exact jA | refine AP ?_ | refine two ?_ ?_ | refine imp fun hc => ?_; try exact cx hc | refine all fun v_ => ?_)
   try simp only [hgetf]
   repeat' (first | refine cag LH (L) ?_ | exact jA | refine AP ?_ | refine two ?_ ?_ | refine imp fun hc => ?_; try exact cx hc | refine all fun v_ => ?_)
   exact rq0 rfl ⟨(_, _), rfl, rfl⟩
 replace hj := jY hj
 have hk : (g.nx a)[j] < n := by rw [← hn]; exact Gn.nx_lt hok a _ (jb _)
 have ek : (g.nx a)[j] = (g.next[a]'jB)[j]'jB := by simp only [enx]
 generalize hkk : (g.nx a)[j] = k at hk ek
 have hset : ∀ x : Nat × Nat, (r ++ [(a, j)]).set r.length x = r ++ [x] := fun x => by simp
 have hgo : ∀ (k1 : k < order.length) (k2 : k < part.length), TS.go g.nx ⟨order, low, part, opn, r ++ [(a, j)], met⟩ = if order[k] = 0 then TS.enter ⟨order, low, part, opn, r ++ [(a, j + 1)], met⟩ k else if part[k] < 0 then TS.lower ⟨order, low, part, opn, r ++ [(a, j + 1)], met⟩ a k else ⟨order, low, part, opn, r ++ [(a, j + 1)], met⟩ := fun k1 k2 => by
  unfold TS.go
  simp only [hlast]
  rw [dif_pos hj]
  simp only [hkk, B0 _ _ k1, B0 _ _ k2, TS.next, List.dropLast_concat]
 have hlr2 : ((r ++ [(a, j + 1)]).length : Int) = r.length + 1 := by simp
 rw [hgo jB jB]
 repeat' (first | exact jA | refine AP ?_ | refine two ?_ ?_ | refine imp fun hc => ?_; try exact cx hc | refine all fun v_ => ?_)
 simp only [hgetf]
 repeat' (first | exact jA | refine AP ?_ | refine two ?_ ?_ | refine imp fun hc => ?_; try exact cx hc | refine all fun v_ => ?_)
 simp only [hgetf]
 repeat' (first | exact jA | refine AP ?_ | refine two ?_ ?_ | refine imp fun hc => ?_; try exact cx hc | refine all fun v_ => ?_)
 simp only [hgetf, ← ek]
 repeat' (first | exact jA | refine AP ?_ | refine two ?_ ?_ | refine imp fun hc => ?_; try exact cx hc | refine all fun v_ => ?_)
 try simp only [hgetf]
 refine fO (t := 48) (xs := g.next[a]'jB) (f := Gj) (sz := 1) (eb := 8) rfl fun hlen => ?_
 repeat' (first | exact jA | refine AP ?_ | refine two ?_ ?_ | refine imp fun hc => ?_; try exact cx hc | refine all fun v_ => ?_)
 apply Yo (q := qc) (j := r.length) (xs := r ++ [(a, j)]) (fr := frC)
 · rfl
 · rfl
 · (with_reducible exact ElC.h)
 · exact Cm
 · exact fun _ => rfl
 · simp only [hgetf]; done
 rotate_left
 · exact A6
 simp only [hgetf, hset, ← ek]
 by_cases h0 : order[k]'jB = 0
 · rw [if_pos h0]
   have E := enter G sb bo bl bp n k g ⟨order, low, part, opn, r ++ [(a, j + 1)], met⟩ qo qc ⟨f1, f2, f3, f4, f5, jC, f7⟩ hk
   dsimp only [srH] at E
   repeat' (first | refine cag Pn (E) ?_ | exact jA | refine AP ?_ | refine two ?_ ?_ | refine imp fun hc => ?_; try exact cx hc | refine all fun v_ => ?_)
   exact rq0 rfl ⟨(_, _), rfl, rfl⟩
 rw [if_neg h0]
 have hget2 : (r ++ [(a, j + 1)])[r.length]'(by simp) = (a, j + 1) := by simp
 by_cases h1 : part[k]'jB < 0
 · rw [if_pos h1]
   unfold TS.lower
   rw [B0 _ _ (by dsimp only; omega), B0 _ _ (by dsimp only; omega)]
   repeat' (first | exact jA | refine AP ?_ | refine two ?_ ?_ | refine imp fun hc => ?_; try exact cx hc | refine all fun v_ => ?_)
   try simp only [hget2]
   repeat' (first | exact jA | refine AP ?_ | refine two ?_ ?_ | refine imp fun hc => ?_; try exact cx hc | refine all fun v_ => ?_)
   try simp only [hget2]
   repeat' (first | exact jA | refine AP ?_ | refine two ?_ ?_ | refine imp fun hc => ?_; try exact cx hc | refine all fun v_ => ?_)
   exact rq0 rfl ⟨(_, _), rfl, rfl⟩
 rw [if_neg h1]
 repeat' (first | exact jA | refine AP ?_ | refine two ?_ ?_ | refine imp fun hc => ?_; try exact cx hc | refine all fun v_ => ?_)
 exact rq0 rfl ⟨(_, _), rfl, rfl⟩
end Go.Proofs.YtnlfhnbcdfdhgaaGreatDoor
