/- A bundle of this claim's own texts: V4 V5. -/
import Derived.Test.YtnlfhnbcdfdhgaaGreatDoorF29
set_option linter.unusedVariables false
set_option linter.unusedSimpArgs false
set_option maxRecDepth 100000
set_option maxHeartbeats 4000000
namespace Go.Av
open Go
section
variable {k : Kx} {Q : Exit → Env → H → Prop} {ρ : Env} {h : H} {ops : Array Oper} {listed : Array Bool} {n f i m d : Nat} {ty : TypeId} {pos : String} {after : Array Edge}
theorem N4 {x : Operand} {ad : Addr} (ho : ops[i]? = some ⟨some d, .nilCheck x, ty, pos, after, none⟩) (hc : FA ops listed ops.size i = true) (hx : evO ρ x = some (.val (.pointer (some ad)))) (hd : Nat.blt d k.n = true)
 (hj : JXP k ops n f (listed.setIfInBounds i true) 0 n Q ((d, .val (.pointer (some ad))) :: ρ) h) : JXP k ops n (f + 1) listed i (m + 1) Q ρ h :=
 ⟨OG ho hc (fun t ht => by cases ht; exact blt hd) (fun _ a _ _ h2 => ⟨.pointer (some ad), (by unfold AV.rel; rfl), .inl ⟨by simp [Region.wanted], fun w _ => by
  have e1 := AL (h2.ev x) (AA hx)
  simp [execOp, e1]⟩⟩) hj.get⟩
theorem Vf {S : TypeId} {x : Operand} {fi b off fo : Nat} (ho : ops[i]? = some ⟨some d, .fieldAddr S x fi, ty, pos, after, none⟩) (hc : FA ops listed ops.size i = true) (hx : evO ρ x = some (.val (.pointer (some ⟨b, off, none⟩)))) (hF : Fld k.P S fi fo) (hd : Nat.blt d k.n = true)
 (hj : JXP k ops n f (listed.setIfInBounds i true) 0 n Q ((d, .val (.pointer (some ⟨b, off + fo, none⟩))) :: ρ) h) : JXP k ops n (f + 1) listed i (m + 1) Q ρ h :=
 ⟨OG ho hc (fun t ht => by cases ht; exact blt hd) (fun _ a w' _ h2 => ⟨.pointer (some ⟨b, off + fo, none⟩), (by unfold AV.rel; rfl), .inl ⟨by simp [Region.wanted], fun w _ => by
  obtain ⟨fs, fd, it, hS, hf, hi, hne, rfl⟩ := hF.get
  have e1 := AL (h2.ev x) (AA hx)
  simp [execOp, e1, Instr.fieldAt, run_underlying hS, hf, Instr.sureAddr, fieldPlace, sizeOf, typeInfo, hi, hne, Addr.add_lit]⟩⟩) hj.get⟩
end
end Go.Av
namespace Go.Proofs.YtnlfhnbcdfdhgaaGreatDoor
open Go Go.Av Go.Sp

theorem NZ : Cal Tryz.prog 103 := Cal.of Tryz.func103 (by kernel_rfl) (by kernel_rfl)
theorem Jf : Cal Tryz.prog 153 := Cal.of Tryz.func153 (by kernel_rfl) (by kernel_rfl)
theorem L8 : Cal Tryz.prog 104 := Cal.of Tryz.func104 (by kernel_rfl) (by kernel_rfl)
def frC (p : Nat × Nat) : List D := [.i .i64 (p.1 : Int), .i .i64 (p.2 : Int)]
abbrev srH (sb bo bl bp n : Nat) (g : Gn) (s : TS) (qo qc : Sl) : H :=
 [.cells sb 180 [.d (AO g.spots), .int g.init, .d (FX g.next), .d (DF g.sets), .int g.many, .val (.slice (some ⟨bo, 0, none⟩) n n), .val (.slice (some ⟨bl, 0, none⟩) n n), .val (.slice (some ⟨bp, 0, none⟩) n n), .val qo.v, .val qc.v, .int s.met],
  .cells bo 3 (s.order.map AV.int), .cells bl 3 (s.low.map AV.int), .cells bp 3 (s.part.map AV.int), AH qo.v 3 1 Nv s.opn, AH qc.v 215 2 frC s.calls]
structure Fit (n : Nat) (s : TS) : Prop where
 size : n ≤ 20000
 lo : s.order.length = n
 ll : s.low.length = n
 lp : s.part.length = n
 opn : s.opn.length ≤ n
 calls : s.calls.length ≤ n
 met : s.met ≤ n
theorem enter (G : List (Nat × List D)) (sb bo bl bp n a : Nat) (g : Gn) (s : TS) (qo qc : Sl) (ft : Fit n s) (ha : a < n) :
 AC Tryz.prog G 103 [.val (.pointer (some ⟨sb, 0, none⟩)), .int a] (srH sb bo bl bp n g s qo qc) fun r h => ∃ y : Sl × Sl, r = .ret (.tup []) ∧ h = srH sb bo bl bp n g (s.enter a) y.1 y.2 := by
 refine Dl (ts := []) Tryz.f103.ntmps Tryz.func103 rfl rfl rfl (by simp [Tryz.ntmps103]) fun W I => ?_
 obtain ⟨f1, f2, f3, f4, f5, f6, f7⟩ := ft
 refine L3 ?_
 refine MB (X := Unit) (fun _ => [(0, .val (.pointer (some ⟨sb, 0, none⟩))), (1, .int a)]) (fun _ => srH sb bo bl bp n g { s with met := s.met + 1 } qo qc) ?_ (fun _ => ?_)
 · repeat' (first
    | exact True.intro | refine AP ?_ | refine two ?_ ?_
    | (refine imp fun hc => ?_) <;> try exact cx hc
    | refine all fun v_ => ?_)
   refine ⟨(), VS.of_le ?_⟩
   exact leD
 refine DH ?_
 refine L3 ?_
 refine MB (X := Unit) (fun _ => [(0, .val (.pointer (some ⟨sb, 0, none⟩))), (1, .int a)]) (fun _ => srH sb bo bl bp n g { s with order := s.order.set a (s.met + 1), low := s.low.set a (s.met + 1), met := s.met + 1 } qo qc) ?_ (fun _ => ?_)
 · refine I6 mixed rfl (by (repeat (with_reducible apply AU)); exact len_nil) (by decide +kernel) ?_
   repeat (first
    | ((with_reducible apply Pb); (focus rfl); (focus (decide +kernel)); (focus rfl); (focus rfl))
    | ((with_reducible apply N4); (focus rfl); (focus (decide +kernel)); (focus rfl); (focus rfl))
    | ((with_reducible apply Vf); (focus rfl); (focus (decide +kernel)); (focus rfl); (focus (with_reducible exact FdC.h)); (focus rfl))
    | with_reducible apply RA)
   refine Ug [(3, 14, _), (8, 19, _), (13, 24, _), (17, 28, _)] [3, 8, 13, 17] [14, 19, 24, 28] (.cons rfl (by exact ER) rfl rfl (.cons rfl (by exact ER) rfl rfl (.cons rfl (by exact ER) rfl rfl (.cons rfl (by exact ER) rfl rfl .nil)))) rfl rfl rfl (by decide +kernel) (by decide) (by decide) ?_
   repeat' (first
    | exact True.intro | refine AP ?_ | refine two ?_ ?_
    | (refine imp fun hc => ?_) <;> try exact cx hc
    | refine all fun v_ => ?_)
   all_goals
    refine ⟨(), VS.of_le ?_⟩
    exact leD
 refine DH ?_
 repeat' (first
  | ((with_reducible apply (BX (f := frC) (u := (a, 0)))); (focus rfl); (focus rfl); (focus (with_reducible exact ElC.h)); (focus exact BS); (iterate 4 focus rfl); (focus exact Af); (focus exact Af))
  | exact True.intro | refine AP ?_ | refine two ?_ ?_
  | (refine imp fun hc => ?_) <;> try exact cx hc
  | refine all fun v_ => ?_)
 exact rq0 rfl ⟨(_, _), rfl, rfl⟩

theorem SJ {α : Type} (r : List α) (p : α) (k : Nat) (hk : k = r.length) (h : k < (r ++ [p]).length) : (r ++ [p])[k] = p := by subst hk; simp
theorem MX {α : Type} (r : List α) (p : α) (h : ((((r ++ [p]).length : Nat) : Int) - 1).toNat < (r ++ [p]).length) : (r ++ [p])[((((r ++ [p]).length : Nat) : Int) - 1).toNat]'h = p :=
 SJ r p _ (by simp) h
theorem leave (G : List (Nat × List D)) (sb bo bl bp n a j : Nat) (g : Gn) (s : TS) (r : List (Nat × Nat)) (qo qc : Sl) (ft : Fit n s) (ha : a < n) (hc : s.calls = r ++ [(a, j)]) (hr : ∀ p ∈ r, p.1 < n) (hop : ∀ v ∈ s.opn, v < n)
 (hmem : a ∈ s.opn) (hix : ∀ (i : Nat) (hi : i < s.opn.length), s.opn[i] = a → i = s.opn.idxOf a) :
 AC Tryz.prog G 153 [.val (.pointer (some ⟨sb, 0, none⟩)), .int a] (srH sb bo bl bp n g s qo qc) fun r h => ∃ y : Sl × Sl, r = .ret (.tup []) ∧ h = srH sb bo bl bp n g (s.leave a) y.1 y.2 := by
 obtain ⟨order, low, part, opn, calls, met⟩ := s
 dsimp only at hc hop hmem hix
 subst hc
 obtain ⟨f1, f2, f3, f4, f5, f6, f7⟩ := ft
 dsimp only at f2 f3 f4 f5 f6 f7
 refine Dl (ts := []) Tryz.f153.ntmps Tryz.func153 rfl rfl rfl (by simp [Tryz.ntmps153]) fun W I => ?_
 have hlr : ((r ++ [(a, j)]).length : Int) = r.length + 1 := by simp
 dsimp only [srH]
 refine L3 ?_
 refine MB (X := Sl) (fun _ => [(0, .val (.pointer (some ⟨sb, 0, none⟩))), (1, .int a)]) (fun y => srH sb bo bl bp n g ⟨order, low, part, opn, r, met⟩ qo y) ?_ (fun qc' => ?_)
 · repeat' (first
    | exact True.intro | refine AP ?_ | refine two ?_ ?_
    | (refine imp fun hc => ?_) <;> try exact cx hc
    | refine all fun v_ => ?_)
   have em : (((r ++ [(a, j)]).length : Int) - 1).toNat = r.length := by omega
   rw [em]
   refine ⟨qc.cut r.length, VS.trans (VS.cut (E := 215) (q := qc) (n := r.length) (f := frC) (xs := r ++ [(a, j)]) (sz := 2) (h' := srH sb bo bl bp n g ⟨order, low, part, opn, r, met⟩ qo (qc.cut r.length)) ?_ (fun _ => rfl) (by simp)) (VS.of_le ?_)⟩
   · rw [List.take_left]
     exact .there (.there (.there (.there (.there .here))))
   · exact leD
 refine DH ?_
 have hopl : 0 < opn.length := List.length_pos_of_mem hmem
 have hixl : opn.idxOf a < opn.length := List.idxOf_lt_length_of_mem hmem
 rcases List.eq_nil_or_concat r with e | ⟨r', p, e⟩
 · subst e
   have eL : (TS.mk order low part opn ([] ++ [(a, j)]) met).low1 a = low := Fv a rfl
   by_cases he : ¬ gi (low) a = gi order a
   · have eS : TS.leave ⟨order, low, part, opn, ([]) ++ [(a, j)], met⟩ a = ⟨order, low, part, opn, [], met⟩ := by
      unfold TS.leave TS.pop
      rw [eL, if_pos he]
      simp
     rw [eS]
     dsimp only [srH]
     rw [CN _ _ (by first | omega | (simp only [List.length_set]; omega)), CN _ _ (by omega)] at he
     repeat' (first
      | exact True.intro | refine AP ?_ | refine two ?_ ?_
      | (refine imp fun hc => ?_) <;> try exact cx hc
      | refine all fun v_ => ?_)
     skip
     exact rq0 rfl ⟨(qo, qc'), rfl, rfl⟩
   replace he := Decidable.not_not.1 he
   have eS : TS.leave ⟨order, low, part, opn, ([]) ++ [(a, j)], met⟩ a = ⟨order, low, A8 part (opn.drop (opn.idxOf a)) (Go.Sp.leastOf a (opn.drop (opn.idxOf a))), opn.take (opn.idxOf a), [], met⟩ := by
    unfold TS.leave TS.pop
    rw [eL, if_neg (by simpa using he)]
    simp
   rw [eS]
   dsimp only [srH]
   rw [CN _ _ (by first | omega | (simp only [List.length_set]; omega)), CN _ _ (by omega)] at he
   repeat' (first
    | exact True.intro | refine AP ?_ | refine two ?_ ?_
    | (refine imp fun hc => ?_) <;> try exact cx hc
    | refine all fun v_ => ?_)
   skip
   refine AM (X := Nat) (fun i => [(0, .val (.pointer (some ⟨sb, 0, none⟩))), (1, .int a), (5, .int i)]) (fun _ => srH sb bo bl bp n g ⟨order, low, part, opn, [], met⟩ qo qc') (fun i => opn.idxOf a ≤ i ∧ i < opn.length) (fun i => i) (opn.length - 1) ⟨by omega, by omega⟩ (VS.of_le ?_) ?_
   · exact leD
   rintro i ⟨i1, i2⟩
   by_cases hi : ¬ opn[i] = a
   · have hne : i ≠ opn.idxOf a := fun e => hi (by subst e; exact List.getElem_idxOf i2)
     have hi' : ¬ (opn[i] : Int) = a := by omega
     repeat' (first
      | exact True.intro | refine AP ?_ | refine two ?_ ?_
      | (refine imp fun hc => ?_) <;> try exact cx hc
      | refine all fun v_ => ?_)
     refine ⟨i - 1, ⟨by omega, by omega⟩, by omega, VS.of_le ?_⟩
     exact leD
   replace hi := Decidable.not_not.1 hi
   have hi' : (opn[i] : Int) = a := by omega
   have ei := hix i i2 hi
   have hdl : (opn.drop i).length = opn.length - i := List.length_drop
   have hCk : ∀ (k : Nat) (hk : i + k < opn.length), (opn.drop i).take (k + 1) = (opn.drop i).take k ++ [opn[i + k]] := fun k hk => by
    rw [List.take_succ_eq_append_getElem (by omega)]; simp
   rw [← ei]
   repeat' (first
    | exact True.intro | refine AP ?_ | refine two ?_ ?_
    | (refine imp fun hc => ?_) <;> try exact cx hc
    | refine all fun v_ => ?_)
   refine AM (X := Nat) (fun k => [(0, .val (.pointer (some ⟨sb, 0, none⟩))), (5, .int i), (6, .int (Go.Sp.leastOf a ((opn.drop i).take k))), (103, .val (qo.sub i 1).v), (104, .int (opn.length - i : Nat)), (105, .int k)]) (fun _ => srH sb bo bl bp n g ⟨order, low, part, opn, [], met⟩ qo qc') (fun k => k ≤ opn.length - i) (fun k => opn.length - i - k) 0 (Nat.zero_le _) (VS.of_le ?_) ?_
   · exact leD
   rintro k hk
   by_cases hkl : k < opn.length - i
   · have e6 : Go.Sp.leastOf a ((opn.drop i).take (k + 1)) = min (Go.Sp.leastOf a ((opn.drop i).take k)) (opn[i + k]'(by omega)) := by
      rw [hCk k (by omega)]; simp [Go.Sp.leastOf, List.foldl_append]
     repeat' (first
      | exact True.intro | refine AP ?_ | refine two ?_ ?_
      | (refine imp fun hc => ?_) <;> try exact cx hc
      | refine all fun v_ => ?_)
     refine ⟨k + 1, by omega, by omega, VS.of_le ?_⟩
     rw [e6]
     exact leD
   have ek : (opn.drop i).take k = opn.drop i := List.take_of_length_le (by omega)
   rw [ek]
   repeat' (first
    | exact True.intro | refine AP ?_ | refine two ?_ ?_
    | (refine imp fun hc => ?_) <;> try exact cx hc
    | refine all fun v_ => ?_)
   refine AM (X := Nat) (fun k => [(0, .val (.pointer (some ⟨sb, 0, none⟩))), (5, .int i), (6, .int (Go.Sp.leastOf a (opn.drop i))), (118, .val (qo.sub i 1).v), (119, .int (opn.length - i : Nat)), (120, .int k)]) (fun k => srH sb bo bl bp n g ⟨order, low, A8 part ((opn.drop i).take k) (Go.Sp.leastOf a (opn.drop i)), opn, [], met⟩ qo qc') (fun k => k ≤ opn.length - i) (fun k => opn.length - i - k) 0 (Nat.zero_le _) (VS.of_le ?_) ?_
   · exact leD
   rintro k' hk'
   have hsl := DQ (Go.Sp.leastOf a (opn.drop i)) ((opn.drop i).take k') part
   by_cases hkl' : k' < opn.length - i
   · have hlt := hop (opn[i + k']'(by omega)) (List.getElem_mem _)
     have e7 : A8 part ((opn.drop i).take (k' + 1)) (Go.Sp.leastOf a (opn.drop i)) = (A8 part ((opn.drop i).take k') (Go.Sp.leastOf a (opn.drop i))).set (opn[i + k']'(by omega)) (Go.Sp.leastOf a (opn.drop i)) := by
      rw [hCk k' (by omega)]; simp [A8, List.foldl_append]
     repeat' (first
      | exact True.intro | refine AP ?_ | refine two ?_ ?_
      | (refine imp fun hc => ?_) <;> try exact cx hc
      | refine all fun v_ => ?_)
     refine ⟨k' + 1, by omega, by omega, ?_⟩
     rw [e7]
     refine VS.of_le ?_
     exact leD
   have ek' : (opn.drop i).take k' = opn.drop i := List.take_of_length_le (by omega)
   rw [ek']
   repeat' (first
    | exact True.intro | refine AP ?_ | refine two ?_ ?_
    | (refine imp fun hc => ?_) <;> try exact cx hc
    | refine all fun v_ => ?_)
   exact rq0 rfl ⟨(v_, qc'), rfl, rfl⟩
 · rw [List.concat_eq_append] at e
   subst e
   obtain ⟨u, ju⟩ := p
   have hu : u < n := hr (u, ju) (by simp)
   have hlr' : ((r' ++ [(u, ju)]).length : Int) = r'.length + 1 := by simp
   have eL : (TS.mk order low part opn ((r' ++ [(u, ju)]) ++ [(a, j)]) met).low1 a = low.set u (min (low[u]'(by omega)) (low[a]'(by omega))) := by
    rw [JW (p := (u, ju)) a (by simp)]
    dsimp only
    rw [CN _ _ (by omega), CN _ _ (by omega)]
   by_cases he : ¬ gi (low.set u (min (low[u]'(by omega)) (low[a]'(by omega)))) a = gi order a
   · have eS : TS.leave ⟨order, low, part, opn, (r' ++ [(u, ju)]) ++ [(a, j)], met⟩ a = ⟨order, low.set u (min (low[u]'(by omega)) (low[a]'(by omega))), part, opn, r' ++ [(u, ju)], met⟩ := by
      unfold TS.leave TS.pop
      rw [eL, if_pos he]
      simp
     rw [eS]
     dsimp only [srH]
     rw [CN _ _ (by first | omega | (simp only [List.length_set]; omega)), CN _ _ (by omega)] at he
     repeat' (first
      | exact True.intro | refine AP ?_ | refine two ?_ ?_
      | (refine imp fun hc => ?_) <;> try exact cx hc
      | refine all fun v_ => ?_)
     simp only [MX]
     repeat' (first
      | exact True.intro | refine AP ?_ | refine two ?_ ?_
      | (refine imp fun hc => ?_) <;> try exact cx hc
      | refine all fun v_ => ?_)
     exact rq0 rfl ⟨(qo, qc'), rfl, rfl⟩
   replace he := Decidable.not_not.1 he
   have eS : TS.leave ⟨order, low, part, opn, (r' ++ [(u, ju)]) ++ [(a, j)], met⟩ a = ⟨order, low.set u (min (low[u]'(by omega)) (low[a]'(by omega))), A8 part (opn.drop (opn.idxOf a)) (Go.Sp.leastOf a (opn.drop (opn.idxOf a))), opn.take (opn.idxOf a), r' ++ [(u, ju)], met⟩ := by
    unfold TS.leave TS.pop
    rw [eL, if_neg (by simpa using he)]
    simp
   rw [eS]
   dsimp only [srH]
   rw [CN _ _ (by first | omega | (simp only [List.length_set]; omega)), CN _ _ (by omega)] at he
   repeat' (first
    | exact True.intro | refine AP ?_ | refine two ?_ ?_
    | (refine imp fun hc => ?_) <;> try exact cx hc
    | refine all fun v_ => ?_)
   simp only [MX]
   repeat' (first
    | exact True.intro | refine AP ?_ | refine two ?_ ?_
    | (refine imp fun hc => ?_) <;> try exact cx hc
    | refine all fun v_ => ?_)
   refine AM (X := Nat) (fun i => [(0, .val (.pointer (some ⟨sb, 0, none⟩))), (1, .int a), (5, .int i)]) (fun _ => srH sb bo bl bp n g ⟨order, low.set u (min (low[u]'(by omega)) (low[a]'(by omega))), part, opn, r' ++ [(u, ju)], met⟩ qo qc') (fun i => opn.idxOf a ≤ i ∧ i < opn.length) (fun i => i) (opn.length - 1) ⟨by omega, by omega⟩ (VS.of_le ?_) ?_
   · exact leD
   rintro i ⟨i1, i2⟩
   by_cases hi : ¬ opn[i] = a
   · have hne : i ≠ opn.idxOf a := fun e => hi (by subst e; exact List.getElem_idxOf i2)
     have hi' : ¬ (opn[i] : Int) = a := by omega
     repeat' (first
      | exact True.intro | refine AP ?_ | refine two ?_ ?_
      | (refine imp fun hc => ?_) <;> try exact cx hc
      | refine all fun v_ => ?_)
     refine ⟨i - 1, ⟨by omega, by omega⟩, by omega, VS.of_le ?_⟩
     exact leD
   replace hi := Decidable.not_not.1 hi
   have hi' : (opn[i] : Int) = a := by omega
   have ei := hix i i2 hi
   have hdl : (opn.drop i).length = opn.length - i := List.length_drop
   have hCk : ∀ (k : Nat) (hk : i + k < opn.length), (opn.drop i).take (k + 1) = (opn.drop i).take k ++ [opn[i + k]] := fun k hk => by
    rw [List.take_succ_eq_append_getElem (by omega)]; simp
   rw [← ei]
   repeat' (first
    | exact True.intro | refine AP ?_ | refine two ?_ ?_
    | (refine imp fun hc => ?_) <;> try exact cx hc
    | refine all fun v_ => ?_)
   refine AM (X := Nat) (fun k => [(0, .val (.pointer (some ⟨sb, 0, none⟩))), (5, .int i), (6, .int (Go.Sp.leastOf a ((opn.drop i).take k))), (103, .val (qo.sub i 1).v), (104, .int (opn.length - i : Nat)), (105, .int k)]) (fun _ => srH sb bo bl bp n g ⟨order, low.set u (min (low[u]'(by omega)) (low[a]'(by omega))), part, opn, r' ++ [(u, ju)], met⟩ qo qc') (fun k => k ≤ opn.length - i) (fun k => opn.length - i - k) 0 (Nat.zero_le _) (VS.of_le ?_) ?_
   · exact leD
   rintro k hk
   by_cases hkl : k < opn.length - i
   · have e6 : Go.Sp.leastOf a ((opn.drop i).take (k + 1)) = min (Go.Sp.leastOf a ((opn.drop i).take k)) (opn[i + k]'(by omega)) := by
      rw [hCk k (by omega)]; simp [Go.Sp.leastOf, List.foldl_append]
     repeat' (first
      | exact True.intro | refine AP ?_ | refine two ?_ ?_
      | (refine imp fun hc => ?_) <;> try exact cx hc
      | refine all fun v_ => ?_)
     refine ⟨k + 1, by omega, by omega, VS.of_le ?_⟩
     rw [e6]
     exact leD
   have ek : (opn.drop i).take k = opn.drop i := List.take_of_length_le (by omega)
   rw [ek]
   repeat' (first
    | exact True.intro | refine AP ?_ | refine two ?_ ?_
    | (refine imp fun hc => ?_) <;> try exact cx hc
    | refine all fun v_ => ?_)
   refine AM (X := Nat) (fun k => [(0, .val (.pointer (some ⟨sb, 0, none⟩))), (5, .int i), (6, .int (Go.Sp.leastOf a (opn.drop i))), (118, .val (qo.sub i 1).v), (119, .int (opn.length - i : Nat)), (120, .int k)]) (fun k => srH sb bo bl bp n g ⟨order, low.set u (min (low[u]'(by omega)) (low[a]'(by omega))), A8 part ((opn.drop i).take k) (Go.Sp.leastOf a (opn.drop i)), opn, r' ++ [(u, ju)], met⟩ qo qc') (fun k => k ≤ opn.length - i) (fun k => opn.length - i - k) 0 (Nat.zero_le _) (VS.of_le ?_) ?_
   · exact leD
   rintro k' hk'
   have hsl := DQ (Go.Sp.leastOf a (opn.drop i)) ((opn.drop i).take k') part
   by_cases hkl' : k' < opn.length - i
   · have hlt := hop (opn[i + k']'(by omega)) (List.getElem_mem _)
     have e7 : A8 part ((opn.drop i).take (k' + 1)) (Go.Sp.leastOf a (opn.drop i)) = (A8 part ((opn.drop i).take k') (Go.Sp.leastOf a (opn.drop i))).set (opn[i + k']'(by omega)) (Go.Sp.leastOf a (opn.drop i)) := by
      rw [hCk k' (by omega)]; simp [A8, List.foldl_append]
     repeat' (first
      | exact True.intro | refine AP ?_ | refine two ?_ ?_
      | (refine imp fun hc => ?_) <;> try exact cx hc
      | refine all fun v_ => ?_)
     refine ⟨k' + 1, by omega, by omega, ?_⟩
     rw [e7]
     refine VS.of_le ?_
     exact leD
   have ek' : (opn.drop i).take k' = opn.drop i := List.take_of_length_le (by omega)
   rw [ek']
   repeat' (first
    | exact True.intro | refine AP ?_ | refine two ?_ ?_
    | (refine imp fun hc => ?_) <;> try exact cx hc
    | refine all fun v_ => ?_)
   exact rq0 rfl ⟨(v_, qc'), rfl, rfl⟩
end Go.Proofs.YtnlfhnbcdfdhgaaGreatDoor
