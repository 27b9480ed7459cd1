/- A bundle of this claim's own texts: V6. -/
import Derived.Test.YtajnpfgelpkijaaGreatDoorA29
set_option linter.unusedVariables false
set_option linter.unusedSimpArgs false
set_option maxRecDepth 100000
set_option maxHeartbeats 4000000
namespace Go.Proofs.YtajnpfgelpkijaaGreatDoor
open Go Go.Av Go.Sp

theorem iB (G : List (Nat × List D)) (sb bo bl bp n a j : Nat) (g : Gn) (s : TS) (r : List (Nat × Nat)) (qo qc : Sl) (ft : Fit n s) (hok : g.ok) (hn : g.spots.length = n) (t : BV g.nx n none s) (hc : s.calls = r ++ [(a, j)]) :
 AC Tryz.prog G 108 [.val (.pointer (some ⟨sb, 0, none⟩))] (srH sb bo bl bp n g s qo qc) fun rr h => ∃ y : Sl × Sl, rr = .ret (.tup []) ∧ h = srH sb bo bl bp n g (s.go g.nx) y.1 y.2 := by
 have hlast : s.calls.getLast? = some (a, j) := by rw [hc]; simp
 have hF : ∀ p ∈ s.calls, p.1 < n := fun p hp => t.lt ((t.mem p.1).1 (t.fin p.1 (List.mem_map.2 ⟨p, hp, rfl⟩))).1
 have ha : a < n := hF (a, j) (by rw [hc]; simp)
 have hr : ∀ p ∈ r, p.1 < n := fun p hp => hF p (by rw [hc]; simp [hp])
 have hop : ∀ v ∈ s.opn, v < n := fun v hv => t.lt ((t.mem v).1 hv).1
 have hmem : a ∈ s.opn := t.fin a (List.mem_map.2 ⟨(a, j), by rw [hc]; simp, rfl⟩)
 have hix : ∀ (i : Nat) (hi : i < s.opn.length), s.opn[i] = a → i = s.opn.idxOf a := fun i hi e => t.idx i hi e
 have L := leave G sb bo bl bp n a j g s r qo qc ft ha hc hr hop hmem hix
 have hnl := hok.next
 have hjl : j ≤ (g.nx a).length := t.fj (a, j) (by rw [hc]; simp)
 obtain ⟨order, low, part, opn, calls, met⟩ := s
 dsimp only at hc hop hmem hix
 subst hc
 obtain ⟨f1, f2, f3, f4, f5, f6, f7⟩ := ft
 dsimp only at f2 f3 f4 f5 f6 f7
 refine Dd (ts := []) Tryz.f108.ntmps Tryz.func108 rfl rfl rfl (by simp [Tryz.ntmps108]) fun W I => ?_
 have hlr : ((r ++ [(a, j)]).length : Int) = r.length + 1 := by simp
 have enx : g.nx a = g.next[a]'(by omega) := g.nx_get a (by omega)
 have enl : (g.nx a).length = (g.next[a]'(by omega)).length := by rw [enx]
 dsimp only [srH]
 refine FF ?_
 refine Mc (X := Unit) (fun _ => [(0, .val (.pointer (some ⟨sb, 0, none⟩))), (2, .val (.pointer (some (qc.at (r.length * 2)))))]) (fun _ => srH sb bo bl bp n g ⟨order, low, part, opn, r ++ [(a, j)], met⟩ qo qc) ?_ (fun _ => ?_)
 · repeat' (first
    | exact True.intro | refine AM ?_ | refine two ?_ ?_
    | (refine imp fun hc => ?_) <;> try exact cx hc
    | refine all fun v_ => ?_)
   have em : (((r ++ [(a, j)]).length : Int) - 1).toNat = r.length := by omega
   rw [em]
   refine ⟨(), VS.of_le ?_⟩
   exact leD
 refine Cw ?_
 dsimp only [srH]
 have hgetf : (r ++ [(a, j)])[r.length]'(by simp) = (a, j) := by simp
 by_cases hj : ¬ j < (g.nx a).length
 · have eS : TS.go g.nx ⟨order, low, part, opn, r ++ [(a, j)], met⟩ = TS.leave ⟨order, low, part, opn, r ++ [(a, j)], met⟩ a := by
    unfold TS.go; simp [hlast, hj]
   rw [eS]
   dsimp only [srH] at L
   repeat' (first
    | refine cag Jn (L) ?_
    | exact True.intro | refine AM ?_ | refine two ?_ ?_
    | (refine imp fun hc => ?_) <;> try exact cx hc
    | refine all fun v_ => ?_)
   try simp only [hgetf]
   repeat' (first
    | refine cag Jn (L) ?_
    | exact True.intro | refine AM ?_ | refine two ?_ ?_
    | (refine imp fun hc => ?_) <;> try exact cx hc
    | refine all fun v_ => ?_)
   try simp only [hgetf]
   repeat' (first
    | refine cag Jn (L) ?_
    | exact True.intro | refine AM ?_ | refine two ?_ ?_
    | (refine imp fun hc => ?_) <;> try exact cx hc
    | refine all fun v_ => ?_)
   exact rq0 rfl ⟨(_, _), rfl, rfl⟩
 replace hj := Decidable.not_not.1 hj
 have hk : (g.nx a)[j] < n := by rw [← hn]; exact Gn.nx_lt hok a _ (List.getElem_mem _)
 have ek : (g.nx a)[j] = (g.next[a]'(by omega))[j]'(by omega) := by simp only [enx]
 generalize hkk : (g.nx a)[j] = k at hk ek
 have hset : ∀ x : Nat × Nat, (r ++ [(a, j)]).set r.length x = r ++ [x] := fun x => by simp
 have hgo : ∀ (k1 : k < order.length) (k2 : k < part.length), TS.go g.nx ⟨order, low, part, opn, r ++ [(a, j)], met⟩ = if order[k] = 0 then TS.enter ⟨order, low, part, opn, r ++ [(a, j + 1)], met⟩ k else if part[k] < 0 then TS.lower ⟨order, low, part, opn, r ++ [(a, j + 1)], met⟩ a k else ⟨order, low, part, opn, r ++ [(a, j + 1)], met⟩ := fun k1 k2 => by
  unfold TS.go
  simp only [hlast]
  rw [dif_pos hj]
  simp only [hkk, CM _ _ k1, CM _ _ k2, TS.next, List.dropLast_concat]
 have hlr2 : ((r ++ [(a, j + 1)]).length : Int) = r.length + 1 := by simp
 rw [hgo (by omega) (by omega)]
 repeat' (first
  | exact True.intro | refine AM ?_ | refine two ?_ ?_
  | (refine imp fun hc => ?_) <;> try exact cx hc
  | refine all fun v_ => ?_)
 simp only [hgetf]
 repeat' (first
  | exact True.intro | refine AM ?_ | refine two ?_ ?_
  | (refine imp fun hc => ?_) <;> try exact cx hc
  | refine all fun v_ => ?_)
 simp only [hgetf]
 repeat' (first
  | exact True.intro | refine AM ?_ | refine two ?_ ?_
  | (refine imp fun hc => ?_) <;> try exact cx hc
  | refine all fun v_ => ?_)
 simp only [hgetf, ← ek]
 repeat' (first
  | exact True.intro | refine AM ?_ | refine two ?_ ?_
  | (refine imp fun hc => ?_) <;> try exact cx hc
  | refine all fun v_ => ?_)
 try simp only [hgetf]
 refine fD (t := 48) (xs := g.next[a]'(by omega)) (f := Po) (sz := 1) (eb := 8) rfl fun hlen => ?_
 repeat' (first
  | exact True.intro | refine AM ?_ | refine two ?_ ?_
  | (refine imp fun hc => ?_) <;> try exact cx hc
  | refine all fun v_ => ?_)
 apply ZO (q := qc) (j := r.length) (xs := r ++ [(a, j)]) (fr := frC)
 · rfl
 · rfl
 · (with_reducible exact ElC.h)
 · exact B6
 · exact fun _ => rfl
 · simp only [hgetf]; done
 rotate_left
 · exact Ad
 simp only [hgetf, hset, ← ek]
 by_cases h0 : order[k]'(by omega) = 0
 · rw [if_pos h0]
   have E := enter G sb bo bl bp n k g ⟨order, low, part, opn, r ++ [(a, j + 1)], met⟩ qo qc ⟨f1, f2, f3, f4, f5, by dsimp only; omega, f7⟩ hk
   dsimp only [srH] at E
   repeat' (first
    | refine cag NY (E) ?_
    | exact True.intro | refine AM ?_ | refine two ?_ ?_
    | (refine imp fun hc => ?_) <;> try exact cx hc
    | refine all fun v_ => ?_)
   exact rq0 rfl ⟨(_, _), rfl, rfl⟩
 rw [if_neg h0]
 have hget2 : (r ++ [(a, j + 1)])[r.length]'(by simp) = (a, j + 1) := by simp
 by_cases h1 : part[k]'(by omega) < 0
 · rw [if_pos h1]
   unfold TS.lower
   rw [CM _ _ (by dsimp only; omega), CM _ _ (by dsimp only; omega)]
   repeat' (first
    | exact True.intro | refine AM ?_ | refine two ?_ ?_
    | (refine imp fun hc => ?_) <;> try exact cx hc
    | refine all fun v_ => ?_)
   try simp only [hget2]
   repeat' (first
    | exact True.intro | refine AM ?_ | refine two ?_ ?_
    | (refine imp fun hc => ?_) <;> try exact cx hc
    | refine all fun v_ => ?_)
   try simp only [hget2]
   repeat' (first
    | exact True.intro | refine AM ?_ | refine two ?_ ?_
    | (refine imp fun hc => ?_) <;> try exact cx hc
    | refine all fun v_ => ?_)
   exact rq0 rfl ⟨(_, _), rfl, rfl⟩
 rw [if_neg h1]
 repeat' (first
  | exact True.intro | refine AM ?_ | refine two ?_ ?_
  | (refine imp fun hc => ?_) <;> try exact cx hc
  | refine all fun v_ => ?_)
 exact rq0 rfl ⟨(_, _), rfl, rfl⟩
end Go.Proofs.YtajnpfgelpkijaaGreatDoor
