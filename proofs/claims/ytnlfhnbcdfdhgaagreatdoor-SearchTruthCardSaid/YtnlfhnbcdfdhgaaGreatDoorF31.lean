/- A bundle of this claim's own texts: V6 V7. -/
import Derived.Test.YtnlfhnbcdfdhgaaGreatDoorF30
set_option linter.unusedVariables false
set_option linter.unusedSimpArgs false
set_option maxRecDepth 100000
set_option maxHeartbeats 4000000
namespace Go.Proofs.YtnlfhnbcdfdhgaaGreatDoor
open Go Go.Av Go.Sp

theorem Gu (G : List (Nat × List D)) (sb bo bl bp n a j : Nat) (g : Gn) (s : TS) (r : List (Nat × Nat)) (qo qc : Sl) (ft : Fit n s) (hok : g.ok) (hn : g.spots.length = n) (t : BY g.nx n none s) (hc : s.calls = r ++ [(a, j)]) :
 AC Tryz.prog G 104 [.val (.pointer (some ⟨sb, 0, none⟩))] (srH sb bo bl bp n g s qo qc) fun rr h => ∃ y : Sl × Sl, rr = .ret (.tup []) ∧ h = srH sb bo bl bp n g (s.go g.nx) y.1 y.2 := by
 have hlast : s.calls.getLast? = some (a, j) := by rw [hc]; simp
 have hF : ∀ p ∈ s.calls, p.1 < n := fun p hp => t.lt ((t.mem p.1).1 (t.fin p.1 (List.mem_map.2 ⟨p, hp, rfl⟩))).1
 have ha : a < n := hF (a, j) (by rw [hc]; simp)
 have hr : ∀ p ∈ r, p.1 < n := fun p hp => hF p (by rw [hc]; simp [hp])
 have hop : ∀ v ∈ s.opn, v < n := fun v hv => t.lt ((t.mem v).1 hv).1
 have hmem : a ∈ s.opn := t.fin a (List.mem_map.2 ⟨(a, j), by rw [hc]; simp, rfl⟩)
 have hix : ∀ (i : Nat) (hi : i < s.opn.length), s.opn[i] = a → i = s.opn.idxOf a := fun i hi e => t.idx i hi e
 have L := leave G sb bo bl bp n a j g s r qo qc ft ha hc hr hop hmem hix
 have hnl := hok.next
 have hjl : j ≤ (g.nx a).length := t.fj (a, j) (by rw [hc]; simp)
 obtain ⟨order, low, part, opn, calls, met⟩ := s
 dsimp only at hc hop hmem hix
 subst hc
 obtain ⟨f1, f2, f3, f4, f5, f6, f7⟩ := ft
 dsimp only at f2 f3 f4 f5 f6 f7
 refine Dl (ts := []) Tryz.f104.ntmps Tryz.func104 rfl rfl rfl (by simp [Tryz.ntmps104]) fun W I => ?_
 have hlr : ((r ++ [(a, j)]).length : Int) = r.length + 1 := by simp
 have enx : g.nx a = g.next[a]'(by omega) := g.nx_get a (by omega)
 have enl : (g.nx a).length = (g.next[a]'(by omega)).length := by rw [enx]
 dsimp only [srH]
 refine L3 ?_
 refine MB (X := Unit) (fun _ => [(0, .val (.pointer (some ⟨sb, 0, none⟩))), (2, .val (.pointer (some (qc.at (r.length * 2)))))]) (fun _ => srH sb bo bl bp n g ⟨order, low, part, opn, r ++ [(a, j)], met⟩ qo qc) ?_ (fun _ => ?_)
 · repeat' (first
    | exact True.intro | refine AP ?_ | refine two ?_ ?_
    | (refine imp fun hc => ?_) <;> try exact cx hc
    | refine all fun v_ => ?_)
   have em : (((r ++ [(a, j)]).length : Int) - 1).toNat = r.length := by omega
   rw [em]
   refine ⟨(), VS.of_le ?_⟩
   exact leD
 refine DH ?_
 dsimp only [srH]
 have hgetf : (r ++ [(a, j)])[r.length]'(by simp) = (a, j) := by simp
 by_cases hj : ¬ j < (g.nx a).length
 · have eS : TS.go g.nx ⟨order, low, part, opn, r ++ [(a, j)], met⟩ = TS.leave ⟨order, low, part, opn, r ++ [(a, j)], met⟩ a := by
    unfold TS.go; simp [hlast, hj]
   rw [eS]
   dsimp only [srH] at L
   repeat' (first
    | refine cag Jf (L) ?_
    | exact True.intro | refine AP ?_ | refine two ?_ ?_
    | (refine imp fun hc => ?_) <;> try exact cx hc
    | refine all fun v_ => ?_)
   try simp only [hgetf]
   repeat' (first
    | refine cag Jf (L) ?_
    | exact True.intro | refine AP ?_ | refine two ?_ ?_
    | (refine imp fun hc => ?_) <;> try exact cx hc
    | refine all fun v_ => ?_)
   try simp only [hgetf]
   repeat' (first
    | refine cag Jf (L) ?_
    | exact True.intro | refine AP ?_ | refine two ?_ ?_
    | (refine imp fun hc => ?_) <;> try exact cx hc
    | refine all fun v_ => ?_)
   exact rq0 rfl ⟨(_, _), rfl, rfl⟩
 replace hj := Decidable.not_not.1 hj
 have hk : (g.nx a)[j] < n := by rw [← hn]; exact Gn.nx_lt hok a _ (List.getElem_mem _)
 have ek : (g.nx a)[j] = (g.next[a]'(by omega))[j]'(by omega) := by simp only [enx]
 generalize hkk : (g.nx a)[j] = k at hk ek
 have hset : ∀ x : Nat × Nat, (r ++ [(a, j)]).set r.length x = r ++ [x] := fun x => by simp
 have hgo : ∀ (k1 : k < order.length) (k2 : k < part.length), TS.go g.nx ⟨order, low, part, opn, r ++ [(a, j)], met⟩ = if order[k] = 0 then TS.enter ⟨order, low, part, opn, r ++ [(a, j + 1)], met⟩ k else if part[k] < 0 then TS.lower ⟨order, low, part, opn, r ++ [(a, j + 1)], met⟩ a k else ⟨order, low, part, opn, r ++ [(a, j + 1)], met⟩ := fun k1 k2 => by
  unfold TS.go
  simp only [hlast]
  rw [dif_pos hj]
  simp only [hkk, CN _ _ k1, CN _ _ k2, TS.next, List.dropLast_concat]
 have hlr2 : ((r ++ [(a, j + 1)]).length : Int) = r.length + 1 := by simp
 rw [hgo (by omega) (by omega)]
 repeat' (first
  | exact True.intro | refine AP ?_ | refine two ?_ ?_
  | (refine imp fun hc => ?_) <;> try exact cx hc
  | refine all fun v_ => ?_)
 simp only [hgetf]
 repeat' (first
  | exact True.intro | refine AP ?_ | refine two ?_ ?_
  | (refine imp fun hc => ?_) <;> try exact cx hc
  | refine all fun v_ => ?_)
 simp only [hgetf]
 repeat' (first
  | exact True.intro | refine AP ?_ | refine two ?_ ?_
  | (refine imp fun hc => ?_) <;> try exact cx hc
  | refine all fun v_ => ?_)
 simp only [hgetf, ← ek]
 repeat' (first
  | exact True.intro | refine AP ?_ | refine two ?_ ?_
  | (refine imp fun hc => ?_) <;> try exact cx hc
  | refine all fun v_ => ?_)
 try simp only [hgetf]
 refine cp (t := 48) (xs := g.next[a]'(by omega)) (f := Nv) (sz := 1) (eb := 8) rfl fun hlen => ?_
 repeat' (first
  | exact True.intro | refine AP ?_ | refine two ?_ ?_
  | (refine imp fun hc => ?_) <;> try exact cx hc
  | refine all fun v_ => ?_)
 apply XY (q := qc) (j := r.length) (xs := r ++ [(a, j)]) (fr := frC)
 · rfl
 · rfl
 · (with_reducible exact ElC.h)
 · exact CI
 · exact fun _ => rfl
 · simp only [hgetf]; done
 rotate_left
 · exact Af
 simp only [hgetf, hset, ← ek]
 by_cases h0 : order[k]'(by omega) = 0
 · rw [if_pos h0]
   have E := enter G sb bo bl bp n k g ⟨order, low, part, opn, r ++ [(a, j + 1)], met⟩ qo qc ⟨f1, f2, f3, f4, f5, by dsimp only; omega, f7⟩ hk
   dsimp only [srH] at E
   repeat' (first
    | refine cag NZ (E) ?_
    | exact True.intro | refine AP ?_ | refine two ?_ ?_
    | (refine imp fun hc => ?_) <;> try exact cx hc
    | refine all fun v_ => ?_)
   exact rq0 rfl ⟨(_, _), rfl, rfl⟩
 rw [if_neg h0]
 have hget2 : (r ++ [(a, j + 1)])[r.length]'(by simp) = (a, j + 1) := by simp
 by_cases h1 : part[k]'(by omega) < 0
 · rw [if_pos h1]
   unfold TS.lower
   rw [CN _ _ (by dsimp only; omega), CN _ _ (by dsimp only; omega)]
   repeat' (first
    | exact True.intro | refine AP ?_ | refine two ?_ ?_
    | (refine imp fun hc => ?_) <;> try exact cx hc
    | refine all fun v_ => ?_)
   try simp only [hget2]
   repeat' (first
    | exact True.intro | refine AP ?_ | refine two ?_ ?_
    | (refine imp fun hc => ?_) <;> try exact cx hc
    | refine all fun v_ => ?_)
   try simp only [hget2]
   repeat' (first
    | exact True.intro | refine AP ?_ | refine two ?_ ?_
    | (refine imp fun hc => ?_) <;> try exact cx hc
    | refine all fun v_ => ?_)
   exact rq0 rfl ⟨(_, _), rfl, rfl⟩
 rw [if_neg h1]
 repeat' (first
  | exact True.intro | refine AP ?_ | refine two ?_ ?_
  | (refine imp fun hc => ?_) <;> try exact cx hc
  | refine all fun v_ => ?_)
 exact rq0 rfl ⟨(_, _), rfl, rfl⟩

theorem Ks : Cal Tryz.prog 58 := Cal.of Tryz.func58 (by kernel_rfl) (by kernel_rfl)
noncomputable def partsOf (g : Gr) : List Int × Int := open Classical in if okG g then (Fh (Yj g), 0) else ([], 9)
theorem Kn {g : Gn} (h : g.ok) : partsOf g.gr = (Fh g, 0) := by rw [partsOf, if_pos (Gn.ok_gr h), PB h]
theorem Ds {g : Gr} (h : ¬ okG g) : partsOf g = ([], 9) := by rw [partsOf, if_neg h]
theorem BY.fit {nx : Nat → List Nat} {n : Nat} {s : TS} (t : BY nx n none s) (hs : n ≤ 20000) (hm : s.met + s.un n ≤ n) : Fit n s :=
 ⟨hs, t.lo, t.ll, t.lp, t.opn_len, t.calls_len, by omega⟩
theorem UN {nx : Nat → List Nat} {n : Nat} {s : TS} (hc : 0 < s.calls.length) : ∃ r a j, s.calls = r ++ [(a, j)] := by
 rcases List.eq_nil_or_concat s.calls with e | ⟨r, p, e⟩
 · rw [e] at hc; simp at hc
 · exact ⟨r, p.1, p.2, by rw [List.concat_eq_append] at e; exact e⟩
theorem dK (G : List (Nat × List D)) (g : Gr) : ACr Tryz.prog G 58 [grA g] (.tup [.d (AK (partsOf g).1), .int (partsOf g).2]) := by
 refine AJ (ts := [2, 3]) Tryz.f58.ntmps Tryz.func58 rfl rfl rfl (by simp [Tryz.ntmps58]) fun W I => ?_
 have E := ZK G g
 by_cases hk : ¬ okG g
 · have e : Jz g = 9 := if_neg hk
   rw [e] at E
   repeat' (first
    | refine ca GH (E) ?_
    | exact True.intro | refine AG ?_ | refine two ?_ ?_ | refine AF fun c_ => ?_
    | (refine imp fun hc => ?_) <;> try exact cx1 hc
    | refine all fun v_ => ?_)
   refine AN (VS.trans (VS.drop (List.nil_sublist _)) (EZ (t := 2) 1 8 rfl)) ?_
   ((with_reducible apply rq2); rfl; rfl; rfl)
   exact AB (by rw [Ds hk]; rfl)
 obtain ⟨g, rfl, hok⟩ := JU (Decidable.not_not.1 hk)
 rw [JV (Gn.ok_gr hok)] at E
 rw [Sk] at E ⊢
 clear hk
 have hs := hok.size
 have hi0 := hok.init
 have hnl := hok.next
 have hto : ∀ i, ∀ k ∈ g.nx i, k < g.spots.length := fun i k hk => Gn.nx_lt hok i k hk
 repeat' (first
  | refine ca GH (E) ?_
  | exact True.intro | refine Hz ?_ | refine two ?_ ?_ | refine AF fun c_ => ?_
  | (refine imp fun hc => ?_) <;> try exact cx hc
  | refine all fun v_ => ?_)
 refine ⟨?_⟩
 refine GW (X := Nat × Nat × Nat × Nat) (fun y => [(5, .int g.spots.length), (6, .val (.pointer (some ⟨y.1, 0, none⟩)))]) (fun y => srH y.1 y.2.1 y.2.2.1 y.2.2.2 g.spots.length g ⟨List.replicate g.spots.length 0, List.replicate g.spots.length 0, List.replicate g.spots.length 0, [], [], 0⟩ Sl.nil Sl.nil) ?_ ?_
 · refine Ox (VS.trans (VS.nilrow 3 1) (VS.nilrow 215 2)) ?_
   repeat' (first
    | exact True.intro | refine AG ?_ | refine two ?_ ?_ | refine AF fun c_ => ?_
    | (refine imp fun hc => ?_) <;> try exact cx1 hc
    | refine all fun v_ => ?_)
   all_goals
    refine ⟨(_, _, _, _), VS.take (by exact AD) ?_⟩
    exact leD
 rintro ⟨sb, bo, bl, bp⟩
 dsimp only [srH]
 repeat' (first
  | exact True.intro | refine AG ?_ | refine two ?_ ?_ | refine AF fun c_ => ?_
  | (refine imp fun hc => ?_) <;> try exact cx1 hc
  | refine all fun v_ => ?_)
 refine AM (X := List Int × Nat) (fun y => [(5, .int g.spots.length), (6, .val (.pointer (some ⟨sb, 0, none⟩))), (30, .int g.spots.length), (31, .int y.2)]) (fun y => srH sb bo bl bp g.spots.length g ⟨List.replicate g.spots.length 0, List.replicate g.spots.length 0, y.1, [], [], 0⟩ Sl.nil Sl.nil) (fun y => y.2 ≤ g.spots.length ∧ y.1.length = g.spots.length ∧ ∀ j, j < y.2 → gi y.1 j = -1) (fun y => g.spots.length - y.2) (List.replicate g.spots.length 0, 0) ⟨Nat.zero_le _, by simp, fun j h => absurd h (Nat.not_lt_zero j)⟩ (VS.of_le ?_) ?_
 · exact leD
 rintro ⟨pt, i⟩ ⟨h1, h2, h3⟩
 dsimp only [srH] at h1 h2 h3 ⊢
 by_cases hi : i < g.spots.length
 · repeat' (first
    | exact True.intro | refine AG ?_ | refine two ?_ ?_ | refine AF fun c_ => ?_
    | (refine imp fun hc => ?_) <;> try exact cx1 hc
    | refine all fun v_ => ?_)
   refine ⟨(pt.set i (-1), i + 1), ⟨by dsimp only; omega, by simp [h2], fun j hj => ?_⟩, by dsimp only; omega, VS.of_le ?_⟩
   · dsimp only at hj ⊢
     rw [Dn _ _ _ _ (by omega)]
     split
     · rfl
     · exact h3 j (by omega)
   · exact leD
 obtain rfl : i = g.spots.length := by omega
 obtain rfl : pt = List.replicate g.spots.length (-1) := by
  apply List.ext_getElem
  · simp [h2]
  · intro j a b
    have := h3 j (by omega)
    rw [CN _ _ a] at this
    simp [this]
 clear h1 h2 h3 hi
 repeat' (first
  | exact True.intro | refine AG ?_ | refine two ?_ ?_ | refine AF fun c_ => ?_
  | (refine imp fun hc => ?_) <;> try exact cx1 hc
  | refine all fun v_ => ?_)
 refine AM (X := TS × Sl × Sl × Nat) (fun y => [(6, .val (.pointer (some ⟨sb, 0, none⟩))), (41, .int g.spots.length), (42, .int y.2.2.2)]) (fun y => srH sb bo bl bp g.spots.length g y.1 y.2.1 y.2.2.1) (fun y => y.2.2.2 ≤ g.spots.length ∧ BY g.nx g.spots.length none y.1 ∧ y.1.calls = [] ∧ y.1.met + y.1.un g.spots.length ≤ g.spots.length ∧ ∀ v, v < y.2.2.2 → gi y.1.order v ≠ 0) (fun y => g.spots.length - y.2.2.2) (TS.init g.spots.length, Sl.nil, Sl.nil, 0) ⟨Nat.zero_le _, BY.init _ _, rfl, bN _, fun v h => absurd h (Nat.not_lt_zero v)⟩ (VS.of_le ?_) ?_
 · exact leD
 rintro ⟨s, qo, qc, i⟩ ⟨h1, t, h3, h4, h5⟩
 dsimp only [srH] at h1 t h3 h4 h5 ⊢
 have f2 := t.lo
 have f4 := t.lp
 by_cases hi : ¬ i < g.spots.length
 · obtain rfl : i = g.spots.length := by omega
   have e : s.part = Fh g := by
    apply List.ext_getElem
    · rw [f4, Mf]
    · intro j a b
      have := VD (t.calm h3 (h5 j (by omega)))
      rw [CN _ _ a] at this
      rw [this, TM]
   repeat' (first
    | exact True.intro | refine AG ?_ | refine two ?_ ?_ | refine AF fun c_ => ?_
    | (refine imp fun hc => ?_) <;> try exact cx1 hc
    | refine all fun v_ => ?_)
   refine AN (VS.trans (VS.drop (h' := [.cells bp 3 (s.part.map AV.int)]) (by exact HX)) (vfz (t := 2) (f := Aa) (h1 := []) 1 8 rfl rfl rfl (Jg s.part) f4 (fun _ => rfl) (by omega) (by omega))) ?_
   ((with_reducible apply rq2); rfl; rfl; rfl)
   exact AB (by rw [Kn hok, e])
 replace hi := Decidable.not_not.1 hi
 have ft : Fit g.spots.length s := BY.fit t hs h4
 by_cases h0 : s.order[i]'(by omega) = 0
 · have E := enter G sb bo bl bp g.spots.length i g s qo qc ft hi
   have h0' : gi s.order i = 0 := by rw [CN _ _ (by omega)]; exact h0
   have t2 := t.root h3 hi h0'
   have u2 := Re (s := s) f2 hi h0'
   repeat' (first
    | refine cag NZ (E) ?_
    | exact True.intro | refine AG ?_ | refine two ?_ ?_ | refine AF fun c_ => ?_
    | (refine imp fun hc => ?_) <;> try exact cx1 hc
    | refine all fun v_ => ?_)
   have k5 : ∀ v, v < i + 1 → gi (s.enter i).order v ≠ 0 := fun v hv => by
    show gi (s.order.set i _) v ≠ 0
    rw [Dn _ _ _ _ (by omega)]
    split
    · show ((s.met : Int) + 1) ≠ 0; omega
    · exact h5 v (by omega)
   refine AM (X := TS × Sl × Sl) (fun y => [(6, .val (.pointer (some ⟨sb, 0, none⟩))), (41, .int g.spots.length), (42, .int i)]) (fun y => srH sb bo bl bp g.spots.length g y.1 y.2.1 y.2.2) (fun y => BY g.nx g.spots.length none y.1 ∧ y.1.met + y.1.un g.spots.length ≤ g.spots.length ∧ ∀ v, v < i + 1 → gi y.1.order v ≠ 0) (fun y => y.1.mu g.nx g.spots.length) (s.enter i, v_.1, v_.2) ⟨t2, (by dsimp only; omega), k5⟩ (VS.of_le ?_) ?_
   · exact leD
   rintro ⟨z, ro, rc⟩ ⟨z1, z2, z3⟩
   dsimp only [srH] at z1 z2 z3 ⊢
   have zf : Fit g.spots.length z := BY.fit z1 hs z2
   by_cases hz : ¬ 0 < z.calls.length
   · have ez : z.calls = [] := List.eq_nil_of_length_eq_zero (by omega)
     repeat' (first
      | exact True.intro | refine AG ?_ | refine two ?_ ?_ | refine AF fun c_ => ?_
      | (refine imp fun hc => ?_) <;> try exact cx1 hc
      | refine all fun v_ => ?_)
     refine ⟨(z, ro, rc, i + 1), ⟨by dsimp only; omega, z1, ez, z2, z3⟩, by dsimp only; omega, VS.of_le ?_⟩
     exact leD
   replace hz := Decidable.not_not.1 hz
   obtain ⟨r, a, j, ec⟩ := UN (nx := g.nx) (n := g.spots.length) hz
   have E2 := Gu G sb bo bl bp g.spots.length a j g z r ro rc zf hok rfl z1 ec
   have hm := cB hto z1 (p := (a, j)) (by rw [ec]; simp)
   repeat' (first
    | refine cag L8 (E2) ?_
    | exact True.intro | refine AG ?_ | refine two ?_ ?_ | refine AF fun c_ => ?_
    | (refine imp fun hc => ?_) <;> try exact cx1 hc
    | refine all fun v_ => ?_)
   refine ⟨(z.go g.nx, v_.1, v_.2), ⟨BY.go hto z1, by rw [b8 hto z1.lo]; exact z2, fun v hv => Rk z1 (z3 v hv)⟩, hm, VS.of_le ?_⟩
   exact leD
 have k5 : ∀ v, v < i + 1 → gi s.order v ≠ 0 := fun v hv => by
  by_cases e : v = i
  · rw [e, CN _ _ (by omega)]; exact h0
  · exact h5 v (by omega)
 repeat' (first
  | refine cag L8 (E2) ?_
  | exact True.intro | refine AG ?_ | refine two ?_ ?_ | refine AF fun c_ => ?_
  | (refine imp fun hc => ?_) <;> try exact cx1 hc
  | refine all fun v_ => ?_)
 refine AM (X := TS × Sl × Sl) (fun y => [(6, .val (.pointer (some ⟨sb, 0, none⟩))), (41, .int g.spots.length), (42, .int i)]) (fun y => srH sb bo bl bp g.spots.length g y.1 y.2.1 y.2.2) (fun y => BY g.nx g.spots.length none y.1 ∧ y.1.met + y.1.un g.spots.length ≤ g.spots.length ∧ ∀ v, v < i + 1 → gi y.1.order v ≠ 0) (fun y => y.1.mu g.nx g.spots.length) (s, qo, qc) ⟨t, h4, k5⟩ (VS.of_le ?_) ?_
 · exact leD
 rintro ⟨z, ro, rc⟩ ⟨z1, z2, z3⟩
 dsimp only [srH] at z1 z2 z3 ⊢
 have zf : Fit g.spots.length z := BY.fit z1 hs z2
 by_cases hz : ¬ 0 < z.calls.length
 · have ez : z.calls = [] := List.eq_nil_of_length_eq_zero (by omega)
   repeat' (first
    | exact True.intro | refine AG ?_ | refine two ?_ ?_ | refine AF fun c_ => ?_
    | (refine imp fun hc => ?_) <;> try exact cx1 hc
    | refine all fun v_ => ?_)
   refine ⟨(z, ro, rc, i + 1), ⟨by dsimp only; omega, z1, ez, z2, z3⟩, by dsimp only; omega, VS.of_le ?_⟩
   exact leD
 replace hz := Decidable.not_not.1 hz
 obtain ⟨r, a, j, ec⟩ := UN (nx := g.nx) (n := g.spots.length) hz
 have E2 := Gu G sb bo bl bp g.spots.length a j g z r ro rc zf hok rfl z1 ec
 have hm := cB hto z1 (p := (a, j)) (by rw [ec]; simp)
 repeat' (first
  | refine cag L8 (E2) ?_
  | exact True.intro | refine AG ?_ | refine two ?_ ?_ | refine AF fun c_ => ?_
  | (refine imp fun hc => ?_) <;> try exact cx1 hc
  | refine all fun v_ => ?_)
 refine ⟨(z.go g.nx, v_.1, v_.2), ⟨BY.go hto z1, by rw [b8 hto z1.lo]; exact z2, fun v hv => Rk z1 (z3 v hv)⟩, hm, VS.of_le ?_⟩
 exact leD
end Go.Proofs.YtnlfhnbcdfdhgaaGreatDoor
