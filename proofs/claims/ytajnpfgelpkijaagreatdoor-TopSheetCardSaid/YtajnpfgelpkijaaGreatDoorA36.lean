/- A bundle of this claim's own texts: V7 V8. -/
import Derived.Test.YtajnpfgelpkijaaGreatDoorA2
import Derived.Test.YtajnpfgelpkijaaGreatDoorA3
import Derived.Test.YtajnpfgelpkijaaGreatDoorA6
import Derived.Test.YtajnpfgelpkijaaGreatDoorA19
import Derived.Test.YtajnpfgelpkijaaGreatDoorA32
set_option linter.unusedVariables false
set_option linter.unusedSimpArgs false
set_option maxRecDepth 100000
set_option maxHeartbeats 4000000
namespace Go.Proofs.YtajnpfgelpkijaaGreatDoor
open Go Go.Av Go.Sp

theorem Ih : Cal Tryz.prog 63 := Cal.of Tryz.func63 (by kernel_rfl) (by kernel_rfl)
noncomputable def partsOf (g : Gr) : List Int × Int := open Classical in if okG g then (FP (YB g), 0) else ([], 9)
theorem IV {g : Gn} (h : g.ok) : partsOf g.gr = (FP g, 0) := by rw [partsOf, if_pos (Gn.ok_gr h), OX h]
theorem DH {g : Gr} (h : ¬ okG g) : partsOf g = ([], 9) := by rw [partsOf, if_neg h]
theorem BV.fit {nx : Nat → List Nat} {n : Nat} {s : TS} (t : BV nx n none s) (hs : n ≤ 20000) (hm : s.met + s.un n ≤ n) : Fit n s :=
 ⟨hs, t.lo, t.ll, t.lp, t.opn_len, t.calls_len, by omega⟩
theorem Um {nx : Nat → List Nat} {n : Nat} {s : TS} (hc : 0 < s.calls.length) : ∃ r a j, s.calls = r ++ [(a, j)] := by
 rcases List.eq_nil_or_concat s.calls with e | ⟨r, p, e⟩
 · rw [e] at hc; simp at hc
 · exact ⟨r, p.1, p.2, by rw [List.concat_eq_append] at e; exact e⟩
theorem Zi (G : List (Nat × List D)) (g : Gr) : ACr Tryz.prog G 63 [grA g] (.tup [.d (AP (partsOf g).1), .int (partsOf g).2]) := by
 refine AK (ts := [2, 3]) Tryz.f63.ntmps Tryz.func63 rfl rfl rfl (by simp [Tryz.ntmps63]) fun W I => ?_
 have E := Zy G g
 by_cases hk : ¬ okG g
 · have e : KC g = 9 := if_neg hk
   rw [e] at E
   repeat' (first
    | refine ca GM (E) ?_
    | exact True.intro | refine AJ ?_ | refine two ?_ ?_ | refine AG fun c_ => ?_
    | (refine imp fun hc => ?_) <;> try exact cx1 hc
    | refine all fun v_ => ?_)
   refine AO (VS.trans (VS.drop (List.nil_sublist _)) (Ft (t := 2) 1 8 rfl)) ?_
   ((with_reducible apply rq2); rfl; rfl; rfl)
   exact AD (by rw [DH hk]; rfl)
 obtain ⟨g, rfl, hok⟩ := Ix (Decidable.not_not.1 hk)
 rw [J1 (Gn.ok_gr hok)] at E
 rw [Lf] at E ⊢
 clear hk
 have hs := hok.size
 have hi0 := hok.init
 have hnl := hok.next
 have hto : ∀ i, ∀ k ∈ g.nx i, k < g.spots.length := fun i k hk => Gn.nx_lt hok i k hk
 repeat' (first
  | refine ca GM (E) ?_
  | exact True.intro | refine Gi ?_ | refine two ?_ ?_ | refine AG fun c_ => ?_
  | (refine imp fun hc => ?_) <;> try exact cx hc
  | refine all fun v_ => ?_)
 refine ⟨?_⟩
 refine IN (X := Nat × Nat × Nat × Nat) (fun y => [(5, .int g.spots.length), (6, .val (.pointer (some ⟨y.1, 0, none⟩)))]) (fun y => srH y.1 y.2.1 y.2.2.1 y.2.2.2 g.spots.length g ⟨List.replicate g.spots.length 0, List.replicate g.spots.length 0, List.replicate g.spots.length 0, [], [], 0⟩ Sl.nil Sl.nil) ?_ ?_
 · refine Rh (VS.trans (VS.nilrow 3 1) (VS.nilrow 215 2)) ?_
   repeat' (first
    | exact True.intro | refine AJ ?_ | refine two ?_ ?_ | refine AG fun c_ => ?_
    | (refine imp fun hc => ?_) <;> try exact cx1 hc
    | refine all fun v_ => ?_)
   all_goals
    refine ⟨(_, _, _, _), VS.take (by exact AB) ?_⟩
    exact leD
 rintro ⟨sb, bo, bl, bp⟩
 dsimp only [srH]
 repeat' (first
  | exact True.intro | refine AJ ?_ | refine two ?_ ?_ | refine AG fun c_ => ?_
  | (refine imp fun hc => ?_) <;> try exact cx1 hc
  | refine all fun v_ => ?_)
 refine AL (X := List Int × Nat) (fun y => [(5, .int g.spots.length), (6, .val (.pointer (some ⟨sb, 0, none⟩))), (30, .int g.spots.length), (31, .int y.2)]) (fun y => srH sb bo bl bp g.spots.length g ⟨List.replicate g.spots.length 0, List.replicate g.spots.length 0, y.1, [], [], 0⟩ Sl.nil Sl.nil) (fun y => y.2 ≤ g.spots.length ∧ y.1.length = g.spots.length ∧ ∀ j, j < y.2 → gi y.1 j = -1) (fun y => g.spots.length - y.2) (List.replicate g.spots.length 0, 0) ⟨Nat.zero_le _, by simp, fun j h => absurd h (Nat.not_lt_zero j)⟩ (VS.of_le ?_) ?_
 · exact leD
 rintro ⟨pt, i⟩ ⟨h1, h2, h3⟩
 dsimp only [srH] at h1 h2 h3 ⊢
 by_cases hi : i < g.spots.length
 · repeat' (first
    | exact True.intro | refine AJ ?_ | refine two ?_ ?_ | refine AG fun c_ => ?_
    | (refine imp fun hc => ?_) <;> try exact cx1 hc
    | refine all fun v_ => ?_)
   refine ⟨(pt.set i (-1), i + 1), ⟨by dsimp only; omega, by simp [h2], fun j hj => ?_⟩, by dsimp only; omega, VS.of_le ?_⟩
   · dsimp only at hj ⊢
     rw [Dp _ _ _ _ (by omega)]
     split
     · rfl
     · exact h3 j (by omega)
   · exact leD
 obtain rfl : i = g.spots.length := by omega
 obtain rfl : pt = List.replicate g.spots.length (-1) := by
  apply List.ext_getElem
  · simp [h2]
  · intro j a b
    have := h3 j (by omega)
    rw [CM _ _ a] at this
    simp [this]
 clear h1 h2 h3 hi
 repeat' (first
  | exact True.intro | refine AJ ?_ | refine two ?_ ?_ | refine AG fun c_ => ?_
  | (refine imp fun hc => ?_) <;> try exact cx1 hc
  | refine all fun v_ => ?_)
 refine AL (X := TS × Sl × Sl × Nat) (fun y => [(6, .val (.pointer (some ⟨sb, 0, none⟩))), (41, .int g.spots.length), (42, .int y.2.2.2)]) (fun y => srH sb bo bl bp g.spots.length g y.1 y.2.1 y.2.2.1) (fun y => y.2.2.2 ≤ g.spots.length ∧ BV g.nx g.spots.length none y.1 ∧ y.1.calls = [] ∧ y.1.met + y.1.un g.spots.length ≤ g.spots.length ∧ ∀ v, v < y.2.2.2 → gi y.1.order v ≠ 0) (fun y => g.spots.length - y.2.2.2) (TS.init g.spots.length, Sl.nil, Sl.nil, 0) ⟨Nat.zero_le _, BV.init _ _, rfl, aN _, fun v h => absurd h (Nat.not_lt_zero v)⟩ (VS.of_le ?_) ?_
 · exact leD
 rintro ⟨s, qo, qc, i⟩ ⟨h1, t, h3, h4, h5⟩
 dsimp only [srH] at h1 t h3 h4 h5 ⊢
 have f2 := t.lo
 have f4 := t.lp
 by_cases hi : ¬ i < g.spots.length
 · obtain rfl : i = g.spots.length := by omega
   have e : s.part = FP g := by
    apply List.ext_getElem
    · rw [f4, NK]
    · intro j a b
      have := Nn (t.calm h3 (h5 j (by omega)))
      rw [CM _ _ a] at this
      rw [this, US]
   repeat' (first
    | exact True.intro | refine AJ ?_ | refine two ?_ ?_ | refine AG fun c_ => ?_
    | (refine imp fun hc => ?_) <;> try exact cx1 hc
    | refine all fun v_ => ?_)
   refine AO (VS.trans (VS.drop (h' := [.cells bp 3 (s.part.map AV.int)]) (by exact H6)) (vfz (t := 2) (f := Ag) (h1 := []) 1 8 rfl rfl rfl (Jx s.part) f4 (fun _ => rfl) (by omega) (by omega))) ?_
   ((with_reducible apply rq2); rfl; rfl; rfl)
   exact AD (by rw [IV hok, e])
 replace hi := Decidable.not_not.1 hi
 have ft : Fit g.spots.length s := BV.fit t hs h4
 by_cases h0 : s.order[i]'(by omega) = 0
 · have E := enter G sb bo bl bp g.spots.length i g s qo qc ft hi
   have h0' : gi s.order i = 0 := by rw [CM _ _ (by omega)]; exact h0
   have t2 := t.root h3 hi h0'
   have u2 := Qj (s := s) f2 hi h0'
   repeat' (first
    | refine cag NY (E) ?_
    | exact True.intro | refine AJ ?_ | refine two ?_ ?_ | refine AG fun c_ => ?_
    | (refine imp fun hc => ?_) <;> try exact cx1 hc
    | refine all fun v_ => ?_)
   have k5 : ∀ v, v < i + 1 → gi (s.enter i).order v ≠ 0 := fun v hv => by
    show gi (s.order.set i _) v ≠ 0
    rw [Dp _ _ _ _ (by omega)]
    split
    · show ((s.met : Int) + 1) ≠ 0; omega
    · exact h5 v (by omega)
   refine AL (X := TS × Sl × Sl) (fun y => [(6, .val (.pointer (some ⟨sb, 0, none⟩))), (41, .int g.spots.length), (42, .int i)]) (fun y => srH sb bo bl bp g.spots.length g y.1 y.2.1 y.2.2) (fun y => BV g.nx g.spots.length none y.1 ∧ y.1.met + y.1.un g.spots.length ≤ g.spots.length ∧ ∀ v, v < i + 1 → gi y.1.order v ≠ 0) (fun y => y.1.mu g.nx g.spots.length) (s.enter i, v_.1, v_.2) ⟨t2, (by dsimp only; omega), k5⟩ (VS.of_le ?_) ?_
   · exact leD
   rintro ⟨z, ro, rc⟩ ⟨z1, z2, z3⟩
   dsimp only [srH] at z1 z2 z3 ⊢
   have zf : Fit g.spots.length z := BV.fit z1 hs z2
   by_cases hz : ¬ 0 < z.calls.length
   · have ez : z.calls = [] := List.eq_nil_of_length_eq_zero (by omega)
     repeat' (first
      | exact True.intro | refine AJ ?_ | refine two ?_ ?_ | refine AG fun c_ => ?_
      | (refine imp fun hc => ?_) <;> try exact cx1 hc
      | refine all fun v_ => ?_)
     refine ⟨(z, ro, rc, i + 1), ⟨by dsimp only; omega, z1, ez, z2, z3⟩, by dsimp only; omega, VS.of_le ?_⟩
     exact leD
   replace hz := Decidable.not_not.1 hz
   obtain ⟨r, a, j, ec⟩ := Um (nx := g.nx) (n := g.spots.length) hz
   have E2 := iB G sb bo bl bp g.spots.length a j g z r ro rc zf hok rfl z1 ec
   have hm := dD hto z1 (p := (a, j)) (by rw [ec]; simp)
   repeat' (first
    | refine cag Lg (E2) ?_
    | exact True.intro | refine AJ ?_ | refine two ?_ ?_ | refine AG fun c_ => ?_
    | (refine imp fun hc => ?_) <;> try exact cx1 hc
    | refine all fun v_ => ?_)
   refine ⟨(z.go g.nx, v_.1, v_.2), ⟨BV.go hto z1, by rw [cv hto z1.lo]; exact z2, fun v hv => QB z1 (z3 v hv)⟩, hm, VS.of_le ?_⟩
   exact leD
 have k5 : ∀ v, v < i + 1 → gi s.order v ≠ 0 := fun v hv => by
  by_cases e : v = i
  · rw [e, CM _ _ (by omega)]; exact h0
  · exact h5 v (by omega)
 repeat' (first
  | refine cag Lg (E2) ?_
  | exact True.intro | refine AJ ?_ | refine two ?_ ?_ | refine AG fun c_ => ?_
  | (refine imp fun hc => ?_) <;> try exact cx1 hc
  | refine all fun v_ => ?_)
 refine AL (X := TS × Sl × Sl) (fun y => [(6, .val (.pointer (some ⟨sb, 0, none⟩))), (41, .int g.spots.length), (42, .int i)]) (fun y => srH sb bo bl bp g.spots.length g y.1 y.2.1 y.2.2) (fun y => BV g.nx g.spots.length none y.1 ∧ y.1.met + y.1.un g.spots.length ≤ g.spots.length ∧ ∀ v, v < i + 1 → gi y.1.order v ≠ 0) (fun y => y.1.mu g.nx g.spots.length) (s, qo, qc) ⟨t, h4, k5⟩ (VS.of_le ?_) ?_
 · exact leD
 rintro ⟨z, ro, rc⟩ ⟨z1, z2, z3⟩
 dsimp only [srH] at z1 z2 z3 ⊢
 have zf : Fit g.spots.length z := BV.fit z1 hs z2
 by_cases hz : ¬ 0 < z.calls.length
 · have ez : z.calls = [] := List.eq_nil_of_length_eq_zero (by omega)
   repeat' (first
    | exact True.intro | refine AJ ?_ | refine two ?_ ?_ | refine AG fun c_ => ?_
    | (refine imp fun hc => ?_) <;> try exact cx1 hc
    | refine all fun v_ => ?_)
   refine ⟨(z, ro, rc, i + 1), ⟨by dsimp only; omega, z1, ez, z2, z3⟩, by dsimp only; omega, VS.of_le ?_⟩
   exact leD
 replace hz := Decidable.not_not.1 hz
 obtain ⟨r, a, j, ec⟩ := Um (nx := g.nx) (n := g.spots.length) hz
 have E2 := iB G sb bo bl bp g.spots.length a j g z r ro rc zf hok rfl z1 ec
 have hm := dD hto z1 (p := (a, j)) (by rw [ec]; simp)
 repeat' (first
  | refine cag Lg (E2) ?_
  | exact True.intro | refine AJ ?_ | refine two ?_ ?_ | refine AG fun c_ => ?_
  | (refine imp fun hc => ?_) <;> try exact cx1 hc
  | refine all fun v_ => ?_)
 refine ⟨(z.go g.nx, v_.1, v_.2), ⟨BV.go hto z1, by rw [cv hto z1.lo]; exact z2, fun v hv => QB z1 (z3 v hv)⟩, hm, VS.of_le ?_⟩
 exact leD

end Go.Proofs.YtajnpfgelpkijaaGreatDoor
