/- A bundle of this claim's own texts: V7. -/
import Derived.Test.YtcikppldaepodaaZ2
import Derived.Test.YtcikppldaepodaaZ7
namespace Go.Proofs.Ytcikppldaepodaa
open Go Go.Av Go.Sp
set_option linter.unusedVariables false
set_option linter.unusedSimpArgs false
set_option maxRecDepth 100000
set_option maxHeartbeats 4000000

theorem cal_SParts : Cal Try.prog 27 := Cal.of Try.func27 (by kernel_rfl) (by kernel_rfl)
noncomputable def partsOf (g : Gr) : List Int × Int := open Classical in if okG g then (partsL (natG g), 0) else ([], 9)
theorem partsOf_ok {g : Gn} (h : g.ok) : partsOf g.gr = (partsL g, 0) := by rw [partsOf, if_pos (Gn.ok_gr h), natG_eq h]
theorem partsOf_no {g : Gr} (h : ¬ okG g) : partsOf g = ([], 9) := by rw [partsOf, if_neg h]
theorem TInv.fit {nx : Nat → List Nat} {n : Nat} {s : TS} (t : TInv nx n none s) (hs : n ≤ 20000) (hm : s.met + s.un n ≤ n) : Fit n s :=
  ⟨hs, t.lo, t.ll, t.lp, t.opn_len, t.calls_len, by omega⟩
theorem go_some {nx : Nat → List Nat} {n : Nat} {s : TS} (hc : 0 < s.calls.length) : ∃ r a j, s.calls = r ++ [(a, j)] := by
  rcases List.eq_nil_or_concat s.calls with e | ⟨r, p, e⟩
  · rw [e] at hc; simp at hc
  · exact ⟨r, p.1, p.2, by rw [List.concat_eq_append] at e; exact e⟩
theorem SParts (G : List (Nat × List D)) (g : Gr) : ACr Try.prog G 27 [grA g] (.tup [.d (intsD (partsOf g).1), .int (partsOf g).2]) := by
  refine AC_ofV (ts := [2, 3]) Try.f27.ntmps Try.func27 rfl rfl rfl (by simp [Try.ntmps27]) fun W I => ?_
  have E := SCheck G g
  by_cases hk : ¬ okG g
  · have e : graphF g = 9 := if_neg hk
    rw [e] at E
    all_goals haveI fA_ : FlagA := ⟨⟩
    all_goals haveI fH_ : FlagH := ⟨⟩
    repeat' (first
      | ((with_reducible apply call0); (focus rfl); (focus exact cal_SCheck); (focus exact E); (focus rfl))
      | ((with_reducible apply je_call0); (focus rfl); (focus (decide +kernel)); (focus rfl); (focus exact cal_SCheck); (focus exact E); (focus rfl))
      | exact True.intro
      | refine stp ?_
      | refine two ?_ ?_
      | refine allc fun c_ => ?_
      | (refine imp fun hc => ?_) <;> try (first | contradiction | (exfalso; omega) | (exfalso; exact absurd (of_dT hc) (by assumption)) | (exfalso; exact of_dF hc (by assumption)))
      | refine all fun v_ => ?_)
    all_goals clear fA_ fH_
    refine retv (VS.trans (VS.drop (List.nil_sublist _)) (vnil (t := 2) 1 8 rfl)) ?_
    ((with_reducible apply rq2); rfl; rfl; rfl)
    exact ret_eq (by rw [partsOf_no hk]; rfl)
  obtain ⟨g, rfl, hok⟩ := okG_nat (Decidable.not_not.1 hk)
  rw [graphF_ok (Gn.ok_gr hok)] at E
  rw [gnA_eq] at E ⊢
  clear hk
  have hs := hok.size
  have hi0 := hok.init
  have hnl := hok.next
  have hto : ∀ i, ∀ k ∈ g.nx i, k < g.spots.length := fun i k hk => Gn.nx_lt hok i k hk
  all_goals haveI fA_ : FlagA := ⟨⟩
  all_goals haveI fH_ : FlagH := ⟨⟩
  all_goals haveI fS_ : StopAt 2 := ⟨⟩
  repeat' (first
    | ((with_reducible apply call0); (focus rfl); (focus exact cal_SCheck); (focus exact E); (focus rfl))
    | ((with_reducible apply je_call0); (focus rfl); (focus (decide +kernel)); (focus rfl); (focus exact cal_SCheck); (focus exact E); (focus rfl))
    | exact True.intro
    | refine stp ?_
    | refine two ?_ ?_
    | refine allc fun c_ => ?_
    | (refine imp fun hc => ?_) <;> try (first | contradiction | (exfalso; omega))
    | refine all fun v_ => ?_)
  all_goals clear fA_ fH_ fS_
  refine ⟨?_⟩
  refine J_cutT (X := Nat × Nat × Nat × Nat) (fun y => [(5, .int g.spots.length), (6, .val (.pointer (some ⟨y.1, 0, none⟩)))]) (fun y => srH y.1 y.2.1 y.2.2.1 y.2.2.2 g.spots.length g ⟨List.replicate g.spots.length 0, List.replicate g.spots.length 0, List.replicate g.spots.length 0, [], [], 0⟩ Sl.nil Sl.nil) ?_ ?_
  · refine J_vs (VS.trans (VS.nilrow 3 1) (VS.nilrow 90 2)) ?_
    all_goals haveI fA_ : FlagA := ⟨⟩
    all_goals haveI fH_ : FlagH := ⟨⟩
    repeat' (first
      | exact True.intro
      | refine stp ?_
      | refine two ?_ ?_
      | refine allc fun c_ => ?_
      | (refine imp fun hc => ?_) <;> try (first | contradiction | (exfalso; omega) | (exfalso; exact absurd (of_dT hc) (by assumption)) | (exfalso; exact of_dF hc (by assumption)))
      | refine all fun v_ => ?_)
    all_goals clear fA_ fH_
    all_goals
      refine ⟨(_, _, _, _), VS.take (by ((repeat (first | exact Take.nil | ((with_reducible apply Take.cons); (focus ((repeat (first | exact Sel.here | with_reducible apply Sel.there)); done))))); done)) ?_⟩
      repeat (first
        | exact Env.le_nil _
        | refine Env.le_cons (AV.le_refl _) ?_
        | refine Env.le_cons (AV.le_int rfl (by first | rfl | omega | (dsimp only; omega))) ?_)
  rintro ⟨sb, bo, bl, bp⟩
  dsimp only [srH]
  all_goals haveI fA_ : FlagA := ⟨⟩
  all_goals haveI fH_ : FlagH := ⟨⟩
  repeat' (first
    | exact True.intro
    | refine stp ?_
    | refine two ?_ ?_
    | refine allc fun c_ => ?_
    | (refine imp fun hc => ?_) <;> try (first | contradiction | (exfalso; omega) | (exfalso; exact absurd (of_dT hc) (by assumption)) | (exfalso; exact of_dF hc (by assumption)))
    | refine all fun v_ => ?_)
  all_goals clear fA_ fH_
  refine J_loopV (X := List Int × Nat) (fun y => [(5, .int g.spots.length), (6, .val (.pointer (some ⟨sb, 0, none⟩))), (30, .int g.spots.length), (31, .int y.2)]) (fun y => srH sb bo bl bp g.spots.length g ⟨List.replicate g.spots.length 0, List.replicate g.spots.length 0, y.1, [], [], 0⟩ Sl.nil Sl.nil) (fun y => y.2 ≤ g.spots.length ∧ y.1.length = g.spots.length ∧ ∀ j, j < y.2 → gi y.1 j = -1) (fun y => g.spots.length - y.2) (List.replicate g.spots.length 0, 0) ⟨Nat.zero_le _, by simp, fun j h => absurd h (Nat.not_lt_zero j)⟩ (VS.of_le ?_) ?_
  · repeat (first
      | exact Env.le_nil _
      | refine Env.le_cons (AV.le_refl _) ?_
      | refine Env.le_cons (AV.le_int rfl (by first | rfl | omega | (dsimp only; omega))) ?_)
  rintro ⟨pt, i⟩ ⟨h1, h2, h3⟩
  dsimp only [srH] at h1 h2 h3 ⊢
  by_cases hi : i < g.spots.length
  · all_goals haveI fA_ : FlagA := ⟨⟩
    all_goals haveI fH_ : FlagH := ⟨⟩
    repeat' (first
      | exact True.intro
      | refine stp ?_
      | refine two ?_ ?_
      | refine allc fun c_ => ?_
      | (refine imp fun hc => ?_) <;> try (first | contradiction | (exfalso; omega) | (exfalso; exact absurd (of_dT hc) (by assumption)) | (exfalso; exact of_dF hc (by assumption)))
      | refine all fun v_ => ?_)
    all_goals clear fA_ fH_
    refine ⟨(pt.set i (-1), i + 1), ⟨by dsimp only; omega, by simp [h2], fun j hj => ?_⟩, by dsimp only; omega, VS.of_le ?_⟩
    · dsimp only at hj ⊢
      rw [gi_set _ _ _ _ (by omega)]
      split
      · rfl
      · exact h3 j (by omega)
    · repeat (first
        | exact Env.le_nil _
        | refine Env.le_cons (AV.le_refl _) ?_
        | refine Env.le_cons (AV.le_int rfl (by first | rfl | omega | (dsimp only; omega))) ?_)
  obtain rfl : i = g.spots.length := by omega
  obtain rfl : pt = List.replicate g.spots.length (-1) := by
    apply List.ext_getElem
    · simp [h2]
    · intro j a b
      have := h3 j (by omega)
      rw [gi_get _ _ a] at this
      simp [this]
  clear h1 h2 h3 hi
  all_goals haveI fA_ : FlagA := ⟨⟩
  all_goals haveI fH_ : FlagH := ⟨⟩
  repeat' (first
    | exact True.intro
    | refine stp ?_
    | refine two ?_ ?_
    | refine allc fun c_ => ?_
    | (refine imp fun hc => ?_) <;> try (first | contradiction | (exfalso; omega) | (exfalso; exact absurd (of_dT hc) (by assumption)) | (exfalso; exact of_dF hc (by assumption)))
    | refine all fun v_ => ?_)
  all_goals clear fA_ fH_
  refine J_loopV (X := TS × Sl × Sl × Nat) (fun y => [(6, .val (.pointer (some ⟨sb, 0, none⟩))), (41, .int g.spots.length), (42, .int y.2.2.2)]) (fun y => srH sb bo bl bp g.spots.length g y.1 y.2.1 y.2.2.1) (fun y => y.2.2.2 ≤ g.spots.length ∧ TInv g.nx g.spots.length none y.1 ∧ y.1.calls = [] ∧ y.1.met + y.1.un g.spots.length ≤ g.spots.length ∧ ∀ v, v < y.2.2.2 → gi y.1.order v ≠ 0) (fun y => g.spots.length - y.2.2.2) (TS.init g.spots.length, Sl.nil, Sl.nil, 0) ⟨Nat.zero_le _, TInv.init _ _, rfl, init_un _, fun v h => absurd h (Nat.not_lt_zero v)⟩ (VS.of_le ?_) ?_
  · repeat (first
      | exact Env.le_nil _
      | refine Env.le_cons (AV.le_refl _) ?_
      | refine Env.le_cons (AV.le_int rfl (by first | rfl | omega | (dsimp only; omega))) ?_)
  rintro ⟨s, qo, qc, i⟩ ⟨h1, t, h3, h4, h5⟩
  dsimp only [srH] at h1 t h3 h4 h5 ⊢
  have f2 := t.lo
  have f4 := t.lp
  by_cases hi : ¬ i < g.spots.length
  · obtain rfl : i = g.spots.length := by omega
    have e : s.part = partsL g := by
      apply List.ext_getElem
      · rw [f4, partsL_length]
      · intro j a b
        have := partOf_eq (t.calm h3 (h5 j (by omega)))
        rw [gi_get _ _ a] at this
        rw [this, partsL_get]
    all_goals haveI fA_ : FlagA := ⟨⟩
    all_goals haveI fH_ : FlagH := ⟨⟩
    repeat' (first
      | exact True.intro
      | refine stp ?_
      | refine two ?_ ?_
      | refine allc fun c_ => ?_
      | (refine imp fun hc => ?_) <;> try (first | contradiction | (exfalso; omega) | (exfalso; exact absurd (of_dT hc) (by assumption)) | (exfalso; exact of_dF hc (by assumption)))
      | refine all fun v_ => ?_)
    all_goals clear fA_ fH_
    refine retv (VS.trans (VS.drop (h' := [.cells bp 3 (s.part.map AV.int)]) (by (repeat (first | exact List.nil_sublist _ | (with_reducible apply List.Sublist.cons_cons) | apply List.Sublist.cons)))) (vfz (t := 2) (f := intC) (h1 := []) 1 8 rfl rfl rfl (ints_flat s.part) f4 (fun _ => rfl) (by omega) (by omega))) ?_
    ((with_reducible apply rq2); rfl; rfl; rfl)
    exact ret_eq (by rw [partsOf_ok hok, e])
  replace hi := Decidable.not_not.1 hi
  have ft : Fit g.spots.length s := TInv.fit t hs h4
  by_cases h0 : s.order[i]'(by omega) = 0
  · have E := enter G sb bo bl bp g.spots.length i g s qo qc ft hi
    have h0' : gi s.order i = 0 := by rw [gi_get _ _ (by omega)]; exact h0
    have t2 := t.root h3 hi h0'
    have u2 := enter_un (s := s) f2 hi h0'
    all_goals haveI fA_ : FlagA := ⟨⟩
    all_goals haveI fH_ : FlagH := ⟨⟩
    repeat' (first
      | ((with_reducible apply callG); (focus rfl); (focus exact cal_enter); (focus exact E); (focus ((repeat (first | with_reducible exact Take.nil | ((with_reducible apply Take.cons); (focus ((repeat (first | with_reducible exact Sel.here | with_reducible apply Sel.there)); done))))); done)); (focus rfl); (focus (intro v_; (repeat (first | exact App.nil | apply App.cons)); done)))
      | exact True.intro
      | refine stp ?_
      | refine two ?_ ?_
      | refine allc fun c_ => ?_
      | (refine imp fun hc => ?_) <;> try (first | contradiction | (exfalso; omega) | (exfalso; exact absurd (of_dT hc) (by assumption)) | (exfalso; exact of_dF hc (by assumption)))
      | refine all fun v_ => ?_)
    all_goals clear fA_ fH_
    have k5 : ∀ v, v < i + 1 → gi (s.enter i).order v ≠ 0 := fun v hv => by
      show gi (s.order.set i _) v ≠ 0
      rw [gi_set _ _ _ _ (by omega)]
      split
      · show ((s.met : Int) + 1) ≠ 0; omega
      · exact h5 v (by omega)
    refine J_loopV (X := TS × Sl × Sl) (fun y => [(6, .val (.pointer (some ⟨sb, 0, none⟩))), (41, .int g.spots.length), (42, .int i)]) (fun y => srH sb bo bl bp g.spots.length g y.1 y.2.1 y.2.2) (fun y => TInv g.nx g.spots.length none y.1 ∧ y.1.met + y.1.un g.spots.length ≤ g.spots.length ∧ ∀ v, v < i + 1 → gi y.1.order v ≠ 0) (fun y => y.1.mu g.nx g.spots.length) (s.enter i, v_.1, v_.2) ⟨t2, (by dsimp only; omega), k5⟩ (VS.of_le ?_) ?_
    · repeat (first
        | exact Env.le_nil _
        | refine Env.le_cons (AV.le_refl _) ?_
        | refine Env.le_cons (AV.le_int rfl (by first | rfl | omega | (dsimp only; omega))) ?_)
    rintro ⟨z, ro, rc⟩ ⟨z1, z2, z3⟩
    dsimp only [srH] at z1 z2 z3 ⊢
    have zf : Fit g.spots.length z := TInv.fit z1 hs z2
    by_cases hz : ¬ 0 < z.calls.length
    · have ez : z.calls = [] := List.eq_nil_of_length_eq_zero (by omega)
      all_goals haveI fA_ : FlagA := ⟨⟩
      all_goals haveI fH_ : FlagH := ⟨⟩
      repeat' (first
        | exact True.intro
        | refine stp ?_
        | refine two ?_ ?_
        | refine allc fun c_ => ?_
        | (refine imp fun hc => ?_) <;> try (first | contradiction | (exfalso; omega) | (exfalso; exact absurd (of_dT hc) (by assumption)) | (exfalso; exact of_dF hc (by assumption)))
        | refine all fun v_ => ?_)
      all_goals clear fA_ fH_
      refine ⟨(z, ro, rc, i + 1), ⟨by dsimp only; omega, z1, ez, z2, z3⟩, by dsimp only; omega, VS.of_le ?_⟩
      repeat (first
        | exact Env.le_nil _
        | refine Env.le_cons (AV.le_refl _) ?_
        | refine Env.le_cons (AV.le_int rfl (by first | rfl | omega | (dsimp only; omega))) ?_)
    replace hz := Decidable.not_not.1 hz
    obtain ⟨r, a, j, ec⟩ := go_some (nx := g.nx) (n := g.spots.length) hz
    have E2 := goOn G sb bo bl bp g.spots.length a j g z r ro rc zf hok rfl z1 ec
    have hm := go_mu hto z1 (p := (a, j)) (by rw [ec]; simp)
    all_goals haveI fA_ : FlagA := ⟨⟩
    all_goals haveI fH_ : FlagH := ⟨⟩
    repeat' (first
      | ((with_reducible apply callG); (focus rfl); (focus exact cal_goOn); (focus exact E2); (focus ((repeat (first | with_reducible exact Take.nil | ((with_reducible apply Take.cons); (focus ((repeat (first | with_reducible exact Sel.here | with_reducible apply Sel.there)); done))))); done)); (focus rfl); (focus (intro v_; (repeat (first | exact App.nil | apply App.cons)); done)))
      | exact True.intro
      | refine stp ?_
      | refine two ?_ ?_
      | refine allc fun c_ => ?_
      | (refine imp fun hc => ?_) <;> try (first | contradiction | (exfalso; omega) | (exfalso; exact absurd (of_dT hc) (by assumption)) | (exfalso; exact of_dF hc (by assumption)))
      | refine all fun v_ => ?_)
    all_goals clear fA_ fH_
    refine ⟨(z.go g.nx, v_.1, v_.2), ⟨TInv.go hto z1, by rw [go_un hto z1.lo]; exact z2, fun v hv => go_keeps z1 (z3 v hv)⟩, hm, VS.of_le ?_⟩
    repeat (first
      | exact Env.le_nil _
      | refine Env.le_cons (AV.le_refl _) ?_
      | refine Env.le_cons (AV.le_int rfl (by first | rfl | omega | (dsimp only; omega))) ?_)
  have k5 : ∀ v, v < i + 1 → gi s.order v ≠ 0 := fun v hv => by
    by_cases e : v = i
    · rw [e, gi_get _ _ (by omega)]; exact h0
    · exact h5 v (by omega)
  all_goals haveI fA_ : FlagA := ⟨⟩
  all_goals haveI fH_ : FlagH := ⟨⟩
  repeat' (first
    | ((with_reducible apply callG); (focus rfl); (focus exact cal_goOn); (focus exact E2); (focus ((repeat (first | with_reducible exact Take.nil | ((with_reducible apply Take.cons); (focus ((repeat (first | with_reducible exact Sel.here | with_reducible apply Sel.there)); done))))); done)); (focus rfl); (focus (intro v_; (repeat (first | exact App.nil | apply App.cons)); done)))
    | exact True.intro
    | refine stp ?_
    | refine two ?_ ?_
    | refine allc fun c_ => ?_
    | (refine imp fun hc => ?_) <;> try (first | contradiction | (exfalso; omega) | (exfalso; exact absurd (of_dT hc) (by assumption)) | (exfalso; exact of_dF hc (by assumption)))
    | refine all fun v_ => ?_)
  all_goals clear fA_ fH_
  refine J_loopV (X := TS × Sl × Sl) (fun y => [(6, .val (.pointer (some ⟨sb, 0, none⟩))), (41, .int g.spots.length), (42, .int i)]) (fun y => srH sb bo bl bp g.spots.length g y.1 y.2.1 y.2.2) (fun y => TInv g.nx g.spots.length none y.1 ∧ y.1.met + y.1.un g.spots.length ≤ g.spots.length ∧ ∀ v, v < i + 1 → gi y.1.order v ≠ 0) (fun y => y.1.mu g.nx g.spots.length) (s, qo, qc) ⟨t, h4, k5⟩ (VS.of_le ?_) ?_
  · repeat (first
      | exact Env.le_nil _
      | refine Env.le_cons (AV.le_refl _) ?_
      | refine Env.le_cons (AV.le_int rfl (by first | rfl | omega | (dsimp only; omega))) ?_)
  rintro ⟨z, ro, rc⟩ ⟨z1, z2, z3⟩
  dsimp only [srH] at z1 z2 z3 ⊢
  have zf : Fit g.spots.length z := TInv.fit z1 hs z2
  by_cases hz : ¬ 0 < z.calls.length
  · have ez : z.calls = [] := List.eq_nil_of_length_eq_zero (by omega)
    all_goals haveI fA_ : FlagA := ⟨⟩
    all_goals haveI fH_ : FlagH := ⟨⟩
    repeat' (first
      | exact True.intro
      | refine stp ?_
      | refine two ?_ ?_
      | refine allc fun c_ => ?_
      | (refine imp fun hc => ?_) <;> try (first | contradiction | (exfalso; omega) | (exfalso; exact absurd (of_dT hc) (by assumption)) | (exfalso; exact of_dF hc (by assumption)))
      | refine all fun v_ => ?_)
    all_goals clear fA_ fH_
    refine ⟨(z, ro, rc, i + 1), ⟨by dsimp only; omega, z1, ez, z2, z3⟩, by dsimp only; omega, VS.of_le ?_⟩
    repeat (first
      | exact Env.le_nil _
      | refine Env.le_cons (AV.le_refl _) ?_
      | refine Env.le_cons (AV.le_int rfl (by first | rfl | omega | (dsimp only; omega))) ?_)
  replace hz := Decidable.not_not.1 hz
  obtain ⟨r, a, j, ec⟩ := go_some (nx := g.nx) (n := g.spots.length) hz
  have E2 := goOn G sb bo bl bp g.spots.length a j g z r ro rc zf hok rfl z1 ec
  have hm := go_mu hto z1 (p := (a, j)) (by rw [ec]; simp)
  all_goals haveI fA_ : FlagA := ⟨⟩
  all_goals haveI fH_ : FlagH := ⟨⟩
  repeat' (first
    | ((with_reducible apply callG); (focus rfl); (focus exact cal_goOn); (focus exact E2); (focus ((repeat (first | with_reducible exact Take.nil | ((with_reducible apply Take.cons); (focus ((repeat (first | with_reducible exact Sel.here | with_reducible apply Sel.there)); done))))); done)); (focus rfl); (focus (intro v_; (repeat (first | exact App.nil | apply App.cons)); done)))
    | exact True.intro
    | refine stp ?_
    | refine two ?_ ?_
    | refine allc fun c_ => ?_
    | (refine imp fun hc => ?_) <;> try (first | contradiction | (exfalso; omega) | (exfalso; exact absurd (of_dT hc) (by assumption)) | (exfalso; exact of_dF hc (by assumption)))
    | refine all fun v_ => ?_)
  all_goals clear fA_ fH_
  refine ⟨(z.go g.nx, v_.1, v_.2), ⟨TInv.go hto z1, by rw [go_un hto z1.lo]; exact z2, fun v hv => go_keeps z1 (z3 v hv)⟩, hm, VS.of_le ?_⟩
  repeat (first
    | exact Env.le_nil _
    | refine Env.le_cons (AV.le_refl _) ?_
    | refine Env.le_cons (AV.le_int rfl (by first | rfl | omega | (dsimp only; omega))) ?_)
end Go.Proofs.Ytcikppldaepodaa
