/- Contracts: scc.Reached. -/
import Derived.Test.YtffdlpjbbkhcnaaV2
namespace Go.Proofs.Ytffdlpjbbkhcnaa
open Go Go.Av Go.Sp
set_option linter.unusedVariables false
set_option linter.unusedSimpArgs false
set_option maxRecDepth 100000
set_option maxHeartbeats 4000000

/-- What a visit writes on: both variables, the truths, the row. -/
abbrev visH (bs bt bv : Nat) (n : Nat) (p : List Bool × List Nat) (q : Sl) : H := [.cells bs 54 [.val (.slice (some ⟨bv, 0, none⟩) n n)], .cells bv 4 (p.1.map AV.bool), .cells bt 36 [.val q.v], rowE q.v 3 1 natC p.2]
theorem visit (G : List (Nat × List D)) (bs bt bv n i : Nat) (p : List Bool × List Nat) (q : Sl) (hn : p.1.length = n) (hi : i < n) (hl : n ≤ 20000) (hp : p.2.length ≤ 100000) :
    AC Try.prog G 61 [.int i, .val (.pointer (some ⟨bs, 0, none⟩)), .val (.pointer (some ⟨bt, 0, none⟩))] (visH bs bt bv n p q) fun r h => ∃ q' : Sl, r = .ret (.tup []) ∧ h = visH bs bt bv n (visitF p i) q' := by
  refine AC_of (ts := []) Try.f61.ntmps Try.func61 rfl rfl rfl (by simp [Try.ntmps61]) fun W I => ?_
  have hb := bi_get p.1 i (by omega)
  by_cases h : p.1[i]'(by omega) = true
  · have e : visitF p i = p := by rw [visitF, hb, if_pos h]
    rw [e]
    repeat' (first
      | exact True.intro
      | refine stpa ?_
      | refine two ?_ ?_
      | (refine imp fun hc => ?_) <;> try (first | contradiction | (exfalso; omega))
      | refine all fun v_ => ?_)
    · exact rq0 rfl ⟨_, rfl, rfl⟩
    · rw [h] at hc; cases hc
  · have e : visitF p i = (p.1.set i true, p.2 ++ [i]) := by rw [visitF, hb, if_neg h]
    rw [e]
    repeat' (first
      | exact True.intro
      | refine stpa ?_
      | refine two ?_ ?_
      | (refine imp fun hc => ?_) <;> try (first | contradiction | (exfalso; omega))
      | refine all fun v_ => ?_)
    exact rq0 rfl ⟨_, rfl, rfl⟩
theorem unseen_rep : ∀ n : Nat, unseen (List.replicate n false) = n
  | 0 => rfl
  | n + 1 => by rw [List.replicate_succ, unseen, unseen_rep n]; simp [Nat.add_comm]
theorem getC_last {α : Type} (r : List α) (v : α) (h : ((((r ++ [v]).length : Nat) : Int) - 1).toNat < (r ++ [v]).length) : (r ++ [v])[((((r ++ [v]).length : Nat) : Int) - 1).toNat] = v := by
  have e : ((((r ++ [v]).length : Nat) : Int) - 1).toNat = r.length := by simp
  simp [e]
theorem takeC_last {α : Type} (r : List α) (v : α) : (r ++ [v]).take ((((r ++ [v]).length : Nat) : Int) - 1).toNat = r := by
  have e : ((((r ++ [v]).length : Nat) : Int) - 1).toNat = r.length := by simp
  rw [e, List.take_left]
theorem SReached (G : List (Nat × List D)) (g : Gr) : ACr Try.prog G 38 [grA g] (.tup [.d (boolsD (reachedOf g).1), .int (reachedOf g).2]) := by
  refine AC_ofV (ts := [2, 3]) Try.f38.ntmps Try.func38 rfl rfl rfl (by simp [Try.ntmps38]) fun W I => ?_
  have E := SCheck G g
  by_cases hk : ¬ okG g
  · have e : graphF g = 9 := if_neg hk
    rw [e] at E
    repeat' (first
      | ((with_reducible apply call0); (focus rfl); (focus exact cal_SCheck); (focus exact E); (focus rfl))
      | ((with_reducible apply je_call0); (focus rfl); (focus (decide +kernel)); (focus rfl); (focus exact cal_SCheck); (focus exact E); (focus rfl))
      | exact True.intro
      | refine stpa ?_
      | refine two ?_ ?_
      | (refine imp fun hc => ?_) <;> try (first | contradiction | (exfalso; omega))
      | refine all fun v_ => ?_)
    refine retv (VS.trans (VS.drop (List.nil_sublist _)) (vnil (t := 2) 1 1 rfl)) ?_
    ((with_reducible apply rq2); rfl; rfl; rfl)
    exact ret_eq (by rw [reachedOf_no hk]; rfl)
  obtain ⟨g, rfl, hok⟩ := okG_nat (Decidable.not_not.1 hk)
  rw [graphF_ok (Gn.ok_gr hok)] at E
  rw [gnA_eq] at E ⊢
  clear hk
  have hs := hok.size
  have hi0 := hok.init
  have hnl := hok.next
  repeat' (first
    | ((with_reducible apply call0); (focus rfl); (focus exact cal_SCheck); (focus exact E); (focus rfl))
    | ((with_reducible apply je_call0); (focus rfl); (focus (decide +kernel)); (focus rfl); (focus exact cal_SCheck); (focus exact E); (focus rfl))
    | exact True.intro
    | refine stpa ?_
    | refine two ?_ ?_
    | (refine imp fun hc => ?_) <;> try (first | contradiction | (exfalso; omega))
    | refine all fun v_ => ?_)
  rename_i bg bv bs
  rename Nat => bt
  refine jrow (E := 3) (sz := 1) natC ?_
  refine J_loopV (X := (List Bool × List Nat) × Sl × Nat) (fun y => [(1, .val (.pointer (some ⟨bg, 0, none⟩))), (5, .val (.pointer (some ⟨bs, 0, none⟩))), (6, .val (.pointer (some ⟨bt, 0, none⟩))), (7, .val (.func (.func 61) #[] #[.pointer (some ⟨bs, 0, none⟩), .pointer (some ⟨bt, 0, none⟩)])), (23, .int g.init), (24, .int y.2.2)]) (fun y => [.cells bs 54 [.val (.slice (some ⟨bv, 0, none⟩) g.spots.length g.spots.length)], .cells bv 4 (y.1.1.map AV.bool), .cells bt 36 [.val y.2.1.v], rowE y.2.1.v 3 1 natC y.1.2, .cells bg 50 [.d (opsD g.spots), .int g.init, .d (natLD g.next), .d (natsD g.sets), .int g.many]]) (fun y => RI g none y.2.2 y.1 ∧ y.2.2 ≤ g.init ∧ muR y.1 ≤ 2 * g.spots.length) (fun y => g.init - y.2.2) ((List.replicate g.spots.length false, []), Sl.nil, 0) ⟨RI.start g, Nat.zero_le _, ?_⟩ (VS.take (by ((repeat (first | with_reducible exact Take.nil | ((with_reducible apply Take.cons); (focus ((repeat (first | with_reducible exact Sel.here | with_reducible apply Sel.there)); done))))); done)) ?_) ?_
  · simp [muR, unseen_rep]
  · repeat (first
      | exact Env.le_nil _
      | refine Env.le_cons (AV.le_refl _) ?_
      | refine Env.le_cons (AV.le_int rfl (by first | rfl | omega | (dsimp only; omega))) ?_)
  rintro ⟨p, q, i⟩ ⟨h1, h2, h3⟩
  dsimp only at h1 h2 h3 ⊢
  have hp := h1.len
  have hp2 : p.2.length ≤ 100000 := by unfold muR at h3; omega
  by_cases hi : i < g.init
  · have hin : i < g.spots.length := by omega
    repeat' (first
      | ((with_reducible apply callGV); (focus rfl); (focus rfl); (focus exact cal_visit); (focus exact visit _ bs bt bv _ i p q hp hin hs hp2); (focus ((repeat (first | with_reducible exact Take.nil | ((with_reducible apply Take.cons); (focus ((repeat (first | with_reducible exact Sel.here | with_reducible apply Sel.there)); done))))); done)); (focus rfl); (focus (intro v_; (repeat (first | exact App.nil | apply App.cons)); done)))
      | exact True.intro
      | refine stpa ?_
      | refine two ?_ ?_
      | (refine imp fun hc => ?_) <;> try (first | contradiction | (exfalso; omega))
      | refine all fun v_ => ?_)
    have hm := visit_mu (p := p) (i := i) (by omega)
    refine ⟨(visitF p i, v_, i + 1), ⟨h1.initStep hok hi, by dsimp only; omega, by dsimp only; omega⟩, by dsimp only; omega, VS.of_le ?_⟩
    repeat (first
      | exact Env.le_nil _
      | refine Env.le_cons (AV.le_refl _) ?_
      | refine Env.le_cons (AV.le_int rfl (by first | rfl | omega | (dsimp only; omega))) ?_)
  obtain rfl : i = g.init := by omega
  repeat' (first
    | exact True.intro
    | refine stpa ?_
    | refine two ?_ ?_
    | (refine imp fun hc => ?_) <;> try (first | contradiction | (exfalso; omega))
    | refine all fun v_ => ?_)
  refine J_loopV (X := (List Bool × List Nat) × Sl) (fun y => [(1, .val (.pointer (some ⟨bg, 0, none⟩))), (5, .val (.pointer (some ⟨bs, 0, none⟩))), (6, .val (.pointer (some ⟨bt, 0, none⟩))), (7, .val (.func (.func 61) #[] #[.pointer (some ⟨bs, 0, none⟩), .pointer (some ⟨bt, 0, none⟩)]))]) (fun y => [.cells bs 54 [.val (.slice (some ⟨bv, 0, none⟩) g.spots.length g.spots.length)], .cells bv 4 (y.1.1.map AV.bool), .cells bt 36 [.val y.2.v], rowE y.2.v 3 1 natC y.1.2, .cells bg 50 [.d (opsD g.spots), .int g.init, .d (natLD g.next), .d (natsD g.sets), .int g.many]]) (fun y => RI g none g.init y.1 ∧ muR y.1 ≤ 2 * g.spots.length) (fun y => muR y.1) (p, q) ⟨h1, h3⟩ (VS.of_le ?_) ?_
  · repeat (first
      | exact Env.le_nil _
      | refine Env.le_cons (AV.le_refl _) ?_
      | refine Env.le_cons (AV.le_int rfl (by first | rfl | omega | (dsimp only; omega))) ?_)
  clear h1 h3 hp hp2 hi h2
  rintro ⟨⟨s, td⟩, q⟩ ⟨h1, h3⟩
  dsimp only at h1 h3 ⊢
  have hp := h1.len
  have hp2 : td.length ≤ 100000 := by unfold muR at h3; dsimp only at h3; omega
  rcases List.eq_nil_or_concat td with e | ⟨r, v, e⟩
  · subst e
    repeat' (first
      | exact True.intro
      | refine stpa ?_
      | refine two ?_ ?_
      | (refine imp fun hc => ?_) <;> try (first | contradiction | (exfalso; omega))
      | refine all fun v_ => ?_)
    refine retv (VS.trans (VS.drop (h' := [.cells bv 4 (s.map AV.bool)]) (by (repeat (first | exact List.nil_sublist _ | (with_reducible apply List.Sublist.cons_cons) | apply List.Sublist.cons)))) (vfz (t := 2) (f := boolC) (h1 := []) 1 1 rfl rfl rfl (bools_flat s) hp (fun _ => rfl) (by omega) (by omega))) ?_
    ((with_reducible apply rq2); rfl; rfl; rfl)
    exact ret_eq (by rw [reachedOf_ok hok, ← h1.all rfl])
  · rw [List.concat_eq_append] at e
    subst e
    have hv := h1.todo v (by simp)
    have hvn : v < g.next.length := by omega
    have hlr : ((r ++ [v]).length : Int) = r.length + 1 := by simp
    repeat' (first
      | exact True.intro
      | refine stpa ?_
      | refine two ?_ ?_
      | (refine imp fun hc => ?_) <;> try (first | contradiction | (exfalso; omega))
      | refine all fun v_ => ?_)
    simp only [getC_last, takeC_last]
    repeat' (first
      | exact True.intro
      | refine stpa ?_
      | refine two ?_ ?_
      | (refine imp fun hc => ?_) <;> try (first | contradiction | (exfalso; omega))
      | refine all fun v_ => ?_)
    have h1' := h1.pop (v := v) (r := r) rfl
    have hm1 : muR (s, r) < muR (s, r ++ [v]) := by simp [muR]
    have hnx := g.nx_get v hvn
    refine J_loopV (X := (List Bool × List Nat) × Sl × Nat) (fun y => [(1, .val (.pointer (some ⟨bg, 0, none⟩))), (5, .val (.pointer (some ⟨bs, 0, none⟩))), (6, .val (.pointer (some ⟨bt, 0, none⟩))), (7, .val (.func (.func 61) #[] #[.pointer (some ⟨bs, 0, none⟩), .pointer (some ⟨bt, 0, none⟩)])), (49, .d (natsD g.next[v])), (50, .int g.next[v].length), (51, .int y.2.2)]) (fun y => [.cells bs 54 [.val (.slice (some ⟨bv, 0, none⟩) g.spots.length g.spots.length)], .cells bv 4 (y.1.1.map AV.bool), .cells bt 36 [.val y.2.1.v], rowE y.2.1.v 3 1 natC y.1.2, .cells bg 50 [.d (opsD g.spots), .int g.init, .d (natLD g.next), .d (natsD g.sets), .int g.many]]) (fun y => RI g (some (v, y.2.2)) g.init y.1 ∧ bi y.1.1 v = true ∧ y.2.2 ≤ g.next[v].length ∧ muR y.1 ≤ muR (s, r)) (fun y => g.next[v].length - y.2.2) ((s, r), v_, 0) ⟨h1', hv.2, Nat.zero_le _, Nat.le_refl _⟩ (VS.of_le ?_) ?_
    · repeat (first
        | exact Env.le_nil _
        | refine Env.le_cons (AV.le_refl _) ?_
        | refine Env.le_cons (AV.le_int rfl (by first | rfl | omega | (dsimp only; omega))) ?_)
    rintro ⟨p, q, j⟩ ⟨k1, k2, k3, k4⟩
    dsimp only at k1 k2 k3 k4 ⊢
    refine jfact (t := 49) rfl fun hlj => ?_
    have hpl := k1.len
    have hp3 : p.2.length ≤ 100000 := by
      have h5 : muR p ≤ 2 * g.spots.length := by omega
      unfold muR at h5; omega
    by_cases hj : j < g.next[v].length
    · have hj' : j < (g.nx v).length := by rw [hnx]; exact hj
      have hke : (g.nx v)[j] = g.next[v][j] := by simp only [hnx]
      have hkn := g.nx_lt hok v _ (List.getElem_mem hj')
      have ke := k1.edge hok k2 hj'
      rw [hke] at hkn ke
      repeat' (first
        | ((with_reducible apply callGV); (focus rfl); (focus rfl); (focus exact cal_visit); (focus exact visit _ bs bt bv _ g.next[v][j] p q hpl hkn hs hp3); (focus ((repeat (first | with_reducible exact Take.nil | ((with_reducible apply Take.cons); (focus ((repeat (first | with_reducible exact Sel.here | with_reducible apply Sel.there)); done))))); done)); (focus rfl); (focus (intro v_; (repeat (first | exact App.nil | apply App.cons)); done)))
        | exact True.intro
        | refine stpa ?_
        | refine two ?_ ?_
        | (refine imp fun hc => ?_) <;> try (first | contradiction | (exfalso; omega))
        | refine all fun v_ => ?_)
      have hm := visit_mu (p := p) (i := g.next[v][j]) (by omega)
      refine ⟨(visitF p g.next[v][j], v_, j + 1), ⟨ke, visit_keeps (by omega) k2, by dsimp only; omega, by dsimp only; omega⟩, by dsimp only; omega, VS.of_le ?_⟩
      repeat (first
        | exact Env.le_nil _
        | refine Env.le_cons (AV.le_refl _) ?_
        | refine Env.le_cons (AV.le_int rfl (by first | rfl | omega | (dsimp only; omega))) ?_)
    · have ej : j = (g.nx v).length := by rw [hnx]; omega
      rw [ej] at k1
      repeat' (first
        | exact True.intro
        | refine stpa ?_
        | refine two ?_ ?_
        | (refine imp fun hc => ?_) <;> try (first | contradiction | (exfalso; omega))
        | refine all fun v_ => ?_)
      refine ⟨(p, q), ⟨k1.done, by dsimp only; omega⟩, by dsimp only; omega, VS.of_le ?_⟩
      repeat (first
        | exact Env.le_nil _
        | refine Env.le_cons (AV.le_refl _) ?_
        | refine Env.le_cons (AV.le_int rfl (by first | rfl | omega | (dsimp only; omega))) ?_)
end Go.Proofs.Ytffdlpjbbkhcnaa
