/- Contracts: polish.Depth, foretellref.DepthOf. -/
import Derived.Test.YtnhbcnfkjfigoaaDoorT4
import Derived.Test.YtnhbcnfkjfigoaaDoorSc
namespace Go.Proofs.YtnhbcnfkjfigoaaDoor
open Go Go.Av Go.Sp

theorem cal_Depth : Cal Tryd.prog 24 := Cal.of Tryd.func24 (by kernel_rfl) (by kernel_rfl)
theorem cal_DepthOf : Cal Tryd.prog 25 := Cal.of Tryd.func25 (by kernel_rfl) (by kernel_rfl)
theorem Depth (l : List Fo) : ACr Tryd.prog GP 24 [.d (opsD l)] (.tup [.int (depthOf l).1, .int (depthOf l).2]) := by
  have hE := Ends l
  generalize he : endsOf l = p at hE
  obtain ⟨es, e⟩ := p
  refine AC_of (ts := [2, 3]) 41 Tryd.func24 rfl rfl rfl (by simp) fun W I => ?_
  repeat' (first
    | ((with_reducible apply call0); (focus rfl); (focus exact cal_Ends); (focus exact hE); (focus rfl))
    | refine stp ?_
    | refine two ?_ ?_
    | (refine imp fun hc => ?_) <;> try (first | contradiction | (exfalso; omega))
    | refine all fun v_ => ?_)
  · ((with_reducible apply rq2); rfl; rfl; rfl)
    refine ret_eq ?_
    rw [depthOf, he, if_pos hc]
  have e0 : e = 0 := by simpa using hc
  subst e0
  obtain ⟨hl, h0, h1, hlen, hes⟩ := endsOf_ok he
  have hs : depthOf l = (((deep l : Nat) : Int), 0) := by rw [depthOf, he]; rfl
  refine J_loop (X := Nat) (fun i => [(0, .d (opsD l)), (4, .d (intsD es)), (6, .int (mxr (count l) i : Nat)), (19, .int l.length), (20, .int i)]) (fun _ => []) (fun i => i ≤ l.length) (fun i => l.length - i) 0 (Nat.zero_le _) ?_ rfl ?_
  · repeat (first
      | exact Env.le_nil _
      | refine Env.le_cons (AV.le_refl _) ?_
      | refine Env.le_cons (AV.le_int rfl (by first | rfl | omega | (dsimp only; omega))) ?_)
  rintro i hi
  have hmx := mxr_count_le l i
  by_cases hil : i < l.length
  · repeat' (first
      | ((with_reducible apply call0); (focus rfl); (focus exact cal_Ends); (focus exact hE); (focus rfl))
      | refine stp ?_
      | refine two ?_ ?_
      | (refine imp fun hc => ?_) <;> try (first | contradiction | (exfalso; omega))
      | refine all fun v_ => ?_)
    refine J_loop (X := Nat) (fun k => [(0, .d (opsD l)), (4, .d (intsD es)), (6, .int (mxr (count l) i : Nat)), (7, .int i), (8, .int (cntr (fun k => decide ((i : Int) < (Sp.endOf l k).1)) k : Nat)), (9, .int k), (19, .int l.length), (20, .int i)]) (fun _ => []) (fun k => k ≤ i + 1) (fun k => i + 1 - k) 0 (Nat.zero_le _) ?_ rfl ?_
    · repeat (first
        | exact Env.le_nil _
        | refine Env.le_cons (AV.le_refl _) ?_
        | refine Env.le_cons (AV.le_int rfl (by first | rfl | omega | (dsimp only; omega))) ?_)
    rintro k hk
    have hcn := cntr_le (fun k => decide ((i : Int) < (Sp.endOf l k).1)) k
    by_cases hki : k < i + 1
    · have hek := hes k (by omega)
      repeat' (first
        | ((with_reducible apply call0); (focus rfl); (focus exact cal_Ends); (focus exact hE); (focus rfl))
        | refine stp ?_
        | refine two ?_ ?_
        | (refine imp fun hc => ?_) <;> try (first | contradiction | (exfalso; omega))
        | refine all fun v_ => ?_)
      · refine ⟨k + 1, by omega, by omega, ?_, rfl⟩
        have : cntr (fun k => decide ((i : Int) < (Sp.endOf l k).1)) (k + 1) = cntr (fun k => decide ((i : Int) < (Sp.endOf l k).1)) k + 1 := by simp only [cntr]; rw [if_pos (by simp; omega)]
        repeat (first
          | exact Env.le_nil _
          | refine Env.le_cons (AV.le_refl _) ?_
          | refine Env.le_cons (AV.le_int rfl (by first | rfl | omega | (dsimp only; omega))) ?_)
      · refine ⟨k + 1, by omega, by omega, ?_, rfl⟩
        have : cntr (fun k => decide ((i : Int) < (Sp.endOf l k).1)) (k + 1) = cntr (fun k => decide ((i : Int) < (Sp.endOf l k).1)) k := by simp only [cntr]; rw [if_neg (by simp; omega)]; rfl
        repeat (first
          | exact Env.le_nil _
          | refine Env.le_cons (AV.le_refl _) ?_
          | refine Env.le_cons (AV.le_int rfl (by first | rfl | omega | (dsimp only; omega))) ?_)
    · have hk1 : k = i + 1 := by omega
      subst hk1
      repeat' (first
        | ((with_reducible apply call0); (focus rfl); (focus exact cal_Ends); (focus exact hE); (focus rfl))
        | refine stp ?_
        | refine two ?_ ?_
        | (refine imp fun hc => ?_) <;> try (first | contradiction | (exfalso; omega))
        | refine all fun v_ => ?_)
      refine ⟨i + 1, by omega, by omega, ?_, rfl⟩
      have : mxr (count l) (i + 1) = max (mxr (count l) i) (cntr (fun k => decide ((i : Int) < (Sp.endOf l k).1)) (i + 1)) := rfl
      repeat (first
        | exact Env.le_nil _
        | refine Env.le_cons (AV.le_refl _) ?_
        | refine Env.le_cons (AV.le_int rfl (by first | rfl | omega | (dsimp only; omega))) ?_)
  · repeat' (first
      | ((with_reducible apply call0); (focus rfl); (focus exact cal_Ends); (focus exact hE); (focus rfl))
      | refine stp ?_
      | refine two ?_ ?_
      | (refine imp fun hc => ?_) <;> try (first | contradiction | (exfalso; omega))
      | refine all fun v_ => ?_)
    ((with_reducible apply rq2); rfl; rfl; rfl)
    refine ret_eq ?_
    have : i = l.length := by omega
    rw [hs, this]; rfl

theorem DepthOf (G : List (Nat × List D)) : ∀ (m : Nat) (l : List Fo), l.length ≤ m → ACr Tryd.prog G 25 [.d (opsD l)] (.tup [.int (depthOf l).1, .int (depthOf l).2]) := by
  intro m
  induction m using Nat.strongRecOn with
  | _ m ih =>
  intro l hm
  have hE := SplitOf G l
  generalize he : splitOf l = p at hE
  obtain ⟨ps, e⟩ := p
  have he2 : (endsOf l).2 = e := by
    unfold splitOf at he
    split at he
    · simp at he; exact he.2
    · rename_i h; simp at he h; rw [h]; exact he.2
  refine AC_of (ts := [2, 3]) 38 Tryd.func25 rfl rfl rfl (by simp) fun W I => ?_
  repeat' (first
    | ((with_reducible apply call0); (focus rfl); (focus exact cal_SplitOf); (focus exact hE); (focus rfl))
    | ((with_reducible apply call0); (focus rfl); (focus exact cal_DepthOf); (focus exact hD); (focus rfl))
    | refine stp ?_
    | refine two ?_ ?_
    | (refine imp fun hc => ?_) <;> try (first | contradiction | (exfalso; omega))
    | refine all fun v_ => ?_)
  · ((with_reducible apply rq2); rfl; rfl; rfl)
    refine ret_eq ?_
    rw [depthOf, he2, if_pos hc]
  have e0 : e = 0 := by simpa using hc
  subst e0
  have hs : depthOf l = (((deep l : Nat) : Int), 0) := by rw [depthOf, he2]; rfl
  obtain ⟨hdp, hwell⟩ := deep_parts he2
  rw [he] at hdp hwell
  dsimp only at hdp hwell
  obtain ⟨h60, _, _, _, _⟩ := endsOf_ok (l := l) (es := (endsOf l).1) (Prod.ext rfl he2)
  have hdl : deep l ≤ l.length := mxr_count_le l l.length
  refine jfact (t := 4) rfl fun hl4 => ?_
  have hl4 : ps.length * 24 ≤ 140737488355328 := hl4
  refine J_loop (X := Nat) (fun i => [(4, .d (termsD ps)), (6, .int (most (ps.take i) : Nat)), (7, .int i)]) (fun _ => []) (fun i => i ≤ ps.length) (fun i => ps.length - i) 0 (Nat.zero_le _) ?_ rfl ?_
  · repeat (first
      | exact Env.le_nil _
      | refine Env.le_cons (AV.le_refl _) ?_
      | refine Env.le_cons (AV.le_int rfl (by first | rfl | omega | (dsimp only; omega))) ?_)
  rintro i hi
  by_cases hil : i < ps.length
  · have hw := hwell ps[i] (List.getElem_mem hil)
    have hD := ih ps[i].length (by omega) ps[i] (Nat.le_refl _)
    have hd : depthOf ps[i] = (((deep ps[i] : Nat) : Int), 0) := by rw [depthOf, hw.1]; rfl
    rw [hd] at hD
    have hmt := most_take ps i hil
    repeat' (first
      | ((with_reducible apply call0); (focus rfl); (focus exact cal_SplitOf); (focus exact hE); (focus rfl))
      | ((with_reducible apply call0); (focus rfl); (focus exact cal_DepthOf); (focus exact hD); (focus rfl))
      | refine stp ?_
      | refine two ?_ ?_
      | (refine imp fun hc => ?_) <;> try (first | contradiction | (exfalso; omega))
      | refine all fun v_ => ?_)
    all_goals dsimp only
    all_goals
      refine ⟨i + 1, by omega, by omega, ?_, rfl⟩
      repeat (first
        | exact Env.le_nil _
        | refine Env.le_cons (AV.le_refl _) ?_
        | refine Env.le_cons (AV.le_int rfl (by first | rfl | omega | (dsimp only; omega))) ?_)
  · have hmt : ps.take i = ps := List.take_of_length_le (by omega)
    rw [hmt]
    repeat' (first
      | ((with_reducible apply call0); (focus rfl); (focus exact cal_SplitOf); (focus exact hE); (focus rfl))
      | ((with_reducible apply call0); (focus rfl); (focus exact cal_DepthOf); (focus exact hD); (focus rfl))
      | refine stp ?_
      | refine two ?_ ?_
      | (refine imp fun hc => ?_) <;> try (first | contradiction | (exfalso; omega))
      | refine all fun v_ => ?_)
    ((with_reducible apply rq2); rfl; rfl; rfl)
    refine ret_eq ?_
    rw [hs, hdp]
    have : ((most ps : Nat) : Int) + 1 = ((1 + most ps : Nat) : Int) := by omega
    rw [this]
end Go.Proofs.YtnhbcnfkjfigoaaDoor
