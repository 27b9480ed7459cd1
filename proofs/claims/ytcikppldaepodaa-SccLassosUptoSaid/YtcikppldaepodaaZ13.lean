/- A bundle of this claim's own texts: V13 V9. -/
import Derived.Test.YtcikppldaepodaaZ2
import Derived.Test.YtcikppldaepodaaZ4
import Derived.Test.YtcikppldaepodaaZ12
namespace Go.Sp
open Go Go.Av
set_option linter.unusedVariables false
set_option linter.unusedSimpArgs false
theorem chainP_get {nx : Nat → List Nat} {ins : Nat → Bool} : ∀ {l : List Nat}, chainP nx ins l → ∀ (i : Nat) (h : i + 1 < l.length), l[i + 1] ∈ nx l[i]
  | [], _, i, h => by simp at h
  | [_], _, i, h => by simp at h
  | a :: b :: l, c, 0, h => c.1.1
  | a :: b :: l, c, i + 1, h => chainP_get (l := b :: l) c.2 i (by simpa using h)
theorem FitP.nextTo {g : Gn} {stem loop : List Nat} {a : Nat} {t : List Nat} (w : FitP g stem (a :: t)) (he : loop = a :: t) (i : Nat) (hi : i < (stem ++ loop).length) : (if h : i + 1 < (stem ++ loop).length then (stem ++ loop)[i + 1] else a) ∈ g.nx (stem ++ loop)[i] := by
  subst he
  have h1 := chainP_get (w.chain a rfl) i (by rw [List.length_append]; simp; simp at hi; omega)
  rw [List.getElem_append_left hi] at h1
  by_cases c : i + 1 < (stem ++ a :: t).length
  · rw [dif_pos c]
    rwa [List.getElem_append_left c] at h1
  · rw [dif_neg c]
    have e : (stem ++ a :: t ++ [a])[i + 1]'(by rw [List.length_append]; simp; simp at hi; omega) = a := by rw [List.getElem_append_right (by omega)]; simp
    rwa [e] at h1
theorem any_succ {α : Type} (p : α → Bool) (l : List α) (k : Nat) (h : k < l.length) : (l.take (k + 1)).any p = ((l.take k).any p || p l[k]) := by
  rw [List.take_succ_eq_append_getElem h, List.any_append]; simp
end Go.Sp
namespace Go.Proofs.Ytcikppldaepodaa
open Go Go.Av Go.Sp
set_option linter.unusedVariables false
set_option linter.unusedSimpArgs false
set_option maxRecDepth 100000
set_option maxHeartbeats 4000000
theorem cal_LassoFits : Cal Try.prog 12 := Cal.of Try.func12 (by kernel_rfl) (by kernel_rfl)
theorem LassoFits (G : List (Nat × List D)) (g : Gn) (hok : g.ok) (stem loop : List Nat) (w : FitP g stem loop) (hl : stem.length + loop.length ≤ 1000000) : ACr Try.prog G 12 [gnA g, .agg [.d (natsD stem), .d (natsD loop)]] (.bool true) := by
  obtain ⟨a, t, he⟩ : ∃ a t, loop = a :: t := by
    cases hlp' : loop with
    | nil => exact absurd hlp' w.ne
    | cons a t => exact ⟨a, t, rfl⟩
  have hlp := List.length_pos_iff.2 w.ne
  have ha0 : loop[0] = a := by simp [he]
  have hw2 := fun i hi => FitP.nextTo (loop := loop) (he ▸ w) he i hi
  have hlt : ∀ i (h : i < (stem ++ loop).length), (stem ++ loop)[i] < g.spots.length := fun i h => w.lt _ (List.getElem_mem h)
  have hltl : ∀ i (h : i < loop.length), loop[i] < g.spots.length := fun i h => w.lt _ (List.mem_append_right _ (List.getElem_mem h))
  have h0l : 0 < (stem ++ loop).length := by rw [List.length_append]; omega
  have hfi0 : (stem ++ loop)[0]'h0l < g.init := w.first _ (by rw [List.head?_eq_getElem?, List.getElem?_eq_getElem])
  have hfi : (stem ++ loop)[nat_lit 0]'h0l < g.init := hfi0
  have hbt := w.bits
  have hal : (stem ++ loop).length = stem.length + loop.length := List.length_append
  have hsz := hok.size
  have hnl := hok.next
  have hsl := hok.sets
  have hm := hok.many
  refine AC.factN (g := natLC) (f := natC) (xss := g.next) 1 8 (fun _ => rfl) (.agg (.there (.there .here))) fun hN => ?_
  refine AC_ofV (ts := [4]) Try.f12.ntmps Try.func12 rfl rfl rfl (by simp [Try.ntmps12]) fun W I => ?_
  refine jrow (E := 3) (sz := 1) natC ?_
  all_goals haveI fA_ : FlagA := ⟨⟩
  repeat' (first
    | exact True.intro
    | refine stp ?_
    | refine two ?_ ?_
    | (refine imp fun hc => ?_) <;> try (first | contradiction | (exfalso; omega))
    | refine all fun v_ => ?_)
  all_goals clear fA_
  obtain ⟨bl, rfl⟩ : ∃ x, x = v_ := ⟨v_, rfl⟩
  obtain ⟨bg, rfl⟩ : ∃ x, x = v_ := ⟨v_, rfl⟩
  refine J_loopV (X := Nat × Sl) (fun y => [(2, .val (.pointer (some ⟨bg, 0, none⟩))), (3, .val (.pointer (some ⟨bl, 0, none⟩))), (5, .val y.2.v), (6, .int y.1)]) (fun y => [rowE y.2.v 3 1 natC (stem.take y.1), .cells bl 29 [.d (natsD stem), .d (natsD loop)], .cells bg 26 [.d (opsD g.spots), .int g.init, .d (natLD g.next), .d (natsD g.sets), .int g.many]]) (fun y => y.1 ≤ stem.length) (fun y => stem.length - y.1) (0, Sl.nil) (Nat.zero_le _) (VS.take (by ((repeat (first | exact Take.nil | ((with_reducible apply Take.cons); (focus ((repeat (first | exact Sel.here | with_reducible apply Sel.there)); done))))); done)) ?_) ?_
  · repeat (first
      | exact Env.le_nil _
      | refine Env.le_cons (AV.le_refl _) ?_
      | refine Env.le_cons (AV.le_int rfl (by first | rfl | omega | (dsimp only; omega))) ?_)
  rintro ⟨i, q⟩ hi
  dsimp only at hi ⊢
  by_cases hil : i < stem.length
  · have et : stem.take i ++ [stem[i]] = stem.take (i + 1) := (List.take_succ_eq_append_getElem hil).symm
    have hlen : (stem.take i).length = i := by rw [List.length_take]; omega
    all_goals haveI fA_ : FlagA := ⟨⟩
    repeat' (first
      | ((with_reducible apply (japU1 (f := natC) (u := stem[i]))); (focus rfl); (focus rfl); (focus (with_reducible exact ElC.h)); (focus (intro q_; (repeat (first | with_reducible exact Upd.here | with_reducible apply Upd.there)); done)); (focus rfl); (focus rfl); (focus rfl); (focus rfl); (focus (first | omega | (simp only [List.length_map, List.length_range, List.length_append, List.length_cons, List.length_nil, List.length_take, List.length_drop, List.length_set, List.length_replicate]; omega))); (focus (first | omega | (simp only [List.length_map, List.length_range, List.length_append, List.length_cons, List.length_nil, List.length_take, List.length_drop, List.length_set, List.length_replicate]; omega))))
      | exact True.intro
      | refine stp ?_
      | refine two ?_ ?_
      | (refine imp fun hc => ?_) <;> try (first | contradiction | (exfalso; omega))
      | refine all fun v_ => ?_)
    all_goals clear fA_
    refine ⟨(i + 1, v_), by dsimp only; omega, by dsimp only; omega, VS.take (by dsimp only; rw [← et]; ((repeat (first | exact Take.nil | ((with_reducible apply Take.cons); (focus ((repeat (first | exact Sel.here | with_reducible apply Sel.there)); done))))); done)) ?_⟩
    repeat (first
      | exact Env.le_nil _
      | refine Env.le_cons (AV.le_refl _) ?_
      | refine Env.le_cons (AV.le_int rfl (by first | rfl | omega | (dsimp only; omega))) ?_)
  obtain rfl : i = stem.length := by omega
  rw [List.take_length]
  all_goals haveI fA_ : FlagA := ⟨⟩
  repeat' (first
    | exact True.intro
    | refine stp ?_
    | refine two ?_ ?_
    | (refine imp fun hc => ?_) <;> try (first | contradiction | (exfalso; omega))
    | refine all fun v_ => ?_)
  all_goals clear fA_
  refine J_loopV (X := Nat × Sl) (fun y => [(2, .val (.pointer (some ⟨bg, 0, none⟩))), (3, .val (.pointer (some ⟨bl, 0, none⟩))), (5, .val y.2.v), (7, .int y.1)]) (fun y => [rowE y.2.v 3 1 natC (stem ++ loop.take y.1), .cells bl 29 [.d (natsD stem), .d (natsD loop)], .cells bg 26 [.d (opsD g.spots), .int g.init, .d (natLD g.next), .d (natsD g.sets), .int g.many]]) (fun y => y.1 ≤ loop.length) (fun y => loop.length - y.1) (0, q) (Nat.zero_le _) (VS.take (by dsimp only; rw [List.take_zero, List.append_nil]; ((repeat (first | exact Take.nil | ((with_reducible apply Take.cons); (focus ((repeat (first | exact Sel.here | with_reducible apply Sel.there)); done))))); done)) ?_) ?_
  · repeat (first
      | exact Env.le_nil _
      | refine Env.le_cons (AV.le_refl _) ?_
      | refine Env.le_cons (AV.le_int rfl (by first | rfl | omega | (dsimp only; omega))) ?_)
  rintro ⟨i, q⟩ hi
  dsimp only at hi ⊢
  by_cases hil : i < loop.length
  · have et : stem ++ loop.take i ++ [loop[i]] = stem ++ loop.take (i + 1) := by rw [List.append_assoc, List.take_succ_eq_append_getElem hil]
    have hlen : (stem ++ loop.take i).length = stem.length + i := by rw [List.length_append, List.length_take]; omega
    all_goals haveI fA_ : FlagA := ⟨⟩
    repeat' (first
      | ((with_reducible apply (japU1 (f := natC) (u := loop[i]))); (focus rfl); (focus rfl); (focus (with_reducible exact ElC.h)); (focus (intro q_; (repeat (first | with_reducible exact Upd.here | with_reducible apply Upd.there)); done)); (focus rfl); (focus rfl); (focus rfl); (focus rfl); (focus (first | omega | (simp only [List.length_map, List.length_range, List.length_append, List.length_cons, List.length_nil, List.length_take, List.length_drop, List.length_set, List.length_replicate]; omega))); (focus (first | omega | (simp only [List.length_map, List.length_range, List.length_append, List.length_cons, List.length_nil, List.length_take, List.length_drop, List.length_set, List.length_replicate]; omega))))
      | exact True.intro
      | refine stp ?_
      | refine two ?_ ?_
      | (refine imp fun hc => ?_) <;> try (first | contradiction | (exfalso; omega))
      | refine all fun v_ => ?_)
    all_goals clear fA_
    refine ⟨(i + 1, v_), by dsimp only; omega, by dsimp only; omega, VS.take (by dsimp only; rw [← et]; ((repeat (first | exact Take.nil | ((with_reducible apply Take.cons); (focus ((repeat (first | exact Sel.here | with_reducible apply Sel.there)); done))))); done)) ?_⟩
    repeat (first
      | exact Env.le_nil _
      | refine Env.le_cons (AV.le_refl _) ?_
      | refine Env.le_cons (AV.le_int rfl (by first | rfl | omega | (dsimp only; omega))) ?_)
  obtain rfl : i = loop.length := by omega
  rw [List.take_length]
  refine J_vs (vfreeze (t := 5) (eb := 8) rfl rfl (fun x => rfl) (by omega)) ?_
  all_goals haveI fA_ : FlagA := ⟨⟩
  all_goals haveI fH_ : FlagH := ⟨⟩
  repeat' (first
    | ((with_reducible apply call0); (focus rfl); (focus exact cal_In); (focus exact In _ _ _ _); (focus rfl))
    | ((with_reducible apply je_call0); (focus rfl); (focus (decide +kernel)); (focus rfl); (focus exact cal_In); (focus exact In _ _ _ _); (focus rfl))
    | ((with_reducible apply qcall); (focus rfl); (focus exact cal_In); (focus exact In _ _ _ _); (focus rfl))
    | exact True.intro
    | refine stp ?_
    | refine two ?_ ?_
    | refine allc fun c_ => ?_
    | (refine imp fun hc => ?_) <;> try (first | contradiction | (exfalso; omega) | (exfalso; exact absurd (of_dT hc) (by assumption)) | (exfalso; exact of_dF hc (by assumption)))
    | refine all fun v_ => ?_)
  all_goals clear fA_ fH_
  refine J_loopV (X := Nat) (fun i => [(2, .val (.pointer (some ⟨bg, 0, none⟩))), (3, .val (.pointer (some ⟨bl, 0, none⟩))), (5, .d (natsD (stem ++ loop))), (8, .int i)]) (fun _ => [.cells bl 29 [.d (natsD stem), .d (natsD loop)], .cells bg 26 [.d (opsD g.spots), .int g.init, .d (natLD g.next), .d (natsD g.sets), .int g.many]]) (fun i => i ≤ (stem ++ loop).length) (fun i => (stem ++ loop).length - i) 0 (Nat.zero_le _) (VS.take (by ((repeat (first | exact Take.nil | ((with_reducible apply Take.cons); (focus ((repeat (first | exact Sel.here | with_reducible apply Sel.there)); done))))); done)) ?_) ?_
  · repeat (first
      | exact Env.le_nil _
      | refine Env.le_cons (AV.le_refl _) ?_
      | refine Env.le_cons (AV.le_int rfl (by first | rfl | omega | (dsimp only; omega))) ?_)
  intro i hi
  by_cases hil : i < (stem ++ loop).length
  · have hai := hlt i hil
    have hnx := g.nx_get (stem ++ loop)[i] (by omega)
    have hw3 := hw2 i hil
    have hlj := hN g.next[(stem ++ loop)[i]] (List.getElem_mem _)
    have hiN : (0 : Int) ≤ ((stem ++ loop)[i] : Int) ∧ ((stem ++ loop)[i] : Int) ≤ (g.spots.length : Int) - 1 := ⟨by omega, by omega⟩
    rw [hnx] at hw3
    by_cases c : i + 1 < (stem ++ loop).length
    · rw [dif_pos c] at hw3
      all_goals haveI fA_ : FlagA := ⟨⟩
      all_goals haveI fH_ : FlagH := ⟨⟩
      repeat' (first
        | ((with_reducible apply call0); (focus rfl); (focus exact cal_In); (focus exact In _ _ _ _); (focus rfl))
        | ((with_reducible apply je_call0); (focus rfl); (focus (decide +kernel)); (focus rfl); (focus exact cal_In); (focus exact In _ _ _ _); (focus rfl))
        | ((with_reducible apply qcall); (focus rfl); (focus exact cal_In); (focus exact In _ _ _ _); (focus rfl))
        | exact True.intro
        | refine stp ?_
        | refine two ?_ ?_
        | refine allc fun c_ => ?_
        | (refine imp fun hc => ?_) <;> try (first | contradiction | (exfalso; omega) | (exfalso; exact absurd (of_dT hc) (by assumption)) | (exfalso; exact of_dF hc (by assumption)))
        | refine all fun v_ => ?_)
      all_goals clear fA_ fH_
      refine J_loopV (X := Nat) (fun k => [(2, .val (.pointer (some ⟨bg, 0, none⟩))), (3, .val (.pointer (some ⟨bl, 0, none⟩))), (5, .d (natsD (stem ++ loop))), (8, .int i), (9, .int ((stem ++ loop)[i + 1] : Nat)), (10, .bool ((g.next[(stem ++ loop)[i]].take k).any fun x => x == (stem ++ loop)[i + 1])), (11, .int k)]) (fun _ => [.cells bl 29 [.d (natsD stem), .d (natsD loop)], .cells bg 26 [.d (opsD g.spots), .int g.init, .d (natLD g.next), .d (natsD g.sets), .int g.many]]) (fun k => k ≤ g.next[(stem ++ loop)[i]].length) (fun k => g.next[(stem ++ loop)[i]].length - k) 0 (Nat.zero_le _) (VS.of_le ?_) ?_
      · repeat (first
          | exact Env.le_nil _
          | refine Env.le_cons (AV.le_refl _) ?_
          | refine Env.le_cons (AV.le_int rfl (by first | rfl | omega | (dsimp only; omega))) ?_)
      intro k hk
      by_cases hkl : k < g.next[(stem ++ loop)[i]].length
      · have hst := any_succ (fun x => x == (stem ++ loop)[i + 1]) g.next[(stem ++ loop)[i]] k hkl
        have e : (g.next[(stem ++ loop)[i]][k] == (stem ++ loop)[i + 1]) = decide ((g.next[(stem ++ loop)[i]][k] : Int) = ((stem ++ loop)[i + 1] : Nat)) := by
          by_cases c : g.next[(stem ++ loop)[i]][k] = (stem ++ loop)[i + 1]
          · simp [c]
          · rw [decide_eq_false (by omega)]; simpa using c
        cases hb : (g.next[(stem ++ loop)[i]].take k).any fun x => x == (stem ++ loop)[i + 1] with
        | true =>
          rw [hb, Bool.true_or] at hst
          all_goals haveI fA_ : FlagA := ⟨⟩
          all_goals haveI fH_ : FlagH := ⟨⟩
          repeat' (first
            | ((with_reducible apply call0); (focus rfl); (focus exact cal_In); (focus exact In _ _ _ _); (focus rfl))
            | ((with_reducible apply je_call0); (focus rfl); (focus (decide +kernel)); (focus rfl); (focus exact cal_In); (focus exact In _ _ _ _); (focus rfl))
            | ((with_reducible apply qcall); (focus rfl); (focus exact cal_In); (focus exact In _ _ _ _); (focus rfl))
            | exact True.intro
            | refine stp ?_
            | refine two ?_ ?_
            | refine allc fun c_ => ?_
            | (refine imp fun hc => ?_) <;> try (first | contradiction | (exfalso; omega) | (exfalso; exact absurd (of_dT hc) (by assumption)) | (exfalso; exact of_dF hc (by assumption)))
            | refine all fun v_ => ?_)
          all_goals clear fA_ fH_
          refine ⟨k + 1, by omega, by omega, VS.of_le ?_⟩
          rw [hst]
          repeat (first
            | exact Env.le_nil _
            | refine Env.le_cons (AV.le_refl _) ?_
            | refine Env.le_cons (AV.le_int rfl (by first | rfl | omega | (dsimp only; omega))) ?_)
        | false =>
          rw [hb, Bool.false_or, e] at hst
          all_goals haveI fA_ : FlagA := ⟨⟩
          all_goals haveI fH_ : FlagH := ⟨⟩
          repeat' (first
            | ((with_reducible apply call0); (focus rfl); (focus exact cal_In); (focus exact In _ _ _ _); (focus rfl))
            | ((with_reducible apply je_call0); (focus rfl); (focus (decide +kernel)); (focus rfl); (focus exact cal_In); (focus exact In _ _ _ _); (focus rfl))
            | ((with_reducible apply qcall); (focus rfl); (focus exact cal_In); (focus exact In _ _ _ _); (focus rfl))
            | exact True.intro
            | refine stp ?_
            | refine two ?_ ?_
            | refine allc fun c_ => ?_
            | (refine imp fun hc => ?_) <;> try (first | contradiction | (exfalso; omega) | (exfalso; exact absurd (of_dT hc) (by assumption)) | (exfalso; exact of_dF hc (by assumption)))
            | refine all fun v_ => ?_)
          all_goals clear fA_ fH_
          refine ⟨k + 1, by omega, by omega, VS.of_le ?_⟩
          rw [hst]
          repeat (first
            | exact Env.le_nil _
            | refine Env.le_cons (AV.le_refl _) ?_
            | refine Env.le_cons (AV.le_int rfl (by first | rfl | omega | (dsimp only; omega))) ?_)
      replace hk : k = g.next[(stem ++ loop)[i]].length := by omega
      have hall : ((g.next[(stem ++ loop)[i]].take k).any fun x => x == (stem ++ loop)[i + 1]) = true := by
        rw [hk, List.take_length]; exact List.any_eq_true.2 ⟨_, hw3, by simp⟩
      rw [hall]
      all_goals haveI fA_ : FlagA := ⟨⟩
      all_goals haveI fH_ : FlagH := ⟨⟩
      repeat' (first
        | ((with_reducible apply call0); (focus rfl); (focus exact cal_In); (focus exact In _ _ _ _); (focus rfl))
        | ((with_reducible apply je_call0); (focus rfl); (focus (decide +kernel)); (focus rfl); (focus exact cal_In); (focus exact In _ _ _ _); (focus rfl))
        | ((with_reducible apply qcall); (focus rfl); (focus exact cal_In); (focus exact In _ _ _ _); (focus rfl))
        | exact True.intro
        | refine stp ?_
        | refine two ?_ ?_
        | refine allc fun c_ => ?_
        | (refine imp fun hc => ?_) <;> try (first | contradiction | (exfalso; omega) | (exfalso; exact absurd (of_dT hc) (by assumption)) | (exfalso; exact of_dF hc (by assumption)))
        | refine all fun v_ => ?_)
      all_goals clear fA_ fH_
      refine ⟨i + 1, by omega, by omega, VS.of_le ?_⟩
      repeat (first
        | exact Env.le_nil _
        | refine Env.le_cons (AV.le_refl _) ?_
        | refine Env.le_cons (AV.le_int rfl (by first | rfl | omega | (dsimp only; omega))) ?_)
    · rw [dif_neg c] at hw3
      all_goals haveI fA_ : FlagA := ⟨⟩
      all_goals haveI fH_ : FlagH := ⟨⟩
      repeat' (first
        | ((with_reducible apply call0); (focus rfl); (focus exact cal_In); (focus exact In _ _ _ _); (focus rfl))
        | ((with_reducible apply je_call0); (focus rfl); (focus (decide +kernel)); (focus rfl); (focus exact cal_In); (focus exact In _ _ _ _); (focus rfl))
        | ((with_reducible apply qcall); (focus rfl); (focus exact cal_In); (focus exact In _ _ _ _); (focus rfl))
        | exact True.intro
        | refine stp ?_
        | refine two ?_ ?_
        | refine allc fun c_ => ?_
        | (refine imp fun hc => ?_) <;> try (first | contradiction | (exfalso; omega) | (exfalso; exact absurd (of_dT hc) (by assumption)) | (exfalso; exact of_dF hc (by assumption)))
        | refine all fun v_ => ?_)
      all_goals clear fA_ fH_
      refine J_loopV (X := Nat) (fun k => [(2, .val (.pointer (some ⟨bg, 0, none⟩))), (3, .val (.pointer (some ⟨bl, 0, none⟩))), (5, .d (natsD (stem ++ loop))), (8, .int i), (9, .int (a : Nat)), (10, .bool ((g.next[(stem ++ loop)[i]].take k).any fun x => x == a)), (11, .int k)]) (fun _ => [.cells bl 29 [.d (natsD stem), .d (natsD loop)], .cells bg 26 [.d (opsD g.spots), .int g.init, .d (natLD g.next), .d (natsD g.sets), .int g.many]]) (fun k => k ≤ g.next[(stem ++ loop)[i]].length) (fun k => g.next[(stem ++ loop)[i]].length - k) 0 (Nat.zero_le _) (VS.of_le ?_) ?_
      · repeat (first
          | exact Env.le_nil _
          | refine Env.le_cons (AV.le_refl _) ?_
          | refine Env.le_cons (AV.le_int rfl (by first | rfl | omega | (dsimp only; omega))) ?_)
      intro k hk
      by_cases hkl : k < g.next[(stem ++ loop)[i]].length
      · have hst := any_succ (fun x => x == a) g.next[(stem ++ loop)[i]] k hkl
        have e : (g.next[(stem ++ loop)[i]][k] == a) = decide ((g.next[(stem ++ loop)[i]][k] : Int) = (a : Nat)) := by
          by_cases c : g.next[(stem ++ loop)[i]][k] = a
          · simp [c]
          · rw [decide_eq_false (by omega)]; simpa using c
        cases hb : (g.next[(stem ++ loop)[i]].take k).any fun x => x == a with
        | true =>
          rw [hb, Bool.true_or] at hst
          all_goals haveI fA_ : FlagA := ⟨⟩
          all_goals haveI fH_ : FlagH := ⟨⟩
          repeat' (first
            | ((with_reducible apply call0); (focus rfl); (focus exact cal_In); (focus exact In _ _ _ _); (focus rfl))
            | ((with_reducible apply je_call0); (focus rfl); (focus (decide +kernel)); (focus rfl); (focus exact cal_In); (focus exact In _ _ _ _); (focus rfl))
            | ((with_reducible apply qcall); (focus rfl); (focus exact cal_In); (focus exact In _ _ _ _); (focus rfl))
            | exact True.intro
            | refine stp ?_
            | refine two ?_ ?_
            | refine allc fun c_ => ?_
            | (refine imp fun hc => ?_) <;> try (first | contradiction | (exfalso; omega) | (exfalso; exact absurd (of_dT hc) (by assumption)) | (exfalso; exact of_dF hc (by assumption)))
            | refine all fun v_ => ?_)
          all_goals clear fA_ fH_
          refine ⟨k + 1, by omega, by omega, VS.of_le ?_⟩
          rw [hst]
          repeat (first
            | exact Env.le_nil _
            | refine Env.le_cons (AV.le_refl _) ?_
            | refine Env.le_cons (AV.le_int rfl (by first | rfl | omega | (dsimp only; omega))) ?_)
        | false =>
          rw [hb, Bool.false_or, e] at hst
          all_goals haveI fA_ : FlagA := ⟨⟩
          all_goals haveI fH_ : FlagH := ⟨⟩
          repeat' (first
            | ((with_reducible apply call0); (focus rfl); (focus exact cal_In); (focus exact In _ _ _ _); (focus rfl))
            | ((with_reducible apply je_call0); (focus rfl); (focus (decide +kernel)); (focus rfl); (focus exact cal_In); (focus exact In _ _ _ _); (focus rfl))
            | ((with_reducible apply qcall); (focus rfl); (focus exact cal_In); (focus exact In _ _ _ _); (focus rfl))
            | exact True.intro
            | refine stp ?_
            | refine two ?_ ?_
            | refine allc fun c_ => ?_
            | (refine imp fun hc => ?_) <;> try (first | contradiction | (exfalso; omega) | (exfalso; exact absurd (of_dT hc) (by assumption)) | (exfalso; exact of_dF hc (by assumption)))
            | refine all fun v_ => ?_)
          all_goals clear fA_ fH_
          refine ⟨k + 1, by omega, by omega, VS.of_le ?_⟩
          rw [hst]
          repeat (first
            | exact Env.le_nil _
            | refine Env.le_cons (AV.le_refl _) ?_
            | refine Env.le_cons (AV.le_int rfl (by first | rfl | omega | (dsimp only; omega))) ?_)
      replace hk : k = g.next[(stem ++ loop)[i]].length := by omega
      have hall : ((g.next[(stem ++ loop)[i]].take k).any fun x => x == a) = true := by
        rw [hk, List.take_length]; exact List.any_eq_true.2 ⟨_, hw3, by simp⟩
      rw [hall]
      all_goals haveI fA_ : FlagA := ⟨⟩
      all_goals haveI fH_ : FlagH := ⟨⟩
      repeat' (first
        | ((with_reducible apply call0); (focus rfl); (focus exact cal_In); (focus exact In _ _ _ _); (focus rfl))
        | ((with_reducible apply je_call0); (focus rfl); (focus (decide +kernel)); (focus rfl); (focus exact cal_In); (focus exact In _ _ _ _); (focus rfl))
        | ((with_reducible apply qcall); (focus rfl); (focus exact cal_In); (focus exact In _ _ _ _); (focus rfl))
        | exact True.intro
        | refine stp ?_
        | refine two ?_ ?_
        | refine allc fun c_ => ?_
        | (refine imp fun hc => ?_) <;> try (first | contradiction | (exfalso; omega) | (exfalso; exact absurd (of_dT hc) (by assumption)) | (exfalso; exact of_dF hc (by assumption)))
        | refine all fun v_ => ?_)
      all_goals clear fA_ fH_
      refine ⟨i + 1, by omega, by omega, VS.of_le ?_⟩
      repeat (first
        | exact Env.le_nil _
        | refine Env.le_cons (AV.le_refl _) ?_
        | refine Env.le_cons (AV.le_int rfl (by first | rfl | omega | (dsimp only; omega))) ?_)
  obtain rfl : i = (stem ++ loop).length := by omega
  all_goals haveI fA_ : FlagA := ⟨⟩
  all_goals haveI fH_ : FlagH := ⟨⟩
  repeat' (first
    | ((with_reducible apply call0); (focus rfl); (focus exact cal_In); (focus exact In _ _ _ _); (focus rfl))
    | ((with_reducible apply je_call0); (focus rfl); (focus (decide +kernel)); (focus rfl); (focus exact cal_In); (focus exact In _ _ _ _); (focus rfl))
    | ((with_reducible apply qcall); (focus rfl); (focus exact cal_In); (focus exact In _ _ _ _); (focus rfl))
    | exact True.intro
    | refine stp ?_
    | refine two ?_ ?_
    | refine allc fun c_ => ?_
    | (refine imp fun hc => ?_) <;> try (first | contradiction | (exfalso; omega) | (exfalso; exact absurd (of_dT hc) (by assumption)) | (exfalso; exact of_dF hc (by assumption)))
    | refine all fun v_ => ?_)
  all_goals clear fA_ fH_
  refine J_loopV (X := Nat) (fun s => [(2, .val (.pointer (some ⟨bg, 0, none⟩))), (3, .val (.pointer (some ⟨bl, 0, none⟩))), (5, .d (natsD (stem ++ loop))), (12, .int (2 ^ s)), (13, .int s)]) (fun _ => [.cells bl 29 [.d (natsD stem), .d (natsD loop)], .cells bg 26 [.d (opsD g.spots), .int g.init, .d (natLD g.next), .d (natsD g.sets), .int g.many]]) (fun s => s ≤ g.many) (fun s => g.many - s) 0 (Nat.zero_le _) (VS.of_le ?_) ?_
  · repeat (first
      | exact Env.le_nil _
      | refine Env.le_cons (AV.le_refl _) ?_
      | refine Env.le_cons (AV.le_int rfl (by first | rfl | omega | (dsimp only; omega))) ?_)
  intro s hs1
  have hp2 := pow6n s (by omega)
  by_cases hsm : s < g.many
  · obtain ⟨z, hz1, hz2⟩ := hbt s hsm
    have hp3 := pow6n (s + 1) (by omega)
    have hp4 : (2 : Int) ^ (s + 1) = 2 ^ s * 2 := Int.pow_succ 2 s
    all_goals haveI fA_ : FlagA := ⟨⟩
    all_goals haveI fH_ : FlagH := ⟨⟩
    repeat' (first
      | ((with_reducible apply call0); (focus rfl); (focus exact cal_In); (focus exact In _ _ _ _); (focus rfl))
      | ((with_reducible apply je_call0); (focus rfl); (focus (decide +kernel)); (focus rfl); (focus exact cal_In); (focus exact In _ _ _ _); (focus rfl))
      | ((with_reducible apply qcall); (focus rfl); (focus exact cal_In); (focus exact In _ _ _ _); (focus rfl))
      | exact True.intro
      | refine stp ?_
      | refine two ?_ ?_
      | refine allc fun c_ => ?_
      | (refine imp fun hc => ?_) <;> try (first | contradiction | (exfalso; omega) | (exfalso; exact absurd (of_dT hc) (by assumption)) | (exfalso; exact of_dF hc (by assumption)))
      | refine all fun v_ => ?_)
    all_goals clear fA_ fH_
    refine J_loopV (X := Nat) (fun k => [(2, .val (.pointer (some ⟨bg, 0, none⟩))), (3, .val (.pointer (some ⟨bl, 0, none⟩))), (5, .d (natsD (stem ++ loop))), (12, .int (2 ^ s)), (13, .int s), (14, .bool ((loop.take k).any fun x => (ni g.sets x).testBit s)), (15, .int k)]) (fun _ => [.cells bl 29 [.d (natsD stem), .d (natsD loop)], .cells bg 26 [.d (opsD g.spots), .int g.init, .d (natLD g.next), .d (natsD g.sets), .int g.many]]) (fun k => k ≤ loop.length) (fun k => loop.length - k) 0 (Nat.zero_le _) (VS.of_le ?_) ?_
    · repeat (first
        | exact Env.le_nil _
        | refine Env.le_cons (AV.le_refl _) ?_
        | refine Env.le_cons (AV.le_int rfl (by first | rfl | omega | (dsimp only; omega))) ?_)
    intro k hk
    by_cases hkl : k < loop.length
    · have hst := any_succ (fun x => (ni g.sets x).testBit s) loop k hkl
      have hlk := hltl k hkl
      have hsk := ni_get g.sets loop[k] (by omega)
      have hsb := hok.bits loop[k] (by omega)
      have hsb2 : g.sets[loop[k]] < 64 := Nat.lt_of_lt_of_le hsb (many64 hok).2
      have hq : (0 : Int) ≤ ((g.sets[loop[k]] : Nat) : Int) / 2 ^ s := Int.ediv_nonneg (by omega) (by omega)
      have e : (ni g.sets loop[k]).testBit s = decide (((g.sets[loop[k]] : Nat) : Int) / 2 ^ s % 2 = 1) := by
        rw [hsk]
        by_cases h : g.sets[loop[k]].testBit s = true
        · rw [h]; exact (decide_eq_true ((bit_div _ _).2 h)).symm
        · rw [Bool.not_eq_true] at h
          rw [h]; exact (decide_eq_false (fun h' => by rw [(bit_div _ _).1 h'] at h; cases h)).symm
      cases hb : (loop.take k).any fun x => (ni g.sets x).testBit s with
      | true =>
        rw [hb, Bool.true_or] at hst
        all_goals haveI fA_ : FlagA := ⟨⟩
        all_goals haveI fH_ : FlagH := ⟨⟩
        repeat' (first
          | ((with_reducible apply call0); (focus rfl); (focus exact cal_In); (focus exact In _ _ _ _); (focus rfl))
          | ((with_reducible apply je_call0); (focus rfl); (focus (decide +kernel)); (focus rfl); (focus exact cal_In); (focus exact In _ _ _ _); (focus rfl))
          | ((with_reducible apply qcall); (focus rfl); (focus exact cal_In); (focus exact In _ _ _ _); (focus rfl))
          | exact True.intro
          | refine stp ?_
          | refine two ?_ ?_
          | refine allc fun c_ => ?_
          | (refine imp fun hc => ?_) <;> try (first | contradiction | (exfalso; omega) | (exfalso; exact absurd (of_dT hc) (by assumption)) | (exfalso; exact of_dF hc (by assumption)))
          | refine all fun v_ => ?_)
        all_goals clear fA_ fH_
        refine ⟨k + 1, by omega, by omega, VS.of_le ?_⟩
        rw [hst]
        repeat (first
          | exact Env.le_nil _
          | refine Env.le_cons (AV.le_refl _) ?_
          | refine Env.le_cons (AV.le_int rfl (by first | rfl | omega | (dsimp only; omega))) ?_)
      | false =>
        rw [hb, Bool.false_or, e] at hst
        all_goals haveI fA_ : FlagA := ⟨⟩
        all_goals haveI fH_ : FlagH := ⟨⟩
        repeat' (first
          | ((with_reducible apply call0); (focus rfl); (focus exact cal_In); (focus exact In _ _ _ _); (focus rfl))
          | ((with_reducible apply je_call0); (focus rfl); (focus (decide +kernel)); (focus rfl); (focus exact cal_In); (focus exact In _ _ _ _); (focus rfl))
          | ((with_reducible apply qcall); (focus rfl); (focus exact cal_In); (focus exact In _ _ _ _); (focus rfl))
          | exact True.intro
          | refine stp ?_
          | refine two ?_ ?_
          | refine allc fun c_ => ?_
          | (refine imp fun hc => ?_) <;> try (first | contradiction | (exfalso; omega) | (exfalso; exact absurd (of_dT hc) (by assumption)) | (exfalso; exact of_dF hc (by assumption)))
          | refine all fun v_ => ?_)
        all_goals clear fA_ fH_
        refine ⟨k + 1, by omega, by omega, VS.of_le ?_⟩
        rw [hst]
        repeat (first
          | exact Env.le_nil _
          | refine Env.le_cons (AV.le_refl _) ?_
          | refine Env.le_cons (AV.le_int rfl (by first | rfl | omega | (dsimp only; omega))) ?_)
    obtain rfl : k = loop.length := by omega
    have hall : ((loop.take loop.length).any fun x => (ni g.sets x).testBit s) = true := by
      rw [List.take_length]; exact List.any_eq_true.2 ⟨z, hz1, hz2⟩
    rw [hall]
    all_goals haveI fA_ : FlagA := ⟨⟩
    all_goals haveI fH_ : FlagH := ⟨⟩
    repeat' (first
      | ((with_reducible apply call0); (focus rfl); (focus exact cal_In); (focus exact In _ _ _ _); (focus rfl))
      | ((with_reducible apply je_call0); (focus rfl); (focus (decide +kernel)); (focus rfl); (focus exact cal_In); (focus exact In _ _ _ _); (focus rfl))
      | ((with_reducible apply qcall); (focus rfl); (focus exact cal_In); (focus exact In _ _ _ _); (focus rfl))
      | exact True.intro
      | refine stp ?_
      | refine two ?_ ?_
      | refine allc fun c_ => ?_
      | (refine imp fun hc => ?_) <;> try (first | contradiction | (exfalso; omega) | (exfalso; exact absurd (of_dT hc) (by assumption)) | (exfalso; exact of_dF hc (by assumption)))
      | refine all fun v_ => ?_)
    all_goals clear fA_ fH_
    refine ⟨s + 1, by omega, by omega, VS.of_le ?_⟩
    rw [hp4]
    repeat (first
      | exact Env.le_nil _
      | refine Env.le_cons (AV.le_refl _) ?_
      | refine Env.le_cons (AV.le_int rfl (by first | rfl | omega | (dsimp only; omega))) ?_)
  obtain rfl : s = g.many := by omega
  all_goals haveI fA_ : FlagA := ⟨⟩
  all_goals haveI fH_ : FlagH := ⟨⟩
  repeat' (first
    | ((with_reducible apply call0); (focus rfl); (focus exact cal_In); (focus exact In _ _ _ _); (focus rfl))
    | ((with_reducible apply je_call0); (focus rfl); (focus (decide +kernel)); (focus rfl); (focus exact cal_In); (focus exact In _ _ _ _); (focus rfl))
    | ((with_reducible apply qcall); (focus rfl); (focus exact cal_In); (focus exact In _ _ _ _); (focus rfl))
    | exact True.intro
    | refine stp ?_
    | refine two ?_ ?_
    | refine allc fun c_ => ?_
    | (refine imp fun hc => ?_) <;> try (first | contradiction | (exfalso; omega) | (exfalso; exact absurd (of_dT hc) (by assumption)) | (exfalso; exact of_dF hc (by assumption)))
    | refine all fun v_ => ?_)
  all_goals clear fA_ fH_
  refine retv (VS.drop (List.nil_sublist _)) ?_
  ((with_reducible apply rq1); rfl; rfl)
  exact ret_eq (congrArg AV.bool (decide_eq_true (by omega)))
end Go.Proofs.Ytcikppldaepodaa
namespace Go.Proofs.Ytcikppldaepodaa
open Go Go.Av Go.Sp
set_option linter.unusedVariables false
set_option linter.unusedSimpArgs false
set_option maxRecDepth 100000
set_option maxHeartbeats 4000000

theorem cal_sameLists : Cal Try.prog 37 := Cal.of Try.func37 (by kernel_rfl) (by kernel_rfl)
theorem cal_sameSpots : Cal Try.prog 36 := Cal.of Try.func36 (by kernel_rfl) (by kernel_rfl)
theorem cal_sameGraph : Cal Try.prog 11 := Cal.of Try.func11 (by kernel_rfl) (by kernel_rfl)
theorem sameSpots (G : List (Nat × List D)) (a b : List Fo) : ACr Try.prog G 36 [.d (opsD a), .d (opsD b)] (.bool (decide (a = b))) := by
  refine AC_of (ts := [4]) 26 Try.func36 rfl rfl rfl (by simp) fun W I => ?_
  refine jfact (t := 0) rfl fun hl0 => ?_
  refine jfact (t := 1) rfl fun hl1 => ?_
  repeat' (first
    | exact True.intro
    | refine stp ?_
    | refine two ?_ ?_
    | (refine imp fun hc => ?_) <;> try (first | contradiction | (exfalso; omega))
    | refine all fun v_ => ?_)
  · ((with_reducible apply rq1); rfl; rfl)
    refine ret_eq ?_
    rw [decide_eq_false]
    intro e; subst e; omega
  refine J_loop (X := Nat) (fun i => [(0, .d (opsD a)), (1, .d (opsD b)), (5, .int i)]) (fun _ => []) (fun i => i ≤ a.length ∧ a.take i = b.take i) (fun i => a.length - i) 0 ⟨Nat.zero_le _, rfl⟩ ?_ rfl ?_
  · repeat (first
      | exact Env.le_nil _
      | refine Env.le_cons (AV.le_refl _) ?_
      | refine Env.le_cons (AV.le_int rfl (by first | rfl | omega | (dsimp only; omega))) ?_)
  rintro i ⟨h1, h2⟩
  repeat' (first
    | exact True.intro
    | refine stp ?_
    | refine two ?_ ?_
    | (refine imp fun hc => ?_) <;> try (first | contradiction | (exfalso; omega))
    | refine all fun v_ => ?_)
  all_goals first
    | (((with_reducible apply rq1); rfl; rfl)
       refine ret_eq ?_
       rw [decide_eq_false]
       intro e; subst e
       simp at hc)
    | (refine ⟨i + 1, ⟨by omega, take_step (by omega) (by omega) h2 ?_⟩, by first | omega | (dsimp only; omega), ?_, rfl⟩
       · (simp only [Bool.and_eq_true, beq_iff_eq] at hc; exact Fo.ext' hc.1 hc.2)
       · repeat (first
           | exact Env.le_nil _
           | refine Env.le_cons (AV.le_refl _) ?_
           | refine Env.le_cons (AV.le_int rfl (by first | rfl | omega | (dsimp only; omega))) ?_))
    | (((with_reducible apply rq1); rfl; rfl)
       refine ret_eq ?_
       rw [decide_eq_true]
       rwa [List.take_of_length_le (by omega), List.take_of_length_le (by omega)] at h2)
theorem sameLists (G : List (Nat × List D)) (a b : List (List Int)) : ACr Try.prog G 37 [.d (listsD a), .d (listsD b)] (.bool (decide (a = b))) := by
  refine AC_of (ts := [4]) 27 Try.func37 rfl rfl rfl (by simp) fun W I => ?_
  refine jfact (t := 0) rfl fun hl0 => ?_
  refine jfact (t := 1) rfl fun hl1 => ?_
  repeat' (first
    | ((with_reducible apply qcall); (focus rfl); (focus exact cal_sameInts); (focus exact sameInts _ _ _); (focus rfl))
    | exact True.intro
    | refine stp ?_
    | refine two ?_ ?_
    | (refine imp fun hc => ?_) <;> try (first | contradiction | (exfalso; omega))
    | refine all fun v_ => ?_)
  · ((with_reducible apply rq1); rfl; rfl)
    refine ret_eq ?_
    rw [decide_eq_false]
    intro e; subst e; omega
  refine J_loop (X := Nat) (fun i => [(0, .d (listsD a)), (1, .d (listsD b)), (5, .int i)]) (fun _ => []) (fun i => i ≤ a.length ∧ a.take i = b.take i) (fun i => a.length - i) 0 ⟨Nat.zero_le _, rfl⟩ ?_ rfl ?_
  · repeat (first
      | exact Env.le_nil _
      | refine Env.le_cons (AV.le_refl _) ?_
      | refine Env.le_cons (AV.le_int rfl (by first | rfl | omega | (dsimp only; omega))) ?_)
  rintro i ⟨h1, h2⟩
  repeat' (first
    | ((with_reducible apply qcall); (focus rfl); (focus exact cal_sameInts); (focus exact sameInts _ _ _); (focus rfl))
    | exact True.intro
    | refine stp ?_
    | refine two ?_ ?_
    | (refine imp fun hc => ?_) <;> try (first | contradiction | (exfalso; omega))
    | refine all fun v_ => ?_)
  all_goals first
    | (((with_reducible apply rq1); rfl; rfl)
       refine ret_eq ?_
       rw [decide_eq_false]
       intro e; subst e
       exact hc rfl)
    | (refine ⟨i + 1, ⟨by omega, take_step (by omega) (by omega) h2 ?_⟩, by first | omega | (dsimp only; omega), ?_, rfl⟩
       · exact hc
       · repeat (first
           | exact Env.le_nil _
           | refine Env.le_cons (AV.le_refl _) ?_
           | refine Env.le_cons (AV.le_int rfl (by first | rfl | omega | (dsimp only; omega))) ?_))
    | (((with_reducible apply rq1); rfl; rfl)
       refine ret_eq ?_
       rw [decide_eq_true]
       rwa [List.take_of_length_le (by omega), List.take_of_length_le (by omega)] at h2)
theorem sameGraph (G : List (Nat × List D)) (g : Gr) : ACr Try.prog G 11 [grA g, grA g] (.bool true) := by
  refine AC_ofV (ts := [4]) Try.f11.ntmps Try.func11 rfl rfl rfl (by simp [Try.ntmps11]) fun W I => ?_
  have e1 := ACr_true (sameSpots G g.spots g.spots) rfl
  have e2 := ACr_true (sameLists G g.next g.next) rfl
  have e3 := ACr_true (sameInts G g.sets g.sets) rfl
  all_goals haveI fA_ : FlagA := ⟨⟩
  all_goals haveI fH_ : FlagH := ⟨⟩
  repeat' (first
    | ((with_reducible apply call0); (focus rfl); (focus exact cal_sameSpots); (focus exact e1); (focus rfl))
    | ((with_reducible apply je_call0); (focus rfl); (focus (decide +kernel)); (focus rfl); (focus exact cal_sameSpots); (focus exact e1); (focus rfl))
    | ((with_reducible apply call0); (focus rfl); (focus exact cal_sameLists); (focus exact e2); (focus rfl))
    | ((with_reducible apply je_call0); (focus rfl); (focus (decide +kernel)); (focus rfl); (focus exact cal_sameLists); (focus exact e2); (focus rfl))
    | ((with_reducible apply call0); (focus rfl); (focus exact cal_sameInts); (focus exact e3); (focus rfl))
    | ((with_reducible apply je_call0); (focus rfl); (focus (decide +kernel)); (focus rfl); (focus exact cal_sameInts); (focus exact e3); (focus rfl))
    | exact True.intro
    | refine stp ?_
    | refine two ?_ ?_
    | refine allc fun c_ => ?_
    | (refine imp fun hc => ?_) <;> try (first | contradiction | (exfalso; omega) | (exfalso; exact absurd (of_dT hc) (by assumption)) | (exfalso; exact of_dF hc (by assumption)))
    | refine all fun v_ => ?_)
  all_goals clear fA_ fH_
  all_goals first
    | (refine retv (VS.drop (List.nil_sublist _)) ?_
       ((with_reducible apply rq1); rfl; rfl)
       exact ret_eq (by simp_all))
    | (exfalso; simp_all; done)
end Go.Proofs.Ytcikppldaepodaa
