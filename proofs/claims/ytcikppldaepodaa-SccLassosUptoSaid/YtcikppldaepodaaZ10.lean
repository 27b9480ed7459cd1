/- A bundle of this claim's own texts: W1 W2 W3. -/
import Derived.Test.YtcikppldaepodaaZ9
namespace Go.Proofs.Ytcikppldaepodaa
open Go Go.Av Go.Sp
set_option linter.unusedVariables false
set_option linter.unusedSimpArgs false
set_option maxRecDepth 100000
set_option maxHeartbeats 4000000

theorem cal_fairC : Cal Try.prog 54 := Cal.of Try.func54 (by kernel_rfl) (by kernel_rfl)
theorem cal_SFair : Cal Try.prog 26 := Cal.of Try.func26 (by kernel_rfl) (by kernel_rfl)
theorem cal_FairOf : Cal Try.prog 10 := Cal.of Try.func10 (by kernel_rfl) (by kernel_rfl)
theorem fairC (G : List (Nat × List D)) (g : Gn) (hok : g.ok) (pn : List Nat) (hpn : pn.length = g.spots.length) (hpl : ∀ (i : Nat) (h : i < pn.length), pn[i] < g.spots.length) : ACr Try.prog G 54 [gnA g, .d (natsD pn)] (.d (boolsD (fairL g pn))) := by
  refine AC.factN (g := natLC) (f := natC) (xss := g.next) 1 8 (fun _ => rfl) (.agg (.there (.there .here))) fun hN => ?_
  refine AC_ofV (ts := [4]) Try.f54.ntmps Try.func54 rfl rfl rfl (by simp [Try.ntmps54]) fun W I => ?_
  have hs := hok.size
  have hnl := hok.next
  have hsl := hok.sets
  have h64 := many64 hok
  have hm6 := hok.many
  have hgs : ∀ (i : Nat) (h : i < g.sets.length), g.sets[i] < 64 := fun i h => by have := hok.bits i h; omega
  all_goals haveI fA_ : FlagA := ⟨⟩
  all_goals haveI fH_ : FlagH := ⟨⟩
  all_goals haveI fS_ : StopAt 2 := ⟨⟩
  repeat' (first
    | exact True.intro
    | refine stp ?_
    | refine two ?_ ?_
    | refine allc fun c_ => ?_
    | (refine imp fun hc => ?_) <;> try (first | contradiction | (exfalso; omega))
    | refine all fun v_ => ?_)
  all_goals clear fA_ fH_ fS_
  refine ⟨?_⟩
  rename Nat => bg
  refine J_cutT (X := Nat × Nat) (fun y => [(1, .d (natsD pn)), (2, .val (.pointer (some ⟨bg, 0, none⟩))), (5, .int g.spots.length), (6, .val (.slice (some ⟨y.1, 0, none⟩) g.spots.length g.spots.length)), (7, .val (.slice (some ⟨y.2, 0, none⟩) g.spots.length g.spots.length))]) (fun y => [.cells y.1 4 ((List.replicate g.spots.length false).map AV.bool), .cells y.2 3 ((List.replicate g.spots.length 0).map AV.int), .cells bg 26 [.d (opsD g.spots), .int g.init, .d (natLD g.next), .d (natsD g.sets), .int g.many]]) ?_ ?_
  · all_goals haveI fA_ : FlagA := ⟨⟩
    all_goals haveI fH_ : FlagH := ⟨⟩
    repeat' (first
      | exact True.intro
      | refine stp ?_
      | refine two ?_ ?_
      | refine allc fun c_ => ?_
      | (refine imp fun hc => ?_) <;> try (first | contradiction | (exfalso; omega) | (exfalso; exact absurd (of_dT hc) (by assumption)) | (exfalso; exact of_dF hc (by assumption)))
      | refine all fun v_ => ?_)
    all_goals clear fA_ fH_
    all_goals
      refine ⟨(_, _), VS.take (by ((repeat (first | exact Take.nil | ((with_reducible apply Take.cons); (focus ((repeat (first | exact Sel.here | with_reducible apply Sel.there)); done))))); done)) ?_⟩
      repeat (first
        | exact Env.le_nil _
        | refine Env.le_cons (AV.le_refl _) ?_
        | refine Env.le_cons (AV.le_int rfl (by first | rfl | omega | (dsimp only; omega))) ?_)
  rintro ⟨bl, bs⟩
  dsimp only
  all_goals haveI fA_ : FlagA := ⟨⟩
  all_goals haveI fH_ : FlagH := ⟨⟩
  all_goals haveI fS_ : StopAt 2 := ⟨⟩
  repeat' (first
    | exact True.intro
    | refine stp ?_
    | refine two ?_ ?_
    | refine allc fun c_ => ?_
    | (refine imp fun hc => ?_) <;> try (first | contradiction | (exfalso; omega))
    | refine all fun v_ => ?_)
  all_goals clear fA_ fH_ fS_
  refine J_loopV (X := List Bool × List Int × Nat) (fun y => [(1, .d (natsD pn)), (2, .val (.pointer (some ⟨bg, 0, none⟩))), (5, .int g.spots.length), (6, .val (.slice (some ⟨bl, 0, none⟩) g.spots.length g.spots.length)), (7, .val (.slice (some ⟨bs, 0, none⟩) g.spots.length g.spots.length)), (22, .d (natLD g.next)), (23, .int g.next.length), (24, .int y.2.2)]) (fun y => [.cells bl 4 (y.1.map AV.bool), .cells bs 3 (y.2.1.map AV.int), .cells bg 26 [.d (opsD g.spots), .int g.init, .d (natLD g.next), .d (natsD g.sets), .int g.many]]) (fun y => y.2.2 ≤ g.spots.length ∧ LoI g pn y.2.2 0 y.1 ∧ SeI g pn y.2.2 y.2.1) (fun y => g.spots.length - y.2.2) (List.replicate g.spots.length false, List.replicate g.spots.length 0, 0) ⟨Nat.zero_le _, LoI.start g pn, SeI.start g pn⟩ (VS.of_le ?_) ?_
  · repeat (first
      | exact Env.le_nil _
      | refine Env.le_cons (AV.le_refl _) ?_
      | refine Env.le_cons (AV.le_int rfl (by first | rfl | omega | (dsimp only; omega))) ?_)
  rintro ⟨lo, st, i⟩ ⟨h1, t, q⟩
  dsimp only at h1 t q ⊢
  have hll := t.len
  have hsl2 := q.1
  by_cases hi : i < g.spots.length
  · have hpi := hpl i (by omega)
    have hni := ni_get pn i (by omega)
    have hsi := ni_get g.sets i (by omega)
    have q2 := q.step hok (by rw [hni]; exact hpi)
    have hnx := g.nx_get i (by omega)
    have hlj := hN (g.next[i]'(by omega)) (List.getElem_mem _)
    rw [hni, hsi, gi_get _ _ (by omega)] at q2
    all_goals haveI fA_ : FlagA := ⟨⟩
    all_goals haveI fH_ : FlagH := ⟨⟩
    all_goals haveI fS_ : StopAt 2 := ⟨⟩
    repeat' (first
      | exact True.intro
      | refine stp ?_
      | refine two ?_ ?_
      | refine allc fun c_ => ?_
      | (refine imp fun hc => ?_) <;> try (first | contradiction | (exfalso; omega))
      | refine all fun v_ => ?_)
    all_goals clear fA_ fH_ fS_
    refine J_loopV (X := List Bool × Nat) (fun y => [(1, .d (natsD pn)), (2, .val (.pointer (some ⟨bg, 0, none⟩))), (5, .int g.spots.length), (6, .val (.slice (some ⟨bl, 0, none⟩) g.spots.length g.spots.length)), (7, .val (.slice (some ⟨bs, 0, none⟩) g.spots.length g.spots.length)), (8, .int i), (22, .d (natLD g.next)), (23, .int g.next.length), (24, .int i), (43, .d (natsD (g.next[i]'(by omega)))), (44, .int (g.next[i]'(by omega)).length), (45, .int y.2)]) (fun y => [.cells bl 4 (y.1.map AV.bool), .cells bs 3 ((st.set (pn[i]'(by omega)) (bits .or .i64 (st[pn[i]'(by omega)]'(by omega)) (g.sets[i]'(by omega) : Nat))).map AV.int), .cells bg 26 [.d (opsD g.spots), .int g.init, .d (natLD g.next), .d (natsD g.sets), .int g.many]]) (fun y => y.2 ≤ (g.next[i]'(by omega)).length ∧ LoI g pn i y.2 y.1) (fun y => (g.next[i]'(by omega)).length - y.2) (lo, 0) ⟨Nat.zero_le _, t⟩ (VS.of_le ?_) ?_
    · repeat (first
        | exact Env.le_nil _
        | refine Env.le_cons (AV.le_refl _) ?_
        | refine Env.le_cons (AV.le_int rfl (by first | rfl | omega | (dsimp only; omega))) ?_)
    clear t
    rintro ⟨lo2, k⟩ ⟨k1, t⟩
    dsimp only at k1 t ⊢
    have hll2 := t.len
    by_cases hk : k < (g.next[i]'(by omega)).length
    · have hk' : k < (g.nx i).length := by rw [hnx]; exact hk
      have hke : (g.nx i)[k] = (g.next[i]'(by omega))[k] := by simp only [hnx]
      have hto := g.nx_lt hok i _ (List.getElem_mem hk')
      rw [hke] at hto
      have hpk := hpl ((g.next[i]'(by omega))[k]) (by omega)
      have hnk := ni_get pn ((g.next[i]'(by omega))[k]) (by omega)
      by_cases he : pn[(g.next[i]'(by omega))[k]]'(by omega) = pn[i]'(by omega)
      · have t2 := t.yes hk' (by rw [hke, hnk, hni]; exact he) (by rw [hni]; exact hpi)
        rw [hni] at t2
        all_goals haveI fA_ : FlagA := ⟨⟩
        all_goals haveI fH_ : FlagH := ⟨⟩
        all_goals haveI fS_ : StopAt 2 := ⟨⟩
        repeat' (first
          | exact True.intro
          | refine stp ?_
          | refine two ?_ ?_
          | refine allc fun c_ => ?_
          | (refine imp fun hc => ?_) <;> try (first | contradiction | (exfalso; omega))
          | refine all fun v_ => ?_)
        all_goals clear fA_ fH_ fS_
        refine ⟨(lo2.set (pn[i]'(by omega)) true, k + 1), ⟨by dsimp only; omega, t2⟩, by dsimp only; omega, VS.of_le ?_⟩
        repeat (first
          | exact Env.le_nil _
          | refine Env.le_cons (AV.le_refl _) ?_
          | refine Env.le_cons (AV.le_int rfl (by first | rfl | omega | (dsimp only; omega))) ?_)
      · have t2 := t.no hk' (by rw [hke, hnk, hni]; exact he)
        all_goals haveI fA_ : FlagA := ⟨⟩
        all_goals haveI fH_ : FlagH := ⟨⟩
        all_goals haveI fS_ : StopAt 2 := ⟨⟩
        repeat' (first
          | exact True.intro
          | refine stp ?_
          | refine two ?_ ?_
          | refine allc fun c_ => ?_
          | (refine imp fun hc => ?_) <;> try (first | contradiction | (exfalso; omega))
          | refine all fun v_ => ?_)
        all_goals clear fA_ fH_ fS_
        refine ⟨(lo2, k + 1), ⟨by dsimp only; omega, t2⟩, by dsimp only; omega, VS.of_le ?_⟩
        repeat (first
          | exact Env.le_nil _
          | refine Env.le_cons (AV.le_refl _) ?_
          | refine Env.le_cons (AV.le_int rfl (by first | rfl | omega | (dsimp only; omega))) ?_)
    have ek : k = (g.nx i).length := by rw [hnx]; omega
    rw [ek] at t
    all_goals haveI fA_ : FlagA := ⟨⟩
    all_goals haveI fH_ : FlagH := ⟨⟩
    all_goals haveI fS_ : StopAt 2 := ⟨⟩
    repeat' (first
      | exact True.intro
      | refine stp ?_
      | refine two ?_ ?_
      | refine allc fun c_ => ?_
      | (refine imp fun hc => ?_) <;> try (first | contradiction | (exfalso; omega))
      | refine all fun v_ => ?_)
    all_goals clear fA_ fH_ fS_
    refine ⟨(lo2, _, i + 1), ⟨by dsimp only; omega, t.done, q2⟩, by dsimp only; omega, VS.of_le ?_⟩
    repeat (first
      | exact Env.le_nil _
      | refine Env.le_cons (AV.le_refl _) ?_
      | refine Env.le_cons (AV.le_int rfl (by first | rfl | omega | (dsimp only; omega))) ?_)
  obtain rfl : i = g.spots.length := by omega
  have hp := pow6n g.many hm6
  have hp1 : (2 : Int) ^ (((g.many : Nat) : Int)).toNat = 2 ^ g.many := by rw [Int.toNat_natCast]
  have hp2 : inI64 (1 * 2 ^ (((g.many : Nat) : Int)).toNat) := by rw [hp1]; unfold inI64; omega
  have hp3 : inI64 (1 * 2 ^ (((g.many : Nat) : Int)).toNat - 1) := by rw [hp1]; unfold inI64; omega
  all_goals haveI fA_ : FlagA := ⟨⟩
  all_goals haveI fH_ : FlagH := ⟨⟩
  all_goals haveI fS_ : StopAt 2 := ⟨⟩
  repeat' (first
    | exact True.intro
    | refine stp ?_
    | refine two ?_ ?_
    | refine allc fun c_ => ?_
    | (refine imp fun hc => ?_) <;> try (first | contradiction | (exfalso; omega))
    | refine all fun v_ => ?_)
  all_goals clear fA_ fH_ fS_
  refine J_loopV (X := List Bool × Nat) (fun y => [(1, .d (natsD pn)), (2, .val (.pointer (some ⟨bg, 0, none⟩))), (6, .val (.slice (some ⟨bl, 0, none⟩) g.spots.length g.spots.length)), (7, .val (.slice (some ⟨bs, 0, none⟩) g.spots.length g.spots.length)), (12, .val (.slice (some ⟨v_, 0, none⟩) g.spots.length g.spots.length)), (69, .int g.spots.length), (70, .int y.2)]) (fun y => [.cells v_ 4 (y.1.map AV.bool), .cells bl 4 (lo.map AV.bool), .cells bs 3 (st.map AV.int), .cells bg 26 [.d (opsD g.spots), .int g.init, .d (natLD g.next), .d (natsD g.sets), .int g.many]]) (fun y => y.2 ≤ g.spots.length ∧ y.1.length = g.spots.length ∧ ∀ v, v < y.2 → bi y.1 v = decide (fairP g pn v)) (fun y => g.spots.length - y.2) (List.replicate g.spots.length false, 0) ⟨Nat.zero_le _, by simp, fun v h => absurd h (Nat.not_lt_zero v)⟩ (VS.of_le ?_) ?_
  · repeat (first
      | exact Env.le_nil _
      | refine Env.le_cons (AV.le_refl _) ?_
      | refine Env.le_cons (AV.le_int rfl (by first | rfl | omega | (dsimp only; omega))) ?_)
  rintro ⟨out, i⟩ ⟨k1, k2, k3⟩
  dsimp only at k1 k2 k3 ⊢
  by_cases hi : ¬ i < g.spots.length
  · obtain rfl : i = g.spots.length := by omega
    have e : out = fairL g pn := by
      apply List.ext_getElem
      · simp [fairL, k2]
      · intro j a b
        have := k3 j (by omega)
        rw [bi_get _ _ a] at this
        simp [fairL, this]
    subst e
    all_goals haveI fA_ : FlagA := ⟨⟩
    all_goals haveI fH_ : FlagH := ⟨⟩
    all_goals haveI fS_ : StopAt 2 := ⟨⟩
    repeat' (first
      | exact True.intro
      | refine stp ?_
      | refine two ?_ ?_
      | refine allc fun c_ => ?_
      | (refine imp fun hc => ?_) <;> try (first | contradiction | (exfalso; omega))
      | refine all fun v_ => ?_)
    all_goals clear fA_ fH_ fS_
    refine retv (VS.trans (VS.drop (h' := [.cells v_ 4 ((fairL g pn).map AV.bool)]) (by (repeat (first | exact List.nil_sublist _ | (with_reducible apply List.Sublist.cons_cons) | apply List.Sublist.cons)))) (vfz (t := 4) (f := boolC) (h1 := []) 1 1 rfl rfl rfl (bools_flat _) k2 (fun _ => rfl) (by omega) (by omega))) ?_
    ((with_reducible apply rq1); rfl; rfl)
    exact ret_eq rfl
  replace hi := Decidable.not_not.1 hi
  have hni := ni_get pn i (by omega)
  have hbi := bi_get lo i (by omega)
  have hgi := gi_get st i (by omega)
  have hfi := fair_iff t q hi
  have hset : ∀ b, b = decide (fairP g pn i) → ∀ v, v < i + 1 → bi (out.set i b) v = decide (fairP g pn v) := fun b hb v hv => by
    rw [bi_set _ _ _ _ (by omega)]
    split
    · rename_i e; subst e; exact hb
    · exact k3 v (by omega)
  all_goals haveI fA_ : FlagA := ⟨⟩
  all_goals haveI fH_ : FlagH := ⟨⟩
  all_goals haveI fS_ : StopAt 2 := ⟨⟩
  repeat' (first
    | exact True.intro
    | refine stp ?_
    | refine two ?_ ?_
    | refine allc fun c_ => ?_
    | (refine imp fun hc => ?_) <;> try (first | contradiction | (exfalso; omega))
    | refine all fun v_ => ?_)
  all_goals clear fA_ fH_ fS_
  all_goals
    refine ⟨(out.set i _, i + 1), ⟨by dsimp only; omega, by simp [k2], hset _ ?_⟩, by dsimp only; omega, VS.of_le ?_⟩
    rotate_left
    · repeat (first
        | exact Env.le_nil _
        | refine Env.le_cons (AV.le_refl _) ?_
        | refine Env.le_cons (AV.le_int rfl (by first | rfl | omega | (dsimp only; omega))) ?_)
    · first
        | (refine (decide_eq_false ?_).symm; rw [hfi, hni, hbi]; rintro ⟨a1, a2, a3⟩; first | omega | (simp_all; done))
        | (refine decide_eq_decide.2 ?_; rw [hfi, hni, hbi, hgi, Int.one_mul, hp1]; exact ⟨fun h => ⟨by omega, by assumption, h⟩, fun h => h.2.2⟩)
end Go.Proofs.Ytcikppldaepodaa
namespace Go.Proofs.Ytcikppldaepodaa
open Go Go.Av Go.Sp
set_option linter.unusedVariables false
set_option linter.unusedSimpArgs false
set_option maxRecDepth 100000
set_option maxHeartbeats 4000000

theorem SFair (G : List (Nat × List D)) (g : Gr) : ACr Try.prog G 26 [grA g] (.tup [.int (fairOf g).1, .int (fairOf g).2]) := by
  refine AC_ofV (ts := [2, 3]) Try.f26.ntmps Try.func26 rfl rfl rfl (by simp [Try.ntmps26]) fun W I => ?_
  have E := SParts G g
  by_cases hk : ¬ okG g
  · rw [partsOf_no hk] at E
    dsimp only at E
    all_goals haveI fA_ : FlagA := ⟨⟩
    all_goals haveI fH_ : FlagH := ⟨⟩
    all_goals haveI fS_ : StopAt 2 := ⟨⟩
    repeat' (first
      | ((with_reducible apply call0); (focus rfl); (focus exact cal_SParts); (focus exact E); (focus rfl))
      | ((with_reducible apply je_call0); (focus rfl); (focus (decide +kernel)); (focus rfl); (focus exact cal_SParts); (focus exact E); (focus rfl))
      | exact True.intro
      | refine stp ?_
      | refine two ?_ ?_
      | refine allc fun c_ => ?_
      | (refine imp fun hc => ?_) <;> try (first | contradiction | (exfalso; omega))
      | refine all fun v_ => ?_)
    all_goals clear fA_ fH_ fS_
    refine retv (VS.drop (List.nil_sublist _)) ?_
    ((with_reducible apply rq2); rfl; rfl; rfl)
    exact ret_eq (by rw [fairOf_no hk])
  obtain ⟨g, rfl, hok⟩ := okG_nat (Decidable.not_not.1 hk)
  clear hk
  have E2 := SReached G g.gr
  rw [partsOf_ok hok, ← partN_cast, ← natsD_eq] at E
  rw [reachedOf_ok hok] at E2
  rw [gnA_eq] at E E2 ⊢
  dsimp only at E E2
  have hs := hok.size
  have hpl := partN_length g
  have E3 := fairC G g hok (partN g) hpl (partN_lt g)
  have lr : (reachedL g).length = g.spots.length := by simp [reachedL]
  have lf : (fairL g (partN g)).length = g.spots.length := by simp [fairL]
  have fr : ∀ (i : Nat) (h : i < (reachedL g).length), (reachedL g)[i] = true ↔ reachedP g i := fun i h => by simp [reachedL]
  have ff : ∀ (i : Nat) (h : i < (fairL g (partN g)).length), (fairL g (partN g))[i] = true ↔ fairP g (partN g) i := fun i h => by simp [fairL]
  generalize reachedL g = rl at E2 lr fr
  generalize fairL g (partN g) = fl at E3 lf ff
  all_goals haveI fA_ : FlagA := ⟨⟩
  all_goals haveI fH_ : FlagH := ⟨⟩
  all_goals haveI fS_ : StopAt 2 := ⟨⟩
  repeat' (first
    | ((with_reducible apply call0); (focus rfl); (focus exact cal_SParts); (focus exact E); (focus rfl))
    | ((with_reducible apply je_call0); (focus rfl); (focus (decide +kernel)); (focus rfl); (focus exact cal_SParts); (focus exact E); (focus rfl))
    | ((with_reducible apply call0); (focus rfl); (focus exact cal_SReached); (focus exact E2); (focus rfl))
    | ((with_reducible apply je_call0); (focus rfl); (focus (decide +kernel)); (focus rfl); (focus exact cal_SReached); (focus exact E2); (focus rfl))
    | ((with_reducible apply call0); (focus rfl); (focus exact cal_fairC); (focus exact E3); (focus rfl))
    | ((with_reducible apply je_call0); (focus rfl); (focus (decide +kernel)); (focus rfl); (focus exact cal_fairC); (focus exact E3); (focus rfl))
    | exact True.intro
    | refine stp ?_
    | refine two ?_ ?_
    | refine allc fun c_ => ?_
    | (refine imp fun hc => ?_) <;> try (first | contradiction | (exfalso; omega))
    | refine all fun v_ => ?_)
  all_goals clear fA_ fH_ fS_
  rename Nat => bg
  refine J_loopV (X := Nat) (fun i => [(6, .d (boolsD rl)), (25, .d (boolsD fl)), (26, .int g.spots.length), (27, .int i)]) (fun _ => [.cells bg 26 [.d (opsD g.spots), .int g.init, .d (natLD g.next), .d (natsD g.sets), .int g.many]]) (fun i => i ≤ g.spots.length ∧ ∀ j, j < i → ¬ goodP g j) (fun i => g.spots.length - i) 0 ⟨Nat.zero_le _, fun _ h => absurd h (Nat.not_lt_zero _)⟩ (VS.of_le ?_) ?_
  · rw [← lf]
    repeat (first
      | exact Env.le_nil _
      | refine Env.le_cons (AV.le_refl _) ?_
      | refine Env.le_cons (AV.le_int rfl (by first | rfl | omega | (dsimp only; omega))) ?_)
  rintro i ⟨h1, h2⟩
  by_cases hi : ¬ i < g.spots.length
  · obtain rfl : i = g.spots.length := by omega
    all_goals haveI fA_ : FlagA := ⟨⟩
    all_goals haveI fH_ : FlagH := ⟨⟩
    all_goals haveI fS_ : StopAt 2 := ⟨⟩
    repeat' (first
      | exact True.intro
      | refine stp ?_
      | refine two ?_ ?_
      | refine allc fun c_ => ?_
      | (refine imp fun hc => ?_) <;> try (first | contradiction | (exfalso; omega))
      | refine all fun v_ => ?_)
    all_goals clear fA_ fH_ fS_
    refine retv (VS.drop (List.nil_sublist _)) ?_
    ((with_reducible apply rq2); rfl; rfl; rfl)
    exact ret_eq (by rw [fairOf_ok hok, fairN_none h2])
  replace hi := Decidable.not_not.1 hi
  have g1 := fr i (by omega)
  have g2 := ff i (by omega)
  all_goals haveI fA_ : FlagA := ⟨⟩
  all_goals haveI fH_ : FlagH := ⟨⟩
  all_goals haveI fS_ : StopAt 2 := ⟨⟩
  repeat' (first
    | exact True.intro
    | refine stp ?_
    | refine two ?_ ?_
    | refine allc fun c_ => ?_
    | (refine imp fun hc => ?_) <;> try (first | contradiction | (exfalso; omega))
    | refine all fun v_ => ?_)
  all_goals clear fA_ fH_ fS_
  all_goals first
    | (refine ⟨i + 1, ⟨by omega, fun j hj => ?_⟩, by omega, VS.of_le ?_⟩
       · by_cases e : j = i
         · subst e
           rintro ⟨a1, a2⟩
           simp_all
         · exact h2 j (by omega)
       · repeat (first
           | exact Env.le_nil _
           | refine Env.le_cons (AV.le_refl _) ?_
           | refine Env.le_cons (AV.le_int rfl (by first | rfl | omega | (dsimp only; omega))) ?_))
    | (refine retv (VS.drop (List.nil_sublist _)) ?_
       ((with_reducible apply rq2); rfl; rfl; rfl)
       exact ret_eq (by rw [fairOf_ok hok, fairN_at h2 hi ⟨g1.1 (by assumption), g2.1 (by assumption)⟩]))
end Go.Proofs.Ytcikppldaepodaa
namespace Go.Proofs.Ytcikppldaepodaa
open Go Go.Av Go.Sp
set_option linter.unusedVariables false
set_option linter.unusedSimpArgs false
set_option maxRecDepth 100000
set_option maxHeartbeats 4000000

theorem FairOf (G : List (Nat × List D)) (g : Gr) (hw : ∀ g' : Gn, g'.gr = g → g'.ways g'.next.length ≤ 1048576) : ACr Try.prog G 10 [grA g] (.tup [.int (fairOf g).1, .int (fairOf g).2]) := by
  by_cases hk : ¬ okG g
  · have E := PartsOfGraph G g hw
    rw [partsOf_no hk] at E
    dsimp only at E
    refine AC_ofV (ts := [2, 3]) Try.f10.ntmps Try.func10 rfl rfl rfl (by simp [Try.ntmps10]) fun W I => ?_
    all_goals haveI fA_ : FlagA := ⟨⟩
    all_goals haveI fH_ : FlagH := ⟨⟩
    all_goals haveI fS_ : StopAt 2 := ⟨⟩
    repeat' (first
      | ((with_reducible apply call0); (focus rfl); (focus exact cal_PartsOfGraph); (focus exact E); (focus rfl))
      | ((with_reducible apply je_call0); (focus rfl); (focus (decide +kernel)); (focus rfl); (focus exact cal_PartsOfGraph); (focus exact E); (focus rfl))
      | exact True.intro
      | refine stp ?_
      | refine two ?_ ?_
      | refine allc fun c_ => ?_
      | (refine imp fun hc => ?_) <;> try (first | contradiction | (exfalso; omega))
      | refine all fun v_ => ?_)
    all_goals clear fA_ fH_ fS_
    refine retv (VS.drop (List.nil_sublist _)) ?_
    ((with_reducible apply rq2); rfl; rfl; rfl)
    exact ret_eq (by rw [fairOf_no hk])
  obtain ⟨g, rfl, hok⟩ := okG_nat (Decidable.not_not.1 hk)
  clear hk
  have E := PartsOfGraph G g.gr hw
  have E2 := ReachedOf G g.gr
  rw [partsOf_ok hok, ← partN_cast, ← natsD_eq] at E
  rw [reachedOf_ok hok] at E2
  rw [gnA_eq] at E E2 ⊢
  dsimp only at E E2
  refine AC.factN (g := natLC) (f := natC) (xss := g.next) 1 8 (fun _ => rfl) (.agg (.there (.there .here))) fun hN => ?_
  refine AC_ofV (ts := [2, 3]) Try.f10.ntmps Try.func10 rfl rfl rfl (by simp [Try.ntmps10]) fun W I => ?_
  have hs := hok.size
  have hnl := hok.next
  have hsl := hok.sets
  have hm6 := hok.many
  have h64 := many64 hok
  have hgs : ∀ (i : Nat) (h : i < g.sets.length), g.sets[i] < 64 := fun i h => by have := hok.bits i h; omega
  have hpl := partN_length g
  have hplt := partN_lt g
  have lr : (reachedL g).length = g.spots.length := by simp [reachedL]
  have fr : ∀ (i : Nat) (h : i < (reachedL g).length), (reachedL g)[i] = true ↔ reachedP g i := fun i h => by simp [reachedL]
  have hgood : ∀ i, goodP g i ↔ reachedP g i ∧ fairP g (partN g) i := fun i => Iff.rfl
  generalize reachedL g = rl at E2 lr fr
  generalize partN g = pn at E hpl hplt hgood
  all_goals haveI fA_ : FlagA := ⟨⟩
  all_goals haveI fH_ : FlagH := ⟨⟩
  all_goals haveI fS_ : StopAt 2 := ⟨⟩
  repeat' (first
    | ((with_reducible apply call0); (focus rfl); (focus exact cal_PartsOfGraph); (focus exact E); (focus rfl))
    | ((with_reducible apply je_call0); (focus rfl); (focus (decide +kernel)); (focus rfl); (focus exact cal_PartsOfGraph); (focus exact E); (focus rfl))
    | ((with_reducible apply call0); (focus rfl); (focus exact cal_ReachedOf); (focus exact E2); (focus rfl))
    | ((with_reducible apply je_call0); (focus rfl); (focus (decide +kernel)); (focus rfl); (focus exact cal_ReachedOf); (focus exact E2); (focus rfl))
    | exact True.intro
    | refine stp ?_
    | refine two ?_ ?_
    | refine allc fun c_ => ?_
    | (refine imp fun hc => ?_) <;> try (first | contradiction | (exfalso; omega))
    | refine all fun v_ => ?_)
  all_goals clear fA_ fH_ fS_
  rename Nat => bg
  refine J_loopV (X := Nat) (fun i => [(1, .val (.pointer (some ⟨bg, 0, none⟩))), (4, .d (natsD pn)), (6, .d (boolsD rl)), (8, .int i)]) (fun _ => [.cells bg 26 [.d (opsD g.spots), .int g.init, .d (natLD g.next), .d (natsD g.sets), .int g.many]]) (fun i => i ≤ g.spots.length ∧ ∀ j, j < i → ¬ goodP g j) (fun i => g.spots.length - i) 0 ⟨Nat.zero_le _, fun _ h => absurd h (Nat.not_lt_zero _)⟩ (VS.of_le ?_) ?_
  · repeat (first
      | exact Env.le_nil _
      | refine Env.le_cons (AV.le_refl _) ?_
      | refine Env.le_cons (AV.le_int rfl (by first | rfl | omega | (dsimp only; omega))) ?_)
  rintro i ⟨h1, h2⟩
  by_cases hi : ¬ i < g.spots.length
  · obtain rfl : i = g.spots.length := by omega
    all_goals haveI fA_ : FlagA := ⟨⟩
    all_goals haveI fH_ : FlagH := ⟨⟩
    all_goals haveI fS_ : StopAt 2 := ⟨⟩
    repeat' (first
      | exact True.intro
      | refine stp ?_
      | refine two ?_ ?_
      | refine allc fun c_ => ?_
      | (refine imp fun hc => ?_) <;> try (first | contradiction | (exfalso; omega))
      | refine all fun v_ => ?_)
    all_goals clear fA_ fH_ fS_
    refine retv (VS.drop (List.nil_sublist _)) ?_
    ((with_reducible apply rq2); rfl; rfl; rfl)
    exact ret_eq (by rw [fairOf_ok hok, fairN_none h2])
  replace hi := Decidable.not_not.1 hi
  have g1 := fr i (by omega)
  have hni := ni_get pn i (by omega)
  by_cases hp : ¬ pn[i]'(by omega) = i
  · all_goals haveI fA_ : FlagA := ⟨⟩
    all_goals haveI fH_ : FlagH := ⟨⟩
    all_goals haveI fS_ : StopAt 2 := ⟨⟩
    repeat' (first
      | exact True.intro
      | refine stp ?_
      | refine two ?_ ?_
      | refine allc fun c_ => ?_
      | (refine imp fun hc => ?_) <;> try (first | contradiction | (exfalso; omega))
      | refine all fun v_ => ?_)
    all_goals clear fA_ fH_ fS_
    refine ⟨i + 1, ⟨by omega, fun j hj => ?_⟩, by omega, VS.of_le ?_⟩
    · by_cases e : j = i
      · subst e
        rw [hgood]; rintro ⟨a1, a2, _⟩; exact hp (by rw [← hni]; exact a2)
      · exact h2 j (by omega)
    · repeat (first
        | exact Env.le_nil _
        | refine Env.le_cons (AV.le_refl _) ?_
        | refine Env.le_cons (AV.le_int rfl (by first | rfl | omega | (dsimp only; omega))) ?_)
  replace hp := Decidable.not_not.1 hp
  by_cases hr : ¬ rl[i]'(by omega) = true
  · all_goals haveI fA_ : FlagA := ⟨⟩
    all_goals haveI fH_ : FlagH := ⟨⟩
    all_goals haveI fS_ : StopAt 2 := ⟨⟩
    repeat' (first
      | exact True.intro
      | refine stp ?_
      | refine two ?_ ?_
      | refine allc fun c_ => ?_
      | (refine imp fun hc => ?_) <;> try (first | contradiction | (exfalso; omega))
      | refine all fun v_ => ?_)
    all_goals clear fA_ fH_ fS_
    all_goals first
      | (exfalso; simp_all; done)
      | (refine ⟨i + 1, ⟨by omega, fun j hj => ?_⟩, by omega, VS.of_le ?_⟩
         · by_cases e : j = i
           · subst e
             rw [hgood]; rintro ⟨a1, _⟩; exact hr (g1.2 a1)
           · exact h2 j (by omega)
         · repeat (first
             | exact Env.le_nil _
             | refine Env.le_cons (AV.le_refl _) ?_
             | refine Env.le_cons (AV.le_int rfl (by first | rfl | omega | (dsimp only; omega))) ?_))
  replace hr := Decidable.not_not.1 hr
  all_goals haveI fA_ : FlagA := ⟨⟩
  all_goals haveI fH_ : FlagH := ⟨⟩
  all_goals haveI fS_ : StopAt 2 := ⟨⟩
  repeat' (first
    | exact True.intro
    | refine stp ?_
    | refine two ?_ ?_
    | refine allc fun c_ => ?_
    | (refine imp fun hc => ?_) <;> try (first | contradiction | (exfalso; omega))
    | refine all fun v_ => ?_)
  all_goals clear fA_ fH_ fS_
  all_goals first
    | (exfalso; simp_all; done)
    | skip
  refine J_loopV (X := Bool × Nat) (fun y => [(1, .val (.pointer (some ⟨bg, 0, none⟩))), (4, .d (natsD pn)), (6, .d (boolsD rl)), (8, .int i), (9, .bool y.1), (10, .int y.2)]) (fun _ => [.cells bg 26 [.d (opsD g.spots), .int g.init, .d (natLD g.next), .d (natsD g.sets), .int g.many]]) (fun y => y.2 ≤ g.spots.length ∧ (y.1 = true ↔ lpP g pn i y.2 0)) (fun y => g.spots.length - y.2) (false, 0) ⟨Nat.zero_le _, by simp [lpP_zero]⟩ (VS.of_le ?_) ?_
  · repeat (first
      | exact Env.le_nil _
      | refine Env.le_cons (AV.le_refl _) ?_
      | refine Env.le_cons (AV.le_int rfl (by first | rfl | omega | (dsimp only; omega))) ?_)
  rintro ⟨b, k⟩ ⟨k1, k2⟩
  dsimp only at k1 k2 ⊢
  by_cases hk : k < g.spots.length
  · have hnx := g.nx_get k (by omega)
    have hlj := hN (g.next[k]'(by omega)) (List.getElem_mem _)
    have hnk := ni_get pn k (by omega)
    all_goals haveI fA_ : FlagA := ⟨⟩
    all_goals haveI fH_ : FlagH := ⟨⟩
    all_goals haveI fS_ : StopAt 2 := ⟨⟩
    repeat' (first
      | exact True.intro
      | refine stp ?_
      | refine two ?_ ?_
      | refine allc fun c_ => ?_
      | (refine imp fun hc => ?_) <;> try (first | contradiction | (exfalso; omega))
      | refine all fun v_ => ?_)
    all_goals clear fA_ fH_ fS_
    refine J_loopV (X := Bool × Nat) (fun y => [(1, .val (.pointer (some ⟨bg, 0, none⟩))), (4, .d (natsD pn)), (6, .d (boolsD rl)), (8, .int i), (9, .bool y.1), (10, .int k), (11, .int y.2)]) (fun _ => [.cells bg 26 [.d (opsD g.spots), .int g.init, .d (natLD g.next), .d (natsD g.sets), .int g.many]]) (fun y => y.2 ≤ (g.next[k]'(by omega)).length ∧ (y.1 = true ↔ lpP g pn i k y.2)) (fun y => (g.next[k]'(by omega)).length - y.2) (b, 0) ⟨Nat.zero_le _, k2⟩ (VS.of_le ?_) ?_
    · repeat (first
        | exact Env.le_nil _
        | refine Env.le_cons (AV.le_refl _) ?_
        | refine Env.le_cons (AV.le_int rfl (by first | rfl | omega | (dsimp only; omega))) ?_)
    clear k2 b
    rintro ⟨b, j⟩ ⟨j1, k2⟩
    dsimp only at j1 k2 ⊢
    by_cases hj : j < (g.next[k]'(by omega)).length
    · have hj' : j < (g.nx k).length := by rw [hnx]; exact hj
      have hke : (g.nx k)[j] = (g.next[k]'(by omega))[j] := by simp only [hnx]
      have hto := g.nx_lt hok k _ (List.getElem_mem hj')
      have hst := lpP_step (pn := pn) (i := i) hj'
      rw [hke] at hto hst
      have hnw := ni_get pn ((g.next[k]'(by omega))[j]) (by omega)
      rw [hnk, hnw] at hst
      cases b with
      | true =>
        all_goals haveI fA_ : FlagA := ⟨⟩
        all_goals haveI fH_ : FlagH := ⟨⟩
        all_goals haveI fS_ : StopAt 2 := ⟨⟩
        repeat' (first
          | exact True.intro
          | refine stp ?_
          | refine two ?_ ?_
          | refine allc fun c_ => ?_
          | (refine imp fun hc => ?_) <;> try (first | contradiction | (exfalso; omega))
          | refine all fun v_ => ?_)
        all_goals clear fA_ fH_ fS_
        refine ⟨(true, j + 1), ⟨by dsimp only; omega, ?tru⟩, by dsimp only; omega, VS.of_le ?lee⟩
        case lee => repeat (first
                      | exact Env.le_nil _
                      | refine Env.le_cons (AV.le_refl _) ?_
                      | refine Env.le_cons (AV.le_int rfl (by first | rfl | omega | (dsimp only; omega))) ?_)
        case tru =>
          dsimp only
          rw [hst, ← k2]
          simp
      | false =>
        by_cases c1 : pn[k]'(by omega) = i
        · by_cases c2 : pn[(g.next[k]'(by omega))[j]]'(by omega) = i
          · all_goals haveI fA_ : FlagA := ⟨⟩
            all_goals haveI fH_ : FlagH := ⟨⟩
            all_goals haveI fS_ : StopAt 2 := ⟨⟩
            repeat' (first
              | exact True.intro
              | refine stp ?_
              | refine two ?_ ?_
              | refine allc fun c_ => ?_
              | (refine imp fun hc => ?_) <;> try (first | contradiction | (exfalso; omega))
              | refine all fun v_ => ?_)
            all_goals clear fA_ fH_ fS_
            refine ⟨(decide ((pn[(g.next[k]'(by omega))[j]]'(by omega) : Int) = i), j + 1), ⟨by dsimp only; omega, ?tru⟩, by dsimp only; omega, VS.of_le ?lee⟩
            case lee => repeat (first
                          | exact Env.le_nil _
                          | refine Env.le_cons (AV.le_refl _) ?_
                          | refine Env.le_cons (AV.le_int rfl (by first | rfl | omega | (dsimp only; omega))) ?_)
            case tru =>
              dsimp only
              rw [hst, ← k2]
              simp [c1, c2]
          · all_goals haveI fA_ : FlagA := ⟨⟩
            all_goals haveI fH_ : FlagH := ⟨⟩
            all_goals haveI fS_ : StopAt 2 := ⟨⟩
            repeat' (first
              | exact True.intro
              | refine stp ?_
              | refine two ?_ ?_
              | refine allc fun c_ => ?_
              | (refine imp fun hc => ?_) <;> try (first | contradiction | (exfalso; omega))
              | refine all fun v_ => ?_)
            all_goals clear fA_ fH_ fS_
            refine ⟨(decide ((pn[(g.next[k]'(by omega))[j]]'(by omega) : Int) = i), j + 1), ⟨by dsimp only; omega, ?tru⟩, by dsimp only; omega, VS.of_le ?lee⟩
            case lee => repeat (first
                          | exact Env.le_nil _
                          | refine Env.le_cons (AV.le_refl _) ?_
                          | refine Env.le_cons (AV.le_int rfl (by first | rfl | omega | (dsimp only; omega))) ?_)
            case tru =>
              dsimp only
              rw [hst, ← k2]
              (simp [c1, c2]; omega)
        · all_goals haveI fA_ : FlagA := ⟨⟩
          all_goals haveI fH_ : FlagH := ⟨⟩
          all_goals haveI fS_ : StopAt 2 := ⟨⟩
          repeat' (first
            | exact True.intro
            | refine stp ?_
            | refine two ?_ ?_
            | refine allc fun c_ => ?_
            | (refine imp fun hc => ?_) <;> try (first | contradiction | (exfalso; omega))
            | refine all fun v_ => ?_)
          all_goals clear fA_ fH_ fS_
          refine ⟨(false, j + 1), ⟨by dsimp only; omega, ?tru⟩, by dsimp only; omega, VS.of_le ?lee⟩
          case lee => repeat (first
                        | exact Env.le_nil _
                        | refine Env.le_cons (AV.le_refl _) ?_
                        | refine Env.le_cons (AV.le_int rfl (by first | rfl | omega | (dsimp only; omega))) ?_)
          case tru =>
            dsimp only
            rw [hst, ← k2]
            simp [c1]
    have ej : j = (g.nx k).length := by rw [hnx]; omega
    rw [ej, lpP_done] at k2
    all_goals haveI fA_ : FlagA := ⟨⟩
    all_goals haveI fH_ : FlagH := ⟨⟩
    all_goals haveI fS_ : StopAt 2 := ⟨⟩
    repeat' (first
      | exact True.intro
      | refine stp ?_
      | refine two ?_ ?_
      | refine allc fun c_ => ?_
      | (refine imp fun hc => ?_) <;> try (first | contradiction | (exfalso; omega))
      | refine all fun v_ => ?_)
    all_goals clear fA_ fH_ fS_
    refine ⟨(b, k + 1), ⟨by dsimp only; omega, k2⟩, by dsimp only; omega, VS.of_le ?_⟩
    repeat (first
      | exact Env.le_nil _
      | refine Env.le_cons (AV.le_refl _) ?_
      | refine Env.le_cons (AV.le_int rfl (by first | rfl | omega | (dsimp only; omega))) ?_)
  obtain rfl : k = g.spots.length := by omega
  rw [lpP_end] at k2
  all_goals haveI fA_ : FlagA := ⟨⟩
  all_goals haveI fH_ : FlagH := ⟨⟩
  all_goals haveI fS_ : StopAt 2 := ⟨⟩
  repeat' (first
    | exact True.intro
    | refine stp ?_
    | refine two ?_ ?_
    | refine allc fun c_ => ?_
    | (refine imp fun hc => ?_) <;> try (first | contradiction | (exfalso; omega))
    | refine all fun v_ => ?_)
  all_goals clear fA_ fH_ fS_
  refine J_loopV (X := Bool × Nat) (fun y => [(1, .val (.pointer (some ⟨bg, 0, none⟩))), (4, .d (natsD pn)), (6, .d (boolsD rl)), (8, .int i), (9, .bool y.1), (12, .int (2 ^ y.2)), (13, .int y.2)]) (fun _ => [.cells bg 26 [.d (opsD g.spots), .int g.init, .d (natLD g.next), .d (natsD g.sets), .int g.many]]) (fun y => y.2 ≤ g.many ∧ (y.1 = true ↔ b = true ∧ ∀ s, s < y.2 → meP g pn i s g.spots.length)) (fun y => g.many - y.2) (b, 0) ⟨Nat.zero_le _, by simp⟩ (VS.of_le ?_) ?_
  · repeat (first
      | exact Env.le_nil _
      | refine Env.le_cons (AV.le_refl _) ?_
      | refine Env.le_cons (AV.le_int rfl (by first | rfl | omega | (dsimp only; omega))) ?_)
  rintro ⟨c, s⟩ ⟨s1, s2⟩
  dsimp only at s1 s2 ⊢
  have hp2 := pow6n s (by omega)
  by_cases hsm : ¬ s < g.many
  · obtain rfl : s = g.many := by omega
    have hfin : c = true ↔ goodP g i := by
      rw [s2, k2, hgood, ← g1]
      unfold fairP
      rw [hni]
      exact ⟨fun h => ⟨hr, hp, h.1, h.2⟩, fun h => ⟨h.2.2.1, h.2.2.2⟩⟩
    cases c with
    | true =>
      all_goals haveI fA_ : FlagA := ⟨⟩
      all_goals haveI fH_ : FlagH := ⟨⟩
      all_goals haveI fS_ : StopAt 2 := ⟨⟩
      repeat' (first
        | exact True.intro
        | refine stp ?_
        | refine two ?_ ?_
        | refine allc fun c_ => ?_
        | (refine imp fun hc => ?_) <;> try (first | contradiction | (exfalso; omega))
        | refine all fun v_ => ?_)
      all_goals clear fA_ fH_ fS_
      refine retv (VS.drop (List.nil_sublist _)) ?_
      ((with_reducible apply rq2); rfl; rfl; rfl)
      exact ret_eq (by rw [fairOf_ok hok, fairN_at h2 hi (hfin.1 rfl)])
    | false =>
      all_goals haveI fA_ : FlagA := ⟨⟩
      all_goals haveI fH_ : FlagH := ⟨⟩
      all_goals haveI fS_ : StopAt 2 := ⟨⟩
      repeat' (first
        | exact True.intro
        | refine stp ?_
        | refine two ?_ ?_
        | refine allc fun c_ => ?_
        | (refine imp fun hc => ?_) <;> try (first | contradiction | (exfalso; omega))
        | refine all fun v_ => ?_)
      all_goals clear fA_ fH_ fS_
      refine ⟨i + 1, ⟨by omega, fun j hj => ?_⟩, by omega, VS.of_le ?_⟩
      · by_cases e : j = i
        · subst e
          exact fun h => by have := hfin.2 h; cases this
        · exact h2 j (by omega)
      · repeat (first
          | exact Env.le_nil _
          | refine Env.le_cons (AV.le_refl _) ?_
          | refine Env.le_cons (AV.le_int rfl (by first | rfl | omega | (dsimp only; omega))) ?_)
  replace hsm := Decidable.not_not.1 hsm
  all_goals haveI fA_ : FlagA := ⟨⟩
  all_goals haveI fH_ : FlagH := ⟨⟩
  all_goals haveI fS_ : StopAt 2 := ⟨⟩
  repeat' (first
    | exact True.intro
    | refine stp ?_
    | refine two ?_ ?_
    | refine allc fun c_ => ?_
    | (refine imp fun hc => ?_) <;> try (first | contradiction | (exfalso; omega))
    | refine all fun v_ => ?_)
  all_goals clear fA_ fH_ fS_
  refine J_loopV (X := Bool × Nat) (fun y => [(1, .val (.pointer (some ⟨bg, 0, none⟩))), (4, .d (natsD pn)), (6, .d (boolsD rl)), (8, .int i), (9, .bool c), (12, .int (2 ^ s)), (13, .int s), (14, .bool y.1), (15, .int y.2)]) (fun _ => [.cells bg 26 [.d (opsD g.spots), .int g.init, .d (natLD g.next), .d (natsD g.sets), .int g.many]]) (fun y => y.2 ≤ g.spots.length ∧ (y.1 = true ↔ meP g pn i s y.2)) (fun y => g.spots.length - y.2) (false, 0) ⟨Nat.zero_le _, by simp [meP_zero]⟩ (VS.of_le ?_) ?_
  · repeat (first
      | exact Env.le_nil _
      | refine Env.le_cons (AV.le_refl _) ?_
      | refine Env.le_cons (AV.le_int rfl (by first | rfl | omega | (dsimp only; omega))) ?_)
  rintro ⟨m, k⟩ ⟨m1, m2⟩
  dsimp only at m1 m2 ⊢
  by_cases hk : k < g.spots.length
  · have hst := meP_step (g := g) (pn := pn) (i := i) (s := s) (k := k)
    have hnk := ni_get pn k (by omega)
    have hsk := ni_get g.sets k (by omega)
    have hsb := hgs k (by omega)
    have hq : (0 : Int) ≤ ((g.sets[k]'(by omega) : Nat) : Int) / 2 ^ s := Int.ediv_nonneg (by omega) (by omega)
    rw [hnk, hsk, ← bit_div] at hst
    cases m with
    | true =>
      all_goals haveI fA_ : FlagA := ⟨⟩
      all_goals haveI fH_ : FlagH := ⟨⟩
      all_goals haveI fS_ : StopAt 2 := ⟨⟩
      repeat' (first
        | exact True.intro
        | refine stp ?_
        | refine two ?_ ?_
        | refine allc fun c_ => ?_
        | (refine imp fun hc => ?_) <;> try (first | contradiction | (exfalso; omega))
        | refine all fun v_ => ?_)
      all_goals clear fA_ fH_ fS_
      refine ⟨(true, k + 1), ⟨by dsimp only; omega, ?tru⟩, by dsimp only; omega, VS.of_le ?lee⟩
      case lee => repeat (first
                    | exact Env.le_nil _
                    | refine Env.le_cons (AV.le_refl _) ?_
                    | refine Env.le_cons (AV.le_int rfl (by first | rfl | omega | (dsimp only; omega))) ?_)
      case tru =>
        dsimp only
        rw [hst, ← m2]
        simp
    | false =>
      by_cases c1 : pn[k]'(by omega) = i
      · all_goals haveI fA_ : FlagA := ⟨⟩
        all_goals haveI fH_ : FlagH := ⟨⟩
        all_goals haveI fS_ : StopAt 2 := ⟨⟩
        repeat' (first
          | exact True.intro
          | refine stp ?_
          | refine two ?_ ?_
          | refine allc fun c_ => ?_
          | (refine imp fun hc => ?_) <;> try (first | contradiction | (exfalso; omega))
          | refine all fun v_ => ?_)
        all_goals clear fA_ fH_ fS_
        refine ⟨(decide (((g.sets[k]'(by omega) : Nat) : Int) / 2 ^ s % 2 = 1), k + 1), ⟨by dsimp only; omega, ?tru⟩, by dsimp only; omega, VS.of_le ?lee⟩
        case lee => repeat (first
                      | exact Env.le_nil _
                      | refine Env.le_cons (AV.le_refl _) ?_
                      | refine Env.le_cons (AV.le_int rfl (by first | rfl | omega | (dsimp only; omega))) ?_)
        case tru =>
          dsimp only
          rw [hst, ← m2]
          simp [c1]
      · all_goals haveI fA_ : FlagA := ⟨⟩
        all_goals haveI fH_ : FlagH := ⟨⟩
        all_goals haveI fS_ : StopAt 2 := ⟨⟩
        repeat' (first
          | exact True.intro
          | refine stp ?_
          | refine two ?_ ?_
          | refine allc fun c_ => ?_
          | (refine imp fun hc => ?_) <;> try (first | contradiction | (exfalso; omega))
          | refine all fun v_ => ?_)
        all_goals clear fA_ fH_ fS_
        refine ⟨(false, k + 1), ⟨by dsimp only; omega, ?tru⟩, by dsimp only; omega, VS.of_le ?lee⟩
        case lee => repeat (first
                      | exact Env.le_nil _
                      | refine Env.le_cons (AV.le_refl _) ?_
                      | refine Env.le_cons (AV.le_int rfl (by first | rfl | omega | (dsimp only; omega))) ?_)
        case tru =>
          dsimp only
          rw [hst, ← m2]
          simp [c1]
  obtain rfl : k = g.spots.length := by omega
  have hp3 := pow6n (s + 1) (by omega)
  have hp4 : (2 : Int) ^ (s + 1) = 2 ^ s * 2 := Int.pow_succ 2 s
  cases c with
  | true =>
    cases m with
    | true =>
      all_goals haveI fA_ : FlagA := ⟨⟩
      all_goals haveI fH_ : FlagH := ⟨⟩
      all_goals haveI fS_ : StopAt 2 := ⟨⟩
      repeat' (first
        | exact True.intro
        | refine stp ?_
        | refine two ?_ ?_
        | refine allc fun c_ => ?_
        | (refine imp fun hc => ?_) <;> try (first | contradiction | (exfalso; omega))
        | refine all fun v_ => ?_)
      all_goals clear fA_ fH_ fS_
      refine ⟨(true, s + 1), ⟨by dsimp only; omega, ?_⟩, by dsimp only; omega, VS.of_le ?_⟩
      · dsimp only
        have key : (∀ t, t < s + 1 → meP g pn i t g.spots.length) ↔ (∀ t, t < s → meP g pn i t g.spots.length) ∧ meP g pn i s g.spots.length :=
          ⟨fun h => ⟨fun t ht => h t (by omega), h s (by omega)⟩, fun h t ht => by
            by_cases e : t = s
            · subst e; exact h.2
            · exact h.1 t (by omega)⟩
        rw [key, ← m2, ← and_assoc, ← s2]
        simp
      · dsimp only
        rw [hp4]
        repeat (first
          | exact Env.le_nil _
          | refine Env.le_cons (AV.le_refl _) ?_
          | refine Env.le_cons (AV.le_int rfl (by first | rfl | omega | (dsimp only; omega))) ?_)
    | false =>
      all_goals haveI fA_ : FlagA := ⟨⟩
      all_goals haveI fH_ : FlagH := ⟨⟩
      all_goals haveI fS_ : StopAt 2 := ⟨⟩
      repeat' (first
        | exact True.intro
        | refine stp ?_
        | refine two ?_ ?_
        | refine allc fun c_ => ?_
        | (refine imp fun hc => ?_) <;> try (first | contradiction | (exfalso; omega))
        | refine all fun v_ => ?_)
      all_goals clear fA_ fH_ fS_
      refine ⟨(false, s + 1), ⟨by dsimp only; omega, ?_⟩, by dsimp only; omega, VS.of_le ?_⟩
      · dsimp only
        have key : (∀ t, t < s + 1 → meP g pn i t g.spots.length) ↔ (∀ t, t < s → meP g pn i t g.spots.length) ∧ meP g pn i s g.spots.length :=
          ⟨fun h => ⟨fun t ht => h t (by omega), h s (by omega)⟩, fun h t ht => by
            by_cases e : t = s
            · subst e; exact h.2
            · exact h.1 t (by omega)⟩
        rw [key, ← m2, ← and_assoc, ← s2]
        simp
      · dsimp only
        rw [hp4]
        repeat (first
          | exact Env.le_nil _
          | refine Env.le_cons (AV.le_refl _) ?_
          | refine Env.le_cons (AV.le_int rfl (by first | rfl | omega | (dsimp only; omega))) ?_)
  | false =>
    all_goals haveI fA_ : FlagA := ⟨⟩
    all_goals haveI fH_ : FlagH := ⟨⟩
    all_goals haveI fS_ : StopAt 2 := ⟨⟩
    repeat' (first
      | exact True.intro
      | refine stp ?_
      | refine two ?_ ?_
      | refine allc fun c_ => ?_
      | (refine imp fun hc => ?_) <;> try (first | contradiction | (exfalso; omega))
      | refine all fun v_ => ?_)
    all_goals clear fA_ fH_ fS_
    refine ⟨(false, s + 1), ⟨by dsimp only; omega, ?_⟩, by dsimp only; omega, VS.of_le ?_⟩
    · dsimp only
      have key : (∀ t, t < s + 1 → meP g pn i t g.spots.length) ↔ (∀ t, t < s → meP g pn i t g.spots.length) ∧ meP g pn i s g.spots.length :=
        ⟨fun h => ⟨fun t ht => h t (by omega), h s (by omega)⟩, fun h t ht => by
          by_cases e : t = s
          · subst e; exact h.2
          · exact h.1 t (by omega)⟩
      rw [key, ← m2, ← and_assoc, ← s2]
      simp
    · dsimp only
      rw [hp4]
      repeat (first
        | exact Env.le_nil _
        | refine Env.le_cons (AV.le_refl _) ?_
        | refine Env.le_cons (AV.le_int rfl (by first | rfl | omega | (dsimp only; omega))) ?_)
end Go.Proofs.Ytcikppldaepodaa
