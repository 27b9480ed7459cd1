/- A bundle of this claim's own texts: W10. -/
import Derived.Test.YtcikppldaepodaaGreatDoorZ5
import Derived.Test.YtcikppldaepodaaGreatDoorZ10
import Derived.Test.YtcikppldaepodaaGreatDoorZ19
import Derived.Test.YtcikppldaepodaaGreatDoorZ20
import Derived.Test.YtcikppldaepodaaGreatDoorZ28
namespace Go.Sp
open Go Go.Av
set_option linter.unusedVariables false
set_option linter.unusedSimpArgs false
theorem momN_next {s L j : Nat} (hL : 0 < L) : momN s L (j + 1) = wnx s (s + L) (momN s L j) := by
  unfold wnx
  by_cases h : j + 1 < s + L
  · rw [momN_small h, momN_small (show j < s + L by omega), if_pos h]
  · unfold momN
    rw [if_neg h]
    by_cases h2 : j < s + L
    · rw [if_pos h2, if_neg h]
      have e : j + 1 - s = L := by omega
      rw [e, Nat.mod_self]; rfl
    · rw [if_neg h2]
      have e : j + 1 - s = (j - s) + 1 := by omega
      have hm := Nat.mod_lt (j - s) hL
      rw [e, Nat.add_mod]
      by_cases c : s + (j - s) % L + 1 < s + L
      · rw [if_pos c]
        have : 1 % L = 1 := Nat.mod_eq_of_lt (by omega)
        rw [this, Nat.mod_eq_of_lt (by omega)]; omega
      · rw [if_neg c]
        by_cases c1 : L = 1
        · subst c1; simp [Nat.mod_one]
        · have : 1 % L = 1 := Nat.mod_eq_of_lt (by omega)
          rw [this, show (j - s) % L + 1 = L by omega, Nat.mod_self]; rfl
theorem scan_step {a : La} {s L i j : Nat} (hL : 0 < L) (hn : a.nxt = wnx s (s + L)) (hj : j ≤ i + (s + L)) : a.up (i + (s + L) + 1 - j) (momN s L j) = a.step (momN s L j) (a.up (i + (s + L) + 1 - (j + 1)) (momN s L (j + 1))) := by
  rw [show i + (s + L) + 1 - j = (i + (s + L) + 1 - (j + 1)) + 1 by omega, La.up, hn, momN_next hL]
abbrev wRows (l : List Fo) (al : List (List Bool)) (s : Nat) : List (List Bool) := (List.range l.length).map (wRow l al s)
theorem tabR_all (l : List Fo) (al : List (List Bool)) (s : Nat) : tabR l al s 0 = (wRows l al s).map fun r => AV.d (.l 1 1 (r.map boolC)) := by
  unfold tabR
  rw [List.map_map]
  refine List.map_congr_left fun j _ => ?_
  simp
end Go.Sp
namespace Go.Proofs.YtcikppldaepodaaGreatDoor
open Go Go.Av Go.Sp
set_option linter.unusedVariables false
set_option linter.unusedSimpArgs false
set_option maxRecDepth 100000
set_option maxHeartbeats 4000000
theorem letts_flat (ls : List (List Bool)) : (ls.map fun r => AV.d (.l 1 1 (r.map boolC))) = ((ls.map lettC).flatten).map D.av := by
  induction ls with
  | nil => rfl
  | cons l ls ih => simp [lettC, D.av, ih]

theorem cal_said : Cal Tryz.prog 115 := Cal.of Tryz.func115 (by kernel_rfl) (by kernel_rfl)
theorem cal_rowsOf : Cal Tryz.prog 58 := Cal.of Tryz.func58 (by kernel_rfl) (by kernel_rfl)
theorem cal_formulaAndWord : Cal Tryz.prog 151 := Cal.of Tryz.func151 (by kernel_rfl) (by kernel_rfl)
theorem said (G : List (Nat × List D)) (l : List Fo) (w : Wd) (p : Int) (br at_ i : Nat) (R : List AV) (g : GoodF l p) (hw0 : wordF w p = 0) (hat : at_ < l.length) (hi : i < (w.stem ++ w.loop).length) (hs12 : w.stem.length ≤ 12) (hl1 : 1 ≤ w.loop.length) (hl12 : w.loop.length ≤ 12) (hal6 : ∀ x ∈ w.stem ++ w.loop, (x.length : Int) = p) (hR : ∀ j, at_ < j → j < l.length → R[j]? = some (.d (boolsD (wRow l (w.stem ++ w.loop) w.stem.length j)))) :
    AC Tryz.prog G 115 [.d (opsD l), wdA w, .val (.slice (some ⟨br, 0, none⟩) l.length l.length), .int at_, .int i] [.cells br 73 R] fun r h => ∃ v : Unit, r = .ret (.bool (wAt l (w.stem ++ w.loop) w.stem.length at_ i)) ∧ h = [.cells br 73 R] := by
  have h60 := g.h60
  have hk := g.kind at_ hat
  have hlen := wRow_len l (w.stem ++ w.loop) w.stem.length
  have hget := wRow_get l (w.stem ++ w.loop) w.stem.length
  have hw := congrFun (wAt_eq l (w.stem ++ w.loop) w.stem.length at_ hat) i
  have hN : (w.stem ++ w.loop).length = w.stem.length + w.loop.length := List.length_append
  have EL := letterAt G w i (by omega) (by omega) (by omega) (by omega) (by rw [momN_small (by omega)]; exact hi)
  simp only [momN_small (show i < w.stem.length + w.loop.length by omega)] at EL
  have EM : ∀ j : Nat, j ≤ 100 → ACr Tryz.prog G 172 [wdA w, .int j] (.int (momN w.stem.length w.loop.length j : Nat)) := fun j hj => momentOf G w j (by omega) (by omega) (by omega) (by omega)
  unfold stepW at hw
  rw [kindAt_eq l at_ hat, valAt_eq l at_ hat] at hw
  refine AC_ofV (ts := [10]) Tryz.f115.ntmps Tryz.func115 rfl rfl rfl (by simp [Tryz.ntmps115]) fun W I => ?_
  by_cases k13 : l[at_].kind = 13
  · obtain ⟨v0, v1⟩ := g.prop at_ hat k13
    have halj := hal6 (w.stem ++ w.loop)[i] (List.getElem_mem hi)
    have hv : l[at_].val.toNat < (w.stem ++ w.loop)[i].length := by omega
    rw [if_pos k13, letB, List.getElem?_eq_getElem hi] at hw
    have hw2 : wAt l (w.stem ++ w.loop) w.stem.length at_ i = (w.stem ++ w.loop)[i][l[at_].val.toNat] := by rw [hw]; simp [hv]
    all_goals haveI fA_ : FlagA := ⟨⟩
    all_goals haveI fH_ : FlagH := ⟨⟩
    repeat' (first
      | ((with_reducible apply call0); (focus rfl); (focus exact cal_letterAt); (focus exact EL); (focus rfl))
      | ((with_reducible apply je_call0); (focus rfl); (focus (decide +kernel)); (focus rfl); (focus exact cal_letterAt); (focus exact EL); (focus rfl))
      | exact True.intro
      | refine stp ?_
      | refine two ?_ ?_
      | refine allc fun c_ => ?_
      | (refine imp fun hc => ?_) <;> try (first | contradiction | (exfalso; omega) | (exfalso; exact absurd (of_dT hc) (by assumption)) | (exfalso; exact of_dF hc (by assumption)))
      | refine all fun v_ => ?_)
    all_goals clear fA_ fH_
    refine retv (VS.take (hc := [.cells br 73 R]) (by ((repeat (first | with_reducible exact Take.nil | ((with_reducible apply Take.cons); (focus ((repeat (first | with_reducible exact Sel.here | with_reducible apply Sel.there)); done))))); done)) (Env.le_refl _)) ?_
    ((with_reducible apply rq1); rfl; rfl)
    refine ⟨(), by rw [hw2]; rfl, rfl⟩
  rw [if_neg k13] at hw
  by_cases k11 : l[at_].kind = 11
  · rw [if_pos k11] at hw
    all_goals haveI fA_ : FlagA := ⟨⟩
    all_goals haveI fH_ : FlagH := ⟨⟩
    repeat' (first
      | exact True.intro
      | refine stp ?_
      | refine two ?_ ?_
      | refine allc fun c_ => ?_
      | (refine imp fun hc => ?_) <;> try (first | contradiction | (exfalso; omega) | (exfalso; exact absurd (of_dT hc) (by assumption)) | (exfalso; exact of_dF hc (by assumption)))
      | refine all fun v_ => ?_)
    all_goals clear fA_ fH_
    refine retv (VS.take (hc := [.cells br 73 R]) (by ((repeat (first | with_reducible exact Take.nil | ((with_reducible apply Take.cons); (focus ((repeat (first | with_reducible exact Sel.here | with_reducible apply Sel.there)); done))))); done)) (Env.le_refl _)) ?_
    ((with_reducible apply rq1); rfl; rfl)
    refine ⟨(), by rw [hw]; simp [k11], rfl⟩
  rw [if_neg k11] at hw
  by_cases k12 : l[at_].kind = 12
  · rw [if_pos k12] at hw
    all_goals haveI fA_ : FlagA := ⟨⟩
    all_goals haveI fH_ : FlagH := ⟨⟩
    repeat' (first
      | exact True.intro
      | refine stp ?_
      | refine two ?_ ?_
      | refine allc fun c_ => ?_
      | (refine imp fun hc => ?_) <;> try (first | contradiction | (exfalso; omega) | (exfalso; exact absurd (of_dT hc) (by assumption)) | (exfalso; exact of_dF hc (by assumption)))
      | refine all fun v_ => ?_)
    all_goals clear fA_ fH_
    refine retv (VS.take (hc := [.cells br 73 R]) (by ((repeat (first | with_reducible exact Take.nil | ((with_reducible apply Take.cons); (focus ((repeat (first | with_reducible exact Sel.here | with_reducible apply Sel.there)); done))))); done)) (Env.le_refl _)) ?_
    ((with_reducible apply rq1); rfl; rfl)
    refine ⟨(), by rw [hw]; simp [k12], rfl⟩
  rw [if_neg k12] at hw
  have hq : 1 ≤ (partsOf l[at_].kind).1 := by
    have : l[at_].kind = 8 ∨ l[at_].kind = 9 ∨ l[at_].kind = 10 ∨ l[at_].kind = 14 ∨ l[at_].kind = 15 ∨ l[at_].kind = 16 ∨ l[at_].kind = 17 ∨ l[at_].kind = 18 := by omega
    rcases this with h | h | h | h | h | h | h | h <;> (rw [h]; decide)
  obtain ⟨q1, q2, q3, q4, q5⟩ := first_in hat (g.well at_ hat) hq
  have hA := hR (at_ + 1) (by omega) q1
  have lA := hlen (at_ + 1)
  have dA : i < (wRow l (w.stem ++ w.loop) w.stem.length (at_ + 1)).length := by omega
  have gA := hget (at_ + 1) i dA
  by_cases k10 : l[at_].kind = 10
  · rw [if_pos k10] at hw
    all_goals haveI fA_ : FlagA := ⟨⟩
    all_goals haveI fH_ : FlagH := ⟨⟩
    repeat' (first
      | exact True.intro
      | refine stp ?_
      | refine two ?_ ?_
      | refine allc fun c_ => ?_
      | (refine imp fun hc => ?_) <;> try (first | contradiction | (exfalso; omega) | (exfalso; exact absurd (of_dT hc) (by assumption)) | (exfalso; exact of_dF hc (by assumption)))
      | refine all fun v_ => ?_)
    all_goals clear fA_ fH_
    refine retv (VS.take (hc := [.cells br 73 R]) (by ((repeat (first | with_reducible exact Take.nil | ((with_reducible apply Take.cons); (focus ((repeat (first | with_reducible exact Sel.here | with_reducible apply Sel.there)); done))))); done)) (Env.le_refl _)) ?_
    ((with_reducible apply rq1); rfl; rfl)
    refine ⟨(), by rw [hw, ← gA], rfl⟩
  rw [if_neg k10] at hw
  by_cases k14 : l[at_].kind = 14
  · rw [if_neg (by omega), if_neg (by omega), if_pos k14] at hw
    have E1 : ACr Tryz.prog G 172 [wdA w, .int ((i : Int) + 1)] (.int (momN w.stem.length w.loop.length (i + 1) : Nat)) := EM (i + 1) (by omega)
    rw [momN_next hl1, momN_small (by omega), ← hN] at E1
    have dX : wnx w.stem.length (w.stem ++ w.loop).length i < (wRow l (w.stem ++ w.loop) w.stem.length (at_ + 1)).length := by rw [hlen]; unfold wnx; split <;> omega
    have gX := hget (at_ + 1) _ dX
    all_goals haveI fA_ : FlagA := ⟨⟩
    all_goals haveI fH_ : FlagH := ⟨⟩
    repeat' (first
      | ((with_reducible apply call0); (focus rfl); (focus exact cal_momentOf); (focus exact E1); (focus rfl))
      | ((with_reducible apply je_call0); (focus rfl); (focus (decide +kernel)); (focus rfl); (focus exact cal_momentOf); (focus exact E1); (focus rfl))
      | exact True.intro
      | refine stp ?_
      | refine two ?_ ?_
      | refine allc fun c_ => ?_
      | (refine imp fun hc => ?_) <;> try (first | contradiction | (exfalso; omega) | (exfalso; exact absurd (of_dT hc) (by assumption)) | (exfalso; exact of_dF hc (by assumption)))
      | refine all fun v_ => ?_)
    all_goals clear fA_ fH_
    refine retv (VS.take (hc := [.cells br 73 R]) (by ((repeat (first | with_reducible exact Take.nil | ((with_reducible apply Take.cons); (focus ((repeat (first | with_reducible exact Sel.here | with_reducible apply Sel.there)); done))))); done)) (Env.le_refl _)) ?_
    ((with_reducible apply rq1); rfl; rfl)
    refine ⟨(), by rw [hw, ← gX]; rfl, rfl⟩
  rw [if_neg k14] at hw
  have mlt : ∀ j, momN w.stem.length w.loop.length j < (w.stem ++ w.loop).length := fun j => by rw [hN]; exact momN_lt hl1
  by_cases k17 : l[at_].kind = 17
  · rw [if_neg (by omega), if_neg (by omega)] at hw
    all_goals haveI fA_ : FlagA := ⟨⟩
    all_goals haveI fH_ : FlagH := ⟨⟩
    repeat' (first
      | exact True.intro
      | refine stp ?_
      | refine two ?_ ?_
      | refine allc fun c_ => ?_
      | (refine imp fun hc => ?_) <;> try (first | contradiction | (exfalso; omega) | (exfalso; exact absurd (of_dT hc) (by assumption)) | (exfalso; exact of_dF hc (by assumption)))
      | refine all fun v_ => ?_)
    all_goals clear fA_ fH_
    generalize hB : (if at_ < second l at_ then wAt l (w.stem ++ w.loop) w.stem.length (second l at_) else fun _ => false) = B at hw
    have sc := fun j hj => scan_step (a := laOf l[at_].kind (wAt l (w.stem ++ w.loop) w.stem.length (at_ + 1)) B (wnx w.stem.length (w.stem ++ w.loop).length)) (s := w.stem.length) (L := w.loop.length) (i := i) (j := j) hl1 (by rw [laOf_nxt, hN]) hj
    rw [hN] at hw
    rename Nat => bw
    refine J_loopV (X := Nat) (fun j => [(2, .val (.slice (some ⟨br, 0, none⟩) l.length l.length)), (3, .int at_), (6, .val (.pointer (some ⟨bw, 0, none⟩))), (11, .int l[at_].kind), (12, .int ((i : Int) + w.stem.length + w.loop.length)), (13, .int j)]) (fun _ => [.cells bw 69 [.d (lettD w.stem), .d (lettD w.loop)], .cells br 73 R])
      (fun j => i ≤ j ∧ j ≤ i + (w.stem.length + w.loop.length) + 1 ∧ wAt l (w.stem ++ w.loop) w.stem.length at_ i = (laOf l[at_].kind (wAt l (w.stem ++ w.loop) w.stem.length (at_ + 1)) B (wnx w.stem.length (w.stem ++ w.loop).length)).up (i + (w.stem.length + w.loop.length) + 1 - j) (momN w.stem.length w.loop.length j)) (fun j => i + (w.stem.length + w.loop.length) + 1 - j) i ⟨Nat.le_refl _, by omega, by rw [hw, momN_small (by omega), hN]; congr 1; omega⟩ (VS.of_le ?_) ?_
    · repeat (first
        | exact Env.le_nil _
        | refine Env.le_cons (AV.le_refl _) ?_
        | refine Env.le_cons (AV.le_int rfl (by first | rfl | omega | (dsimp only; omega))) ?_)
    rintro j ⟨j1, j2, j3⟩
    by_cases hj : j ≤ i + (w.stem.length + w.loop.length)
    · rw [sc j hj] at j3
      have mj := mlt j
      have lX : momN w.stem.length w.loop.length j < (wRow l (w.stem ++ w.loop) w.stem.length (at_ + 1)).length := by rw [lA]; exact mj
      have gX := hget (at_ + 1) _ lX
      have E1 := EM j (by omega)
      generalize hm : momN w.stem.length w.loop.length j = m at *
      generalize hx : (wRow l (w.stem ++ w.loop) w.stem.length (at_ + 1))[m] = x at *
      rw [k17, la17, ← gX] at j3
      cases x
      all_goals
        all_goals haveI fA_ : FlagA := ⟨⟩
        all_goals haveI fH_ : FlagH := ⟨⟩
        repeat' (first
          | ((with_reducible apply call0); (focus rfl); (focus exact cal_momentOf); (focus exact E1); (focus rfl))
          | ((with_reducible apply je_call0); (focus rfl); (focus (decide +kernel)); (focus rfl); (focus exact cal_momentOf); (focus exact E1); (focus rfl))
          | exact True.intro
          | refine stp ?_
          | refine two ?_ ?_
          | refine allc fun c_ => ?_
          | (refine imp fun hc => ?_) <;> try (first | contradiction | (exfalso; omega) | (exfalso; exact absurd (of_dT hc) (by assumption)) | (exfalso; exact of_dF hc (by assumption)))
          | refine all fun v_ => ?_)
        all_goals clear fA_ fH_
        all_goals first
        | (exfalso; simp [k17, hx] at hc; done)
        | (refine retv (VS.take (hc := [.cells br 73 R]) (by ((repeat (first | with_reducible exact Take.nil | ((with_reducible apply Take.cons); (focus ((repeat (first | with_reducible exact Sel.here | with_reducible apply Sel.there)); done))))); done)) (Env.le_refl _)) ?_
           ((with_reducible apply rq1); rfl; rfl)
           refine ⟨(), by rw [j3]; simp [k17]; done, rfl⟩)
        | (refine ⟨j + 1, ⟨by omega, by omega, (by rw [j3, k17]; rfl)⟩, by omega, VS.of_le ?_⟩
           repeat (first
             | exact Env.le_nil _
             | refine Env.le_cons (AV.le_refl _) ?_
             | refine Env.le_cons (AV.le_int rfl (by first | rfl | omega | (dsimp only; omega))) ?_))
    · rw [show i + (w.stem.length + w.loop.length) + 1 - j = 0 by omega] at j3
      all_goals haveI fA_ : FlagA := ⟨⟩
      all_goals haveI fH_ : FlagH := ⟨⟩
      repeat' (first
        | exact True.intro
        | refine stp ?_
        | refine two ?_ ?_
        | refine allc fun c_ => ?_
        | (refine imp fun hc => ?_) <;> try (first | contradiction | (exfalso; omega) | (exfalso; exact absurd (of_dT hc) (by assumption)) | (exfalso; exact of_dF hc (by assumption)))
        | refine all fun v_ => ?_)
      all_goals clear fA_ fH_
      refine retv (VS.take (hc := [.cells br 73 R]) (by ((repeat (first | with_reducible exact Take.nil | ((with_reducible apply Take.cons); (focus ((repeat (first | with_reducible exact Sel.here | with_reducible apply Sel.there)); done))))); done)) (Env.le_refl _)) ?_
      ((with_reducible apply rq1); rfl; rfl)
      refine ⟨(), by rw [j3, La.up]; simp [k17, laOf]; done, rfl⟩
  by_cases k18 : l[at_].kind = 18
  · rw [if_neg (by omega), if_neg (by omega)] at hw
    all_goals haveI fA_ : FlagA := ⟨⟩
    all_goals haveI fH_ : FlagH := ⟨⟩
    repeat' (first
      | exact True.intro
      | refine stp ?_
      | refine two ?_ ?_
      | refine allc fun c_ => ?_
      | (refine imp fun hc => ?_) <;> try (first | contradiction | (exfalso; omega) | (exfalso; exact absurd (of_dT hc) (by assumption)) | (exfalso; exact of_dF hc (by assumption)))
      | refine all fun v_ => ?_)
    all_goals clear fA_ fH_
    generalize hB : (if at_ < second l at_ then wAt l (w.stem ++ w.loop) w.stem.length (second l at_) else fun _ => false) = B at hw
    have sc := fun j hj => scan_step (a := laOf l[at_].kind (wAt l (w.stem ++ w.loop) w.stem.length (at_ + 1)) B (wnx w.stem.length (w.stem ++ w.loop).length)) (s := w.stem.length) (L := w.loop.length) (i := i) (j := j) hl1 (by rw [laOf_nxt, hN]) hj
    rw [hN] at hw
    rename Nat => bw
    refine J_loopV (X := Nat) (fun j => [(2, .val (.slice (some ⟨br, 0, none⟩) l.length l.length)), (3, .int at_), (6, .val (.pointer (some ⟨bw, 0, none⟩))), (11, .int l[at_].kind), (12, .int ((i : Int) + w.stem.length + w.loop.length)), (13, .int j)]) (fun _ => [.cells bw 69 [.d (lettD w.stem), .d (lettD w.loop)], .cells br 73 R])
      (fun j => i ≤ j ∧ j ≤ i + (w.stem.length + w.loop.length) + 1 ∧ wAt l (w.stem ++ w.loop) w.stem.length at_ i = (laOf l[at_].kind (wAt l (w.stem ++ w.loop) w.stem.length (at_ + 1)) B (wnx w.stem.length (w.stem ++ w.loop).length)).up (i + (w.stem.length + w.loop.length) + 1 - j) (momN w.stem.length w.loop.length j)) (fun j => i + (w.stem.length + w.loop.length) + 1 - j) i ⟨Nat.le_refl _, by omega, by rw [hw, momN_small (by omega), hN]; congr 1; omega⟩ (VS.of_le ?_) ?_
    · repeat (first
        | exact Env.le_nil _
        | refine Env.le_cons (AV.le_refl _) ?_
        | refine Env.le_cons (AV.le_int rfl (by first | rfl | omega | (dsimp only; omega))) ?_)
    rintro j ⟨j1, j2, j3⟩
    by_cases hj : j ≤ i + (w.stem.length + w.loop.length)
    · rw [sc j hj] at j3
      have mj := mlt j
      have lX : momN w.stem.length w.loop.length j < (wRow l (w.stem ++ w.loop) w.stem.length (at_ + 1)).length := by rw [lA]; exact mj
      have gX := hget (at_ + 1) _ lX
      have E1 := EM j (by omega)
      generalize hm : momN w.stem.length w.loop.length j = m at *
      generalize hx : (wRow l (w.stem ++ w.loop) w.stem.length (at_ + 1))[m] = x at *
      rw [k18, la18, ← gX] at j3
      cases x
      all_goals
        all_goals haveI fA_ : FlagA := ⟨⟩
        all_goals haveI fH_ : FlagH := ⟨⟩
        repeat' (first
          | ((with_reducible apply call0); (focus rfl); (focus exact cal_momentOf); (focus exact E1); (focus rfl))
          | ((with_reducible apply je_call0); (focus rfl); (focus (decide +kernel)); (focus rfl); (focus exact cal_momentOf); (focus exact E1); (focus rfl))
          | exact True.intro
          | refine stp ?_
          | refine two ?_ ?_
          | refine allc fun c_ => ?_
          | (refine imp fun hc => ?_) <;> try (first | contradiction | (exfalso; omega) | (exfalso; exact absurd (of_dT hc) (by assumption)) | (exfalso; exact of_dF hc (by assumption)))
          | refine all fun v_ => ?_)
        all_goals clear fA_ fH_
        all_goals first
        | (exfalso; simp [k18, hx] at hc; done)
        | (refine retv (VS.take (hc := [.cells br 73 R]) (by ((repeat (first | with_reducible exact Take.nil | ((with_reducible apply Take.cons); (focus ((repeat (first | with_reducible exact Sel.here | with_reducible apply Sel.there)); done))))); done)) (Env.le_refl _)) ?_
           ((with_reducible apply rq1); rfl; rfl)
           refine ⟨(), by rw [j3]; simp [k18]; done, rfl⟩)
        | (refine ⟨j + 1, ⟨by omega, by omega, (by rw [j3, k18]; rfl)⟩, by omega, VS.of_le ?_⟩
           repeat (first
             | exact Env.le_nil _
             | refine Env.le_cons (AV.le_refl _) ?_
             | refine Env.le_cons (AV.le_int rfl (by first | rfl | omega | (dsimp only; omega))) ?_))
    · rw [show i + (w.stem.length + w.loop.length) + 1 - j = 0 by omega] at j3
      all_goals haveI fA_ : FlagA := ⟨⟩
      all_goals haveI fH_ : FlagH := ⟨⟩
      repeat' (first
        | exact True.intro
        | refine stp ?_
        | refine two ?_ ?_
        | refine allc fun c_ => ?_
        | (refine imp fun hc => ?_) <;> try (first | contradiction | (exfalso; omega) | (exfalso; exact absurd (of_dT hc) (by assumption)) | (exfalso; exact of_dF hc (by assumption)))
        | refine all fun v_ => ?_)
      all_goals clear fA_ fH_
      refine retv (VS.take (hc := [.cells br 73 R]) (by ((repeat (first | with_reducible exact Take.nil | ((with_reducible apply Take.cons); (focus ((repeat (first | with_reducible exact Sel.here | with_reducible apply Sel.there)); done))))); done)) (Env.le_refl _)) ?_
      ((with_reducible apply rq1); rfl; rfl)
      refine ⟨(), by rw [j3, La.up]; simp [k18, laOf]; done, rfl⟩
  have hq2 : (partsOf l[at_].kind).1 = 2 := by
    have : l[at_].kind = 8 ∨ l[at_].kind = 9 ∨ l[at_].kind = 15 ∨ l[at_].kind = 16 := by omega
    rcases this with h | h | h | h <;> (rw [h]; decide)
  obtain ⟨r1, r2⟩ := second_in hat (g.well at_ hat) hq2
  have hB := hR (second l at_) (by omega) r1
  have ES := secondAt G l at_ (by omega)
  rw [q4] at ES
  have lB := hlen (second l at_)
  have dB : i < (wRow l (w.stem ++ w.loop) w.stem.length (second l at_)).length := by omega
  have gB := hget (second l at_) i dB
  rw [if_pos (show at_ < second l at_ by omega)] at hw
  by_cases k8 : l[at_].kind = 8
  · rw [if_pos k8, ← gA, ← gB] at hw
    all_goals haveI fA_ : FlagA := ⟨⟩
    all_goals haveI fH_ : FlagH := ⟨⟩
    repeat' (first
      | ((with_reducible apply call0); (focus rfl); (focus exact cal_secondAt); (focus exact ES); (focus rfl))
      | ((with_reducible apply je_call0); (focus rfl); (focus (decide +kernel)); (focus rfl); (focus exact cal_secondAt); (focus exact ES); (focus rfl))
      | exact True.intro
      | refine stp ?_
      | refine two ?_ ?_
      | refine allc fun c_ => ?_
      | (refine imp fun hc => ?_) <;> try (first | contradiction | (exfalso; omega) | (exfalso; exact absurd (of_dT hc) (by assumption)) | (exfalso; exact of_dF hc (by assumption)))
      | refine all fun v_ => ?_)
    all_goals clear fA_ fH_
    all_goals
      refine retv (VS.take (hc := [.cells br 73 R]) (by ((repeat (first | with_reducible exact Take.nil | ((with_reducible apply Take.cons); (focus ((repeat (first | with_reducible exact Sel.here | with_reducible apply Sel.there)); done))))); done)) (Env.le_refl _)) ?_
      ((with_reducible apply rq1); rfl; rfl)
      refine ⟨(), by rw [hw, hc]; rfl, rfl⟩
  by_cases k9 : l[at_].kind = 9
  · rw [if_neg k8, if_pos k9, ← gA, ← gB] at hw
    all_goals haveI fA_ : FlagA := ⟨⟩
    all_goals haveI fH_ : FlagH := ⟨⟩
    repeat' (first
      | ((with_reducible apply call0); (focus rfl); (focus exact cal_secondAt); (focus exact ES); (focus rfl))
      | ((with_reducible apply je_call0); (focus rfl); (focus (decide +kernel)); (focus rfl); (focus exact cal_secondAt); (focus exact ES); (focus rfl))
      | exact True.intro
      | refine stp ?_
      | refine two ?_ ?_
      | refine allc fun c_ => ?_
      | (refine imp fun hc => ?_) <;> try (first | contradiction | (exfalso; omega) | (exfalso; exact absurd (of_dT hc) (by assumption)) | (exfalso; exact of_dF hc (by assumption)))
      | refine all fun v_ => ?_)
    all_goals clear fA_ fH_
    all_goals
      refine retv (VS.take (hc := [.cells br 73 R]) (by ((repeat (first | with_reducible exact Take.nil | ((with_reducible apply Take.cons); (focus ((repeat (first | with_reducible exact Sel.here | with_reducible apply Sel.there)); done))))); done)) (Env.le_refl _)) ?_
      ((with_reducible apply rq1); rfl; rfl)
      refine ⟨(), by rw [hw, hc]; rfl, rfl⟩
  rw [if_neg (by omega), if_neg (by omega)] at hw
  all_goals haveI fA_ : FlagA := ⟨⟩
  all_goals haveI fH_ : FlagH := ⟨⟩
  repeat' (first
    | ((with_reducible apply call0); (focus rfl); (focus exact cal_secondAt); (focus exact ES); (focus rfl))
    | ((with_reducible apply je_call0); (focus rfl); (focus (decide +kernel)); (focus rfl); (focus exact cal_secondAt); (focus exact ES); (focus rfl))
    | exact True.intro
    | refine stp ?_
    | refine two ?_ ?_
    | refine allc fun c_ => ?_
    | (refine imp fun hc => ?_) <;> try (first | contradiction | (exfalso; omega) | (exfalso; exact absurd (of_dT hc) (by assumption)) | (exfalso; exact of_dF hc (by assumption)))
    | refine all fun v_ => ?_)
  all_goals clear fA_ fH_
  have sc := fun j hj => scan_step (a := laOf l[at_].kind (wAt l (w.stem ++ w.loop) w.stem.length (at_ + 1)) (wAt l (w.stem ++ w.loop) w.stem.length (second l at_)) (wnx w.stem.length (w.stem ++ w.loop).length)) (s := w.stem.length) (L := w.loop.length) (i := i) (j := j) hl1 (by rw [laOf_nxt, hN]) hj
  rw [hN] at hw
  rename Nat => bw
  refine J_loopV (X := Nat) (fun j => [(6, .val (.pointer (some ⟨bw, 0, none⟩))), (11, .int l[at_].kind), (12, .int ((i : Int) + w.stem.length + w.loop.length)), (14, .d (boolsD (wRow l (w.stem ++ w.loop) w.stem.length (at_ + 1)))), (15, .d (boolsD (wRow l (w.stem ++ w.loop) w.stem.length (second l at_)))), (16, .int j)]) (fun _ => [.cells bw 69 [.d (lettD w.stem), .d (lettD w.loop)], .cells br 73 R])
    (fun j => i ≤ j ∧ j ≤ i + (w.stem.length + w.loop.length) + 1 ∧ wAt l (w.stem ++ w.loop) w.stem.length at_ i = (laOf l[at_].kind (wAt l (w.stem ++ w.loop) w.stem.length (at_ + 1)) (wAt l (w.stem ++ w.loop) w.stem.length (second l at_)) (wnx w.stem.length (w.stem ++ w.loop).length)).up (i + (w.stem.length + w.loop.length) + 1 - j) (momN w.stem.length w.loop.length j)) (fun j => i + (w.stem.length + w.loop.length) + 1 - j) i ⟨Nat.le_refl _, by omega, by rw [hw, momN_small (by omega), hN]; congr 1; omega⟩ (VS.of_le ?_) ?_
  · repeat (first
      | exact Env.le_nil _
      | refine Env.le_cons (AV.le_refl _) ?_
      | refine Env.le_cons (AV.le_int rfl (by first | rfl | omega | (dsimp only; omega))) ?_)
  rintro j ⟨j1, j2, j3⟩
  by_cases hj : j ≤ i + (w.stem.length + w.loop.length)
  · rw [sc j hj] at j3
    have mj := mlt j
    have lX : momN w.stem.length w.loop.length j < (wRow l (w.stem ++ w.loop) w.stem.length (at_ + 1)).length := by rw [lA]; exact mj
    have gX := hget (at_ + 1) _ lX
    have lY : momN w.stem.length w.loop.length j < (wRow l (w.stem ++ w.loop) w.stem.length (second l at_)).length := by rw [lB]; exact mj
    have gY := hget (second l at_) _ lY
    have E1 := EM j (by omega)
    generalize hm : momN w.stem.length w.loop.length j = m at *
    generalize hx : (wRow l (w.stem ++ w.loop) w.stem.length (at_ + 1))[m] = x at *
    generalize hy : (wRow l (w.stem ++ w.loop) w.stem.length (second l at_))[m] = y at *
    have nA : ∀ b, (wRow l (w.stem ++ w.loop) w.stem.length (at_ + 1))[m] = b → b = x := fun b h => h.symm.trans hx
    have nB : ∀ b, (wRow l (w.stem ++ w.loop) w.stem.length (second l at_))[m] = b → b = y := fun b h => h.symm.trans hy
    by_cases k15 : l[at_].kind = 15
    · skip
      rw [k15, la15, ← gX, ← gY] at j3
      all_goals haveI fA_ : FlagA := ⟨⟩
      all_goals haveI fH_ : FlagH := ⟨⟩
      repeat' (first
        | ((with_reducible apply call0); (focus rfl); (focus exact cal_momentOf); (focus exact E1); (focus rfl))
        | ((with_reducible apply je_call0); (focus rfl); (focus (decide +kernel)); (focus rfl); (focus exact cal_momentOf); (focus exact E1); (focus rfl))
        | exact True.intro
        | refine stp ?_
        | refine two ?_ ?_
        | refine allc fun c_ => ?_
        | (refine imp fun hc => ?_) <;> try (first | contradiction | (exfalso; omega) | (exfalso; exact absurd (of_dT hc) (by assumption)) | (exfalso; exact of_dF hc (by assumption)))
        | refine all fun v_ => ?_)
      all_goals clear fA_ fH_
      all_goals (cases x <;> cases y)
      all_goals first
      | (exfalso; exact absurd (nA true (by assumption)) (by decide))
      | (exfalso; exact absurd (nA false (by assumption)) (by decide))
      | (exfalso; exact absurd (nB true (by assumption)) (by decide))
      | (exfalso; exact absurd (nB false (by assumption)) (by decide))
      | (refine retv (VS.take (hc := [.cells br 73 R]) (by ((repeat (first | with_reducible exact Take.nil | ((with_reducible apply Take.cons); (focus ((repeat (first | with_reducible exact Sel.here | with_reducible apply Sel.there)); done))))); done)) (Env.le_refl _)) ?_
         ((with_reducible apply rq1); rfl; rfl)
         refine ⟨(), by rw [j3]; simp [k15]; done, rfl⟩)
      | (refine ⟨j + 1, ⟨by omega, by omega, (by rw [j3, k15]; rfl)⟩, by omega, VS.of_le ?_⟩
         repeat (first
           | exact Env.le_nil _
           | refine Env.le_cons (AV.le_refl _) ?_
           | refine Env.le_cons (AV.le_int rfl (by first | rfl | omega | (dsimp only; omega))) ?_))
    · have k16 : l[at_].kind = 16 := by omega
      rw [k16, la16, ← gX, ← gY] at j3
      all_goals haveI fA_ : FlagA := ⟨⟩
      all_goals haveI fH_ : FlagH := ⟨⟩
      repeat' (first
        | ((with_reducible apply call0); (focus rfl); (focus exact cal_momentOf); (focus exact E1); (focus rfl))
        | ((with_reducible apply je_call0); (focus rfl); (focus (decide +kernel)); (focus rfl); (focus exact cal_momentOf); (focus exact E1); (focus rfl))
        | exact True.intro
        | refine stp ?_
        | refine two ?_ ?_
        | refine allc fun c_ => ?_
        | (refine imp fun hc => ?_) <;> try (first | contradiction | (exfalso; omega) | (exfalso; exact absurd (of_dT hc) (by assumption)) | (exfalso; exact of_dF hc (by assumption)))
        | refine all fun v_ => ?_)
      all_goals clear fA_ fH_
      all_goals (cases x <;> cases y)
      all_goals first
      | (exfalso; exact absurd (nA true (by assumption)) (by decide))
      | (exfalso; exact absurd (nA false (by assumption)) (by decide))
      | (exfalso; exact absurd (nB true (by assumption)) (by decide))
      | (exfalso; exact absurd (nB false (by assumption)) (by decide))
      | (refine retv (VS.take (hc := [.cells br 73 R]) (by ((repeat (first | with_reducible exact Take.nil | ((with_reducible apply Take.cons); (focus ((repeat (first | with_reducible exact Sel.here | with_reducible apply Sel.there)); done))))); done)) (Env.le_refl _)) ?_
         ((with_reducible apply rq1); rfl; rfl)
         refine ⟨(), by rw [j3]; simp [k16]; done, rfl⟩)
      | (refine ⟨j + 1, ⟨by omega, by omega, (by rw [j3, k16]; rfl)⟩, by omega, VS.of_le ?_⟩
         repeat (first
           | exact Env.le_nil _
           | refine Env.le_cons (AV.le_refl _) ?_
           | refine Env.le_cons (AV.le_int rfl (by first | rfl | omega | (dsimp only; omega))) ?_))
  · rw [show i + (w.stem.length + w.loop.length) + 1 - j = 0 by omega] at j3
    all_goals haveI fA_ : FlagA := ⟨⟩
    all_goals haveI fH_ : FlagH := ⟨⟩
    repeat' (first
      | exact True.intro
      | refine stp ?_
      | refine two ?_ ?_
      | refine allc fun c_ => ?_
      | (refine imp fun hc => ?_) <;> try (first | contradiction | (exfalso; omega) | (exfalso; exact absurd (of_dT hc) (by assumption)) | (exfalso; exact of_dF hc (by assumption)))
      | refine all fun v_ => ?_)
    all_goals clear fA_ fH_
    have kU : l[at_].kind = 15 ∨ l[at_].kind = 16 := by omega
    refine retv (VS.take (hc := [.cells br 73 R]) (by ((repeat (first | with_reducible exact Take.nil | ((with_reducible apply Take.cons); (focus ((repeat (first | with_reducible exact Sel.here | with_reducible apply Sel.there)); done))))); done)) (Env.le_refl _)) ?_
    ((with_reducible apply rq1); rfl; rfl)
    refine ⟨(), by rw [j3, La.up]; rcases kU with h | h <;> (simp [h, laOf]; done), rfl⟩
end Go.Proofs.YtcikppldaepodaaGreatDoor
