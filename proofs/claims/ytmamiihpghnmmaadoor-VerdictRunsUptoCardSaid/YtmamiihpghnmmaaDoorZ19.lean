/- A bundle of this claim's own texts: T11 N6 G16. -/
import Derived.Test.YtmamiihpghnmmaaDoorZ2
import Derived.Test.YtmamiihpghnmmaaDoorZ7
import Derived.Test.YtmamiihpghnmmaaDoorZ8
import Derived.Test.YtmamiihpghnmmaaDoorZ11
import Derived.Test.YtmamiihpghnmmaaDoorZ16
import Derived.Test.YtmamiihpghnmmaaDoorZ17
import Derived.Test.YtmamiihpghnmmaaDoorZ18
namespace Go.Proofs.YtmamiihpghnmmaaDoor
open Go Go.Av Go.Sp
set_option linter.unusedVariables false
set_option linter.unusedSimpArgs false
set_option maxRecDepth 100000
set_option maxHeartbeats 4000000

end Go.Proofs.YtmamiihpghnmmaaDoor
namespace Go.Sp
open Go Go.Av
set_option linter.unusedVariables false
set_option linter.unusedSimpArgs false
noncomputable abbrev firstF (m : Md) : Int := (codeF m (inits m)).1
theorem first_ok {m : Md} (h : modelF m = 0) : (codeF m (inits m)).2 = 0 ∧ 0 ≤ firstF m ∧ firstF m < prodV m.vars := by
  have hl : (inits m).length = m.vars.length := by simp [inits]
  have h2 : (codeF m (inits m)).2 = 0 := by
    rw [code_of h hl]
    refine codeE_all _ _ _ fun i h1 h2 => ?_
    have := (goodV (modelF_vars h)).range m.vars[i] (List.getElem_mem h1)
    unfold rangeV at this
    simp only [inits, List.getElem_map]
    omega
  exact ⟨h2, codeF_bound h hl h2⟩
end Go.Sp
namespace Go.Sp
open Go Go.Av
set_option linter.unusedVariables false
set_option linter.unusedSimpArgs false

theorem nextF_range {m : Md} (hm : modelF m = 0) (c : Int) : ∀ x ∈ (nextF m c).1, 0 ≤ x ∧ x < prodV m.vars := fun x hx => by
  by_cases h : (valsF m c).2 ≠ 0
  · rw [nextF_err h] at hx; cases hx
  · rw [nextF_ok (Decidable.not_not.1 h)] at hx
    obtain ⟨_, h0, h1, _⟩ := valsF_ok (Decidable.not_not.1 h)
    dsimp only at hx
    by_cases hc : codesL m (valsT m.vars c) m.rules = []
    · rw [if_pos hc] at hx; rw [List.mem_singleton.1 hx]; exact ⟨h0, h1⟩
    · rw [if_neg hc] at hx
      have := upTo_range hx
      obtain ⟨n, hn, _, _⟩ := states_nat hm
      rw [hn] at this ⊢
      rw [Int.toNat_natCast] at this
      exact ⟨this.1, this.2.1⟩
noncomputable def nxM (m : Md) (c : Nat) : List Nat := (nextF m c).1.map Int.toNat
theorem nxM_mem {m : Md} (hm : modelF m = 0) (c k : Nat) : k ∈ nxM m c ↔ (k : Int) ∈ (nextF m c).1 := by
  unfold nxM
  rw [List.mem_map]
  constructor
  · rintro ⟨x, hx, rfl⟩
    rwa [Int.toNat_of_nonneg (nextF_range hm c x hx).1]
  · intro h; exact ⟨k, h, Int.toNat_natCast k⟩
theorem nxM_lt {m : Md} (hm : modelF m = 0) {n : Nat} (hn : prodV m.vars = n) (i : Nat) : ∀ k ∈ nxM m i, k < n := fun k hk => by
  have := nextF_range hm i k ((nxM_mem hm i k).1 hk)
  omega
theorem nxM_len (m : Md) (c : Nat) : (nxM m c).length = (nextF m c).1.length := by unfold nxM; rw [List.length_map]
theorem nxM_get (m : Md) (c j : Nat) (h : j < (nxM m c).length) : (nxM m c)[j] = ((nextF m c).1[j]'(by rw [← nxM_len]; exact h)).toNat := by simp [nxM]
noncomputable def reachL (m : Md) (n : Nat) : List Int := ((List.range n).filter fun c => decide (fromP (nxM m) [(firstF m).toNat] c)).map Int.ofNat
noncomputable def reachF (m : Md) : List Int × Int := if modelF m ≠ 0 then ([], modelF m) else (reachL m (prodV m.vars).toNat, 0)
def upS (k : Nat) (st : List Int) : List Int := ((List.range k).filter fun c : Nat => decide (0 < gi st c)).map Int.ofNat
theorem upS_yes {k : Nat} {st : List Int} (h : 0 < gi st k) : upS (k + 1) st = upS k st ++ [(k : Int)] := by
  unfold upS
  rw [List.range_succ, List.filter_append, List.map_append]
  simp [h]
theorem upS_no {k : Nat} {st : List Int} (h : ¬ 0 < gi st k) : upS (k + 1) st = upS k st := by
  unfold upS
  rw [List.range_succ, List.filter_append, List.map_append]
  simp [h]
theorem upS_len (k : Nat) (st : List Int) : (upS k st).length ≤ k := by
  unfold upS
  rw [List.length_map]
  exact Nat.le_trans (List.length_filter_le _ _) (by simp)
theorem upS_reach {m : Md} {n : Nat} {st : List Int} (h : st.map (fun s => decide (0 < s)) = fromL (nxM m) n [(firstF m).toNat]) : upS n st = reachL m n := by
  unfold upS reachL
  refine congrArg (List.map Int.ofNat) (List.filter_congr fun c hc => ?_)
  have hc := List.mem_range.1 hc
  have e := congrArg (·[c]?) h
  have hl : c < st.length := by
    have := congrArg List.length h
    simp [fromL] at this
    omega
  simp only [List.getElem?_map, fromL, List.getElem?_range hc, Option.map_some, List.getElem?_eq_getElem hl, Option.some.injEq] at e
  rw [gi_get _ _ hl]
  exact e
structure RM (m : Md) (n : Nat) (i : Nat) (xs : List Int) : Prop where
  nodup : xs.Nodup
  range : ∀ x ∈ xs, 0 ≤ x ∧ x < n
  sound : ∀ x ∈ xs, fromP (nxM m) [(firstF m).toNat] x.toNat
  first : firstF m ∈ xs
  done : ∀ (j : Nat) (h : j < xs.length), j < i → ∀ y ∈ (nextF m xs[j]).1, y ∈ xs
theorem nodup_len : ∀ (n : Nat) (xs : List Int), xs.Nodup → (∀ x ∈ xs, 0 ≤ x ∧ x < (n : Int)) → xs.length ≤ n
  | 0, [], _, _ => Nat.le_refl _
  | 0, x :: _, _, h => by have := h x List.mem_cons_self; omega
  | n + 1, xs, hn, h => by
    have ih := nodup_len n (xs.erase n) (hn.erase _) fun x hx => by
      have h1 := h x (List.mem_of_mem_erase hx)
      have h2 : x ≠ n := fun e => by
        subst e
        exact (List.Nodup.not_mem_erase hn) hx
      omega
    have := List.length_erase (a := (n : Int)) (l := xs)
    split at this <;> omega
theorem RM.len {m : Md} {n i : Nat} {xs : List Int} (r : RM m n i xs) : xs.length ≤ n := nodup_len n xs r.nodup r.range
theorem RM.start {m : Md} {n : Nat} (hm : modelF m = 0) (hn : prodV m.vars = n) : RM m n 0 [firstF m] := by
  obtain ⟨_, f1, f2⟩ := first_ok hm
  refine ⟨by simp, fun x hx => ?_, fun x hx => ?_, by simp, fun j _ h => absurd h (Nat.not_lt_zero j)⟩
  · rw [List.mem_singleton.1 hx]; omega
  · rw [List.mem_singleton.1 hx]; exact ⟨_, List.mem_singleton.2 rfl, .refl _⟩
theorem RM.fin {m : Md} {n i : Nat} {xs : List Int} (hm : modelF m = 0) (r : RM m n i xs) (hi : xs.length ≤ i) : sortI xs = reachL m n := by
  rw [sort_up n xs r.range r.nodup]
  unfold upTo reachL
  refine congrArg (List.map Int.ofNat) (List.filter_congr fun c hc => decide_eq_decide.2 ?_)
  constructor
  · intro h; have := r.sound _ h; rwa [Int.toNat_natCast] at this
  · rintro ⟨j, hj, hr⟩
    rw [List.mem_singleton.1 hj] at hr
    have key : ∀ k, Rch (nxM m) (firstF m).toNat k → (k : Int) ∈ xs := fun k hk => by
      induction hk with
      | refl => rw [Int.toNat_of_nonneg (r.range _ r.first).1]; exact r.first
      | step _ e ih =>
        obtain ⟨j, hj, he⟩ := List.getElem_of_mem ih
        refine r.done j hj (by omega) _ ?_
        rw [he]; exact (nxM_mem hm _ _).1 e
    exact key c hr
theorem RM.add {m : Md} {n i : Nat} {xs : List Int} (hm : modelF m = 0) (hn : prodV m.vars = n) (r : RM m n i xs) (hi : i < xs.length) {y : Int} (hy : y ∈ (nextF m xs[i]).1) (hno : y ∉ xs) : RM m n i (xs ++ [y]) := by
  have hr := nextF_range hm _ y hy
  have hxi := r.range xs[i] (List.getElem_mem hi)
  refine ⟨List.nodup_append.2 ⟨r.nodup, by simp, fun a ha b hb e => ?_⟩, fun x hx => ?_, fun x hx => ?_, List.mem_append_left _ r.first, fun j h hj z hz => ?_⟩
  · rw [List.mem_singleton.1 hb] at e; exact hno (e ▸ ha)
  · rcases List.mem_append.1 hx with h | h
    · exact r.range x h
    · rw [List.mem_singleton.1 h]; omega
  · rcases List.mem_append.1 hx with h | h
    · exact r.sound x h
    · rw [List.mem_singleton.1 h]
      obtain ⟨u, hu, hp⟩ := r.sound xs[i] (List.getElem_mem hi)
      refine ⟨u, hu, hp.step ((nxM_mem hm _ _).2 ?_)⟩
      rw [Int.toNat_of_nonneg hr.1, Int.toNat_of_nonneg hxi.1]; exact hy
  · rw [List.getElem_append_left (by omega)] at hz
    exact List.mem_append_left _ (r.done j (by omega) hj z hz)
theorem RM.next {m : Md} {n i : Nat} {xs : List Int} (r : RM m n i xs) (hi : i < xs.length) (h : ∀ y ∈ (nextF m xs[i]).1, y ∈ xs) : RM m n (i + 1) xs :=
  ⟨r.nodup, r.range, r.sound, r.first, fun j hj hlt y hy => by
    by_cases e : j = i
    · subst e; exact h y hy
    · exact r.done j hj (by omega) y hy⟩
end Go.Sp
