/-
 PLAIN, NO PROGRAM: a key is put into a store (over G26).
-/
import Derived.Test.YtnlfhnbcdfdhgaaG26
namespace Go.Sp
open Go Go.Av
set_option linter.unusedVariables false
set_option linter.unusedSimpArgs false

theorem sortI_lt {l : List Int} (h : l.Nodup) : (sortI l).Pairwise (· < ·) := by
 have h2 : (sortI l).Nodup := (sortI_perm l).nodup_iff.2 h
 exact List.Pairwise.imp (fun h => by omega) ((sortI_up l).and h2)
theorem packR_at (runs : List (List Int)) (k : Nat) (last : List Int) (h : k < runs.length) : packR runs (k + 1) last = if runs[k].length ≤ last.length then packR runs k (sortI (runs[k] ++ last)) else runs.take (k + 1) ++ [last] := by
 rw [packR, List.getElem?_eq_getElem h]; rfl
theorem packR_flat (runs : List (List Int)) : ∀ (k : Nat) (last : List Int), k ≤ runs.length → (packR runs k last).flatten.Perm ((runs.take k).flatten ++ last)
 | 0, last, _ => by simp [packR]
 | k + 1, last, h => by
   rw [packR_at runs k last h, flat_succ runs k h]
   split
   · refine (packR_flat runs k _ (by omega)).trans ?_
     rw [List.append_assoc]
     exact List.Perm.append_left _ (sortI_perm _)
   · rw [List.flatten_append, flat_succ runs k h]
     simp
theorem packR_rise (runs : List (List Int)) (hr : ∀ r ∈ runs, r ≠ [] ∧ r.Pairwise (· < ·)) : ∀ (k : Nat) (last : List Int), k ≤ runs.length → last ≠ [] → last.Pairwise (· < ·) → ((runs.take k).flatten ++ last).Nodup → ∀ r ∈ packR runs k last, r ≠ [] ∧ r.Pairwise (· < ·)
 | 0, last, _, h1, h2, _ => fun r h => by
   rw [packR, List.mem_singleton] at h
   rw [h]; exact ⟨h1, h2⟩
 | k + 1, last, h, h1, h2, hn => by
   rw [packR_at runs k last h]
   rw [flat_succ runs k h, List.append_assoc] at hn
   have hn2 : (runs[k] ++ last).Nodup := (List.nodup_append.1 hn).2.1
   split
   · refine packR_rise runs hr k _ (by omega) (fun e => ?_) (sortI_lt hn2) ?_
     · have := congrArg List.length e
       rw [sortI_len, List.length_append, List.length_nil] at this
       exact h1 (List.length_eq_zero_iff.1 (by omega))
     · exact ((List.Perm.append_left _ (sortI_perm _)).nodup_iff).2 hn
   · intro r hm
     rcases List.mem_append.1 hm with hm | hm
     · exact hr r (List.mem_of_mem_take hm)
     · rw [List.mem_singleton.1 hm]; exact ⟨h1, h2⟩
theorem StoP.perm {s : Sto} {l : List Int} (h7 : s.loose.length ≤ 7) (hr : ∀ r ∈ s.runs, r ≠ [] ∧ r.Pairwise (· < ·)) (hp : (keysL s).Perm l) (hl : l.length ≤ 20000) (hk : ∀ k ∈ l, keyP k) (hn : l.Nodup) : StoP s :=
 ⟨h7, hr, by rw [← keysL_len, hp.length_eq]; exact hl, fun k h => hk k (hp.mem_iff.1 h), hp.nodup_iff.2 hn⟩
theorem hasF_ok {s : Sto} (p : StoP s) {n : Int} (hk : keyP n) : hasF s n = (decide (n ∈ keysL s), 0) := by
 unfold hasF
 rw [if_neg (fun h => h (stoF_ok p)), if_neg (fun h => h hk)]
/-- A key that is new. -/
theorem addF_new {s : Sto} (p : StoP s) {n : Int} (hk : keyP n) (hn : n ∉ keysL s) (hl : (keysL s).length < 20000) : ∃ s', addF s n = ((s', true), 0) ∧ StoP s' ∧ (keysL s').Perm (keysL s ++ [n]) := by
 have h0 : hasF s n = (false, 0) := by rw [hasF_ok p hk, decide_eq_false hn]
 have hd : (keysL s ++ [n]).Nodup := by
  rw [List.nodup_append]
  exact ⟨p.nodup, by simp, fun a ha b hb e => by rw [List.mem_singleton.1 hb] at e; exact hn (e ▸ ha)⟩
 have hr : ∀ k ∈ keysL s ++ [n], keyP k := fun k h => by
  rcases List.mem_append.1 h with h | h
  · exact p.range k h
  · rw [List.mem_singleton.1 h]; exact hk
 have hL : (keysL s ++ [n]).length ≤ 20000 := by rw [List.length_append]; simp only [List.length_singleton]; omega
 unfold addF
 rw [if_neg (by rw [h0]; simp), if_neg (by rw [h0]; simp), if_neg (by omega)]
 by_cases c : s.loose.length + 1 < 8
 · rw [if_pos c]
   have hp : (keysL ⟨s.loose ++ [n], s.runs⟩).Perm (keysL s ++ [n]) := by simp [keysL]
   exact ⟨_, rfl, StoP.perm (by simp; omega) p.runs hp hL hr hd, hp⟩
 · rw [if_neg c]
   have h1 := packR_flat s.runs s.runs.length (sortI (s.loose ++ [n])) (Nat.le_refl _)
   rw [List.take_length] at h1
   have hp : (keysL ⟨[], packR s.runs s.runs.length (sortI (s.loose ++ [n]))⟩).Perm (keysL s ++ [n]) := by
    simp only [keysL, List.append_nil]
    rw [List.append_assoc]
    exact h1.trans (List.Perm.append_left _ (sortI_perm _))
   have hd2 : (s.runs.flatten ++ (s.loose ++ [n])).Nodup := by rw [← List.append_assoc]; exact hd
   refine ⟨_, rfl, StoP.perm (Nat.zero_le _) (packR_rise s.runs p.runs s.runs.length _ (Nat.le_refl _) (fun e => ?_) (sortI_lt (List.nodup_append.1 hd2).2.1) ?_) hp hL hr hd, hp⟩
   · have := congrArg List.length e
     rw [sortI_len, List.length_append, List.length_nil] at this
     simp at this
   · rw [List.take_length]
     exact ((List.Perm.append_left _ (sortI_perm _)).nodup_iff).2 hd2
/-- A key that is there. -/
theorem addF_old {s : Sto} (p : StoP s) {n : Int} (hk : keyP n) (hn : n ∈ keysL s) : addF s n = ((s, false), 0) := by
 have h0 : hasF s n = (true, 0) := by rw [hasF_ok p hk, decide_eq_true hn]
 unfold addF
 rw [if_neg (by rw [h0]; simp), if_pos (by rw [h0])]
theorem hasF_sto {s : Sto} {n : Int} (h : (hasF s n).2 = 0) : StoP s := by
 unfold hasF at h
 by_cases c : stoF s ≠ 0
 · rw [if_pos c] at h; exact absurd h c
 · exact stoF_iff.1 (Decidable.not_not.1 c)
theorem StoP.nil : StoP ⟨[], []⟩ := ⟨Nat.zero_le _, fun r h => (by cases h), Nat.zero_le _, fun k h => (by simp [keysL] at h), by simp [keysL]⟩
/-- Runs on the way of becoming one. -/
structure PkI (runs : List (List Int)) (L0 : List Int) (m : Nat) (last : List Int) : Prop where
 le : m ≤ runs.length
 up : last.Pairwise (· ≤ ·)
 pk : packR runs runs.length L0 = packR runs m last
 few : last.length + (runs.take m).flatten.length ≤ 30000
theorem PkI.zero {runs : List (List Int)} {L0 last : List Int} (h : PkI runs L0 0 last) : packR runs runs.length L0 = [last] := h.pk
theorem PkI.stop {runs : List (List Int)} {L0 last : List Int} {m : Nat} (h : PkI runs L0 (m + 1) last) (hl : ¬ (runs[m]'h.le).length ≤ last.length) : packR runs runs.length L0 = runs.take (m + 1) ++ [last] := by
 rw [h.pk, packR_at runs m last h.le, if_neg hl]
theorem PkI.next {runs : List (List Int)} {L0 last : List Int} {m : Nat} (h : PkI runs L0 (m + 1) last) (hl : (runs[m]'h.le).length ≤ last.length) : PkI runs L0 m (sortI (runs[m]'h.le ++ last)) := by
 have h1 := h.le
 have h2 := h.few
 rw [flat_succ runs m h1, List.length_append] at h2
 refine ⟨by omega, sortI_up _, by rw [h.pk, packR_at runs m last h1, if_pos hl], ?_⟩
 rw [sortI_len, List.length_append]; omega
end Go.Sp
