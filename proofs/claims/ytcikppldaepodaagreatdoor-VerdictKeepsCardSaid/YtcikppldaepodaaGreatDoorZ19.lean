/- A bundle of this claim's own texts: Y9 G7 G8 G12 N1 M7. -/
import Derived.Test.YtcikppldaepodaaGreatDoorZ1
import Derived.Test.YtcikppldaepodaaGreatDoorZ2
import Derived.Test.YtcikppldaepodaaGreatDoorZ9
import Derived.Test.YtcikppldaepodaaGreatDoorZ10
import Derived.Test.YtcikppldaepodaaGreatDoorZ11
import Derived.Test.YtcikppldaepodaaGreatDoorZ12
import Derived.Test.YtcikppldaepodaaGreatDoorZ14
import Derived.Test.YtcikppldaepodaaGreatDoorZ15
import Derived.Test.YtcikppldaepodaaGreatDoorZ16
import Derived.Test.YtcikppldaepodaaGreatDoorZ17
import Derived.Test.YtcikppldaepodaaGreatDoorZ18
namespace Go.Proofs.YtcikppldaepodaaGreatDoor
open Go Go.Av Go.Sp
set_option linter.unusedVariables false
set_option linter.unusedSimpArgs false
set_option maxRecDepth 100000
set_option maxHeartbeats 4000000
theorem worked (G : List (Nat × List D)) (env : List Int) (henv : ∀ v ∈ env, limP v) (h6 : env.length ≤ 6) : ∀ (m : Nat) (l : List Fo), l.length ≤ m → GoodE l env.length → ACr Tryz.prog G 150 [.d (opsD l), .d (intsD env)] (.tup [.int (wk l env).1, .int (wk l env).2]) := by
  intro m
  induction m using Nat.strongRecOn with
  | _ m ih =>
  intro l hm g
  have hk := g.kind g.pos
  have hk1 : 1 ≤ (l[nat_lit 0]'g.pos).kind := hk.1
  have hk2 : (l[nat_lit 0]'g.pos).kind ≤ 12 := hk.2.1
  by_cases a1 : (l[nat_lit 0]'g.pos).kind ≤ 2
  · exact workedLo G env henv h6 m ih l hm g ⟨hk1, a1⟩
  by_cases a2 : (l[nat_lit 0]'g.pos).kind ≤ 5
  · exact workedAr G env henv h6 m ih l hm g ⟨by omega, a2⟩
  by_cases a3 : (l[nat_lit 0]'g.pos).kind ≤ 7
  · exact workedCm G env henv h6 m ih l hm g ⟨by omega, a3⟩
  by_cases a4 : (l[nat_lit 0]'g.pos).kind ≤ 9
  · exact workedBo G env henv h6 m ih l hm g ⟨by omega, a4⟩
  exact workedUp G env henv h6 m ih l hm g ⟨by omega, hk2⟩
theorem Evaluated (G : List (Nat × List D)) (l : List Fo) (env : List Int) : ACr Tryz.prog G 87 [.d (opsD l), .d (intsD env)] (.tup [.int (evalF l env).1, .int (evalF l env).2]) := by
  refine AC.factI (f := intC) (xs := env) (.there .here) fun hlv => ?_
  have hC := ExprChecked G l env.length
  refine AC_ofV (ts := [4, 5]) Tryz.f87.ntmps Tryz.func87 rfl rfl rfl (by simp [Tryz.ntmps87]) fun _ I => ?_
  have hgood := goodE_of (l := l) (vars := env.length)
  unfold evalF
  generalize exprC l env.length = p at hC hgood ⊢
  obtain ⟨t, e⟩ := p
  dsimp only at hC hgood ⊢
  by_cases he : e ≠ 0
  · all_goals haveI fA_ : FlagA := ⟨⟩
    all_goals haveI fH_ : FlagH := ⟨⟩
    repeat' (first
      | ((with_reducible apply call0); (focus rfl); (focus exact cal_ExprChecked); (focus exact hC); (focus rfl))
      | ((with_reducible apply je_call0); (focus rfl); (focus (decide +kernel)); (focus rfl); (focus exact cal_ExprChecked); (focus exact hC); (focus rfl))
      | exact True.intro
      | refine stp ?_
      | refine two ?_ ?_
      | refine allc fun c_ => ?_
      | (refine imp fun hc => ?_) <;> try (first | contradiction | (exfalso; omega) | (exfalso; exact absurd (of_dT hc) (by assumption)) | (exfalso; exact of_dF hc (by assumption)))
      | refine all fun v_ => ?_)
    all_goals clear fA_ fH_
    refine retv (VS.drop (List.nil_sublist _)) ?_
    ((with_reducible apply rq2); rfl; rfl; rfl)
    refine ret_eq ?_
    rw [if_pos he]
  replace he := Decidable.not_not.1 he
  obtain ⟨g, _, hv6⟩ := hgood he
  subst he
  rw [if_neg (fun h => h rfl)]
  all_goals haveI fA_ : FlagA := ⟨⟩
  all_goals haveI fH_ : FlagH := ⟨⟩
  repeat' (first
    | ((with_reducible apply call0); (focus rfl); (focus exact cal_ExprChecked); (focus exact hC); (focus rfl))
    | ((with_reducible apply je_call0); (focus rfl); (focus (decide +kernel)); (focus rfl); (focus exact cal_ExprChecked); (focus exact hC); (focus rfl))
    | exact True.intro
    | refine stp ?_
    | refine two ?_ ?_
    | refine allc fun c_ => ?_
    | (refine imp fun hc => ?_) <;> try (first | contradiction | (exfalso; omega) | (exfalso; exact absurd (of_dT hc) (by assumption)) | (exfalso; exact of_dF hc (by assumption)))
    | refine all fun v_ => ?_)
  all_goals clear fA_ fH_
  refine J_loopV (X := Nat) (fun i => [(0, .d (opsD l)), (1, .d (intsD env)), (8, .int i)]) (fun _ => []) (fun i => i ≤ env.length ∧ ∀ (j : Nat) (h : j < env.length), j < i → limP env[j]) (fun i => env.length - i) 0 ⟨Nat.zero_le _, fun _ _ h => absurd h (Nat.not_lt_zero _)⟩ (VS.of_le ?_) ?_
  · repeat (first
      | exact Env.le_nil _
      | refine Env.le_cons (AV.le_refl _) ?_
      | refine Env.le_cons (AV.le_int rfl (by first | rfl | omega | (dsimp only; omega))) ?_)
  rintro i ⟨h1, h2⟩
  by_cases hi : i < env.length
  · by_cases hl : limP env[i]
    · have hin := ACr_true (In G (env[i]) (-1000000) 1000000) hl
      all_goals haveI fA_ : FlagA := ⟨⟩
      all_goals haveI fH_ : FlagH := ⟨⟩
      repeat' (first
        | ((with_reducible apply call0); (focus rfl); (focus exact cal_In); (focus exact hin); (focus rfl))
        | ((with_reducible apply je_call0); (focus rfl); (focus (decide +kernel)); (focus rfl); (focus exact cal_In); (focus exact hin); (focus rfl))
        | exact True.intro
        | refine stp ?_
        | refine two ?_ ?_
        | refine allc fun c_ => ?_
        | (refine imp fun hc => ?_) <;> try (first | contradiction | (exfalso; omega) | (exfalso; exact absurd (of_dT hc) (by assumption)) | (exfalso; exact of_dF hc (by assumption)))
        | refine all fun v_ => ?_)
      all_goals clear fA_ fH_
      refine ⟨i + 1, ⟨by omega, fun j hj hji => ?_⟩, by omega, VS.of_le ?_⟩
      · by_cases e : j = i
        · subst e; exact hl
        · exact h2 j hj (by omega)
      · repeat (first
          | exact Env.le_nil _
          | refine Env.le_cons (AV.le_refl _) ?_
          | refine Env.le_cons (AV.le_int rfl (by first | rfl | omega | (dsimp only; omega))) ?_)
    · have hno : ¬ ∀ v ∈ env, limP v := fun h => hl (h _ (List.getElem_mem hi))
      have hin := ACr_false (In G (env[i]) (-1000000) 1000000) hl
      rw [if_neg hno]
      all_goals haveI fA_ : FlagA := ⟨⟩
      all_goals haveI fH_ : FlagH := ⟨⟩
      repeat' (first
        | ((with_reducible apply call0); (focus rfl); (focus exact cal_In); (focus exact hin); (focus rfl))
        | ((with_reducible apply je_call0); (focus rfl); (focus (decide +kernel)); (focus rfl); (focus exact cal_In); (focus exact hin); (focus rfl))
        | exact True.intro
        | refine stp ?_
        | refine two ?_ ?_
        | refine allc fun c_ => ?_
        | (refine imp fun hc => ?_) <;> try (first | contradiction | (exfalso; omega) | (exfalso; exact absurd (of_dT hc) (by assumption)) | (exfalso; exact of_dF hc (by assumption)))
        | refine all fun v_ => ?_)
      all_goals clear fA_ fH_
      refine retv (VS.drop (List.nil_sublist _)) ?_
      ((with_reducible apply rq2); rfl; rfl; rfl)
      refine ret_eq ?_
      rfl
  obtain rfl : i = env.length := by omega
  have henv : ∀ v ∈ env, limP v := fun v hv => by
    obtain ⟨j, hj, rfl⟩ := List.getElem_of_mem hv
    exact h2 j hj hj
  rw [if_pos henv]
  have hw := worked G env henv (by omega) l.length l (Nat.le_refl _) g
  all_goals haveI fA_ : FlagA := ⟨⟩
  all_goals haveI fH_ : FlagH := ⟨⟩
  repeat' (first
    | ((with_reducible apply call0); (focus rfl); (focus exact cal_worked); (focus exact hw); (focus rfl))
    | ((with_reducible apply je_call0); (focus rfl); (focus (decide +kernel)); (focus rfl); (focus exact cal_worked); (focus exact hw); (focus rfl))
    | exact True.intro
    | refine stp ?_
    | refine two ?_ ?_
    | refine allc fun c_ => ?_
    | (refine imp fun hc => ?_) <;> try (first | contradiction | (exfalso; omega) | (exfalso; exact absurd (of_dT hc) (by assumption)) | (exfalso; exact of_dF hc (by assumption)))
    | refine all fun v_ => ?_)
  all_goals clear fA_ fH_
  refine retv (VS.drop (List.nil_sublist _)) ?_
  ((with_reducible apply rq2); rfl; rfl; rfl)
  refine ret_eq ?_
  rfl
end Go.Proofs.YtcikppldaepodaaGreatDoor
namespace Go.Sp
open Go Go.Av
set_option linter.unusedVariables false
set_option linter.unusedSimpArgs false

structure La where
  stop : Nat → Bool
  val : Nat → Bool
  nxt : Nat → Nat
  base : Bool
def La.step (a : La) (i : Nat) (x : Bool) : Bool := if a.stop i then a.val i else x
def La.up (a : La) : Nat → Nat → Bool
  | 0, _ => a.base
  | k + 1, i => a.step i (a.up k (a.nxt i))
theorem La.step_mono (a : La) {i : Nat} (h : a.step i a.base ≠ a.base) (x : Bool) : a.step i x ≠ a.base := by
  unfold La.step at h ⊢
  by_cases c : a.stop i
  · rw [if_pos c] at h ⊢; exact h
  · rw [if_neg c] at h; exact absurd rfl h
structure La.On (a : La) (row : Nat → Bool) : Prop where
  sound : ∀ i, row i ≠ a.base → ∃ k, a.up k i ≠ a.base
  fore : ∀ i, row i ≠ a.base → a.step i (row (a.nxt i)) ≠ a.base
theorem La.On.start (a : La) : a.On fun _ => a.base := ⟨fun _ h => absurd rfl h, fun _ h => absurd rfl h⟩
theorem bool_ne {a b c : Bool} (h : a ≠ c) (h' : b ≠ c) : a = b := by revert h h'; cases a <;> cases b <;> cases c <;> decide
theorem La.On.set {a : La} {row : Nat → Bool} (h : a.On row) (j : Nat) : a.On fun i => if i = j then a.step j (row (a.nxt j)) else row i := by
  have keep : ∀ i, row i ≠ a.base → (if i = j then a.step j (row (a.nxt j)) else row i) ≠ a.base := fun i hi => by
    by_cases e : i = j
    · subst e; rw [if_pos rfl]; exact h.fore _ hi
    · rw [if_neg e]; exact hi
  have fwd : ∀ i, a.step i (row (a.nxt i)) ≠ a.base → a.step i (if a.nxt i = j then a.step j (row (a.nxt j)) else row (a.nxt i)) ≠ a.base := fun i hi => by
    by_cases c : row (a.nxt i) = a.base
    · rw [c] at hi; exact a.step_mono hi _
    · have := keep _ c
      rw [bool_ne this c]; exact hi
  refine ⟨fun i hi => ?_, fun i hi => ?_⟩
  · by_cases e : i = j
    · subst e
      rw [if_pos rfl] at hi
      by_cases c : row (a.nxt i) = a.base
      · rw [c] at hi; exact ⟨1, hi⟩
      · obtain ⟨k, hk⟩ := h.sound _ c
        exact ⟨k + 1, by rw [La.up, bool_ne hk c]; exact hi⟩
    · rw [if_neg e] at hi; exact h.sound i hi
  · refine fwd i ?_
    by_cases e : i = j
    · subst e; rw [if_pos rfl] at hi; exact hi
    · rw [if_neg e] at hi; exact h.fore i hi
theorem La.rest {a : La} {row : Nat → Bool} {N : Nat} (hcl : ∀ i, i < N → a.nxt i < N) (h : ∀ i, i < N → row i = a.step i (row (a.nxt i))) : ∀ (k i : Nat), i < N → a.up k i ≠ a.base → row i ≠ a.base
  | 0, _, _, hk => absurd rfl hk
  | k + 1, i, hi, hk => by
    rw [h i hi]
    rw [La.up] at hk
    by_cases c : a.up k (a.nxt i) = a.base
    · rw [c] at hk; exact a.step_mono hk _
    · rw [bool_ne (La.rest hcl h k _ (hcl i hi) c) c]; exact hk
theorem La.On.done {a : La} {row : Nat → Bool} {N : Nat} (h : a.On row) (hcl : ∀ i, i < N → a.nxt i < N) (hr : ∀ i, i < N → row i = a.step i (row (a.nxt i))) {i : Nat} (hi : i < N) : row i ≠ a.base ↔ ∃ k, a.up k i ≠ a.base :=
  ⟨h.sound i, fun ⟨k, hk⟩ => La.rest hcl hr k i hi hk⟩
def La.itr (a : La) : Nat → Nat → Nat
  | 0, i => i
  | k + 1, i => a.itr k (a.nxt i)
theorem La.itr_add (a : La) : ∀ (j k i : Nat), a.itr (j + k) i = a.itr k (a.itr j i)
  | 0, k, i => by rw [Nat.zero_add]; rfl
  | j + 1, k, i => by rw [Nat.succ_add]; exact La.itr_add a j k (a.nxt i)
theorem La.up_skip (a : La) : ∀ (j m i : Nat), (∀ j', j' < j → ¬ a.stop (a.itr j' i)) → a.up (j + m) i = a.up m (a.itr j i)
  | 0, m, i, _ => by rw [Nat.zero_add]; rfl
  | j + 1, m, i, h => by
    have h0 : ¬ a.stop i := h 0 (by omega)
    rw [Nat.succ_add, La.up, La.step, if_neg h0]
    exact La.up_skip a j m (a.nxt i) fun j' hj => h (j' + 1) (by omega)
theorem La.up_first (a : La) : ∀ (k i : Nat), a.up k i ≠ a.base → ∃ j, j < k ∧ a.stop (a.itr j i) ∧ ∀ j', j' < j → ¬ a.stop (a.itr j' i)
  | 0, _, h => absurd rfl h
  | k + 1, i, h => by
    by_cases c : a.stop i
    · exact ⟨0, by omega, c, fun _ h => by omega⟩
    · rw [La.up, La.step, if_neg c] at h
      obtain ⟨j, h1, h2, h3⟩ := La.up_first a k (a.nxt i) h
      refine ⟨j + 1, by omega, h2, fun j' hj => ?_⟩
      cases j' with
      | zero => exact c
      | succ j' => exact h3 j' (by omega)
theorem La.up_all (a : La) (N i : Nat) (hc : ∀ k, ∃ k', k' ≤ k ∧ k' ≤ N ∧ a.itr k' i = a.itr k i) : (∃ k, a.up k i ≠ a.base) ↔ a.up (N + 1) i ≠ a.base := by
  refine ⟨fun ⟨k, hk⟩ => ?_, fun h => ⟨_, h⟩⟩
  obtain ⟨j, h1, h2, h3⟩ := a.up_first k i hk
  obtain ⟨j', k1, k2, k3⟩ := hc j
  have hj : j ≤ N := by
    by_cases e : j' = j
    · omega
    · exact absurd (k3 ▸ h2) (h3 j' (by omega))
  obtain ⟨m, rfl⟩ : ∃ m, k = j + (m + 1) := ⟨k - j - 1, by omega⟩
  rw [La.up_skip a j (m + 1) i h3, La.up, La.step, if_pos h2] at hk
  rw [show N + 1 = j + ((N - j) + 1) by omega, La.up_skip a j _ i h3, La.up, La.step, if_pos h2]
  exact hk
def wnx (s N i : Nat) : Nat := if i + 1 < N then i + 1 else s
theorem La.itr_succ (a : La) (k i : Nat) : a.itr (k + 1) i = a.nxt (a.itr k i) := by rw [La.itr_add a k 1 i]; rfl
theorem La.itr_lt (a : La) {s N : Nat} (hn : a.nxt = wnx s N) (hs : s < N) {i : Nat} (hi : i < N) : ∀ k, a.itr k i < N
  | 0 => hi
  | k + 1 => by rw [La.itr_succ, hn, wnx]; split <;> omega
theorem La.itr_ge (a : La) {s N : Nat} (hn : a.nxt = wnx s N) (i : Nat) : ∀ k, i + k ≤ a.itr k i ∨ s ≤ a.itr k i
  | 0 => .inl (Nat.le_refl _)
  | k + 1 => by
    rw [La.itr_succ, hn, wnx]
    rcases La.itr_ge a hn i k with h | h <;> split <;> omega
theorem La.itr_loop (a : La) {s N : Nat} (hn : a.nxt = wnx s N) (hs : s < N) {p : Nat} (hp : s ≤ p) (hp' : p < N) : ∀ j, j ≤ N - s → a.itr j p = if p + j < N then p + j else p + j - (N - s)
  | 0, _ => by simp [La.itr, hp']
  | j + 1, hj => by
    rw [La.itr_succ, La.itr_loop a hn hs hp hp' j (by omega), hn, wnx]
    by_cases c1 : p + j < N
    · rw [if_pos c1]
      by_cases c2 : p + j + 1 < N
      · rw [if_pos c2, if_pos (by omega)]; omega
      · rw [if_neg c2, if_neg (by omega)]; omega
    · rw [if_neg c1, if_pos (by omega), if_neg (by omega)]; omega
theorem La.cover (a : La) {s N : Nat} (hn : a.nxt = wnx s N) (hs : s < N) {i : Nat} (hi : i < N) (k : Nat) : ∃ k', k' ≤ k ∧ k' ≤ N ∧ a.itr k' i = a.itr k i := by
  induction k using Nat.strongRecOn with
  | ind k ih =>
    by_cases c : k ≤ N
    · exact ⟨k, Nat.le_refl _, c, rfl⟩
    obtain ⟨k', h1, h2, h3⟩ := ih (k - (N - s)) (by omega)
    have hg : s ≤ a.itr (k - (N - s)) i := by have := La.itr_ge a hn i (k - (N - s)); omega
    have hl := La.itr_loop a hn hs hg (La.itr_lt a hn hs hi _) (N - s) (Nat.le_refl _)
    rw [← La.itr_add, if_neg (by omega), show k - (N - s) + (N - s) = k by omega] at hl
    exact ⟨k', by omega, h2, by rw [h3, hl]; omega⟩
theorem La.On.scan {a : La} {row : Nat → Bool} {s N : Nat} (h : a.On row) (hr : ∀ i, i < N → row i = a.step i (row (a.nxt i))) (hn : a.nxt = wnx s N) (hs : s < N) {i : Nat} (hi : i < N) : row i = a.up (N + 1) i := by
  have hcl : ∀ i, i < N → a.nxt i < N := fun i hi => by rw [hn, wnx]; split <;> omega
  have e := (h.done hcl hr hi).trans (a.up_all N i (a.cover hn hs hi))
  by_cases c : row i = a.base
  · by_cases c' : a.up (N + 1) i = a.base
    · rw [c, c']
    · exact absurd c (e.2 c')
  · exact bool_ne c (e.1 c)
end Go.Sp
namespace Go.Sp
open Go Go.Av
set_option linter.unusedVariables false
set_option linter.unusedSimpArgs false

def laOf (k : Int) (A B : Nat → Bool) (nx : Nat → Nat) : La :=
  if k = 17 then ⟨A, fun _ => true, nx, false⟩
  else if k = 18 then ⟨fun i => !A i, fun _ => false, nx, true⟩
  else if k = 15 then ⟨fun i => B i || !A i, B, nx, false⟩
  else ⟨fun i => !B i || A i, B, nx, true⟩
theorem laOf_nxt (k : Int) (A B : Nat → Bool) (nx : Nat → Nat) : (laOf k A B nx).nxt = nx := by
  unfold laOf
  by_cases h1 : k = 17
  · rw [if_pos h1]
  by_cases h2 : k = 18
  · rw [if_neg h1, if_pos h2]
  by_cases h3 : k = 15
  · rw [if_neg h1, if_neg h2, if_pos h3]
  rw [if_neg h1, if_neg h2, if_neg h3]
def letB (al : List (List Bool)) (i v : Nat) : Bool := ((al[i]?.bind fun x => x[v]?).getD false)
def stepW (l : List Fo) (al : List (List Bool)) (s at_ : Nat) (A B : Nat → Bool) (i : Nat) : Bool :=
  if kindAt l at_ = 13 then letB al i (valAt l at_).toNat
  else if kindAt l at_ = 11 then true
  else if kindAt l at_ = 12 then false
  else if kindAt l at_ = 10 then !A i
  else if kindAt l at_ = 8 then A i && B i
  else if kindAt l at_ = 9 then A i || B i
  else if kindAt l at_ = 14 then A (wnx s al.length i)
  else (laOf (kindAt l at_) A B (wnx s al.length)).up (al.length + 1) i
def wv (l : List Fo) (al : List (List Bool)) (s : Nat) : Nat → Nat → Nat → Bool
  | 0, _ => fun _ => false
  | m + 1, i => if i < l.length then stepW l al s i (wv l al s m (i + 1)) (if i < second l i then wv l al s m (second l i) else fun _ => false) else fun _ => false
def wAt (l : List Fo) (al : List (List Bool)) (s : Nat) (i : Nat) : Nat → Bool := wv l al s (l.length - i) i
theorem wv_enough (l : List Fo) (al : List (List Bool)) (s : Nat) : ∀ (m i : Nat), l.length ≤ i + m → wv l al s m i = wAt l al s i := by
  intro m
  induction m using Nat.strongRecOn with
  | _ m ih =>
  intro i h
  unfold wAt
  by_cases hi : i < l.length
  · obtain ⟨m', rfl⟩ : ∃ m', m = m' + 1 := ⟨m - 1, by omega⟩
    obtain ⟨k, hk⟩ : ∃ k, l.length - i = k + 1 := ⟨l.length - i - 1, by omega⟩
    rw [hk]
    have e : ∀ j, i < j → wv l al s m' j = wv l al s k j := fun j hj => by
      rw [ih m' (by omega) j (by omega)]
      by_cases hkm : k < m' + 1
      · rw [ih k hkm j (by omega)]
      · omega
    simp only [wv, if_pos hi]
    rw [e (i + 1) (by omega)]
    by_cases h2 : i < second l i
    · rw [if_pos h2, if_pos h2, e _ h2]
    · rw [if_neg h2, if_neg h2]
  · rw [show l.length - i = 0 by omega]
    cases m with
    | zero => rfl
    | succ m => simp only [wv, if_neg hi]
theorem wAt_eq (l : List Fo) (al : List (List Bool)) (s i : Nat) (hi : i < l.length) : wAt l al s i = stepW l al s i (wAt l al s (i + 1)) (if i < second l i then wAt l al s (second l i) else fun _ => false) := by
  rw [← wv_enough l al s (l.length - (i + 1)) (i + 1) (by omega)]
  conv => lhs; rw [wAt, show l.length - i = (l.length - (i + 1)) + 1 by omega, wv, if_pos hi]
  by_cases h2 : i < second l i
  · rw [if_pos h2, if_pos h2, wv_enough l al s _ (second l i) (by omega)]
  · rw [if_neg h2, if_neg h2]
def wRow (l : List Fo) (al : List (List Bool)) (s i : Nat) : List Bool := (List.range al.length).map (wAt l al s i)
theorem wRow_len (l : List Fo) (al : List (List Bool)) (s i : Nat) : (wRow l al s i).length = al.length := by simp [wRow]
theorem wRow_get (l : List Fo) (al : List (List Bool)) (s i j : Nat) (h : j < (wRow l al s i).length) : (wRow l al s i)[j] = wAt l al s i j := by simp [wRow]
theorem row_ext {row : List Bool} {f : Nat → Bool} {N : Nat} (h1 : row.length = N) (h2 : ∀ (i : Nat) (h : i < row.length), row[i] = f i) : row = (List.range N).map f := by
  refine List.ext_getElem (by simp [h1]) fun i h _ => ?_
  rw [h2 i h]; simp
def rd (row : List Bool) (b : Bool) (i : Nat) : Bool := (row[i]?).getD b
theorem rd_at {row : List Bool} {b : Bool} {i : Nat} (h : i < row.length) : rd row b i = row[i] := by unfold rd; rw [List.getElem?_eq_getElem h]; rfl
theorem rd_set {row : List Bool} {b x : Bool} {j : Nat} (h : j < row.length) : rd (row.set j x) b = fun i => if i = j then x else rd row b i := by
  funext i
  unfold rd
  rw [List.getElem?_set]
  by_cases e : j = i
  · subst e; simp [h]
  · rw [if_neg e, if_neg (fun h => e h.symm)]
abbrev RowOn (a : La) (row : List Bool) : Prop := a.On (rd row a.base)
theorem RowOn.start (a : La) (N : Nat) : RowOn a (List.replicate N a.base) := by
  have : rd (List.replicate N a.base) a.base = fun _ => a.base := by
    funext i; unfold rd
    rw [List.getElem?_replicate]; split <;> rfl
  unfold RowOn; rw [this]; exact La.On.start a
theorem RowOn.set {a : La} {row : List Bool} (h : RowOn a row) {j : Nat} (hj : j < row.length) (hn : a.nxt j < row.length) : RowOn a (row.set j (a.step j row[a.nxt j])) := by
  have := La.On.set h j
  unfold RowOn
  rw [rd_set hj]
  rw [rd_at hn] at this
  exact this
theorem RowOn.scan {a : La} {row : List Bool} {s : Nat} (h : RowOn a row) (hn : a.nxt = wnx s row.length) (hs : s < row.length) (hr : ∀ (i : Nat) (hi : i < row.length) (hi' : a.nxt i < row.length), row[i] = a.step i row[a.nxt i]) : ∀ (i : Nat) (h : i < row.length), row[i] = a.up (row.length + 1) i := by
  intro i hi
  have := La.On.scan (N := row.length) h (fun i hi => by
    have hx : a.nxt i < row.length := by rw [hn, wnx]; split <;> omega
    rw [rd_at hi, rd_at hx]; exact hr i hi hx) hn hs hi
  rw [rd_at hi] at this
  exact this
def atBase (b : Bool) (row : List Bool) : Nat := row.countP (· == b)
theorem countP_set {α : Type} (p : α → Bool) : ∀ (l : List α) (j : Nat) (x : α) (h : j < l.length), p l[j] = true → p x = false → (l.set j x).countP p + 1 = l.countP p
  | [], j, x, h, _, _ => by simp at h
  | y :: l, 0, x, h, h1, h2 => by simp only [List.getElem_cons_zero] at h1; simp [List.countP_cons, h1, h2]
  | y :: l, j + 1, x, h, h1, h2 => by
    have := countP_set p l j x (by simpa using h) (by simpa using h1) h2
    simp only [List.set_cons_succ, List.countP_cons]
    omega
theorem RowOn.moved {a : La} {row : List Bool} (h : RowOn a row) {j : Nat} (hj : j < row.length) (hn : a.nxt j < row.length) (hd : a.step j row[a.nxt j] ≠ row[j]) : atBase a.base (row.set j (a.step j row[a.nxt j])) + 1 = atBase a.base row := by
  have hf := h.fore j
  rw [rd_at hj, rd_at hn] at hf
  by_cases c : row[j] = a.base
  · refine countP_set _ _ _ _ hj (by simp [c]) ?_
    have : a.step j row[a.nxt j] ≠ a.base := fun e => hd (by rw [e, c])
    simpa using this
  · exact absurd (bool_ne (hf c) c) hd
theorem la17 (A B : Nat → Bool) (nx : Nat → Nat) (i : Nat) (x : Bool) : (laOf 17 A B nx).step i x = (A i || x) := by
  show (if A i = true then true else x) = _
  cases A i <;> simp
theorem la18 (A B : Nat → Bool) (nx : Nat → Nat) (i : Nat) (x : Bool) : (laOf 18 A B nx).step i x = (A i && x) := by
  show (if (!A i) = true then false else x) = _
  cases A i <;> simp
theorem la15 (A B : Nat → Bool) (nx : Nat → Nat) (i : Nat) (x : Bool) : (laOf 15 A B nx).step i x = (B i || (A i && x)) := by
  show (if (B i || !A i) = true then B i else x) = _
  cases A i <;> cases B i <;> simp
theorem la16 (A B : Nat → Bool) (nx : Nat → Nat) (i : Nat) (x : Bool) : (laOf 16 A B nx).step i x = (B i && (A i || x)) := by
  show (if (!B i || A i) = true then B i else x) = _
  cases A i <;> cases B i <;> simp
theorem wRow_ahead {l : List Fo} {al : List (List Bool)} {s i : Nat} {k : Int} (hi : i < l.length) (hk : l[i].kind = k) (ha : 15 ≤ k ∧ k ≤ 18) {B : Nat → Bool} (hB : (if i < second l i then wAt l al s (second l i) else fun _ => false) = B) : (List.range al.length).map ((laOf k (wAt l al s (i + 1)) B (wnx s al.length)).up (al.length + 1)) = wRow l al s i := by
  have : wAt l al s i = (laOf k (wAt l al s (i + 1)) B (wnx s al.length)).up (al.length + 1) := by
    funext j
    rw [wAt_eq l al s i hi, hB, stepW, kindAt_eq l i hi, hk]
    rw [if_neg (by omega), if_neg (by omega), if_neg (by omega), if_neg (by omega), if_neg (by omega), if_neg (by omega), if_neg (by omega)]
  rw [wRow, this]
structure WRow (f : Nat → Bool) (N i : Nat) (row : List Bool) : Prop where
  len : row.length = N
  done : ∀ (j : Nat) (h : j < row.length), j < i → row[j] = f j
  rest : ∀ (j : Nat) (h : j < row.length), i ≤ j → row[j] = false
theorem WRow.start (f : Nat → Bool) (N : Nat) : WRow f N 0 (List.replicate N false) := ⟨by simp, fun _ _ h => absurd h (Nat.not_lt_zero _), fun j h _ => by simp⟩
theorem WRow.next {f : Nat → Bool} {N i : Nat} {row : List Bool} (w : WRow f N i row) {x : Bool} (hx : f i = x) : WRow f N (i + 1) (row.set i x) := by
  refine ⟨by simp [w.len], fun j h hj => ?_, fun j h hj => ?_⟩
  · rw [List.getElem_set]
    split
    · rename_i e; subst e; exact hx.symm
    · exact w.done j (by simpa using h) (by omega)
  · rw [List.getElem_set, if_neg (by omega)]
    exact w.rest j (by simpa using h) (by omega)
theorem WRow.no {f : Nat → Bool} {N i : Nat} {row : List Bool} (w : WRow f N i row) (hx : f i = false) : WRow f N (i + 1) row := by
  refine ⟨w.len, fun j h hj => ?_, fun j h hj => w.rest j h (by omega)⟩
  by_cases e : j = i
  · subst e; rw [hx]; exact w.rest j h (Nat.le_refl _)
  · exact w.done j h (by omega)
theorem WRow.fin {f : Nat → Bool} {N : Nat} {row : List Bool} (w : WRow f N N row) : row = (List.range N).map f := row_ext w.len fun i h => w.done i h (by have := w.len; omega)
def tabR (l : List Fo) (al : List (List Bool)) (s i : Nat) : List AV := (List.range l.length).map fun j => if i ≤ j then .d (.l 1 1 ((wRow l al s j).map boolC)) else .val (.slice none 0 0)
theorem tabR_len (l : List Fo) (al : List (List Bool)) (s i : Nat) : (tabR l al s i).length = l.length := by simp [tabR]
theorem tabR_get {l : List Fo} {al : List (List Bool)} {s i j : Nat} (h : i ≤ j) (hj : j < l.length) : (tabR l al s i)[j]? = some (.d (.l 1 1 ((wRow l al s j).map boolC))) := by
  unfold tabR
  rw [List.getElem?_map, List.getElem?_range hj]
  simp [h]
theorem tabR_start (l : List Fo) (al : List (List Bool)) (s : Nat) : tabR l al s l.length = List.replicate l.length (.val (.slice none 0 0)) := by
  refine List.ext_getElem (by simp [tabR]) fun j h _ => ?_
  have : j < l.length := by simpa [tabR] using h
  simp [tabR]; omega
theorem tabR_set {l : List Fo} {al : List (List Bool)} {s i : Nat} (hi : i < l.length) : (tabR l al s (i + 1)).set i (.d (.l 1 1 ((wRow l al s i).map boolC))) = tabR l al s i := by
  refine List.ext_getElem (by simp [tabR]) fun j h1 h2 => ?_
  rw [List.getElem_set]
  simp only [tabR, List.getElem_map, List.getElem_range]
  by_cases e : i = j
  · subst e; rw [if_pos rfl, if_pos (Nat.le_refl _)]
  · rw [if_neg e]
    by_cases c : i ≤ j
    · rw [if_pos (by omega), if_pos c]
    · rw [if_neg (by omega), if_neg c]
theorem Cvs.at (v : Value) (d : D) : ∀ (R : List AV) (i : Nat), Cvs v d (R.set i (.val v)) (R.set i (.d d))
  | [], _ => .nil
  | x :: R, 0 => .cons .here (Cvs.refl v d R)
  | x :: R, i + 1 => .cons (.same x) (Cvs.at v d R i)
theorem blt_of {a b : Nat} (h : a < b) : Nat.blt a b = true := by rw [Nat.blt_eq]; exact h
end Go.Sp
namespace Go.Sp
open Go Go.Av
set_option linter.unusedVariables false
set_option linter.unusedSimpArgs false

theorem rulesE_good (n : Int) : ∀ (l : List Ru), rulesE n l = 0 → ∀ r ∈ l, ruleF r n = 0
  | [], _, r, hr => by cases hr
  | r :: l, h, q, hq => by
    rw [rulesE] at h
    by_cases c : ruleF r n ≠ 0
    · rw [if_pos c] at h; exact absurd h c
    · rw [if_neg c] at h
      rcases List.mem_cons.1 hq with rfl | hq
      · exact Decidable.not_not.1 c
      · exact rulesE_good n l h q hq
theorem setsE_good (n : Int) : ∀ (l : List St) (seen : List Int), setsE n l seen = 0 → (∀ s ∈ l, 0 ≤ s.var ∧ s.var < n ∧ kindF s.val n false = 0 ∧ s.var ∉ seen) ∧ (l.map St.var).Nodup
  | [], _, _ => ⟨fun s hs => (by cases hs), List.nodup_nil⟩
  | s :: l, seen, h => by
    rw [setsE] at h
    by_cases c1 : ¬ (0 ≤ s.var ∧ s.var < n)
    · rw [if_pos c1] at h; exact absurd h (by decide)
    rw [if_neg c1] at h
    by_cases c2 : s.var ∈ seen
    · rw [if_pos c2] at h; exact absurd h (by decide)
    rw [if_neg c2] at h
    by_cases c3 : kindF s.val n false ≠ 0
    · rw [if_pos c3] at h; exact absurd h c3
    rw [if_neg c3] at h
    obtain ⟨i1, i2⟩ := setsE_good n l _ h
    refine ⟨fun q hq => ?_, ?_⟩
    · rcases List.mem_cons.1 hq with rfl | hq
      · exact ⟨by omega, by omega, Decidable.not_not.1 c3, c2⟩
      · obtain ⟨a, b, c, d⟩ := i1 q hq
        exact ⟨a, b, c, fun hm => d (List.mem_append_left _ hm)⟩
    · rw [List.map_cons, List.nodup_cons]
      refine ⟨fun hm => ?_, i2⟩
      obtain ⟨q, hq, he⟩ := List.mem_map.1 hm
      exact (i1 q hq).2.2.2 (he ▸ List.mem_append_right _ (List.mem_singleton.2 rfl))
structure GoodR (r : Ru) (n : Nat) : Prop where
  guard : exprC r.guard n = (true, 0)
  few : r.sets.length ≤ 6
  sets : ∀ s ∈ r.sets, 0 ≤ s.var ∧ s.var < n ∧ (exprC s.val n).2 = 0
  once : (r.sets.map St.var).Nodup
theorem kindF_ok {l : List Fo} {n : Int} {t : Bool} (h : kindF l n t = 0) : exprC l n = (t, 0) := by
  unfold kindF at h
  by_cases c : (exprC l n).2 ≠ 0
  · rw [if_pos c] at h; exact absurd h c
  rw [if_neg c] at h
  by_cases c2 : (exprC l n).1 ≠ t
  · rw [if_pos c2] at h; exact absurd h (by decide)
  · exact Prod.ext (Decidable.not_not.1 c2) (Decidable.not_not.1 c)
theorem goodR {m : Md} (h : modelF m = 0) {r : Ru} (hr : r ∈ m.rules) : GoodR r m.vars.length := by
  have hv := modelF_vars h
  unfold modelF at h
  rw [if_neg (fun k => k hv)] at h
  by_cases c : 12 < m.rules.length
  · rw [if_pos c] at h; exact absurd h (by decide)
  rw [if_neg c] at h
  have hf := rulesE_good _ _ h r hr
  unfold ruleF at hf
  by_cases c1 : 6 < r.sets.length
  · rw [if_pos c1] at hf; exact absurd hf (by decide)
  rw [if_neg c1] at hf
  by_cases c2 : kindF r.guard m.vars.length true ≠ 0
  · rw [if_pos c2] at hf; exact absurd hf c2
  rw [if_neg c2] at hf
  obtain ⟨i1, i2⟩ := setsE_good _ _ _ hf
  exact ⟨kindF_ok (Decidable.not_not.1 c2), by omega, fun s hs => ⟨(i1 s hs).1, (i1 s hs).2.1, by rw [kindF_ok (i1 s hs).2.2.1]⟩, i2⟩
def setOk (m : Md) (vs : List Int) (s : St) : Prop := (evalF s.val vs).2 = 0 ∧ ∀ v, m.vars[s.var.toNat]? = some v → v.low ≤ (evalF s.val vs).1 ∧ (evalF s.val vs).1 ≤ v.high
def setAll (vs : List Int) : List St → List Int → List Int
  | [], out => out
  | s :: l, out => setAll vs l (out.set s.var.toNat (evalF s.val vs).1)
theorem setAll_length (vs : List Int) : ∀ (l : List St) (out : List Int), (setAll vs l out).length = out.length
  | [], _ => rfl
  | s :: l, out => by rw [setAll, setAll_length vs l, List.length_set]
noncomputable instance (m : Md) (vs : List Int) (s : St) : Decidable (setOk m vs s) := Classical.propDecidable _
noncomputable def afterF (m : Md) (r : Ru) (vs : List Int) : Option (List Int) :=
  if evalF r.guard vs = (1, 0) ∧ ∀ s ∈ r.sets, setOk m vs s then some (setAll vs r.sets vs) else none
noncomputable def afterC (m : Md) (code rule : Int) : Int × Int :=
  if (valsF m code).2 ≠ 0 then (0, (valsF m code).2)
  else match (if 0 ≤ rule then m.rules[rule.toNat]? else none) with
    | none => (0, 2)
    | some r => match afterF m r (valsF m code).1 with
      | none => (0, 11)
      | some out => codeF m out
theorem evalF_bit {l : List Fo} {vs : List Int} (h : exprC l vs.length = (true, 0)) (hv : ∀ v ∈ vs, limP v) : evalF l vs = (0, 8) ∨ evalF l vs = (0, 0) ∨ evalF l vs = (1, 0) := by
  have h0 : (exprC l vs.length).2 = 0 := by rw [h]
  obtain ⟨g, _, _⟩ := goodE_of h0
  unfold evalF
  rw [if_neg (fun k => k h0), if_pos hv]
  unfold wk
  cases hx : evAt l vs 0 with
  | none => exact .inl rfl
  | some n =>
    have hk : makesP (kindAt l 0) := by
      have := h
      unfold exprC at this
      by_cases c1 : (vs.length : Int) < 0 ∨ 6 < (vs.length : Int)
      · rw [if_pos c1] at this; exact absurd this (by simp)
      rw [if_neg c1, if_neg (fun k => k g.ends)] at this
      by_cases c2 : opsE l vs.length ≠ 0
      · rw [if_pos c2] at this; exact absurd (Prod.mk.inj this).1 (by simp)
      rw [if_neg c2, if_pos g.typed] at this
      exact of_decide_eq_true (Prod.mk.inj this).1
    rcases ev_bit g.pos hk hx with rfl | rfl
    · exact .inr (.inl rfl)
    · exact .inr (.inr rfl)
def upd (vs : List Int) : List St → Nat → Int → Int
  | [], _, x => x
  | s :: l, i, x => upd vs l i (if s.var.toNat = i then (evalF s.val vs).1 else x)
theorem setAll_get (vs : List Int) : ∀ (l : List St) (out : List Int) (i : Nat), (setAll vs l out)[i]? = (out[i]?).map (upd vs l i)
  | [], out, i => by simp [setAll, upd, Option.map_id']
  | s :: l, out, i => by
    rw [setAll, setAll_get vs l, List.getElem?_set]
    by_cases e : s.var.toNat = i
    · subst e
      rw [if_pos rfl]
      by_cases h : s.var.toNat < out.length
      · rw [if_pos h, List.getElem?_eq_getElem h]; simp [upd]
      · rw [if_neg h, List.getElem?_eq_none (by omega)]; rfl
    · rw [if_neg e]
      cases out[i]? with
      | none => rfl
      | some x => simp [upd, e]
theorem upd_no (vs : List Int) : ∀ (l : List St) (i : Nat) (x : Int), (∀ s ∈ l, s.var.toNat ≠ i) → upd vs l i x = x
  | [], _, _, _ => rfl
  | s :: l, i, x, h => by
    rw [upd, if_neg (h s List.mem_cons_self)]
    exact upd_no vs l i x fun q hq => h q (List.mem_cons_of_mem _ hq)
theorem upd_mem (vs : List Int) : ∀ (l : List St) (i : Nat) (x : Int) (s : St), (∀ q ∈ l, 0 ≤ q.var) → (l.map St.var).Nodup → s ∈ l → s.var.toNat = i → upd vs l i x = (evalF s.val vs).1
  | [], _, _, _, _, _, h, _ => by cases h
  | q :: l, i, x, s, h0, hn, hm, he => by
    rw [List.map_cons, List.nodup_cons] at hn
    rw [upd]
    by_cases e : q = s
    · subst e
      rw [if_pos he]
      refine upd_no vs l i _ fun r hr hre => hn.1 (List.mem_map.2 ⟨r, hr, ?_⟩)
      have h1 := h0 r (List.mem_cons_of_mem _ hr)
      have h2 := h0 q List.mem_cons_self
      omega
    · exact upd_mem vs l i _ s (fun r hr => h0 r (List.mem_cons_of_mem _ hr)) hn.2 (by
        rcases List.mem_cons.1 hm with h | h
        · exact absurd h.symm e
        · exact h) he
theorem upd_or (vs : List Int) : ∀ (l : List St) (i : Nat) (x : Int), upd vs l i x = x ∨ ∃ s ∈ l, s.var.toNat = i ∧ upd vs l i x = (evalF s.val vs).1
  | [], _, _ => .inl rfl
  | s :: l, i, x => by
    rw [upd]
    by_cases e : s.var.toNat = i
    · rw [if_pos e]
      rcases upd_or vs l i (evalF s.val vs).1 with h | ⟨q, h1, h2, h3⟩
      · exact .inr ⟨s, List.mem_cons_self, e, h⟩
      · exact .inr ⟨q, List.mem_cons_of_mem _ h1, h2, h3⟩
    · rw [if_neg e]
      rcases upd_or vs l i x with h | ⟨q, h1, h2, h3⟩
      · exact .inl h
      · exact .inr ⟨q, List.mem_cons_of_mem _ h1, h2, h3⟩
theorem codeE_all : ∀ (l : List Vr) (xs : List Int) (n : Int), (∀ (i : Nat) (h : i < l.length) (h' : i < xs.length), l[i].low ≤ xs[i] ∧ xs[i] ≤ l[i].high) → (codeE n l xs).2 = 0
  | [], xs, n, _ => by simp [codeE]
  | v :: l, [], n, _ => by simp [codeE]
  | v :: l, x :: xs, n, h => by
    have h0 : v.low ≤ x ∧ x ≤ v.high := h 0 (by simp) (by simp)
    rw [codeE, if_pos h0]
    exact codeE_all l xs _ fun i h1 h2 => h (i + 1) (by simpa using h1) (by simpa using h2)
theorem codeE_no : ∀ (l : List Vr) (xs : List Int) (n : Int) (i : Nat) (h : i < l.length) (h' : i < xs.length), ¬ (l[i].low ≤ xs[i] ∧ xs[i] ≤ l[i].high) → codeE n l xs = (0, 9)
  | [], _, _, _, h, _, _ => by simp at h
  | v :: l, [], _, _, _, h', _ => by simp at h'
  | v :: l, x :: xs, n, 0, _, _, hc => by
    have hc' : ¬ (v.low ≤ x ∧ x ≤ v.high) := hc
    rw [codeE, if_neg hc']
  | v :: l, x :: xs, n, i + 1, h, h', hc => by
    rw [codeE]
    split
    · exact codeE_no l xs _ i (by simpa using h) (by simpa using h') (by simpa using hc)
    · rfl
theorem valsT_range {l : List Vr} (g : GoodV l) {c : Int} (h0 : 0 ≤ c) (hc : c < prodV l) (i : Nat) (h : i < l.length) (h' : i < (valsT l c).length) : l[i].low ≤ (valsT l c)[i] ∧ (valsT l c)[i] ≤ l[i].high := by
  rw [valsT_get l c i (fun v hv => (g.span v hv).1) h0 hc h h']
  have hs := (g.span l[i] (List.getElem_mem h)).1
  have m1 := Int.emod_nonneg (c / prodV (l.drop (i + 1))) (show spanV l[i] ≠ 0 by omega)
  have m2 := Int.emod_lt_of_pos (c / prodV (l.drop (i + 1))) (show 0 < spanV l[i] by omega)
  unfold spanV at m1 m2 ⊢
  omega
end Go.Sp
namespace Go.Sp
open Go Go.Av
set_option linter.unusedVariables false
set_option linter.unusedSimpArgs false
def holdB (vs : List Int) (p : List Fo) : Bool := decide ((evalF p vs).2 = 0) && decide ((evalF p vs).1 = 1)
abbrev letAt (l : List (List Fo)) (vs : List Int) (i : Nat) : Bool := holdB vs ((l[i]?).getD [])
noncomputable def letF (m : Md) (l : List (List Fo)) (c : Int) : List Bool × Int :=
  if propsF m l ≠ 0 then ([], propsF m l) else if (valsF m c).2 ≠ 0 then ([], (valsF m c).2) else ((List.range l.length).map (letAt l (valsF m c).1), 0)
theorem letAt_eq {l : List (List Fo)} {vs : List Int} {i : Nat} (h : i < l.length) {n e : Int} (he : evalF l[i] vs = (n, e)) : letAt l vs i = (decide (e = 0) && decide (n = 1)) := by
  rw [letAt, List.getElem?_eq_getElem h, Option.getD_some, holdB, he]
theorem propsF_few {m : Md} {l : List (List Fo)} (h : propsF m l = 0) : modelF m = 0 ∧ l.length ≤ 6 := by
  unfold propsF at h
  by_cases c1 : modelF m ≠ 0
  · rw [if_pos c1] at h; exact absurd h c1
  rw [if_neg c1] at h
  by_cases c2 : 6 < l.length
  · rw [if_pos c2] at h; exact absurd h (by decide)
  · exact ⟨Decidable.not_not.1 c1, by omega⟩
end Go.Sp
namespace Go.Proofs.YtcikppldaepodaaGreatDoor
open Go Go.Av Go.Sp
set_option linter.unusedVariables false
set_option linter.unusedSimpArgs false
set_option maxRecDepth 100000
set_option maxHeartbeats 4000000
theorem cal_Letter : Cal Tryz.prog 38 := Cal.of Tryz.func38 (by kernel_rfl) (by kernel_rfl)
theorem cal_LetterOf : Cal Tryz.prog 33 := Cal.of Tryz.func33 (by kernel_rfl) (by kernel_rfl)
theorem Letter (m : Md) (l : List (List Fo)) (c : Int) : ACr Tryz.prog GP 38 [mdA m, .d (termsD l), .int c] (.tup [.d (boolsD (letF m l c).1), .int (letF m l c).2]) := by
  have hP := Props m l
  have hV := Values m c
  have hfew := propsF_few (m := m) (l := l)
  unfold letF
  generalize propsF m l = e1 at hP hfew ⊢
  generalize valsF m c = q at hV ⊢
  obtain ⟨vs, e2⟩ := q
  dsimp only at hV ⊢
  refine AC_ofV (ts := [6, 7]) Tryz.f38.ntmps Tryz.func38 rfl rfl rfl (by simp [Tryz.ntmps38]) fun W I => ?_
  by_cases h1 : e1 ≠ 0
  · all_goals haveI fA_ : FlagA := ⟨⟩
    all_goals haveI fH_ : FlagH := ⟨⟩
    repeat' (first
      | ((with_reducible apply call0); (focus rfl); (focus exact cal_Props); (focus exact hP); (focus rfl))
      | ((with_reducible apply je_call0); (focus rfl); (focus (decide +kernel)); (focus rfl); (focus exact cal_Props); (focus exact hP); (focus rfl))
      | ((with_reducible apply call0); (focus rfl); (focus exact cal_Values); (focus exact hV); (focus rfl))
      | ((with_reducible apply je_call0); (focus rfl); (focus (decide +kernel)); (focus rfl); (focus exact cal_Values); (focus exact hV); (focus rfl))
      | exact True.intro
      | refine stp ?_
      | refine two ?_ ?_
      | refine allc fun c_ => ?_
      | (refine imp fun hc => ?_) <;> try (first | contradiction | (exfalso; omega) | (exfalso; exact absurd (of_dT hc) (by assumption)) | (exfalso; exact of_dF hc (by assumption)))
      | refine all fun v_ => ?_)
    all_goals clear fA_ fH_
    refine retv (VS.trans (VS.drop (List.nil_sublist _)) (vnil (t := 6) 1 1 rfl)) ?_
    ((with_reducible apply rq2); rfl; rfl; rfl)
    refine ret_eq ?_
    rw [if_pos h1]; rfl
  rw [if_neg h1]
  replace h1 := Decidable.not_not.1 h1
  obtain ⟨_, hl6⟩ := hfew h1
  by_cases h2 : e2 ≠ 0
  · all_goals haveI fA_ : FlagA := ⟨⟩
    all_goals haveI fH_ : FlagH := ⟨⟩
    repeat' (first
      | ((with_reducible apply call0); (focus rfl); (focus exact cal_Props); (focus exact hP); (focus rfl))
      | ((with_reducible apply je_call0); (focus rfl); (focus (decide +kernel)); (focus rfl); (focus exact cal_Props); (focus exact hP); (focus rfl))
      | ((with_reducible apply call0); (focus rfl); (focus exact cal_Values); (focus exact hV); (focus rfl))
      | ((with_reducible apply je_call0); (focus rfl); (focus (decide +kernel)); (focus rfl); (focus exact cal_Values); (focus exact hV); (focus rfl))
      | exact True.intro
      | refine stp ?_
      | refine two ?_ ?_
      | refine allc fun c_ => ?_
      | (refine imp fun hc => ?_) <;> try (first | contradiction | (exfalso; omega) | (exfalso; exact absurd (of_dT hc) (by assumption)) | (exfalso; exact of_dF hc (by assumption)))
      | refine all fun v_ => ?_)
    all_goals clear fA_ fH_
    refine retv (VS.trans (VS.drop (List.nil_sublist _)) (vnil (t := 6) 1 1 rfl)) ?_
    ((with_reducible apply rq2); rfl; rfl; rfl)
    refine ret_eq ?_
    rw [if_pos h2]; rfl
  rw [if_neg h2]
  all_goals haveI fA_ : FlagA := ⟨⟩
  all_goals haveI fH_ : FlagH := ⟨⟩
  repeat' (first
    | ((with_reducible apply call0); (focus rfl); (focus exact cal_Props); (focus exact hP); (focus rfl))
    | ((with_reducible apply je_call0); (focus rfl); (focus (decide +kernel)); (focus rfl); (focus exact cal_Props); (focus exact hP); (focus rfl))
    | ((with_reducible apply call0); (focus rfl); (focus exact cal_Values); (focus exact hV); (focus rfl))
    | ((with_reducible apply je_call0); (focus rfl); (focus (decide +kernel)); (focus rfl); (focus exact cal_Values); (focus exact hV); (focus rfl))
    | exact True.intro
    | refine stp ?_
    | refine two ?_ ?_
    | refine allc fun c_ => ?_
    | (refine imp fun hc => ?_) <;> try (first | contradiction | (exfalso; omega) | (exfalso; exact absurd (of_dT hc) (by assumption)) | (exfalso; exact of_dF hc (by assumption)))
    | refine all fun v_ => ?_)
  all_goals clear fA_ fH_
  refine J_loopV (X := Nat × List Bool) (fun y => [(9, .d (intsD vs)), (11, .val (.slice (some ⟨v_, 0, none⟩) l.length l.length)), (34, .d (termsD l)), (35, .int l.length), (36, .int y.1)]) (fun y => [.cells v_ 4 (y.2.map AV.bool)]) (fun y => y.1 ≤ l.length ∧ WRow (letAt l vs) l.length y.1 y.2) (fun y => l.length - y.1) (0, List.replicate l.length false) ⟨Nat.zero_le _, WRow.start _ _⟩ (VS.take (by ((repeat (first | exact Take.nil | ((with_reducible apply Take.cons); (focus ((repeat (first | exact Sel.here | with_reducible apply Sel.there)); done))))); done)) ?_) ?_
  · repeat (first
      | exact Env.le_nil _
      | refine Env.le_cons (AV.le_refl _) ?_
      | refine Env.le_cons (AV.le_int rfl (by first | rfl | omega | (dsimp only; omega))) ?_)
  rintro ⟨i, row⟩ ⟨d1, d2⟩
  dsimp only at d1 d2 ⊢
  have dl := d2.len
  by_cases hi : i < l.length
  · have hE := Eval l[i] vs
    have hx := fun n e he => letAt_eq (vs := vs) hi (n := n) (e := e) he
    generalize evalF l[i] vs = q at hE hx
    obtain ⟨n, e⟩ := q
    dsimp only at hE
    have hx := hx n e rfl
    all_goals haveI fA_ : FlagA := ⟨⟩
    all_goals haveI fH_ : FlagH := ⟨⟩
    repeat' (first
      | ((with_reducible apply call0); (focus rfl); (focus exact cal_Eval); (focus exact hE); (focus rfl))
      | ((with_reducible apply je_call0); (focus rfl); (focus (decide +kernel)); (focus rfl); (focus exact cal_Eval); (focus exact hE); (focus rfl))
      | exact True.intro
      | refine stp ?_
      | refine two ?_ ?_
      | refine allc fun c_ => ?_
      | (refine imp fun hc => ?_) <;> try (first | contradiction | (exfalso; omega) | (exfalso; exact absurd (of_dT hc) (by assumption)) | (exfalso; exact of_dF hc (by assumption)))
      | refine all fun v_ => ?_)
    all_goals clear fA_ fH_
    all_goals
      refine ⟨(i + 1, row.set i _), ⟨by dsimp only; omega, d2.next ?_⟩, by dsimp only; omega, VS.of_le ?_⟩
      rotate_left
      · repeat (first
          | exact Env.le_nil _
          | refine Env.le_cons (AV.le_refl _) ?_
          | refine Env.le_cons (AV.le_int rfl (by first | rfl | omega | (dsimp only; omega))) ?_)
      rw [hx]; simp_all
  obtain rfl : i = l.length := by omega
  have hr := d2.fin
  all_goals haveI fA_ : FlagA := ⟨⟩
  all_goals haveI fH_ : FlagH := ⟨⟩
  repeat' (first
    | exact True.intro
    | refine stp ?_
    | refine two ?_ ?_
    | refine allc fun c_ => ?_
    | (refine imp fun hc => ?_) <;> try (first | contradiction | (exfalso; omega) | (exfalso; exact absurd (of_dT hc) (by assumption)) | (exfalso; exact of_dF hc (by assumption)))
    | refine all fun v_ => ?_)
  all_goals clear fA_ fH_
  refine retv (vfz (t := 6) (f := boolC) (h1 := []) 1 1 rfl rfl rfl (bools_flat row) dl (fun _ => rfl) (by omega) (by omega)) ?_
  ((with_reducible apply rq2); rfl; rfl; rfl)
  refine ret_eq ?_
  rw [hr]
theorem LetterOf (G : List (Nat × List D)) (m : Md) (l : List (List Fo)) (c : Int) : ACr Tryz.prog G 33 [mdA m, .d (termsD l), .int c] (.tup [.d (boolsD (letF m l c).1), .int (letF m l c).2]) := by
  have hP := PropsFault G m l
  have hV := ValuesOf G m c
  have hfew := propsF_few (m := m) (l := l)
  unfold letF
  generalize propsF m l = e1 at hP hfew ⊢
  generalize valsF m c = q at hV ⊢
  obtain ⟨vs, e2⟩ := q
  dsimp only at hV ⊢
  refine AC_ofV (ts := [6, 7]) Tryz.f33.ntmps Tryz.func33 rfl rfl rfl (by simp [Tryz.ntmps33]) fun W I => ?_
  by_cases h1 : e1 ≠ 0
  · all_goals haveI fA_ : FlagA := ⟨⟩
    all_goals haveI fH_ : FlagH := ⟨⟩
    repeat' (first
      | ((with_reducible apply call0); (focus rfl); (focus exact cal_PropsFault); (focus exact hP); (focus rfl))
      | ((with_reducible apply je_call0); (focus rfl); (focus (decide +kernel)); (focus rfl); (focus exact cal_PropsFault); (focus exact hP); (focus rfl))
      | ((with_reducible apply call0); (focus rfl); (focus exact cal_ValuesOf); (focus exact hV); (focus rfl))
      | ((with_reducible apply je_call0); (focus rfl); (focus (decide +kernel)); (focus rfl); (focus exact cal_ValuesOf); (focus exact hV); (focus rfl))
      | exact True.intro
      | refine stp ?_
      | refine two ?_ ?_
      | refine allc fun c_ => ?_
      | (refine imp fun hc => ?_) <;> try (first | contradiction | (exfalso; omega) | (exfalso; exact absurd (of_dT hc) (by assumption)) | (exfalso; exact of_dF hc (by assumption)))
      | refine all fun v_ => ?_)
    all_goals clear fA_ fH_
    refine retv (VS.trans (VS.drop (List.nil_sublist _)) (vnil (t := 6) 1 1 rfl)) ?_
    ((with_reducible apply rq2); rfl; rfl; rfl)
    refine ret_eq ?_
    rw [if_pos h1]; rfl
  rw [if_neg h1]
  replace h1 := Decidable.not_not.1 h1
  obtain ⟨_, hl6⟩ := hfew h1
  by_cases h2 : e2 ≠ 0
  · all_goals haveI fA_ : FlagA := ⟨⟩
    all_goals haveI fH_ : FlagH := ⟨⟩
    repeat' (first
      | ((with_reducible apply call0); (focus rfl); (focus exact cal_PropsFault); (focus exact hP); (focus rfl))
      | ((with_reducible apply je_call0); (focus rfl); (focus (decide +kernel)); (focus rfl); (focus exact cal_PropsFault); (focus exact hP); (focus rfl))
      | ((with_reducible apply call0); (focus rfl); (focus exact cal_ValuesOf); (focus exact hV); (focus rfl))
      | ((with_reducible apply je_call0); (focus rfl); (focus (decide +kernel)); (focus rfl); (focus exact cal_ValuesOf); (focus exact hV); (focus rfl))
      | exact True.intro
      | refine stp ?_
      | refine two ?_ ?_
      | refine allc fun c_ => ?_
      | (refine imp fun hc => ?_) <;> try (first | contradiction | (exfalso; omega) | (exfalso; exact absurd (of_dT hc) (by assumption)) | (exfalso; exact of_dF hc (by assumption)))
      | refine all fun v_ => ?_)
    all_goals clear fA_ fH_
    refine retv (VS.trans (VS.drop (List.nil_sublist _)) (vnil (t := 6) 1 1 rfl)) ?_
    ((with_reducible apply rq2); rfl; rfl; rfl)
    refine ret_eq ?_
    rw [if_pos h2]; rfl
  rw [if_neg h2]
  all_goals haveI fA_ : FlagA := ⟨⟩
  all_goals haveI fH_ : FlagH := ⟨⟩
  repeat' (first
    | ((with_reducible apply call0); (focus rfl); (focus exact cal_PropsFault); (focus exact hP); (focus rfl))
    | ((with_reducible apply je_call0); (focus rfl); (focus (decide +kernel)); (focus rfl); (focus exact cal_PropsFault); (focus exact hP); (focus rfl))
    | ((with_reducible apply call0); (focus rfl); (focus exact cal_ValuesOf); (focus exact hV); (focus rfl))
    | ((with_reducible apply je_call0); (focus rfl); (focus (decide +kernel)); (focus rfl); (focus exact cal_ValuesOf); (focus exact hV); (focus rfl))
    | exact True.intro
    | refine stp ?_
    | refine two ?_ ?_
    | refine allc fun c_ => ?_
    | (refine imp fun hc => ?_) <;> try (first | contradiction | (exfalso; omega) | (exfalso; exact absurd (of_dT hc) (by assumption)) | (exfalso; exact of_dF hc (by assumption)))
    | refine all fun v_ => ?_)
  all_goals clear fA_ fH_
  refine J_loopV (X := Nat × Sl) (fun y => [(1, .d (termsD l)), (9, .d (intsD vs)), (10, .val y.2.v), (11, .int y.1)]) (fun y => [rowE y.2.v 4 1 boolC ((List.range y.1).map (letAt l vs))]) (fun y => y.1 ≤ l.length) (fun y => l.length - y.1) (0, Sl.nil) (Nat.zero_le _) (VS.trans (VS.nilrow 4 1) (VS.take (by ((repeat (first | exact Take.nil | ((with_reducible apply Take.cons); (focus ((repeat (first | exact Sel.here | with_reducible apply Sel.there)); done))))); done)) ?_)) ?_
  · repeat (first
      | exact Env.le_nil _
      | refine Env.le_cons (AV.le_refl _) ?_
      | refine Env.le_cons (AV.le_int rfl (by first | rfl | omega | (dsimp only; omega))) ?_)
  rintro ⟨i, q⟩ hi
  dsimp only at hi ⊢
  have hlj : ((List.range i).map (letAt l vs)).length = i := by simp
  by_cases hil : i < l.length
  · have hE := Evaluated G l[i] vs
    have hx := fun n e he => letAt_eq (vs := vs) hil (n := n) (e := e) he
    generalize evalF l[i] vs = q at hE hx
    obtain ⟨n, e⟩ := q
    dsimp only at hE
    have hx := hx n e rfl
    have hsn : ∀ b, letAt l vs i = b → (List.range i).map (letAt l vs) ++ [b] = (List.range (i + 1)).map (letAt l vs) := fun b hb => by rw [← hb]; simp [List.range_succ]
    all_goals haveI fA_ : FlagA := ⟨⟩
    all_goals haveI fH_ : FlagH := ⟨⟩
    repeat' (first
      | ((with_reducible apply call0); (focus rfl); (focus exact cal_Evaluated); (focus exact hE); (focus rfl))
      | ((with_reducible apply je_call0); (focus rfl); (focus (decide +kernel)); (focus rfl); (focus exact cal_Evaluated); (focus exact hE); (focus rfl))
      | exact True.intro
      | refine stp ?_
      | refine two ?_ ?_
      | refine allc fun c_ => ?_
      | (refine imp fun hc => ?_) <;> try (first | contradiction | (exfalso; omega) | (exfalso; exact absurd (of_dT hc) (by assumption)) | (exfalso; exact of_dF hc (by assumption)))
      | refine all fun v_ => ?_)
    all_goals clear fA_ fH_
    all_goals
      rw [hsn _ (by rw [hx]; simp_all)]
      refine ⟨(i + 1, v_), by dsimp only; omega, by dsimp only; omega, VS.of_le ?_⟩
      repeat (first
        | exact Env.le_nil _
        | refine Env.le_cons (AV.le_refl _) ?_
        | refine Env.le_cons (AV.le_int rfl (by first | rfl | omega | (dsimp only; omega))) ?_)
  obtain rfl : i = l.length := by omega
  all_goals haveI fA_ : FlagA := ⟨⟩
  all_goals haveI fH_ : FlagH := ⟨⟩
  repeat' (first
    | exact True.intro
    | refine stp ?_
    | refine two ?_ ?_
    | refine allc fun c_ => ?_
    | (refine imp fun hc => ?_) <;> try (first | contradiction | (exfalso; omega) | (exfalso; exact absurd (of_dT hc) (by assumption)) | (exfalso; exact of_dF hc (by assumption)))
    | refine all fun v_ => ?_)
  all_goals clear fA_ fH_
  refine retv (vfreeze (t := 6) (eb := 1) rfl rfl (fun x => rfl) (by rw [hlj]; omega)) ?_
  ((with_reducible apply rq2); rfl; rfl; rfl)
  exact ret_eq rfl
end Go.Proofs.YtcikppldaepodaaGreatDoor
namespace Go.Sp
open Go Go.Av
set_option linter.unusedVariables false
set_option linter.unusedSimpArgs false
def inits (m : Md) : List Int := m.vars.map Vr.init
end Go.Sp
namespace Go.Proofs.YtcikppldaepodaaGreatDoor
open Go Go.Av Go.Sp
set_option linter.unusedVariables false
set_option linter.unusedSimpArgs false
set_option maxRecDepth 100000
set_option maxHeartbeats 4000000

theorem cal_First : Cal Tryz.prog 79 := Cal.of Tryz.func79 (by kernel_rfl) (by kernel_rfl)
theorem cal_FirstCode : Cal Tryz.prog 55 := Cal.of Tryz.func55 (by kernel_rfl) (by kernel_rfl)
theorem First (m : Md) : ACr Tryz.prog GP 79 [mdA m] (.tup [.int (codeF m (inits m)).1, .int (codeF m (inits m)).2]) := by
  refine AC.factI (f := Vr.cells) (xs := m.vars) (.agg .here) fun hlv => ?_
  refine AC_ofV (ts := [2, 3]) Tryz.f79.ntmps Tryz.func79 rfl rfl rfl (by simp [Tryz.ntmps79]) fun W I => ?_
  have hin : (inits m).length = m.vars.length := by simp [inits]
  all_goals haveI fA_ : FlagA := ⟨⟩
  all_goals haveI fH_ : FlagH := ⟨⟩
  repeat' (first
    | exact True.intro
    | refine stp ?_
    | refine two ?_ ?_
    | refine allc fun c_ => ?_
    | (refine imp fun hc => ?_) <;> try (first | contradiction | (exfalso; omega) | (exfalso; exact absurd (of_dT hc) (by assumption)) | (exfalso; exact of_dF hc (by assumption)))
    | refine all fun v_ => ?_)
  all_goals clear fA_ fH_
  obtain ⟨bm, rfl⟩ : ∃ x, x = v_ := ⟨v_, rfl⟩
  refine jrow (E := 3) (sz := 1) intC ?_
  refine J_loopV (X := Nat × Sl) (fun y => [(1, .val (.pointer (some ⟨bm, 0, none⟩))), (4, .val y.2.v), (8, .d (varsD m.vars)), (9, .int m.vars.length), (10, .int y.1)]) (fun y => [rowE y.2.v 3 1 intC ((inits m).take y.1), .cells bm 25 [.d (varsD m.vars), .d (rulesD m.rules)]]) (fun y => y.1 ≤ m.vars.length) (fun y => m.vars.length - y.1) (0, Sl.nil) (Nat.zero_le _) (VS.of_le ?_) ?_
  · repeat (first
      | exact Env.le_nil _
      | refine Env.le_cons (AV.le_refl _) ?_
      | refine Env.le_cons (AV.le_int rfl (by first | rfl | omega | (dsimp only; omega))) ?_)
  rintro ⟨i, q⟩ h1
  dsimp only at h1 ⊢
  have hlen : ((inits m).take i).length = i := by rw [List.length_take]; omega
  by_cases hi : i < m.vars.length
  · have et : (inits m).take i ++ [m.vars[i].init] = (inits m).take (i + 1) := by rw [List.take_succ_eq_append_getElem (by omega)]; simp [inits]
    all_goals haveI fA_ : FlagA := ⟨⟩
    all_goals haveI fH_ : FlagH := ⟨⟩
    repeat' (first
      | exact True.intro
      | refine stp ?_
      | refine two ?_ ?_
      | refine allc fun c_ => ?_
      | (refine imp fun hc => ?_) <;> try (first | contradiction | (exfalso; omega) | (exfalso; exact absurd (of_dT hc) (by assumption)) | (exfalso; exact of_dF hc (by assumption)))
      | refine all fun v_ => ?_)
    all_goals clear fA_ fH_
    refine ⟨(i + 1, v_), by dsimp only; omega, by dsimp only; omega, ?_⟩
    dsimp only
    rw [← et]
    refine VS.take (by ((repeat (first | exact Take.nil | ((with_reducible apply Take.cons); (focus ((repeat (first | exact Sel.here | with_reducible apply Sel.there)); done))))); done)) ?_
    repeat (first
      | exact Env.le_nil _
      | refine Env.le_cons (AV.le_refl _) ?_
      | refine Env.le_cons (AV.le_int rfl (by first | rfl | omega | (dsimp only; omega))) ?_)
  obtain rfl : i = m.vars.length := by omega
  rw [List.take_of_length_le (by omega)]
  refine J_vs (vdat (h1 := []) (h' := [.cells bm 25 [.d (varsD m.vars), .d (rulesD m.rules)]]) 8 rfl rfl (fun _ => rfl) (by omega) (CvE.cons (t := 4) rfl .here (CvE.refl _ _ _)) (CvH.refl _)) ?_
  all_goals haveI fA_ : FlagA := ⟨⟩
  all_goals haveI fH_ : FlagH := ⟨⟩
  repeat' (first
    | ((with_reducible apply call0); (focus rfl); (focus exact cal_Code); (focus exact Code _ _); (focus rfl))
    | ((with_reducible apply je_call0); (focus rfl); (focus (decide +kernel)); (focus rfl); (focus exact cal_Code); (focus exact Code _ _); (focus rfl))
    | exact True.intro
    | refine stp ?_
    | refine two ?_ ?_
    | refine allc fun c_ => ?_
    | (refine imp fun hc => ?_) <;> try (first | contradiction | (exfalso; omega) | (exfalso; exact absurd (of_dT hc) (by assumption)) | (exfalso; exact of_dF hc (by assumption)))
    | refine all fun v_ => ?_)
  all_goals clear fA_ fH_
  refine retv (VS.drop (List.nil_sublist _)) ?_
  ((with_reducible apply rq2); rfl; rfl; rfl)
  exact ret_eq rfl
theorem FirstCode (G : List (Nat × List D)) (m : Md) : ACr Tryz.prog G 55 [mdA m] (.tup [.int (codeF m (inits m)).1, .int (codeF m (inits m)).2]) := by
  refine AC.factI (f := Vr.cells) (xs := m.vars) (.agg .here) fun hlv => ?_
  refine AC_ofV (ts := [2, 3]) Tryz.f55.ntmps Tryz.func55 rfl rfl rfl (by simp [Tryz.ntmps55]) fun W I => ?_
  have hin : (inits m).length = m.vars.length := by simp [inits]
  all_goals haveI fA_ : FlagA := ⟨⟩
  all_goals haveI fH_ : FlagH := ⟨⟩
  repeat' (first
    | exact True.intro
    | refine stp ?_
    | refine two ?_ ?_
    | refine allc fun c_ => ?_
    | (refine imp fun hc => ?_) <;> try (first | contradiction | (exfalso; omega) | (exfalso; exact absurd (of_dT hc) (by assumption)) | (exfalso; exact of_dF hc (by assumption)))
    | refine all fun v_ => ?_)
  all_goals clear fA_ fH_
  obtain ⟨bm, rfl⟩ : ∃ x, x = v_ := ⟨v_, rfl⟩
  refine jrow (E := 3) (sz := 1) intC ?_
  refine J_loopV (X := Nat × Sl) (fun y => [(1, .val (.pointer (some ⟨bm, 0, none⟩))), (4, .val y.2.v), (5, .int y.1)]) (fun y => [rowE y.2.v 3 1 intC ((inits m).take y.1), .cells bm 25 [.d (varsD m.vars), .d (rulesD m.rules)]]) (fun y => y.1 ≤ m.vars.length) (fun y => m.vars.length - y.1) (0, Sl.nil) (Nat.zero_le _) (VS.of_le ?_) ?_
  · repeat (first
      | exact Env.le_nil _
      | refine Env.le_cons (AV.le_refl _) ?_
      | refine Env.le_cons (AV.le_int rfl (by first | rfl | omega | (dsimp only; omega))) ?_)
  rintro ⟨i, q⟩ h1
  dsimp only at h1 ⊢
  have hlen : ((inits m).take i).length = i := by rw [List.length_take]; omega
  by_cases hi : i < m.vars.length
  · have et : (inits m).take i ++ [m.vars[i].init] = (inits m).take (i + 1) := by rw [List.take_succ_eq_append_getElem (by omega)]; simp [inits]
    all_goals haveI fA_ : FlagA := ⟨⟩
    all_goals haveI fH_ : FlagH := ⟨⟩
    repeat' (first
      | exact True.intro
      | refine stp ?_
      | refine two ?_ ?_
      | refine allc fun c_ => ?_
      | (refine imp fun hc => ?_) <;> try (first | contradiction | (exfalso; omega) | (exfalso; exact absurd (of_dT hc) (by assumption)) | (exfalso; exact of_dF hc (by assumption)))
      | refine all fun v_ => ?_)
    all_goals clear fA_ fH_
    refine ⟨(i + 1, v_), by dsimp only; omega, by dsimp only; omega, ?_⟩
    dsimp only
    rw [← et]
    refine VS.take (by ((repeat (first | exact Take.nil | ((with_reducible apply Take.cons); (focus ((repeat (first | exact Sel.here | with_reducible apply Sel.there)); done))))); done)) ?_
    repeat (first
      | exact Env.le_nil _
      | refine Env.le_cons (AV.le_refl _) ?_
      | refine Env.le_cons (AV.le_int rfl (by first | rfl | omega | (dsimp only; omega))) ?_)
  obtain rfl : i = m.vars.length := by omega
  rw [List.take_of_length_le (by omega)]
  refine J_vs (vdat (h1 := []) (h' := [.cells bm 25 [.d (varsD m.vars), .d (rulesD m.rules)]]) 8 rfl rfl (fun _ => rfl) (by omega) (CvE.cons (t := 4) rfl .here (CvE.refl _ _ _)) (CvH.refl _)) ?_
  all_goals haveI fA_ : FlagA := ⟨⟩
  all_goals haveI fH_ : FlagH := ⟨⟩
  repeat' (first
    | ((with_reducible apply call0); (focus rfl); (focus exact cal_CodeOf); (focus exact CodeOf _ _ _); (focus rfl))
    | ((with_reducible apply je_call0); (focus rfl); (focus (decide +kernel)); (focus rfl); (focus exact cal_CodeOf); (focus exact CodeOf _ _ _); (focus rfl))
    | exact True.intro
    | refine stp ?_
    | refine two ?_ ?_
    | refine allc fun c_ => ?_
    | (refine imp fun hc => ?_) <;> try (first | contradiction | (exfalso; omega) | (exfalso; exact absurd (of_dT hc) (by assumption)) | (exfalso; exact of_dF hc (by assumption)))
    | refine all fun v_ => ?_)
  all_goals clear fA_ fH_
  refine retv (VS.drop (List.nil_sublist _)) ?_
  ((with_reducible apply rq2); rfl; rfl; rfl)
  exact ret_eq rfl
end Go.Proofs.YtcikppldaepodaaGreatDoor
