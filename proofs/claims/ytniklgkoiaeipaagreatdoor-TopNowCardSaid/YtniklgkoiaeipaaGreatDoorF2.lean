/- A bundle of this claim's own texts: H1 H4. -/
import Derived.Test.YtniklgkoiaeipaaGreatDoorD35
import Derived.Test.YtniklgkoiaeipaaGreatDoorF1
set_option linter.unusedVariables false
set_option linter.unusedSimpArgs false
set_option maxRecDepth 100000
set_option maxHeartbeats 4000000
namespace Go.Sp
open Go Go.Av

section
variable {K : Fo → Prop} {l : List Fo}
theorem Wf.sem_next (w : Wf K l) (h8 : ∀ o, K o → 8 ≤ o.kind) (σ : Nat → Nat → Bool) : iAt (⟨14, 0⟩ :: l) σ 0 = fun i => iAt l σ 0 (i + 1) := w.sem_one rfl h8 σ (fun _ => true)
theorem Wf.sem_now (w : Wf K l) (h8 : ∀ o, K o → 8 ≤ o.kind) (hn : ∀ o, K o → ¬ aheadP o.kind) (σ τ : Nat → Nat → Bool) (i j : Nat) (h : ∀ v, σ i v = τ j v) : iAt l σ 0 i = iAt l τ 0 j := by
 induction w with
 | @leaf o k p =>
   rw [sem_leaf p (h8 _ k) σ (fun _ => true) (fun _ => true), sem_leaf p (h8 _ k) τ (fun _ => true) (fun _ => true)]
   rcases parts_leaf p (h8 _ k) with e | e | e <;> rw [e]
   · rfl
   · rfl
   · exact h _
 | @one o a k p ha ih =>
   rw [ha.sem_one p h8 σ (fun _ => true), ha.sem_one p h8 τ (fun _ => true)]
   have := hn _ k
   rcases parts_one p with e | e | e | e
   · rw [e]; show (!_) = (!_); rw [ih]
   all_goals exact absurd ⟨by omega, by omega⟩ this
 | @two o a b k p ha hb iha ihb =>
   rw [ha.sem_two hb h8 σ, ha.sem_two hb h8 τ]
   have h1 := hn _ k
   have h2 := h8 _ k
   have h3 : o.kind = 8 ∨ o.kind = 9 := by
    unfold partsOf at p
    split at p
    · exact absurd (congrArg Prod.fst p) (by simp)
    · split at p
      · exact absurd (congrArg Prod.fst p) (by simp)
      · split at p
        · omega
        · exact absurd (congrArg Prod.snd p) (by simp)
   rcases h3 with e | e <;> rw [e]
   · show (_ && _) = (_ && _); rw [iha, ihb]
   · show (_ || _) = (_ || _); rw [iha, ihb]
end
theorem FoG.next {f : List Fo} (w : Wf (FoK 3) f) (hl : f.length ≤ 59) (ha : nAh f ≤ 5) : FoG (⟨14, 0⟩ :: f) :=
 ⟨w.one' 14 (by decide) rfl, by rw [List.length_cons]; omega, by rw [nAh_cons, if_pos (by unfold aheadP; dsimp only; omega)]; omega⟩
section
variable (d : De) {f g : List Fo}
theorem Wf.and {K K' : Fo → Prop} {l : List Fo} (w : Wf K l) : (∀ o ∈ l, K' o) → Wf (fun o => K o ∧ K' o) l := by
 induction w with
 | leaf k p => intro h; exact .leaf ⟨k, h _ List.mem_cons_self⟩ p
 | one k p ha ih => intro h; exact .one ⟨k, h _ List.mem_cons_self⟩ p (ih fun o ho => h o (List.mem_cons_of_mem _ ho))
 | two k p ha hb iha ihb =>
   intro h
   exact .two ⟨k, h _ List.mem_cons_self⟩ p (iha fun o ho => h o (List.mem_cons_of_mem _ (List.mem_append_left _ ho))) (ihb fun o ho => h o (List.mem_cons_of_mem _ (List.mem_append_right _ ho)))
theorem nAh_none {l : List Fo} (h : nAh l = 0) : ∀ o ∈ l, ¬ aheadP o.kind := fun o ho c => by
 unfold nAh at h
 have h2 := List.length_eq_zero_iff.1 h
 have : o ∈ l.filter fun o => decide (aheadP o.kind) := List.mem_filter.2 ⟨ho, decide_eq_true c⟩
 rw [h2] at this; cases this
theorem Wf.now (w : Wf (FoK 3) f) (h0 : nAh f = 0) : Wf (fun o => FoK 3 o ∧ ¬ aheadP o.kind) f := w.and (nAh_none h0)
theorem top_now (w : Wf (FoK 3) f) (h0 : nAh f = 0) : holdsP (tskG d f) ↔ wAt f [lettF (tskG d []) (firstF (modG d))] 0 0 0 = true := by
 have hw := w.now h0
 rw [one_word]
 have key : ∀ π, runP (modG d) π → iAt f (sgG d π) 0 0 = iAt f (fun _ v => ((lettF (tskG d []) (firstF (modG d)))[v]?).getD false) 0 0 := fun π hp =>
  hw.sem_now (fun o h => h.1.ge) (fun o h => h.2) _ _ 0 0 fun v => by
   show ((lettF (tskG d []) (π 0))[v]?).getD false = _
   rw [hp.1]
 constructor
 · intro h
   obtain ⟨π, hp⟩ := run_some (modelF_G d)
   rw [← key π hp]; exact (holds_G d).1 h π hp
 · intro h
   refine (holds_G d).2 fun π hp => ?_
   rw [key π hp]; exact h
theorem top_next (w : Wf (FoK 3) f) (h0 : nAh f = 0) : holdsP (tskG d (⟨14, 0⟩ :: f)) ↔ ∀ c ∈ (nextF (modG d) (firstF (modG d))).1, wAt f [lettF (tskG d []) c] 0 0 0 = true := by
 have hm := modelF_G d
 have hw := w.now h0
 have key : ∀ π, iAt (⟨14, 0⟩ :: f) (sgG d π) 0 0 = wAt f [lettF (tskG d []) (π 1)] 0 0 0 := fun π => by
  rw [w.sem_next ge8, one_word]
  exact hw.sem_now (fun o h => h.1.ge) (fun o h => h.2) _ _ 1 0 fun v => rfl
 constructor
 · intro h c hc
   have hf := first_ok hm
   have hr := nextF_range hm _ _ hc
   have := (holds_G d).1 h (fun i => if i = 0 then firstF (modG d) else wayF (modG d) c (i - 1)) ⟨rfl, fun i => by
    dsimp only
    rw [if_neg (show ¬ (i + 1 = 0) by omega)]
    by_cases h0 : i = 0
    · subst h0; exact hc
    · rw [if_neg h0, show i + 1 - 1 = (i - 1) + 1 by omega]
      exact wayF_next hm hr.1 hr.2 _⟩
   rw [key] at this
   exact this
 · intro h
   refine (holds_G d).2 fun π hp => ?_
   rw [key]
   exact h _ (by have := hp.2 0; rwa [hp.1] at this)
end
end Go.Sp
