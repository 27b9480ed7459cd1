/-
  PLAIN, NO PROGRAM: regions whose order is open, walked by whatever may come next.
-/
import Derived.Test.YtffdlpjbbkhcnaaBe
namespace Go.Av
open Go

section
variable {k : Kx} {Q : Exit → Env → H → Prop} {ρ ρ' : Env} {h h' : H} {ops : Array Oper} {listed : Array Bool} {n f i j d : Nat} {op : Op} {ty : TypeId} {pos : String} {after : Array Edge}

theorem oper_wp_to {P : Program} {o : Oper} {a : Act} {w : World} {K K' : Act → World → Prop} {Q Q' : Exit → Act → World → Prop} (hK : ∀ a w, K a w → K' a w) (hQ : ∀ e a w, e ≠ .normal → ¬ Q e a w) (h : o.wp P a w K Q) : o.wp P a w K' Q' := by
  unfold Oper.wp at *
  generalize (execOp a.eval o).run P w = r at *
  cases r with
  | ok n w' =>
    cases n <;> simp only [Oper.upon] at h ⊢
    case value u => exact hK _ _ h
    case skip => exact hK _ _ h
    case defer d => exact hK _ _ h
    case enter f args =>
      refine Calls.mono h fun e w'' he => ?_
      cases e with
      | returned u => exact hK _ _ he
      | panicked c => exact absurd he (hQ _ _ _ (by simp))
      | outgrown => obtain ⟨_, _, hf⟩ := he; exact absurd hf (hQ _ _ _ (by simp))
    case row row args => exact Rows.mono h fun u w'' he => hK _ _ he
  | halt x w' =>
    cases x <;> simp only [Oper.upon] at h ⊢
    case panic u => exact absurd h (hQ _ _ _ (by simp))
/-- Whatever order the operations are picked in, f of them still to come. -/
structure JX (k : Kx) (ops : Array Oper) (f : Nat) (listed : Array Bool) (Q : Exit → Env → H → Prop) (ρ : Env) (h : H) : Prop where
  get : Region.noSelect ops = true → HeadInv .any ops ops.size listed → ∀ I a w, Ok k.c I h w → SF k.n w I ρ a → a.defers = k.df →
    headH k.P .any ops (fun _ => True) ops.size (fun listed' a' w' => Region.ready .any ops listed' = [] ∧ lift k Q .normal a' w') f listed a w

theorem J_region_all {id : Nat} {l : List Oper} {P : Program} (hm : P.follows .mixedOrders = true) (hP : k.P = P) (hn : l.length = n) (hs : Region.noSelect l.toArray = true)
    (hj : JX k l.toArray n (Array.replicate l.length false) Q ρ h) : J k (.region id l.toArray true) Q ρ h := by
  subst hP
  subst hn
  intro I a w h1 h2 h3
  refine wp_region_any hm ?_
  have hsm : Same I h w { w with drawn := w.drawn + 1 } := ⟨rfl, rfl, rfl, Nat.le_refl _, fun _ _ => rfl⟩
  have inv0 : HeadInv .any l.toArray l.toArray.size (Array.replicate l.length false) :=
    ⟨by simp, fun j oj _ hl => (by rw [getD_replicate_false] at hl; cases hl), fun t _ ht => getD_in (by simpa using ht) (getD_replicate_false _ _)⟩
  have H := hj.get hs inv0 I a _ (h1.same hsm) (SF.same h1 hsm h2) h3
  have K := any_of_headH (Q := lift k Q) (g := 0) (fun listed' a' w' hL => ⟨hL.1, hL.2⟩) _ _ _ _ H
  simpa using K
theorem jx_done (hr : Region.ready .any ops listed = []) (hj : Q .normal ρ h) : JX k ops 0 listed Q ρ h := ⟨fun _ _ I _ _ h1 h2 h3 => ⟨hr, I, ρ, h, h1, h2, h3, hj⟩⟩
theorem jx_each (hn : Region.ready .any ops listed ≠ []) (hall : ∀ i ∈ Region.ready .any ops listed, ∃ o, ops[i]? = some o ∧ JL k ops [o] (fun e ρ' h' => e = .normal ∧ JX k ops f (listed.setIfInBounds i true) Q ρ' h') ρ h) : JX k ops (f + 1) listed Q ρ h := by
  refine ⟨fun hs inv I a w h1 h2 h3 => ⟨hn, fun i hi => ?_⟩⟩
  obtain ⟨o, ho, hj⟩ := hall i hi
  have hin : i < ops.size := (Array.getElem?_eq_some_iff.1 ho).1
  refine ⟨hin, ?_⟩
  have H := hj I a w h1 h2 h3
  unfold wpOp
  rw [ho]
  dsimp only
  have hK : ∀ a' w', lift k (fun e ρ' h' => e = .normal ∧ JX k ops f (listed.setIfInBounds i true) Q ρ' h') .normal a' w' → True ∧ headH k.P .any ops (fun _ => True) ops.size (fun listed' a' w' => Region.ready .any ops listed' = [] ∧ lift k Q .normal a' w') f (listed.setIfInBounds i true) a' w' := by
    rintro a' w' ⟨I', ρ', h', q1, q2, q3, _, q4⟩
    exact ⟨trivial, q4.get hs (inv.set hi hin) I' a' w' q1 q2 q3⟩
  have hQ : ∀ e a' w', e ≠ .normal → ¬ lift k (fun e ρ' h' => e = .normal ∧ JX k ops f (listed.setIfInBounds i true) Q ρ' h') e a' w' := by
    rintro e a' w' he ⟨_, _, _, _, _, _, q, _⟩
    exact he q
  rw [wpList] at H
  by_cases hw : Region.wanted o (yielded ops a.tmps) = true
  · rw [if_pos hw] at H ⊢
    rcases H with H | ⟨_, a', w', H⟩
    · exact .inl (oper_wp_to hK hQ H)
    · exact absurd H (hQ _ _ _ (by simp))
  · rw [if_neg hw] at H ⊢
    exact hK _ _ H
theorem jx_one {o : Oper} (hr : Region.ready .any ops listed = [i]) (ho : ops[i]? = some o) (hj : JL k ops [o] (fun e ρ' h' => e = .normal ∧ JX k ops f (listed.setIfInBounds i true) Q ρ' h') ρ h) : JX k ops (f + 1) listed Q ρ h :=
  jx_each (by rw [hr]; simp) fun j hj' => by
    rw [hr] at hj'
    have e : j = i := by simpa using hj'
    subst e
    exact ⟨o, ho, hj⟩
theorem jx_two {o o' : Oper} (hr : Region.ready .any ops listed = [i, j]) (ho : ops[i]? = some o) (ho' : ops[j]? = some o') (hj : JL k ops [o] (fun e ρ' h' => e = .normal ∧ JX k ops f (listed.setIfInBounds i true) Q ρ' h') ρ h) (hj' : JL k ops [o'] (fun e ρ' h' => e = .normal ∧ JX k ops f (listed.setIfInBounds j true) Q ρ' h') ρ h) : JX k ops (f + 1) listed Q ρ h :=
  jx_each (by rw [hr]; simp) fun m hm => by
    rw [hr] at hm
    rcases (show m = i ∨ m = j by simpa using hm) with rfl | rfl
    · exact ⟨o, ho, hj⟩
    · exact ⟨o', ho', hj'⟩
/-- One that looks at no world comes first. -/
theorem jx_take {o : Oper} {r : AV} (ho : ops[i]? = some o) (hc : mixOk ops listed ops.size i = true) (hd : ∀ t, o.dst = some t → t < k.n)
    (hy : ∀ I a w, Ok k.c I h w → SF k.n w I ρ a → ∃ v, AV.rel w I r v ∧ YieldsIf k.P ops (fun _ => True) o v a)
    (hj : JX k ops f (listed.setIfInBounds i true) Q (put ρ o.dst r) h) : JX k ops (f + 1) listed Q ρ h := by
  refine ⟨fun hs inv I a w h1 h2 h3 => ?_⟩
  simp only [mixOk, Bool.and_eq_true, decide_eq_true_eq] at hc
  obtain ⟨⟨hr, hf⟩, hin⟩ := hc
  have hr' : i ∈ Region.ready .any ops listed := by simpa using hr
  obtain ⟨v, hv, hyv⟩ := hy I a w h1 h2
  exact headH_first ho (Region.noSelect_spec hs) (fun _ _ _ j hj => by obtain ⟨_, o, ho, _⟩ := mem_ready.1 hj; exact (Array.getElem?_eq_some_iff.1 ho).1) hin (fun _ _ _ hL j hj => by rw [hL.1] at hj; cases hj) f listed a w inv (Region.free_spec ho hf) hr' hyv trivial
    (hj.get hs (inv.set hr' hin) I _ w h1 (h2.put hd hv) (by rw [Act.defers_put]; exact h3))
theorem jx_move {x : Operand} {r : AV} (ho : ops[i]? = some ⟨some d, .move x, ty, pos, after, none⟩) (hc : mixOk ops listed ops.size i = true) (hx : evO ρ x = some r) (hd : Nat.blt d k.n = true)
    (hj : JX k ops f (listed.setIfInBounds i true) Q ((d, r) :: ρ) h) : JX k ops (f + 1) listed Q ρ h :=
  jx_take ho hc (fun t ht => by cases ht; exact blt hd) (fun _ a _ _ h2 => ⟨a.eval x, rel_as (h2.ev x) (ev_of_evO hx), .inl ⟨by simp [Region.wanted], fun _ _ => rfl⟩⟩) hj
theorem jx_assign {x : Operand} {r : AV} (ho : ops[i]? = some ⟨some d, .assign x, ty, pos, after, none⟩) (hc : mixOk ops listed ops.size i = true) (hx : evO ρ x = some r) (hd : Nat.blt d k.n = true)
    (hj : JX k ops f (listed.setIfInBounds i true) Q ((d, r) :: ρ) h) : JX k ops (f + 1) listed Q ρ h :=
  jx_take ho hc (fun t ht => by cases ht; exact blt hd) (fun _ a _ _ h2 => ⟨a.eval x, rel_as (h2.ev x) (ev_of_evO hx), .inl ⟨by simp [Region.wanted], fun _ _ => rfl⟩⟩) hj
theorem jx_extract {x : Operand} {m : Nat} {vs : List AV} {r : AV} (ho : ops[i]? = some ⟨some d, .extract x m, ty, pos, after, none⟩) (hc : mixOk ops listed ops.size i = true) (hx : evO ρ x = some (.tup vs)) (hi : vs[m]? = some r) (hd : Nat.blt d k.n = true)
    (hj : JX k ops f (listed.setIfInBounds i true) Q ((d, r) :: ρ) h) : JX k ops (f + 1) listed Q ρ h :=
  jx_take ho hc (fun t ht => by cases ht; exact blt hd) (fun _ a _ _ h2 => by
    obtain ⟨us, e2, e3⟩ := rel_as (h2.ev x) (ev_of_evO hx)
    obtain ⟨v, hv, hr⟩ := AV.rels_get e3 m r hi
    exact ⟨v, hr, .inl ⟨by simp [Region.wanted], fun w _ => by simp [execOp, e2, Instr.extract, hv]⟩⟩) hj
def allocB : Op → Bool
  | .alloc _ => true
  | _ => false
/-- Here the walk stops. -/
structure Stop (p : Prop) : Prop where
  get : p
theorem jstop {id : Nat} {l : List Oper} (_hA : (l.any fun o => allocB o.op) = true) (hj : Stop (J k (.region id l.toArray true) Q ρ h)) : J k (.region id l.toArray true) Q ρ h := hj.get
theorem jx_three {m : Nat} {o o' o'' : Oper} (hr : Region.ready .any ops listed = [i, j, m]) (ho : ops[i]? = some o) (ho' : ops[j]? = some o') (ho'' : ops[m]? = some o'') (hj : JL k ops [o] (fun e ρ' h' => e = .normal ∧ JX k ops f (listed.setIfInBounds i true) Q ρ' h') ρ h) (hj' : JL k ops [o'] (fun e ρ' h' => e = .normal ∧ JX k ops f (listed.setIfInBounds j true) Q ρ' h') ρ h) (hj'' : JL k ops [o''] (fun e ρ' h' => e = .normal ∧ JX k ops f (listed.setIfInBounds m true) Q ρ' h') ρ h) : JX k ops (f + 1) listed Q ρ h :=
  jx_each (by rw [hr]; simp) fun x hm => by
    rw [hr] at hm
    rcases (show x = i ∨ x = j ∨ x = m by simpa using hm) with rfl | rfl | rfl
    · exact ⟨o, ho, hj⟩
    · exact ⟨o', ho', hj'⟩
    · exact ⟨o'', ho'', hj''⟩
theorem jx_nil (hj : JX k ops f listed Q ρ h) : JL k ops [] (fun e ρ' h' => e = .normal ∧ JX k ops f listed Q ρ' h') ρ h := JL_nil ⟨rfl, hj⟩
/-- A told state behind a piece of code. -/
theorem J_cutV {X : Type} {x : Code} (S : X → Env) (G : X → H) (hx : J k x (fun e ρ' h' => e = .normal ∧ ∃ y, VS ρ' h' (S y) (G y)) ρ h) (hq : ∀ y, Q .normal (S y) (G y)) : J k x Q ρ h := by
  intro I a w h1 h2 h3
  refine wp_mono (hx I a w h1 h2 h3) ?_
  rintro e a' w' ⟨I', ρ', h', k1, k2, k3, rfl, y, hv⟩
  obtain ⟨I'', k4, k5⟩ := hv k.c I' k.n a' w' k1 k2
  exact ⟨I'', S y, G y, k4, k5, k3, hq y⟩
end
end Go.Av
