/-
  PLAIN, NO PROGRAM: regions whose order is open, walked by whatever may come next, by number (over Ca).
-/
import Derived.Test.YtffdlpjbbkhcnaaCa
namespace Go.Av
open Go
/-- A new row that is handed back, told as data. -/
theorem AC.frz {α : Type} {f : α → List D} {xs : List α} {P : Program} {G : List (Nat × List D)} {fn : FuncId} {args : List AV} {E : TypeId} {sz : Nat} (eb : Nat) (hac : AC P G fn args [] fun e h => ∃ q : Sl, e = .ret (.val q.v) ∧ h = [rowE q.v E sz f xs]) (h0 : Nat.blt 0 sz = true) (hsz : ∀ a, (f a).length = sz) (hb : xs.length * eb ≤ 140737488355328) :
    ACr P G fn args (.d (.l sz eb (xs.map f))) := by
  intro I W vs h1 h2 h3 h4 h5
  refine (hac I W vs h1 h2 h3 h4 h5).mono ?_
  rintro e w' ⟨r, h', I', ⟨q, rfl, rfl⟩, hok, hrel⟩
  have hok' : Ok ⟨W, I, [], G⟩ I' ([] ++ .row q.v xs.length E sz ((xs.map f).flatten.map D.av) :: []) w' := hok
  obtain ⟨I'', k1, _, k3⟩ := row_rel eb hok' (blt h0) (by simp) (fun r hr => by obtain ⟨a, _, rfl⟩ := List.mem_map.1 hr; exact hsz a) hb
  refine ⟨.ret (.d (.l sz eb (xs.map f))), [], I'', ⟨rfl, rfl⟩, k1, ?_⟩
  cases e with
  | returned v =>
    have : v = q.v := hrel
    subst this
    exact k3
  | panicked ch => exact hrel.elim
  | outgrown => exact hrel.elim
/-- What came in is no longer than memory lets. -/
theorem AC.fact {α : Type} {f : α → List D} {xs : List α} {P : Program} {G : List (Nat × List D)} {fn : FuncId} {as : List AV} {h : H} {Q : AE → H → Prop} {sz eb : Nat} (hac : xs.length * eb ≤ 140737488355328 → AC P G fn (.d (.l sz eb (xs.map f)) :: as) h Q) : AC P G fn (.d (.l sz eb (xs.map f)) :: as) h Q := by
  intro I W vs h1 h2 h3 h4 h5
  cases vs with
  | nil => exact h5.elim
  | cons v vs =>
    have := (Rel.len_le h5.1).1
    rw [List.length_map] at this
    exact hac this I W (v :: vs) h1 h2 h3 h4 h5
section
variable {k : Kx} {Q : Exit → Env → H → Prop} {ρ : Env} {h : H} {ops : Array Oper} {listed : Array Bool} {n f i m d : Nat} {op : Op} {ty : TypeId} {pos : String} {after : Array Edge}
/-- What looks at no world is looked for first, from the operation i on. -/
structure JXP (k : Kx) (ops : Array Oper) (n f : Nat) (listed : Array Bool) (i m : Nat) (Q : Exit → Env → H → Prop) (ρ : Env) (h : H) : Prop where
  get : JX k ops f listed Q ρ h
/-- Each operation from i on that may come is carried out. -/
structure JXS (k : Kx) (ops : Array Oper) (n f : Nat) (listed : Array Bool) (i m : Nat) (Q : Exit → Env → H → Prop) (ρ : Env) (h : H) : Prop where
  get : ∀ j, i ≤ j → j < i + m → j ∈ Region.ready .any ops listed → ∃ o, ops[j]? = some o ∧ JL k ops [o] (fun e ρ' h' => e = .normal ∧ JXP k ops n f (listed.setIfInBounds j true) 0 n Q ρ' h') ρ h
theorem jxp_each (hn : Region.ready .any ops listed ≠ []) (hall : ∀ i ∈ Region.ready .any ops listed, ∃ o, ops[i]? = some o ∧ JL k ops [o] (fun e ρ' h' => e = .normal ∧ JXP k ops n f (listed.setIfInBounds i true) 0 n Q ρ' h') ρ h) : JX k ops (f + 1) listed Q ρ h := by
  refine ⟨fun hs inv I a w h1 h2 h3 => ⟨hn, fun i hi => ?_⟩⟩
  obtain ⟨o, ho, hj⟩ := hall i hi
  have hin : i < ops.size := (Array.getElem?_eq_some_iff.1 ho).1
  refine ⟨hin, ?_⟩
  have H := hj I a w h1 h2 h3
  unfold wpOp
  rw [ho]
  dsimp only
  have hK : ∀ a' w', lift k (fun e ρ' h' => e = .normal ∧ JXP k ops n f (listed.setIfInBounds i true) 0 n Q ρ' h') .normal a' w' → True ∧ headH k.P .any ops (fun _ => True) ops.size (fun listed' a' w' => Region.ready .any ops listed' = [] ∧ lift k Q .normal a' w') f (listed.setIfInBounds i true) a' w' := by
    rintro a' w' ⟨I', ρ', h', q1, q2, q3, _, q4⟩
    exact ⟨trivial, q4.get.get hs (inv.set hi hin) I' a' w' q1 q2 q3⟩
  have hQ : ∀ e a' w', e ≠ .normal → ¬ lift k (fun e ρ' h' => e = .normal ∧ JXP k ops n f (listed.setIfInBounds i true) 0 n Q ρ' h') e a' w' := by
    rintro e a' w' he ⟨_, _, _, _, _, _, q, _⟩
    exact he q
  rw [wpList] at H
  by_cases hw : Region.wanted o (yielded ops a.tmps) = true
  · rw [if_pos hw] at H ⊢
    rcases H with H | ⟨_, a', w', H⟩
    · exact .inl (oper_wp_to hK hQ H)
    · exact absurd H (hQ _ _ _ (by simp))
  · rw [if_neg hw] at H ⊢
    exact hK _ _ H
theorem J_region_any {id : Nat} {l : List Oper} {P : Program} (hm : P.follows .mixedOrders = true) (hP : k.P = P) (hn : l.length = n) (hs : Region.noSelect l.toArray = true)
    (hj : JXP k l.toArray n n (Array.replicate n false) 0 n Q ρ h) : J k (.region id l.toArray true) Q ρ h := by
  subst hn
  exact J_region_all hm hP rfl hs hj.get
theorem J_region_anyA {id : Nat} {l : List Oper} {P : Program} (hm : P.follows .mixedOrders = true) (hP : k.P = P) (hn : l.length = n) (hs : (Region.noSelect l.toArray && l.any fun o => allocB o.op) = true)
    (hj : JXP k l.toArray n n (Array.replicate n false) 0 n Q ρ h) : J k (.region id l.toArray true) Q ρ h := J_region_any hm hP hn (by simp only [Bool.and_eq_true] at hs; exact hs.1) hj
theorem jxp_move {x : Operand} {r : AV} (ho : ops[i]? = some ⟨some d, .move x, ty, pos, after, none⟩) (hc : mixOk ops listed ops.size i = true) (hx : evO ρ x = some r) (hd : Nat.blt d k.n = true)
    (hj : JXP k ops n f (listed.setIfInBounds i true) 0 n Q ((d, r) :: ρ) h) : JXP k ops n (f + 1) listed i (m + 1) Q ρ h := ⟨jx_move ho hc hx hd hj.get⟩
theorem jxp_assign {x : Operand} {r : AV} (ho : ops[i]? = some ⟨some d, .assign x, ty, pos, after, none⟩) (hc : mixOk ops listed ops.size i = true) (hx : evO ρ x = some r) (hd : Nat.blt d k.n = true)
    (hj : JXP k ops n f (listed.setIfInBounds i true) 0 n Q ((d, r) :: ρ) h) : JXP k ops n (f + 1) listed i (m + 1) Q ρ h := ⟨jx_assign ho hc hx hd hj.get⟩
theorem jxp_extract {x : Operand} {j : Nat} {vs : List AV} {r : AV} (ho : ops[i]? = some ⟨some d, .extract x j, ty, pos, after, none⟩) (hc : mixOk ops listed ops.size i = true) (hx : evO ρ x = some (.tup vs)) (hi : vs[j]? = some r) (hd : Nat.blt d k.n = true)
    (hj : JXP k ops n f (listed.setIfInBounds i true) 0 n Q ((d, r) :: ρ) h) : JXP k ops n (f + 1) listed i (m + 1) Q ρ h := ⟨jx_extract ho hc hx hi hd hj.get⟩
theorem jxp_next (hj : JXP k ops n f listed (i + 1) m Q ρ h) : JXP k ops n f listed i (m + 1) Q ρ h := ⟨hj.get⟩
theorem jxp_done (hr : Region.ready .any ops listed = []) (hj : Q .normal ρ h) : JXP k ops n 0 listed i m Q ρ h := ⟨jx_done hr hj⟩
theorem jxp_end (hne : (Region.ready .any ops listed).isEmpty = false) (hs : ops.size = n) (hj : JXS k ops n f listed 0 n Q ρ h) : JXP k ops n (f + 1) listed i 0 Q ρ h :=
  ⟨jxp_each (fun e => by rw [e] at hne; cases hne) fun j hr => by
    obtain ⟨_, o, ho, _⟩ := mem_ready.1 hr
    have := (Array.getElem?_eq_some_iff.1 ho).1
    exact hj.get j (Nat.zero_le _) (by omega) hr⟩
theorem jxs_nil (_ht : True) : JXS k ops n f listed i 0 Q ρ h := ⟨fun j h1 h2 => by omega⟩
theorem jxs_no (hc : (Region.ready .any ops listed).contains i = false) (hj : JXS k ops n f listed (i + 1) m Q ρ h) : JXS k ops n f listed i (m + 1) Q ρ h :=
  ⟨fun j h1 h2 hr => by
    by_cases e : j = i
    · subst e
      have : (Region.ready .any ops listed).contains j = true := by simpa using hr
      rw [this] at hc; cases hc
    · exact hj.get j (by omega) (by omega) hr⟩
theorem jxs_yes {o : Oper} (ho : ops[i]? = some o) (hd : JL k ops [o] (fun e ρ' h' => e = .normal ∧ JXP k ops n f (listed.setIfInBounds i true) 0 n Q ρ' h') ρ h) (hj : JXS k ops n f listed (i + 1) m Q ρ h) : JXS k ops n f listed i (m + 1) Q ρ h :=
  ⟨fun j h1 h2 hr => by
    by_cases e : j = i
    · subst e
      exact ⟨o, ho, hd⟩
    · exact hj.get j (by omega) (by omega) hr⟩
theorem jxs_yesT {dst : Option Tmp} {g : Option (Nat × Bool)} (ho : ops[i]? = some ⟨dst, op, ty, pos, after, g⟩) (hj : Two (JL k ops [⟨dst, op, ty, pos, after, g⟩] (fun e ρ' h' => e = .normal ∧ JXP k ops n f (listed.setIfInBounds i true) 0 n Q ρ' h') ρ h) (JXS k ops n f listed (i + 1) m Q ρ h)) : JXS k ops n f listed i (m + 1) Q ρ h := jxs_yes ho hj.fst hj.snd
theorem jxand {p : Prop} (hp : p) : Exit.normal = Exit.normal ∧ p := ⟨rfl, hp⟩
theorem jxp_nil (hj : JXP k ops n f listed i m Q ρ h) : JL k ops [] (fun e ρ' h' => e = .normal ∧ JXP k ops n f listed i m Q ρ' h') ρ h := JL_nil ⟨rfl, hj⟩
end
end Go.Av
