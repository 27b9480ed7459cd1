/-
  PLAIN, NO PROGRAM: the walk of a region whose order is open and that holds calls which make memory of their own (over Bd, Ar).
-/
import Derived.Test.YtffdlpjbbkhcnaaBd
import Derived.Test.YtffdlpjbbkhcnaaAr
namespace Go.Av
open Go

/-- The head falls into what has to come up (by number; true: its guard is known to hold), and the tail. -/
inductive Mix : List Oper → Nat → Nat → List (Nat × Bool) → List Oper → Prop where
  | nil {l : List Oper} {i : Nat} : Mix l 0 i [] l
  | cons {o : Oper} {l l2 : List Oper} {n i : Nat} {p : List (Nat × Bool)} (h : Mix l n (i + 1) p l2) : Mix (o :: l) (n + 1) i ((i, false) :: p) l2
theorem Mix.drop {l l2 : List Oper} {n i : Nat} {p : List (Nat × Bool)} (h : Mix l n i p l2) : l.drop n = l2 := by
  induction h with
  | nil => rfl
  | cons h ih => simpa using ih
inductive Rv {α : Type} : List α → List α → List α → Prop where
  | nil {r : List α} : Rv [] r r
  | cons {x : α} {l a r : List α} (h : Rv l (x :: a) r) : Rv (x :: l) a r
def storeB : Op → Bool
  | .store .. => true
  | .mapUpdate .. => true
  | _ => false
/-- A Go function is called that hands back more than a number or a truth. -/
def bigCall (P : Program) (o : Oper) : Bool :=
  match o.op with
  | .call c => (match c.callee with
    | .value (.func _) => (match P.underlying o.type with
      | some (.int _) => false
      | some .bool => false
      | some .string => false
      | _ => true)
    | _ => false)
  | _ => false
def mixShape (P : Program) (ops : Array Oper) (n : Nat) : Bool :=
  ops.any (bigCall P) && Region.noSelect ops && decide (n ≤ ops.size) && (decide (n = ops.size) || (Region.sinkB .any ops n && Region.chainB .any ops n)) && (ops.toList.take n).all fun o => !storeB o.op
def mixOk (ops : Array Oper) (listed : Array Bool) (n i : Nat) : Bool := (Region.ready .any ops listed).contains i && Region.free .any ops listed i && decide (i < n)
def onlyOk (ops : Array Oper) (listed : Array Bool) (n i : Nat) : Bool := decide (Region.ready .any ops listed = [i]) && decide (i < n)
/-- The judgement: the head's operations in whatever order, f of them still to come; then the tail. (s, pend, held only guide the walk.) -/
structure JE (k : Kx) (ops : Array Oper) (n f : Nat) (listed : Array Bool) (l2 : List Oper) (s : Nat) (pend held : List (Nat × Bool)) (Q : Exit → Env → H → Prop) (ρ : Env) (h : H) : Prop where
  get : mixShape k.P ops n = true → HeadInv .any ops n listed → ∀ I a w, Ok k.c I h w → SF k.n w I ρ a → a.defers = k.df →
    headH k.P .any ops (Same I h w) n (fun listed' a' w' => Region.seqB .any ops (ops.size - n) n listed' = true ∧ wpList k.P ops (lift k Q) l2 a' w') f listed a w

theorem mix_low {P : Program} {ops : Array Oper} {n : Nat} (hs : mixShape P ops n = true) {i : Nat} (hi : i < n) : ∀ listed, HeadInv .any ops n listed → i ∈ Region.ready .any ops listed → ∀ j ∈ Region.ready .any ops listed, j < n := by
  simp only [mixShape, Bool.and_eq_true, Bool.or_eq_true, decide_eq_true_eq] at hs
  obtain ⟨⟨⟨⟨_, hsel⟩, hle⟩, hor⟩, _⟩ := hs
  intro listed inv hr j hj
  rcases hor with hn | ⟨hs, hc⟩
  · obtain ⟨_, o, ho, _⟩ := mem_ready.1 hj
    rw [hn]; exact (Array.getElem?_eq_some_iff.1 ho).1
  · rcases Nat.lt_or_ge j n with h | h
    · exact h
    · obtain ⟨_, o, ho, _⟩ := mem_ready.1 hj
      have hlt := (Array.getElem?_eq_some_iff.1 ho).1
      exact absurd hj (tail_waits hs hc (by omega) inv _ i rfl hi (mem_ready.1 hr).1 j h)

section
variable {k : Kx} {Q : Exit → Env → H → Prop} {ρ ρ' : Env} {h h' : H} {ops : Array Oper} {listed : Array Bool} {l2 : List Oper} {n f s i d : Nat} {op : Op} {ty : TypeId} {pos : String} {after : Array Edge} {pend held : List (Nat × Bool)} {b : Bool}

theorem J_region_mix {id : Nat} {l l2 : List Oper} {p : List (Nat × Bool)} {P : Program} (t : Nat) (hm : P.follows .mixedOrders = true) (hP : k.P = P) (hn : l.length = n + t) (hs : mixShape P l.toArray n = true) (hx : Mix l n 0 p l2)
    (hj : JE k l.toArray n n (Array.replicate l.length false) l2 n p [] Q ρ h) : J k (.region id l.toArray true) Q ρ h := by
  subst hP
  intro I a w h1 h2 h3
  refine wp_region_any hm ?_
  have hsm : Same I h w { w with drawn := w.drawn + 1 } := ⟨rfl, rfl, rfl, Nat.le_refl _, fun _ _ => rfl⟩
  have inv0 : HeadInv .any l.toArray n (Array.replicate l.length false) :=
    ⟨by simp, fun j oj _ hl => (by rw [getD_replicate_false] at hl; cases hl), fun t _ ht => getD_in (by simpa using ht) (getD_replicate_false _ _)⟩
  have H := hj.get hs inv0 I a _ (h1.same hsm) (SF.same h1 hsm h2) h3
  have K := any_of_headH (Q := lift k Q) (g := l.length - n) (fun listed' a' w' hL => by
    have hd := hx.drop
    have := wpAny_of_seq (md := .any) (Q' := lift k Q) l2 n listed' a' w' (fun j => by rw [← hd]; simp [List.getElem?_drop]) (by
      have e : l2.length = l.toArray.size - n := by rw [← hd]; simp
      rw [e]; exact hL.1) hL.2
    have e : l2.length = l.length - n := by rw [← hd]; simp
    rwa [e] at this) _ _ _ _ H
  rw [show n + (l.length - n) = l.toArray.size by simp; omega] at K
  simpa using K

theorem mix_sel (hs : mixShape k.P ops n = true) : Region.noSelect ops = true := by
  simp only [mixShape, Bool.and_eq_true] at hs
  exact hs.1.1.1.2
theorem mix_done (hs : mixShape k.P ops n = true) : ∀ (listed : Array Bool) (a : Act) (w : World), (Region.seqB .any ops (ops.size - n) n listed = true ∧ wpList k.P ops (lift k Q) l2 a w) → ∀ j ∈ Region.ready .any ops listed, n ≤ j :=
  fun _ _ _ h => seqB_ready h.1

/-- One that only reads. -/
theorem je_take {o : Oper} {v : Value} {r : AV} (ho : ops[i]? = some o) (hc : mixOk ops listed n i = true) (hd : ∀ t, o.dst = some t → t < k.n)
    (hy : ∀ I a w, Ok k.c I h w → SF k.n w I ρ a → ∃ v, AV.rel w I r v ∧ YieldsIf k.P ops (Same I h w) o v a)
    (hj : JE k ops n f (listed.setIfInBounds i true) l2 s pend held Q (put ρ o.dst r) h) : JE k ops n (f + 1) listed l2 s ((i, b) :: pend) held Q ρ h := by
  refine ⟨fun hs inv I a w h1 h2 h3 => ?_⟩
  simp only [mixOk, Bool.and_eq_true, decide_eq_true_eq] at hc
  obtain ⟨⟨hr, hf⟩, hin⟩ := hc
  have hr' : i ∈ Region.ready .any ops listed := by simpa using hr
  obtain ⟨v, hv, hyv⟩ := hy I a w h1 h2
  exact headH_first ho (Region.noSelect_spec (mix_sel hs)) (mix_low hs hin) hin (mix_done hs) f listed a w inv (Region.free_spec ho hf) hr' hyv (Same.refl _ _ _)
    (hj.get hs (inv.set hr' hin) I _ w h1 (h2.put hd hv) (by rw [Act.defers_put]; exact h3))
theorem je_q {r : AV} (ho : ops[i]? = some ⟨some d, op, ty, pos, after, none⟩) (hc : mixOk ops listed n i = true) (hp : Pure k.P k.c.G ⟨some d, op, ty, pos, after, none⟩ ρ h r) (hd : Nat.blt d k.n = true)
    (hj : JE k ops n f (listed.setIfInBounds i true) l2 s pend held Q ((d, r) :: ρ) h) : JE k ops n (f + 1) listed l2 s ((i, false) :: pend) held Q ρ h :=
  je_take (v := undef) ho hc (fun t ht => by cases ht; exact blt hd) (fun I a w h1 h2 => by
    obtain ⟨v, hv, hrun⟩ := hp k.c I k.n a w rfl h1 h2
    exact ⟨v, hv, .inl ⟨by simp [Region.wanted], fun w' hw' => hrun w' hw'⟩⟩) hj
theorem je_qy {j dj : Nat} {want : Bool} {oj : Oper} {r : AV} (ho : ops[i]? = some ⟨some d, op, ty, pos, after, some (j, want)⟩) (hoj : ops[j]? = some oj) (hdj : oj.dst = some dj) (hr : get ρ dj = .val (.bool want)) (hn : Nat.blt dj k.n = true) (hc : mixOk ops listed n i = true)
    (hp : Pure k.P k.c.G ⟨some d, op, ty, pos, after, some (j, want)⟩ ρ h r) (hd : Nat.blt d k.n = true)
    (hj : JE k ops n f (listed.setIfInBounds i true) l2 s pend held Q ((d, r) :: ρ) h) : JE k ops n (f + 1) listed l2 s ((i, true) :: pend) held Q ρ h :=
  je_take (v := undef) ho hc (fun t ht => by cases ht; exact blt hd) (fun I a w h1 h2 => by
    obtain ⟨v, hv, hrun⟩ := hp k.c I k.n a w rfl h1 h2
    have hw := wanted_of (ops := ops) (o := ⟨some d, op, ty, pos, after, some (j, want)⟩) h2 rfl hoj hdj hr (blt hn)
    exact ⟨v, hv, .inl ⟨by rw [hw]; simp, fun w' hw' => hrun w' hw'⟩⟩) hj
theorem je_gn {j dj : Nat} {want : Bool} {oj : Oper} (ho : ops[i]? = some ⟨some d, op, ty, pos, after, some (j, want)⟩) (hoj : ops[j]? = some oj) (hdj : oj.dst = some dj) (hr : get ρ dj = .val (.bool (!want))) (hn : Nat.blt dj k.n = true) (hc : mixOk ops listed n i = true) (hd : Nat.blt d k.n = true)
    (hj : JE k ops n f (listed.setIfInBounds i true) l2 s pend held Q ((d, .val undef) :: ρ) h) : JE k ops n (f + 1) listed l2 s ((i, b) :: pend) held Q ρ h :=
  je_take (v := undef) ho hc (fun t ht => by cases ht; exact blt hd) (fun I a w h1 h2 => by
    have hw := wanted_of (ops := ops) (o := ⟨some d, op, ty, pos, after, some (j, want)⟩) h2 rfl hoj hdj hr (blt hn)
    exact ⟨undef, rfl, .inr ⟨by rw [hw]; cases want <;> simp, rfl⟩⟩) hj
theorem je_gu {j dj : Nat} {want : Bool} {oj : Oper} (ho : ops[i]? = some ⟨some d, op, ty, pos, after, some (j, want)⟩) (hoj : ops[j]? = some oj) (hdj : oj.dst = some dj) (hr : get ρ dj = .val undef) (hc : mixOk ops listed n i = true) (hd : Nat.blt d k.n = true)
    (hj : JE k ops n f (listed.setIfInBounds i true) l2 s pend held Q ((d, .val undef) :: ρ) h) : JE k ops n (f + 1) listed l2 s ((i, false) :: pend) held Q ρ h :=
  je_take (v := undef) ho hc (fun t ht => by cases ht; exact blt hd) (fun I a w h1 h2 => by
    have hw := wanted_undef (ops := ops) (o := ⟨some d, op, ty, pos, after, some (j, want)⟩) h2 rfl hoj hdj hr
    exact ⟨undef, rfl, .inr ⟨by rw [hw], rfl⟩⟩) hj
theorem JE_le (hle : Env.le ρ ρ') (hj : JE k ops n f listed l2 s pend held Q ρ' h) : JE k ops n f listed l2 s pend held Q ρ h := ⟨fun hs inv I a w h1 h2 h3 => hj.get hs inv I a w h1 (h2.le hle) h3⟩
/-- A guard that holds or not. -/
theorem je_gt {j dj : Nat} {c : Bool} {oj : Oper} (ho : ops[i]? = some ⟨some d, op, ty, pos, after, some (j, true)⟩) (hoj : ops[j]? = some oj) (hdj : oj.dst = some dj) (hr : get ρ dj = .val (.bool c)) (hn : Nat.blt dj k.n = true) (hc : mixOk ops listed n i = true) (hd : Nat.blt d k.n = true)
    (hb : CB c (JE k ops n (f + 1) listed l2 s ((i, true) :: pend) held Q ((dj, .bool true) :: ρ) h) (JE k ops n f (listed.setIfInBounds i true) l2 s pend held Q ((d, .val undef) :: (dj, .bool false) :: ρ) h)) : JE k ops n (f + 1) listed l2 s ((i, false) :: pend) held Q ρ h := by
  cases c with
  | true => exact JE_le (Env.le_cons (AV.le_of_eq hr) (Env.le_refl _)) ⟨(hb.1 rfl).get⟩
  | false => exact JE_le (Env.le_cons (AV.le_of_eq hr) (Env.le_refl _)) (je_gn (want := true) ho hoj hdj (by simp [get]) hn hc hd (hb.2 rfl))
theorem je_gf {j dj : Nat} {c : Bool} {oj : Oper} (ho : ops[i]? = some ⟨some d, op, ty, pos, after, some (j, false)⟩) (hoj : ops[j]? = some oj) (hdj : oj.dst = some dj) (hr : get ρ dj = .val (.bool c)) (hn : Nat.blt dj k.n = true) (hc : mixOk ops listed n i = true) (hd : Nat.blt d k.n = true)
    (hb : CB c (JE k ops n f (listed.setIfInBounds i true) l2 s pend held Q ((d, .val undef) :: (dj, .bool true) :: ρ) h) (JE k ops n (f + 1) listed l2 s ((i, true) :: pend) held Q ((dj, .bool false) :: ρ) h)) : JE k ops n (f + 1) listed l2 s ((i, false) :: pend) held Q ρ h := by
  cases c with
  | true => exact JE_le (Env.le_cons (AV.le_of_eq hr) (Env.le_refl _)) (je_gn (want := false) ho hoj hdj (by simp [get]) hn hc hd (hb.1 rfl))
  | false => exact JE_le (Env.le_cons (AV.le_of_eq hr) (Env.le_refl _)) ⟨(hb.2 rfl).get⟩
theorem je_hold (_hc : onlyOk ops listed n i = false) (hj : JE k ops n f listed l2 s pend ((i, b) :: held) Q ρ h) : JE k ops n f listed l2 s ((i, b) :: pend) held Q ρ h := ⟨hj.get⟩
theorem je_swap {q : Nat × Bool} {p : List (Nat × Bool)} (_hp : Rv (q :: held) [] p) (hj : JE k ops n f listed l2 s p [] Q ρ h) : JE k ops n f listed l2 (s + 1) [] (q :: held) Q ρ h := ⟨hj.get⟩
theorem je_done (hc : Region.seqB .any ops (ops.size - n) n listed = true) (hj : JL k ops l2 Q ρ h) : JE k ops n 0 listed l2 s [] [] Q ρ h := ⟨fun _ _ I a w h1 h2 h3 => ⟨hc, hj I a w h1 h2 h3⟩⟩

theorem Same.step {I I' : Nat → Prop} {h h' : H} {w w' : World} (s : Same I h w w') : ∀ u, Same I' h' w' u → Same I h w u := fun _ t => ⟨t.os.trans s.os, t.tape.trans s.tape, t.output.trans s.output, Nat.le_trans s.size t.size, fun b hb => (t.block b (Nat.lt_of_lt_of_le hb s.size)).trans (s.block b hb)⟩
/-- A call that is handed nothing to write on, where nothing else can come. -/
theorem je_callG {f' : FuncId} {xs : Array Operand} {ats : Array TypeId} {args : List AV} {R : AE → H → Prop} (ho : ops[i]? = some ⟨some d, .call { callee := .value (.func f'), args := xs, argTypes := ats }, ty, pos, after, none⟩) (hc : onlyOk ops listed n i = true)
    (hargs : evsO ρ xs.toList = some args) (hcal : Cal k.P f') (hac : AC k.P k.c.G f' args [] R) (hd : Nat.blt d k.n = true) (hnp : ∀ ch h', ¬ R (.pan ch) h')
    (hret : ∀ r h', R (.ret r) h' → JE k ops n f (listed.setIfInBounds i true) l2 s pend held Q ((d, r) :: ρ) (h' ++ h)) : JE k ops n (f + 1) listed l2 s ((i, b) :: pend) held Q ρ h := by
  refine ⟨fun hs inv I a w h1 h2 h3 => ?_⟩
  simp only [onlyOk, Bool.and_eq_true, decide_eq_true_eq] at hc
  obtain ⟨hr, hin⟩ := hc
  have hr' : i ∈ Region.ready .any ops listed := by rw [hr]; simp
  refine ⟨by rw [hr]; simp, fun j hj => ?_⟩
  rw [hr] at hj
  obtain rfl : j = i := by simpa using hj
  refine ⟨hin, ?_⟩
  unfold wpOp
  rw [ho]
  dsimp only
  rw [if_pos (by simp [Region.wanted])]
  refine .inl ?_
  unfold Oper.wp
  rw [execOp_call_go, hcal]
  simp only [Oper.upon]
  have hargs' : (#[] ++ xs.map a.eval ++ #[] : Array Value) = (xs.toList.map a.eval).toArray := by
    apply Array.ext'; simp
  rw [hargs']
  have hrels : AV.rels w I args (xs.toList.map a.eval) := by rw [← evs_of_evsO hargs]; exact rels_evs h2 xs.toList
  refine (hac I w _ (by simp) (by simp [blks]) (fun b hb => ⟨(h1.imm b hb).1, by simp [blks]⟩) (fun q hq => h1.glob q hq) hrels).mono ?_
  rintro e w' ⟨r, h', I', hR, hok, hrel⟩
  have k0 : Ok k.c I ([] ++ h) w := h1
  obtain ⟨k1, k2⟩ := Ok.call (hc := []) (hr := h) k0 hok
  have hsm : Same I h w w' := ⟨hok.os, hok.tape, hok.output, hok.size, fun b hb => hok.keep b hb (by simp [blks])⟩
  have hsf : SF k.n w' I' ρ a := h2.mono k2 (fun b hb => hok.sup b hb)
  cases r with
  | ret r =>
    cases e with
    | returned v => exact ⟨hsm, headH_mono hsm.step _ _ _ _ ((hret r h' hR).get hs (inv.set hr' hin) I' _ w' k1 (hsf.put (fun t ht => by cases ht; exact blt hd) hrel) (by rw [Act.defers_put]; exact h3))⟩
    | panicked ch => exact hrel.elim
    | outgrown => exact hrel.elim
  | pan ch => exact absurd hR (hnp ch h')
theorem je_call0 {f' : FuncId} {xs : Array Operand} {ats : Array TypeId} {args : List AV} {r : AV} (ho : ops[i]? = some ⟨some d, .call { callee := .value (.func f'), args := xs, argTypes := ats }, ty, pos, after, none⟩) (hc : onlyOk ops listed n i = true)
    (hargs : evsO ρ xs.toList = some args) (hcal : Cal k.P f') (hac : ACr k.P k.c.G f' args r) (hd : Nat.blt d k.n = true)
    (hj : JE k ops n f (listed.setIfInBounds i true) l2 s pend held Q ((d, r) :: ρ) h) : JE k ops n (f + 1) listed l2 s ((i, b) :: pend) held Q ρ h :=
  je_callG ho hc hargs hcal hac hd (fun ch h' hq => by cases hq.1) fun r' h' hq => by obtain ⟨e1, e2⟩ := hq; cases e1; subst e2; exact hj
theorem je_callE {β : Type} {X : β → AV} {en : β → Ent} {f' : FuncId} {xs : Array Operand} {ats : Array TypeId} {args : List AV} (ho : ops[i]? = some ⟨some d, .call { callee := .value (.func f'), args := xs, argTypes := ats }, ty, pos, after, none⟩) (hc : onlyOk ops listed n i = true)
    (hargs : evsO ρ xs.toList = some args) (hcal : Cal k.P f') (hac : AC k.P k.c.G f' args [] fun r h => ∃ v, r = .ret (X v) ∧ h = [en v]) (hd : Nat.blt d k.n = true)
    (hj : All fun v => JE k ops n f (listed.setIfInBounds i true) l2 s pend held Q ((d, X v) :: ρ) (en v :: h)) : JE k ops n (f + 1) listed l2 s ((i, b) :: pend) held Q ρ h :=
  je_callG ho hc hargs hcal hac hd (fun ch h' hq => by obtain ⟨v, e1, _⟩ := hq; cases e1) fun r' h' hq => by obtain ⟨v, e1, e2⟩ := hq; cases e1; subst e2; exact hj.get v
end
/-! ### Rows whose value is told as a slice -/
structure Sl where
  ad : Option Addr
  n : Nat
  c : Nat
abbrev Sl.v (q : Sl) : Value := .slice q.ad q.n q.c
abbrev Sl.nil : Sl := ⟨none, 0, 0⟩
section
variable {k : Kx} {Q : Exit → Env → H → Prop} {ρ ρ' : Env} {h h' h1 h2 : H} {ops : Array Oper} {l : List Oper} {d : Nat} {ty : TypeId} {pos : String} {after : Array Edge} {e1 e2 e3 e4 : Ent}
theorem JL_slice {v : Value} {n : Nat} {E : TypeId} {sz : Nat} {xs : List AV} (hh : h = h1 ++ .row v n E sz xs :: h2) (hj : ∀ q : Sl, v = q.v → JL k ops l Q ρ h) : JL k ops l Q ρ h := by
  intro I a w k1 k2 k3
  obtain ⟨os, ho, _⟩ := k1.ent (.row v n E sz xs) (by rw [hh]; simp)
  rcases ho.2 with ⟨rfl, _⟩ | ⟨g, cap, cur, rfl, _⟩
  · exact hj ⟨none, 0, 0⟩ rfl I a w k1 k2 k3
  · exact hj ⟨some ⟨g, 0, none⟩, n, cap⟩ rfl I a w k1 k2 k3
/-- append(row, more...), wherever the row stands. -/
theorem jappG {α : Type} {f : α → List D} {xs ys : List α} {T E : TypeId} {x y : Operand} {z : Value} {sz eb eb' : Nat} {v : Value} (hx : evO ρ x = some (.val v)) (hh : h = h1 ++ rowE v E sz f xs :: h2) (hy : evO ρ y = some (.d (.l sz eb' (ys.map f)))) (hT : k.P.underlying T = some (.slice E)) (he : El k.P E z sz eb) (hz : z.cells.size = sz) (h0 : Nat.blt 0 sz = true)
    (hd : Nat.blt d k.n = true) (hb : (xs.length + ys.length) * eb ≤ 140737488355328) (hm : xs.length + ys.length ≤ 140737488355328)
    (hj : ∀ q : Sl, JL k ops l Q ((d, .val q.v) :: ρ) (h1 ++ rowE q.v E sz f (xs ++ ys) :: h2)) :
    JL k ops (⟨some d, .call { callee := .builtin .append, args := #[x, y], argTypes := #[T, T] }, ty, pos, after, none⟩ :: l) Q ρ h := by
  refine JL_append (h1 := h1) (h2 := h2) (n := xs.length) (rows := ys.map f) hT he hz (blt h0) (ev_of_evO hx) (ev_of_evO hy) hh (by simpa using hb) (by simpa using hm) (fun t ht => by cases ht; exact blt hd) fun v' => ?_
  refine JL_slice (h1 := h1) (h2 := h2) rfl fun q hq => ?_
  subst hq
  have := hj q
  rw [rows_flat_snoc]
  unfold rowE at this
  rw [List.length_append] at this
  rw [List.length_map]
  exact this
theorem japS0 {α : Type} {f : α → List D} {xs ys : List α} {T E : TypeId} {x y : Operand} {z : Value} {sz eb eb' : Nat} {v : Value} (hx : evO ρ x = some (.val v)) (hy : evO ρ y = some (.d (.l sz eb' (ys.map f)))) (hT : k.P.underlying T = some (.slice E)) (he : El k.P E z sz eb) (hz : z.cells.size = sz) (h0 : Nat.blt 0 sz = true)
    (hd : Nat.blt d k.n = true) (hb : (xs.length + ys.length) * eb ≤ 140737488355328) (hm : xs.length + ys.length ≤ 140737488355328) (hj : All fun q : Sl => JL k ops l Q ((d, .val q.v) :: ρ) (rowE q.v E sz f (xs ++ ys) :: h2)) :
    JL k ops (⟨some d, .call { callee := .builtin .append, args := #[x, y], argTypes := #[T, T] }, ty, pos, after, none⟩ :: l) Q ρ (rowE v E sz f xs :: h2) := jappG (h1 := []) hx rfl hy hT he hz h0 hd hb hm hj.get
theorem japS1 {α : Type} {f : α → List D} {xs ys : List α} {T E : TypeId} {x y : Operand} {z : Value} {sz eb eb' : Nat} {v : Value} (hx : evO ρ x = some (.val v)) (hy : evO ρ y = some (.d (.l sz eb' (ys.map f)))) (hT : k.P.underlying T = some (.slice E)) (he : El k.P E z sz eb) (hz : z.cells.size = sz) (h0 : Nat.blt 0 sz = true)
    (hd : Nat.blt d k.n = true) (hb : (xs.length + ys.length) * eb ≤ 140737488355328) (hm : xs.length + ys.length ≤ 140737488355328) (hj : All fun q : Sl => JL k ops l Q ((d, .val q.v) :: ρ) (e1 :: rowE q.v E sz f (xs ++ ys) :: h2)) :
    JL k ops (⟨some d, .call { callee := .builtin .append, args := #[x, y], argTypes := #[T, T] }, ty, pos, after, none⟩ :: l) Q ρ (e1 :: rowE v E sz f xs :: h2) := jappG (h1 := [e1]) hx rfl hy hT he hz h0 hd hb hm hj.get
theorem japS2 {α : Type} {f : α → List D} {xs ys : List α} {T E : TypeId} {x y : Operand} {z : Value} {sz eb eb' : Nat} {v : Value} (hx : evO ρ x = some (.val v)) (hy : evO ρ y = some (.d (.l sz eb' (ys.map f)))) (hT : k.P.underlying T = some (.slice E)) (he : El k.P E z sz eb) (hz : z.cells.size = sz) (h0 : Nat.blt 0 sz = true)
    (hd : Nat.blt d k.n = true) (hb : (xs.length + ys.length) * eb ≤ 140737488355328) (hm : xs.length + ys.length ≤ 140737488355328) (hj : All fun q : Sl => JL k ops l Q ((d, .val q.v) :: ρ) (e1 :: e2 :: rowE q.v E sz f (xs ++ ys) :: h2)) :
    JL k ops (⟨some d, .call { callee := .builtin .append, args := #[x, y], argTypes := #[T, T] }, ty, pos, after, none⟩ :: l) Q ρ (e1 :: e2 :: rowE v E sz f xs :: h2) := jappG (h1 := [e1, e2]) hx rfl hy hT he hz h0 hd hb hm hj.get
theorem japS3 {α : Type} {f : α → List D} {xs ys : List α} {T E : TypeId} {x y : Operand} {z : Value} {sz eb eb' : Nat} {v : Value} (hx : evO ρ x = some (.val v)) (hy : evO ρ y = some (.d (.l sz eb' (ys.map f)))) (hT : k.P.underlying T = some (.slice E)) (he : El k.P E z sz eb) (hz : z.cells.size = sz) (h0 : Nat.blt 0 sz = true)
    (hd : Nat.blt d k.n = true) (hb : (xs.length + ys.length) * eb ≤ 140737488355328) (hm : xs.length + ys.length ≤ 140737488355328) (hj : All fun q : Sl => JL k ops l Q ((d, .val q.v) :: ρ) (e1 :: e2 :: e3 :: rowE q.v E sz f (xs ++ ys) :: h2)) :
    JL k ops (⟨some d, .call { callee := .builtin .append, args := #[x, y], argTypes := #[T, T] }, ty, pos, after, none⟩ :: l) Q ρ (e1 :: e2 :: e3 :: rowE v E sz f xs :: h2) := jappG (h1 := [e1, e2, e3]) hx rfl hy hT he hz h0 hd hb hm hj.get
/-- append(row, one). -/
theorem japO0 {α : Type} {f : α → List D} {xs : List α} {u : α} {T E : TypeId} {x y : Operand} {z : Value} {sz eb eb' : Nat} {v : Value} (hx : evO ρ x = some (.val v)) (hy : evO ρ y = some (.d (.l sz eb' [f u]))) (hT : k.P.underlying T = some (.slice E)) (he : El k.P E z sz eb) (hz : z.cells.size = sz) (h0 : Nat.blt 0 sz = true)
    (hd : Nat.blt d k.n = true) (hb : (xs.length + 1) * eb ≤ 140737488355328) (hm : xs.length + 1 ≤ 140737488355328) (hj : All fun q : Sl => JL k ops l Q ((d, .val q.v) :: ρ) (rowE q.v E sz f (xs ++ [u]) :: h2)) :
    JL k ops (⟨some d, .call { callee := .builtin .append, args := #[x, y], argTypes := #[T, T] }, ty, pos, after, none⟩ :: l) Q ρ (rowE v E sz f xs :: h2) := japS0 (ys := [u]) hx hy hT he hz h0 hd hb hm hj
theorem japO1 {α : Type} {f : α → List D} {xs : List α} {u : α} {T E : TypeId} {x y : Operand} {z : Value} {sz eb eb' : Nat} {v : Value} (hx : evO ρ x = some (.val v)) (hy : evO ρ y = some (.d (.l sz eb' [f u]))) (hT : k.P.underlying T = some (.slice E)) (he : El k.P E z sz eb) (hz : z.cells.size = sz) (h0 : Nat.blt 0 sz = true)
    (hd : Nat.blt d k.n = true) (hb : (xs.length + 1) * eb ≤ 140737488355328) (hm : xs.length + 1 ≤ 140737488355328) (hj : All fun q : Sl => JL k ops l Q ((d, .val q.v) :: ρ) (e1 :: rowE q.v E sz f (xs ++ [u]) :: h2)) :
    JL k ops (⟨some d, .call { callee := .builtin .append, args := #[x, y], argTypes := #[T, T] }, ty, pos, after, none⟩ :: l) Q ρ (e1 :: rowE v E sz f xs :: h2) := japS1 (ys := [u]) hx hy hT he hz h0 hd hb hm hj
theorem japO2 {α : Type} {f : α → List D} {xs : List α} {u : α} {T E : TypeId} {x y : Operand} {z : Value} {sz eb eb' : Nat} {v : Value} (hx : evO ρ x = some (.val v)) (hy : evO ρ y = some (.d (.l sz eb' [f u]))) (hT : k.P.underlying T = some (.slice E)) (he : El k.P E z sz eb) (hz : z.cells.size = sz) (h0 : Nat.blt 0 sz = true)
    (hd : Nat.blt d k.n = true) (hb : (xs.length + 1) * eb ≤ 140737488355328) (hm : xs.length + 1 ≤ 140737488355328) (hj : All fun q : Sl => JL k ops l Q ((d, .val q.v) :: ρ) (e1 :: e2 :: rowE q.v E sz f (xs ++ [u]) :: h2)) :
    JL k ops (⟨some d, .call { callee := .builtin .append, args := #[x, y], argTypes := #[T, T] }, ty, pos, after, none⟩ :: l) Q ρ (e1 :: e2 :: rowE v E sz f xs :: h2) := japS2 (ys := [u]) hx hy hT he hz h0 hd hb hm hj
/-- A literal of nothing, as a row. -/
theorem jbuild0S {α : Type} (f : α → List D) {T E : TypeId} {z : Value} {sz eb : Nat} (hT : k.P.underlying T = some (.slice E)) (he : El k.P E z sz eb) (hd : Nat.blt d k.n = true)
    (hj : All fun q : Sl => JL k ops l Q ((d, .val q.v) :: ρ) (rowE q.v E sz f [] :: h)) : JL k ops (⟨some d, .buildSlice T 0 #[], ty, pos, after, none⟩ :: l) Q ρ h :=
  jbuild0 f hT he hd ⟨fun v => JL_slice (h1 := []) rfl fun q e => by subst e; exact hj.get q⟩
theorem jrow_byte4S {T E : TypeId} {x0 x1 x2 x3 : Operand} {b0 b1 b2 b3 : UInt8} {z : Value} (h0 : evO ρ x0 = some (AV.byte b0)) (h1 : evO ρ x1 = some (AV.byte b1)) (h2 : evO ρ x2 = some (AV.byte b2)) (h3 : evO ρ x3 = some (AV.byte b3)) (hT : k.P.underlying T = some (.slice E)) (he : El k.P E z 1 1)
    (hd : Nat.blt d k.n = true) (hj : All fun q : Sl => JL k ops l Q ((d, .val q.v) :: ρ) (rowE q.v E 1 byteC [b0, b1, b2, b3] :: h)) : JL k ops (⟨some d, .buildSlice T 4 #[(0, x0), (1, x1), (2, x2), (3, x3)], ty, pos, after, none⟩ :: l) Q ρ h :=
  jrow_byte4 h0 h1 h2 h3 hT he hd ⟨fun v => JL_slice (h1 := []) rfl fun q e => by subst e; exact hj.get q⟩
end
end Go.Av
