/-
  PLAIN, NO PROGRAM: a small logic over values: what a slot holds is told as data (immutable slices as lists), what the call itself made and still writes is told block by block.
  Conditions: none; every rule is a theorem over whatever program.
-/
import Derived.WalkKit
import Derived.Deep.QuietTactic
import Derived.StillTailTactics
import Derived.DataElems
namespace Go.Av
open Go

/-- Data of one cell, as it lies in memory that nobody writes. -/
inductive D where
  | i (k : IntKind) (n : Int)
  | b (x : Bool)
  | s (x : ByteArray)
  | l (sz eb : Nat) (rows : List (List D))

inductive Rel (w : World) (I : Nat → Prop) : D → Value → Prop where
  | i (k : IntKind) (n : Int) : Rel w I (.i k n) (.int k n)
  | b (x : Bool) : Rel w I (.b x) (.bool x)
  | s (x : ByteArray) : Rel w I (.s x) (.string x)
  | nil (sz eb : Nat) : Rel w I (.l sz eb []) (.slice none 0 0)
  | emp (sz eb : Nat) (ad : Addr) : Rel w I (.l sz eb []) (.slice (some ad) 0 0)
  | l (sz eb : Nat) (rows : List (List D)) (ad : Addr) (cap : Nat) (css : Nat → Nat → Value)
      (hI : I ad.block) (hcap : rows.length ≤ cap) (hm : cap ≤ maxLen) (hb : rows.length * eb ≤ 140737488355328)
      (hsz : ∀ r ∈ rows, r.length = sz)
      (hc : ∀ (j u : Nat) (r : List D) (x : D), rows[j]? = some r → r[u]? = some x → w.cell? (ad.add (j * sz + u)) = some (css j u))
      (hr : ∀ (j u : Nat) (r : List D) (x : D), rows[j]? = some r → r[u]? = some x → Rel w I x (css j u)) :
      Rel w I (.l sz eb rows) (.slice (some ad) rows.length cap)

theorem Rel.mono {w w' : World} {I I' : Nat → Prop} (hw : ∀ b, I b → w'.heap[b]? = w.heap[b]?) (hI : ∀ b, I b → I' b) {x : D} {v : Value} (h : Rel w I x v) : Rel w' I' x v := by
  induction h with
  | i k n => exact .i k n
  | b x => exact .b x
  | s x => exact .s x
  | nil sz eb => exact .nil sz eb
  | emp sz eb ad => exact .emp sz eb ad
  | l sz eb rows ad cap css hI0 hcap hm hb hsz hc hr ih =>
    refine .l sz eb rows ad cap css (hI _ hI0) hcap hm hb hsz (fun j u r x h1 h2 => ?_) ih
    rw [World.cell?_of_block (w := w)]
    · exact hc j u r x h1 h2
    · have : (ad.add (j * sz + u)).block = ad.block := by unfold Addr.add; split <;> rfl
      rw [this]; exact hw _ hI0

theorem Rel.oneCell {w : World} {I : Nat → Prop} {x : D} {v : Value} (h : Rel w I x v) : v.oneCell' = true := by cases h <;> rfl

/-- What a slot holds. -/
inductive AV where
  | any
  | val (v : Value)
  | d (x : D)
  | pd (cs : List D)
  | agg (cs : List AV)
  | tup (vs : List AV)

abbrev AV.int (n : Int) : AV := .val (.int .i64 n)
abbrev AV.bool (b : Bool) : AV := .val (.bool b)

def PD (w : World) (I : Nat → Prop) (cs : List D) (ad : Addr) : Prop :=
  I ad.block ∧ ∀ (u : Nat) (x : D), cs[u]? = some x → ∃ c, w.cell? (ad.add u) = some c ∧ Rel w I x c

mutual
def AV.rel (w : World) (I : Nat → Prop) : AV → Value → Prop
  | .any, _ => True
  | .val u, v => v = u
  | .d x, v => Rel w I x v
  | .pd cs, v => ∃ ad, v = .pointer (some ad) ∧ PD w I cs ad
  | .agg cs, v => ∃ vs : List Value, v = .agg vs.toArray ∧ AV.rels w I cs vs
  | .tup cs, v => ∃ vs : List Value, v = .tuple vs.toArray ∧ AV.rels w I cs vs
def AV.rels (w : World) (I : Nat → Prop) : List AV → List Value → Prop
  | [], [] => True
  | x :: xs, v :: vs => AV.rel w I x v ∧ AV.rels w I xs vs
  | _, _ => False
end

theorem PD.mono {w w' : World} {I I' : Nat → Prop} (hw : ∀ b, I b → w'.heap[b]? = w.heap[b]?) (hI : ∀ b, I b → I' b) {cs : List D} {ad : Addr} (h : PD w I cs ad) : PD w' I' cs ad := by
  refine ⟨hI _ h.1, fun u x hx => ?_⟩
  obtain ⟨c, h1, h2⟩ := h.2 u x hx
  refine ⟨c, ?_, h2.mono hw hI⟩
  rw [World.cell?_of_block (w := w)]
  · exact h1
  · have : (ad.add u).block = ad.block := by unfold Addr.add; split <;> rfl
    rw [this]; exact hw _ h.1

mutual
theorem AV.rel_mono {w w' : World} {I I' : Nat → Prop} (hw : ∀ b, I b → w'.heap[b]? = w.heap[b]?) (hI : ∀ b, I b → I' b) : ∀ {x : AV} {v : Value}, AV.rel w I x v → AV.rel w' I' x v
  | .any, _, _ => trivial
  | .val _, _, h => h
  | .d _, _, h => Rel.mono hw hI h
  | .pd _, _, ⟨ad, h1, h2⟩ => ⟨ad, h1, h2.mono hw hI⟩
  | .agg _, _, ⟨vs, h1, h2⟩ => ⟨vs, h1, AV.rels_mono hw hI h2⟩
  | .tup _, _, ⟨vs, h1, h2⟩ => ⟨vs, h1, AV.rels_mono hw hI h2⟩
theorem AV.rels_mono {w w' : World} {I I' : Nat → Prop} (hw : ∀ b, I b → w'.heap[b]? = w.heap[b]?) (hI : ∀ b, I b → I' b) : ∀ {xs : List AV} {vs : List Value}, AV.rels w I xs vs → AV.rels w' I' xs vs
  | [], [], _ => trivial
  | _ :: _, _ :: _, ⟨h1, h2⟩ => ⟨AV.rel_mono hw hI h1, AV.rels_mono hw hI h2⟩
end

theorem AV.rels_length {w : World} {I : Nat → Prop} : ∀ {xs : List AV} {vs : List Value}, AV.rels w I xs vs → xs.length = vs.length
  | [], [], _ => rfl
  | _ :: _, _ :: _, ⟨_, h2⟩ => by simp [AV.rels_length h2]

theorem AV.rels_get {w : World} {I : Nat → Prop} : ∀ {xs : List AV} {vs : List Value}, AV.rels w I xs vs → ∀ (j : Nat) (x : AV), xs[j]? = some x → ∃ v, vs[j]? = some v ∧ AV.rel w I x v
  | [], [], _, _, _, h => by simp at h
  | x :: xs, v :: vs, ⟨h1, h2⟩, j, y, h => by
    cases j with
    | zero => simp at h; subst h; exact ⟨v, rfl, h1⟩
    | succ j => simpa using AV.rels_get h2 j y (by simpa using h)

theorem AV.rels_append {w : World} {I : Nat → Prop} : ∀ {xs ys : List AV} {vs us : List Value}, AV.rels w I xs vs → AV.rels w I ys us → AV.rels w I (xs ++ ys) (vs ++ us)
  | [], _, [], _, _, h => h
  | _ :: _, _, _ :: _, _, ⟨h1, h2⟩, h => ⟨h1, AV.rels_append h2 h⟩

/-- The slots that are known. -/
abbrev Env := List (Nat × AV)
def get : Env → Nat → AV
  | [], _ => .any
  | (k, v) :: r, t => bif Nat.beq k t then v else get r t
def ev (ρ : Env) : Operand → AV
  | .tmp t => get ρ t
  | .const v => .val v
  | .global g => .val (.pointer (some ⟨g, 0, none⟩))
  | .func f => .val (.func (.func f) #[] #[])
def put (ρ : Env) (t : Option Tmp) (v : AV) : Env := match t with | some t => (t, v) :: ρ | none => ρ

/-- What the call itself made (or was handed to write), and what lies in it. -/
inductive Ent where
  | cells (b : Nat) (T : TypeId) (vs : List AV)
  | row (v : Value) (n : Nat) (T : TypeId) (sz : Nat) (l : List AV)
  | raw (b : Nat) (o : Obj)
abbrev H := List Ent

def Ent.blk : Ent → Option Nat
  | .cells b _ _ => some b
  | .row v _ _ _ _ => v.ownBlock
  | .raw b _ => some b
def Ent.rel (w : World) (I : Nat → Prop) : Ent → Prop
  | .cells b T vs => ∃ cs : Array Value, w.heap[b]? = some (.cells cs T (0, 0)) ∧ AV.rels w I vs cs.toList
  | .row v n T sz l => ∃ xs, w.ownsRow 0 T sz v n xs ∧ AV.rels w I l xs
  | .raw b o => w.heap[b]? = some o
def blks (h : H) : List Nat := h.filterMap Ent.blk

theorem Ent.rel_mono {w w' : World} {I I' : Nat → Prop} (hw : ∀ b, I b → w'.heap[b]? = w.heap[b]?) (hI : ∀ b, I b → I' b) {e : Ent} (hb : ∀ b, e.blk = some b → w'.heap[b]? = w.heap[b]?) (h : e.rel w I) : e.rel w' I' := by
  cases e with
  | cells b T vs => obtain ⟨cs, h1, h2⟩ := h; exact ⟨cs, (hb b rfl).trans h1, AV.rels_mono hw hI h2⟩
  | row v n T sz l =>
    obtain ⟨xs, h1, h2⟩ := h
    refine ⟨xs, ⟨h1.1, ?_⟩, AV.rels_mono hw hI h2⟩
    rcases h1.2 with h3 | ⟨g, cap, cur, rfl, hbase, hg, r⟩
    · exact .inl h3
    · exact .inr ⟨g, cap, cur, rfl, hbase, (hb g rfl).trans hg, r⟩
  | raw b o => exact (hb b rfl).trans h

theorem Ent.blk_lt {w : World} {I : Nat → Prop} {e : Ent} (h : e.rel w I) {b : Nat} (hb : e.blk = some b) : b < w.heap.size := by
  have key : ∀ o, w.heap[b]? = some o → b < w.heap.size := fun o ho => (Array.getElem?_eq_some_iff.1 ho).1
  cases e with
  | cells b' T vs => cases hb; obtain ⟨cs, h1, _⟩ := h; exact key _ h1
  | row v n T sz l => obtain ⟨xs, h1, _⟩ := h; exact (h1.lt b hb).2
  | raw b' o => cases hb; exact key _ h

/-- The context of a call: the world in which it began, what was readable then, what it was handed to write. -/
structure Cx where
  W : World
  I0 : Nat → Prop
  E : List Nat
  /-- package-level tables that nobody writes -/
  G : List (Nat × List D)

structure Ok (c : Cx) (I : Nat → Prop) (h : H) (w : World) : Prop where
  ent : ∀ e ∈ h, e.rel w I
  nd : (blks h).Nodup
  imm : ∀ b, I b → b < w.heap.size ∧ b ∉ blks h
  new : ∀ b ∈ blks h, b ∈ c.E ∨ c.W.heap.size ≤ b
  inew : ∀ b, I b → c.I0 b ∨ b ∈ c.E ∨ c.W.heap.size ≤ b
  sup : ∀ b, c.I0 b → I b
  os : w.os = c.W.os
  tape : w.tape = c.W.tape
  output : w.output = c.W.output
  size : c.W.heap.size ≤ w.heap.size
  keep : ∀ b, b < c.W.heap.size → b ∉ c.E → w.heap[b]? = c.W.heap[b]?
  glob : ∀ q ∈ c.G, PD w I q.2 ⟨q.1, 0, none⟩

def SF (n : Nat) (w : World) (I : Nat → Prop) (ρ : Env) (a : Act) : Prop := a.tmps.size = n ∧ ∀ t, AV.rel w I (get ρ t) (a.tmps.getD t undef)

theorem SF.mono {n : Nat} {w w' : World} {I I' : Nat → Prop} {ρ : Env} {a : Act} (hw : ∀ b, I b → w'.heap[b]? = w.heap[b]?) (hI : ∀ b, I b → I' b) (h : SF n w I ρ a) : SF n w' I' ρ a :=
  ⟨h.1, fun t => AV.rel_mono hw hI (h.2 t)⟩

theorem SF.ev {n : Nat} {w : World} {I : Nat → Prop} {ρ : Env} {a : Act} (h : SF n w I ρ a) (x : Operand) : AV.rel w I (ev ρ x) (a.eval x) := by
  cases x with
  | tmp t => exact h.2 t
  | const v => exact rfl
  | global g => exact rfl
  | func f => exact rfl

theorem SF.put {n : Nat} {w : World} {I : Nat → Prop} {ρ : Env} {a : Act} (h : SF n w I ρ a) {dst : Option Tmp} (hd : ∀ t, dst = some t → t < n) {r : AV} {v : Value} (hr : AV.rel w I r v) : SF n w I (Av.put ρ dst r) (a.put dst v) := by
  cases dst with
  | none => exact h
  | some d =>
    have hdn := hd d rfl
    refine ⟨by simpa [Act.put] using h.1, fun t => ?_⟩
    simp only [Av.put, get, Act.put]
    by_cases hdt : d = t
    · subst hdt
      have : Nat.beq d d = true := Nat.beq_refl d
      simp only [this, cond_true]
      have hs : d < a.tmps.size := by rw [h.1]; exact hdn
      simpa [Array.getD, hs] using hr
    · have : Nat.beq d t = false := by
        cases hb : Nat.beq d t with
        | false => rfl
        | true => exact absurd (Nat.eq_of_beq_eq_true hb) hdt
      simp only [this, cond_false]
      have := h.2 t
      have e : (a.tmps.setIfInBounds d v).getD t undef = a.tmps.getD t undef := by
        simp only [Array.getD_eq_getD_getElem?, Array.getElem?_setIfInBounds, hdt, if_false]
      rw [e]; exact this

/-- What stays of a world that others may have written on: all that is known of it. -/
structure Same (I : Nat → Prop) (h : H) (w w' : World) : Prop where
  os : w'.os = w.os
  tape : w'.tape = w.tape
  output : w'.output = w.output
  size : w.heap.size ≤ w'.heap.size
  block : ∀ b, b < w.heap.size → w'.heap[b]? = w.heap[b]?

theorem Same.refl (I : Nat → Prop) (h : H) (w : World) : Same I h w w := ⟨rfl, rfl, rfl, Nat.le_refl _, fun _ _ => rfl⟩
theorem Same.drewN {I : Nat → Prop} {h : H} {w : World} (n : Nat) : Same I h w (w.drewN n) := ⟨rfl, rfl, rfl, Nat.le_refl _, fun _ _ => rfl⟩
theorem Same.trans {I : Nat → Prop} {h : H} {a b c : World} (h1 : Same I h a b) (h2 : Same I h b c) : Same I h a c :=
  ⟨h2.os.trans h1.os, h2.tape.trans h1.tape, h2.output.trans h1.output, Nat.le_trans h1.size h2.size, fun k hk => (h2.block k (Nat.lt_of_lt_of_le hk h1.size)).trans (h1.block k hk)⟩

theorem Ok.same {c : Cx} {I : Nat → Prop} {h : H} {w w' : World} (k : Ok c I h w) (s : Same I h w w') : Ok c I h w' where
  ent e he := Ent.rel_mono (fun b hb => s.block b (k.imm b hb).1) (fun _ hb => hb) (fun b hb => s.block b (Ent.blk_lt (k.ent e he) hb)) (k.ent e he)
  nd := k.nd
  imm b hb := ⟨Nat.lt_of_lt_of_le (k.imm b hb).1 s.size, (k.imm b hb).2⟩
  new := k.new
  inew := k.inew
  sup := k.sup
  os := s.os.trans k.os
  tape := s.tape.trans k.tape
  output := s.output.trans k.output
  size := Nat.le_trans k.size s.size
  keep b hb hE := (s.block b (Nat.lt_of_lt_of_le hb k.size)).trans (k.keep b hb hE)
  glob q hq := (k.glob q hq).mono (fun b hb => s.block b (k.imm b hb).1) fun _ hb => hb

theorem SF.same {c : Cx} {I : Nat → Prop} {h : H} {w w' : World} {n : Nat} {ρ : Env} {a : Act} (k : Ok c I h w) (s : Same I h w w') (f : SF n w I ρ a) : SF n w' I ρ a :=
  f.mono (fun b hb => s.block b (k.imm b hb).1) fun _ hb => hb

/-! ### The judgement -/

structure Kx where
  P : Program
  c : Cx
  n : Nat
  df : List Deferred

def lift (k : Kx) (Q : Exit → Env → H → Prop) : Exit → Act → World → Prop := fun e a w =>
  ∃ I ρ h, Ok k.c I h w ∧ SF k.n w I ρ a ∧ a.defers = k.df ∧ Q e ρ h

def J (k : Kx) (x : Code) (Q : Exit → Env → H → Prop) (ρ : Env) (h : H) : Prop :=
  ∀ I a w, Ok k.c I h w → SF k.n w I ρ a → a.defers = k.df → x.wp k.P (lift k Q) a w

def thenQ (N : Env → H → Prop) (Q : Exit → Env → H → Prop) : Exit → Env → H → Prop
  | .normal, ρ, h => N ρ h
  | e, ρ, h => Q e ρ h
def blockQ (id : Nat) (Q : Exit → Env → H → Prop) : Exit → Env → H → Prop
  | .exit id', ρ, h => if id' = id then Q .normal ρ h else Q (.exit id') ρ h
  | e, ρ, h => Q e ρ h

section
variable {k : Kx} {Q Q' : Exit → Env → H → Prop} {ρ ρ' : Env} {h h' : H}

theorem lift_mono (hq : ∀ e ρ h, Q e ρ h → Q' e ρ h) : ∀ e a w, lift k Q e a w → lift k Q' e a w :=
  fun _ _ _ ⟨I, ρ, h, h1, h2, h3, h4⟩ => ⟨I, ρ, h, h1, h2, h3, hq _ _ _ h4⟩

theorem J_mono {x : Code} (hj : J k x Q ρ h) (hq : ∀ e ρ h, Q e ρ h → Q' e ρ h) : J k x Q' ρ h :=
  fun I a w h1 h2 h3 => wp_mono (hj I a w h1 h2 h3) (lift_mono hq)

theorem J_seq {x y : Code} (hj : J k x (thenQ (J k y Q) Q) ρ h) : J k (.seq x y) Q ρ h := by
  intro I a w h1 h2 h3
  refine wp_seq (wp_mono (hj I a w h1 h2 h3) ?_)
  rintro e a w ⟨I, ρ, h, h1, h2, h3, h4⟩
  cases e with
  | normal => exact h4 I a w h1 h2 h3
  | _ => exact ⟨I, ρ, h, h1, h2, h3, h4⟩

theorem J_block {id : Nat} {x : Code} (hj : J k x (blockQ id Q) ρ h) : J k (.block id x) Q ρ h := by
  intro I a w h1 h2 h3
  refine wp_block (wp_mono (hj I a w h1 h2 h3) ?_)
  rintro e a w ⟨I, ρ, h, h1, h2, h3, h4⟩
  cases e with
  | exit id' =>
    simp only [blockQ] at h4
    simp only [Exit.inBlock]
    split at h4
    · rename_i hid; rw [if_pos hid]; exact ⟨I, ρ, h, h1, h2, h3, h4⟩
    · rename_i hid; rw [if_neg hid]; exact ⟨I, ρ, h, h1, h2, h3, h4⟩
  | _ => exact ⟨I, ρ, h, h1, h2, h3, h4⟩

theorem J_skip (hq : Q .normal ρ h) : J k .skip Q ρ h := fun I _ _ h1 h2 h3 => wp_skip ⟨I, ρ, h, h1, h2, h3, hq⟩
theorem J_ret (hq : Q .ret ρ h) : J k .ret Q ρ h := fun I _ _ h1 h2 h3 => wp_ret ⟨I, ρ, h, h1, h2, h3, hq⟩
theorem J_exit {id : Nat} (hq : Q (.exit id) ρ h) : J k (.exit id) Q ρ h := fun I _ _ h1 h2 h3 => wp_exit ⟨I, ρ, h, h1, h2, h3, hq⟩

theorem J_cond {o : Operand} {x y : Code} {b : Bool} (hc : ev ρ o = .val (.bool b)) (ht : b = true → J k x Q ρ h) (hf : b = false → J k y Q ρ h) : J k (.cond o x y) Q ρ h := by
  intro I a w h1 h2 h3
  have he : a.eval o = .bool b := by have := h2.ev o; rw [hc] at this; exact this
  exact wp_cond_split he (fun hb => ht hb I a w h1 h2 h3) (fun hb => hf hb I a w h1 h2 h3)
theorem J_cond_true {o : Operand} {x y : Code} (hc : ev ρ o = .val (.bool true)) (ht : J k x Q ρ h) : J k (.cond o x y) Q ρ h :=
  J_cond hc (fun _ => ht) (fun hb => by cases hb)
theorem J_cond_false {o : Operand} {x y : Code} (hc : ev ρ o = .val (.bool false)) (hf : J k y Q ρ h) : J k (.cond o x y) Q ρ h :=
  J_cond hc (fun hb => by cases hb) (fun _ => hf)

/-- What is told less. -/
def AV.le (x y : AV) : Prop := ∀ (w : World) (I : Nat → Prop) (u : Value), AV.rel w I x u → AV.rel w I y u
theorem AV.le_refl (x : AV) : AV.le x x := fun _ _ _ h => h
theorem AV.le_any (x : AV) : AV.le x .any := fun _ _ _ _ => trivial
theorem AV.le_of_eq {x y : AV} (h : x = y) : AV.le x y := h ▸ AV.le_refl x
theorem AV.le_nil (sz eb : Nat) : AV.le (.val (.slice none 0 0)) (.d (.l sz eb [])) := fun _ _ _ h => by cases h; exact .nil sz eb
def Env.le (ρ ρ' : Env) : Prop := ∀ t, AV.le (get ρ t) (get ρ' t)
theorem Env.le_refl (ρ : Env) : Env.le ρ ρ := fun _ => AV.le_refl _
theorem Env.le_nil (ρ : Env) : Env.le ρ [] := fun _ => AV.le_any _
theorem Env.le_cons {ρ ρ' : Env} {t : Nat} {x : AV} (h1 : AV.le (get ρ t) x) (h2 : Env.le ρ ρ') : Env.le ρ ((t, x) :: ρ') := by
  intro s
  simp only [get]
  cases hb : Nat.beq t s with
  | true => rw [← Nat.eq_of_beq_eq_true hb]; exact h1
  | false => exact h2 s
theorem SF.le {n : Nat} {w : World} {I : Nat → Prop} {a : Act} (f : SF n w I ρ a) (hle : Env.le ρ ρ') : SF n w I ρ' a := ⟨f.1, fun t => hle t _ _ _ (f.2 t)⟩
theorem J_le {x : Code} (hle : Env.le ρ ρ') (hj : J k x Q ρ' h) : J k x Q ρ h := fun I a w h1 h2 h3 => hj I a w h1 (h2.le hle) h3

theorem least {p : Nat → Prop} (h : ∃ m, p m) : ∃ m, p m ∧ ∀ j, p j → m ≤ j := by
  obtain ⟨m, hm⟩ := h
  induction m using Nat.strongRecOn with
  | _ m ih =>
    by_cases hx : ∃ j, j < m ∧ p j
    · obtain ⟨j, h1, h2⟩ := hx; exact ih j h1 h2
    · exact ⟨m, hm, fun j hj => Nat.le_of_not_lt fun hlt => hx ⟨j, hlt, hj⟩⟩

open Classical in
theorem J_loop {X : Type} {x : Code} (S : X → Env) (G : X → H) (Inv : X → Prop) (μ : X → Nat) (x0 : X) (h0 : Inv x0) (hρ : Env.le ρ (S x0)) (hh : h = G x0)
    (round : ∀ y, Inv y → J k x (thenQ (fun ρ' h' => ∃ y', Inv y' ∧ μ y' < μ y ∧ Env.le ρ' (S y') ∧ h' = G y') Q) (S y) (G y)) : J k (.loop x) Q ρ h := by
  intro I a w h1 h2 h3
  let fits (a : Act) (w : World) (y : X) : Prop := Inv y ∧ ∃ I, Ok k.c I (G y) w ∧ SF k.n w I (S y) a ∧ a.defers = k.df
  let has (a : Act) (w : World) (m : Nat) : Prop := ∃ y, fits a w y ∧ μ y = m
  let M (a : Act) (w : World) : Nat := if hx : ∃ m, has a w m then Classical.choose (least hx) else 0
  have hM : ∀ a w y, fits a w y → M a w ≤ μ y ∧ ∃ z, fits a w z ∧ μ z = M a w := by
    intro a w y hy
    have hx : ∃ m, has a w m := ⟨μ y, y, hy, rfl⟩
    have hd : M a w = Classical.choose (least hx) := by simp only [M, dif_pos hx]
    have hs := Classical.choose_spec (least hx)
    exact ⟨by rw [hd]; exact hs.2 _ ⟨y, hy, rfl⟩, by rw [hd]; exact hs.1⟩
  refine wp_loop (fun a w => ∃ y, fits a w y) M ⟨x0, h0, I, hh ▸ h1, h2.le hρ, h3⟩ ?_
  rintro a w ⟨y, hy⟩
  obtain ⟨_, z, ⟨hz1, I', hz2, hz3, hz4⟩, hz⟩ := hM a w y hy
  refine wp_mono (round z hz1 I' a w hz2 hz3 hz4) ?_
  rintro e a' w' ⟨I, ρ1, h1, k1, k2, k3, k4⟩
  cases e with
  | normal =>
    obtain ⟨y', i1, i2, i3, i4⟩ := k4
    have hy' : fits a' w' y' := ⟨i1, I, i4 ▸ k1, k2.le i3, k3⟩
    exact ⟨⟨y', hy'⟩, Nat.lt_of_le_of_lt (hM a' w' y' hy').1 (hz ▸ i2)⟩
  | _ => exact ⟨I, ρ1, h1, k1, k2, k3, k4⟩

/-! ### Operations in the text's order -/

def JL (k : Kx) (ops : Array Oper) (l : List Oper) (Q : Exit → Env → H → Prop) (ρ : Env) (h : H) : Prop :=
  ∀ I a w, Ok k.c I h w → SF k.n w I ρ a → a.defers = k.df → wpList k.P ops (lift k Q) l a w

theorem J_region {id : Nat} {l : List Oper} (hj : JL k l.toArray l Q ρ h) : J k (.region id l.toArray false) Q ρ h :=
  fun I a w h1 h2 h3 => wp_region_lit (hj I a w h1 h2 h3)
theorem JL_nil {ops : Array Oper} (hq : Q .normal ρ h) : JL k ops [] Q ρ h := fun I _ _ h1 h2 h3 => ⟨I, ρ, h, h1, h2, h3, hq⟩
theorem JL_le {ops : Array Oper} {l : List Oper} (hle : Env.le ρ ρ') (hj : JL k ops l Q ρ' h) : JL k ops l Q ρ h := fun I a w h1 h2 h3 => hj I a w h1 (h2.le hle) h3

theorem Act.defers_put (a : Act) (d : Option Tmp) (v : Value) : (a.put d v).defers = a.defers := by cases d <;> rfl

/-- The operation's value does not hang on what others have made meanwhile; it turns nothing. -/
def Pure (P : Program) (G : List (Nat × List D)) (o : Oper) (ρ : Env) (h : H) (r : AV) : Prop :=
  ∀ (c : Cx) (I : Nat → Prop) (n : Nat) (a : Act) (w : World), c.G = G → Ok c I h w → SF n w I ρ a → ∃ v, AV.rel w I r v ∧ ∀ w', Same I h w w' → (execOp a.eval o).run P w' = .ok (.value v) w'

theorem JL_pure {ops : Array Oper} {o : Oper} {l : List Oper} {r : AV} (hp : Pure k.P k.c.G o ρ h r) (hg : o.guard = none) (hd : ∀ t, o.dst = some t → t < k.n) (hj : JL k ops l Q (put ρ o.dst r) h) : JL k ops (o :: l) Q ρ h := by
  intro I a w h1 h2 h3
  obtain ⟨v, hv, hrun⟩ := hp k.c I k.n a w rfl h1 h2
  refine wpList_plain hg fun K hK => ?_
  unfold Oper.wp
  rw [hrun w (Same.refl _ _ _)]
  exact hK _ _ (hj I _ w h1 (h2.put hd hv) (by rw [Act.defers_put]; exact h3))

theorem wanted_of {ops : Array Oper} {o oj : Oper} {j d : Nat} {want b : Bool} {n : Nat} {w : World} {I : Nat → Prop} {a : Act} (h2 : SF n w I ρ a) (hg : o.guard = some (j, want)) (hj : ops[j]? = some oj) (hd : oj.dst = some d) (hr : get ρ d = .val (.bool b)) (hn : d < n) :
    Region.wanted o (yielded ops a.tmps) = (b == want) := by
  have hv := h2.2 d
  rw [hr] at hv
  have hv' : a.tmps.getD d undef = .bool b := hv
  have hs : d < a.tmps.size := by rw [h2.1]; exact hn
  have hv2 : a.tmps[d]? = some (.bool b) := by
    rw [Array.getElem?_eq_getElem hs]
    simpa [Array.getD, hs] using hv'
  simp only [Region.wanted, hg, yielded, hj, Option.bind_some, hd, hv2]
  cases b <;> cases want <;> rfl

/-- A guarded operation: carried out, or passed over. -/
theorem JL_guard {ops : Array Oper} {o oj : Oper} {l : List Oper} {j d : Nat} {want b : Bool} {r : AV} (hg : o.guard = some (j, want)) (hj : ops[j]? = some oj) (hdj : oj.dst = some d) (hr : get ρ d = .val (.bool b)) (hn : d < k.n)
    (hd : ∀ t, o.dst = some t → t < k.n) (hp : b = want → Pure k.P k.c.G o ρ h r) (hy : b = want → JL k ops l Q (put ρ o.dst r) h) (hno : b ≠ want → JL k ops l Q (put ρ o.dst (.val undef)) h) : JL k ops (o :: l) Q ρ h := by
  intro I a w h1 h2 h3
  have hw := wanted_of (ops := ops) h2 hg hj hdj hr hn
  unfold wpList
  by_cases hb : b = want
  · rw [if_pos (by rw [hw]; simp [hb])]
    obtain ⟨v, hv, hrun⟩ := hp hb k.c I k.n a w rfl h1 h2
    refine .inl ?_
    unfold Oper.wp
    rw [hrun w (Same.refl _ _ _)]
    exact hy hb I _ w h1 (h2.put hd hv) (by rw [Act.defers_put]; exact h3)
  · rw [if_neg (by rw [hw]; simpa using hb)]
    exact hno hb I _ w h1 (h2.put hd (r := .val undef) rfl) (by rw [Act.defers_put]; exact h3)

theorem JL_guard_no {ops : Array Oper} {o oj : Oper} {l : List Oper} {j d : Nat} {want b : Bool} (hg : o.guard = some (j, want)) (hj : ops[j]? = some oj) (hdj : oj.dst = some d) (hr : get ρ d = .val (.bool b)) (hn : d < k.n)
    (hd : ∀ t, o.dst = some t → t < k.n) (hb : b = !want) (hno : JL k ops l Q (put ρ o.dst (.val undef)) h) : JL k ops (o :: l) Q ρ h := by
  intro I a w h1 h2 h3
  have hw := wanted_of (ops := ops) h2 hg hj hdj hr hn
  unfold wpList
  rw [if_neg (by rw [hw, hb]; cases want <;> simp)]
  exact hno I _ w h1 (h2.put hd (r := .val undef) rfl) (by rw [Act.defers_put]; exact h3)

/-- A guarded operation whose guard says yes goes as one without a guard. -/
theorem JL_guard_yes {ops : Array Oper} {o oj : Oper} {l : List Oper} {j d : Nat} {want : Bool} (hg : o.guard = some (j, want)) (hj : ops[j]? = some oj) (hdj : oj.dst = some d) (hr : get ρ d = .val (.bool want)) (hn : d < k.n)
    (hy : JL k ops ({ o with guard := none } :: l) Q ρ h) : JL k ops (o :: l) Q ρ h := by
  intro I a w h1 h2 h3
  have hw := wanted_of (ops := ops) h2 hg hj hdj hr hn
  have := hy I a w h1 h2 h3
  unfold wpList at this ⊢
  rw [if_pos (by rw [hw]; simp)]
  rw [if_pos (by simp [Region.wanted])] at this
  exact this

theorem wanted_undef {ops : Array Oper} {o oj : Oper} {j d : Nat} {want : Bool} {n : Nat} {w : World} {I : Nat → Prop} {a : Act} (h2 : SF n w I ρ a) (hg : o.guard = some (j, want)) (hj : ops[j]? = some oj) (hd : oj.dst = some d) (hr : get ρ d = .val undef) :
    Region.wanted o (yielded ops a.tmps) = false := by
  have hv := h2.2 d
  rw [hr] at hv
  have hv' : a.tmps.getD d undef = undef := hv
  rw [Array.getD_eq_getD_getElem?] at hv'
  simp only [Region.wanted, hg, yielded, hj, Option.bind_some, hd]
  cases hx : a.tmps[d]? with
  | none => rfl
  | some v =>
    rw [hx] at hv'
    have : v = undef := hv'
    subst this
    rfl
/-- A guarded operation whose guard was itself passed over. -/
theorem JL_guard_un {ops : Array Oper} {o oj : Oper} {l : List Oper} {j d : Nat} {want : Bool} (hg : o.guard = some (j, want)) (hj : ops[j]? = some oj) (hdj : oj.dst = some d) (hr : get ρ d = .val undef)
    (hd : ∀ t, o.dst = some t → t < k.n) (hno : JL k ops l Q (put ρ o.dst (.val undef)) h) : JL k ops (o :: l) Q ρ h := by
  intro I a w h1 h2 h3
  have hw := wanted_undef (ops := ops) h2 hg hj hdj hr
  unfold wpList
  rw [if_neg (by rw [hw]; simp)]
  exact hno I _ w h1 (h2.put hd (r := .val undef) rfl) (by rw [Act.defers_put]; exact h3)
end
end Go.Av
