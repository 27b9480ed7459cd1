/-
 PLAIN, NO PROGRAM: a small logic over values: what a slot holds is told as data (immutable slices as lists), what the call itself made and still writes is told block by block; regions whose order is open.
-/
import Derived.WalkKit
import Derived.Deep.QuietTactic
import Derived.StillTailTactics
import Derived.DataElems
import Derived.OrdersHeld
import Derived.Maps.AppendAt
import Derived.Laws.OwnMore
namespace Go.Av
open Go
set_option linter.unusedVariables false
set_option linter.unusedSimpArgs false

/-- Data of one cell, as it lies in memory that nobody writes. -/
inductive D where
 | i (k : IntKind) (n : Int)
 | b (x : Bool)
 | s (x : ByteArray)
 | l (sz eb : Nat) (rows : List (List D))

inductive Rel (w : World) (I : Nat → Prop) : D → Value → Prop where
 | i (k : IntKind) (n : Int) : Rel w I (.i k n) (.int k n)
 | b (x : Bool) : Rel w I (.b x) (.bool x)
 | s (x : ByteArray) : Rel w I (.s x) (.string x)
 | nil (sz eb : Nat) : Rel w I (.l sz eb []) (.slice none 0 0)
 | emp (sz eb : Nat) (ad : Addr) : Rel w I (.l sz eb []) (.slice (some ad) 0 0)
 | l (sz eb : Nat) (rows : List (List D)) (ad : Addr) (cap : Nat) (css : Nat → Nat → Value)
  (hI : I ad.block) (hcap : rows.length ≤ cap) (hm : cap ≤ maxLen) (hb : rows.length * eb ≤ 140737488355328)
  (hsz : ∀ r ∈ rows, r.length = sz)
  (hc : ∀ (j u : Nat) (r : List D) (x : D), rows[j]? = some r → r[u]? = some x → w.cell? (ad.add (j * sz + u)) = some (css j u))
  (hr : ∀ (j u : Nat) (r : List D) (x : D), rows[j]? = some r → r[u]? = some x → Rel w I x (css j u)) :
  Rel w I (.l sz eb rows) (.slice (some ad) rows.length cap)

theorem Rel.mono {w w' : World} {I I' : Nat → Prop} (hw : ∀ b, I b → w'.heap[b]? = w.heap[b]?) (hI : ∀ b, I b → I' b) {x : D} {v : Value} (h : Rel w I x v) : Rel w' I' x v := by
 induction h with
 | i k n => exact .i k n
 | b x => exact .b x
 | s x => exact .s x
 | nil sz eb => exact .nil sz eb
 | emp sz eb ad => exact .emp sz eb ad
 | l sz eb rows ad cap css hI0 hcap hm hb hsz hc hr ih =>
   refine .l sz eb rows ad cap css (hI _ hI0) hcap hm hb hsz (fun j u r x h1 h2 => ?_) ih
   rw [World.cell?_of_block (w := w)]
   · exact hc j u r x h1 h2
   · have : (ad.add (j * sz + u)).block = ad.block := by unfold Addr.add; split <;> rfl
     rw [this]; exact hw _ hI0

theorem Rel.oneCell {w : World} {I : Nat → Prop} {x : D} {v : Value} (h : Rel w I x v) : v.oneCell' = true := by cases h <;> rfl

/-- What a slot holds. -/
inductive AV where
 | any
 | val (v : Value)
 | d (x : D)
 | pd (cs : List D)
 | agg (cs : List AV)
 | tup (vs : List AV)

abbrev AV.int (n : Int) : AV := .val (.int .i64 n)
abbrev AV.bool (b : Bool) : AV := .val (.bool b)

def PD (w : World) (I : Nat → Prop) (cs : List D) (ad : Addr) : Prop :=
 I ad.block ∧ ∀ (u : Nat) (x : D), cs[u]? = some x → ∃ c, w.cell? (ad.add u) = some c ∧ Rel w I x c

mutual
def AV.rel (w : World) (I : Nat → Prop) : AV → Value → Prop
 | .any, _ => True
 | .val u, v => v = u
 | .d x, v => Rel w I x v
 | .pd cs, v => ∃ ad, v = .pointer (some ad) ∧ PD w I cs ad
 | .agg cs, v => ∃ vs : List Value, v = .agg vs.toArray ∧ AV.rels w I cs vs
 | .tup cs, v => ∃ vs : List Value, v = .tuple vs.toArray ∧ AV.rels w I cs vs
def AV.rels (w : World) (I : Nat → Prop) : List AV → List Value → Prop
 | [], [] => True
 | x :: xs, v :: vs => AV.rel w I x v ∧ AV.rels w I xs vs
 | _, _ => False
end

theorem PD.mono {w w' : World} {I I' : Nat → Prop} (hw : ∀ b, I b → w'.heap[b]? = w.heap[b]?) (hI : ∀ b, I b → I' b) {cs : List D} {ad : Addr} (h : PD w I cs ad) : PD w' I' cs ad := by
 refine ⟨hI _ h.1, fun u x hx => ?_⟩
 obtain ⟨c, h1, h2⟩ := h.2 u x hx
 refine ⟨c, ?_, h2.mono hw hI⟩
 rw [World.cell?_of_block (w := w)]
 · exact h1
 · have : (ad.add u).block = ad.block := by unfold Addr.add; split <;> rfl
   rw [this]; exact hw _ h.1

mutual
theorem AV.rel_mono {w w' : World} {I I' : Nat → Prop} (hw : ∀ b, I b → w'.heap[b]? = w.heap[b]?) (hI : ∀ b, I b → I' b) : ∀ {x : AV} {v : Value}, AV.rel w I x v → AV.rel w' I' x v
 | .any, _, _ => trivial
 | .val _, _, h => h
 | .d _, _, h => Rel.mono hw hI h
 | .pd _, _, ⟨ad, h1, h2⟩ => ⟨ad, h1, h2.mono hw hI⟩
 | .agg _, _, ⟨vs, h1, h2⟩ => ⟨vs, h1, AV.rels_mono hw hI h2⟩
 | .tup _, _, ⟨vs, h1, h2⟩ => ⟨vs, h1, AV.rels_mono hw hI h2⟩
theorem AV.rels_mono {w w' : World} {I I' : Nat → Prop} (hw : ∀ b, I b → w'.heap[b]? = w.heap[b]?) (hI : ∀ b, I b → I' b) : ∀ {xs : List AV} {vs : List Value}, AV.rels w I xs vs → AV.rels w' I' xs vs
 | [], [], _ => trivial
 | _ :: _, _ :: _, ⟨h1, h2⟩ => ⟨AV.rel_mono hw hI h1, AV.rels_mono hw hI h2⟩
end

theorem AV.rels_length {w : World} {I : Nat → Prop} : ∀ {xs : List AV} {vs : List Value}, AV.rels w I xs vs → xs.length = vs.length
 | [], [], _ => rfl
 | _ :: _, _ :: _, ⟨_, h2⟩ => by simp [AV.rels_length h2]

theorem AV.rels_get {w : World} {I : Nat → Prop} : ∀ {xs : List AV} {vs : List Value}, AV.rels w I xs vs → ∀ (j : Nat) (x : AV), xs[j]? = some x → ∃ v, vs[j]? = some v ∧ AV.rel w I x v
 | [], [], _, _, _, h => by simp at h
 | x :: xs, v :: vs, ⟨h1, h2⟩, j, y, h => by
   cases j with
   | zero => simp at h; subst h; exact ⟨v, rfl, h1⟩
   | succ j => simpa using AV.rels_get h2 j y (by simpa using h)

theorem AV.rels_append {w : World} {I : Nat → Prop} : ∀ {xs ys : List AV} {vs us : List Value}, AV.rels w I xs vs → AV.rels w I ys us → AV.rels w I (xs ++ ys) (vs ++ us)
 | [], _, [], _, _, h => h
 | _ :: _, _, _ :: _, _, ⟨h1, h2⟩, h => ⟨h1, AV.rels_append h2 h⟩

/-- The slots that are known. -/
abbrev Env := List (Nat × AV)
def get : Env → Nat → AV
 | [], _ => .any
 | (k, v) :: r, t => bif Nat.beq k t then v else get r t
def ev (ρ : Env) : Operand → AV
 | .tmp t => get ρ t
 | .const v => .val v
 | .global g => .val (.pointer (some ⟨g, 0, none⟩))
 | .func f => .val (.func (.func f) #[] #[])
def put (ρ : Env) (t : Option Tmp) (v : AV) : Env := match t with | some t => (t, v) :: ρ | none => ρ

/-- What the call itself made (or was handed to write), and what lies in it. -/
inductive Ent where
 | cells (b : Nat) (T : TypeId) (vs : List AV)
 | row (v : Value) (n : Nat) (T : TypeId) (sz : Nat) (l : List AV)
 | raw (b : Nat) (o : Obj)
abbrev H := List Ent

def Ent.blk : Ent → Option Nat
 | .cells b _ _ => some b
 | .row v _ _ _ _ => v.ownBlock
 | .raw b _ => some b
def Ent.rel (w : World) (I : Nat → Prop) : Ent → Prop
 | .cells b T vs => ∃ cs : Array Value, w.heap[b]? = some (.cells cs T (0, 0)) ∧ AV.rels w I vs cs.toList
 | .row v n T sz l => ∃ xs, w.ownsRow 0 T sz v n xs ∧ AV.rels w I l xs
 | .raw b o => w.heap[b]? = some o
def blks (h : H) : List Nat := h.filterMap Ent.blk

theorem Ent.rel_mono {w w' : World} {I I' : Nat → Prop} (hw : ∀ b, I b → w'.heap[b]? = w.heap[b]?) (hI : ∀ b, I b → I' b) {e : Ent} (hb : ∀ b, e.blk = some b → w'.heap[b]? = w.heap[b]?) (h : e.rel w I) : e.rel w' I' := by
 cases e with
 | cells b T vs => obtain ⟨cs, h1, h2⟩ := h; exact ⟨cs, (hb b rfl).trans h1, AV.rels_mono hw hI h2⟩
 | row v n T sz l =>
   obtain ⟨xs, h1, h2⟩ := h
   refine ⟨xs, ⟨h1.1, ?_⟩, AV.rels_mono hw hI h2⟩
   rcases h1.2 with h3 | ⟨g, cap, cur, rfl, hbase, hg, r⟩
   · exact .inl h3
   · exact .inr ⟨g, cap, cur, rfl, hbase, (hb g rfl).trans hg, r⟩
 | raw b o => exact (hb b rfl).trans h

theorem Ent.blk_lt {w : World} {I : Nat → Prop} {e : Ent} (h : e.rel w I) {b : Nat} (hb : e.blk = some b) : b < w.heap.size := by
 have key : ∀ o, w.heap[b]? = some o → b < w.heap.size := fun o ho => (Array.getElem?_eq_some_iff.1 ho).1
 cases e with
 | cells b' T vs => cases hb; obtain ⟨cs, h1, _⟩ := h; exact key _ h1
 | row v n T sz l => obtain ⟨xs, h1, _⟩ := h; exact (h1.lt b hb).2
 | raw b' o => cases hb; exact key _ h

/-- The context of a call: the world in which it began, what was readable then, what it was handed to write. -/
structure Cx where
 W : World
 I0 : Nat → Prop
 E : List Nat
 /-- package-level tables that nobody writes -/
 G : List (Nat × List D)

structure Ok (c : Cx) (I : Nat → Prop) (h : H) (w : World) : Prop where
 ent : ∀ e ∈ h, e.rel w I
 nd : (blks h).Nodup
 imm : ∀ b, I b → b < w.heap.size ∧ b ∉ blks h
 new : ∀ b ∈ blks h, b ∈ c.E ∨ c.W.heap.size ≤ b
 inew : ∀ b, I b → c.I0 b ∨ b ∈ c.E ∨ c.W.heap.size ≤ b
 sup : ∀ b, c.I0 b → I b
 os : w.os = c.W.os
 tape : w.tape = c.W.tape
 output : w.output = c.W.output
 size : c.W.heap.size ≤ w.heap.size
 keep : ∀ b, b < c.W.heap.size → b ∉ c.E → w.heap[b]? = c.W.heap[b]?
 glob : ∀ q ∈ c.G, PD w I q.2 ⟨q.1, 0, none⟩

def SF (n : Nat) (w : World) (I : Nat → Prop) (ρ : Env) (a : Act) : Prop := a.tmps.size = n ∧ ∀ t, AV.rel w I (get ρ t) (a.tmps.getD t undef)

theorem SF.mono {n : Nat} {w w' : World} {I I' : Nat → Prop} {ρ : Env} {a : Act} (hw : ∀ b, I b → w'.heap[b]? = w.heap[b]?) (hI : ∀ b, I b → I' b) (h : SF n w I ρ a) : SF n w' I' ρ a :=
 ⟨h.1, fun t => AV.rel_mono hw hI (h.2 t)⟩

theorem SF.ev {n : Nat} {w : World} {I : Nat → Prop} {ρ : Env} {a : Act} (h : SF n w I ρ a) (x : Operand) : AV.rel w I (ev ρ x) (a.eval x) := by
 cases x with
 | tmp t => exact h.2 t
 | const v => exact rfl
 | global g => exact rfl
 | func f => exact rfl

theorem SF.put {n : Nat} {w : World} {I : Nat → Prop} {ρ : Env} {a : Act} (h : SF n w I ρ a) {dst : Option Tmp} (hd : ∀ t, dst = some t → t < n) {r : AV} {v : Value} (hr : AV.rel w I r v) : SF n w I (Av.put ρ dst r) (a.put dst v) := by
 cases dst with
 | none => exact h
 | some d =>
   have hdn := hd d rfl
   refine ⟨by simpa [Act.put] using h.1, fun t => ?_⟩
   simp only [Av.put, get, Act.put]
   by_cases hdt : d = t
   · subst hdt
     have : Nat.beq d d = true := Nat.beq_refl d
     simp only [this, cond_true]
     have hs : d < a.tmps.size := by rw [h.1]; exact hdn
     simpa [Array.getD, hs] using hr
   · have : Nat.beq d t = false := by
      cases hb : Nat.beq d t with
      | false => rfl
      | true => exact absurd (Nat.eq_of_beq_eq_true hb) hdt
     simp only [this, cond_false]
     have := h.2 t
     have e : (a.tmps.setIfInBounds d v).getD t undef = a.tmps.getD t undef := by
      simp only [Array.getD_eq_getD_getElem?, Array.getElem?_setIfInBounds, hdt, if_false]
     rw [e]; exact this

/-- What stays of a world that others may have written on: all that is known of it. -/
structure Same (I : Nat → Prop) (h : H) (w w' : World) : Prop where
 os : w'.os = w.os
 tape : w'.tape = w.tape
 output : w'.output = w.output
 size : w.heap.size ≤ w'.heap.size
 block : ∀ b, b < w.heap.size → w'.heap[b]? = w.heap[b]?

theorem mem_blks {h : H} {e : Ent} {b : Nat} (hm : e ∈ h) (hb : e.blk = some b) : b ∈ blks h := List.mem_filterMap.2 ⟨e, hm, hb⟩
/-- What was told is as it was. -/
structure SameW (I : Nat → Prop) (h : H) (w w' : World) : Prop where
 imm : ∀ b, I b → w'.heap[b]? = w.heap[b]?
 own : ∀ b, b ∈ blks h → w'.heap[b]? = w.heap[b]?
theorem SameW.refl (I : Nat → Prop) (h : H) (w : World) : SameW I h w w := ⟨fun _ _ => rfl, fun _ _ => rfl⟩
theorem Same.refl (I : Nat → Prop) (h : H) (w : World) : Same I h w w := ⟨rfl, rfl, rfl, Nat.le_refl _, fun _ _ => rfl⟩
theorem Same.drewN {I : Nat → Prop} {h : H} {w : World} (n : Nat) : Same I h w (w.drewN n) := ⟨rfl, rfl, rfl, Nat.le_refl _, fun _ _ => rfl⟩
theorem Same.trans {I : Nat → Prop} {h : H} {a b c : World} (h1 : Same I h a b) (h2 : Same I h b c) : Same I h a c :=
 ⟨h2.os.trans h1.os, h2.tape.trans h1.tape, h2.output.trans h1.output, Nat.le_trans h1.size h2.size, fun k hk => (h2.block k (Nat.lt_of_lt_of_le hk h1.size)).trans (h1.block k hk)⟩

theorem Ok.same {c : Cx} {I : Nat → Prop} {h : H} {w w' : World} (k : Ok c I h w) (s : Same I h w w') : Ok c I h w' where
 ent e he := Ent.rel_mono (fun b hb => s.block b (k.imm b hb).1) (fun _ hb => hb) (fun b hb => s.block b (Ent.blk_lt (k.ent e he) hb)) (k.ent e he)
 nd := k.nd
 imm b hb := ⟨Nat.lt_of_lt_of_le (k.imm b hb).1 s.size, (k.imm b hb).2⟩
 new := k.new
 inew := k.inew
 sup := k.sup
 os := s.os.trans k.os
 tape := s.tape.trans k.tape
 output := s.output.trans k.output
 size := Nat.le_trans k.size s.size
 keep b hb hE := (s.block b (Nat.lt_of_lt_of_le hb k.size)).trans (k.keep b hb hE)
 glob q hq := (k.glob q hq).mono (fun b hb => s.block b (k.imm b hb).1) fun _ hb => hb

theorem Same.weak {c : Cx} {I : Nat → Prop} {h : H} {w w' : World} (s : Same I h w w') (k : Ok c I h w) : SameW I h w w' :=
 ⟨fun b hb => s.block b (k.imm b hb).1, fun b hb => s.block b (by
  obtain ⟨e, he, heb⟩ := List.mem_filterMap.1 hb
  exact Ent.blk_lt (k.ent e he) heb)⟩
theorem SF.same {c : Cx} {I : Nat → Prop} {h : H} {w w' : World} {n : Nat} {ρ : Env} {a : Act} (k : Ok c I h w) (s : Same I h w w') (f : SF n w I ρ a) : SF n w' I ρ a :=
 f.mono (fun b hb => s.block b (k.imm b hb).1) fun _ hb => hb

/-! ### The judgement -/

structure Kx where
 P : Program
 c : Cx
 n : Nat
 df : List Deferred

def lift (k : Kx) (Q : Exit → Env → H → Prop) : Exit → Act → World → Prop := fun e a w =>
 ∃ I ρ h, Ok k.c I h w ∧ SF k.n w I ρ a ∧ a.defers = k.df ∧ Q e ρ h

def J (k : Kx) (x : Code) (Q : Exit → Env → H → Prop) (ρ : Env) (h : H) : Prop :=
 ∀ I a w, Ok k.c I h w → SF k.n w I ρ a → a.defers = k.df → x.wp k.P (lift k Q) a w

def thenQ (N : Env → H → Prop) (Q : Exit → Env → H → Prop) : Exit → Env → H → Prop
 | .normal, ρ, h => N ρ h
 | e, ρ, h => Q e ρ h
def blockQ (id : Nat) (Q : Exit → Env → H → Prop) : Exit → Env → H → Prop
 | .exit id', ρ, h => if id' = id then Q .normal ρ h else Q (.exit id') ρ h
 | e, ρ, h => Q e ρ h

section
variable {k : Kx} {Q Q' : Exit → Env → H → Prop} {ρ ρ' : Env} {h h' : H}

theorem lift_mono (hq : ∀ e ρ h, Q e ρ h → Q' e ρ h) : ∀ e a w, lift k Q e a w → lift k Q' e a w :=
 fun _ _ _ ⟨I, ρ, h, h1, h2, h3, h4⟩ => ⟨I, ρ, h, h1, h2, h3, hq _ _ _ h4⟩

theorem J_mono {x : Code} (hj : J k x Q ρ h) (hq : ∀ e ρ h, Q e ρ h → Q' e ρ h) : J k x Q' ρ h :=
 fun I a w h1 h2 h3 => wp_mono (hj I a w h1 h2 h3) (lift_mono hq)

theorem J_seq {x y : Code} (hj : J k x (thenQ (J k y Q) Q) ρ h) : J k (.seq x y) Q ρ h := by
 intro I a w h1 h2 h3
 refine wp_seq (wp_mono (hj I a w h1 h2 h3) ?_)
 rintro e a w ⟨I, ρ, h, h1, h2, h3, h4⟩
 cases e with
 | normal => exact h4 I a w h1 h2 h3
 | _ => exact ⟨I, ρ, h, h1, h2, h3, h4⟩

theorem J_block {id : Nat} {x : Code} (hj : J k x (blockQ id Q) ρ h) : J k (.block id x) Q ρ h := by
 intro I a w h1 h2 h3
 refine wp_block (wp_mono (hj I a w h1 h2 h3) ?_)
 rintro e a w ⟨I, ρ, h, h1, h2, h3, h4⟩
 cases e with
 | exit id' =>
   simp only [blockQ] at h4
   simp only [Exit.inBlock]
   split at h4
   · rename_i hid; rw [if_pos hid]; exact ⟨I, ρ, h, h1, h2, h3, h4⟩
   · rename_i hid; rw [if_neg hid]; exact ⟨I, ρ, h, h1, h2, h3, h4⟩
 | _ => exact ⟨I, ρ, h, h1, h2, h3, h4⟩

theorem J_skip (hq : Q .normal ρ h) : J k .skip Q ρ h := fun I _ _ h1 h2 h3 => wp_skip ⟨I, ρ, h, h1, h2, h3, hq⟩
theorem J_ret (hq : Q .ret ρ h) : J k .ret Q ρ h := fun I _ _ h1 h2 h3 => wp_ret ⟨I, ρ, h, h1, h2, h3, hq⟩
theorem J_exit {id : Nat} (hq : Q (.exit id) ρ h) : J k (.exit id) Q ρ h := fun I _ _ h1 h2 h3 => wp_exit ⟨I, ρ, h, h1, h2, h3, hq⟩

theorem J_cond {o : Operand} {x y : Code} {b : Bool} (hc : ev ρ o = .val (.bool b)) (ht : b = true → J k x Q ρ h) (hf : b = false → J k y Q ρ h) : J k (.cond o x y) Q ρ h := by
 intro I a w h1 h2 h3
 have he : a.eval o = .bool b := by have := h2.ev o; rw [hc] at this; exact this
 exact wp_cond_split he (fun hb => ht hb I a w h1 h2 h3) (fun hb => hf hb I a w h1 h2 h3)
theorem J_cond_true {o : Operand} {x y : Code} (hc : ev ρ o = .val (.bool true)) (ht : J k x Q ρ h) : J k (.cond o x y) Q ρ h :=
 J_cond hc (fun _ => ht) (fun hb => by cases hb)
theorem J_cond_false {o : Operand} {x y : Code} (hc : ev ρ o = .val (.bool false)) (hf : J k y Q ρ h) : J k (.cond o x y) Q ρ h :=
 J_cond hc (fun hb => by cases hb) (fun _ => hf)

/-- What is told less. -/
def AV.le (x y : AV) : Prop := ∀ (w : World) (I : Nat → Prop) (u : Value), AV.rel w I x u → AV.rel w I y u
theorem AV.le_refl (x : AV) : AV.le x x := fun _ _ _ h => h
theorem AV.le_any (x : AV) : AV.le x .any := fun _ _ _ _ => trivial
theorem AV.le_of_eq {x y : AV} (h : x = y) : AV.le x y := h ▸ AV.le_refl x
theorem AV.le_nil (sz eb : Nat) : AV.le (.val (.slice none 0 0)) (.d (.l sz eb [])) := fun _ _ _ h => by cases h; exact .nil sz eb
def Env.le (ρ ρ' : Env) : Prop := ∀ t, AV.le (get ρ t) (get ρ' t)
theorem Env.le_refl (ρ : Env) : Env.le ρ ρ := fun _ => AV.le_refl _
theorem Env.le_nil (ρ : Env) : Env.le ρ [] := fun _ => AV.le_any _
theorem Env.le_cons {ρ ρ' : Env} {t : Nat} {x : AV} (h1 : AV.le (get ρ t) x) (h2 : Env.le ρ ρ') : Env.le ρ ((t, x) :: ρ') := by
 intro s
 simp only [get]
 cases hb : Nat.beq t s with
 | true => rw [← Nat.eq_of_beq_eq_true hb]; exact h1
 | false => exact h2 s
theorem SF.le {n : Nat} {w : World} {I : Nat → Prop} {a : Act} (f : SF n w I ρ a) (hle : Env.le ρ ρ') : SF n w I ρ' a := ⟨f.1, fun t => hle t _ _ _ (f.2 t)⟩
theorem J_le {x : Code} (hle : Env.le ρ ρ') (hj : J k x Q ρ' h) : J k x Q ρ h := fun I a w h1 h2 h3 => hj I a w h1 (h2.le hle) h3

theorem least {p : Nat → Prop} (h : ∃ m, p m) : ∃ m, p m ∧ ∀ j, p j → m ≤ j := by
 obtain ⟨m, hm⟩ := h
 induction m using Nat.strongRecOn with
 | _ m ih =>
   by_cases hx : ∃ j, j < m ∧ p j
   · obtain ⟨j, h1, h2⟩ := hx; exact ih j h1 h2
   · exact ⟨m, hm, fun j hj => Nat.le_of_not_lt fun hlt => hx ⟨j, hlt, hj⟩⟩

open Classical in
theorem J_loop {X : Type} {x : Code} (S : X → Env) (G : X → H) (Inv : X → Prop) (μ : X → Nat) (x0 : X) (h0 : Inv x0) (hρ : Env.le ρ (S x0)) (hh : h = G x0)
 (round : ∀ y, Inv y → J k x (thenQ (fun ρ' h' => ∃ y', Inv y' ∧ μ y' < μ y ∧ Env.le ρ' (S y') ∧ h' = G y') Q) (S y) (G y)) : J k (.loop x) Q ρ h := by
 intro I a w h1 h2 h3
 let fits (a : Act) (w : World) (y : X) : Prop := Inv y ∧ ∃ I, Ok k.c I (G y) w ∧ SF k.n w I (S y) a ∧ a.defers = k.df
 let has (a : Act) (w : World) (m : Nat) : Prop := ∃ y, fits a w y ∧ μ y = m
 let M (a : Act) (w : World) : Nat := if hx : ∃ m, has a w m then Classical.choose (least hx) else 0
 have hM : ∀ a w y, fits a w y → M a w ≤ μ y ∧ ∃ z, fits a w z ∧ μ z = M a w := by
  intro a w y hy
  have hx : ∃ m, has a w m := ⟨μ y, y, hy, rfl⟩
  have hd : M a w = Classical.choose (least hx) := by simp only [M, dif_pos hx]
  have hs := Classical.choose_spec (least hx)
  exact ⟨by rw [hd]; exact hs.2 _ ⟨y, hy, rfl⟩, by rw [hd]; exact hs.1⟩
 refine wp_loop (fun a w => ∃ y, fits a w y) M ⟨x0, h0, I, hh ▸ h1, h2.le hρ, h3⟩ ?_
 rintro a w ⟨y, hy⟩
 obtain ⟨_, z, ⟨hz1, I', hz2, hz3, hz4⟩, hz⟩ := hM a w y hy
 refine wp_mono (round z hz1 I' a w hz2 hz3 hz4) ?_
 rintro e a' w' ⟨I, ρ1, h1, k1, k2, k3, k4⟩
 cases e with
 | normal =>
   obtain ⟨y', i1, i2, i3, i4⟩ := k4
   have hy' : fits a' w' y' := ⟨i1, I, i4 ▸ k1, k2.le i3, k3⟩
   exact ⟨⟨y', hy'⟩, Nat.lt_of_le_of_lt (hM a' w' y' hy').1 (hz ▸ i2)⟩
 | _ => exact ⟨I, ρ1, h1, k1, k2, k3, k4⟩

/-! ### Operations in the text's order -/

def JL (k : Kx) (ops : Array Oper) (l : List Oper) (Q : Exit → Env → H → Prop) (ρ : Env) (h : H) : Prop :=
 ∀ I a w, Ok k.c I h w → SF k.n w I ρ a → a.defers = k.df → wpList k.P ops (lift k Q) l a w

theorem J_region {id : Nat} {l : List Oper} (hj : JL k l.toArray l Q ρ h) : J k (.region id l.toArray false) Q ρ h :=
 fun I a w h1 h2 h3 => wp_region_lit (hj I a w h1 h2 h3)
theorem JL_nil {ops : Array Oper} (hq : Q .normal ρ h) : JL k ops [] Q ρ h := fun I _ _ h1 h2 h3 => ⟨I, ρ, h, h1, h2, h3, hq⟩
theorem JL_le {ops : Array Oper} {l : List Oper} (hle : Env.le ρ ρ') (hj : JL k ops l Q ρ' h) : JL k ops l Q ρ h := fun I a w h1 h2 h3 => hj I a w h1 (h2.le hle) h3

theorem Act.defers_put (a : Act) (d : Option Tmp) (v : Value) : (a.put d v).defers = a.defers := by cases d <;> rfl

/-- The operation's value does not hang on what others have made meanwhile; it turns nothing. -/
def Pure (P : Program) (G : List (Nat × List D)) (o : Oper) (ρ : Env) (h : H) (r : AV) : Prop :=
 ∀ (c : Cx) (I : Nat → Prop) (n : Nat) (a : Act) (w : World), c.G = G → Ok c I h w → SF n w I ρ a → ∃ v, AV.rel w I r v ∧ ∀ w', SameW I h w w' → (execOp a.eval o).run P w' = .ok (.value v) w'

theorem JL_pure {ops : Array Oper} {o : Oper} {l : List Oper} {r : AV} (hp : Pure k.P k.c.G o ρ h r) (hg : o.guard = none) (hd : ∀ t, o.dst = some t → t < k.n) (hj : JL k ops l Q (put ρ o.dst r) h) : JL k ops (o :: l) Q ρ h := by
 intro I a w h1 h2 h3
 obtain ⟨v, hv, hrun⟩ := hp k.c I k.n a w rfl h1 h2
 refine wpList_plain hg fun K hK => ?_
 unfold Oper.wp
 rw [hrun w (SameW.refl _ _ _)]
 exact hK _ _ (hj I _ w h1 (h2.put hd hv) (by rw [Act.defers_put]; exact h3))

theorem wanted_of {ops : Array Oper} {o oj : Oper} {j d : Nat} {want b : Bool} {n : Nat} {w : World} {I : Nat → Prop} {a : Act} (h2 : SF n w I ρ a) (hg : o.guard = some (j, want)) (hj : ops[j]? = some oj) (hd : oj.dst = some d) (hr : get ρ d = .val (.bool b)) (hn : d < n) :
 Region.wanted o (yielded ops a.tmps) = (b == want) := by
 have hv := h2.2 d
 rw [hr] at hv
 have hv' : a.tmps.getD d undef = .bool b := hv
 have hs : d < a.tmps.size := by rw [h2.1]; exact hn
 have hv2 : a.tmps[d]? = some (.bool b) := by
  rw [Array.getElem?_eq_getElem hs]
  simpa [Array.getD, hs] using hv'
 simp only [Region.wanted, hg, yielded, hj, Option.bind_some, hd, hv2]
 cases b <;> cases want <;> rfl

/-- A guarded operation: carried out, or passed over. -/
theorem JL_guard {ops : Array Oper} {o oj : Oper} {l : List Oper} {j d : Nat} {want b : Bool} {r : AV} (hg : o.guard = some (j, want)) (hj : ops[j]? = some oj) (hdj : oj.dst = some d) (hr : get ρ d = .val (.bool b)) (hn : d < k.n)
 (hd : ∀ t, o.dst = some t → t < k.n) (hp : b = want → Pure k.P k.c.G o ρ h r) (hy : b = want → JL k ops l Q (put ρ o.dst r) h) (hno : b ≠ want → JL k ops l Q (put ρ o.dst (.val undef)) h) : JL k ops (o :: l) Q ρ h := by
 intro I a w h1 h2 h3
 have hw := wanted_of (ops := ops) h2 hg hj hdj hr hn
 unfold wpList
 by_cases hb : b = want
 · rw [if_pos (by rw [hw]; simp [hb])]
   obtain ⟨v, hv, hrun⟩ := hp hb k.c I k.n a w rfl h1 h2
   refine .inl ?_
   unfold Oper.wp
   rw [hrun w (SameW.refl _ _ _)]
   exact hy hb I _ w h1 (h2.put hd hv) (by rw [Act.defers_put]; exact h3)
 · rw [if_neg (by rw [hw]; simpa using hb)]
   exact hno hb I _ w h1 (h2.put hd (r := .val undef) rfl) (by rw [Act.defers_put]; exact h3)

theorem JL_guard_no {ops : Array Oper} {o oj : Oper} {l : List Oper} {j d : Nat} {want b : Bool} (hg : o.guard = some (j, want)) (hj : ops[j]? = some oj) (hdj : oj.dst = some d) (hr : get ρ d = .val (.bool b)) (hn : d < k.n)
 (hd : ∀ t, o.dst = some t → t < k.n) (hb : b = !want) (hno : JL k ops l Q (put ρ o.dst (.val undef)) h) : JL k ops (o :: l) Q ρ h := by
 intro I a w h1 h2 h3
 have hw := wanted_of (ops := ops) h2 hg hj hdj hr hn
 unfold wpList
 rw [if_neg (by rw [hw, hb]; cases want <;> simp)]
 exact hno I _ w h1 (h2.put hd (r := .val undef) rfl) (by rw [Act.defers_put]; exact h3)

/-- A guarded operation whose guard says yes goes as one without a guard. -/
theorem JL_guard_yes {ops : Array Oper} {o oj : Oper} {l : List Oper} {j d : Nat} {want : Bool} (hg : o.guard = some (j, want)) (hj : ops[j]? = some oj) (hdj : oj.dst = some d) (hr : get ρ d = .val (.bool want)) (hn : d < k.n)
 (hy : JL k ops ({ o with guard := none } :: l) Q ρ h) : JL k ops (o :: l) Q ρ h := by
 intro I a w h1 h2 h3
 have hw := wanted_of (ops := ops) h2 hg hj hdj hr hn
 have := hy I a w h1 h2 h3
 unfold wpList at this ⊢
 rw [if_pos (by rw [hw]; simp)]
 rw [if_pos (by simp [Region.wanted])] at this
 exact this

theorem wanted_undef {ops : Array Oper} {o oj : Oper} {j d : Nat} {want : Bool} {n : Nat} {w : World} {I : Nat → Prop} {a : Act} (h2 : SF n w I ρ a) (hg : o.guard = some (j, want)) (hj : ops[j]? = some oj) (hd : oj.dst = some d) (hr : get ρ d = .val undef) :
 Region.wanted o (yielded ops a.tmps) = false := by
 have hv := h2.2 d
 rw [hr] at hv
 have hv' : a.tmps.getD d undef = undef := hv
 rw [Array.getD_eq_getD_getElem?] at hv'
 simp only [Region.wanted, hg, yielded, hj, Option.bind_some, hd]
 cases hx : a.tmps[d]? with
 | none => rfl
 | some v =>
   rw [hx] at hv'
   have : v = undef := hv'
   subst this
   rfl
/-- A guarded operation whose guard was itself passed over. -/
theorem JL_guard_un {ops : Array Oper} {o oj : Oper} {l : List Oper} {j d : Nat} {want : Bool} (hg : o.guard = some (j, want)) (hj : ops[j]? = some oj) (hdj : oj.dst = some d) (hr : get ρ d = .val undef)
 (hd : ∀ t, o.dst = some t → t < k.n) (hno : JL k ops l Q (put ρ o.dst (.val undef)) h) : JL k ops (o :: l) Q ρ h := by
 intro I a w h1 h2 h3
 have hw := wanted_undef (ops := ops) h2 hg hj hdj hr
 unfold wpList
 rw [if_neg (by rw [hw]; simp)]
 exact hno I _ w h1 (h2.put hd (r := .val undef) rfl) (by rw [Act.defers_put]; exact h3)
end
end Go.Av
namespace Go.Av
open Go
set_option linter.unusedVariables false
set_option linter.unusedSimpArgs false

def D.av : D → AV
 | .i k n => .val (.int k n)
 | .b x => .val (.bool x)
 | .s x => .val (.string x)
 | .l sz eb rows => .d (.l sz eb rows)

theorem D.av_rel {w : World} {I : Nat → Prop} {x : D} {v : Value} (h : Rel w I x v) : AV.rel w I x.av v := by
 cases h with
 | i k n => rfl
 | b x => rfl
 | s x => rfl
 | nil sz eb => exact .nil sz eb
 | emp sz eb ad => exact .emp sz eb ad
 | l sz eb rows ad cap css hI hcap hm hb hsz hc hr => exact .l sz eb rows ad cap css hI hcap hm hb hsz hc hr

theorem rel_val {w : World} {I : Nat → Prop} {x : AV} {u v : Value} (h : AV.rel w I x v) (e : x = .val u) : v = u := by subst e; exact h
theorem rel_as {w : World} {I : Nat → Prop} {x y : AV} {v : Value} (h : AV.rel w I x v) (e : x = y) : AV.rel w I y v := e ▸ h

section
variable {P : Program} {G : List (Nat × List D)} {ρ : Env} {h : H} {dst : Option Tmp} {ty : TypeId} {pos : String} {after : Array Edge} {g : Option (Nat × Bool)}

theorem pure_free {o : Oper} {r : AV} (hp : ∀ (w : World) (I : Nat → Prop) (n : Nat) (a : Act), SF n w I ρ a → ∃ v, AV.rel w I r v ∧ ∀ w', (execOp a.eval o).run P w' = .ok (.value v) w') : Pure P G o ρ h r :=
 fun _ I n a w _ _ hs => let ⟨v, h1, h2⟩ := hp w I n a hs; ⟨v, h1, fun w' _ => h2 w'⟩

theorem pure_move {x : Operand} {r : AV} (hx : ev ρ x = r) : Pure P G ⟨dst, .move x, ty, pos, after, g⟩ ρ h r :=
 pure_free fun _ _ _ a hs => ⟨a.eval x, rel_as (hs.ev x) hx, fun _ => rfl⟩
theorem pure_assign {x : Operand} {r : AV} (hx : ev ρ x = r) : Pure P G ⟨dst, .assign x, ty, pos, after, g⟩ ρ h r :=
 pure_free fun _ _ _ a hs => ⟨a.eval x, rel_as (hs.ev x) hx, fun _ => rfl⟩
theorem pure_pick_true {c x y : Operand} {r : AV} (hc : ev ρ c = .val (.bool true)) (hx : ev ρ x = r) : Pure P G ⟨dst, .pick c x y, ty, pos, after, g⟩ ρ h r :=
 pure_free fun _ _ _ a hs => ⟨a.eval x, rel_as (hs.ev x) hx, fun _ => by have := rel_val (hs.ev c) hc; simp [execOp, this, asBool]⟩
theorem pure_pick_false {c x y : Operand} {r : AV} (hc : ev ρ c = .val (.bool false)) (hy : ev ρ y = r) : Pure P G ⟨dst, .pick c x y, ty, pos, after, g⟩ ρ h r :=
 pure_free fun _ _ _ a hs => ⟨a.eval y, rel_as (hs.ev y) hy, fun _ => by have := rel_val (hs.ev c) hc; simp [execOp, this, asBool]⟩

/-- An operation on two values that are told exactly. -/
theorem pure_bin {op : BinOp} {T T' : TypeId} {x y : Operand} {u v r : Value} (hx : ev ρ x = .val u) (hy : ev ρ y = .val v) (hg : ∀ w, (eqGuard op T x y u v).run P w = .ok () w) (hr : ∀ w, (binOp op T u v).run P w = .ok r w) :
 Pure P G ⟨dst, .binOp op T x y T', ty, pos, after, g⟩ ρ h (.val r) :=
 pure_free fun _ _ _ a hs => ⟨r, rfl, fun w => by
  have e1 := rel_val (hs.ev x) hx
  have e2 := rel_val (hs.ev y) hy
  simp [execOp, e1, e2, hg, hr]⟩

def inI64 (n : Int) : Prop := -9223372036854775808 ≤ n ∧ n ≤ 9223372036854775807
theorem wrap_in {n : Int} (hn : inI64 n) : IntKind.i64.wrap n = n := by
 obtain ⟨h1, h2⟩ := hn
 rw [IntKind.wrap_i64]; omega

theorem pure_add {T T' : TypeId} {x y : Operand} {m n : Int} (hx : ev ρ x = .int m) (hy : ev ρ y = .int n) (hb : inI64 (m + n)) : Pure P G ⟨dst, .binOp .add T x y T', ty, pos, after, g⟩ ρ h (.int (m + n)) :=
 pure_bin hx hy (fun _ => by rw [eqGuard_add]; rfl) fun _ => by rw [binOp_add]; simp [Op.intArith, wrap_in hb]
theorem pure_sub {T T' : TypeId} {x y : Operand} {m n : Int} (hx : ev ρ x = .int m) (hy : ev ρ y = .int n) (hb : inI64 (m - n)) : Pure P G ⟨dst, .binOp .sub T x y T', ty, pos, after, g⟩ ρ h (.int (m - n)) :=
 pure_bin hx hy (fun _ => by rw [eqGuard_sub]; rfl) fun _ => by rw [binOp_sub]; simp [Op.intArith, wrap_in hb]
theorem pure_mul {T T' : TypeId} {x y : Operand} {m n : Int} (hx : ev ρ x = .int m) (hy : ev ρ y = .int n) (hb : inI64 (m * n)) : Pure P G ⟨dst, .binOp .mul T x y T', ty, pos, after, g⟩ ρ h (.int (m * n)) :=
 pure_bin hx hy (fun _ => by rw [eqGuard_mul]; rfl) fun _ => by rw [binOp_mul]; simp [Op.intArith, wrap_in hb]
theorem pure_quo {T T' : TypeId} {x y : Operand} {m n : Int} (hx : ev ρ x = .int m) (hy : ev ρ y = .int n) (h0 : 0 ≤ m) (h1 : 0 < n) (hm : m ≤ 9223372036854775807) : Pure P G ⟨dst, .binOp .quo T x y T', ty, pos, after, g⟩ ρ h (.int (m / n)) :=
 pure_bin hx hy (fun _ => by rw [eqGuard_quo]; rfl) fun _ => by
  have hn : n ≠ 0 := by omega
  have hd : m / n ≤ m := Int.ediv_le_self _ h0
  have hd0 : 0 ≤ m / n := Int.ediv_nonneg h0 (by omega)
  rw [binOp_quo]; simp [Op.intDiv, hn, Int.tdiv_eq_ediv_of_nonneg h0, wrap_in (n := m / n) ⟨by omega, by omega⟩]
theorem pure_rem {T T' : TypeId} {x y : Operand} {m n : Int} (hx : ev ρ x = .int m) (hy : ev ρ y = .int n) (h0 : 0 ≤ m) (h1 : 0 < n) : Pure P G ⟨dst, .binOp .rem T x y T', ty, pos, after, g⟩ ρ h (.int (m % n)) :=
 pure_bin hx hy (fun _ => by rw [eqGuard_rem]; rfl) fun _ => by
  have hn : n ≠ 0 := by omega
  rw [binOp_rem]; simp [Op.intDiv, hn, Int.tmod_eq_emod_of_nonneg h0]
theorem pure_lss {T T' : TypeId} {x y : Operand} {k : IntKind} {m n : Int} (hx : ev ρ x = .val (.int k m)) (hy : ev ρ y = .val (.int k n)) : Pure P G ⟨dst, .binOp .lss T x y T', ty, pos, after, g⟩ ρ h (.bool (decide (m < n))) :=
 pure_bin hx hy (fun _ => by rw [eqGuard_lss]; rfl) fun _ => by rw [binOp_lss]; rfl
theorem pure_leq {T T' : TypeId} {x y : Operand} {k : IntKind} {m n : Int} (hx : ev ρ x = .val (.int k m)) (hy : ev ρ y = .val (.int k n)) : Pure P G ⟨dst, .binOp .leq T x y T', ty, pos, after, g⟩ ρ h (.bool (decide (m ≤ n))) :=
 pure_bin hx hy (fun _ => by rw [eqGuard_leq]; rfl) fun _ => by rw [binOp_leq]; rfl
theorem pure_gtr {T T' : TypeId} {x y : Operand} {k : IntKind} {m n : Int} (hx : ev ρ x = .val (.int k m)) (hy : ev ρ y = .val (.int k n)) : Pure P G ⟨dst, .binOp .gtr T x y T', ty, pos, after, g⟩ ρ h (.bool (decide (n < m))) :=
 pure_bin hx hy (fun _ => by rw [eqGuard_gtr]; rfl) fun _ => by rw [binOp_gtr]; rfl
theorem pure_geq {T T' : TypeId} {x y : Operand} {k : IntKind} {m n : Int} (hx : ev ρ x = .val (.int k m)) (hy : ev ρ y = .val (.int k n)) : Pure P G ⟨dst, .binOp .geq T x y T', ty, pos, after, g⟩ ρ h (.bool (decide (n ≤ m))) :=
 pure_bin hx hy (fun _ => by rw [eqGuard_geq]; rfl) fun _ => by rw [binOp_geq]; rfl
theorem pure_eql {T T' : TypeId} {x y : Operand} {k : IntKind} {m n : Int} (hx : ev ρ x = .val (.int k m)) (hy : ev ρ y = .val (.int k n)) : Pure P G ⟨dst, .binOp .eql T x y T', ty, pos, after, g⟩ ρ h (.bool (decide (m = n))) :=
 pure_bin hx hy (fun _ => by rw [eqGuard_at_int]; rfl) fun _ => by rw [binOp_eql]; rfl
theorem bne_decide (m n : Int) : (m != n) = decide (m ≠ n) := by
 by_cases h : m = n <;> simp [h]
theorem pure_neq {T T' : TypeId} {x y : Operand} {k : IntKind} {m n : Int} (hx : ev ρ x = .val (.int k m)) (hy : ev ρ y = .val (.int k n)) : Pure P G ⟨dst, .binOp .neq T x y T', ty, pos, after, g⟩ ρ h (.bool (decide (m ≠ n))) :=
 pure_bin hx hy (fun _ => by rw [eqGuard_at_int]; rfl) fun _ => by rw [binOp_neq, bne_decide]; rfl
theorem pure_eql_bool {T T' : TypeId} {x y : Operand} {p q : Bool} (hT : P.underlying T = some .bool) (hx : ev ρ x = .bool p) (hy : ev ρ y = .bool q) : Pure P G ⟨dst, .binOp .eql T x y T', ty, pos, after, g⟩ ρ h (.bool (p == q)) :=
 pure_bin hx hy (fun _ => by rw [eqGuard_at_bool]; rfl) fun w => by simp [binOp, Op.equal, Op.maxDepth, run_equalIn_bool' w 9999 T p q hT]
theorem pure_neq_bool {T T' : TypeId} {x y : Operand} {p q : Bool} (hT : P.underlying T = some .bool) (hx : ev ρ x = .bool p) (hy : ev ρ y = .bool q) : Pure P G ⟨dst, .binOp .neq T x y T', ty, pos, after, g⟩ ρ h (.bool (!(p == q))) :=
 pure_bin hx hy (fun _ => by rw [eqGuard_at_bool]; rfl) fun w => by simp [binOp, Op.equal, Op.maxDepth, run_equalIn_bool' w 9999 T p q hT]
theorem pure_eql_string {T T' : TypeId} {x y : Operand} {s t : ByteArray} (hx : ev ρ x = .val (.string s)) (hy : ev ρ y = .val (.string t)) : Pure P G ⟨dst, .binOp .eql T x y T', ty, pos, after, g⟩ ρ h (.bool (s == t)) :=
 pure_bin hx hy (fun _ => by rw [eqGuard_at_string]; rfl) fun w => by simp [binOp, Op.stringOp, beq_toListBytes]
theorem pure_neq_string {T T' : TypeId} {x y : Operand} {s t : ByteArray} (hx : ev ρ x = .val (.string s)) (hy : ev ρ y = .val (.string t)) : Pure P G ⟨dst, .binOp .neq T x y T', ty, pos, after, g⟩ ρ h (.bool (!(s == t))) :=
 pure_bin hx hy (fun _ => by rw [eqGuard_at_string]; rfl) fun w => by simp [binOp, Op.stringOp, beq_toListBytes]
theorem pure_shl {T T' : TypeId} {x y : Operand} {m n : Int} (hx : ev ρ x = .int m) (hy : ev ρ y = .int n) (h0 : 0 ≤ n) (h1 : n ≤ 64) (hb : inI64 (m * 2 ^ n.toNat)) : Pure P G ⟨dst, .binOp .shl T x y T', ty, pos, after, g⟩ ρ h (.int (m * 2 ^ n.toNat)) :=
 pure_bin hx hy (fun _ => by rw [eqGuard_shl]; rfl) fun _ => by rw [binOp_shl, shift_shl .i64 .i64 m n h0 h1, wrap_in hb]; rfl
theorem pure_shr {T T' : TypeId} {x y : Operand} {m n : Int} (hx : ev ρ x = .int m) (hy : ev ρ y = .int n) (h0 : 0 ≤ n) (h1 : n ≤ 64) : Pure P G ⟨dst, .binOp .shr T x y T', ty, pos, after, g⟩ ρ h (.int (m / 2 ^ n.toNat)) :=
 pure_bin hx hy (fun _ => by rw [eqGuard_shr]; rfl) fun _ => by rw [binOp_shr, shift_shr .i64 .i64 m n h0 h1]; rfl
theorem pure_and {T T' : TypeId} {x y : Operand} {m n : Int} (hx : ev ρ x = .int m) (hy : ev ρ y = .int n) : Pure P G ⟨dst, .binOp .and T x y T', ty, pos, after, g⟩ ρ h (.int (bits .and .i64 m n)) :=
 pure_bin hx hy (fun _ => by rw [eqGuard_and]; rfl) fun _ => by rw [binOp_and, intBits_and]; rfl
theorem pure_or {T T' : TypeId} {x y : Operand} {m n : Int} (hx : ev ρ x = .int m) (hy : ev ρ y = .int n) : Pure P G ⟨dst, .binOp .or T x y T', ty, pos, after, g⟩ ρ h (.int (bits .or .i64 m n)) :=
 pure_bin hx hy (fun _ => by rw [eqGuard_or]; rfl) fun _ => by rw [binOp_or, intBits_or]; rfl

theorem pure_not {T : TypeId} {x : Operand} {b : Bool} (hx : ev ρ x = .bool b) : Pure P G ⟨dst, .unOp .not T x, ty, pos, after, g⟩ ρ h (.bool (!b)) :=
 pure_free fun _ _ _ a hs => ⟨_, rfl, fun w => by have e1 := rel_val (hs.ev x) hx; simp [execOp, e1, Op.unary]⟩
theorem pure_neg {T : TypeId} {x : Operand} {m : Int} (hx : ev ρ x = .int m) (hb : inI64 (-m)) : Pure P G ⟨dst, .unOp .neg T x, ty, pos, after, g⟩ ρ h (.int (-m)) :=
 pure_free fun _ _ _ a hs => ⟨_, rfl, fun w => by have e1 := rel_val (hs.ev x) hx; simp [execOp, e1, Op.unary, Op.intArith, wrap_in hb]⟩
theorem pure_convert {S T : TypeId} {x : Operand} {k k' : IntKind} {m : Int} (hS : (P.underlying S).isSome = true) (hT : P.underlying T = some (.int k')) (hx : ev ρ x = .val (.int k m)) : Pure P G ⟨dst, .convert S T x, ty, pos, after, g⟩ ρ h (.val (.int k' (k'.wrap m))) :=
 pure_free fun _ _ _ a hs => ⟨_, rfl, fun w => by
  have e1 := rel_val (hs.ev x) hx
  obtain ⟨d, hd⟩ := Option.isSome_iff_exists.mp hS
  simp [execOp, e1, convert, run_underlying hd, run_underlying hT, Conv.intToInt]⟩
theorem pure_makeInterface {T : TypeId} {x : Operand} {v : Value} (hT : ∃ d, P.underlying T = some d ∧ ∀ m, d ≠ .interface m) (hx : ev ρ x = .val v) : Pure P G ⟨dst, .makeInterface T x, ty, pos, after, g⟩ ρ h (.val (.iface T v)) :=
 pure_free fun _ _ _ a hs => ⟨_, rfl, fun w => by
  have e1 := rel_val (hs.ev x) hx
  obtain ⟨d, hd, hne⟩ := hT
  simp only [execOp, e1, Instr.makeInterface, Sem.run_bind, run_underlying hd, Result.andThen_ok]
  cases d <;> first | (exact absurd rfl (hne _)) | rfl⟩
theorem pure_extract {x : Operand} {i : Nat} {vs : List AV} {r : AV} (hx : ev ρ x = .tup vs) (hi : vs[i]? = some r) : Pure P G ⟨dst, .extract x i, ty, pos, after, g⟩ ρ h r :=
 pure_free fun w I _ a hs => by
  have e1 := rel_as (hs.ev x) hx
  obtain ⟨us, e2, e3⟩ := e1
  obtain ⟨v, hv, hr⟩ := AV.rels_get e3 i r hi
  exact ⟨v, hr, fun w => by simp [execOp, e2, Instr.extract, hv]⟩
theorem pure_len {T : TypeId} {x : Operand} {sz eb : Nat} {rows : List (List D)} {E : TypeId} (hT : P.underlying T = some (.slice E)) (hx : ev ρ x = .d (.l sz eb rows)) : Pure P G ⟨dst, .call { callee := .builtin .len, args := #[x], argTypes := #[T] }, ty, pos, after, g⟩ ρ h (.int rows.length) :=
 pure_free fun w I _ a hs => by
  have e1 := rel_as (hs.ev x) hx
  refine ⟨_, rfl, fun w' => ?_⟩
  have key : ∀ ad c, a.eval x = .slice ad rows.length c → (execOp a.eval ⟨dst, .call { callee := .builtin .len, args := #[x], argTypes := #[T] }, ty, pos, after, g⟩).run P w' = .ok (.value (.int .i64 rows.length)) w' := fun ad c he => by
   simp [execOp, resolve, invoke, builtin, he, Builtin.len_, run_underlying hT, goInt]
  generalize hv : a.eval x = v at e1
  cases e1 with
  | nil => exact key _ _ hv
  | emp => exact key _ _ hv
  | l _ _ _ ad cap css => exact key _ _ hv
theorem pure_len_nil {T : TypeId} {x : Operand} {ad : Option Addr} {n c : Nat} {E : TypeId} (hT : P.underlying T = some (.slice E)) (hx : ev ρ x = .val (.slice ad n c)) : Pure P G ⟨dst, .call { callee := .builtin .len, args := #[x], argTypes := #[T] }, ty, pos, after, g⟩ ρ h (.int n) :=
 pure_free fun w I _ a hs => ⟨_, rfl, fun w' => by have e1 := rel_val (hs.ev x) hx; simp [execOp, resolve, invoke, builtin, e1, Builtin.len_, run_underlying hT, goInt]⟩
theorem pure_len_string {T : TypeId} {x : Operand} {s : ByteArray} (hT : P.underlying T = some .string) (hx : ev ρ x = .val (.string s)) : Pure P G ⟨dst, .call { callee := .builtin .len, args := #[x], argTypes := #[T] }, ty, pos, after, g⟩ ρ h (.int s.size) :=
 pure_free fun w I _ a hs => ⟨_, rfl, fun w' => by have e1 := rel_val (hs.ev x) hx; simp [execOp, resolve, invoke, builtin, e1, Builtin.len_, run_underlying hT, goInt]⟩

/-- Of a type: its zero value, how many cells, how many bytes. -/
def El (P : Program) (E : TypeId) (z : Value) (sz eb : Nat) : Prop := (P.info? E).map (fun i => (i.zero, i.size, i.bytes)) = some (some z, sz, eb)
theorem El.get {P : Program} {E : TypeId} {z : Value} {sz eb : Nat} (h : El P E z sz eb) : ∃ i, P.info? E = some i ∧ i.zero = some z ∧ i.size = sz ∧ i.bytes = eb := by
 unfold El at h
 cases hi : P.info? E with
 | none => rw [hi] at h; cases h
 | some i =>
   rw [hi] at h
   simp only [Option.map_some, Option.some.injEq, Prod.mk.injEq] at h
   exact ⟨i, rfl, h.1, h.2.1, h.2.2⟩

theorem addr_block (ad : Addr) (u : Nat) : (ad.add u).block = ad.block := by unfold Addr.add; split <;> rfl

/-- An index into a slice that nobody writes: where the element's cells lie. -/
theorem pure_indexAddr {T E : TypeId} {x y : Operand} {sz eb : Nat} {rows : List (List D)} {n : Int} {z : Value} {eb' : Nat} {r : List D} (hT : P.underlying T = some (.slice E)) (hE : El P E z sz eb')
 (hx : ev ρ x = .d (.l sz eb rows)) (hy : ev ρ y = .int n) (h0 : 0 ≤ n) (hr : rows[n.toNat]? = some r) : Pure P G ⟨dst, .indexAddr T x y, ty, pos, after, g⟩ ρ h (.pd r) :=
 pure_free fun w I _ a hs => by
  obtain ⟨i, hE, _, hsz, _⟩ := hE.get
  have e1 := rel_as (hs.ev x) hx
  have e2 := rel_val (hs.ev y) hy
  have hlt : n.toNat < rows.length := (List.getElem?_eq_some_iff.1 hr).1
  generalize hv : a.eval x = v at e1
  cases e1 with
  | nil => simp at hlt
  | emp => simp at hlt
  | l _ _ _ ad cap css hI hcap hm hb hsz' hc hrel =>
    refine ⟨.pointer (some (ad.add (n.toNat * sz))), ⟨_, rfl, by rw [addr_block]; exact hI, fun u x hx => ?_⟩, fun w' => ?_⟩
    · rw [Addr.add_add]
      exact ⟨_, hc _ u r x hr hx, hrel _ u r x hr hx⟩
    · have hn : n < (rows.length : Int) := by omega
      simp [execOp, hv, e2, Instr.indexAt, run_underlying hT, asIntOf, h0, hn, sizeOf, typeInfo, hE, hsz]

/-- A struct's field: where it lies. -/
def Fld (P : Program) (S f off : Nat) : Prop := (match P.underlying S with | some (.struct fs) => (fs[f]?).bind fun fd => ((P.info? fd.type).bind fun i => if i.size = 0 then none else some fd.offset) | _ => none) = some off
theorem Fld.get {P : Program} {S f off : Nat} (h : Fld P S f off) : ∃ fs fd i, P.underlying S = some (.struct fs) ∧ fs[f]? = some fd ∧ P.info? fd.type = some i ∧ i.size ≠ 0 ∧ fd.offset = off := by
 unfold Fld at h
 split at h
 · rename_i fs hS
   cases hf : fs[f]? with
   | none => rw [hf] at h; cases h
   | some fd =>
     rw [hf] at h
     simp only [Option.bind_some] at h
     cases hi : P.info? fd.type with
     | none => rw [hi] at h; cases h
     | some i =>
       rw [hi] at h
       simp only [Option.bind_some] at h
       split at h
       · cases h
       · rename_i hne
         exact ⟨fs, fd, i, hS, hf, hi, hne, by simpa using h⟩
 · cases h

theorem pure_fieldAddr {S : TypeId} {x : Operand} {f : Nat} {cs : List D} {off : Nat} (hF : Fld P S f off)
 (hx : ev ρ x = .pd cs) : Pure P G ⟨dst, .fieldAddr S x f, ty, pos, after, g⟩ ρ h (.pd (cs.drop off)) :=
 pure_free fun w I _ a hs => by
  obtain ⟨fs, fd, i, hS, hf, hi, hne, rfl⟩ := hF.get
  obtain ⟨ad, e1, hI, hc⟩ := rel_as (hs.ev x) hx
  refine ⟨.pointer (some (ad.add fd.offset)), ⟨_, rfl, by rw [addr_block]; exact hI, fun u x hx => ?_⟩, fun w' => ?_⟩
  · rw [Addr.add_add]
    rw [List.getElem?_drop] at hx
    exact hc _ x hx
  · simp [execOp, e1, Instr.fieldAt, run_underlying hS, hf, Instr.sureAddr, fieldPlace, sizeOf, typeInfo, hi, hne]

def isAggB (P : Program) (t : TypeId) : Option Bool :=
 match P.underlying t with
 | some (.struct _) | some (.array _ _) => some true
 | some _ => some false
 | none => none
theorem run_isAgg {t : TypeId} {b : Bool} (ht : isAggB P t = some b) (w : World) : (isAgg t).run P w = .ok b w := by
 unfold isAggB at ht
 cases hu : P.underlying t with
 | none => rw [hu] at ht; cases ht
 | some d =>
   rw [hu] at ht
   simp only [isAgg, Sem.run_bind, run_underlying hu, Result.andThen_ok]
   cases d <;> simp at ht <;> subst ht <;> rfl

/-- One cell read where nobody writes. -/
theorem pure_load {T : TypeId} {x : Operand} {c : D} {cs : List D} (hT : isAggB P T = some false) (hx : ev ρ x = .pd (c :: cs)) : Pure P G ⟨dst, .load T x, ty, pos, after, g⟩ ρ h c.av := by
 intro k I n a w _ hok hs
 obtain ⟨ad, e1, hI, hc⟩ := rel_as (hs.ev x) hx
 obtain ⟨u, hu, hr⟩ := hc 0 c rfl
 refine ⟨u, D.av_rel hr, fun w' hw' => ?_⟩
 have hb : (ad.add 0).block = ad.block := addr_block _ _
 have hcell : w'.cell? ad = some u := by
  rw [World.cell?_of_block (w := w) (hw'.imm _ hI)]
  simpa [Addr.add] using hu
 simp [execOp, e1, Instr.loadAt, Instr.sureAddr, loadVar, run_isAgg hT, run_load, hcell]

/-- The same, the cell named by its place. -/
theorem pure_load_at {T : TypeId} {x : Operand} {c : D} {cs : List D} (hT : isAggB P T = some false) (hx : ev ρ x = .pd cs) (hc : cs[0]? = some c) : Pure P G ⟨dst, .load T x, ty, pos, after, g⟩ ρ h c.av := by
 cases cs with
 | nil => cases hc
 | cons c' cs => simp at hc; subst hc; exact pure_load hT hx

theorem rels_av {w : World} {I : Nat → Prop} : ∀ (cs : List D) (f : Nat → Value), (∀ u x, cs[u]? = some x → Rel w I x (f u)) → AV.rels w I (cs.map D.av) ((List.range cs.length).map f)
 | [], _, _ => trivial
 | c :: cs, f, hf => by
   have ih := rels_av cs (fun u => f (u + 1)) fun u x hx => hf (u + 1) x (by simpa using hx)
   simp only [List.length_cons, List.range_succ_eq_map, List.map_cons, List.map_map]
   exact ⟨D.av_rel (hf 0 c rfl), ih⟩

/-- A struct read where nobody writes. -/
theorem pure_load_agg {T : TypeId} {x : Operand} {cs cs' : List D} {z : Value} {sz eb : Nat} (hT : isAggB P T = some true) (hE : El P T z sz eb) (hx : ev ρ x = .pd cs') (hpre : cs'.take sz = cs) (hn : sz = cs.length) : Pure P G ⟨dst, .load T x, ty, pos, after, g⟩ ρ h (.agg (cs.map D.av)) := by
 intro k I n a w _ hok hs
 obtain ⟨i, hi, _, hsz, _⟩ := hE.get
 obtain ⟨ad, e1, hI, hc⟩ := rel_as (hs.ev x) hx
 have hget : ∀ u x, cs[u]? = some x → cs'[u]? = some x := fun u x hux => by
  rw [← hpre, List.getElem?_take] at hux
  split at hux
  · exact hux
  · cases hux
 let f : Nat → Value := fun u => (w.cell? (ad.add u)).getD undef
 have hf : ∀ u x, cs[u]? = some x → w.cell? (ad.add u) = some (f u) ∧ Rel w I x (f u) := fun u x hux => by
  obtain ⟨v, h1, h2⟩ := hc u x (hget u x hux)
  simp only [f, h1, Option.getD_some]
  exact ⟨trivial, h2⟩
 refine ⟨.agg ((List.range cs.length).map f).toArray, ⟨_, rfl, rels_av cs f fun u x hux => (hf u x hux).2⟩, fun w' hw' => ?_⟩
 have hload := run_loadCells (P := P) w' ad cs.length f fun j hj => by
  rw [World.cell?_of_block (w := w)]
  · exact (hf j cs[j] (List.getElem?_eq_getElem hj)).1
  · rw [addr_block]; exact hw'.imm _ hI
 simp [execOp, e1, Instr.loadAt, Instr.sureAddr, loadVar, run_isAgg hT, sizeOf, typeInfo, hi, hsz, hn, hload]

/-- The address of what nobody writes is not nil. -/
theorem pure_nilCheck_pd {x : Operand} {cs : List D} (hx : ev ρ x = .pd cs) : Pure P G ⟨dst, .nilCheck x, ty, pos, after, g⟩ ρ h (.pd cs) :=
 pure_free fun w I _ a hs => by
  obtain ⟨ad, e1, h1⟩ := rel_as (hs.ev x) hx
  exact ⟨.pointer (some ad), ⟨ad, rfl, h1⟩, fun w' => by simp [execOp, e1]⟩
theorem pure_nilCheck {x : Operand} {ad : Addr} (hx : ev ρ x = .val (.pointer (some ad))) : Pure P G ⟨dst, .nilCheck x, ty, pos, after, g⟩ ρ h (.val (.pointer (some ad))) :=
 pure_free fun w I _ a hs => ⟨_, rfl, fun w' => by have e1 := rel_val (hs.ev x) hx; simp [execOp, e1]⟩
end
end Go.Av
namespace Go.Av
open Go
set_option linter.unusedVariables false
set_option linter.unusedSimpArgs false

section
variable {P : Program} {ops : Array Oper} {md : Region.Mode} {C : World → Prop}

/-- Whatever order the head's operations are picked in. -/
def headQ (P : Program) (md : Region.Mode) (ops : Array Oper) (C : World → Prop) (n : Nat) (L : Array Bool → Act → Prop) : Nat → Array Bool → Act → Prop
 | 0, listed, a => L listed a
 | f + 1, listed, a => Region.ready md ops listed ≠ [] ∧ ∀ i ∈ Region.ready md ops listed, i < n ∧ qOp P ops C i (headQ P md ops C n L f (listed.setIfInBounds i true)) a

theorem any_of_headQ {n g : Nat} {L : Array Bool → Act → Prop} {Q' : Exit → Act → World → Prop} (hL : ∀ listed a w, C w → L listed a → wpAny P md ops Q' g listed a w) :
 ∀ (f : Nat) (listed : Array Bool) (a : Act) (w : World), C w → headQ P md ops C n L f listed a → wpAny P md ops Q' (f + g) listed a w := by
 intro f
 induction f with
 | zero => intro listed a w hw h; rw [Nat.zero_add]; exact hL _ _ _ hw h
 | succ f ih =>
   intro listed a w hw h
   rw [show f + 1 + g = (f + g) + 1 by omega]
   exact ⟨fun h0 => absurd h0 h.1, fun i hi => wpOp_of_qOp hw (fun a' w' hw' h' => ih _ a' w' hw' h') (h.2 i hi).2⟩

theorem headQ_first {n i : Nat} {oi : Oper} {v : Value} {L : Array Bool → Act → Prop} (hi : ops[i]? = some oi) (hsel : ∀ (j : Nat) (o : Oper) cs b, ops[j]? = some o → o.op ≠ .select cs b)
 (hs : Region.sinkB md ops n = true) (hc : Region.chainB md ops n = true) (hn : n < ops.size) (hin : i < n)
 (hdone : ∀ listed a, L listed a → ∀ j ∈ Region.ready md ops listed, n ≤ j) (f : Nat) :
 ∀ (listed : Array Bool) (a : Act), HeadInv md ops n listed →
  (∀ j oj, ops[j]? = some oj → j ≠ i → listed.getD j true = false → (∀ e ∈ oj.after, Region.binds md e = true → e.on ≠ i) → oi.apart ops oj = true) →
  i ∈ Region.ready md ops listed → YieldsIn P ops C oi v a →
  headQ P md ops C n L f (listed.setIfInBounds i true) (a.put oi.dst v) → headQ P md ops C n L (f + 1) listed a := by
 have low : ∀ (listed : Array Bool), HeadInv md ops n listed → i ∈ Region.ready md ops listed → ∀ j ∈ Region.ready md ops listed, j < n := fun listed inv hr j hj => by
  rcases Nat.lt_or_ge j n with h | h
  · exact h
  · exact absurd hj (tail_waits hs hc hn inv _ i rfl hin (mem_ready.1 hr).1 j h)
 induction f with
 | zero =>
   intro listed a inv _ hr hy H
   refine ⟨fun h => (by rw [h] at hr; cases hr), fun j hj => ⟨low listed inv hr j hj, ?_⟩⟩
   by_cases hji : j = i
   · subst hji; exact hy.qOp hi H
   · have := hdone _ _ H j (ready_mono hj hji)
     have := low listed inv hr j hj
     omega
 | succ f ih =>
   intro listed a inv hfree hr hy H
   refine ⟨fun h => (by rw [h] at hr; cases hr), fun j hj => ⟨low listed inv hr j hj, ?_⟩⟩
   by_cases hji : j = i
   · subst hji; exact hy.qOp hi H
   have h1 := (H.2 j (ready_mono hj hji)).2
   obtain ⟨hjun, oj, hoj, hall⟩ := mem_ready.1 hj
   have hun := (mem_ready.1 hr).1
   have hnot : ∀ e ∈ oj.after, Region.binds md e = true → e.on ≠ i := fun e he hb heq => by
    have h0 := hall e he hb
    rw [heq, getD_both hun] at h0
    cases h0
   have h2 := qOp_put hoj (hfree j oj hoj hji hjun hnot) (fun cs b => hsel i oi cs b hi) (fun cs b => hsel j oj cs b hoj) hy h1
   refine qOp_mono (fun a' h3 => ih (listed.setIfInBounds j true) a' (inv.set hj (low listed inv hr j hj)) (fun k ok hk hki hu hno => hfree k ok hk hki ?_ hno) (ready_mono hr (Ne.symm hji)) h3.1 ?_) h2
   · by_cases hjk : j = k
     · subst hjk; exact hjun
     · rwa [getD_set_ne true hjk] at hu
   · rw [Array.setIfInBounds_comm _ _ hji]
     exact h3.2

theorem headQ_lex {n g : Nat} {Lq : Act → Prop} (hsel : Region.noSelect ops = true) (hs : Region.sinkB md ops n = true) (hc : Region.chainB md ops n = true) (hn : n < ops.size) :
 ∀ (l : List Oper) (k : Nat) (listed : Array Bool) (a : Act), (∀ j, j < l.length → l[j]? = ops[k + j]?) → k + l.length = n → HeadInv md ops n listed →
 Region.lexHead md ops g l.length k listed = true → wpQuiet P ops C Lq l a →
 headQ P md ops C n (fun listed' a' => Region.seqB md ops g n listed' = true ∧ Lq a') l.length listed a := by
 intro l
 induction l with
 | nil =>
   intro k listed a _ hk _ hB h
   obtain rfl : k = n := by simpa using hk
   exact ⟨by simpa [Region.lexHead] using hB, h⟩
 | cons o l ih =>
   intro k listed a hl hk inv hB h
   have h0 : ops[k]? = some o := by simpa using (hl 0 (by simp)).symm
   simp only [List.length_cons, Region.lexHead, Bool.and_eq_true] at hB
   simp only [List.length_cons] at hk
   have hr : k ∈ Region.ready md ops listed := by simpa using hB.1.1
   obtain ⟨v, hy, hK⟩ := yieldsIn_of_qOp (K := wpQuiet P ops C Lq l) h0 (by unfold qOp; simp only [h0]; exact h)
   exact headQ_first h0 (Region.noSelect_spec hsel) hs hc hn (by omega) (fun _ _ hL => seqB_ready hL.1) l.length listed a inv (Region.free_spec h0 hB.1.2) hr hy
    (ih (k + 1) _ _ (fun j hj => by have := hl (j + 1) (by simp; omega); simpa [Nat.add_assoc, Nat.add_comm 1 j] using this) (by omega) (inv.set hr (by omega)) hB.2 hK)

theorem wp_region_quiet_tail {id : Nat} {Q : Exit → Act → World → Prop} {a : Act} {w : World} {l : List Oper} (n : Nat) (hm : P.follows .mixedOrders = true) (hB : Region.lexTailB .any l.toArray n = true) (hC : C { w with drawn := w.drawn + 1 })
 (h : wpQuiet P l.toArray C (fun a' => ∀ w', C w' → wpList P l.toArray Q (l.drop n) a' w') (l.take n) a) : (Code.region id l.toArray true).wp P Q a w := by
 simp only [Region.lexTailB, Bool.and_eq_true, decide_eq_true_eq] at hB
 obtain ⟨⟨⟨⟨hsel, hn⟩, hs⟩, hc⟩, hlex⟩ := hB
 have hnl : n < l.length := by simpa using hn
 have htl : (l.take n).length = n := by simp; omega
 have hdl : (l.drop n).length = l.toArray.size - n := by simp
 have inv0 : HeadInv .any l.toArray n (Array.replicate l.toArray.size false) :=
  ⟨by simp, fun j oj _ hl => (by rw [getD_replicate_false] at hl; cases hl), fun t _ ht => getD_in (by simpa using ht) (getD_replicate_false _ _)⟩
 have H := headQ_lex (md := .any) (g := l.toArray.size - n) hsel hs hc hn (l.take n) 0 _ a (fun j hj => by rw [htl] at hj; simp [hj]) (by simpa using htl) inv0 (by rw [htl]; exact hlex) h
 refine wp_region_any hm ?_
 have K := any_of_headQ (Q' := Q) (g := l.toArray.size - n) (fun listed a' w' hw' hL => by
  have := wpAny_of_seq (md := .any) (Q' := Q) (l.drop n) n listed a' w' (fun j => by simp [List.getElem?_drop]) (by rw [hdl]; exact hL.1) (hL.2 w' hw')
  rwa [hdl] at this) _ _ _ _ hC H
 rw [htl, show n + (l.toArray.size - n) = l.toArray.size by omega] at K
 exact K
end
end Go.Av
namespace Go.Av
open Go
set_option linter.unusedVariables false
set_option linter.unusedSimpArgs false

section
variable {P : Program} {ops : Array Oper} {md : Region.Mode} {S S' : World → Prop}

def noQ : Exit → Act → World → Prop := fun _ _ _ => False
theorem wpOp_noQ {Q : Exit → Act → World → Prop} {i : Nat} {K : Act → World → Prop} {a : Act} {w : World} (h : wpOp P ops noQ i K a w) : wpOp P ops Q i K a w := by
 unfold wpOp at *
 cases ho : ops[i]? with
 | none => rw [ho] at h; exact h
 | some o =>
   rw [ho] at h
   dsimp only at h ⊢
   by_cases hw : Region.wanted o (yielded ops a.tmps) = true
   · rw [if_pos hw] at h ⊢
     rcases h with h | ⟨_, a', w', hf⟩
     case inr => exact hf.elim
     refine .inl ?_
     unfold Oper.wp at *
     generalize (execOp a.eval o).run P w = r at *
     cases r with
     | ok n w' =>
       cases n <;> simp only [Oper.upon] at h ⊢
       case value u => exact h
       case skip => exact h
       case defer d => exact h
       case enter f args =>
        refine Calls.mono h fun e w'' he => ?_
        cases e with
        | returned u => exact he
        | panicked c => exact he.elim
        | outgrown => obtain ⟨_, _, hf⟩ := he; exact hf.elim
       case row row args => exact Rows.mono h fun u w'' he => he
     | halt x w' =>
       cases x <;> simp only [Oper.upon] at h ⊢
       case panic u => exact h.elim
   · rw [if_neg hw] at h ⊢
     exact h
/-- Whatever order the head's operations are picked in, S holding behind each. -/
def headH (P : Program) (md : Region.Mode) (ops : Array Oper) (S : World → Prop) (n : Nat) (L : Array Bool → Act → World → Prop) : Nat → Array Bool → Act → World → Prop
 | 0, listed, a, w => L listed a w
 | f + 1, listed, a, w => Region.ready md ops listed ≠ [] ∧ ∀ i ∈ Region.ready md ops listed, i < n ∧ wpOp P ops noQ i (fun a' w' => S w' ∧ headH P md ops S n L f (listed.setIfInBounds i true) a' w') a w
theorem headH_mono {n : Nat} {L : Array Bool → Act → World → Prop} (hS : ∀ w, S w → S' w) : ∀ (f : Nat) (listed : Array Bool) (a : Act) (w : World), headH P md ops S n L f listed a w → headH P md ops S' n L f listed a w
 | 0, _, _, _, h => h
 | f + 1, listed, a, w, h => ⟨h.1, fun i hi => ⟨(h.2 i hi).1, wpOp_mono (fun a' w' h' => ⟨hS _ h'.1, headH_mono hS f _ a' w' h'.2⟩) (h.2 i hi).2⟩⟩
theorem any_of_headH {n g : Nat} {Q : Exit → Act → World → Prop} {L : Array Bool → Act → World → Prop} (hL : ∀ listed a w, L listed a w → wpAny P md ops Q g listed a w) :
 ∀ (f : Nat) (listed : Array Bool) (a : Act) (w : World), headH P md ops S n L f listed a w → wpAny P md ops Q (f + g) listed a w
 | 0, listed, a, w, h => by rw [Nat.zero_add]; exact hL _ _ _ h
 | f + 1, listed, a, w, h => by
   rw [show f + 1 + g = (f + g) + 1 by omega]
   exact ⟨fun h0 => absurd h0 h.1, fun i hi => wpOp_noQ (wpOp_mono (fun a' w' h' => any_of_headH hL f _ a' w' h'.2) (h.2 i hi).2)⟩

theorem headH_first {n i : Nat} {oi : Oper} {v : Value} {L : Array Bool → Act → World → Prop} (hi : ops[i]? = some oi) (hsel : ∀ (j : Nat) (o : Oper) cs b, ops[j]? = some o → o.op ≠ .select cs b)
 (hlow : ∀ listed, HeadInv md ops n listed → i ∈ Region.ready md ops listed → ∀ j ∈ Region.ready md ops listed, j < n) (hin : i < n)
 (hdone : ∀ listed a w, L listed a w → ∀ j ∈ Region.ready md ops listed, n ≤ j) (f : Nat) :
 ∀ (listed : Array Bool) (a : Act) (w : World), HeadInv md ops n listed →
  (∀ j oj, ops[j]? = some oj → j ≠ i → listed.getD j true = false → (∀ e ∈ oj.after, Region.binds md e = true → e.on ≠ i) → oi.apart ops oj = true) →
  i ∈ Region.ready md ops listed → YieldsIf P ops S oi v a → S w →
  headH P md ops S n L f (listed.setIfInBounds i true) (a.put oi.dst v) w → headH P md ops S n L (f + 1) listed a w := by
 induction f with
 | zero =>
   intro listed a w inv _ hr hy hS H
   refine ⟨fun h => (by rw [h] at hr; cases hr), fun j hj => ⟨hlow listed inv hr j hj, ?_⟩⟩
   by_cases hji : j = i
   · subst hji; exact hy.wpOp hi hS ⟨hS, H⟩
   · have := hdone _ _ _ H j (ready_mono hj hji)
     have := hlow listed inv hr j hj
     omega
 | succ f ih =>
   intro listed a w inv hfree hr hy hS H
   refine ⟨fun h => (by rw [h] at hr; cases hr), fun j hj => ⟨hlow listed inv hr j hj, ?_⟩⟩
   by_cases hji : j = i
   · subst hji; exact hy.wpOp hi hS ⟨hS, H⟩
   have h1 := (H.2 j (ready_mono hj hji)).2
   obtain ⟨hjun, oj, hoj, hall⟩ := mem_ready.1 hj
   have hun := (mem_ready.1 hr).1
   have hnot : ∀ e ∈ oj.after, Region.binds md e = true → e.on ≠ i := fun e he hb heq => by
    have h0 := hall e he hb
    rw [heq, getD_both hun] at h0
    cases h0
   have h2 := wpOp_putIf hoj (hfree j oj hoj hji hjun hnot) (fun cs b => hsel i oi cs b hi) (fun cs b => hsel j oj cs b hoj) (fun _ _ _ h => h) hy h1
   refine wpOp_mono (fun a' w' h3 => ⟨h3.2.1, ih (listed.setIfInBounds j true) a' w' (inv.set hj (hlow listed inv hr j hj)) (fun k ok hk hki hu hno => hfree k ok hk hki ?_ hno) (ready_mono hr (Ne.symm hji)) h3.1 h3.2.1 ?_⟩) h2
   · by_cases hjk : j = k
     · subst hjk; exact hjun
     · rwa [getD_set_ne true hjk] at hu
   · rw [Array.setIfInBounds_comm _ _ hji]
     exact h3.2.2
end
end Go.Av
namespace Go.Av
open Go
set_option linter.unusedVariables false
set_option linter.unusedSimpArgs false

/-- How a call ends, told as data. -/
inductive AE where
 | ret (r : AV)
 | pan (ch : List PanicEntry)
def AE.rel (w : World) (I : Nat → Prop) : AE → Ending → Prop
 | .ret r, .returned v => AV.rel w I r v
 | .pan ch, .panicked ch' => ch' = ch
 | _, _ => False

def ACpost (G : List (Nat × List D)) (W : World) (I : Nat → Prop) (h : H) (Q : AE → H → Prop) (e : Ending) (w' : World) : Prop :=
 ∃ r h' I', Q r h' ∧ Ok ⟨W, I, blks h, G⟩ I' h' w' ∧ AE.rel w' I' r e

/-- The contract of a function: handed these (and the entries h to write on), it ends so. -/
def AC (P : Program) (G : List (Nat × List D)) (f : FuncId) (args : List AV) (h : H) (Q : AE → H → Prop) : Prop :=
 ∀ (I : Nat → Prop) (W : World) (vs : List Value), (∀ e ∈ h, e.rel W I) → (blks h).Nodup → (∀ b, I b → b < W.heap.size ∧ b ∉ blks h) → (∀ q ∈ G, PD W I q.2 ⟨q.1, 0, none⟩) → AV.rels W I args vs →
  Calls P f vs.toArray W (ACpost G W I h Q)

/-- It hands back this, and writes on nothing. -/
abbrev ACr (P : Program) (G : List (Nat × List D)) (f : FuncId) (args : List AV) (r : AV) : Prop := AC P G f args [] fun e h => e = .ret r ∧ h = []

theorem AC.mono {P : Program} {G : List (Nat × List D)} {f : FuncId} {args : List AV} {h : H} {Q Q' : AE → H → Prop} (hc : AC P G f args h Q) (hq : ∀ e h, Q e h → Q' e h) : AC P G f args h Q' :=
 fun I W vs h1 h2 h3 h4 h5 => (hc I W vs h1 h2 h3 h4 h5).mono fun _ _ ⟨r, h', I', q, rest⟩ => ⟨r, h', I', hq _ _ q, rest⟩

def argsEnv : Nat → List AV → Env
 | _, [] => []
 | i, a :: r => (i, a) :: argsEnv (i + 1) r

theorem get_argsEnv (w : World) (I : Nat → Prop) : ∀ (args : List AV) (vs : List Value) (i t : Nat), AV.rels w I args vs → AV.rel w I (get (argsEnv i args) t) (if i ≤ t then (vs[t - i]?).getD undef else undef)
 | [], [], i, t, _ => trivial
 | a :: as, v :: vs, i, t, ⟨h1, h2⟩ => by
   simp only [argsEnv, get]
   cases hb : Nat.beq i t with
   | true =>
     have := Nat.eq_of_beq_eq_true hb
     subst this
     simpa using h1
   | false =>
     have hne : i ≠ t := fun e => by subst e; simp at hb
     have ih := get_argsEnv w I as vs (i + 1) t h2
     simp only [cond_false]
     by_cases hle : i ≤ t
     · rw [if_pos hle]
       rw [if_pos (by omega)] at ih
       have : t - i = (t - (i + 1)) + 1 := by omega
       rw [this]; simpa using ih
     · rw [if_neg hle]
       rw [if_neg (by omega)] at ih
       exact ih

def resAV (ρ : Env) : List Tmp → AV
 | [t] => get ρ t
 | ts => .tup (ts.map (get ρ))

theorem rels_map_get {n : Nat} {w : World} {I : Nat → Prop} {ρ : Env} {a : Act} (f : SF n w I ρ a) : ∀ ts : List Tmp, AV.rels w I (ts.map (get ρ)) (ts.map fun t => a.tmps.getD t undef)
 | [] => trivial
 | t :: ts => ⟨f.2 t, rels_map_get f ts⟩

def resV (tmps : Array Value) : List Tmp → Value
 | [t] => tmps.getD t undef
 | ts => .tuple (ts.map fun t => tmps.getD t undef).toArray

theorem run_results (P : Program) (fn : Func) (ts : List Tmp) (h : fn.results = (ts.map ResultVar.tmp).toArray) (tmps : Array Value) (w : World) : (results fn tmps).run P w = .ok (resV tmps ts) w := by
 have key : ∀ (F : ResultVar → Sem Value) (_ : ∀ t, F (.tmp t) = pure (tmps.getD t undef)) (ts : List Tmp) (w : World), (List.mapM F (ts.map ResultVar.tmp)).run P w = .ok (ts.map fun t => tmps.getD t undef) w := by
  intro F hF ts
  induction ts with
  | nil => intro w; rfl
  | cons t ts ih =>
    intro w
    rw [List.map_cons, List.mapM_cons]
    simp only [Sem.run_bind, Sem.run_pure, Result.andThen_ok, ih, List.map_cons, hF]
 unfold results
 rw [h]
 simp only [List.mapM_toArray, Sem.run_bind, Sem.run_map]
 rw [key _ (fun _ => rfl)]
 match ts with
 | [] => rfl
 | [t] => rfl
 | t :: u :: r => simp [resV]

def retQ (ts : List Tmp) (Q : AE → H → Prop) : Exit → Env → H → Prop
 | .normal, ρ, h => Q (.ret (resAV ρ ts)) h
 | .ret, ρ, h => Q (.ret (resAV ρ ts)) h
 | .panic ch, _, h => Q (.pan ch) h
 | _, _, _ => False

theorem AC_of {P : Program} {G : List (Nat × List D)} {f : FuncId} {fn : Func} {c : Code} {args : List AV} {h : H} {Q : AE → H → Prop} {ts : List Tmp} (n : Nat) (hf : P.funcs[f]? = some fn) (hb : fn.body = some c) (hn : fn.ntmps = n) (hr : fn.results = (ts.map ResultVar.tmp).toArray) (ha : args.length ≤ n)
 (hj : ∀ W I, J ⟨P, ⟨W, I, blks h, G⟩, n, []⟩ c (retQ ts Q) (argsEnv 0 args) h) : AC P G f args h Q := by
 intro I W vs h1 h2 h3 hG h4
 have hlen := AV.rels_length h4
 refine calls_of_wp hf hb ?_
 have hok : Ok ⟨W, I, blks h, G⟩ I h W :=
  { ent := h1, nd := h2, imm := h3, new := fun b hb => .inl hb, inew := fun b hb => .inl hb, sup := fun b hb => hb, os := rfl, tape := rfl, output := rfl, size := Nat.le_refl _, keep := fun _ _ _ => rfl, glob := hG }
 have hsf : SF n W I (argsEnv 0 args) { tmps := vs.toArray ++ Array.replicate (fn.ntmps - vs.toArray.size) undef, defers := [] } := by
  refine ⟨by simp [hn]; omega, fun t => ?_⟩
  have := get_argsEnv W I args vs 0 t h4
  simp only [Nat.zero_le, if_true, Nat.sub_zero] at this
  have e : (vs.toArray ++ Array.replicate (fn.ntmps - vs.toArray.size) undef).getD t undef = (vs[t]?).getD undef := by
   rw [Array.getD_eq_getD_getElem?, Array.getElem?_append]
   by_cases ht : t < vs.length
   · simp [ht]
   · simp only [List.size_toArray, ht, if_false]
     rw [List.getElem?_eq_none (by omega)]
     simp only [Array.getElem?_replicate]
     split <;> rfl
  rw [e]; exact this
 refine wp_mono (hj W I I _ W hok hsf rfl) ?_
 rintro e a w ⟨I', ρ', h', k1, k2, k3, k4⟩
 have hres := run_results P fn ts hr a.tmps w
 have hrel : AV.rel w I' (resAV ρ' ts) (resV a.tmps ts) := by
  match ts with
  | [] => exact ⟨[], rfl, trivial⟩
  | [t] => exact k2.2 t
  | t :: u :: r => exact ⟨_, rfl, rels_map_get k2 (t :: u :: r)⟩
 cases e with
 | normal => exact ⟨k3, _, hres, _, h', I', k4, k1, hrel⟩
 | ret => exact ⟨k3, _, hres, _, h', I', k4, k1, hrel⟩
 | panic ch => exact ⟨k3, _, h', I', k4, k1, rfl⟩
 | exit _ => exact k4.elim
 | goto _ => exact k4.elim
 | outgrown => exact k4.elim

theorem blks_append (h1 h2 : H) : blks (h1 ++ h2) = blks h1 ++ blks h2 := by simp [blks]

/-- A call's leaving, seen by the caller. -/
theorem Ok.call {c : Cx} {I I' : Nat → Prop} {hc hr h' : H} {w w' : World} (k : Ok c I (hc ++ hr) w) (k' : Ok ⟨w, I, blks hc, c.G⟩ I' h' w') : Ok c I' (h' ++ hr) w' ∧ ∀ b, I b → w'.heap[b]? = w.heap[b]? := by
 have hnd : (blks hc ++ blks hr).Nodup := by rw [← blks_append]; exact k.nd
 have hdis : ∀ b, b ∈ blks hc → b ∉ blks hr := fun b hb hb' => by
  have := (List.nodup_append.1 hnd).2.2 b hb b hb'
  exact this rfl
 have hI : ∀ b, I b → b ∉ blks hc ∧ b ∉ blks hr := fun b hb => by
  have := (k.imm b hb).2
  rw [blks_append, List.mem_append] at this
  exact ⟨fun h => this (.inl h), fun h => this (.inr h)⟩
 have hblk : ∀ e ∈ hr, ∀ b, e.blk = some b → b ∈ blks hr ∧ b < w.heap.size := fun e he b hb =>
  ⟨List.mem_filterMap.2 ⟨e, he, hb⟩, Ent.blk_lt (k.ent e (List.mem_append.2 (.inr he))) hb⟩
 have hrlt : ∀ b ∈ blks hr, b < w.heap.size := fun b hb => by
  obtain ⟨e, he, heb⟩ := List.mem_filterMap.1 hb
  exact (hblk e he b heb).2
 have hkeepI : ∀ b, I b → w'.heap[b]? = w.heap[b]? := fun b hb => k'.keep b (k.imm b hb).1 (hI b hb).1
 have hkeepr : ∀ b ∈ blks hr, w'.heap[b]? = w.heap[b]? := fun b hb => k'.keep b (hrlt b hb) fun h => hdis b h hb
 have hEsplit : ∀ b, b ∈ blks hc ∨ w.heap.size ≤ b → b ∈ c.E ∨ c.W.heap.size ≤ b := fun b hb => by
  rcases hb with hb | hb
  · exact k.new b (by rw [blks_append]; exact List.mem_append.2 (.inl hb))
  · exact .inr (Nat.le_trans k.size hb)
 refine ⟨?_, hkeepI⟩
 exact
 { ent := fun e he => by
    rcases List.mem_append.1 he with he | he
    · exact k'.ent e he
    · exact Ent.rel_mono hkeepI (fun b hb => k'.sup b hb) (fun b hb => hkeepr b (hblk e he b hb).1) (k.ent e (List.mem_append.2 (.inr he)))
   nd := by
    rw [blks_append]
    refine List.nodup_append.2 ⟨k'.nd, (List.nodup_append.1 hnd).2.1, fun b hb b' hb' e => ?_⟩
    subst e
    rcases k'.new b hb with h | h
    · exact hdis b h hb'
    · have := hrlt b hb'
      exact absurd this (Nat.not_lt.2 h)
   imm := fun b hb => by
    refine ⟨(k'.imm b hb).1, fun hm => ?_⟩
    rw [blks_append, List.mem_append] at hm
    rcases hm with hm | hm
    · exact (k'.imm b hb).2 hm
    · rcases k'.inew b hb with h | h | h
      · exact (hI b h).2 hm
      · exact hdis b h hm
      · exact absurd (hrlt b hm) (Nat.not_lt.2 h)
   new := fun b hb => by
    rw [blks_append, List.mem_append] at hb
    rcases hb with hb | hb
    · exact hEsplit b (k'.new b hb)
    · exact k.new b (by rw [blks_append]; exact List.mem_append.2 (.inr hb))
   inew := fun b hb => by
    rcases k'.inew b hb with h | h
    · exact k.inew b h
    · exact .inr (hEsplit b h)
   sup := fun b hb => k'.sup b (k.sup b hb)
   os := k'.os.trans k.os
   tape := k'.tape.trans k.tape
   output := k'.output.trans k.output
   size := Nat.le_trans k.size k'.size
   keep := fun b hb hE => by
    have hnot : b ∉ blks hc := fun hm => by
     rcases k.new b (by rw [blks_append]; exact List.mem_append.2 (.inl hm)) with h | h
     · exact hE h
     · exact absurd hb (Nat.not_lt.2 h)
    exact (k'.keep b (Nat.lt_of_lt_of_le hb k.size) hnot).trans (k.keep b hb hE)
   glob := fun q hq => k'.glob q hq }

def AVs.le : List AV → List AV → Prop
 | [], [] => True
 | x :: xs, y :: ys => AV.le x y ∧ AVs.le xs ys
 | _, _ => False
theorem AVs.le_rel {w : World} {I : Nat → Prop} : ∀ {xs ys : List AV} {vs : List Value}, AVs.le xs ys → AV.rels w I xs vs → AV.rels w I ys vs
 | [], [], [], _, _ => trivial
 | _ :: _, _ :: _, _ :: _, ⟨h1, h2⟩, ⟨h3, h4⟩ => ⟨h1 _ _ _ h3, AVs.le_rel h2 h4⟩
theorem AVs.le_refl : ∀ xs : List AV, AVs.le xs xs
 | [] => trivial
 | x :: xs => ⟨AV.le_refl x, AVs.le_refl xs⟩

/-- The source calls it, and it has a body. -/
def Cal (P : Program) (f : FuncId) : Prop := ∀ (args : Array Value) (w : World), (callFunc f args).run P w = .ok (.enter f args) w
theorem Cal.of {P : Program} {f : FuncId} {fn : Func} (hf : P.funcs[f]? = some fn) (hn : (fn.name == "runtime.NumGoroutine") = false) (hb : fn.body.isNone = false) : Cal P f := by
 intro args w
 simp only [callFunc, Sem.run_bind, run_program, Result.andThen_ok, hf, hn, hb, Bool.false_eq_true, if_false, Sem.run_pure]

theorem rels_evs {n : Nat} {w : World} {I : Nat → Prop} {ρ : Env} {a : Act} (f : SF n w I ρ a) : ∀ xs : List Operand, AV.rels w I (xs.map (ev ρ)) (xs.map a.eval)
 | [] => trivial
 | x :: xs => ⟨f.ev x, rels_evs f xs⟩

section
variable {k : Kx} {Q : Exit → Env → H → Prop} {ρ ρ' : Env} {h h' : H} {ops : Array Oper} {l : List Oper} {dst : Option Tmp} {ty : TypeId} {pos : String} {after : Array Edge} {g : Option (Nat × Bool)}

theorem JL_call {f : FuncId} {xs : Array Operand} {ats : Array TypeId} {args : List AV} {hc hr : H} {R : AE → H → Prop} (hcal : Cal k.P f) (hac : AC k.P k.c.G f args hc R) (hle : AVs.le (xs.toList.map (ev ρ)) args) (hs : h = hc ++ hr) (hd : ∀ t, dst = some t → t < k.n)
 (hret : ∀ r h', R (.ret r) h' → JL k ops l Q (put ρ dst r) (h' ++ hr)) (hpan : ∀ ch h', R (.pan ch) h' → Q (.panic ch) ρ (h' ++ hr)) :
 JL k ops (⟨dst, .call { callee := .value (.func f), args := xs, argTypes := ats }, ty, pos, after, none⟩ :: l) Q ρ h := by
 intro I a w h1 h2 h3
 subst hs
 refine wpList_plain rfl fun K hK => ?_
 unfold Oper.wp
 rw [execOp_call_go, hcal]
 simp only [Oper.upon]
 have hargs : (#[] ++ xs.map a.eval ++ #[] : Array Value) = (xs.toList.map a.eval).toArray := by
  apply Array.ext'; simp
 rw [hargs]
 refine (hac I w _ (fun e he => h1.ent e (List.mem_append.2 (.inl he))) ?_ ?_ (fun q hq => h1.glob q hq) (AVs.le_rel hle (rels_evs h2 xs.toList))).mono ?_
 · have := h1.nd; rw [blks_append] at this; exact (List.nodup_append.1 this).1
 · intro b hb
   have := h1.imm b hb
   rw [blks_append, List.mem_append] at this
   exact ⟨this.1, fun hm => this.2 (.inl hm)⟩
 · rintro e w' ⟨r, h', I', hR, hok, hrel⟩
   obtain ⟨k1, k2⟩ := h1.call hok
   have hsf : SF k.n w' I' ρ a := h2.mono k2 (fun b hb => hok.sup b hb)
   cases r with
   | ret r =>
     cases e with
     | returned v => exact hK _ _ (hret r h' hR I' _ w' k1 (hsf.put hd hrel) (by rw [Act.defers_put]; exact h3))
     | panicked ch => exact hrel.elim
     | outgrown => exact hrel.elim
   | pan ch =>
     cases e with
     | returned v => exact hrel.elim
     | panicked ch' => subst hrel; exact ⟨I', ρ, h' ++ hr, k1, hsf, h3, hpan _ _ hR⟩
     | outgrown => exact hrel.elim

/-- A call that writes on nothing of the caller's, and hands back this. -/
theorem JL_call0 {f : FuncId} {xs : Array Operand} {ats : Array TypeId} {args : List AV} {r : AV} (hcal : Cal k.P f) (hac : ACr k.P k.c.G f args r) (hle : AVs.le (xs.toList.map (ev ρ)) args) (hd : ∀ t, dst = some t → t < k.n)
 (hret : JL k ops l Q (put ρ dst r) h) :
 JL k ops (⟨dst, .call { callee := .value (.func f), args := xs, argTypes := ats }, ty, pos, after, none⟩ :: l) Q ρ h :=
 JL_call (hc := []) (hr := h) hcal hac hle rfl hd (fun r' h' hq => by obtain ⟨e1, e2⟩ := hq; cases e1; subst e2; exact hret) (fun ch h' hq => by cases hq.1)

/-! ### Views: what is told otherwise, the world untouched -/
def VS (ρ : Env) (h : H) (ρ' : Env) (h' : H) : Prop :=
 ∀ (c : Cx) (I : Nat → Prop) (n : Nat) (a : Act) (w : World), Ok c I h w → SF n w I ρ a → ∃ I', Ok c I' h' w ∧ SF n w I' ρ' a
theorem J_vs {x : Code} (v : VS ρ h ρ' h') (hj : J k x Q ρ' h') : J k x Q ρ h := fun I a w h1 h2 h3 => let ⟨I', k1, k2⟩ := v k.c I k.n a w h1 h2; hj I' a w k1 k2 h3
theorem JL_vs (v : VS ρ h ρ' h') (hj : JL k ops l Q ρ' h') : JL k ops l Q ρ h := fun I a w h1 h2 h3 => let ⟨I', k1, k2⟩ := v k.c I k.n a w h1 h2; hj I' a w k1 k2 h3
theorem VS.of_le (hle : Env.le ρ ρ') : VS ρ h ρ' h := fun _ I _ _ _ h1 h2 => ⟨I, h1, h2.le hle⟩
theorem VS.trans {ρ'' : Env} {h'' : H} (v1 : VS ρ h ρ' h') (v2 : VS ρ' h' ρ'' h'') : VS ρ h ρ'' h'' := fun c I n a w h1 h2 => let ⟨I', k1, k2⟩ := v1 c I n a w h1 h2; v2 c I' n a w k1 k2

theorem blks_sublist {h h' : H} (hs : List.Sublist h' h) : List.Sublist (blks h') (blks h) := hs.filterMap _
theorem VS.drop (hs : List.Sublist h' h) : VS ρ h ρ h' := fun _ I _ _ _ h1 h2 =>
 ⟨I, { ent := fun e he => h1.ent e (hs.subset he), nd := h1.nd.sublist (blks_sublist hs), imm := fun b hb => ⟨(h1.imm b hb).1, fun hm => (h1.imm b hb).2 ((blks_sublist hs).subset hm)⟩,
       new := fun b hb => h1.new b ((blks_sublist hs).subset hb), inew := h1.inew, sup := h1.sup, os := h1.os, tape := h1.tape, output := h1.output, size := h1.size, keep := h1.keep, glob := h1.glob }, h2⟩
theorem VS.perm (hp : h.Perm h') : VS ρ h ρ h' := fun _ I _ _ _ h1 h2 =>
 have hb : (blks h).Perm (blks h') := hp.filterMap _
 ⟨I, { ent := fun e he => h1.ent e (hp.mem_iff.2 he), nd := hb.nodup_iff.1 h1.nd, imm := fun b hb' => ⟨(h1.imm b hb').1, fun hm => (h1.imm b hb').2 (hb.mem_iff.2 hm)⟩,
       new := fun b hb' => h1.new b (hb.mem_iff.2 hb'), inew := h1.inew, sup := h1.sup, os := h1.os, tape := h1.tape, output := h1.output, size := h1.size, keep := h1.keep, glob := h1.glob }, h2⟩
/-- Nothing, as an empty row that may grow. -/
theorem VS.nilrow (T : TypeId) (sz : Nat) : VS ρ h ρ (.row (.slice none 0 0) 0 T sz [] :: h) := fun _ I _ _ w h1 h2 =>
 ⟨I, { ent := fun e he => by
        rcases List.mem_cons.1 he with he | he
        · subst he; exact ⟨[], World.ownsRow_nil w 0 T sz, trivial⟩
        · exact h1.ent e he
       nd := h1.nd, imm := h1.imm, new := h1.new, inew := h1.inew, sup := h1.sup, os := h1.os, tape := h1.tape, output := h1.output, size := h1.size, keep := h1.keep, glob := h1.glob }, h2⟩

/-! ### Regions whose order is open -/
/-- The first n operations come in whatever order, those behind them in the text's order. -/
def JQ (k : Kx) (ops : Array Oper) (n : Nat) (l : List Oper) (Q : Exit → Env → H → Prop) (ρ : Env) (h : H) : Prop :=
 ∀ I a w, Ok k.c I h w → SF k.n w I ρ a → a.defers = k.df → wpQuiet k.P ops (Same I h w) (fun a' => ∀ w', Same I h w w' → wpList k.P ops (lift k Q) (l.drop n) a' w') (l.take n) a

theorem J_region_draw {id tn : Nat} {l : List Oper} (hm : k.P.follows .mixedOrders = true) (hB : Region.lexB .any l.toArray = true) (hn : l.length = tn) (hj : JQ k l.toArray tn l Q ρ h) : J k (.region id l.toArray true) Q ρ h := fun I a w h1 h2 h3 => by
 have := hj I a w h1 h2 h3
 rw [← hn, List.take_length, List.drop_length] at this
 exact wp_region_quiet (C := Same I h w) hm hB ⟨rfl, rfl, rfl, Nat.le_refl _, fun _ _ => rfl⟩ this
/-- A store at the end. -/
theorem J_region_tail {id tn : Nat} {l : List Oper} (hm : k.P.follows .mixedOrders = true) (hn : l.length = tn + 1) (hB : Region.lexTailB .any l.toArray tn = true) (hj : JQ k l.toArray tn l Q ρ h) : J k (.region id l.toArray true) Q ρ h :=
 fun I a w h1 h2 h3 => wp_region_quiet_tail (C := Same I h w) tn hm hB ⟨rfl, rfl, rfl, Nat.le_refl _, fun _ _ => rfl⟩ (hj I a w h1 h2 h3)
theorem JQ_nil (hj : JL k ops l Q ρ h) : JQ k ops 0 l Q ρ h := fun I _ _ h1 h2 h3 => wpQuiet_nil fun _ hs => hj I _ _ (h1.same hs) (SF.same h1 hs h2) h3
section
variable {tn : Nat}
theorem JQ_pure {o : Oper} {r : AV} (hp : Pure k.P k.c.G o ρ h r) (hg : o.guard = none) (hd : ∀ t, o.dst = some t → t < k.n) (hj : JQ k ops tn l Q (put ρ o.dst r) h) : JQ k ops (tn + 1) (o :: l) Q ρ h := by
 intro I a w h1 h2 h3
 obtain ⟨v, hv, hrun⟩ := hp k.c I k.n a w rfl h1 h2
 rw [List.take_succ_cons]
 unfold wpQuiet
 rw [if_pos (by simp [Region.wanted, hg])]
 exact ⟨v, fun w' hw' => by unfold Oper.quietAt; rw [hrun w' (hw'.weak h1)]; exact ⟨rfl, rfl⟩, hj I _ w h1 (h2.put hd hv) (by rw [Act.defers_put]; exact h3)⟩
theorem JQ_guard_no {o oj : Oper} {j d : Nat} {want b : Bool} (hg : o.guard = some (j, want)) (hj : ops[j]? = some oj) (hdj : oj.dst = some d) (hr : get ρ d = .val (.bool b)) (hn : d < k.n)
 (hd : ∀ t, o.dst = some t → t < k.n) (hb : b = !want) (hno : JQ k ops tn l Q (put ρ o.dst (.val undef)) h) : JQ k ops (tn + 1) (o :: l) Q ρ h := by
 intro I a w h1 h2 h3
 have hw := wanted_of (ops := ops) h2 hg hj hdj hr hn
 rw [List.take_succ_cons]
 unfold wpQuiet
 rw [if_neg (by rw [hw, hb]; cases want <;> simp)]
 exact hno I _ w h1 (h2.put hd (r := .val undef) rfl) (by rw [Act.defers_put]; exact h3)
theorem JQ_guard_un {o oj : Oper} {j d : Nat} {want : Bool} (hg : o.guard = some (j, want)) (hj : ops[j]? = some oj) (hdj : oj.dst = some d) (hr : get ρ d = .val undef)
 (hd : ∀ t, o.dst = some t → t < k.n) (hno : JQ k ops tn l Q (put ρ o.dst (.val undef)) h) : JQ k ops (tn + 1) (o :: l) Q ρ h := by
 intro I a w h1 h2 h3
 have hw := wanted_undef (ops := ops) h2 hg hj hdj hr
 rw [List.take_succ_cons]
 unfold wpQuiet
 rw [if_neg (by rw [hw]; simp)]
 exact hno I _ w h1 (h2.put hd (r := .val undef) rfl) (by rw [Act.defers_put]; exact h3)
theorem JQ_guard_yes {o oj : Oper} {j d : Nat} {want : Bool} (hg : o.guard = some (j, want)) (hj : ops[j]? = some oj) (hdj : oj.dst = some d) (hr : get ρ d = .val (.bool want)) (hn : d < k.n)
 (hy : JQ k ops (tn + 1) ({ o with guard := none } :: l) Q ρ h) : JQ k ops (tn + 1) (o :: l) Q ρ h := by
 intro I a w h1 h2 h3
 have hw := wanted_of (ops := ops) h2 hg hj hdj hr hn
 have := hy I a w h1 h2 h3
 rw [List.take_succ_cons] at this ⊢
 unfold wpQuiet at this ⊢
 rw [if_pos (by rw [hw]; simp)]
 rw [if_pos (by simp [Region.wanted])] at this
 exact this
/-- A call that hands back a number or a truth. -/
theorem JQ_call {f : FuncId} {xs : Array Operand} {ats : Array TypeId} {args : List AV} {v : Value} (hcal : Cal k.P f) (hac : ACr k.P k.c.G f args (.val v)) (hle : AVs.le (xs.toList.map (ev ρ)) args) (hd : ∀ t, dst = some t → t < k.n)
 (hret : JQ k ops tn l Q (put ρ dst (.val v)) h) :
 JQ k ops (tn + 1) (⟨dst, .call { callee := .value (.func f), args := xs, argTypes := ats }, ty, pos, after, none⟩ :: l) Q ρ h := by
 intro I a w h1 h2 h3
 rw [List.take_succ_cons]
 unfold wpQuiet
 rw [if_pos (by simp [Region.wanted])]
 refine ⟨v, fun w' hw' => ?_, hret I _ w h1 (h2.put hd (v := v) rfl) (by rw [Act.defers_put]; exact h3)⟩
 unfold Oper.quietAt
 rw [execOp_call_go, hcal]
 have hargs : (#[] ++ xs.map a.eval ++ #[] : Array Value) = (xs.toList.map a.eval).toArray := by
  apply Array.ext'; simp
 refine ⟨rfl, ?_⟩
 rw [hargs]
 have hok := h1.same hw'
 refine (hac I w' _ (by simp) (by simp [blks]) (fun b hb => ⟨(hok.imm b hb).1, by simp [blks]⟩) (fun q hq => hok.glob q hq) (AVs.le_rel hle (rels_evs (SF.same h1 hw' h2) xs.toList))).mono ?_
 rintro e w'' ⟨r, h', I', ⟨rfl, rfl⟩, hok', hrel⟩
 cases e with
 | returned u =>
   have hu : u = v := hrel
   subst hu
   exact ⟨rfl, hw'.trans ⟨hok'.os, hok'.tape, hok'.output, hok'.size, fun b hb => hok'.keep b hb (by simp [blks])⟩⟩
 | panicked ch => exact hrel.elim
 | outgrown => exact hrel.elim
end
end
end Go.Av
namespace Go.Av
open Go
set_option linter.unusedVariables false
set_option linter.unusedSimpArgs false

/-- A value's cells. -/
def AV.cl : AV → List AV
 | .agg cs => cs
 | x => [x]
def AV.flat : AV → Bool
 | .val v => v.oneCell'
 | .d _ => true
 | .pd _ => true
 | _ => false
def AV.stor : AV → Bool
 | .agg cs => cs.all AV.flat
 | x => x.flat

theorem flat_rel {w : World} {I : Nat → Prop} {x : AV} {v : Value} (hf : x.flat = true) (h : AV.rel w I x v) : v.oneCell' = true := by
 cases x with
 | val u => cases h; exact hf
 | d x => exact Rel.oneCell h
 | pd cs => obtain ⟨ad, rfl, _⟩ := h; rfl
 | any => cases hf
 | agg cs => cases hf
 | tup cs => cases hf

theorem cells_one {v : Value} (h : v.oneCell' = true) : v.cells = #[v] := by cases v <;> first | rfl | (cases h; done)

theorem cl_rel {w : World} {I : Nat → Prop} {x : AV} {v : Value} (hs : x.stor = true) (h : AV.rel w I x v) : AV.rels w I x.cl v.cells.toList := by
 have one : ∀ {x : AV}, x.flat = true → AV.rel w I x v → x.cl = [x] → AV.rels w I x.cl v.cells.toList := fun hf h e => by
  rw [cells_one (flat_rel hf h), e]; exact ⟨h, trivial⟩
 cases x with
 | agg cs => obtain ⟨vs, rfl, hr⟩ := h; exact hr
 | val u => exact one hs h rfl
 | d y => exact one hs h rfl
 | pd cs => exact one hs h rfl
 | any => cases hs
 | tup cs => cases hs

theorem all_flat {w : World} {I : Nat → Prop} : ∀ {xs : List AV} {vs : List Value}, xs.all AV.flat = true → AV.rels w I xs vs → ∀ v ∈ vs, v.oneCell' = true
 | [], [], _, _, v, hv => by cases hv
 | x :: xs, u :: us, hf, ⟨h1, h2⟩, v, hv => by
   simp only [List.all_cons, Bool.and_eq_true] at hf
   rcases List.mem_cons.1 hv with rfl | hv
   · exact flat_rel hf.1 h1
   · exact all_flat hf.2 h2 v hv

theorem cl_flat {w : World} {I : Nat → Prop} {x : AV} {v : Value} (hs : x.stor = true) (h : AV.rel w I x v) : ∀ u ∈ v.cells.toList, u.oneCell' = true := by
 have hr := cl_rel hs h
 refine all_flat ?_ hr
 cases x <;> first | exact hs | (simpa [AV.stor, AV.cl] using hs)

/-- A new block, and what is then known. -/
theorem Ok.fresh {c : Cx} {I : Nat → Prop} {h : H} {w : World} (k : Ok c I h w) (o : Obj) (e : Ent) (hb : e.blk = some w.heap.size) (he : e.rel (w.alloc o) I) : Ok c I (e :: h) (w.alloc o) where
 ent e' he' := by
  rcases List.mem_cons.1 he' with rfl | he'
  · exact he
  · exact Ent.rel_mono (fun b hb => Go.RowKit.Below.heap_alloc w o b (k.imm b hb).1) (fun _ hb => hb) (fun b hb => Go.RowKit.Below.heap_alloc w o b (Ent.blk_lt (k.ent e' he') hb)) (k.ent e' he')
 nd := by
  have e1 : blks (e :: h) = w.heap.size :: blks h := by simp [blks, hb]
  rw [e1]
  refine List.nodup_cons.2 ⟨fun hm => ?_, k.nd⟩
  obtain ⟨e', he', hb'⟩ := List.mem_filterMap.1 hm
  exact absurd (Ent.blk_lt (k.ent e' he') hb') (Nat.lt_irrefl _)
 imm b hb' := by
  have e1 : blks (e :: h) = w.heap.size :: blks h := by simp [blks, hb]
  have := k.imm b hb'
  refine ⟨by simp; omega, ?_⟩
  rw [e1]
  intro hm
  rcases List.mem_cons.1 hm with rfl | hm
  · exact absurd this.1 (Nat.lt_irrefl _)
  · exact this.2 hm
 new b hb' := by
  have e1 : blks (e :: h) = w.heap.size :: blks h := by simp [blks, hb]
  rw [e1] at hb'
  rcases List.mem_cons.1 hb' with rfl | hm
  · exact .inr k.size
  · exact k.new b hm
 inew := k.inew
 sup := k.sup
 os := k.os
 tape := k.tape
 output := k.output
 size := Nat.le_trans k.size (by simp)
 keep b hb' hE := (Go.RowKit.Below.heap_alloc w o b (Nat.lt_of_lt_of_le hb' k.size)).trans (k.keep b hb' hE)
 glob q hq := (k.glob q hq).mono (fun b hb => Go.RowKit.Below.heap_alloc w o b (k.imm b hb).1) fun _ hb => hb

theorem SF.fresh {c : Cx} {I : Nat → Prop} {h : H} {w : World} {n : Nat} {ρ : Env} {a : Act} (k : Ok c I h w) (f : SF n w I ρ a) (o : Obj) : SF n (w.alloc o) I ρ a :=
 f.mono (fun b hb => Go.RowKit.Below.heap_alloc w o b (k.imm b hb).1) fun _ hb => hb

/-- A block that others may read from now on. -/
theorem Ok.release {c : Cx} {I : Nat → Prop} {h1 h2 : H} {e : Ent} {w : World} {b : Nat} (k : Ok c I (h1 ++ e :: h2) w) (hb : e.blk = some b) : Ok c (fun x => I x ∨ x = b) (h1 ++ h2) w := by
 have hsub : List.Sublist (h1 ++ h2) (h1 ++ e :: h2) := (List.sublist_cons_self e h2).append_left h1
 have hblk : blks (h1 ++ e :: h2) = blks h1 ++ b :: blks h2 := by simp [blks, hb]
 have hblt : b < w.heap.size := Ent.blk_lt (k.ent e (by simp)) hb
 have hnd := k.nd
 rw [hblk] at hnd
 have hbn : b ∉ blks (h1 ++ h2) := by
  rw [blks_append]
  intro hm
  have h3 := List.nodup_append.1 hnd
  rcases List.mem_append.1 hm with hm | hm
  · exact h3.2.2 b hm b (by simp) rfl
  · exact (List.nodup_cons.1 h3.2.1).1 hm
 exact
 { ent := fun e' he' => Ent.rel_mono (fun _ _ => rfl) (fun _ h => .inl h) (fun _ _ => rfl) (k.ent e' (hsub.subset he'))
   nd := k.nd.sublist (blks_sublist hsub)
   imm := fun x hx => by
    rcases hx with hx | rfl
    · exact ⟨(k.imm x hx).1, fun hm => (k.imm x hx).2 ((blks_sublist hsub).subset hm)⟩
    · exact ⟨hblt, hbn⟩
   new := fun x hx => k.new x ((blks_sublist hsub).subset hx)
   inew := fun x hx => by
    rcases hx with hx | rfl
    · exact k.inew x hx
    · exact .inr (k.new x (by rw [hblk]; simp))
   sup := fun x hx => .inl (k.sup x hx)
   os := k.os, tape := k.tape, output := k.output, size := k.size, keep := k.keep
   glob := fun q hq => (k.glob q hq).mono (fun _ _ => rfl) fun _ h => .inl h }

theorem SF.wider {n : Nat} {w : World} {I I' : Nat → Prop} {ρ : Env} {a : Act} (f : SF n w I ρ a) (hI : ∀ b, I b → I' b) : SF n w I' ρ a := f.mono (fun _ _ => rfl) hI

section
variable {k : Kx} {Q : Exit → Env → H → Prop} {ρ ρ' : Env} {h h' : H} {ops : Array Oper} {l : List Oper} {dst : Option Tmp} {ty : TypeId} {pos : String} {after : Array Edge} {g : Option (Nat × Bool)}

/-- An operation that leaves this. -/
theorem JL_eff {o : Oper} (hg : o.guard = none) (hd : ∀ t, o.dst = some t → t < k.n)
 (he : ∀ I a w, Ok k.c I h w → SF k.n w I ρ a → ∃ v w' I' r h', (execOp a.eval o).run k.P w = .ok (.value v) w' ∧ Ok k.c I' h' w' ∧ SF k.n w' I' ρ a ∧ AV.rel w' I' r v ∧ JL k ops l Q (put ρ o.dst r) h') : JL k ops (o :: l) Q ρ h := by
 intro I a w h1 h2 h3
 obtain ⟨v, w', I', r, h', e1, e2, e3, e4, e5⟩ := he I a w h1 h2
 refine wpList_plain hg fun K hK => ?_
 unfold Oper.wp
 rw [e1]
 exact hK _ _ (e5 I' _ w' e2 (e3.put hd e4) (by rw [Act.defers_put]; exact h3))

theorem JL_eff_skip {o : Oper} (hg : o.guard = none) (hd : o.dst = none)
 (he : ∀ I a w, Ok k.c I h w → SF k.n w I ρ a → ∃ w' I' h', (execOp a.eval o).run k.P w = .ok .skip w' ∧ Ok k.c I' h' w' ∧ SF k.n w' I' ρ a ∧ JL k ops l Q ρ h') : JL k ops (o :: l) Q ρ h := by
 intro I a w h1 h2 h3
 obtain ⟨w', I', h', e1, e2, e3, e5⟩ := he I a w h1 h2
 refine wpList_plain hg fun K hK => ?_
 unfold Oper.wp
 rw [e1]
 simp only [Oper.upon, hd, Act.put]
 exact hK _ _ (e5 I' _ w' e2 e3 h3)

theorem rels_vals (w : World) (I : Nat → Prop) : ∀ vs : List Value, AV.rels w I (vs.map AV.val) vs
 | [] => trivial
 | _ :: vs => ⟨rfl, rels_vals w I vs⟩

theorem JL_alloc {T : TypeId} {z : Value} {sz eb : Nat} (hz : El k.P T z sz eb) (hd : ∀ t, dst = some t → t < k.n)
 (hj : ∀ b, JL k ops l Q (put ρ dst (.val (.pointer (some ⟨b, 0, none⟩)))) (.cells b T (z.cells.toList.map AV.val) :: h)) : JL k ops (⟨dst, .alloc T, ty, pos, after, none⟩ :: l) Q ρ h := by
 obtain ⟨i, hi, hz0, _, _⟩ := hz.get
 refine JL_eff rfl hd fun I a w h1 h2 => ⟨.pointer (some ⟨w.heap.size, 0, none⟩), w.alloc (.cells z.cells T), I, .val (.pointer (some ⟨w.heap.size, 0, none⟩)), _, ?_, h1.fresh _ (.cells w.heap.size T (z.cells.toList.map AV.val)) rfl ?_, h2.fresh h1 _, rfl, hj w.heap.size⟩
 · simp [execOp, Instr.alloc, zeroValue, typeInfo, hi, hz0, newVar, newRow]
 · exact ⟨z.cells, heap_alloc_new w _, rels_vals _ _ _⟩

theorem JL_box {T : TypeId} {x : Operand} {r : AV} (hx : ev ρ x = r) (hs : r.stor = true) (hd : ∀ t, dst = some t → t < k.n)
 (hj : ∀ b, JL k ops l Q (put ρ dst (.val (.pointer (some ⟨b, 0, none⟩)))) (.cells b T r.cl :: h)) : JL k ops (⟨dst, .box T x, ty, pos, after, none⟩ :: l) Q ρ h := by
 refine JL_eff rfl hd fun I a w h1 h2 => ?_
 have hr := rel_as (h2.ev x) hx
 have hr' : AV.rel (w.alloc (.cells (a.eval x).cells T)) I r (a.eval x) := AV.rel_mono (fun b hb => Go.RowKit.Below.heap_alloc w _ b (h1.imm b hb).1) (fun _ h => h) hr
 refine ⟨.pointer (some ⟨w.heap.size, 0, none⟩), w.alloc (.cells (a.eval x).cells T), I, .val (.pointer (some ⟨w.heap.size, 0, none⟩)), _, ?_, h1.fresh _ (.cells w.heap.size T r.cl) rfl ?_, h2.fresh h1 _, rfl, hj w.heap.size⟩
 · simp [execOp, Instr.box, newVar, newRow]
 · exact ⟨(a.eval x).cells, heap_alloc_new w _, cl_rel hs hr'⟩

/-- make([]T, n): a block that is known whole. -/
theorem JL_make {T E : TypeId} {x : Operand} {n : Nat} {z : Value} {eb : Nat} (hT : k.P.underlying T = some (.slice E)) (hz : El k.P E z 1 eb) (hz1 : z.oneCell' = true) (hx : ev ρ x = .int n) (hb : eb * n ≤ 281474976710656) (hm : n ≤ 9223372036854775807) (hd : ∀ t, dst = some t → t < k.n)
 (hj : ∀ b, JL k ops l Q (put ρ dst (.val (.slice (some ⟨b, 0, none⟩) n n))) (.cells b E (List.replicate n (.val z)) :: h)) : JL k ops (⟨dst, .makeSlice T x x, ty, pos, after, none⟩ :: l) Q ρ h := by
 obtain ⟨i, hi, hz0, hz2, hz3⟩ := hz.get
 refine JL_eff rfl hd fun I a w h1 h2 => ?_
 have e1 := rel_val (h2.ev x) hx
 have hbi : (i.bytes : Int) * (n : Int) ≤ 281474976710656 := by
  rw [hz3]
  have h : ((eb * n : Nat) : Int) ≤ 281474976710656 := by omega
  rwa [Int.natCast_mul] at h
 have hrun := run_make (P := k.P) w T E i z hT hi hz0 .i64 .i64 (n : Int) (n : Int) (by omega) (Int.le_refl _) hbi (by omega)
 simp only [Int.toNat_natCast, hz2, Nat.mul_one] at hrun
 have hmc : (madeCells z.cells n).toList = List.replicate n z := by
  rw [cells_one hz1]
  simp only [madeCells]
  apply List.ext_getElem
  · simp
  · intro j h1 h2
    simp [Nat.mod_one]
 refine ⟨.slice (some ⟨w.heap.size, 0, none⟩) n n, w.alloc (.cells (madeCells z.cells n) E), I, .val (.slice (some ⟨w.heap.size, 0, none⟩) n n), _, ?_, h1.fresh _ (.cells w.heap.size E (List.replicate n (.val z))) rfl ?_, h2.fresh h1 _, rfl, hj w.heap.size⟩
 · simp [execOp, e1, hrun]
 · refine ⟨_, heap_alloc_new w _, ?_⟩
   rw [hmc, ← List.map_replicate]
   exact rels_vals _ _ _

/-! ### Blocks that the call writes on -/

/-- One entry is told anew: its block was written, all else stands. -/
theorem Ok.write {c : Cx} {I : Nat → Prop} {h1 h2 : H} {e e' : Ent} {w w' : World} {b : Nat} (k : Ok c I (h1 ++ e :: h2) w) (hb : e.blk = some b) (hb' : e'.blk = some b) (hos : w'.os = w.os) (htp : w'.tape = w.tape) (hout : w'.output = w.output) (hsz : w'.heap.size = w.heap.size)
 (hkeep : ∀ x, x ≠ b → w'.heap[x]? = w.heap[x]?) (he : e'.rel w' I) : Ok c I (h1 ++ e' :: h2) w' ∧ ∀ x, I x → w'.heap[x]? = w.heap[x]? := by
 have hblk : blks (h1 ++ e :: h2) = blks h1 ++ b :: blks h2 := by simp [blks, hb]
 have hblk' : blks (h1 ++ e' :: h2) = blks h1 ++ b :: blks h2 := by simp [blks, hb']
 have hbs : b ∈ blks (h1 ++ e :: h2) := by rw [hblk]; simp
 have hI : ∀ x, I x → w'.heap[x]? = w.heap[x]? := fun x hx => hkeep x fun e0 => by subst e0; exact (k.imm x hx).2 hbs
 have hnd := k.nd
 rw [hblk] at hnd
 have hn3 := List.nodup_append.1 hnd
 refine ⟨?_, hI⟩
 exact
 { ent := fun e0 he0 => by
    rcases List.mem_append.1 he0 with h0 | h0
    · refine Ent.rel_mono hI (fun _ h => h) (fun x hx => hkeep x fun e1 => ?_) (k.ent e0 (List.mem_append.2 (.inl h0)))
      subst e1
      exact hn3.2.2 x (List.mem_filterMap.2 ⟨e0, h0, hx⟩) x (by simp) rfl
    · rcases List.mem_cons.1 h0 with rfl | h0
      · exact he
      · refine Ent.rel_mono hI (fun _ h => h) (fun x hx => hkeep x fun e1 => ?_) (k.ent e0 (List.mem_append.2 (.inr (List.mem_cons_of_mem _ h0))))
        subst e1
        exact (List.nodup_cons.1 hn3.2.1).1 (List.mem_filterMap.2 ⟨e0, h0, hx⟩)
   nd := by rw [hblk']; exact hnd
   imm := fun x hx => by
    have := k.imm x hx
    rw [hblk] at this
    rw [hblk', hsz]
    exact this
   new := fun x hx => k.new x (by rw [hblk]; rw [hblk'] at hx; exact hx)
   inew := k.inew
   sup := k.sup
   os := hos.trans k.os
   tape := htp.trans k.tape
   output := hout.trans k.output
   size := by rw [hsz]; exact k.size
   keep := fun x hx hE => by
    refine (hkeep x fun e0 => ?_).trans (k.keep x hx hE)
    subst e0
    rcases k.new x hbs with h | h
    · exact hE h
    · exact absurd hx (Nat.not_lt.2 h)
   glob := fun q hq => (k.glob q hq).mono hI fun _ h => h }

theorem setRow_other (w : World) (g x : Nat) (cs : Array Value) (hx : x ≠ g) : (w.setRow g cs).heap[x]? = w.heap[x]? := by
 simp only [World.setRow, Array.getElem?_modify]
 rw [if_neg (fun e => hx e.symm)]

theorem rels_take {w : World} {I : Nat → Prop} : ∀ {xs : List AV} {vs : List Value} (n : Nat), AV.rels w I xs vs → AV.rels w I (xs.take n) (vs.take n)
 | _, _, 0, _ => by simp [AV.rels]
 | [], [], _ + 1, _ => trivial
 | _ :: _, _ :: _, n + 1, ⟨h1, h2⟩ => ⟨h1, rels_take n h2⟩
theorem rels_drop {w : World} {I : Nat → Prop} : ∀ {xs : List AV} {vs : List Value} (n : Nat), AV.rels w I xs vs → AV.rels w I (xs.drop n) (vs.drop n)
 | _, _, 0, h => h
 | [], [], _ + 1, _ => trivial
 | _ :: _, _ :: _, n + 1, ⟨_, h2⟩ => rels_drop n h2

/-- What lies in a block from a place on is written anew. -/
def setAt (vs : List AV) (off : Nat) (cs : List AV) : List AV := vs.take off ++ cs ++ vs.drop (off + cs.length)

theorem JL_store {T T0 : TypeId} {x y : Operand} {b off : Nat} {r : AV} {vs : List AV} {h1 h2 : H} {z : Value} {sz eb : Nat} (hx : ev ρ x = .val (.pointer (some ⟨b, off, none⟩))) (hy : ev ρ y = r) (hs : r.stor = true) (hE : El k.P T z sz eb) (hn : sz = r.cl.length) (hh : h = h1 ++ .cells b T0 vs :: h2)
 (hoff : off + r.cl.length ≤ vs.length) (hj : JL k ops l Q ρ (h1 ++ .cells b T0 (setAt vs off r.cl) :: h2)) : JL k ops (⟨none, .store T x y, ty, pos, after, none⟩ :: l) Q ρ h := by
 subst hh
 obtain ⟨i, hi, _, rfl, _⟩ := hE.get
 refine JL_eff_skip rfl rfl fun I a w k1 k2 => ?_
 have e1 := rel_val (k2.ev x) hx
 have e2 := rel_as (k2.ev y) hy
 obtain ⟨cs, hc1, hc2⟩ := k1.ent (.cells b T0 vs) (by simp)
 have hr := cl_rel hs e2
 have hlen : (a.eval y).cells.toList.length = r.cl.length := (AV.rels_length hr).symm
 have hcs : cs.toList.length = vs.length := (AV.rels_length hc2).symm
 have hrun := run_storeCells_at k.P b off T0 (a.eval y).cells.toList 0 cs w hc1 (by simp only [Array.length_toList] at hcs; omega) (cl_flat hs e2)
 simp only [Nat.add_zero] at hrun
 have hkeepI := fun (x : Nat) (hx : x ≠ b) => setRow_other w b x (cs.toList.take off ++ (a.eval y).cells.toList ++ cs.toList.drop (off + (a.eval y).cells.toList.length)).toArray hx
 have hb : blks (h1 ++ Ent.cells b T0 vs :: h2) = blks h1 ++ b :: blks h2 := by simp [blks, Ent.blk]
 have hI : ∀ z, I z → z ≠ b := fun z hz e => by subst e; exact (k1.imm z hz).2 (by rw [hb]; simp)
 have he : Ent.rel (w.setRow b (cs.toList.take off ++ (a.eval y).cells.toList ++ cs.toList.drop (off + (a.eval y).cells.toList.length)).toArray) I (.cells b T0 (setAt vs off r.cl)) := by
  refine ⟨_, setRow_heap w b cs _ T0 (0, 0) hc1, ?_⟩
  have hm : ∀ {xs : List AV} {us : List Value}, AV.rels w I xs us → AV.rels (w.setRow b (cs.toList.take off ++ (a.eval y).cells.toList ++ cs.toList.drop (off + (a.eval y).cells.toList.length)).toArray) I xs us :=
   fun h => AV.rels_mono (fun x hx => hkeepI x (hI x hx)) (fun _ h => h) h
  refine AV.rels_append (AV.rels_append (hm (rels_take off hc2)) (hm hr)) (hm ?_)
  rw [hlen]
  exact rels_drop _ hc2
 obtain ⟨m1, m2⟩ := k1.write (e := .cells b T0 vs) (e' := .cells b T0 (setAt vs off r.cl)) (b := b) (w' := w.setRow b _) rfl rfl rfl rfl rfl (by simp) hkeepI he
 refine ⟨_, I, _, ?_, m1, k2.mono m2 (fun _ h => h), hj⟩
 have hsize : (a.eval y).cells.size = i.size := by rw [hn, ← hlen]; simp
 simp [execOp, e1, Instr.storeAt, Instr.sureAddr, storeVar, sizeOf, typeInfo, hi, hsize, hrun]

theorem setAt_one (vs : List AV) (off : Nat) (r : AV) (h : off < vs.length) : setAt vs off [r] = vs.set off r := by
 simp only [setAt, List.length_singleton]
 rw [List.set_eq_take_append_cons_drop, if_pos h, List.append_assoc]; rfl

end

section
variable {P : Program} {G : List (Nat × List D)} {ρ : Env} {h : H} {dst : Option Tmp} {ty : TypeId} {pos : String} {after : Array Edge} {g : Option (Nat × Bool)}

theorem pure_load_cells {T T0 : TypeId} {x : Operand} {b off : Nat} {vs : List AV} {r : AV} (hT : isAggB P T = some false) (hx : ev ρ x = .val (.pointer (some ⟨b, off, none⟩))) (hh : Ent.cells b T0 vs ∈ h) (hr : vs[off]? = some r) : Pure P G ⟨dst, .load T x, ty, pos, after, g⟩ ρ h r := by
 intro c I n a w _ hok hs
 have e1 := rel_val (hs.ev x) hx
 obtain ⟨cs, hc1, hc2⟩ := hok.ent _ hh
 obtain ⟨v, hv, hrv⟩ := AV.rels_get hc2 off r hr
 refine ⟨v, hrv, fun w' hw' => ?_⟩
 have hheap : w'.heap[b]? = some (.cells cs T0 (0, 0)) := (hw'.own b (mem_blks hh rfl)).trans hc1
 have hcell : w'.cell? ⟨b, off, none⟩ = some v := by rw [cell_of_row w' b off cs T0 (0, 0) hheap]; simpa using hv
 simp [execOp, e1, Instr.loadAt, Instr.sureAddr, loadVar, run_isAgg hT, run_load, hcell]

theorem pure_load_cells_agg {T T0 : TypeId} {x : Operand} {b off : Nat} {vs : List AV} {z : Value} {sz eb : Nat} (hT : isAggB P T = some true) (hE : El P T z sz eb) (hx : ev ρ x = .val (.pointer (some ⟨b, off, none⟩))) (hh : Ent.cells b T0 vs ∈ h) (hn : off + sz ≤ vs.length) :
 Pure P G ⟨dst, .load T x, ty, pos, after, g⟩ ρ h (.agg ((vs.drop off).take sz)) := by
 intro c I n a w _ hok hs
 obtain ⟨i, hi, _, rfl, _⟩ := hE.get
 have e1 := rel_val (hs.ev x) hx
 obtain ⟨cs, hc1, hc2⟩ := hok.ent _ hh
 have hlen : cs.toList.length = vs.length := (AV.rels_length hc2).symm
 refine ⟨.agg ((cs.toList.drop off).take i.size).toArray, ⟨_, rfl, rels_take _ (rels_drop _ hc2)⟩, fun w' hw' => ?_⟩
 have hheap : w'.heap[b]? = some (.cells cs T0 (0, 0)) := (hw'.own b (mem_blks hh rfl)).trans hc1
 have hload := run_loadCells_list (P := P) w' ⟨b, off, none⟩ ((cs.toList.drop off).take i.size) fun j v hv => by
  rw [Addr.add_lit, cell_of_row w' b (off + j) cs T0 (0, 0) hheap]
  rw [List.getElem?_take] at hv
  split at hv
  · rw [List.getElem?_drop] at hv; simpa using hv
  · cases hv
 have hsz : ((cs.toList.drop off).take i.size).length = i.size := by
  rw [List.length_take, List.length_drop, hlen]; omega
 rw [hsz] at hload
 simp [execOp, e1, Instr.loadAt, Instr.sureAddr, loadVar, run_isAgg hT, sizeOf, typeInfo, hi, hload]

theorem pure_fieldAddr_cells {S : TypeId} {x : Operand} {f b off fo : Nat} (hF : Fld P S f fo)
 (hx : ev ρ x = .val (.pointer (some ⟨b, off, none⟩))) : Pure P G ⟨dst, .fieldAddr S x f, ty, pos, after, g⟩ ρ h (.val (.pointer (some ⟨b, off + fo, none⟩))) :=
 pure_free fun _ _ _ a hs => ⟨_, rfl, fun w' => by
  obtain ⟨fs, fd, i, hS, hf, hi, hne, rfl⟩ := hF.get
  have e1 := rel_val (hs.ev x) hx
  simp [execOp, e1, Instr.fieldAt, run_underlying hS, hf, Instr.sureAddr, fieldPlace, sizeOf, typeInfo, hi, hne, Addr.add_lit]⟩

theorem pure_indexAddr_cells {T E : TypeId} {x y : Operand} {b len cap : Nat} {n : Int} {sz eb : Nat} {z : Value} (hT : P.underlying T = some (.slice E)) (hE : El P E z sz eb)
 (hx : ev ρ x = .val (.slice (some ⟨b, 0, none⟩) len cap)) (hy : ev ρ y = .int n) (h0 : 0 ≤ n) (h1 : n < len) : Pure P G ⟨dst, .indexAddr T x y, ty, pos, after, g⟩ ρ h (.val (.pointer (some ⟨b, n.toNat * sz, none⟩))) :=
 pure_free fun _ _ _ a hs => ⟨_, rfl, fun w' => by
  obtain ⟨i, hE, _, hsz, _⟩ := hE.get
  have e1 := rel_val (hs.ev x) hx
  have e2 := rel_val (hs.ev y) hy
  simp [execOp, e1, e2, Instr.indexAt, run_underlying hT, asIntOf, h0, h1, sizeOf, typeInfo, hE, Addr.add_lit, hsz]⟩

/-- A table at package level. -/
theorem pure_global {T E : TypeId} {gl len : Nat} {y : Operand} {cs : List D} {n : Int} {z : Value} {sz eb : Nat} (hT : P.underlying T = some (.array len E)) (hE : El P E z sz eb) (hG : (gl, cs) ∈ G) (hy : ev ρ y = .int n) (h0 : 0 ≤ n) (h1 : n < len) :
 Pure P G ⟨dst, .indexAddr T (.global gl) y, ty, pos, after, g⟩ ρ h (.pd (cs.drop (n.toNat * sz))) := by
 obtain ⟨i, hi, _, rfl, _⟩ := hE.get
 intro c I m a w hGc hok hs
 have e2 := rel_val (hs.ev y) hy
 have hpd := hok.glob (gl, cs) (by rw [hGc]; exact hG)
 refine ⟨.pointer (some ⟨gl, n.toNat * i.size, none⟩), ⟨_, rfl, hpd.1, fun u x hx => ?_⟩, fun w' _ => ?_⟩
 · rw [List.getElem?_drop] at hx
   have := hpd.2 _ x hx
   simpa [Addr.add_lit] using this
 · have hlen : n < (len : Int) := h1
   have e0 : a.eval (.global gl) = .pointer (some ⟨gl, 0, none⟩) := rfl
   simp [execOp, e0, e2, Instr.indexAt, run_underlying hT, asIntOf, Instr.sureAddr, h0, hlen, sizeOf, typeInfo, hi, Addr.add_lit]
end
end Go.Av
