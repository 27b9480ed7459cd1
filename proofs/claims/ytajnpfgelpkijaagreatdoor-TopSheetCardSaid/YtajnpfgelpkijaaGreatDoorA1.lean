/- A bundle of this claim's own texts: E1 E2. -/
import Derived.WalkKit
import Derived.Deep.QuietTactic
import Derived.StillTailTactics
import Derived.DataElems
import Derived.OrdersHeld
import Derived.Maps.AppendAt
import Derived.Laws.OwnMore
import Derived.Defers
import Derived.Recover
import Derived.Laws.Tables
import Derived.Laws.StructEq
set_option linter.unusedVariables false
set_option linter.unusedSimpArgs false
set_option maxRecDepth 100000
set_option maxHeartbeats 4000000
namespace Go.Av
open Go

inductive D where
 | i (k : IntKind) (n : Int)
 | b (x : Bool)
 | s (x : ByteArray)
 | l (sz eb : Nat) (rows : List (List D))
 | sm (p : Nat → Obj → Value → Prop)
 | ve (v : Value) (h1 : v.oneCell' = true)

inductive Rel (w : World) (I : Nat → Prop) : D → Value → Prop where
 | i (k : IntKind) (n : Int) : Rel w I (.i k n) (.int k n)
 | b (x : Bool) : Rel w I (.b x) (.bool x)
 | s (x : ByteArray) : Rel w I (.s x) (.string x)
 | nil (sz eb : Nat) : Rel w I (.l sz eb []) (.slice none 0 0)
 | emp (sz eb : Nat) (ad : Addr) : Rel w I (.l sz eb []) (.slice (some ad) 0 0)
 | l (sz eb : Nat) (rows : List (List D)) (ad : Addr) (cap : Nat) (css : Nat → Nat → Value)
  (hI : I ad.block) (hcap : rows.length ≤ cap) (hm : cap ≤ maxLen) (hb : rows.length * eb ≤ 140737488355328)
  (hsz : ∀ r ∈ rows, r.length = sz)
  (hc : ∀ (j u : Nat) (r : List D) (x : D), rows[j]? = some r → r[u]? = some x → w.cell? (ad.add (j * sz + u)) = some (css j u))
  (hr : ∀ (j u : Nat) (r : List D) (x : D), rows[j]? = some r → r[u]? = some x → Rel w I x (css j u)) :
  Rel w I (.l sz eb rows) (.slice (some ad) rows.length cap)
 | sm (p : Nat → Obj → Value → Prop) (b : Nat) (o : Obj) (v : Value) (hI : I b) (hw : w.heap[b]? = some o) (hc : ∃ cs t fr, o = .cells cs t fr) (h : p b o v) (h1 : v.oneCell' = true) : Rel w I (.sm p) v
 | ve (v : Value) (h1 : v.oneCell' = true) : Rel w I (.ve v h1) v

theorem Rel.mono {w w' : World} {I I' : Nat → Prop} (hw : ∀ b, I b → w'.heap[b]? = w.heap[b]?) (hI : ∀ b, I b → I' b) {x : D} {v : Value} (h : Rel w I x v) : Rel w' I' x v := by
 induction h with
 | i k n => exact .i k n
 | b x => exact .b x
 | s x => exact .s x
 | nil sz eb => exact .nil sz eb
 | emp sz eb ad => exact .emp sz eb ad
 | l sz eb rows ad cap css hI0 hcap hm hb hsz hc hr ih =>
   refine .l sz eb rows ad cap css (hI _ hI0) hcap hm hb hsz (fun j u r x h1 h2 => ?_) ih
   rw [World.cell?_of_block (w := w)]
   · exact hc j u r x h1 h2
   · have : (ad.add (j * sz + u)).block = ad.block := by unfold Addr.add; split <;> rfl
     rw [this]; exact hw _ hI0
 | sm p b o v hI0 h0 hc h h1 => exact .sm p b o v (hI _ hI0) ((hw _ hI0).trans h0) hc h h1
 | ve v h1 => exact .ve v h1

theorem Rel.oneCell {w : World} {I : Nat → Prop} {x : D} {v : Value} (h : Rel w I x v) : v.oneCell' = true := by
 cases h with
 | sm p b o v hI hw hc h h1 => exact h1
 | ve v h1 => exact h1
 | _ => rfl

inductive AV where
 | any
 | val (v : Value)
 | d (x : D)
 | pd (cs : List D)
 | agg (cs : List AV)
 | tup (vs : List AV)

abbrev AV.int (n : Int) : AV := .val (.int .i64 n)
abbrev AV.bool (b : Bool) : AV := .val (.bool b)

def PD (w : World) (I : Nat → Prop) (cs : List D) (ad : Addr) : Prop :=
 I ad.block ∧ ∀ (u : Nat) (x : D), cs[u]? = some x → ∃ c, w.cell? (ad.add u) = some c ∧ Rel w I x c

mutual
def AV.rel (w : World) (I : Nat → Prop) : AV → Value → Prop
 | .any, _ => True
 | .val u, v => v = u
 | .d x, v => Rel w I x v
 | .pd cs, v => ∃ ad, v = .pointer (some ad) ∧ PD w I cs ad
 | .agg cs, v => ∃ vs : List Value, v = .agg vs.toArray ∧ AV.rels w I cs vs
 | .tup cs, v => ∃ vs : List Value, v = .tuple vs.toArray ∧ AV.rels w I cs vs
def AV.rels (w : World) (I : Nat → Prop) : List AV → List Value → Prop
 | [], [] => True
 | x :: xs, v :: vs => AV.rel w I x v ∧ AV.rels w I xs vs
 | _, _ => False
end

theorem PD.mono {w w' : World} {I I' : Nat → Prop} (hw : ∀ b, I b → w'.heap[b]? = w.heap[b]?) (hI : ∀ b, I b → I' b) {cs : List D} {ad : Addr} (h : PD w I cs ad) : PD w' I' cs ad := by
 refine ⟨hI _ h.1, fun u x hx => ?_⟩
 obtain ⟨c, h1, h2⟩ := h.2 u x hx
 refine ⟨c, ?_, h2.mono hw hI⟩
 rw [World.cell?_of_block (w := w)]
 · exact h1
 · have : (ad.add u).block = ad.block := by unfold Addr.add; split <;> rfl
   rw [this]; exact hw _ h.1

mutual
theorem AV.rel_mono {w w' : World} {I I' : Nat → Prop} (hw : ∀ b, I b → w'.heap[b]? = w.heap[b]?) (hI : ∀ b, I b → I' b) : ∀ {x : AV} {v : Value}, AV.rel w I x v → AV.rel w' I' x v
 | .any, _, _ => trivial
 | .val _, _, h => h
 | .d _, _, h => Rel.mono hw hI h
 | .pd _, _, ⟨ad, h1, h2⟩ => ⟨ad, h1, h2.mono hw hI⟩
 | .agg _, _, ⟨vs, h1, h2⟩ => ⟨vs, h1, AV.rels_mono hw hI h2⟩
 | .tup _, _, ⟨vs, h1, h2⟩ => ⟨vs, h1, AV.rels_mono hw hI h2⟩
theorem AV.rels_mono {w w' : World} {I I' : Nat → Prop} (hw : ∀ b, I b → w'.heap[b]? = w.heap[b]?) (hI : ∀ b, I b → I' b) : ∀ {xs : List AV} {vs : List Value}, AV.rels w I xs vs → AV.rels w' I' xs vs
 | [], [], _ => trivial
 | _ :: _, _ :: _, ⟨h1, h2⟩ => ⟨AV.rel_mono hw hI h1, AV.rels_mono hw hI h2⟩
end

theorem AV.rels_length {w : World} {I : Nat → Prop} : ∀ {xs : List AV} {vs : List Value}, AV.rels w I xs vs → xs.length = vs.length
 | [], [], _ => rfl
 | _ :: _, _ :: _, ⟨_, h2⟩ => by simp [AV.rels_length h2]

theorem AV.rels_get {w : World} {I : Nat → Prop} : ∀ {xs : List AV} {vs : List Value}, AV.rels w I xs vs → ∀ (j : Nat) (x : AV), xs[j]? = some x → ∃ v, vs[j]? = some v ∧ AV.rel w I x v
 | [], [], _, _, _, h => by simp at h
 | x :: xs, v :: vs, ⟨h1, h2⟩, j, y, h => by
   cases j with
   | zero => simp at h; subst h; exact ⟨v, rfl, h1⟩
   | succ j => simpa using AV.rels_get h2 j y (by simpa using h)

theorem AV.rels_append {w : World} {I : Nat → Prop} : ∀ {xs ys : List AV} {vs us : List Value}, AV.rels w I xs vs → AV.rels w I ys us → AV.rels w I (xs ++ ys) (vs ++ us)
 | [], _, [], _, _, h => h
 | _ :: _, _, _ :: _, _, ⟨h1, h2⟩, h => ⟨h1, AV.rels_append h2 h⟩

abbrev Env := List (Nat × AV)
def get : Env → Nat → AV
 | [], _ => .any
 | (k, v) :: r, t => bif Nat.beq k t then v else get r t
def ev (ρ : Env) : Operand → AV
 | .tmp t => get ρ t
 | .const v => .val v
 | .global g => .val (.pointer (some ⟨g, 0, none⟩))
 | .func f => .val (.func (.func f) #[] #[])
def put (ρ : Env) (t : Option Tmp) (v : AV) : Env := match t with | some t => (t, v) :: ρ | none => ρ

inductive Ent where
 | cells (b : Nat) (T : TypeId) (vs : List AV)
 | row (v : Value) (n : Nat) (T : TypeId) (sz : Nat) (l : List AV)
 | raw (b : Nat) (o : Obj)
abbrev H := List Ent

def Ent.blk : Ent → Option Nat
 | .cells b _ _ => some b
 | .row v _ _ _ _ => v.ownBlock
 | .raw b _ => some b
def Ent.rel (w : World) (I : Nat → Prop) : Ent → Prop
 | .cells b T vs => ∃ cs : Array Value, w.heap[b]? = some (.cells cs T (0, 0)) ∧ AV.rels w I vs cs.toList
 | .row v n T sz l => ∃ xs, w.ownsRow 0 T sz v n xs ∧ AV.rels w I l xs
 | .raw b o => w.heap[b]? = some o
def blks (h : H) : List Nat := h.filterMap Ent.blk

theorem Ent.rel_mono {w w' : World} {I I' : Nat → Prop} (hw : ∀ b, I b → w'.heap[b]? = w.heap[b]?) (hI : ∀ b, I b → I' b) {e : Ent} (hb : ∀ b, e.blk = some b → w'.heap[b]? = w.heap[b]?) (h : e.rel w I) : e.rel w' I' := by
 cases e with
 | cells b T vs => obtain ⟨cs, h1, h2⟩ := h; exact ⟨cs, (hb b rfl).trans h1, AV.rels_mono hw hI h2⟩
 | row v n T sz l =>
   obtain ⟨xs, h1, h2⟩ := h
   refine ⟨xs, ⟨h1.1, ?_⟩, AV.rels_mono hw hI h2⟩
   rcases h1.2 with h3 | ⟨g, cap, cur, rfl, hbase, hg, r⟩
   · exact .inl h3
   · exact .inr ⟨g, cap, cur, rfl, hbase, (hb g rfl).trans hg, r⟩
 | raw b o => exact (hb b rfl).trans h

theorem Ent.blk_lt {w : World} {I : Nat → Prop} {e : Ent} (h : e.rel w I) {b : Nat} (hb : e.blk = some b) : b < w.heap.size := by
 have key : ∀ o, w.heap[b]? = some o → b < w.heap.size := fun o ho => (Array.getElem?_eq_some_iff.1 ho).1
 cases e with
 | cells b' T vs => cases hb; obtain ⟨cs, h1, _⟩ := h; exact key _ h1
 | row v n T sz l => obtain ⟨xs, h1, _⟩ := h; exact (h1.lt b hb).2
 | raw b' o => cases hb; exact key _ h

structure Cx where
 W : World
 I0 : Nat → Prop
 E : List Nat
 G : List (Nat × List D)

structure Ok (c : Cx) (I : Nat → Prop) (h : H) (w : World) : Prop where
 ent : ∀ e ∈ h, e.rel w I
 nd : (blks h).Nodup
 imm : ∀ b, I b → b < w.heap.size ∧ b ∉ blks h
 new : ∀ b ∈ blks h, b ∈ c.E ∨ c.W.heap.size ≤ b
 inew : ∀ b, I b → c.I0 b ∨ b ∈ c.E ∨ c.W.heap.size ≤ b
 sup : ∀ b, c.I0 b → I b
 os : w.os = c.W.os
 tape : w.tape = c.W.tape
 output : w.output = c.W.output
 size : c.W.heap.size ≤ w.heap.size
 keep : ∀ b, b < c.W.heap.size → b ∉ c.E → w.heap[b]? = c.W.heap[b]?
 glob : ∀ q ∈ c.G, PD w I q.2 ⟨q.1, 0, none⟩

def SF (n : Nat) (w : World) (I : Nat → Prop) (ρ : Env) (a : Act) : Prop := a.tmps.size = n ∧ ∀ t, AV.rel w I (get ρ t) (a.tmps.getD t undef)

theorem SF.mono {n : Nat} {w w' : World} {I I' : Nat → Prop} {ρ : Env} {a : Act} (hw : ∀ b, I b → w'.heap[b]? = w.heap[b]?) (hI : ∀ b, I b → I' b) (h : SF n w I ρ a) : SF n w' I' ρ a :=
 ⟨h.1, fun t => AV.rel_mono hw hI (h.2 t)⟩

theorem SF.ev {n : Nat} {w : World} {I : Nat → Prop} {ρ : Env} {a : Act} (h : SF n w I ρ a) (x : Operand) : AV.rel w I (ev ρ x) (a.eval x) := by
 cases x with
 | tmp t => exact h.2 t
 | const v => exact rfl
 | global g => exact rfl
 | func f => exact rfl

theorem SF.put {n : Nat} {w : World} {I : Nat → Prop} {ρ : Env} {a : Act} (h : SF n w I ρ a) {dst : Option Tmp} (hd : ∀ t, dst = some t → t < n) {r : AV} {v : Value} (hr : AV.rel w I r v) : SF n w I (Av.put ρ dst r) (a.put dst v) := by
 cases dst with
 | none => exact h
 | some d =>
   have hdn := hd d rfl
   refine ⟨by simpa [Act.put] using h.1, fun t => ?_⟩
   simp only [Av.put, get, Act.put]
   by_cases hdt : d = t
   · subst hdt
     have : Nat.beq d d = true := Nat.beq_refl d
     simp only [this, cond_true]
     have hs : d < a.tmps.size := by rw [h.1]; exact hdn
     simpa [Array.getD, hs] using hr
   · have : Nat.beq d t = false := by
      cases hb : Nat.beq d t with
      | false => rfl
      | true => exact absurd (Nat.eq_of_beq_eq_true hb) hdt
     simp only [this, cond_false]
     have := h.2 t
     have e : (a.tmps.setIfInBounds d v).getD t undef = a.tmps.getD t undef := by
      simp only [Array.getD_eq_getD_getElem?, Array.getElem?_setIfInBounds, hdt, if_false]
     rw [e]; exact this

structure Ev (I : Nat → Prop) (h : H) (w w' : World) : Prop where
 os : w'.os = w.os
 tape : w'.tape = w.tape
 output : w'.output = w.output
 size : w.heap.size ≤ w'.heap.size
 block : ∀ b, b < w.heap.size → w'.heap[b]? = w.heap[b]?

theorem Ct {h : H} {e : Ent} {b : Nat} (hm : e ∈ h) (hb : e.blk = some b) : b ∈ blks h := List.mem_filterMap.2 ⟨e, hm, hb⟩
structure Nc (I : Nat → Prop) (h : H) (w w' : World) : Prop where
 imm : ∀ b, I b → w'.heap[b]? = w.heap[b]?
 own : ∀ b, b ∈ blks h → w'.heap[b]? = w.heap[b]?
theorem Nc.refl (I : Nat → Prop) (h : H) (w : World) : Nc I h w w := ⟨fun _ _ => rfl, fun _ _ => rfl⟩
theorem Ev.drewN {I : Nat → Prop} {h : H} {w : World} (n : Nat) : Ev I h w (w.drewN n) := ⟨rfl, rfl, rfl, Nat.le_refl _, fun _ _ => rfl⟩
theorem Ev.trans {I : Nat → Prop} {h : H} {a b c : World} (h1 : Ev I h a b) (h2 : Ev I h b c) : Ev I h a c :=
 ⟨h2.os.trans h1.os, h2.tape.trans h1.tape, h2.output.trans h1.output, Nat.le_trans h1.size h2.size, fun k hk => (h2.block k (Nat.lt_of_lt_of_le hk h1.size)).trans (h1.block k hk)⟩

theorem Ok.same {c : Cx} {I : Nat → Prop} {h : H} {w w' : World} (k : Ok c I h w) (s : Ev I h w w') : Ok c I h w' where
 ent e he := Ent.rel_mono (fun b hb => s.block b (k.imm b hb).1) (fun _ hb => hb) (fun b hb => s.block b (Ent.blk_lt (k.ent e he) hb)) (k.ent e he)
 nd := k.nd
 imm b hb := ⟨Nat.lt_of_lt_of_le (k.imm b hb).1 s.size, (k.imm b hb).2⟩
 new := k.new
 inew := k.inew
 sup := k.sup
 os := s.os.trans k.os
 tape := s.tape.trans k.tape
 output := s.output.trans k.output
 size := Nat.le_trans k.size s.size
 keep b hb hE := (s.block b (Nat.lt_of_lt_of_le hb k.size)).trans (k.keep b hb hE)
 glob q hq := (k.glob q hq).mono (fun b hb => s.block b (k.imm b hb).1) fun _ hb => hb

theorem Ev.weak {c : Cx} {I : Nat → Prop} {h : H} {w w' : World} (s : Ev I h w w') (k : Ok c I h w) : Nc I h w w' :=
 ⟨fun b hb => s.block b (k.imm b hb).1, fun b hb => s.block b (by
  obtain ⟨e, he, heb⟩ := List.mem_filterMap.1 hb
  exact Ent.blk_lt (k.ent e he) heb)⟩
theorem SF.same {c : Cx} {I : Nat → Prop} {h : H} {w w' : World} {n : Nat} {ρ : Env} {a : Act} (k : Ok c I h w) (s : Ev I h w w') (f : SF n w I ρ a) : SF n w' I ρ a :=
 f.mono (fun b hb => s.block b (k.imm b hb).1) fun _ hb => hb

structure Kx where
 P : Program
 c : Cx
 n : Nat
 df : List Deferred

def lift (k : Kx) (Q : Exit → Env → H → Prop) : Exit → Act → World → Prop := fun e a w =>
 ∃ I ρ h, Ok k.c I h w ∧ SF k.n w I ρ a ∧ a.defers = k.df ∧ Q e ρ h

def J (k : Kx) (x : Code) (Q : Exit → Env → H → Prop) (ρ : Env) (h : H) : Prop :=
 ∀ I a w, Ok k.c I h w → SF k.n w I ρ a → a.defers = k.df → x.wp k.P (lift k Q) a w

def JW (N : Env → H → Prop) (Q : Exit → Env → H → Prop) : Exit → Env → H → Prop
 | .normal, ρ, h => N ρ h
 | e, ρ, h => Q e ρ h
def GN (id : Nat) (Q : Exit → Env → H → Prop) : Exit → Env → H → Prop
 | .exit id', ρ, h => if id' = id then Q .normal ρ h else Q (.exit id') ρ h
 | e, ρ, h => Q e ρ h

section
variable {k : Kx} {Q Q' : Exit → Env → H → Prop} {ρ ρ' : Env} {h h' : H}

theorem FF {x y : Code} (hj : J k x (JW (J k y Q) Q) ρ h) : J k (.seq x y) Q ρ h := by
 intro I a w h1 h2 h3
 refine wp_seq (wp_mono (hj I a w h1 h2 h3) ?_)
 rintro e a w ⟨I, ρ, h, h1, h2, h3, h4⟩
 cases e with
 | normal => exact h4 I a w h1 h2 h3
 | _ => exact ⟨I, ρ, h, h1, h2, h3, h4⟩

theorem I6 {id : Nat} {x : Code} (hj : J k x (GN id Q) ρ h) : J k (.block id x) Q ρ h := by
 intro I a w h1 h2 h3
 refine wp_block (wp_mono (hj I a w h1 h2 h3) ?_)
 rintro e a w ⟨I, ρ, h, h1, h2, h3, h4⟩
 cases e with
 | exit id' =>
   simp only [GN] at h4
   simp only [Exit.inBlock]
   split at h4
   · rename_i hid; rw [if_pos hid]; exact ⟨I, ρ, h, h1, h2, h3, h4⟩
   · rename_i hid; rw [if_neg hid]; exact ⟨I, ρ, h, h1, h2, h3, h4⟩
 | _ => exact ⟨I, ρ, h, h1, h2, h3, h4⟩

theorem dr (hq : Q .normal ρ h) : J k .skip Q ρ h := fun I _ _ h1 h2 h3 => wp_skip ⟨I, ρ, h, h1, h2, h3, hq⟩
theorem iC (hq : Q .ret ρ h) : J k .ret Q ρ h := fun I _ _ h1 h2 h3 => wp_ret ⟨I, ρ, h, h1, h2, h3, hq⟩
theorem db {id : Nat} (hq : Q (.exit id) ρ h) : J k (.exit id) Q ρ h := fun I _ _ h1 h2 h3 => wp_exit ⟨I, ρ, h, h1, h2, h3, hq⟩

theorem ee {o : Operand} {x y : Code} {b : Bool} (hc : ev ρ o = .val (.bool b)) (ht : b = true → J k x Q ρ h) (hf : b = false → J k y Q ρ h) : J k (.cond o x y) Q ρ h := by
 intro I a w h1 h2 h3
 have he : a.eval o = .bool b := by have := h2.ev o; rw [hc] at this; exact this
 exact wp_cond_split he (fun hb => ht hb I a w h1 h2 h3) (fun hb => hf hb I a w h1 h2 h3)
def AV.le (x y : AV) : Prop := ∀ (w : World) (I : Nat → Prop) (u : Value), AV.rel w I x u → AV.rel w I y u
theorem AV.le_refl (x : AV) : AV.le x x := fun _ _ _ h => h
theorem AV.le_any (x : AV) : AV.le x .any := fun _ _ _ _ => trivial
theorem AV.le_of_eq {x y : AV} (h : x = y) : AV.le x y := h ▸ AV.le_refl x
theorem AV.le_nil (sz eb : Nat) : AV.le (.val (.slice none 0 0)) (.d (.l sz eb [])) := fun _ _ _ h => by cases h; exact .nil sz eb
def Env.le (ρ ρ' : Env) : Prop := ∀ t, AV.le (get ρ t) (get ρ' t)
theorem Env.le_refl (ρ : Env) : Env.le ρ ρ := fun _ => AV.le_refl _
theorem Env.le_nil (ρ : Env) : Env.le ρ [] := fun _ => AV.le_any _
theorem Env.le_cons {ρ ρ' : Env} {t : Nat} {x : AV} (h1 : AV.le (get ρ t) x) (h2 : Env.le ρ ρ') : Env.le ρ ((t, x) :: ρ') := by
 intro s
 simp only [get]
 cases hb : Nat.beq t s with
 | true => rw [← Nat.eq_of_beq_eq_true hb]; exact h1
 | false => exact h2 s
theorem SF.le {n : Nat} {w : World} {I : Nat → Prop} {a : Act} (f : SF n w I ρ a) (hle : Env.le ρ ρ') : SF n w I ρ' a := ⟨f.1, fun t => hle t _ _ _ (f.2 t)⟩
theorem gR {x : Code} (hle : Env.le ρ ρ') (hj : J k x Q ρ' h) : J k x Q ρ h := fun I a w h1 h2 h3 => hj I a w h1 (h2.le hle) h3

theorem least {p : Nat → Prop} (h : ∃ m, p m) : ∃ m, p m ∧ ∀ j, p j → m ≤ j := by
 obtain ⟨m, hm⟩ := h
 induction m using Nat.strongRecOn with
 | _ m ih =>
   by_cases hx : ∃ j, j < m ∧ p j
   · obtain ⟨j, h1, h2⟩ := hx; exact ih j h1 h2
   · exact ⟨m, hm, fun j hj => Nat.le_of_not_lt fun hlt => hx ⟨j, hlt, hj⟩⟩

open Classical in
theorem XQ {X : Type} {x : Code} (S : X → Env) (G : X → H) (Inv : X → Prop) (μ : X → Nat) (x0 : X) (h0 : Inv x0) (hρ : Env.le ρ (S x0)) (hh : h = G x0)
 (round : ∀ y, Inv y → J k x (JW (fun ρ' h' => ∃ y', Inv y' ∧ μ y' < μ y ∧ Env.le ρ' (S y') ∧ h' = G y') Q) (S y) (G y)) : J k (.loop x) Q ρ h := by
 intro I a w h1 h2 h3
 let fits (a : Act) (w : World) (y : X) : Prop := Inv y ∧ ∃ I, Ok k.c I (G y) w ∧ SF k.n w I (S y) a ∧ a.defers = k.df
 let has (a : Act) (w : World) (m : Nat) : Prop := ∃ y, fits a w y ∧ μ y = m
 let M (a : Act) (w : World) : Nat := if hx : ∃ m, has a w m then Classical.choose (least hx) else 0
 have hM : ∀ a w y, fits a w y → M a w ≤ μ y ∧ ∃ z, fits a w z ∧ μ z = M a w := by
  intro a w y hy
  have hx : ∃ m, has a w m := ⟨μ y, y, hy, rfl⟩
  have hd : M a w = Classical.choose (least hx) := by simp only [M, dif_pos hx]
  have hs := Classical.choose_spec (least hx)
  exact ⟨by rw [hd]; exact hs.2 _ ⟨y, hy, rfl⟩, by rw [hd]; exact hs.1⟩
 refine wp_loop (fun a w => ∃ y, fits a w y) M ⟨x0, h0, I, hh ▸ h1, h2.le hρ, h3⟩ ?_
 rintro a w ⟨y, hy⟩
 obtain ⟨_, z, ⟨hz1, I', hz2, hz3, hz4⟩, hz⟩ := hM a w y hy
 refine wp_mono (round z hz1 I' a w hz2 hz3 hz4) ?_
 rintro e a' w' ⟨I, ρ1, h1, k1, k2, k3, k4⟩
 cases e with
 | normal =>
   obtain ⟨y', i1, i2, i3, i4⟩ := k4
   have hy' : fits a' w' y' := ⟨i1, I, i4 ▸ k1, k2.le i3, k3⟩
   exact ⟨⟨y', hy'⟩, Nat.lt_of_le_of_lt (hM a' w' y' hy').1 (hz ▸ i2)⟩
 | _ => exact ⟨I, ρ1, h1, k1, k2, k3, k4⟩

def JL (k : Kx) (ops : Array Oper) (l : List Oper) (Q : Exit → Env → H → Prop) (ρ : Env) (h : H) : Prop :=
 ∀ I a w, Ok k.c I h w → SF k.n w I ρ a → a.defers = k.df → wpList k.P ops (lift k Q) l a w

theorem I5 {id : Nat} {l : List Oper} (hj : JL k l.toArray l Q ρ h) : J k (.region id l.toArray false) Q ρ h :=
 fun I a w h1 h2 h3 => wp_region_lit (hj I a w h1 h2 h3)
theorem L3 {ops : Array Oper} (hq : Q .normal ρ h) : JL k ops [] Q ρ h := fun I _ _ h1 h2 h3 => ⟨I, ρ, h, h1, h2, h3, hq⟩
theorem Un {ops : Array Oper} {l : List Oper} (hle : Env.le ρ ρ') (hj : JL k ops l Q ρ' h) : JL k ops l Q ρ h := fun I a w h1 h2 h3 => hj I a w h1 (h2.le hle) h3

theorem Act.defers_put (a : Act) (d : Option Tmp) (v : Value) : (a.put d v).defers = a.defers := by cases d <;> rfl

def Pure (P : Program) (G : List (Nat × List D)) (o : Oper) (ρ : Env) (h : H) (r : AV) : Prop :=
 ∀ (c : Cx) (I : Nat → Prop) (n : Nat) (a : Act) (w : World), c.G = G → Ok c I h w → SF n w I ρ a → ∃ v, AV.rel w I r v ∧ ∀ w', Nc I h w w' → (execOp a.eval o).run P w' = .ok (.value v) w'

theorem VA {ops : Array Oper} {o : Oper} {l : List Oper} {r : AV} (hp : Pure k.P k.c.G o ρ h r) (hg : o.guard = none) (hd : ∀ t, o.dst = some t → t < k.n) (hj : JL k ops l Q (put ρ o.dst r) h) : JL k ops (o :: l) Q ρ h := by
 intro I a w h1 h2 h3
 obtain ⟨v, hv, hrun⟩ := hp k.c I k.n a w rfl h1 h2
 refine wpList_plain hg fun K hK => ?_
 unfold Oper.wp
 rw [hrun w (Nc.refl _ _ _)]
 exact hK _ _ (hj I _ w h1 (h2.put hd hv) (by rw [Act.defers_put]; exact h3))

theorem EP {ops : Array Oper} {o oj : Oper} {j d : Nat} {want b : Bool} {n : Nat} {w : World} {I : Nat → Prop} {a : Act} (h2 : SF n w I ρ a) (hg : o.guard = some (j, want)) (hj : ops[j]? = some oj) (hd : oj.dst = some d) (hr : get ρ d = .val (.bool b)) (hn : d < n) :
 Region.wanted o (yielded ops a.tmps) = (b == want) := by
 have hv := h2.2 d
 rw [hr] at hv
 have hv' : a.tmps.getD d undef = .bool b := hv
 have hs : d < a.tmps.size := by rw [h2.1]; exact hn
 have hv2 : a.tmps[d]? = some (.bool b) := by
  rw [Array.getElem?_eq_getElem hs]
  simpa [Array.getD, hs] using hv'
 simp only [Region.wanted, hg, yielded, hj, Option.bind_some, hd, hv2]
 cases b <;> cases want <;> rfl

theorem SB {ops : Array Oper} {o oj : Oper} {l : List Oper} {j d : Nat} {want b : Bool} (hg : o.guard = some (j, want)) (hj : ops[j]? = some oj) (hdj : oj.dst = some d) (hr : get ρ d = .val (.bool b)) (hn : d < k.n)
 (hd : ∀ t, o.dst = some t → t < k.n) (hb : b = !want) (hno : JL k ops l Q (put ρ o.dst (.val undef)) h) : JL k ops (o :: l) Q ρ h := by
 intro I a w h1 h2 h3
 have hw := EP (ops := ops) h2 hg hj hdj hr hn
 unfold wpList
 rw [if_neg (by rw [hw, hb]; cases want <;> simp)]
 exact hno I _ w h1 (h2.put hd (r := .val undef) rfl) (by rw [Act.defers_put]; exact h3)

theorem O6 {ops : Array Oper} {o oj : Oper} {l : List Oper} {j d : Nat} {want : Bool} (hg : o.guard = some (j, want)) (hj : ops[j]? = some oj) (hdj : oj.dst = some d) (hr : get ρ d = .val (.bool want)) (hn : d < k.n)
 (hy : JL k ops ({ o with guard := none } :: l) Q ρ h) : JL k ops (o :: l) Q ρ h := by
 intro I a w h1 h2 h3
 have hw := EP (ops := ops) h2 hg hj hdj hr hn
 have := hy I a w h1 h2 h3
 unfold wpList at this ⊢
 rw [if_pos (by rw [hw]; simp)]
 rw [if_pos (by simp [Region.wanted])] at this
 exact this

theorem P3 {ops : Array Oper} {o oj : Oper} {j d : Nat} {want : Bool} {n : Nat} {w : World} {I : Nat → Prop} {a : Act} (h2 : SF n w I ρ a) (hg : o.guard = some (j, want)) (hj : ops[j]? = some oj) (hd : oj.dst = some d) (hr : get ρ d = .val undef) :
 Region.wanted o (yielded ops a.tmps) = false := by
 have hv := h2.2 d
 rw [hr] at hv
 have hv' : a.tmps.getD d undef = undef := hv
 rw [Array.getD_eq_getD_getElem?] at hv'
 simp only [Region.wanted, hg, yielded, hj, Option.bind_some, hd]
 cases hx : a.tmps[d]? with
 | none => rfl
 | some v =>
   rw [hx] at hv'
   have : v = undef := hv'
   subst this
   rfl
theorem Qs {ops : Array Oper} {o oj : Oper} {l : List Oper} {j d : Nat} {want : Bool} (hg : o.guard = some (j, want)) (hj : ops[j]? = some oj) (hdj : oj.dst = some d) (hr : get ρ d = .val undef)
 (hd : ∀ t, o.dst = some t → t < k.n) (hno : JL k ops l Q (put ρ o.dst (.val undef)) h) : JL k ops (o :: l) Q ρ h := by
 intro I a w h1 h2 h3
 have hw := P3 (ops := ops) h2 hg hj hdj hr
 unfold wpList
 rw [if_neg (by rw [hw]; simp)]
 exact hno I _ w h1 (h2.put hd (r := .val undef) rfl) (by rw [Act.defers_put]; exact h3)
end

def D.av : D → AV
 | .i k n => .val (.int k n)
 | .b x => .val (.bool x)
 | .s x => .val (.string x)
 | .l sz eb rows => .d (.l sz eb rows)
 | .sm p => .d (.sm p)
 | .ve v _ => .val v

theorem D.av_rel {w : World} {I : Nat → Prop} {x : D} {v : Value} (h : Rel w I x v) : AV.rel w I x.av v := by
 cases h with
 | i k n => rfl
 | b x => rfl
 | s x => rfl
 | nil sz eb => exact .nil sz eb
 | emp sz eb ad => exact .emp sz eb ad
 | l sz eb rows ad cap css hI hcap hm hb hsz hc hr => exact .l sz eb rows ad cap css hI hcap hm hb hsz hc hr
 | sm p b o v hI hw hc h h1 => exact .sm p b o v hI hw hc h h1
 | ve v h1 => rfl

theorem AI {w : World} {I : Nat → Prop} {x : AV} {u v : Value} (h : AV.rel w I x v) (e : x = .val u) : v = u := by subst e; exact h
theorem BS {w : World} {I : Nat → Prop} {x y : AV} {v : Value} (h : AV.rel w I x v) (e : x = y) : AV.rel w I y v := e ▸ h

section
variable {P : Program} {G : List (Nat × List D)} {ρ : Env} {h : H} {dst : Option Tmp} {ty : TypeId} {pos : String} {after : Array Edge} {g : Option (Nat × Bool)}

theorem AZ {o : Oper} {r : AV} (hp : ∀ (w : World) (I : Nat → Prop) (n : Nat) (a : Act), SF n w I ρ a → ∃ v, AV.rel w I r v ∧ ∀ w', (execOp a.eval o).run P w' = .ok (.value v) w') : Pure P G o ρ h r :=
 fun _ I n a w _ _ hs => let ⟨v, h1, h2⟩ := hp w I n a hs; ⟨v, h1, fun w' _ => h2 w'⟩

theorem VG {x : Operand} {r : AV} (hx : ev ρ x = r) : Pure P G ⟨dst, .move x, ty, pos, after, g⟩ ρ h r :=
 AZ fun _ _ _ a hs => ⟨a.eval x, BS (hs.ev x) hx, fun _ => rfl⟩
theorem QM {x : Operand} {r : AV} (hx : ev ρ x = r) : Pure P G ⟨dst, .assign x, ty, pos, after, g⟩ ρ h r :=
 AZ fun _ _ _ a hs => ⟨a.eval x, BS (hs.ev x) hx, fun _ => rfl⟩
theorem L5 {c x y : Operand} {r : AV} (hc : ev ρ c = .val (.bool true)) (hx : ev ρ x = r) : Pure P G ⟨dst, .pick c x y, ty, pos, after, g⟩ ρ h r :=
 AZ fun _ _ _ a hs => ⟨a.eval x, BS (hs.ev x) hx, fun _ => by have := AI (hs.ev c) hc; simp [execOp, this, asBool]⟩
theorem Kn {c x y : Operand} {r : AV} (hc : ev ρ c = .val (.bool false)) (hy : ev ρ y = r) : Pure P G ⟨dst, .pick c x y, ty, pos, after, g⟩ ρ h r :=
 AZ fun _ _ _ a hs => ⟨a.eval y, BS (hs.ev y) hy, fun _ => by have := AI (hs.ev c) hc; simp [execOp, this, asBool]⟩

theorem A5 {op : BinOp} {T T' : TypeId} {x y : Operand} {u v r : Value} (hx : ev ρ x = .val u) (hy : ev ρ y = .val v) (hg : ∀ w, (eqGuard op T x y u v).run P w = .ok () w) (hr : ∀ w, (binOp op T u v).run P w = .ok r w) :
 Pure P G ⟨dst, .binOp op T x y T', ty, pos, after, g⟩ ρ h (.val r) :=
 AZ fun _ _ _ a hs => ⟨r, rfl, fun w => by
  have e1 := AI (hs.ev x) hx
  have e2 := AI (hs.ev y) hy
  simp [execOp, e1, e2, hg, hr]⟩

def Aj (n : Int) : Prop := -9223372036854775808 ≤ n ∧ n ≤ 9223372036854775807
theorem GV {n : Int} (hn : Aj n) : IntKind.i64.wrap n = n := by
 obtain ⟨h1, h2⟩ := hn
 rw [IntKind.wrap_i64]; omega

theorem ZQ {T T' : TypeId} {x y : Operand} {m n : Int} (hx : ev ρ x = .int m) (hy : ev ρ y = .int n) (hb : Aj (m + n)) : Pure P G ⟨dst, .binOp .add T x y T', ty, pos, after, g⟩ ρ h (.int (m + n)) :=
 A5 hx hy (fun _ => by rw [eqGuard_add]; rfl) fun _ => by rw [binOp_add]; simp [Op.intArith, GV hb]
theorem ZB {T T' : TypeId} {x y : Operand} {m n : Int} (hx : ev ρ x = .int m) (hy : ev ρ y = .int n) (hb : Aj (m - n)) : Pure P G ⟨dst, .binOp .sub T x y T', ty, pos, after, g⟩ ρ h (.int (m - n)) :=
 A5 hx hy (fun _ => by rw [eqGuard_sub]; rfl) fun _ => by rw [binOp_sub]; simp [Op.intArith, GV hb]
theorem Y8 {T T' : TypeId} {x y : Operand} {m n : Int} (hx : ev ρ x = .int m) (hy : ev ρ y = .int n) (hb : Aj (m * n)) : Pure P G ⟨dst, .binOp .mul T x y T', ty, pos, after, g⟩ ρ h (.int (m * n)) :=
 A5 hx hy (fun _ => by rw [eqGuard_mul]; rfl) fun _ => by rw [binOp_mul]; simp [Op.intArith, GV hb]
theorem Yt {T T' : TypeId} {x y : Operand} {m n : Int} (hx : ev ρ x = .int m) (hy : ev ρ y = .int n) (h0 : 0 ≤ m) (h1 : 0 < n) (hm : m ≤ 9223372036854775807) : Pure P G ⟨dst, .binOp .quo T x y T', ty, pos, after, g⟩ ρ h (.int (m / n)) :=
 A5 hx hy (fun _ => by rw [eqGuard_quo]; rfl) fun _ => by
  have hn : n ≠ 0 := by omega
  have hd : m / n ≤ m := Int.ediv_le_self _ h0
  have hd0 : 0 ≤ m / n := Int.ediv_nonneg h0 (by omega)
  rw [binOp_quo]; simp [Op.intDiv, hn, Int.tdiv_eq_ediv_of_nonneg h0, GV (n := m / n) ⟨by omega, by omega⟩]
theorem ZR {T T' : TypeId} {x y : Operand} {m n : Int} (hx : ev ρ x = .int m) (hy : ev ρ y = .int n) (h0 : 0 ≤ m) (h1 : 0 < n) : Pure P G ⟨dst, .binOp .rem T x y T', ty, pos, after, g⟩ ρ h (.int (m % n)) :=
 A5 hx hy (fun _ => by rw [eqGuard_rem]; rfl) fun _ => by
  have hn : n ≠ 0 := by omega
  rw [binOp_rem]; simp [Op.intDiv, hn, Int.tmod_eq_emod_of_nonneg h0]
theorem XV {T T' : TypeId} {x y : Operand} {k : IntKind} {m n : Int} (hx : ev ρ x = .val (.int k m)) (hy : ev ρ y = .val (.int k n)) : Pure P G ⟨dst, .binOp .lss T x y T', ty, pos, after, g⟩ ρ h (.bool (decide (m < n))) :=
 A5 hx hy (fun _ => by rw [eqGuard_lss]; rfl) fun _ => by rw [binOp_lss]; rfl
theorem YW {T T' : TypeId} {x y : Operand} {k : IntKind} {m n : Int} (hx : ev ρ x = .val (.int k m)) (hy : ev ρ y = .val (.int k n)) : Pure P G ⟨dst, .binOp .leq T x y T', ty, pos, after, g⟩ ρ h (.bool (decide (m ≤ n))) :=
 A5 hx hy (fun _ => by rw [eqGuard_leq]; rfl) fun _ => by rw [binOp_leq]; rfl
theorem XL {T T' : TypeId} {x y : Operand} {k : IntKind} {m n : Int} (hx : ev ρ x = .val (.int k m)) (hy : ev ρ y = .val (.int k n)) : Pure P G ⟨dst, .binOp .gtr T x y T', ty, pos, after, g⟩ ρ h (.bool (decide (n < m))) :=
 A5 hx hy (fun _ => by rw [eqGuard_gtr]; rfl) fun _ => by rw [binOp_gtr]; rfl
theorem Xb {T T' : TypeId} {x y : Operand} {k : IntKind} {m n : Int} (hx : ev ρ x = .val (.int k m)) (hy : ev ρ y = .val (.int k n)) : Pure P G ⟨dst, .binOp .geq T x y T', ty, pos, after, g⟩ ρ h (.bool (decide (n ≤ m))) :=
 A5 hx hy (fun _ => by rw [eqGuard_geq]; rfl) fun _ => by rw [binOp_geq]; rfl
theorem aD {T T' : TypeId} {x y : Operand} {k : IntKind} {m n : Int} (hx : ev ρ x = .val (.int k m)) (hy : ev ρ y = .val (.int k n)) : Pure P G ⟨dst, .binOp .eql T x y T', ty, pos, after, g⟩ ρ h (.bool (decide (m = n))) :=
 A5 hx hy (fun _ => by rw [eqGuard_at_int]; rfl) fun _ => by rw [binOp_eql]; rfl
theorem UK (m n : Int) : (m != n) = decide (m ≠ n) := by
 by_cases h : m = n <;> simp [h]
theorem XO {T T' : TypeId} {x y : Operand} {k : IntKind} {m n : Int} (hx : ev ρ x = .val (.int k m)) (hy : ev ρ y = .val (.int k n)) : Pure P G ⟨dst, .binOp .neq T x y T', ty, pos, after, g⟩ ρ h (.bool (decide (m ≠ n))) :=
 A5 hx hy (fun _ => by rw [eqGuard_at_int]; rfl) fun _ => by rw [binOp_neq, UK]; rfl
theorem NA {T T' : TypeId} {x y : Operand} {p q : Bool} (hT : P.underlying T = some .bool) (hx : ev ρ x = .bool p) (hy : ev ρ y = .bool q) : Pure P G ⟨dst, .binOp .eql T x y T', ty, pos, after, g⟩ ρ h (.bool (p == q)) :=
 A5 hx hy (fun _ => by rw [eqGuard_at_bool]; rfl) fun w => by simp [binOp, Op.equal, Op.maxDepth, run_equalIn_bool' w 9999 T p q hT]
theorem NJ {T T' : TypeId} {x y : Operand} {p q : Bool} (hT : P.underlying T = some .bool) (hx : ev ρ x = .bool p) (hy : ev ρ y = .bool q) : Pure P G ⟨dst, .binOp .neq T x y T', ty, pos, after, g⟩ ρ h (.bool (!(p == q))) :=
 A5 hx hy (fun _ => by rw [eqGuard_at_bool]; rfl) fun w => by simp [binOp, Op.equal, Op.maxDepth, run_equalIn_bool' w 9999 T p q hT]
theorem Kt {T T' : TypeId} {x y : Operand} {s t : ByteArray} (hx : ev ρ x = .val (.string s)) (hy : ev ρ y = .val (.string t)) : Pure P G ⟨dst, .binOp .eql T x y T', ty, pos, after, g⟩ ρ h (.bool (s == t)) :=
 A5 hx hy (fun _ => by rw [eqGuard_at_string]; rfl) fun w => by simp [binOp, Op.stringOp, beq_toListBytes]
theorem Ks {T T' : TypeId} {x y : Operand} {s t : ByteArray} (hx : ev ρ x = .val (.string s)) (hy : ev ρ y = .val (.string t)) : Pure P G ⟨dst, .binOp .neq T x y T', ty, pos, after, g⟩ ρ h (.bool (!(s == t))) :=
 A5 hx hy (fun _ => by rw [eqGuard_at_string]; rfl) fun w => by simp [binOp, Op.stringOp, beq_toListBytes]
theorem YZ {T T' : TypeId} {x y : Operand} {m n : Int} (hx : ev ρ x = .int m) (hy : ev ρ y = .int n) (h0 : 0 ≤ n) (h1 : n ≤ 64) (hb : Aj (m * 2 ^ n.toNat)) : Pure P G ⟨dst, .binOp .shl T x y T', ty, pos, after, g⟩ ρ h (.int (m * 2 ^ n.toNat)) :=
 A5 hx hy (fun _ => by rw [eqGuard_shl]; rfl) fun _ => by rw [binOp_shl, shift_shl .i64 .i64 m n h0 h1, GV hb]; rfl
theorem Xw {T T' : TypeId} {x y : Operand} {m n : Int} (hx : ev ρ x = .int m) (hy : ev ρ y = .int n) (h0 : 0 ≤ n) (h1 : n ≤ 64) : Pure P G ⟨dst, .binOp .shr T x y T', ty, pos, after, g⟩ ρ h (.int (m / 2 ^ n.toNat)) :=
 A5 hx hy (fun _ => by rw [eqGuard_shr]; rfl) fun _ => by rw [binOp_shr, shift_shr .i64 .i64 m n h0 h1]; rfl
theorem pure_and {T T' : TypeId} {x y : Operand} {m n : Int} (hx : ev ρ x = .int m) (hy : ev ρ y = .int n) : Pure P G ⟨dst, .binOp .and T x y T', ty, pos, after, g⟩ ρ h (.int (bits .and .i64 m n)) :=
 A5 hx hy (fun _ => by rw [eqGuard_and]; rfl) fun _ => by rw [binOp_and, intBits_and]; rfl
theorem pure_or {T T' : TypeId} {x y : Operand} {m n : Int} (hx : ev ρ x = .int m) (hy : ev ρ y = .int n) : Pure P G ⟨dst, .binOp .or T x y T', ty, pos, after, g⟩ ρ h (.int (bits .or .i64 m n)) :=
 A5 hx hy (fun _ => by rw [eqGuard_or]; rfl) fun _ => by rw [binOp_or, intBits_or]; rfl

theorem aG {T : TypeId} {x : Operand} {b : Bool} (hx : ev ρ x = .bool b) : Pure P G ⟨dst, .unOp .not T x, ty, pos, after, g⟩ ρ h (.bool (!b)) :=
 AZ fun _ _ _ a hs => ⟨_, rfl, fun w => by have e1 := AI (hs.ev x) hx; simp [execOp, e1, Op.unary]⟩
theorem Zo {T : TypeId} {x : Operand} {m : Int} (hx : ev ρ x = .int m) (hb : Aj (-m)) : Pure P G ⟨dst, .unOp .neg T x, ty, pos, after, g⟩ ρ h (.int (-m)) :=
 AZ fun _ _ _ a hs => ⟨_, rfl, fun w => by have e1 := AI (hs.ev x) hx; simp [execOp, e1, Op.unary, Op.intArith, GV hb]⟩
theorem Ii {T : TypeId} {x : Operand} {v : Value} (hT : ∃ d, P.underlying T = some d ∧ ∀ m, d ≠ .interface m) (hx : ev ρ x = .val v) : Pure P G ⟨dst, .makeInterface T x, ty, pos, after, g⟩ ρ h (.val (.iface T v)) :=
 AZ fun _ _ _ a hs => ⟨_, rfl, fun w => by
  have e1 := AI (hs.ev x) hx
  obtain ⟨d, hd, hne⟩ := hT
  simp only [execOp, e1, Instr.makeInterface, Sem.run_bind, run_underlying hd, Result.andThen_ok]
  cases d <;> first | (exact absurd rfl (hne _)) | rfl⟩
theorem Pe {x : Operand} {i : Nat} {vs : List AV} {r : AV} (hx : ev ρ x = .tup vs) (hi : vs[i]? = some r) : Pure P G ⟨dst, .extract x i, ty, pos, after, g⟩ ρ h r :=
 AZ fun w I _ a hs => by
  have e1 := BS (hs.ev x) hx
  obtain ⟨us, e2, e3⟩ := e1
  obtain ⟨v, hv, hr⟩ := AV.rels_get e3 i r hi
  exact ⟨v, hr, fun w => by simp [execOp, e2, Instr.extract, hv]⟩
theorem Rx {T : TypeId} {x : Operand} {sz eb : Nat} {rows : List (List D)} {E : TypeId} (hT : P.underlying T = some (.slice E)) (hx : ev ρ x = .d (.l sz eb rows)) : Pure P G ⟨dst, .call { callee := .builtin .len, args := #[x], argTypes := #[T] }, ty, pos, after, g⟩ ρ h (.int rows.length) :=
 AZ fun w I _ a hs => by
  have e1 := BS (hs.ev x) hx
  refine ⟨_, rfl, fun w' => ?_⟩
  have key : ∀ ad c, a.eval x = .slice ad rows.length c → (execOp a.eval ⟨dst, .call { callee := .builtin .len, args := #[x], argTypes := #[T] }, ty, pos, after, g⟩).run P w' = .ok (.value (.int .i64 rows.length)) w' := fun ad c he => by
   simp [execOp, resolve, invoke, builtin, he, Builtin.len_, run_underlying hT, goInt]
  generalize hv : a.eval x = v at e1
  cases e1 with
  | nil => exact key _ _ hv
  | emp => exact key _ _ hv
  | l _ _ _ ad cap css => exact key _ _ hv
theorem PG {T : TypeId} {x : Operand} {ad : Option Addr} {n c : Nat} {E : TypeId} (hT : P.underlying T = some (.slice E)) (hx : ev ρ x = .val (.slice ad n c)) : Pure P G ⟨dst, .call { callee := .builtin .len, args := #[x], argTypes := #[T] }, ty, pos, after, g⟩ ρ h (.int n) :=
 AZ fun w I _ a hs => ⟨_, rfl, fun w' => by have e1 := AI (hs.ev x) hx; simp [execOp, resolve, invoke, builtin, e1, Builtin.len_, run_underlying hT, goInt]⟩
theorem Kv {T : TypeId} {x : Operand} {s : ByteArray} (hT : P.underlying T = some .string) (hx : ev ρ x = .val (.string s)) : Pure P G ⟨dst, .call { callee := .builtin .len, args := #[x], argTypes := #[T] }, ty, pos, after, g⟩ ρ h (.int s.size) :=
 AZ fun w I _ a hs => ⟨_, rfl, fun w' => by have e1 := AI (hs.ev x) hx; simp [execOp, resolve, invoke, builtin, e1, Builtin.len_, run_underlying hT, goInt]⟩

def El (P : Program) (E : TypeId) (z : Value) (sz eb : Nat) : Prop := (P.info? E).map (fun i => (i.zero, i.size, i.bytes)) = some (some z, sz, eb)
theorem El.get {P : Program} {E : TypeId} {z : Value} {sz eb : Nat} (h : El P E z sz eb) : ∃ i, P.info? E = some i ∧ i.zero = some z ∧ i.size = sz ∧ i.bytes = eb := by
 unfold El at h
 cases hi : P.info? E with
 | none => rw [hi] at h; cases h
 | some i =>
   rw [hi] at h
   simp only [Option.map_some, Option.some.injEq, Prod.mk.injEq] at h
   exact ⟨i, rfl, h.1, h.2.1, h.2.2⟩

theorem Dr (ad : Addr) (u : Nat) : (ad.add u).block = ad.block := by unfold Addr.add; split <;> rfl

theorem HY {T E : TypeId} {x y : Operand} {sz eb : Nat} {rows : List (List D)} {n : Int} {z : Value} {eb' : Nat} {r : List D} (hT : P.underlying T = some (.slice E)) (hE : El P E z sz eb')
 (hx : ev ρ x = .d (.l sz eb rows)) (hy : ev ρ y = .int n) (h0 : 0 ≤ n) (hr : rows[n.toNat]? = some r) : Pure P G ⟨dst, .indexAddr T x y, ty, pos, after, g⟩ ρ h (.pd r) :=
 AZ fun w I _ a hs => by
  obtain ⟨i, hE, _, hsz, _⟩ := hE.get
  have e1 := BS (hs.ev x) hx
  have e2 := AI (hs.ev y) hy
  have hlt : n.toNat < rows.length := (List.getElem?_eq_some_iff.1 hr).1
  generalize hv : a.eval x = v at e1
  cases e1 with
  | nil => simp at hlt
  | emp => simp at hlt
  | l _ _ _ ad cap css hI hcap hm hb hsz' hc hrel =>
    refine ⟨.pointer (some (ad.add (n.toNat * sz))), ⟨_, rfl, by rw [Dr]; exact hI, fun u x hx => ?_⟩, fun w' => ?_⟩
    · rw [Addr.add_add]
      exact ⟨_, hc _ u r x hr hx, hrel _ u r x hr hx⟩
    · have hn : n < (rows.length : Int) := by omega
      simp [execOp, hv, e2, Instr.indexAt, run_underlying hT, asIntOf, h0, hn, sizeOf, typeInfo, hE, hsz]

def Fld (P : Program) (S f off : Nat) : Prop := (match P.underlying S with | some (.struct fs) => (fs[f]?).bind fun fd => ((P.info? fd.type).bind fun i => if i.size = 0 then none else some fd.offset) | _ => none) = some off
theorem Fld.get {P : Program} {S f off : Nat} (h : Fld P S f off) : ∃ fs fd i, P.underlying S = some (.struct fs) ∧ fs[f]? = some fd ∧ P.info? fd.type = some i ∧ i.size ≠ 0 ∧ fd.offset = off := by
 unfold Fld at h
 split at h
 · rename_i fs hS
   cases hf : fs[f]? with
   | none => rw [hf] at h; cases h
   | some fd =>
     rw [hf] at h
     simp only [Option.bind_some] at h
     cases hi : P.info? fd.type with
     | none => rw [hi] at h; cases h
     | some i =>
       rw [hi] at h
       simp only [Option.bind_some] at h
       split at h
       · cases h
       · rename_i hne
         exact ⟨fs, fd, i, hS, hf, hi, hne, by simpa using h⟩
 · cases h

theorem LV {S : TypeId} {x : Operand} {f : Nat} {cs : List D} {off : Nat} (hF : Fld P S f off)
 (hx : ev ρ x = .pd cs) : Pure P G ⟨dst, .fieldAddr S x f, ty, pos, after, g⟩ ρ h (.pd (cs.drop off)) :=
 AZ fun w I _ a hs => by
  obtain ⟨fs, fd, i, hS, hf, hi, hne, rfl⟩ := hF.get
  obtain ⟨ad, e1, hI, hc⟩ := BS (hs.ev x) hx
  refine ⟨.pointer (some (ad.add fd.offset)), ⟨_, rfl, by rw [Dr]; exact hI, fun u x hx => ?_⟩, fun w' => ?_⟩
  · rw [Addr.add_add]
    rw [List.getElem?_drop] at hx
    exact hc _ x hx
  · simp [execOp, e1, Instr.fieldAt, run_underlying hS, hf, Instr.sureAddr, fieldPlace, sizeOf, typeInfo, hi, hne]

def A0 (P : Program) (t : TypeId) : Option Bool :=
 match P.underlying t with
 | some (.struct _) | some (.array _ _) => some true
 | some _ => some false
 | none => none
theorem B2 {t : TypeId} {b : Bool} (ht : A0 P t = some b) (w : World) : (isAgg t).run P w = .ok b w := by
 unfold A0 at ht
 cases hu : P.underlying t with
 | none => rw [hu] at ht; cases ht
 | some d =>
   rw [hu] at ht
   simp only [isAgg, Sem.run_bind, run_underlying hu, Result.andThen_ok]
   cases d <;> simp at ht <;> subst ht <;> rfl

theorem Nk {T : TypeId} {x : Operand} {c : D} {cs : List D} (hT : A0 P T = some false) (hx : ev ρ x = .pd (c :: cs)) : Pure P G ⟨dst, .load T x, ty, pos, after, g⟩ ρ h c.av := by
 intro k I n a w _ hok hs
 obtain ⟨ad, e1, hI, hc⟩ := BS (hs.ev x) hx
 obtain ⟨u, hu, hr⟩ := hc 0 c rfl
 refine ⟨u, D.av_rel hr, fun w' hw' => ?_⟩
 have hb : (ad.add 0).block = ad.block := Dr _ _
 have hcell : w'.cell? ad = some u := by
  rw [World.cell?_of_block (w := w) (hw'.imm _ hI)]
  simpa [Addr.add] using hu
 simp [execOp, e1, Instr.loadAt, Instr.sureAddr, loadVar, B2 hT, run_load, hcell]

theorem PA {T : TypeId} {x : Operand} {c : D} {cs : List D} (hT : A0 P T = some false) (hx : ev ρ x = .pd cs) (hc : cs[0]? = some c) : Pure P G ⟨dst, .load T x, ty, pos, after, g⟩ ρ h c.av := by
 cases cs with
 | nil => cases hc
 | cons c' cs => simp at hc; subst hc; exact Nk hT hx

theorem Pw {w : World} {I : Nat → Prop} : ∀ (cs : List D) (f : Nat → Value), (∀ u x, cs[u]? = some x → Rel w I x (f u)) → AV.rels w I (cs.map D.av) ((List.range cs.length).map f)
 | [], _, _ => trivial
 | c :: cs, f, hf => by
   have ih := Pw cs (fun u => f (u + 1)) fun u x hx => hf (u + 1) x (by simpa using hx)
   simp only [List.length_cons, List.range_succ_eq_map, List.map_cons, List.map_map]
   exact ⟨D.av_rel (hf 0 c rfl), ih⟩

theorem Mz {T : TypeId} {x : Operand} {cs cs' : List D} {z : Value} {sz eb : Nat} (hT : A0 P T = some true) (hE : El P T z sz eb) (hx : ev ρ x = .pd cs') (hpre : cs'.take sz = cs) (hn : sz = cs.length) : Pure P G ⟨dst, .load T x, ty, pos, after, g⟩ ρ h (.agg (cs.map D.av)) := by
 intro k I n a w _ hok hs
 obtain ⟨i, hi, _, hsz, _⟩ := hE.get
 obtain ⟨ad, e1, hI, hc⟩ := BS (hs.ev x) hx
 have hget : ∀ u x, cs[u]? = some x → cs'[u]? = some x := fun u x hux => by
  rw [← hpre, List.getElem?_take] at hux
  split at hux
  · exact hux
  · cases hux
 let f : Nat → Value := fun u => (w.cell? (ad.add u)).getD undef
 have hf : ∀ u x, cs[u]? = some x → w.cell? (ad.add u) = some (f u) ∧ Rel w I x (f u) := fun u x hux => by
  obtain ⟨v, h1, h2⟩ := hc u x (hget u x hux)
  simp only [f, h1, Option.getD_some]
  exact ⟨trivial, h2⟩
 refine ⟨.agg ((List.range cs.length).map f).toArray, ⟨_, rfl, Pw cs f fun u x hux => (hf u x hux).2⟩, fun w' hw' => ?_⟩
 have hload := run_loadCells (P := P) w' ad cs.length f fun j hj => by
  rw [World.cell?_of_block (w := w)]
  · exact (hf j cs[j] (List.getElem?_eq_getElem hj)).1
  · rw [Dr]; exact hw'.imm _ hI
 simp [execOp, e1, Instr.loadAt, Instr.sureAddr, loadVar, B2 hT, sizeOf, typeInfo, hi, hsz, hn, hload]

theorem NO {x : Operand} {ad : Addr} (hx : ev ρ x = .val (.pointer (some ad))) : Pure P G ⟨dst, .nilCheck x, ty, pos, after, g⟩ ρ h (.val (.pointer (some ad))) :=
 AZ fun w I _ a hs => ⟨_, rfl, fun w' => by have e1 := AI (hs.ev x) hx; simp [execOp, e1]⟩
end

section
variable {P : Program} {ops : Array Oper} {md : Region.Mode} {C : World → Prop}

def RQ (P : Program) (md : Region.Mode) (ops : Array Oper) (C : World → Prop) (n : Nat) (L : Array Bool → Act → Prop) : Nat → Array Bool → Act → Prop
 | 0, listed, a => L listed a
 | f + 1, listed, a => Region.ready md ops listed ≠ [] ∧ ∀ i ∈ Region.ready md ops listed, i < n ∧ qOp P ops C i (RQ P md ops C n L f (listed.setIfInBounds i true)) a

theorem Px {n g : Nat} {L : Array Bool → Act → Prop} {Q' : Exit → Act → World → Prop} (hL : ∀ listed a w, C w → L listed a → wpAny P md ops Q' g listed a w) :
 ∀ (f : Nat) (listed : Array Bool) (a : Act) (w : World), C w → RQ P md ops C n L f listed a → wpAny P md ops Q' (f + g) listed a w := by
 intro f
 induction f with
 | zero => intro listed a w hw h; rw [Nat.zero_add]; exact hL _ _ _ hw h
 | succ f ih =>
   intro listed a w hw h
   rw [show f + 1 + g = (f + g) + 1 by omega]
   exact ⟨fun h0 => absurd h0 h.1, fun i hi => wpOp_of_qOp hw (fun a' w' hw' h' => ih _ a' w' hw' h') (h.2 i hi).2⟩

theorem Qa {n i : Nat} {oi : Oper} {v : Value} {L : Array Bool → Act → Prop} (hi : ops[i]? = some oi) (hsel : ∀ (j : Nat) (o : Oper) cs b, ops[j]? = some o → o.op ≠ .select cs b)
 (hs : Region.sinkB md ops n = true) (hc : Region.chainB md ops n = true) (hn : n < ops.size) (hin : i < n)
 (hdone : ∀ listed a, L listed a → ∀ j ∈ Region.ready md ops listed, n ≤ j) (f : Nat) :
 ∀ (listed : Array Bool) (a : Act), HeadInv md ops n listed →
  (∀ j oj, ops[j]? = some oj → j ≠ i → listed.getD j true = false → (∀ e ∈ oj.after, Region.binds md e = true → e.on ≠ i) → oi.apart ops oj = true) →
  i ∈ Region.ready md ops listed → YieldsIn P ops C oi v a →
  RQ P md ops C n L f (listed.setIfInBounds i true) (a.put oi.dst v) → RQ P md ops C n L (f + 1) listed a := by
 have low : ∀ (listed : Array Bool), HeadInv md ops n listed → i ∈ Region.ready md ops listed → ∀ j ∈ Region.ready md ops listed, j < n := fun listed inv hr j hj => by
  rcases Nat.lt_or_ge j n with h | h
  · exact h
  · exact absurd hj (tail_waits hs hc hn inv _ i rfl hin (mem_ready.1 hr).1 j h)
 induction f with
 | zero =>
   intro listed a inv _ hr hy H
   refine ⟨fun h => (by rw [h] at hr; cases hr), fun j hj => ⟨low listed inv hr j hj, ?_⟩⟩
   by_cases hji : j = i
   · subst hji; exact hy.qOp hi H
   · have := hdone _ _ H j (ready_mono hj hji)
     have := low listed inv hr j hj
     omega
 | succ f ih =>
   intro listed a inv hfree hr hy H
   refine ⟨fun h => (by rw [h] at hr; cases hr), fun j hj => ⟨low listed inv hr j hj, ?_⟩⟩
   by_cases hji : j = i
   · subst hji; exact hy.qOp hi H
   have h1 := (H.2 j (ready_mono hj hji)).2
   obtain ⟨hjun, oj, hoj, hall⟩ := mem_ready.1 hj
   have hun := (mem_ready.1 hr).1
   have hnot : ∀ e ∈ oj.after, Region.binds md e = true → e.on ≠ i := fun e he hb heq => by
    have h0 := hall e he hb
    rw [heq, getD_both hun] at h0
    cases h0
   have h2 := qOp_put hoj (hfree j oj hoj hji hjun hnot) (fun cs b => hsel i oi cs b hi) (fun cs b => hsel j oj cs b hoj) hy h1
   refine qOp_mono (fun a' h3 => ih (listed.setIfInBounds j true) a' (inv.set hj (low listed inv hr j hj)) (fun k ok hk hki hu hno => hfree k ok hk hki ?_ hno) (ready_mono hr (Ne.symm hji)) h3.1 ?_) h2
   · by_cases hjk : j = k
     · subst hjk; exact hjun
     · rwa [getD_set_ne true hjk] at hu
   · rw [Array.setIfInBounds_comm _ _ hji]
     exact h3.2

theorem Vk {n g : Nat} {Lq : Act → Prop} (hsel : Region.noSelect ops = true) (hs : Region.sinkB md ops n = true) (hc : Region.chainB md ops n = true) (hn : n < ops.size) :
 ∀ (l : List Oper) (k : Nat) (listed : Array Bool) (a : Act), (∀ j, j < l.length → l[j]? = ops[k + j]?) → k + l.length = n → HeadInv md ops n listed →
 Region.lexHead md ops g l.length k listed = true → wpQuiet P ops C Lq l a →
 RQ P md ops C n (fun listed' a' => Region.seqB md ops g n listed' = true ∧ Lq a') l.length listed a := by
 intro l
 induction l with
 | nil =>
   intro k listed a _ hk _ hB h
   obtain rfl : k = n := by simpa using hk
   exact ⟨by simpa [Region.lexHead] using hB, h⟩
 | cons o l ih =>
   intro k listed a hl hk inv hB h
   have h0 : ops[k]? = some o := by simpa using (hl 0 (by simp)).symm
   simp only [List.length_cons, Region.lexHead, Bool.and_eq_true] at hB
   simp only [List.length_cons] at hk
   have hr : k ∈ Region.ready md ops listed := by simpa using hB.1.1
   obtain ⟨v, hy, hK⟩ := yieldsIn_of_qOp (K := wpQuiet P ops C Lq l) h0 (by unfold qOp; simp only [h0]; exact h)
   exact Qa h0 (Region.noSelect_spec hsel) hs hc hn (by omega) (fun _ _ hL => seqB_ready hL.1) l.length listed a inv (Region.free_spec h0 hB.1.2) hr hy
    (ih (k + 1) _ _ (fun j hj => by have := hl (j + 1) (by simp; omega); simpa [Nat.add_assoc, Nat.add_comm 1 j] using this) (by omega) (inv.set hr (by omega)) hB.2 hK)

theorem D0 {id : Nat} {Q : Exit → Act → World → Prop} {a : Act} {w : World} {l : List Oper} (n : Nat) (hm : P.follows .mixedOrders = true) (hB : Region.lexTailB .any l.toArray n = true) (hC : C { w with drawn := w.drawn + 1 })
 (h : wpQuiet P l.toArray C (fun a' => ∀ w', C w' → wpList P l.toArray Q (l.drop n) a' w') (l.take n) a) : (Code.region id l.toArray true).wp P Q a w := by
 simp only [Region.lexTailB, Bool.and_eq_true, decide_eq_true_eq] at hB
 obtain ⟨⟨⟨⟨hsel, hn⟩, hs⟩, hc⟩, hlex⟩ := hB
 have hnl : n < l.length := by simpa using hn
 have htl : (l.take n).length = n := by simp; omega
 have hdl : (l.drop n).length = l.toArray.size - n := by simp
 have inv0 : HeadInv .any l.toArray n (Array.replicate l.toArray.size false) :=
  ⟨by simp, fun j oj _ hl => (by rw [getD_replicate_false] at hl; cases hl), fun t _ ht => getD_in (by simpa using ht) (getD_replicate_false _ _)⟩
 have H := Vk (md := .any) (g := l.toArray.size - n) hsel hs hc hn (l.take n) 0 _ a (fun j hj => by rw [htl] at hj; simp [hj]) (by simpa using htl) inv0 (by rw [htl]; exact hlex) h
 refine wp_region_any hm ?_
 have K := Px (Q' := Q) (g := l.toArray.size - n) (fun listed a' w' hw' hL => by
  have := wpAny_of_seq (md := .any) (Q' := Q) (l.drop n) n listed a' w' (fun j => by simp [List.getElem?_drop]) (by rw [hdl]; exact hL.1) (hL.2 w' hw')
  rwa [hdl] at this) _ _ _ _ hC H
 rw [htl, show n + (l.toArray.size - n) = l.toArray.size by omega] at K
 exact K
end

section
variable {P : Program} {ops : Array Oper} {md : Region.Mode} {S S' : World → Prop}

def noQ : Exit → Act → World → Prop := fun _ _ _ => False
theorem YS {Q : Exit → Act → World → Prop} {i : Nat} {K : Act → World → Prop} {a : Act} {w : World} (h : wpOp P ops noQ i K a w) : wpOp P ops Q i K a w := by
 unfold wpOp at *
 cases ho : ops[i]? with
 | none => rw [ho] at h; exact h
 | some o =>
   rw [ho] at h
   dsimp only at h ⊢
   by_cases hw : Region.wanted o (yielded ops a.tmps) = true
   · rw [if_pos hw] at h ⊢
     rcases h with h | ⟨_, a', w', hf⟩
     case inr => exact hf.elim
     refine .inl ?_
     unfold Oper.wp at *
     generalize (execOp a.eval o).run P w = r at *
     cases r with
     | ok n w' =>
       cases n <;> simp only [Oper.upon] at h ⊢
       case value u => exact h
       case skip => exact h
       case defer d => exact h
       case enter f args =>
        refine Calls.mono h fun e w'' he => ?_
        cases e with
        | returned u => exact he
        | panicked c => exact he.elim
        | outgrown => obtain ⟨_, _, hf⟩ := he; exact hf.elim
       case row row args => exact Rows.mono h fun u w'' he => he
     | halt x w' =>
       cases x <;> simp only [Oper.upon] at h ⊢
       case panic u => exact h.elim
   · rw [if_neg hw] at h ⊢
     exact h
def Ge (P : Program) (md : Region.Mode) (ops : Array Oper) (S : World → Prop) (n : Nat) (L : Array Bool → Act → World → Prop) : Nat → Array Bool → Act → World → Prop
 | 0, listed, a, w => L listed a w
 | f + 1, listed, a, w => Region.ready md ops listed ≠ [] ∧ ∀ i ∈ Region.ready md ops listed, i < n ∧ wpOp P ops noQ i (fun a' w' => S w' ∧ Ge P md ops S n L f (listed.setIfInBounds i true) a' w') a w
theorem Mh {n : Nat} {L : Array Bool → Act → World → Prop} (hS : ∀ w, S w → S' w) : ∀ (f : Nat) (listed : Array Bool) (a : Act) (w : World), Ge P md ops S n L f listed a w → Ge P md ops S' n L f listed a w
 | 0, _, _, _, h => h
 | f + 1, listed, a, w, h => ⟨h.1, fun i hi => ⟨(h.2 i hi).1, wpOp_mono (fun a' w' h' => ⟨hS _ h'.1, Mh hS f _ a' w' h'.2⟩) (h.2 i hi).2⟩⟩
theorem EI {n g : Nat} {Q : Exit → Act → World → Prop} {L : Array Bool → Act → World → Prop} (hL : ∀ listed a w, L listed a w → wpAny P md ops Q g listed a w) :
 ∀ (f : Nat) (listed : Array Bool) (a : Act) (w : World), Ge P md ops S n L f listed a w → wpAny P md ops Q (f + g) listed a w
 | 0, listed, a, w, h => by rw [Nat.zero_add]; exact hL _ _ _ h
 | f + 1, listed, a, w, h => by
   rw [show f + 1 + g = (f + g) + 1 by omega]
   exact ⟨fun h0 => absurd h0 h.1, fun i hi => YS (wpOp_mono (fun a' w' h' => EI hL f _ a' w' h'.2) (h.2 i hi).2)⟩

theorem Kl {n i : Nat} {oi : Oper} {v : Value} {L : Array Bool → Act → World → Prop} (hi : ops[i]? = some oi) (hsel : ∀ (j : Nat) (o : Oper) cs b, ops[j]? = some o → o.op ≠ .select cs b)
 (Ms : ∀ listed, HeadInv md ops n listed → i ∈ Region.ready md ops listed → ∀ j ∈ Region.ready md ops listed, j < n) (hin : i < n)
 (hdone : ∀ listed a w, L listed a w → ∀ j ∈ Region.ready md ops listed, n ≤ j) (f : Nat) :
 ∀ (listed : Array Bool) (a : Act) (w : World), HeadInv md ops n listed →
  (∀ j oj, ops[j]? = some oj → j ≠ i → listed.getD j true = false → (∀ e ∈ oj.after, Region.binds md e = true → e.on ≠ i) → oi.apart ops oj = true) →
  i ∈ Region.ready md ops listed → YieldsIf P ops S oi v a → S w →
  Ge P md ops S n L f (listed.setIfInBounds i true) (a.put oi.dst v) w → Ge P md ops S n L (f + 1) listed a w := by
 induction f with
 | zero =>
   intro listed a w inv _ hr hy hS H
   refine ⟨fun h => (by rw [h] at hr; cases hr), fun j hj => ⟨Ms listed inv hr j hj, ?_⟩⟩
   by_cases hji : j = i
   · subst hji; exact hy.wpOp hi hS ⟨hS, H⟩
   · have := hdone _ _ _ H j (ready_mono hj hji)
     have := Ms listed inv hr j hj
     omega
 | succ f ih =>
   intro listed a w inv hfree hr hy hS H
   refine ⟨fun h => (by rw [h] at hr; cases hr), fun j hj => ⟨Ms listed inv hr j hj, ?_⟩⟩
   by_cases hji : j = i
   · subst hji; exact hy.wpOp hi hS ⟨hS, H⟩
   have h1 := (H.2 j (ready_mono hj hji)).2
   obtain ⟨hjun, oj, hoj, hall⟩ := mem_ready.1 hj
   have hun := (mem_ready.1 hr).1
   have hnot : ∀ e ∈ oj.after, Region.binds md e = true → e.on ≠ i := fun e he hb heq => by
    have h0 := hall e he hb
    rw [heq, getD_both hun] at h0
    cases h0
   have h2 := wpOp_putIf hoj (hfree j oj hoj hji hjun hnot) (fun cs b => hsel i oi cs b hi) (fun cs b => hsel j oj cs b hoj) (fun _ _ _ h => h) hy h1
   refine wpOp_mono (fun a' w' h3 => ⟨h3.2.1, ih (listed.setIfInBounds j true) a' w' (inv.set hj (Ms listed inv hr j hj)) (fun k ok hk hki hu hno => hfree k ok hk hki ?_ hno) (ready_mono hr (Ne.symm hji)) h3.1 h3.2.1 ?_⟩) h2
   · by_cases hjk : j = k
     · subst hjk; exact hjun
     · rwa [getD_set_ne true hjk] at hu
   · rw [Array.setIfInBounds_comm _ _ hji]
     exact h3.2.2
end

inductive AE where
 | ret (r : AV)
 | pan (ch : List PanicEntry)
def AE.rel (w : World) (I : Nat → Prop) : AE → Ending → Prop
 | .ret r, .returned v => AV.rel w I r v
 | .pan ch, .panicked ch' => ch' = ch
 | _, _ => False

def Gq (G : List (Nat × List D)) (W : World) (I : Nat → Prop) (h : H) (Q : AE → H → Prop) (e : Ending) (w' : World) : Prop :=
 ∃ r h' I', Q r h' ∧ Ok ⟨W, I, blks h, G⟩ I' h' w' ∧ AE.rel w' I' r e

def AC (P : Program) (G : List (Nat × List D)) (f : FuncId) (args : List AV) (h : H) (Q : AE → H → Prop) : Prop :=
 ∀ (I : Nat → Prop) (W : World) (vs : List Value), (∀ e ∈ h, e.rel W I) → (blks h).Nodup → (∀ b, I b → b < W.heap.size ∧ b ∉ blks h) → (∀ q ∈ G, PD W I q.2 ⟨q.1, 0, none⟩) → AV.rels W I args vs →
  Calls P f vs.toArray W (Gq G W I h Q)

abbrev ACr (P : Program) (G : List (Nat × List D)) (f : FuncId) (args : List AV) (r : AV) : Prop := AC P G f args [] fun e h => e = .ret r ∧ h = []

theorem AC.mono {P : Program} {G : List (Nat × List D)} {f : FuncId} {args : List AV} {h : H} {Q Q' : AE → H → Prop} (hc : AC P G f args h Q) (hq : ∀ e h, Q e h → Q' e h) : AC P G f args h Q' :=
 fun I W vs h1 h2 h3 h4 h5 => (hc I W vs h1 h2 h3 h4 h5).mono fun _ _ ⟨r, h', I', q, rest⟩ => ⟨r, h', I', hq _ _ q, rest⟩

def Ch : Nat → List AV → Env
 | _, [] => []
 | i, a :: r => (i, a) :: Ch (i + 1) r

theorem DN (w : World) (I : Nat → Prop) : ∀ (args : List AV) (vs : List Value) (i t : Nat), AV.rels w I args vs → AV.rel w I (get (Ch i args) t) (if i ≤ t then (vs[t - i]?).getD undef else undef)
 | [], [], i, t, _ => trivial
 | a :: as_, v :: vs, i, t, ⟨h1, h2⟩ => by
   simp only [Ch, get]
   cases hb : Nat.beq i t with
   | true =>
     have := Nat.eq_of_beq_eq_true hb
     subst this
     simpa using h1
   | false =>
     have hne : i ≠ t := fun e => by subst e; simp at hb
     have ih := DN w I as_ vs (i + 1) t h2
     simp only [cond_false]
     by_cases hle : i ≤ t
     · rw [if_pos hle]
       rw [if_pos (by omega)] at ih
       have : t - i = (t - (i + 1)) + 1 := by omega
       rw [this]; simpa using ih
     · rw [if_neg hle]
       rw [if_neg (by omega)] at ih
       exact ih

def Kg (ρ : Env) : List Tmp → AV
 | [t] => get ρ t
 | ts => .tup (ts.map (get ρ))

theorem JD {n : Nat} {w : World} {I : Nat → Prop} {ρ : Env} {a : Act} (f : SF n w I ρ a) : ∀ ts : List Tmp, AV.rels w I (ts.map (get ρ)) (ts.map fun t => a.tmps.getD t undef)
 | [] => trivial
 | t :: ts => ⟨f.2 t, JD f ts⟩

def aL (tmps : Array Value) : List Tmp → Value
 | [t] => tmps.getD t undef
 | ts => .tuple (ts.map fun t => tmps.getD t undef).toArray

theorem Ki (P : Program) (fn : Func) (ts : List Tmp) (h : fn.results = (ts.map ResultVar.tmp).toArray) (tmps : Array Value) (w : World) : (results fn tmps).run P w = .ok (aL tmps ts) w := by
 have key : ∀ (F : ResultVar → Sem Value) (_ : ∀ t, F (.tmp t) = pure (tmps.getD t undef)) (ts : List Tmp) (w : World), (List.mapM F (ts.map ResultVar.tmp)).run P w = .ok (ts.map fun t => tmps.getD t undef) w := by
  intro F hF ts
  induction ts with
  | nil => intro w; rfl
  | cons t ts ih =>
    intro w
    rw [List.map_cons, List.mapM_cons]
    simp only [Sem.run_bind, Sem.run_pure, Result.andThen_ok, ih, List.map_cons, hF]
 unfold results
 rw [h]
 simp only [List.mapM_toArray, Sem.run_bind, Sem.run_map]
 rw [key _ (fun _ => rfl)]
 match ts with
 | [] => rfl
 | [t] => rfl
 | t :: u :: r => simp [aL]

def NH (ts : List Tmp) (Q : AE → H → Prop) : Exit → Env → H → Prop
 | .normal, ρ, h => Q (.ret (Kg ρ ts)) h
 | .ret, ρ, h => Q (.ret (Kg ρ ts)) h
 | .panic ch, _, h => Q (.pan ch) h
 | _, _, _ => False

theorem Dd {P : Program} {G : List (Nat × List D)} {f : FuncId} {fn : Func} {c : Code} {args : List AV} {h : H} {Q : AE → H → Prop} {ts : List Tmp} (n : Nat) (hf : P.funcs[f]? = some fn) (hb : fn.body = some c) (hn : fn.ntmps = n) (hr : fn.results = (ts.map ResultVar.tmp).toArray) (ha : args.length ≤ n)
 (hj : ∀ W I, J ⟨P, ⟨W, I, blks h, G⟩, n, []⟩ c (NH ts Q) (Ch 0 args) h) : AC P G f args h Q := by
 intro I W vs h1 h2 h3 hG h4
 have hlen := AV.rels_length h4
 refine calls_of_wp hf hb ?_
 have hok : Ok ⟨W, I, blks h, G⟩ I h W :=
  { ent := h1, nd := h2, imm := h3, new := fun b hb => .inl hb, inew := fun b hb => .inl hb, sup := fun b hb => hb, os := rfl, tape := rfl, output := rfl, size := Nat.le_refl _, keep := fun _ _ _ => rfl, glob := hG }
 have hsf : SF n W I (Ch 0 args) { tmps := vs.toArray ++ Array.replicate (fn.ntmps - vs.toArray.size) undef, defers := [] } := by
  refine ⟨by simp [hn]; omega, fun t => ?_⟩
  have := DN W I args vs 0 t h4
  simp only [Nat.zero_le, if_true, Nat.sub_zero] at this
  have e : (vs.toArray ++ Array.replicate (fn.ntmps - vs.toArray.size) undef).getD t undef = (vs[t]?).getD undef := by
   rw [Array.getD_eq_getD_getElem?, Array.getElem?_append]
   by_cases ht : t < vs.length
   · simp [ht]
   · simp only [List.size_toArray, ht, if_false]
     rw [List.getElem?_eq_none (by omega)]
     simp only [Array.getElem?_replicate]
     split <;> rfl
  rw [e]; exact this
 refine wp_mono (hj W I I _ W hok hsf rfl) ?_
 rintro e a w ⟨I', ρ', h', k1, k2, k3, k4⟩
 have hres := Ki P fn ts hr a.tmps w
 have hrel : AV.rel w I' (Kg ρ' ts) (aL a.tmps ts) := by
  match ts with
  | [] => exact ⟨[], rfl, trivial⟩
  | [t] => exact k2.2 t
  | t :: u :: r => exact ⟨_, rfl, JD k2 (t :: u :: r)⟩
 cases e with
 | normal => exact ⟨k3, _, hres, _, h', I', k4, k1, hrel⟩
 | ret => exact ⟨k3, _, hres, _, h', I', k4, k1, hrel⟩
 | panic ch => exact ⟨k3, _, h', I', k4, k1, rfl⟩
 | exit _ => exact k4.elim
 | goto _ => exact k4.elim
 | outgrown => exact k4.elim

theorem AY (h1 h2 : H) : blks (h1 ++ h2) = blks h1 ++ blks h2 := by simp [blks]

theorem Ok.call {c : Cx} {I I' : Nat → Prop} {hc hr h' : H} {w w' : World} (k : Ok c I (hc ++ hr) w) (k' : Ok ⟨w, I, blks hc, c.G⟩ I' h' w') : Ok c I' (h' ++ hr) w' ∧ ∀ b, I b → w'.heap[b]? = w.heap[b]? := by
 have hnd : (blks hc ++ blks hr).Nodup := by rw [← AY]; exact k.nd
 have hdis : ∀ b, b ∈ blks hc → b ∉ blks hr := fun b hb hb' => by
  have := (List.nodup_append.1 hnd).2.2 b hb b hb'
  exact this rfl
 have hI : ∀ b, I b → b ∉ blks hc ∧ b ∉ blks hr := fun b hb => by
  have := (k.imm b hb).2
  rw [AY, List.mem_append] at this
  exact ⟨fun h => this (.inl h), fun h => this (.inr h)⟩
 have hblk : ∀ e ∈ hr, ∀ b, e.blk = some b → b ∈ blks hr ∧ b < w.heap.size := fun e he b hb =>
  ⟨List.mem_filterMap.2 ⟨e, he, hb⟩, Ent.blk_lt (k.ent e (List.mem_append.2 (.inr he))) hb⟩
 have hrlt : ∀ b ∈ blks hr, b < w.heap.size := fun b hb => by
  obtain ⟨e, he, heb⟩ := List.mem_filterMap.1 hb
  exact (hblk e he b heb).2
 have hkeepI : ∀ b, I b → w'.heap[b]? = w.heap[b]? := fun b hb => k'.keep b (k.imm b hb).1 (hI b hb).1
 have hkeepr : ∀ b ∈ blks hr, w'.heap[b]? = w.heap[b]? := fun b hb => k'.keep b (hrlt b hb) fun h => hdis b h hb
 have hEsplit : ∀ b, b ∈ blks hc ∨ w.heap.size ≤ b → b ∈ c.E ∨ c.W.heap.size ≤ b := fun b hb => by
  rcases hb with hb | hb
  · exact k.new b (by rw [AY]; exact List.mem_append.2 (.inl hb))
  · exact .inr (Nat.le_trans k.size hb)
 refine ⟨?_, hkeepI⟩
 exact
 { ent := fun e he => by
    rcases List.mem_append.1 he with he | he
    · exact k'.ent e he
    · exact Ent.rel_mono hkeepI (fun b hb => k'.sup b hb) (fun b hb => hkeepr b (hblk e he b hb).1) (k.ent e (List.mem_append.2 (.inr he)))
   nd := by
    rw [AY]
    refine List.nodup_append.2 ⟨k'.nd, (List.nodup_append.1 hnd).2.1, fun b hb b' hb' e => ?_⟩
    subst e
    rcases k'.new b hb with h | h
    · exact hdis b h hb'
    · have := hrlt b hb'
      exact absurd this (Nat.not_lt.2 h)
   imm := fun b hb => by
    refine ⟨(k'.imm b hb).1, fun hm => ?_⟩
    rw [AY, List.mem_append] at hm
    rcases hm with hm | hm
    · exact (k'.imm b hb).2 hm
    · rcases k'.inew b hb with h | h | h
      · exact (hI b h).2 hm
      · exact hdis b h hm
      · exact absurd (hrlt b hm) (Nat.not_lt.2 h)
   new := fun b hb => by
    rw [AY, List.mem_append] at hb
    rcases hb with hb | hb
    · exact hEsplit b (k'.new b hb)
    · exact k.new b (by rw [AY]; exact List.mem_append.2 (.inr hb))
   inew := fun b hb => by
    rcases k'.inew b hb with h | h
    · exact k.inew b h
    · exact .inr (hEsplit b h)
   sup := fun b hb => k'.sup b (k.sup b hb)
   os := k'.os.trans k.os
   tape := k'.tape.trans k.tape
   output := k'.output.trans k.output
   size := Nat.le_trans k.size k'.size
   keep := fun b hb hE => by
    have hnot : b ∉ blks hc := fun hm => by
     rcases k.new b (by rw [AY]; exact List.mem_append.2 (.inl hm)) with h | h
     · exact hE h
     · exact absurd hb (Nat.not_lt.2 h)
    exact (k'.keep b (Nat.lt_of_lt_of_le hb k.size) hnot).trans (k.keep b hb hE)
   glob := fun q hq => k'.glob q hq }

def AVs.le : List AV → List AV → Prop
 | [], [] => True
 | x :: xs, y :: ys => AV.le x y ∧ AVs.le xs ys
 | _, _ => False
theorem AVs.le_rel {w : World} {I : Nat → Prop} : ∀ {xs ys : List AV} {vs : List Value}, AVs.le xs ys → AV.rels w I xs vs → AV.rels w I ys vs
 | [], [], [], _, _ => trivial
 | _ :: _, _ :: _, _ :: _, ⟨h1, h2⟩, ⟨h3, h4⟩ => ⟨h1 _ _ _ h3, AVs.le_rel h2 h4⟩
theorem AVs.le_refl : ∀ xs : List AV, AVs.le xs xs
 | [] => trivial
 | x :: xs => ⟨AV.le_refl x, AVs.le_refl xs⟩

def Cal (P : Program) (f : FuncId) : Prop := ∀ (args : Array Value) (w : World), (callFunc f args).run P w = .ok (.enter f args) w
theorem Cal.of {P : Program} {f : FuncId} {fn : Func} (hf : P.funcs[f]? = some fn) (hn : (fn.name == "runtime.NumGoroutine") = false) (hb : fn.body.isNone = false) : Cal P f := by
 intro args w
 simp only [callFunc, Sem.run_bind, run_program, Result.andThen_ok, hf, hn, hb, Bool.false_eq_true, if_false, Sem.run_pure]

theorem FZ {n : Nat} {w : World} {I : Nat → Prop} {ρ : Env} {a : Act} (f : SF n w I ρ a) : ∀ xs : List Operand, AV.rels w I (xs.map (ev ρ)) (xs.map a.eval)
 | [] => trivial
 | x :: xs => ⟨f.ev x, FZ f xs⟩

section
variable {k : Kx} {Q : Exit → Env → H → Prop} {ρ ρ' : Env} {h h' : H} {ops : Array Oper} {l : List Oper} {dst : Option Tmp} {ty : TypeId} {pos : String} {after : Array Edge} {g : Option (Nat × Bool)}

theorem Ue {f : FuncId} {xs : Array Operand} {ats : Array TypeId} {args : List AV} {hc hr : H} {R : AE → H → Prop} (hcal : Cal k.P f) (hac : AC k.P k.c.G f args hc R) (hle : AVs.le (xs.toList.map (ev ρ)) args) (hs : h = hc ++ hr) (hd : ∀ t, dst = some t → t < k.n)
 (hret : ∀ r h', R (.ret r) h' → JL k ops l Q (put ρ dst r) (h' ++ hr)) (hpan : ∀ ch h', R (.pan ch) h' → Q (.panic ch) ρ (h' ++ hr)) :
 JL k ops (⟨dst, .call { callee := .value (.func f), args := xs, argTypes := ats }, ty, pos, after, none⟩ :: l) Q ρ h := by
 intro I a w h1 h2 h3
 subst hs
 refine wpList_plain rfl fun K hK => ?_
 unfold Oper.wp
 rw [execOp_call_go, hcal]
 simp only [Oper.upon]
 have hargs : (#[] ++ xs.map a.eval ++ #[] : Array Value) = (xs.toList.map a.eval).toArray := by
  apply Array.ext'; simp
 rw [hargs]
 refine (hac I w _ (fun e he => h1.ent e (List.mem_append.2 (.inl he))) ?_ ?_ (fun q hq => h1.glob q hq) (AVs.le_rel hle (FZ h2 xs.toList))).mono ?_
 · have := h1.nd; rw [AY] at this; exact (List.nodup_append.1 this).1
 · intro b hb
   have := h1.imm b hb
   rw [AY, List.mem_append] at this
   exact ⟨this.1, fun hm => this.2 (.inl hm)⟩
 · rintro e w' ⟨r, h', I', hR, hok, hrel⟩
   obtain ⟨k1, k2⟩ := h1.call hok
   have hsf : SF k.n w' I' ρ a := h2.mono k2 (fun b hb => hok.sup b hb)
   cases r with
   | ret r =>
     cases e with
     | returned v => exact hK _ _ (hret r h' hR I' _ w' k1 (hsf.put hd hrel) (by rw [Act.defers_put]; exact h3))
     | panicked ch => exact hrel.elim
     | outgrown => exact hrel.elim
   | pan ch =>
     cases e with
     | returned v => exact hrel.elim
     | panicked ch' => subst hrel; exact ⟨I', ρ, h' ++ hr, k1, hsf, h3, hpan _ _ hR⟩
     | outgrown => exact hrel.elim

theorem Yk {f : FuncId} {xs : Array Operand} {ats : Array TypeId} {args : List AV} {r : AV} (hcal : Cal k.P f) (hac : ACr k.P k.c.G f args r) (hle : AVs.le (xs.toList.map (ev ρ)) args) (hd : ∀ t, dst = some t → t < k.n)
 (hret : JL k ops l Q (put ρ dst r) h) :
 JL k ops (⟨dst, .call { callee := .value (.func f), args := xs, argTypes := ats }, ty, pos, after, none⟩ :: l) Q ρ h :=
 Ue (hc := []) (hr := h) hcal hac hle rfl hd (fun r' h' hq => by obtain ⟨e1, e2⟩ := hq; cases e1; subst e2; exact hret) (fun ch h' hq => by cases hq.1)

def VS (ρ : Env) (h : H) (ρ' : Env) (h' : H) : Prop :=
 ∀ (c : Cx) (I : Nat → Prop) (n : Nat) (a : Act) (w : World), Ok c I h w → SF n w I ρ a → ∃ I', Ok c I' h' w ∧ SF n w I' ρ' a
theorem Rh {x : Code} (v : VS ρ h ρ' h') (hj : J k x Q ρ' h') : J k x Q ρ h := fun I a w h1 h2 h3 => let ⟨I', k1, k2⟩ := v k.c I k.n a w h1 h2; hj I' a w k1 k2 h3
theorem FX (v : VS ρ h ρ' h') (hj : JL k ops l Q ρ' h') : JL k ops l Q ρ h := fun I a w h1 h2 h3 => let ⟨I', k1, k2⟩ := v k.c I k.n a w h1 h2; hj I' a w k1 k2 h3
theorem VS.of_le (hle : Env.le ρ ρ') : VS ρ h ρ' h := fun _ I _ _ _ h1 h2 => ⟨I, h1, h2.le hle⟩
theorem VS.trans {ρ'' : Env} {h'' : H} (v1 : VS ρ h ρ' h') (v2 : VS ρ' h' ρ'' h'') : VS ρ h ρ'' h'' := fun c I n a w h1 h2 => let ⟨I', k1, k2⟩ := v1 c I n a w h1 h2; v2 c I' n a w k1 k2

theorem BG {h h' : H} (hs : List.Sublist h' h) : List.Sublist (blks h') (blks h) := hs.filterMap _
theorem VS.drop (hs : List.Sublist h' h) : VS ρ h ρ h' := fun _ I _ _ _ h1 h2 =>
 ⟨I, { ent := fun e he => h1.ent e (hs.subset he), nd := h1.nd.sublist (BG hs), imm := fun b hb => ⟨(h1.imm b hb).1, fun hm => (h1.imm b hb).2 ((BG hs).subset hm)⟩,
       new := fun b hb => h1.new b ((BG hs).subset hb), inew := h1.inew, sup := h1.sup, os := h1.os, tape := h1.tape, output := h1.output, size := h1.size, keep := h1.keep, glob := h1.glob }, h2⟩
theorem VS.perm (hp : h.Perm h') : VS ρ h ρ h' := fun _ I _ _ _ h1 h2 =>
 have hb : (blks h).Perm (blks h') := hp.filterMap _
 ⟨I, { ent := fun e he => h1.ent e (hp.mem_iff.2 he), nd := hb.nodup_iff.1 h1.nd, imm := fun b hb' => ⟨(h1.imm b hb').1, fun hm => (h1.imm b hb').2 (hb.mem_iff.2 hm)⟩,
       new := fun b hb' => h1.new b (hb.mem_iff.2 hb'), inew := h1.inew, sup := h1.sup, os := h1.os, tape := h1.tape, output := h1.output, size := h1.size, keep := h1.keep, glob := h1.glob }, h2⟩
theorem VS.nilrow (T : TypeId) (sz : Nat) : VS ρ h ρ (.row (.slice none 0 0) 0 T sz [] :: h) := fun _ I _ _ w h1 h2 =>
 ⟨I, { ent := fun e he => by
        rcases List.mem_cons.1 he with he | he
        · subst he; exact ⟨[], World.ownsRow_nil w 0 T sz, trivial⟩
        · exact h1.ent e he
       nd := h1.nd, imm := h1.imm, new := h1.new, inew := h1.inew, sup := h1.sup, os := h1.os, tape := h1.tape, output := h1.output, size := h1.size, keep := h1.keep, glob := h1.glob }, h2⟩

def JQ (k : Kx) (ops : Array Oper) (n : Nat) (l : List Oper) (Q : Exit → Env → H → Prop) (ρ : Env) (h : H) : Prop :=
 ∀ I a w, Ok k.c I h w → SF k.n w I ρ a → a.defers = k.df → wpQuiet k.P ops (Ev I h w) (fun a' => ∀ w', Ev I h w w' → wpList k.P ops (lift k Q) (l.drop n) a' w') (l.take n) a

theorem FN {id tn : Nat} {l : List Oper} (hm : k.P.follows .mixedOrders = true) (hn : l.length = tn + 1) (hB : Region.lexTailB .any l.toArray tn = true) (hj : JQ k l.toArray tn l Q ρ h) : J k (.region id l.toArray true) Q ρ h :=
 fun I a w h1 h2 h3 => D0 (C := Ev I h w) tn hm hB ⟨rfl, rfl, rfl, Nat.le_refl _, fun _ _ => rfl⟩ (hj I a w h1 h2 h3)
theorem fV (hj : JL k ops l Q ρ h) : JQ k ops 0 l Q ρ h := fun I _ _ h1 h2 h3 => wpQuiet_nil fun _ hs => hj I _ _ (h1.same hs) (SF.same h1 hs h2) h3
section
variable {tn : Nat}
theorem aI {o : Oper} {r : AV} (hp : Pure k.P k.c.G o ρ h r) (hg : o.guard = none) (hd : ∀ t, o.dst = some t → t < k.n) (hj : JQ k ops tn l Q (put ρ o.dst r) h) : JQ k ops (tn + 1) (o :: l) Q ρ h := by
 intro I a w h1 h2 h3
 obtain ⟨v, hv, hrun⟩ := hp k.c I k.n a w rfl h1 h2
 rw [List.take_succ_cons]
 unfold wpQuiet
 rw [if_pos (by simp [Region.wanted, hg])]
 exact ⟨v, fun w' hw' => by unfold Oper.quietAt; rw [hrun w' (hw'.weak h1)]; exact ⟨rfl, rfl⟩, hj I _ w h1 (h2.put hd hv) (by rw [Act.defers_put]; exact h3)⟩
theorem QH {o oj : Oper} {j d : Nat} {want b : Bool} (hg : o.guard = some (j, want)) (hj : ops[j]? = some oj) (hdj : oj.dst = some d) (hr : get ρ d = .val (.bool b)) (hn : d < k.n)
 (hd : ∀ t, o.dst = some t → t < k.n) (hb : b = !want) (hno : JQ k ops tn l Q (put ρ o.dst (.val undef)) h) : JQ k ops (tn + 1) (o :: l) Q ρ h := by
 intro I a w h1 h2 h3
 have hw := EP (ops := ops) h2 hg hj hdj hr hn
 rw [List.take_succ_cons]
 unfold wpQuiet
 rw [if_neg (by rw [hw, hb]; cases want <;> simp)]
 exact hno I _ w h1 (h2.put hd (r := .val undef) rfl) (by rw [Act.defers_put]; exact h3)
theorem PK {o oj : Oper} {j d : Nat} {want : Bool} (hg : o.guard = some (j, want)) (hj : ops[j]? = some oj) (hdj : oj.dst = some d) (hr : get ρ d = .val (.bool want)) (hn : d < k.n)
 (hy : JQ k ops (tn + 1) ({ o with guard := none } :: l) Q ρ h) : JQ k ops (tn + 1) (o :: l) Q ρ h := by
 intro I a w h1 h2 h3
 have hw := EP (ops := ops) h2 hg hj hdj hr hn
 have := hy I a w h1 h2 h3
 rw [List.take_succ_cons] at this ⊢
 unfold wpQuiet at this ⊢
 rw [if_pos (by rw [hw]; simp)]
 rw [if_pos (by simp [Region.wanted])] at this
 exact this
theorem bE {f : FuncId} {xs : Array Operand} {ats : Array TypeId} {args : List AV} {v : Value} (hcal : Cal k.P f) (hac : ACr k.P k.c.G f args (.val v)) (hle : AVs.le (xs.toList.map (ev ρ)) args) (hd : ∀ t, dst = some t → t < k.n)
 (hret : JQ k ops tn l Q (put ρ dst (.val v)) h) :
 JQ k ops (tn + 1) (⟨dst, .call { callee := .value (.func f), args := xs, argTypes := ats }, ty, pos, after, none⟩ :: l) Q ρ h := by
 intro I a w h1 h2 h3
 rw [List.take_succ_cons]
 unfold wpQuiet
 rw [if_pos (by simp [Region.wanted])]
 refine ⟨v, fun w' hw' => ?_, hret I _ w h1 (h2.put hd (v := v) rfl) (by rw [Act.defers_put]; exact h3)⟩
 unfold Oper.quietAt
 rw [execOp_call_go, hcal]
 have hargs : (#[] ++ xs.map a.eval ++ #[] : Array Value) = (xs.toList.map a.eval).toArray := by
  apply Array.ext'; simp
 refine ⟨rfl, ?_⟩
 rw [hargs]
 have hok := h1.same hw'
 refine (hac I w' _ (by simp) (by simp [blks]) (fun b hb => ⟨(hok.imm b hb).1, by simp [blks]⟩) (fun q hq => hok.glob q hq) (AVs.le_rel hle (FZ (SF.same h1 hw' h2) xs.toList))).mono ?_
 rintro e w'' ⟨r, h', I', ⟨rfl, rfl⟩, hok', hrel⟩
 cases e with
 | returned u =>
   have hu : u = v := hrel
   subst hu
   exact ⟨rfl, hw'.trans ⟨hok'.os, hok'.tape, hok'.output, hok'.size, fun b hb => hok'.keep b hb (by simp [blks])⟩⟩
 | panicked ch => exact hrel.elim
 | outgrown => exact hrel.elim
end
end

def AV.cl : AV → List AV
 | .agg cs => cs
 | x => [x]
def AV.flat : AV → Bool
 | .val v => v.oneCell'
 | .d _ => true
 | .pd _ => true
 | _ => false
def AV.stor : AV → Bool
 | .agg cs => cs.all AV.flat
 | x => x.flat

theorem JR {w : World} {I : Nat → Prop} {x : AV} {v : Value} (hf : x.flat = true) (h : AV.rel w I x v) : v.oneCell' = true := by
 cases x with
 | val u => cases h; exact hf
 | d x => exact Rel.oneCell h
 | pd cs => obtain ⟨ad, rfl, _⟩ := h; rfl
 | any => cases hf
 | agg cs => cases hf
 | tup cs => cases hf

theorem cells_one {v : Value} (h : v.oneCell' = true) : v.cells = #[v] := by cases v <;> first | rfl | (cases h; done)

theorem MF {w : World} {I : Nat → Prop} {x : AV} {v : Value} (hs : x.stor = true) (h : AV.rel w I x v) : AV.rels w I x.cl v.cells.toList := by
 have one : ∀ {x : AV}, x.flat = true → AV.rel w I x v → x.cl = [x] → AV.rels w I x.cl v.cells.toList := fun hf h e => by
  rw [cells_one (JR hf h), e]; exact ⟨h, trivial⟩
 cases x with
 | agg cs => obtain ⟨vs, rfl, hr⟩ := h; exact hr
 | val u => exact one hs h rfl
 | d y => exact one hs h rfl
 | pd cs => exact one hs h rfl
 | any => cases hs
 | tup cs => cases hs

theorem Qw {w : World} {I : Nat → Prop} : ∀ {xs : List AV} {vs : List Value}, xs.all AV.flat = true → AV.rels w I xs vs → ∀ v ∈ vs, v.oneCell' = true
 | [], [], _, _, v, hv => by cases hv
 | x :: xs, u :: us, hf, ⟨h1, h2⟩, v, hv => by
   simp only [List.all_cons, Bool.and_eq_true] at hf
   rcases List.mem_cons.1 hv with rfl | hv
   · exact JR hf.1 h1
   · exact Qw hf.2 h2 v hv

theorem cH {w : World} {I : Nat → Prop} {x : AV} {v : Value} (hs : x.stor = true) (h : AV.rel w I x v) : ∀ u ∈ v.cells.toList, u.oneCell' = true := by
 have hr := MF hs h
 refine Qw ?_ hr
 cases x <;> first | exact hs | (simpa [AV.stor, AV.cl] using hs)

theorem Ok.fresh {c : Cx} {I : Nat → Prop} {h : H} {w : World} (k : Ok c I h w) (o : Obj) (e : Ent) (hb : e.blk = some w.heap.size) (he : e.rel (w.alloc o) I) : Ok c I (e :: h) (w.alloc o) where
 ent e' he' := by
  rcases List.mem_cons.1 he' with rfl | he'
  · exact he
  · exact Ent.rel_mono (fun b hb => Go.RowKit.Below.heap_alloc w o b (k.imm b hb).1) (fun _ hb => hb) (fun b hb => Go.RowKit.Below.heap_alloc w o b (Ent.blk_lt (k.ent e' he') hb)) (k.ent e' he')
 nd := by
  have e1 : blks (e :: h) = w.heap.size :: blks h := by simp [blks, hb]
  rw [e1]
  refine List.nodup_cons.2 ⟨fun hm => ?_, k.nd⟩
  obtain ⟨e', he', hb'⟩ := List.mem_filterMap.1 hm
  exact absurd (Ent.blk_lt (k.ent e' he') hb') (Nat.lt_irrefl _)
 imm b hb' := by
  have e1 : blks (e :: h) = w.heap.size :: blks h := by simp [blks, hb]
  have := k.imm b hb'
  refine ⟨by simp; omega, ?_⟩
  rw [e1]
  intro hm
  rcases List.mem_cons.1 hm with rfl | hm
  · exact absurd this.1 (Nat.lt_irrefl _)
  · exact this.2 hm
 new b hb' := by
  have e1 : blks (e :: h) = w.heap.size :: blks h := by simp [blks, hb]
  rw [e1] at hb'
  rcases List.mem_cons.1 hb' with rfl | hm
  · exact .inr k.size
  · exact k.new b hm
 inew := k.inew
 sup := k.sup
 os := k.os
 tape := k.tape
 output := k.output
 size := Nat.le_trans k.size (by simp)
 keep b hb' hE := (Go.RowKit.Below.heap_alloc w o b (Nat.lt_of_lt_of_le hb' k.size)).trans (k.keep b hb' hE)
 glob q hq := (k.glob q hq).mono (fun b hb => Go.RowKit.Below.heap_alloc w o b (k.imm b hb).1) fun _ hb => hb

theorem SF.fresh {c : Cx} {I : Nat → Prop} {h : H} {w : World} {n : Nat} {ρ : Env} {a : Act} (k : Ok c I h w) (f : SF n w I ρ a) (o : Obj) : SF n (w.alloc o) I ρ a :=
 f.mono (fun b hb => Go.RowKit.Below.heap_alloc w o b (k.imm b hb).1) fun _ hb => hb

theorem Ok.release {c : Cx} {I : Nat → Prop} {h1 h2 : H} {e : Ent} {w : World} {b : Nat} (k : Ok c I (h1 ++ e :: h2) w) (hb : e.blk = some b) : Ok c (fun x => I x ∨ x = b) (h1 ++ h2) w := by
 have hsub : List.Sublist (h1 ++ h2) (h1 ++ e :: h2) := (List.sublist_cons_self e h2).append_left h1
 have hblk : blks (h1 ++ e :: h2) = blks h1 ++ b :: blks h2 := by simp [blks, hb]
 have hblt : b < w.heap.size := Ent.blk_lt (k.ent e (by simp)) hb
 have hnd := k.nd
 rw [hblk] at hnd
 have hbn : b ∉ blks (h1 ++ h2) := by
  rw [AY]
  intro hm
  have h3 := List.nodup_append.1 hnd
  rcases List.mem_append.1 hm with hm | hm
  · exact h3.2.2 b hm b (by simp) rfl
  · exact (List.nodup_cons.1 h3.2.1).1 hm
 exact
 { ent := fun e' he' => Ent.rel_mono (fun _ _ => rfl) (fun _ h => .inl h) (fun _ _ => rfl) (k.ent e' (hsub.subset he'))
   nd := k.nd.sublist (BG hsub)
   imm := fun x hx => by
    rcases hx with hx | rfl
    · exact ⟨(k.imm x hx).1, fun hm => (k.imm x hx).2 ((BG hsub).subset hm)⟩
    · exact ⟨hblt, hbn⟩
   new := fun x hx => k.new x ((BG hsub).subset hx)
   inew := fun x hx => by
    rcases hx with hx | rfl
    · exact k.inew x hx
    · exact .inr (k.new x (by rw [hblk]; simp))
   sup := fun x hx => .inl (k.sup x hx)
   os := k.os, tape := k.tape, output := k.output, size := k.size, keep := k.keep
   glob := fun q hq => (k.glob q hq).mono (fun _ _ => rfl) fun _ h => .inl h }

theorem SF.wider {n : Nat} {w : World} {I I' : Nat → Prop} {ρ : Env} {a : Act} (f : SF n w I ρ a) (hI : ∀ b, I b → I' b) : SF n w I' ρ a := f.mono (fun _ _ => rfl) hI

section
variable {k : Kx} {Q : Exit → Env → H → Prop} {ρ ρ' : Env} {h h' : H} {ops : Array Oper} {l : List Oper} {dst : Option Tmp} {ty : TypeId} {pos : String} {after : Array Edge} {g : Option (Nat × Bool)}

theorem DT {o : Oper} (hg : o.guard = none) (hd : ∀ t, o.dst = some t → t < k.n)
 (he : ∀ I a w, Ok k.c I h w → SF k.n w I ρ a → ∃ v w' I' r h', (execOp a.eval o).run k.P w = .ok (.value v) w' ∧ Ok k.c I' h' w' ∧ SF k.n w' I' ρ a ∧ AV.rel w' I' r v ∧ JL k ops l Q (put ρ o.dst r) h') : JL k ops (o :: l) Q ρ h := by
 intro I a w h1 h2 h3
 obtain ⟨v, w', I', r, h', e1, e2, e3, e4, e5⟩ := he I a w h1 h2
 refine wpList_plain hg fun K hK => ?_
 unfold Oper.wp
 rw [e1]
 exact hK _ _ (e5 I' _ w' e2 (e3.put hd e4) (by rw [Act.defers_put]; exact h3))

theorem FH {o : Oper} (hg : o.guard = none) (hd : o.dst = none)
 (he : ∀ I a w, Ok k.c I h w → SF k.n w I ρ a → ∃ w' I' h', (execOp a.eval o).run k.P w = .ok .skip w' ∧ Ok k.c I' h' w' ∧ SF k.n w' I' ρ a ∧ JL k ops l Q ρ h') : JL k ops (o :: l) Q ρ h := by
 intro I a w h1 h2 h3
 obtain ⟨w', I', h', e1, e2, e3, e5⟩ := he I a w h1 h2
 refine wpList_plain hg fun K hK => ?_
 unfold Oper.wp
 rw [e1]
 simp only [Oper.upon, hd, Act.put]
 exact hK _ _ (e5 I' _ w' e2 e3 h3)

theorem rels_vals (w : World) (I : Nat → Prop) : ∀ vs : List Value, AV.rels w I (vs.map AV.val) vs
 | [] => trivial
 | _ :: vs => ⟨rfl, rels_vals w I vs⟩

theorem QZ {T : TypeId} {z : Value} {sz eb : Nat} (hz : El k.P T z sz eb) (hd : ∀ t, dst = some t → t < k.n)
 (hj : ∀ b, JL k ops l Q (put ρ dst (.val (.pointer (some ⟨b, 0, none⟩)))) (.cells b T (z.cells.toList.map AV.val) :: h)) : JL k ops (⟨dst, .alloc T, ty, pos, after, none⟩ :: l) Q ρ h := by
 obtain ⟨i, hi, hz0, _, _⟩ := hz.get
 refine DT rfl hd fun I a w h1 h2 => ⟨.pointer (some ⟨w.heap.size, 0, none⟩), w.alloc (.cells z.cells T), I, .val (.pointer (some ⟨w.heap.size, 0, none⟩)), _, ?_, h1.fresh _ (.cells w.heap.size T (z.cells.toList.map AV.val)) rfl ?_, h2.fresh h1 _, rfl, hj w.heap.size⟩
 · simp [execOp, Instr.alloc, zeroValue, typeInfo, hi, hz0, newVar, newRow]
 · exact ⟨z.cells, heap_alloc_new w _, rels_vals _ _ _⟩

theorem ZE {T : TypeId} {x : Operand} {r : AV} (hx : ev ρ x = r) (hs : r.stor = true) (hd : ∀ t, dst = some t → t < k.n)
 (hj : ∀ b, JL k ops l Q (put ρ dst (.val (.pointer (some ⟨b, 0, none⟩)))) (.cells b T r.cl :: h)) : JL k ops (⟨dst, .box T x, ty, pos, after, none⟩ :: l) Q ρ h := by
 refine DT rfl hd fun I a w h1 h2 => ?_
 have hr := BS (h2.ev x) hx
 have hr' : AV.rel (w.alloc (.cells (a.eval x).cells T)) I r (a.eval x) := AV.rel_mono (fun b hb => Go.RowKit.Below.heap_alloc w _ b (h1.imm b hb).1) (fun _ h => h) hr
 refine ⟨.pointer (some ⟨w.heap.size, 0, none⟩), w.alloc (.cells (a.eval x).cells T), I, .val (.pointer (some ⟨w.heap.size, 0, none⟩)), _, ?_, h1.fresh _ (.cells w.heap.size T r.cl) rfl ?_, h2.fresh h1 _, rfl, hj w.heap.size⟩
 · simp [execOp, Instr.box, newVar, newRow]
 · exact ⟨(a.eval x).cells, heap_alloc_new w _, MF hs hr'⟩

theorem Ub {T E : TypeId} {x : Operand} {n : Nat} {z : Value} {eb : Nat} (hT : k.P.underlying T = some (.slice E)) (hz : El k.P E z 1 eb) (hz1 : z.oneCell' = true) (hx : ev ρ x = .int n) (hb : eb * n ≤ 281474976710656) (hm : n ≤ 9223372036854775807) (hd : ∀ t, dst = some t → t < k.n)
 (hj : ∀ b, JL k ops l Q (put ρ dst (.val (.slice (some ⟨b, 0, none⟩) n n))) (.cells b E (List.replicate n (.val z)) :: h)) : JL k ops (⟨dst, .makeSlice T x x, ty, pos, after, none⟩ :: l) Q ρ h := by
 obtain ⟨i, hi, hz0, hz2, hz3⟩ := hz.get
 refine DT rfl hd fun I a w h1 h2 => ?_
 have e1 := AI (h2.ev x) hx
 have hbi : (i.bytes : Int) * (n : Int) ≤ 281474976710656 := by
  rw [hz3]
  have h : ((eb * n : Nat) : Int) ≤ 281474976710656 := by omega
  rwa [Int.natCast_mul] at h
 have hrun := run_make (P := k.P) w T E i z hT hi hz0 .i64 .i64 (n : Int) (n : Int) (by omega) (Int.le_refl _) hbi (by omega)
 simp only [Int.toNat_natCast, hz2, Nat.mul_one] at hrun
 have hmc : (madeCells z.cells n).toList = List.replicate n z := by
  rw [cells_one hz1]
  simp only [madeCells]
  apply List.ext_getElem
  · simp
  · intro j h1 h2
    simp [Nat.mod_one]
 refine ⟨.slice (some ⟨w.heap.size, 0, none⟩) n n, w.alloc (.cells (madeCells z.cells n) E), I, .val (.slice (some ⟨w.heap.size, 0, none⟩) n n), _, ?_, h1.fresh _ (.cells w.heap.size E (List.replicate n (.val z))) rfl ?_, h2.fresh h1 _, rfl, hj w.heap.size⟩
 · simp [execOp, e1, hrun]
 · refine ⟨_, heap_alloc_new w _, ?_⟩
   rw [hmc, ← List.map_replicate]
   exact rels_vals _ _ _

theorem Ok.write {c : Cx} {I : Nat → Prop} {h1 h2 : H} {e e' : Ent} {w w' : World} {b : Nat} (k : Ok c I (h1 ++ e :: h2) w) (hb : e.blk = some b) (hb' : e'.blk = some b) (hos : w'.os = w.os) (htp : w'.tape = w.tape) (hout : w'.output = w.output) (hsz : w'.heap.size = w.heap.size)
 (hkeep : ∀ x, x ≠ b → w'.heap[x]? = w.heap[x]?) (he : e'.rel w' I) : Ok c I (h1 ++ e' :: h2) w' ∧ ∀ x, I x → w'.heap[x]? = w.heap[x]? := by
 have hblk : blks (h1 ++ e :: h2) = blks h1 ++ b :: blks h2 := by simp [blks, hb]
 have hblk' : blks (h1 ++ e' :: h2) = blks h1 ++ b :: blks h2 := by simp [blks, hb']
 have hbs : b ∈ blks (h1 ++ e :: h2) := by rw [hblk]; simp
 have hI : ∀ x, I x → w'.heap[x]? = w.heap[x]? := fun x hx => hkeep x fun e0 => by subst e0; exact (k.imm x hx).2 hbs
 have hnd := k.nd
 rw [hblk] at hnd
 have hn3 := List.nodup_append.1 hnd
 refine ⟨?_, hI⟩
 exact
 { ent := fun e0 he0 => by
    rcases List.mem_append.1 he0 with h0 | h0
    · refine Ent.rel_mono hI (fun _ h => h) (fun x hx => hkeep x fun e1 => ?_) (k.ent e0 (List.mem_append.2 (.inl h0)))
      subst e1
      exact hn3.2.2 x (List.mem_filterMap.2 ⟨e0, h0, hx⟩) x (by simp) rfl
    · rcases List.mem_cons.1 h0 with rfl | h0
      · exact he
      · refine Ent.rel_mono hI (fun _ h => h) (fun x hx => hkeep x fun e1 => ?_) (k.ent e0 (List.mem_append.2 (.inr (List.mem_cons_of_mem _ h0))))
        subst e1
        exact (List.nodup_cons.1 hn3.2.1).1 (List.mem_filterMap.2 ⟨e0, h0, hx⟩)
   nd := by rw [hblk']; exact hnd
   imm := fun x hx => by
    have := k.imm x hx
    rw [hblk] at this
    rw [hblk', hsz]
    exact this
   new := fun x hx => k.new x (by rw [hblk]; rw [hblk'] at hx; exact hx)
   inew := k.inew
   sup := k.sup
   os := hos.trans k.os
   tape := htp.trans k.tape
   output := hout.trans k.output
   size := by rw [hsz]; exact k.size
   keep := fun x hx hE => by
    refine (hkeep x fun e0 => ?_).trans (k.keep x hx hE)
    subst e0
    rcases k.new x hbs with h | h
    · exact hE h
    · exact absurd hx (Nat.not_lt.2 h)
   glob := fun q hq => (k.glob q hq).mono hI fun _ h => h }

theorem setRow_other (w : World) (g x : Nat) (cs : Array Value) (hx : x ≠ g) : (w.setRow g cs).heap[x]? = w.heap[x]? := by
 simp only [World.setRow, Array.getElem?_modify]
 rw [if_neg (fun e => hx e.symm)]

theorem C0 {w : World} {I : Nat → Prop} : ∀ {xs : List AV} {vs : List Value} (n : Nat), AV.rels w I xs vs → AV.rels w I (xs.take n) (vs.take n)
 | _, _, 0, _ => by simp [AV.rels]
 | [], [], _ + 1, _ => trivial
 | _ :: _, _ :: _, n + 1, ⟨h1, h2⟩ => ⟨h1, C0 n h2⟩
theorem EV {w : World} {I : Nat → Prop} : ∀ {xs : List AV} {vs : List Value} (n : Nat), AV.rels w I xs vs → AV.rels w I (xs.drop n) (vs.drop n)
 | _, _, 0, h => h
 | [], [], _ + 1, _ => trivial
 | _ :: _, _ :: _, n + 1, ⟨_, h2⟩ => EV n h2

def setAt (vs : List AV) (off : Nat) (cs : List AV) : List AV := vs.take off ++ cs ++ vs.drop (off + cs.length)

theorem HH {T T0 : TypeId} {x y : Operand} {b off : Nat} {r : AV} {vs : List AV} {h1 h2 : H} {z : Value} {sz eb : Nat} (hx : ev ρ x = .val (.pointer (some ⟨b, off, none⟩))) (hy : ev ρ y = r) (hs : r.stor = true) (hE : El k.P T z sz eb) (hn : sz = r.cl.length) (hh : h = h1 ++ .cells b T0 vs :: h2)
 (hoff : off + r.cl.length ≤ vs.length) (hj : JL k ops l Q ρ (h1 ++ .cells b T0 (setAt vs off r.cl) :: h2)) : JL k ops (⟨none, .store T x y, ty, pos, after, none⟩ :: l) Q ρ h := by
 subst hh
 obtain ⟨i, hi, _, rfl, _⟩ := hE.get
 refine FH rfl rfl fun I a w k1 k2 => ?_
 have e1 := AI (k2.ev x) hx
 have e2 := BS (k2.ev y) hy
 obtain ⟨cs, hc1, hc2⟩ := k1.ent (.cells b T0 vs) (by simp)
 have hr := MF hs e2
 have hlen : (a.eval y).cells.toList.length = r.cl.length := (AV.rels_length hr).symm
 have hcs : cs.toList.length = vs.length := (AV.rels_length hc2).symm
 have hrun := run_storeCells_at k.P b off T0 (a.eval y).cells.toList 0 cs w hc1 (by simp only [Array.length_toList] at hcs; omega) (cH hs e2)
 simp only [Nat.add_zero] at hrun
 have hkeepI := fun (x : Nat) (hx : x ≠ b) => setRow_other w b x (cs.toList.take off ++ (a.eval y).cells.toList ++ cs.toList.drop (off + (a.eval y).cells.toList.length)).toArray hx
 have hb : blks (h1 ++ Ent.cells b T0 vs :: h2) = blks h1 ++ b :: blks h2 := by simp [blks, Ent.blk]
 have hI : ∀ z, I z → z ≠ b := fun z hz e => by subst e; exact (k1.imm z hz).2 (by rw [hb]; simp)
 have he : Ent.rel (w.setRow b (cs.toList.take off ++ (a.eval y).cells.toList ++ cs.toList.drop (off + (a.eval y).cells.toList.length)).toArray) I (.cells b T0 (setAt vs off r.cl)) := by
  refine ⟨_, setRow_heap w b cs _ T0 (0, 0) hc1, ?_⟩
  have hm : ∀ {xs : List AV} {us : List Value}, AV.rels w I xs us → AV.rels (w.setRow b (cs.toList.take off ++ (a.eval y).cells.toList ++ cs.toList.drop (off + (a.eval y).cells.toList.length)).toArray) I xs us :=
   fun h => AV.rels_mono (fun x hx => hkeepI x (hI x hx)) (fun _ h => h) h
  refine AV.rels_append (AV.rels_append (hm (C0 off hc2)) (hm hr)) (hm ?_)
  rw [hlen]
  exact EV _ hc2
 obtain ⟨m1, m2⟩ := k1.write (e := .cells b T0 vs) (e' := .cells b T0 (setAt vs off r.cl)) (b := b) (w' := w.setRow b _) rfl rfl rfl rfl rfl (by simp) hkeepI he
 refine ⟨_, I, _, ?_, m1, k2.mono m2 (fun _ h => h), hj⟩
 have hsize : (a.eval y).cells.size = i.size := by rw [hn, ← hlen]; simp
 simp [execOp, e1, Instr.storeAt, Instr.sureAddr, storeVar, sizeOf, typeInfo, hi, hsize, hrun]

theorem Fj (vs : List AV) (off : Nat) (r : AV) (h : off < vs.length) : setAt vs off [r] = vs.set off r := by
 simp only [setAt, List.length_singleton]
 rw [List.set_eq_take_append_cons_drop, if_pos h, List.append_assoc]; rfl

end

section
variable {P : Program} {G : List (Nat × List D)} {ρ : Env} {h : H} {dst : Option Tmp} {ty : TypeId} {pos : String} {after : Array Edge} {g : Option (Nat × Bool)}

theorem Ga {T T0 : TypeId} {x : Operand} {b off : Nat} {vs : List AV} {r : AV} (hT : A0 P T = some false) (hx : ev ρ x = .val (.pointer (some ⟨b, off, none⟩))) (hh : Ent.cells b T0 vs ∈ h) (hr : vs[off]? = some r) : Pure P G ⟨dst, .load T x, ty, pos, after, g⟩ ρ h r := by
 intro c I n a w _ hok hs
 have e1 := AI (hs.ev x) hx
 obtain ⟨cs, hc1, hc2⟩ := hok.ent _ hh
 obtain ⟨v, hv, hrv⟩ := AV.rels_get hc2 off r hr
 refine ⟨v, hrv, fun w' hw' => ?_⟩
 have hheap : w'.heap[b]? = some (.cells cs T0 (0, 0)) := (hw'.own b (Ct hh rfl)).trans hc1
 have hcell : w'.cell? ⟨b, off, none⟩ = some v := by rw [cell_of_row w' b off cs T0 (0, 0) hheap]; simpa using hv
 simp [execOp, e1, Instr.loadAt, Instr.sureAddr, loadVar, B2 hT, run_load, hcell]

theorem Hx {T T0 : TypeId} {x : Operand} {b off : Nat} {vs : List AV} {z : Value} {sz eb : Nat} (hT : A0 P T = some true) (hE : El P T z sz eb) (hx : ev ρ x = .val (.pointer (some ⟨b, off, none⟩))) (hh : Ent.cells b T0 vs ∈ h) (hn : off + sz ≤ vs.length) :
 Pure P G ⟨dst, .load T x, ty, pos, after, g⟩ ρ h (.agg ((vs.drop off).take sz)) := by
 intro c I n a w _ hok hs
 obtain ⟨i, hi, _, rfl, _⟩ := hE.get
 have e1 := AI (hs.ev x) hx
 obtain ⟨cs, hc1, hc2⟩ := hok.ent _ hh
 have hlen : cs.toList.length = vs.length := (AV.rels_length hc2).symm
 refine ⟨.agg ((cs.toList.drop off).take i.size).toArray, ⟨_, rfl, C0 _ (EV _ hc2)⟩, fun w' hw' => ?_⟩
 have hheap : w'.heap[b]? = some (.cells cs T0 (0, 0)) := (hw'.own b (Ct hh rfl)).trans hc1
 have hload := run_loadCells_list (P := P) w' ⟨b, off, none⟩ ((cs.toList.drop off).take i.size) fun j v hv => by
  rw [Addr.add_lit, cell_of_row w' b (off + j) cs T0 (0, 0) hheap]
  rw [List.getElem?_take] at hv
  split at hv
  · rw [List.getElem?_drop] at hv; simpa using hv
  · cases hv
 have hsz : ((cs.toList.drop off).take i.size).length = i.size := by
  rw [List.length_take, List.length_drop, hlen]; omega
 rw [hsz] at hload
 simp [execOp, e1, Instr.loadAt, Instr.sureAddr, loadVar, B2 hT, sizeOf, typeInfo, hi, hload]

theorem He {S : TypeId} {x : Operand} {f b off fo : Nat} (hF : Fld P S f fo)
 (hx : ev ρ x = .val (.pointer (some ⟨b, off, none⟩))) : Pure P G ⟨dst, .fieldAddr S x f, ty, pos, after, g⟩ ρ h (.val (.pointer (some ⟨b, off + fo, none⟩))) :=
 AZ fun _ _ _ a hs => ⟨_, rfl, fun w' => by
  obtain ⟨fs, fd, i, hS, hf, hi, hne, rfl⟩ := hF.get
  have e1 := AI (hs.ev x) hx
  simp [execOp, e1, Instr.fieldAt, run_underlying hS, hf, Instr.sureAddr, fieldPlace, sizeOf, typeInfo, hi, hne, Addr.add_lit]⟩

theorem HJ {T E : TypeId} {x y : Operand} {b len cap : Nat} {n : Int} {sz eb : Nat} {z : Value} (hT : P.underlying T = some (.slice E)) (hE : El P E z sz eb)
 (hx : ev ρ x = .val (.slice (some ⟨b, 0, none⟩) len cap)) (hy : ev ρ y = .int n) (h0 : 0 ≤ n) (h1 : n < len) : Pure P G ⟨dst, .indexAddr T x y, ty, pos, after, g⟩ ρ h (.val (.pointer (some ⟨b, n.toNat * sz, none⟩))) :=
 AZ fun _ _ _ a hs => ⟨_, rfl, fun w' => by
  obtain ⟨i, hE, _, hsz, _⟩ := hE.get
  have e1 := AI (hs.ev x) hx
  have e2 := AI (hs.ev y) hy
  simp [execOp, e1, e2, Instr.indexAt, run_underlying hT, asIntOf, h0, h1, sizeOf, typeInfo, hE, Addr.add_lit, hsz]⟩

theorem SV {T E : TypeId} {gl len : Nat} {y : Operand} {cs : List D} {n : Int} {z : Value} {sz eb : Nat} (hT : P.underlying T = some (.array len E)) (hE : El P E z sz eb) (hG : (gl, cs) ∈ G) (hy : ev ρ y = .int n) (h0 : 0 ≤ n) (h1 : n < len) :
 Pure P G ⟨dst, .indexAddr T (.global gl) y, ty, pos, after, g⟩ ρ h (.pd (cs.drop (n.toNat * sz))) := by
 obtain ⟨i, hi, _, rfl, _⟩ := hE.get
 intro c I m a w hGc hok hs
 have e2 := AI (hs.ev y) hy
 have hpd := hok.glob (gl, cs) (by rw [hGc]; exact hG)
 refine ⟨.pointer (some ⟨gl, n.toNat * i.size, none⟩), ⟨_, rfl, hpd.1, fun u x hx => ?_⟩, fun w' _ => ?_⟩
 · rw [List.getElem?_drop] at hx
   have := hpd.2 _ x hx
   simpa [Addr.add_lit] using this
 · have hlen : n < (len : Int) := h1
   have e0 : a.eval (.global gl) = .pointer (some ⟨gl, 0, none⟩) := rfl
   simp [execOp, e0, e2, Instr.indexAt, run_underlying hT, asIntOf, Instr.sureAddr, h0, hlen, sizeOf, typeInfo, hi, Addr.add_lit]
end

theorem D.av_rel' {w : World} {I : Nat → Prop} {x : D} {v : Value} (h : AV.rel w I x.av v) : Rel w I x v := by
 cases x with
 | i k n => cases h; exact .i k n
 | b x => cases h; exact .b x
 | s x => cases h; exact .s x
 | l sz eb rows => exact h
 | sm p => exact h
 | ve u h1 => cases h; exact .ve _ h1

theorem D.av_flat (x : D) : x.av.flat = true := by
 cases x with
 | ve v h1 => exact h1
 | _ => rfl

theorem Km {w : World} {I : Nat → Prop} : ∀ {xs : List AV} {vs : List Value}, xs.length = vs.length → (∀ (j : Nat) (x : AV) (v : Value), xs[j]? = some x → vs[j]? = some v → AV.rel w I x v) → AV.rels w I xs vs
 | [], [], _, _ => trivial
 | x :: xs, v :: vs, hl, h => ⟨h 0 x v rfl rfl, Km (by simpa using hl) fun j y u h1 h2 => h (j + 1) y u (by simpa using h1) (by simpa using h2)⟩

theorem CP {α : Type} {sz : Nat} (h0 : 0 < sz) : ∀ (rows : List (List α)), (∀ r ∈ rows, r.length = sz) → ∀ q, rows.flatten[q]? = (rows[q / sz]?).bind (·[q % sz]?)
 | [], _, q => by simp
 | r :: rows, h, q => by
   have hr : r.length = sz := h r (by simp)
   have ih := CP h0 rows (fun r hr => h r (by simp [hr]))
   rw [List.flatten_cons]
   by_cases hq : q < sz
   · rw [List.getElem?_append_left (by omega), Nat.div_eq_of_lt hq, Nat.mod_eq_of_lt hq]; rfl
   · rw [List.getElem?_append_right (by omega), hr, ih]
     have h1 : q = (q - sz) + sz := by omega
     have h2 : q / sz = (q - sz) / sz + 1 := by conv => lhs; rw [h1]; rw [Nat.add_div_right _ h0]
     have h3 : q % sz = (q - sz) % sz := by conv => lhs; rw [h1]; rw [Nat.add_mod_right]
     rw [h2, h3]; rfl

theorem BM {α : Type} {sz : Nat} : ∀ (rows : List (List α)), (∀ r ∈ rows, r.length = sz) → rows.flatten.length = rows.length * sz
 | [], _ => by simp
 | r :: rows, h => by
   rw [List.flatten_cons, List.length_append, BM rows (fun r hr => h r (by simp [hr])), h r (by simp), List.length_cons, Nat.succ_mul, Nat.add_comm]

theorem Rel.cells_of {w : World} {I : Nat → Prop} {sz eb : Nat} {rows : List (List D)} {v : Value} (h0 : 0 < sz) (h : Rel w I (.l sz eb rows) v) :
 (v = .slice none 0 0 ∧ rows = []) ∨ ∃ ad cap us, v = .slice (some ad) rows.length cap ∧ us.length = rows.length * sz ∧ (∀ (j : Nat) (u : Value), us[j]? = some u → w.cell? (ad.add j) = some u) ∧ (∀ u ∈ us, u.oneCell' = true) ∧ AV.rels w I (rows.flatten.map D.av) us := by
 cases h with
 | nil => exact .inl ⟨rfl, rfl⟩
 | emp _ _ ad => exact .inr ⟨ad, 0, [], rfl, by simp, by simp, by simp, trivial⟩
 | l _ _ _ ad cap css hI hcap hm hb hsz hc hr =>
   refine .inr ⟨ad, cap, (List.range (rows.length * sz)).map fun q => css (q / sz) (q % sz), rfl, by simp, ?_, ?_, ?_⟩
   all_goals
    have key : ∀ q, q < rows.length * sz → ∃ r x, rows[q / sz]? = some r ∧ r[q % sz]? = some x := fun q hq => by
     have h1 : q / sz < rows.length := (Nat.div_lt_iff_lt_mul h0).2 hq
     have h2 : q % sz < (rows[q / sz]).length := by rw [hsz _ (List.getElem_mem h1)]; exact Nat.mod_lt _ h0
     exact ⟨rows[q / sz], (rows[q / sz])[q % sz], List.getElem?_eq_getElem h1, List.getElem?_eq_getElem h2⟩
   · intro q u hu
     by_cases hq : q < rows.length * sz
     · rw [List.getElem?_map, List.getElem?_range hq] at hu
       simp at hu
       subst hu
       obtain ⟨r, x, h1, h2⟩ := key q hq
       have := hc _ _ r x h1 h2
       rwa [Nat.mul_comm, Nat.div_add_mod] at this
     · rw [List.getElem?_eq_none (by simp; omega)] at hu; cases hu
   · intro u hu
     obtain ⟨q, hq, rfl⟩ := List.mem_map.1 hu
     obtain ⟨r, x, h1, h2⟩ := key q (List.mem_range.1 hq)
     exact (hr _ _ r x h1 h2).oneCell
   · refine Km (by rw [List.length_map, BM rows hsz]; simp) fun j x v h1 h2 => ?_
     rw [List.getElem?_map] at h1 h2
     have hj : j < rows.length * sz := by
      by_cases hq : j < rows.length * sz
      · exact hq
      · rw [List.getElem?_eq_none (by simp; omega)] at h2; cases h2
     rw [List.getElem?_range hj] at h2
     simp at h2
     subst h2
     obtain ⟨r, y, h3, h4⟩ := key j hj
     rw [CP h0 rows hsz, h3] at h1
     simp [h4] at h1
     subst h1
     exact D.av_rel (hr _ _ r y h3 h4)

section
variable {k : Kx} {Q : Exit → Env → H → Prop} {ρ ρ' : Env} {h h' : H} {ops : Array Oper} {l : List Oper} {dst : Option Tmp} {ty : TypeId} {pos : String} {after : Array Edge} {g : Option (Nat × Bool)}

theorem Ok.grown {c : Cx} {I : Nat → Prop} {h1 h2 : H} {v v' : Value} {n m : Nat} {T : TypeId} {sz : Nat} {xs ys : List AV} {us : List Value} {w w' : World} (k : Ok c I (h1 ++ .row v n T sz xs :: h2) w)
 (hg : w.grownBy w' v.ownBlock) (hb : v'.ownBlock = v.ownBlock ∨ v'.ownBlock = some w.heap.size) (ho : ∃ os, w'.ownsRow 0 T sz v' m (os ++ us) ∧ w.ownsRow 0 T sz v n os ∧ AV.rels w I xs os) (hy : AV.rels w I ys us) :
 Ok c I (h1 ++ .row v' m T sz (xs ++ ys) :: h2) w' ∧ ∀ x, I x → w'.heap[x]? = w.heap[x]? := by
 obtain ⟨os, ho1, ho2, ho3⟩ := ho
 have hbv : ∀ x, v.ownBlock = some x → x ∈ blks (h1 ++ .row v n T sz xs :: h2) := fun x hx => by
  unfold blks; exact List.mem_filterMap.2 ⟨.row v n T sz xs, by simp, hx⟩
 have hI : ∀ x, I x → w'.heap[x]? = w.heap[x]? := fun x hx => hg.block x (k.imm x hx).1 fun e => (k.imm x hx).2 (hbv x e.symm)
 have hnd := k.nd
 have hsplit : ∀ (e : Ent), blks (h1 ++ e :: h2) = blks h1 ++ (e.blk.toList ++ blks h2) := fun e => by
  simp only [blks, List.filterMap_append, List.filterMap_cons]
  cases e.blk <;> rfl
 rw [hsplit] at hnd
 have hn3 := List.nodup_append.1 hnd
 have hn4 := List.nodup_append.1 hn3.2.1
 have hlt : ∀ e ∈ h1 ++ .row v n T sz xs :: h2, ∀ x, e.blk = some x → x < w.heap.size := fun e he x hx => Ent.blk_lt (k.ent e he) hx
 have hother : ∀ e, (e ∈ h1 ∨ e ∈ h2) → ∀ x, e.blk = some x → w'.heap[x]? = w.heap[x]? := by
  intro e he x hx
  refine hg.block x (hlt e (by rcases he with h | h <;> simp [h]) x hx) fun e1 => ?_
  rcases he with h | h
  · exact hn3.2.2 x (List.mem_filterMap.2 ⟨e, h, hx⟩) x (by simp [Ent.blk, ← e1]) rfl
  · exact hn4.2.2 x (by simp [Ent.blk, ← e1]) x (List.mem_filterMap.2 ⟨e, h, hx⟩) rfl
 have hnew : ∀ x, v'.ownBlock = some x → x ∉ blks h1 ∧ x ∉ blks h2 ∧ ¬ I x ∧ (x ∈ c.E ∨ c.W.heap.size ≤ x) := by
  intro x hx
  rcases hb with hb | hb
  · rw [hb] at hx
    refine ⟨fun hm => hn3.2.2 x hm x (by simp [Ent.blk, hx]) rfl, fun hm => hn4.2.2 x (by simp [Ent.blk, hx]) x hm rfl, fun hI => (k.imm x hI).2 (hbv x hx), k.new x (hbv x hx)⟩
  · rw [hb] at hx
    cases hx
    refine ⟨fun hm => ?_, fun hm => ?_, fun hI => absurd (k.imm _ hI).1 (Nat.lt_irrefl _), .inr k.size⟩
    · obtain ⟨e, he, hx⟩ := List.mem_filterMap.1 hm
      exact absurd (hlt e (by simp [he]) _ hx) (Nat.lt_irrefl _)
    · obtain ⟨e, he, hx⟩ := List.mem_filterMap.1 hm
      exact absurd (hlt e (by simp [he]) _ hx) (Nat.lt_irrefl _)
 have hmono : ∀ {as_ : List AV} {bs : List Value}, AV.rels w I as_ bs → AV.rels w' I as_ bs := fun h => AV.rels_mono hI (fun _ h => h) h
 refine ⟨?_, hI⟩
 exact
 { ent := fun e he => by
    rcases List.mem_append.1 he with he | he
    · exact Ent.rel_mono hI (fun _ h => h) (hother e (.inl he)) (k.ent e (List.mem_append.2 (.inl he)))
    · rcases List.mem_cons.1 he with rfl | he
      · exact ⟨_, ho1, AV.rels_append (hmono ho3) (hmono hy)⟩
      · exact Ent.rel_mono hI (fun _ h => h) (hother e (.inr he)) (k.ent e (List.mem_append.2 (.inr (List.mem_cons_of_mem _ he))))
   nd := by
    rw [hsplit]
    refine List.nodup_append.2 ⟨hn3.1, List.nodup_append.2 ⟨by cases (Ent.row v' m T sz (xs ++ ys)).blk <;> simp, hn4.2.1, ?_⟩, ?_⟩
    · intro a ha b hb e1
      subst e1
      have hx : v'.ownBlock = some a := by simpa [Ent.blk, Option.mem_toList] using ha
      exact (hnew a hx).2.1 hb
    · intro a ha b hb e1
      subst e1
      rcases List.mem_append.1 hb with hb | hb
      · have hx : v'.ownBlock = some a := by simpa [Ent.blk, Option.mem_toList] using hb
        exact (hnew a hx).1 ha
      · exact hn3.2.2 a ha a (List.mem_append.2 (.inr hb)) rfl
   imm := fun x hx => by
    refine ⟨Nat.lt_of_lt_of_le (k.imm x hx).1 hg.size, fun hm => ?_⟩
    rw [hsplit] at hm
    rcases List.mem_append.1 hm with hm | hm
    · exact (k.imm x hx).2 (by rw [hsplit]; exact List.mem_append.2 (.inl hm))
    · rcases List.mem_append.1 hm with hm | hm
      · have hx' : v'.ownBlock = some x := by simpa [Ent.blk, Option.mem_toList] using hm
        exact (hnew x hx').2.2.1 hx
      · exact (k.imm x hx).2 (by rw [hsplit]; exact List.mem_append.2 (.inr (List.mem_append.2 (.inr hm))))
   new := fun x hm => by
    rw [hsplit] at hm
    rcases List.mem_append.1 hm with hm | hm
    · exact k.new x (by rw [hsplit]; exact List.mem_append.2 (.inl hm))
    · rcases List.mem_append.1 hm with hm | hm
      · have hx' : v'.ownBlock = some x := by simpa [Ent.blk, Option.mem_toList] using hm
        exact (hnew x hx').2.2.2
      · exact k.new x (by rw [hsplit]; exact List.mem_append.2 (.inr (List.mem_append.2 (.inr hm))))
   inew := k.inew
   sup := k.sup
   os := hg.os.trans k.os
   tape := hg.tape.trans k.tape
   output := hg.output.trans k.output
   size := Nat.le_trans k.size hg.size
   keep := fun x hx hE => by
    refine (hg.block x (Nat.lt_of_lt_of_le hx k.size) fun e => ?_).trans (k.keep x hx hE)
    rcases k.new x (hbv x e.symm) with h | h
    · exact hE h
    · exact absurd hx (Nat.not_lt.2 h)
   glob := fun q hq => (k.glob q hq).mono hI fun _ h => h }

theorem WB {T E : TypeId} {x y : Operand} {z : Value} {sz eb eb' n : Nat} {v : Value} {xs : List AV} {rows : List (List D)} {h1 h2 : H} (hT : k.P.underlying T = some (.slice E)) (he : El k.P E z sz eb) (hz : z.cells.size = sz) (h0 : 0 < sz)
 (hx : ev ρ x = .val v) (hy : ev ρ y = .d (.l sz eb' rows)) (hh : h = h1 ++ .row v n E sz xs :: h2) (hb : (n + rows.length) * eb ≤ 140737488355328) (hm : n + rows.length ≤ 140737488355328) (hd : ∀ t, dst = some t → t < k.n)
 (hj : ∀ v', JL k ops l Q (put ρ dst (.val v')) (h1 ++ .row v' (n + rows.length) E sz (xs ++ rows.flatten.map D.av) :: h2)) :
 JL k ops (⟨dst, .call { callee := .builtin .append, args := #[x, y], argTypes := #[T, T] }, ty, pos, after, none⟩ :: l) Q ρ h := by
 subst hh
 obtain ⟨i, hi, hz0, hz1, hz2⟩ := he.get
 refine DT rfl hd fun I a w k1 k2 => ?_
 have e1 := AI (k2.ev x) hx
 have e2 := BS (k2.ev y) hy
 obtain ⟨os, ho, hos⟩ := k1.ent (.row v n E sz xs) (by simp)
 have hml : n + rows.length ≤ maxLen := by simp only [maxLen]; omega
 have fin : ∀ (v' : Value) (w' : World) (us : List Value), (execOp a.eval ⟨dst, .call { callee := .builtin .append, args := #[x, y], argTypes := #[T, T] }, ty, pos, after, none⟩).run k.P w = .ok (.value v') w' →
  w'.ownsRow 0 E sz v' (n + rows.length) (os ++ us) → w.grownBy w' v.ownBlock → (v'.ownBlock = v.ownBlock ∨ v'.ownBlock = some w.heap.size) → AV.rels w I (rows.flatten.map D.av) us →
  ∃ u w' I' r h', (execOp a.eval ⟨dst, .call { callee := .builtin .append, args := #[x, y], argTypes := #[T, T] }, ty, pos, after, none⟩).run k.P w = .ok (.value u) w' ∧ Ok k.c I' h' w' ∧ SF k.n w' I' ρ a ∧ AV.rel w' I' r u ∧ JL k ops l Q (put ρ dst r) h' := by
  intro v' w' us hrun how hgr hbl hus
  obtain ⟨m1, m2⟩ := k1.grown hgr hbl ⟨os, how, ho, hos⟩ hus
  exact ⟨v', w', I, .val v', _, hrun, m1, k2.mono m2 (fun _ h => h), rfl, hj v'⟩
 rcases Rel.cells_of h0 e2 with ⟨e3, rfl⟩ | ⟨ad, cap, us, e3, hl, hc, h1c, hrel⟩
 · have hrun := run_append_owned_none (P := k.P) (w := w) 0 T ty E i sz hT hi v n os ho
   refine fin v w [] ?_ (by simpa using ho) ⟨rfl, rfl, rfl, Nat.le_refl _, fun _ _ _ => rfl⟩ (.inl rfl) trivial
   simp [execOp, resolve, invoke, builtin, e1, e3, hrun]
 · obtain ⟨v', w', hrun, q1, q2, _, q4⟩ := run_append_own_at (P := k.P) w 0 T ty E i z sz eb hT hi hz0 hz1 hz2 hz h0 v n os ho ad rows.length cap us hl hc h1c hml hb (Nat.zero_le _)
   refine fin v' w' us ?_ q1 q2 q4 hrel
   simp [execOp, resolve, invoke, builtin, e1, e3, hrun]

theorem VS.freeze {v : Value} {n : Nat} {E : TypeId} {sz eb : Nat} {rows : List (List D)} {h1 h2 : H} {t : Nat} (h0 : 0 < sz) (ht : get ρ t = .val v) (hh : h = h1 ++ .row v n E sz (rows.flatten.map D.av) :: h2) (hn : rows.length = n) (hsz : ∀ r ∈ rows, r.length = sz) (hb : n * eb ≤ 140737488355328) :
 VS ρ h ((t, .d (.l sz eb rows)) :: ρ) (h1 ++ h2) := by
 subst hh
 intro c I m a w k1 k2
 obtain ⟨os, ho, hos⟩ := k1.ent (.row v n E sz (rows.flatten.map D.av)) (by simp)
 have hv : a.tmps.getD t undef = v := AI (k2.2 t) ht
 have hput : ∀ (I' : Nat → Prop), (∀ b, I b → I' b) → Rel w I' (.l sz eb rows) v → SF m w I' ((t, .d (.l sz eb rows)) :: ρ) a := by
  intro I' hI hr
  refine ⟨k2.1, fun s => ?_⟩
  simp only [get]
  cases hbq : Nat.beq t s with
  | true => rw [← Nat.eq_of_beq_eq_true hbq, hv]; exact hr
  | false => exact AV.rel_mono (fun _ _ => rfl) hI (k2.2 s)
 rcases ho.2 with ⟨rfl, rfl⟩ | ⟨g, cap, cur, rfl, _, hg, hnc, hcm, hcs, htake⟩
 · have : rows = [] := List.eq_nil_of_length_eq_zero hn
   subst this
   have hok : Ok c I (h1 ++ h2) w := by
    have hbe : blks (h1 ++ Ent.row (.slice none 0 0) 0 E sz (List.map D.av [].flatten) :: h2) = blks (h1 ++ h2) := by rw [AY, AY]; rfl
    exact { ent := fun e he => k1.ent e (((List.sublist_cons_self _ h2).append_left h1).subset he), nd := hbe ▸ k1.nd, imm := fun b hb => hbe ▸ k1.imm b hb, new := fun b hb => k1.new b (hbe ▸ hb), inew := k1.inew, sup := k1.sup, os := k1.os, tape := k1.tape, output := k1.output, size := k1.size, keep := k1.keep, glob := k1.glob }
   exact ⟨I, hok, hput I (fun _ h => h) (.nil sz eb)⟩
 · have hok := k1.release (b := g) (e := .row (.slice (some ⟨g, 0, none⟩) n cap) n E sz (rows.flatten.map D.av)) rfl
   refine ⟨_, hok, hput _ (fun _ h => .inl h) ?_⟩
   subst hn
   have hcell : ∀ q x, rows.flatten[q]? = some x → ∃ c, w.cell? ((⟨g, 0, none⟩ : Addr).add q) = some c ∧ Rel w I x c := fun q x hx => by
    obtain ⟨c, hc1, hc2⟩ := AV.rels_get hos q x.av (by rw [List.getElem?_map, hx]; rfl)
    refine ⟨c, ?_, D.av_rel' hc2⟩
    exact ho.cells (g := g) rfl q c hc1
   let css : Nat → Nat → Value := fun j u => (w.cell? ((⟨g, 0, none⟩ : Addr).add (j * sz + u))).getD undef
   have hq : ∀ (j u : Nat) (r : List D) (x : D), rows[j]? = some r → r[u]? = some x → rows.flatten[j * sz + u]? = some x := fun j u r x hr hx => by
    have hu : u < sz := by
     have := (List.getElem?_eq_some_iff.1 hx).1
     rwa [hsz r (List.mem_of_getElem? hr)] at this
    rw [CP h0 rows hsz, Nat.add_comm, Nat.add_mul_div_right _ _ h0, Nat.add_mul_mod_self_right, Nat.div_eq_of_lt hu, Nat.mod_eq_of_lt hu, Nat.zero_add, hr]
    exact hx
   refine .l sz eb rows ⟨g, 0, none⟩ cap css (.inr rfl) hnc hcm hb hsz (fun j u r x hr hx => ?_) (fun j u r x hr hx => ?_)
   · obtain ⟨c, hc1, _⟩ := hcell _ x (hq j u r x hr hx)
     simp only [css, hc1, Option.getD_some]
   · obtain ⟨c, hc1, hc2⟩ := hcell _ x (hq j u r x hr hx)
     simp only [css, hc1, Option.getD_some]
     exact hc2.mono (fun _ _ => rfl) fun _ h => .inl h

theorem Rel.len_le {w : World} {I : Nat → Prop} {sz eb : Nat} {rows : List (List D)} {v : Value} (h : Rel w I (.l sz eb rows) v) : rows.length * eb ≤ 140737488355328 ∧ ∀ r ∈ rows, r.length = sz := by
 cases h with
 | nil => exact ⟨by simp, by simp⟩
 | emp => exact ⟨by simp, by simp⟩
 | l _ _ _ _ _ _ _ _ _ hb hsz => exact ⟨hb, hsz⟩

theorem dv {x : Code} {t sz eb : Nat} {rows : List (List D)} (ht : get ρ t = .d (.l sz eb rows)) (hj : rows.length * eb ≤ 140737488355328 → J k x Q ρ h) : J k x Q ρ h :=
 fun I a w h1 h2 h3 => hj (Rel.len_le (BS (h2.2 t) ht)).1 I a w h1 h2 h3
theorem aM {t sz eb : Nat} {rows : List (List D)} (ht : get ρ t = .d (.l sz eb rows)) (hj : rows.length * eb ≤ 140737488355328 → JL k ops l Q ρ h) : JL k ops l Q ρ h :=
 fun I a w h1 h2 h3 => hj (Rel.len_le (BS (h2.2 t) ht)).1 I a w h1 h2 h3

theorem Me : ∀ (us : List Value) (j : Nat) (cs : Array Value) (pre post : List Value), cs.toList = pre ++ post → us.length ≤ post.length → ((us.zipIdx j).foldl (fun (cs : Array Value) (p : Value × Nat) => cs.setIfInBounds (pre.length - j + p.2) p.1) cs).toList = pre ++ us ++ post.drop us.length ∨ pre.length < j
 | [], _, cs, pre, post, h, _ => .inl (by simp [h])
 | u :: us, j, cs, pre, post, h, hl => by
   by_cases hj : pre.length < j
   · exact .inr hj
   refine .inl ?_
   match post, hl with
   | q :: post, hl =>
     have ih := Me us (j + 1) (cs.setIfInBounds pre.length u) (pre ++ [u]) post (by simp [h]) (by simpa using hl)
     rcases ih with ih | ih
     · have e : ∀ (p : Value × Nat), (pre ++ [u]).length - (j + 1) + p.2 = pre.length - j + p.2 := fun p => by simp
       simp only [e] at ih
       have e2 : pre.length - j + j = pre.length := by omega
       simp only [List.zipIdx_cons, List.foldl_cons, e2]
       rw [ih]; simp
     · simp at ih; omega

theorem Ls {sz : Nat} : ∀ (vs : List Value) (j : Nat) (cs : Array Value) (pre post : List Value), (∀ v ∈ vs, v.cells.size = sz) → cs.toList = pre ++ post → pre.length = j * sz → post.length = vs.length * sz →
 ∃ cs', Instr.fill (fun i => some (i * sz, sz)) cs ((vs.zipIdx j).map fun p => (p.2, p.1)) = some cs' ∧ cs'.toList = pre ++ vs.flatMap fun v => v.cells.toList
 | [], _, cs, pre, post, _, h, _, hp => ⟨cs, rfl, by have : post = [] := List.eq_nil_of_length_eq_zero (by simpa using hp); simp [h, this]⟩
 | v :: vs, j, cs, pre, post, hs, h, hpre, hp => by
   have hv : v.cells.size = sz := hs v (by simp)
   have hsize : cs.size = pre.length + post.length := by rw [← Array.length_toList, h, List.length_append]
   have hle : v.cells.toList.length ≤ post.length := by rw [hp, List.length_cons, Nat.succ_mul]; simp [hv]
   have hf := Me v.cells.toList 0 cs pre post h hle
   rcases hf with hf | hf
   case inr => omega
   simp only [Nat.sub_zero] at hf
   obtain ⟨cs', h1, h2⟩ := Ls vs (j + 1) ((v.cells.toList.zipIdx).foldl (fun (cs : Array Value) (p : Value × Nat) => cs.setIfInBounds (pre.length + p.2) p.1) cs) (pre ++ v.cells.toList) (post.drop v.cells.toList.length)
    (fun u hu => hs u (by simp [hu])) (by rw [hf]) (by simp [hpre, hv, Nat.succ_mul]) (by rw [List.length_drop, hp, List.length_cons, Nat.succ_mul]; simp [hv])
   refine ⟨cs', ?_, by rw [h2]; simp⟩
   have hb : (v.cells.size ≠ sz || j * sz + v.cells.size > cs.size) = false := by
    have : ¬ (j * sz + v.cells.size > cs.size) := by
     rw [hsize, hpre]
     have : v.cells.toList.length = v.cells.size := by simp
     omega
    exact Bool.or_eq_false_iff.2 ⟨by simp [hv], decide_eq_false this⟩
   simp only [List.zipIdx_cons, List.map_cons, Instr.fill, hb, Bool.false_eq_true, if_false]
   rw [← hpre, ← h1]
   congr 1
   rw [← Array.foldl_toList, Array.toList_zipIdx]

theorem Ma {n : Nat} {w : World} {I : Nat → Prop} {ρ : Env} {a : Act} (f : SF n w I ρ a) : ∀ (xs : List Operand) (rows : List (List D)), xs.map (fun x => (ev ρ x).cl) = rows.map (·.map D.av) → (∀ x ∈ xs, (ev ρ x).stor = true) →
 AV.rels w I (rows.flatten.map D.av) ((xs.map a.eval).flatMap fun v => v.cells.toList) ∧ ∀ v ∈ xs.map a.eval, ∃ r ∈ rows, v.cells.size = r.length
 | [], [], _, _ => ⟨trivial, by simp⟩
 | x :: xs, r :: rows, h, hs => by
   simp only [List.map_cons, List.cons.injEq] at h
   obtain ⟨i1, i2⟩ := Ma f xs rows h.2 fun x hx => hs x (by simp [hx])
   have hr := MF (hs x (by simp)) (f.ev x)
   rw [h.1] at hr
   refine ⟨by simpa using AV.rels_append hr i1, fun v hv => ?_⟩
   simp only [List.map_cons, List.mem_cons] at hv
   rcases hv with rfl | hv
   · refine ⟨r, by simp, ?_⟩
     have := AV.rels_length hr
     simpa using this.symm
   · obtain ⟨r', h1, h2⟩ := i2 v hv
     exact ⟨r', by simp [h1], h2⟩

theorem C2 {T E : TypeId} {z : Value} {sz eb len : Nat} {parts : Array (Nat × Operand)} {xs : List Operand} {rows : List (List D)} (hT : k.P.underlying T = some (.slice E)) (he : El k.P E z sz eb) (h0 : 0 < sz)
 (hp : parts = ((xs.zipIdx).map fun p => (p.2, p.1)).toArray) (hl : len = xs.length) (hr : xs.map (fun x => (ev ρ x).cl) = rows.map (·.map D.av)) (hs : ∀ x ∈ xs, (ev ρ x).stor = true) (hsz : ∀ r ∈ rows, r.length = sz) (hb : rows.length * eb ≤ 140737488355328) (hc : rows.length * sz ≤ 16777216)
 (hd : ∀ t, dst = some t → t < k.n) (hj : JL k ops l Q (put ρ dst (.d (.l sz eb rows))) h) : JL k ops (⟨dst, .buildSlice T len parts, ty, pos, after, none⟩ :: l) Q ρ h := by
 obtain ⟨i, hi, hz0, hz1, _⟩ := he.get
 have hxl : xs.length = rows.length := by have := congrArg List.length hr; simpa using this
 refine DT rfl hd fun I a w k1 k2 => ?_
 obtain ⟨hrel, hcs⟩ := Ma k2 xs rows hr hs
 have hsv : ∀ v ∈ xs.map a.eval, v.cells.size = sz := fun v hv => by obtain ⟨r, h1, h2⟩ := hcs v hv; rw [h2]; exact hsz r h1
 let zc : Array Value := if len * sz = 0 then #[] else z.cells
 obtain ⟨cells, hf1, hf2⟩ := Ls (sz := sz) (xs.map a.eval) 0 ((Array.range (len * sz)).map (zc[· % zc.size]!)) [] ((Array.range (len * sz)).map (zc[· % zc.size]!)).toList hsv rfl (by simp) (by simp [hl])
 simp only [List.nil_append] at hf2
 have hrun : (Instr.buildSlice T len (parts.map fun (i, x) => (i, a.eval x))).run k.P w = .ok (.slice (some ⟨w.heap.size, 0, none⟩) len len) (w.alloc (.cells cells E)) := by
  have hparts : (parts.map fun (i, x) => (i, a.eval x)).toList = ((xs.map a.eval).zipIdx 0).map fun p => (p.2, p.1) := by
   rw [hp]; simp [List.zipIdx_map]
  have hlt : ¬ len * sz > 2 ^ 24 := by rw [hl, hxl]; omega
  simp only [Instr.buildSlice, Sem.run_bind, run_underlying hT, Result.andThen_ok, sizeOf, typeInfo, run_program, hi, Sem.run_pure, hz1, hlt, if_false, Sem.run_ite, zeroValue, hz0]
  by_cases hzz : len * sz = 0
  · simp only [zc, hzz, if_true] at hf1
    simp only [hzz, if_true, hparts]
    rw [hf1]; simp [newRow]
  · simp only [zc, hzz, if_false] at hf1
    simp only [hzz, if_false, hparts]
    rw [hf1]; simp [newRow]
 have hmono : ∀ b, I b → (w.alloc (.cells cells E)).heap[b]? = w.heap[b]? := fun b hb => Go.RowKit.Below.heap_alloc w _ b (k1.imm b hb).1
 have hok := k1.fresh (.cells cells E) (.cells w.heap.size E (rows.flatten.map D.av)) rfl ⟨cells, heap_alloc_new w _, by rw [hf2]; exact AV.rels_mono hmono (fun _ h => h) hrel⟩
 have hok' := Ok.release (h1 := []) (b := w.heap.size) hok rfl
 refine ⟨.slice (some ⟨w.heap.size, 0, none⟩) rows.length rows.length, w.alloc (.cells cells E), _, .d (.l sz eb rows), _, ?_, hok', (k2.mono hmono fun _ h => .inl h), ?_, hj⟩
 · rw [← hxl, ← hl]
   simp only [execOp, Sem.run_bind, hrun, Result.andThen_ok, Sem.run_pure]
 · have hcell : ∀ q x, rows.flatten[q]? = some x → ∃ c, (w.alloc (.cells cells E)).cell? ((⟨w.heap.size, 0, none⟩ : Addr).add q) = some c ∧ Rel w I x c := fun q x hx => by
    obtain ⟨c, hc1, hc2⟩ := AV.rels_get hrel q x.av (by rw [List.getElem?_map, hx]; rfl)
    refine ⟨c, ?_, D.av_rel' hc2⟩
    rw [Addr.add_lit, World.cell?_alloc_new, Nat.zero_add, ← Array.getElem?_toList, hf2]
    exact hc1
   have hq : ∀ (j u : Nat) (r : List D) (x : D), rows[j]? = some r → r[u]? = some x → rows.flatten[j * sz + u]? = some x := fun j u r x hr hx => by
    have hu : u < sz := by
     have := (List.getElem?_eq_some_iff.1 hx).1
     rwa [hsz r (List.mem_of_getElem? hr)] at this
    rw [CP h0 rows hsz, Nat.add_comm, Nat.add_mul_div_right _ _ h0, Nat.add_mul_mod_self_right, Nat.div_eq_of_lt hu, Nat.mod_eq_of_lt hu, Nat.zero_add, hr]
    exact hx
   refine .l sz eb rows ⟨w.heap.size, 0, none⟩ rows.length (fun j u => ((w.alloc (.cells cells E)).cell? ((⟨w.heap.size, 0, none⟩ : Addr).add (j * sz + u))).getD undef) (.inr rfl) (Nat.le_refl _) ?_ hb hsz (fun j u r x hr hx => ?_) (fun j u r x hr hx => ?_)
   · have : rows.length ≤ rows.length * sz := Nat.le_mul_of_pos_right _ h0
     simp only [maxLen]; omega
   · obtain ⟨c, hc1, _⟩ := hcell _ x (hq j u r x hr hx)
     simp only [hc1, Option.getD_some]
   · obtain ⟨c, hc1, hc2⟩ := hcell _ x (hq j u r x hr hx)
     simp only [hc1, Option.getD_some]
     exact hc2.mono hmono fun _ h => .inl h
end

section
variable {P : Program} {G : List (Nat × List D)} {ρ : Env} {h : H} {dst : Option Tmp} {ty : TypeId} {pos : String} {after : Array Edge} {g : Option (Nat × Bool)}

theorem Rel.cut {w : World} {I : Nat → Prop} {sz eb a b cap : Nat} {rows : List (List D)} {ad : Option Addr} (h : Rel w I (.l sz eb rows) (.slice ad rows.length cap)) (h1 : a ≤ b) (h2 : b ≤ rows.length) :
 Rel w I (.l sz eb ((rows.drop a).take (b - a))) (.slice (if cap = a then ad else ad.map (·.add (a * sz))) (b - a) (cap - a)) := by
 generalize hv : Value.slice ad rows.length cap = v at h
 cases h with
 | nil =>
   cases hv
   have ha : a = 0 := by simp at h2; omega
   have hb : b = 0 := by simpa using h2
   subst ha; subst hb
   exact .nil sz eb
 | emp _ _ ad0 =>
   cases hv
   have ha : a = 0 := by simp at h2; omega
   have hb : b = 0 := by simpa using h2
   subst ha; subst hb
   exact .emp sz eb ad0
 | l _ _ _ ad0 cap0 css hI hcap hm hb hsz hc hr =>
   cases hv
   have hlen : ((rows.drop a).take (b - a)).length = b - a := by rw [List.length_take, List.length_drop]; omega
   have hbnd : ((rows.drop a).take (b - a)).length * eb ≤ 140737488355328 := Nat.le_trans (Nat.mul_le_mul_right eb (by rw [hlen]; omega)) hb
   have hszs : ∀ r ∈ (rows.drop a).take (b - a), r.length = sz := fun r hr => hsz r (List.mem_of_mem_drop (List.mem_of_mem_take hr))
   have hget : ∀ (j : Nat) (r : List D), ((rows.drop a).take (b - a))[j]? = some r → rows[a + j]? = some r := fun j r hj => by
    rw [List.getElem?_take] at hj
    split at hj
    · rwa [List.getElem?_drop] at hj
    · cases hj
   by_cases hca : cap = a
   · have h0 : (rows.drop a).take (b - a) = [] := List.eq_nil_of_length_eq_zero (by rw [hlen]; omega)
     have hba : b - a = 0 := by omega
     rw [if_pos hca, h0, hba]
     exact .l sz eb [] ad0 _ css hI (Nat.zero_le _) (by omega) (by simp) (by simp) (by simp) (by simp)
   · rw [if_neg hca]
     have := Rel.l (w := w) (I := I) sz eb ((rows.drop a).take (b - a)) (ad0.add (a * sz)) (cap - a) (fun j u => css (a + j) u) (by rw [Dr]; exact hI) (by rw [hlen]; omega) (by omega) hbnd hszs
      (fun j u r x hj hx => by rw [Addr.add_add, ← Nat.add_assoc, ← Nat.add_mul]; exact hc _ u r x (hget j r hj) hx) (fun j u r x hj hx => hr _ u r x (hget j r hj) hx)
     rw [hlen] at this
     exact this

theorem Kw {T E : TypeId} {x lo : Operand} {sz eb : Nat} {rows : List (List D)} {m : Int} {z : Value} {eb' : Nat} (hT : P.underlying T = some (.slice E)) (hE : El P E z sz eb') (hx : ev ρ x = .d (.l sz eb rows)) (hlo : ev ρ lo = .int m)
 (h0 : 0 ≤ m) (h1 : m ≤ rows.length) : Pure P G ⟨dst, .slice T x (some lo) none none, ty, pos, after, g⟩ ρ h (.d (.l sz eb (rows.drop m.toNat))) :=
 AZ fun w I _ a hs => by
  obtain ⟨i, hE, _, hsz, _⟩ := hE.get
  have e1 := BS (hs.ev x) hx
  have e2 := AI (hs.ev lo) hlo
  obtain ⟨ad, cap, hv, hcap⟩ : ∃ ad cap, a.eval x = .slice ad rows.length cap ∧ rows.length ≤ cap := by
   generalize a.eval x = v at e1
   cases e1 with
   | nil => exact ⟨none, 0, rfl, Nat.le_refl _⟩
   | emp _ _ ad => exact ⟨some ad, 0, rfl, Nat.le_refl _⟩
   | l _ _ _ ad cap css hI hcap => exact ⟨some ad, cap, rfl, hcap⟩
  rw [hv] at e1
  have hc := Rel.cut (a := m.toNat) (b := rows.length) e1 (by omega) (Nat.le_refl _)
  rw [List.take_of_length_le (by rw [List.length_drop]; omega)] at hc
  refine ⟨_, hc, fun w' => ?_⟩
  have b2 : 0 ≤ m ∧ m ≤ (rows.length : Int) := by omega
  simp [execOp, hv, e2, Instr.sliceAt, run_underlying hT, Instr.slice, Instr.sliceBounds, Instr.sliceBound, asIntOf, b2, sizeOf, typeInfo, hE, hsz]

theorem M0 {T E : TypeId} {x hi : Operand} {sz eb : Nat} {rows : List (List D)} {n : Int} {z : Value} {eb' : Nat} (hT : P.underlying T = some (.slice E)) (hE : El P E z sz eb') (hx : ev ρ x = .d (.l sz eb rows)) (hhi : ev ρ hi = .int n)
 (h0 : 0 ≤ n) (h2 : n ≤ rows.length) : Pure P G ⟨dst, .slice T x none (some hi) none, ty, pos, after, g⟩ ρ h (.d (.l sz eb (rows.take n.toNat))) :=
 AZ fun w I _ a hs => by
  obtain ⟨i, hE, _, _, _⟩ := hE.get
  have e1 := BS (hs.ev x) hx
  have e3 := AI (hs.ev hi) hhi
  obtain ⟨ad, cap, hv, hcap⟩ : ∃ ad cap, a.eval x = .slice ad rows.length cap ∧ rows.length ≤ cap := by
   generalize a.eval x = v at e1
   cases e1 with
   | nil => exact ⟨none, 0, rfl, Nat.le_refl _⟩
   | emp _ _ ad => exact ⟨some ad, 0, rfl, Nat.le_refl _⟩
   | l _ _ _ ad cap css hI hcap => exact ⟨some ad, cap, rfl, hcap⟩
  rw [hv] at e1
  have hc := Rel.cut (a := 0) (b := n.toNat) e1 (Nat.zero_le _) (by omega)
  simp only [List.drop_zero, Nat.sub_zero, Nat.zero_mul] at hc
  refine ⟨_, hc, fun w' => ?_⟩
  have b1 : 0 ≤ n ∧ n ≤ (cap : Int) := by omega
  simp [execOp, hv, e3, Instr.sliceAt, run_underlying hT, Instr.slice, Instr.sliceBounds, Instr.sliceBound, asIntOf, b1, sizeOf, typeInfo, hE]
end

section
variable {k : Kx} {Q : Exit → Env → H → Prop} {N : Env → H → Prop} {ρ ρ' : Env} {h h' : H} {ops : Array Oper} {l : List Oper} {d : Nat} {op : Op} {ty : TypeId} {pos : String} {after : Array Edge} {id id' : Nat} {ch : List PanicEntry}

theorem blt {a b : Nat} (h : Nat.blt a b = true) : a < b := Nat.le_of_ble_eq_true h
theorem Cw (h1 : N ρ h) : JW N Q .normal ρ h := h1
theorem dz (h1 : Q .ret ρ h) : JW N Q .ret ρ h := h1
theorem az (h1 : Q (.exit id) ρ h) : JW N Q (.exit id) ρ h := h1
theorem XK (h1 : Q (.panic ch) ρ h) : JW N Q (.panic ch) ρ h := h1
theorem WJ (h1 : Q .normal ρ h) : GN id Q .normal ρ h := h1
theorem dM (h1 : Q .ret ρ h) : GN id Q .ret ρ h := h1
theorem ZM (h1 : Q (.panic ch) ρ h) : GN id Q (.panic ch) ρ h := h1
theorem cO (h1 : Q .normal ρ h) : GN id Q (.exit id) ρ h := by simp only [GN, if_true]; exact h1
theorem Zx (hne : id' ≠ id) (h1 : Q (.exit id') ρ h) : GN id Q (.exit id') ρ h := by simp only [GN, if_neg hne]; exact h1

theorem jp {r : AV} (hp : Pure k.P k.c.G ⟨some d, op, ty, pos, after, none⟩ ρ h r) (hd : Nat.blt d k.n = true) (hj : JL k ops l Q ((d, r) :: ρ) h) : JL k ops (⟨some d, op, ty, pos, after, none⟩ :: l) Q ρ h :=
 VA hp rfl (fun t ht => by cases ht; exact blt hd) hj
theorem jqp {tn : Nat} {r : AV} (hp : Pure k.P k.c.G ⟨some d, op, ty, pos, after, none⟩ ρ h r) (hd : Nat.blt d k.n = true) (hj : JQ k ops tn l Q ((d, r) :: ρ) h) : JQ k ops (tn + 1) (⟨some d, op, ty, pos, after, none⟩ :: l) Q ρ h :=
 aI hp rfl (fun t ht => by cases ht; exact blt hd) hj
theorem jgy {j dj : Nat} {want : Bool} {oj : Oper} (hj : ops[j]? = some oj) (hdj : oj.dst = some dj) (hr : get ρ dj = .val (.bool want)) (hn : Nat.blt dj k.n = true) (hy : JL k ops (⟨some d, op, ty, pos, after, none⟩ :: l) Q ρ h) : JL k ops (⟨some d, op, ty, pos, after, some (j, want)⟩ :: l) Q ρ h :=
 O6 rfl hj hdj hr (blt hn) hy
theorem jgn {j dj : Nat} {want b : Bool} {oj : Oper} (hj : ops[j]? = some oj) (hdj : oj.dst = some dj) (hr : get ρ dj = .val (.bool b)) (hn : Nat.blt dj k.n = true) (hd : Nat.blt d k.n = true) (hb : b = !want) (hno : JL k ops l Q ((d, .val undef) :: ρ) h) : JL k ops (⟨some d, op, ty, pos, after, some (j, want)⟩ :: l) Q ρ h :=
 SB rfl hj hdj hr (blt hn) (fun t ht => by cases ht; exact blt hd) hb hno
theorem jqy {tn : Nat} {j dj : Nat} {want : Bool} {oj : Oper} (hj : ops[j]? = some oj) (hdj : oj.dst = some dj) (hr : get ρ dj = .val (.bool want)) (hn : Nat.blt dj k.n = true) (hy : JQ k ops (tn + 1) (⟨some d, op, ty, pos, after, none⟩ :: l) Q ρ h) : JQ k ops (tn + 1) (⟨some d, op, ty, pos, after, some (j, want)⟩ :: l) Q ρ h :=
 PK rfl hj hdj hr (blt hn) hy
theorem jqn {tn : Nat} {j dj : Nat} {want b : Bool} {oj : Oper} (hj : ops[j]? = some oj) (hdj : oj.dst = some dj) (hr : get ρ dj = .val (.bool b)) (hn : Nat.blt dj k.n = true) (hd : Nat.blt d k.n = true) (hb : b = !want) (hno : JQ k ops tn l Q ((d, .val undef) :: ρ) h) : JQ k ops (tn + 1) (⟨some d, op, ty, pos, after, some (j, want)⟩ :: l) Q ρ h :=
 QH rfl hj hdj hr (blt hn) (fun t ht => by cases ht; exact blt hd) hb hno

theorem jgu {j dj : Nat} {want : Bool} {oj : Oper} (hj : ops[j]? = some oj) (hdj : oj.dst = some dj) (hr : get ρ dj = .val undef) (hd : Nat.blt d k.n = true) (hno : JL k ops l Q ((d, .val undef) :: ρ) h) : JL k ops (⟨some d, op, ty, pos, after, some (j, want)⟩ :: l) Q ρ h :=
 Qs rfl hj hdj hr (fun t ht => by cases ht; exact blt hd) hno
theorem len_nil : ([] : List Oper).length = 0 := rfl
theorem Aa {o : Oper} {l : List Oper} {m : Nat} (h : l.length = m) : (o :: l).length = m + 1 := by rw [List.length_cons, h]
def CB (b : Bool) (A B : Prop) : Prop := (b = true → A) ∧ (b = false → B)
theorem ay {A B : Prop} (h1 : A) : CB true A B := ⟨fun _ => h1, fun h => by cases h⟩
theorem YU {A B : Prop} (h1 : B) : CB false A B := ⟨(fun h => by cases h), fun _ => h1⟩
theorem dh {p : Prop} [Decidable p] {A B : Prop} (h1 : p → A) (h2 : ¬ p → B) : CB (decide p) A B := ⟨fun h => h1 (of_decide_eq_true h), fun h => h2 (of_decide_eq_false h)⟩
theorem dL {b : Bool} {A B : Prop} (h1 : CB b B A) : CB (!b) A B := ⟨fun h => h1.2 (by simpa using h), fun h => h1.1 (by simpa using h)⟩
theorem Zv {b : Bool} {A B : Prop} (h1 : b = true → A) (h2 : b = false → B) : CB b A B := ⟨h1, h2⟩
theorem Up {tn : Nat} (hle : Env.le ρ ρ') (hj : JQ k ops tn l Q ρ' h) : JQ k ops tn l Q ρ h := fun I a w h1 h2 h3 => hj I a w h1 (h2.le hle) h3
theorem jgt {j dj : Nat} {b : Bool} {oj : Oper} (hj : ops[j]? = some oj) (hdj : oj.dst = some dj) (hr : get ρ dj = .val (.bool b)) (hn : Nat.blt dj k.n = true) (hd : Nat.blt d k.n = true)
 (hb : CB b (JL k ops (⟨some d, op, ty, pos, after, none⟩ :: l) Q ((dj, .bool true) :: ρ) h) (JL k ops l Q ((d, .val undef) :: (dj, .bool false) :: ρ) h)) : JL k ops (⟨some d, op, ty, pos, after, some (j, true)⟩ :: l) Q ρ h := by
 cases b with
 | true => exact Un (Env.le_cons (AV.le_of_eq hr) (Env.le_refl _)) (jgy hj hdj (by simp [get]) hn (hb.1 rfl))
 | false => exact Un (Env.le_cons (AV.le_of_eq hr) (Env.le_refl _)) (jgn hj hdj (b := false) (by simp [get]) hn hd rfl (hb.2 rfl))
theorem jgf {j dj : Nat} {b : Bool} {oj : Oper} (hj : ops[j]? = some oj) (hdj : oj.dst = some dj) (hr : get ρ dj = .val (.bool b)) (hn : Nat.blt dj k.n = true) (hd : Nat.blt d k.n = true)
 (hb : CB b (JL k ops l Q ((d, .val undef) :: (dj, .bool true) :: ρ) h) (JL k ops (⟨some d, op, ty, pos, after, none⟩ :: l) Q ((dj, .bool false) :: ρ) h)) : JL k ops (⟨some d, op, ty, pos, after, some (j, false)⟩ :: l) Q ρ h := by
 cases b with
 | true => exact Un (Env.le_cons (AV.le_of_eq hr) (Env.le_refl _)) (jgn hj hdj (b := true) (by simp [get]) hn hd rfl (hb.1 rfl))
 | false => exact Un (Env.le_cons (AV.le_of_eq hr) (Env.le_refl _)) (jgy hj hdj (by simp [get]) hn (hb.2 rfl))
theorem jqt {tn : Nat} {j dj : Nat} {b : Bool} {oj : Oper} (hj : ops[j]? = some oj) (hdj : oj.dst = some dj) (hr : get ρ dj = .val (.bool b)) (hn : Nat.blt dj k.n = true) (hd : Nat.blt d k.n = true)
 (hb : CB b (JQ k ops (tn + 1) (⟨some d, op, ty, pos, after, none⟩ :: l) Q ((dj, .bool true) :: ρ) h) (JQ k ops tn l Q ((d, .val undef) :: (dj, .bool false) :: ρ) h)) : JQ k ops (tn + 1) (⟨some d, op, ty, pos, after, some (j, true)⟩ :: l) Q ρ h := by
 cases b with
 | true => exact Up (Env.le_cons (AV.le_of_eq hr) (Env.le_refl _)) (jqy hj hdj (by simp [get]) hn (hb.1 rfl))
 | false => exact Up (Env.le_cons (AV.le_of_eq hr) (Env.le_refl _)) (jqn hj hdj (b := false) (by simp [get]) hn hd rfl (hb.2 rfl))
theorem jqf {tn : Nat} {j dj : Nat} {b : Bool} {oj : Oper} (hj : ops[j]? = some oj) (hdj : oj.dst = some dj) (hr : get ρ dj = .val (.bool b)) (hn : Nat.blt dj k.n = true) (hd : Nat.blt d k.n = true)
 (hb : CB b (JQ k ops tn l Q ((d, .val undef) :: (dj, .bool true) :: ρ) h) (JQ k ops (tn + 1) (⟨some d, op, ty, pos, after, none⟩ :: l) Q ((dj, .bool false) :: ρ) h)) : JQ k ops (tn + 1) (⟨some d, op, ty, pos, after, some (j, false)⟩ :: l) Q ρ h := by
 cases b with
 | true => exact Up (Env.le_cons (AV.le_of_eq hr) (Env.le_refl _)) (jqn hj hdj (b := true) (by simp [get]) hn hd rfl (hb.1 rfl))
 | false => exact Up (Env.le_cons (AV.le_of_eq hr) (Env.le_refl _)) (jqy hj hdj (by simp [get]) hn (hb.2 rfl))
theorem iA {t : Nat} {x y : Code} {b : Bool} (hc : get ρ t = .val (.bool b)) (hb : CB b (J k x Q ((t, .bool true) :: ρ) h) (J k y Q ((t, .bool false) :: ρ) h)) : J k (.cond (.tmp t) x y) Q ρ h :=
 ee (o := .tmp t) hc (fun e => gR (Env.le_cons (AV.le_of_eq (by rw [hc, e])) (Env.le_refl _)) (hb.1 e)) (fun e => gR (Env.le_cons (AV.le_of_eq (by rw [hc, e])) (Env.le_refl _)) (hb.2 e))

end

def FV : Env → Nat → Option AV
 | [], _ => none
 | (k, v) :: r, t => bif Nat.beq k t then some v else FV r t
def evO (ρ : Env) : Operand → Option AV
 | .tmp t => FV ρ t
 | .const v => some (.val v)
 | .global g => some (.val (.pointer (some ⟨g, 0, none⟩)))
 | .func f => some (.val (.func (.func f) #[] #[]))
theorem A9 : ∀ {ρ : Env} {t : Nat} {r : AV}, FV ρ t = some r → get ρ t = r
 | (k, v) :: ρ, t, r, h => by
   simp only [FV] at h
   simp only [get]
   cases hb : Nat.beq k t with
   | true => rw [hb] at h; simpa using h
   | false => rw [hb] at h; exact A9 h
theorem AA {ρ : Env} {x : Operand} {r : AV} (h : evO ρ x = some r) : ev ρ x = r := by
 cases x with
 | tmp t => exact A9 h
 | const v => cases h; rfl
 | global g => cases h; rfl
 | func f => cases h; rfl

section
variable {k : Kx} {Q : Exit → Env → H → Prop} {ρ : Env} {h : H} {ops : Array Oper} {l : List Oper}
theorem EC {α : Type} {x : Code} {t sz eb : Nat} {f : α → List D} {xs : List α} (ht : get ρ t = .d (.l sz eb (xs.map f))) (hj : xs.length * eb ≤ 140737488355328 → J k x Q ρ h) : J k x Q ρ h :=
 dv ht fun hl => hj (by rwa [List.length_map] at hl)
theorem fD {α : Type} {t sz eb : Nat} {f : α → List D} {xs : List α} (ht : get ρ t = .d (.l sz eb (xs.map f))) (hj : xs.length * eb ≤ 140737488355328 → JL k ops l Q ρ h) : JL k ops l Q ρ h :=
 aM ht fun hl => hj (by rwa [List.length_map] at hl)
end

section
variable {Q : AE → H → Prop} {ρ : Env} {h : H} {a b c : Nat} {x y z : AV} {e : Exit}
def O2 (e : Exit) : Bool := match e with | .ret => true | .normal => true | _ => false
theorem U5 {ts : List Tmp} (he : O2 e = true) (hq : Q (.ret (Kg ρ ts)) h) : NH ts Q e ρ h := by cases e <;> first | exact hq | cases he
theorem rq0 (he : O2 e = true) (hq : Q (.ret (.tup [])) h) : NH [] Q e ρ h := U5 he hq
theorem rq1 (he : O2 e = true) (h1 : FV ρ a = some x) (hq : Q (.ret x) h) : NH [a] Q e ρ h := U5 he (by simp only [Kg, A9 h1]; exact hq)
theorem rq2 (he : O2 e = true) (h1 : FV ρ a = some x) (h2 : FV ρ b = some y) (hq : Q (.ret (.tup [x, y])) h) : NH [a, b] Q e ρ h := U5 he (by simp only [Kg, List.map_cons, List.map_nil, A9 h1, A9 h2]; exact hq)
theorem rq3 (he : O2 e = true) (h1 : FV ρ a = some x) (h2 : FV ρ b = some y) (h3 : FV ρ c = some z) (hq : Q (.ret (.tup [x, y, z])) h) : NH [a, b, c] Q e ρ h := U5 he (by simp only [Kg, List.map_cons, List.map_nil, A9 h1, A9 h2, A9 h3]; exact hq)
theorem AD {r r' : AV} (hr : r = r') : AE.ret r = AE.ret r' ∧ ([] : H) = [] := ⟨by rw [hr], rfl⟩
end

theorem tup3 {a b c a' b' c' : Bool} (h1 : a = a') (h2 : b = b') (h3 : c = c') : AV.tup [.bool a, .bool b, .bool c] = AV.tup [.bool a', .bool b', .bool c'] := by rw [h1, h2, h3]
def Jz (ρ : Env) : List Operand → Option (List AV)
 | [] => some []
 | x :: xs => (evO ρ x).bind fun r => (Jz ρ xs).bind fun rs => some (r :: rs)
theorem DR {ρ : Env} : ∀ {xs : List Operand} {rs : List AV}, Jz ρ xs = some rs → xs.map (ev ρ) = rs
 | [], rs, h => by cases h; rfl
 | x :: xs, rs, h => by
   simp only [Jz] at h
   cases h1 : evO ρ x with
   | none => rw [h1] at h; cases h
   | some r =>
     cases h2 : Jz ρ xs with
     | none => rw [h1, h2] at h; cases h
     | some rs' =>
       rw [h1, h2] at h
       cases h
       simp [AA h1, DR h2]
theorem AV.le_int {x : AV} {a b : Int} (hx : x = .int a) (hab : a = b) : AV.le x (.int b) := AV.le_of_eq (by rw [hx, hab])
section
variable {k : Kx} {Q : Exit → Env → H → Prop} {ρ : Env} {h hc hr : H} {ops : Array Oper} {l : List Oper} {d : Nat} {dst : Option Tmp} {ty : TypeId} {pos : String} {after : Array Edge}
theorem Ez {f : FuncId} {xs : Array Operand} {ats : Array TypeId} {args : List AV} {r : AV} (hargs : Jz ρ xs.toList = some args) (hcal : Cal k.P f) (hac : ACr k.P k.c.G f args r) (hd : Nat.blt d k.n = true) (hret : JL k ops l Q ((d, r) :: ρ) h) :
 JL k ops (⟨some d, .call { callee := .value (.func f), args := xs, argTypes := ats }, ty, pos, after, none⟩ :: l) Q ρ h :=
 Yk hcal hac (by rw [DR hargs]; exact AVs.le_refl _) (fun t ht => by cases ht; exact blt hd) hret
theorem fg {tn : Nat} {f : FuncId} {xs : Array Operand} {ats : Array TypeId} {args : List AV} {v : Value} (hargs : Jz ρ xs.toList = some args) (hcal : Cal k.P f) (hac : ACr k.P k.c.G f args (.val v)) (hd : Nat.blt d k.n = true) (hret : JQ k ops tn l Q ((d, .val v) :: ρ) h) :
 JQ k ops (tn + 1) (⟨some d, .call { callee := .value (.func f), args := xs, argTypes := ats }, ty, pos, after, none⟩ :: l) Q ρ h :=
 bE hcal hac (by rw [DR hargs]; exact AVs.le_refl _) (fun t ht => by cases ht; exact blt hd) hret
theorem SS {f : FuncId} {xs : Array Operand} {ats : Array TypeId} {args : List AV} {R : AE → H → Prop} (hargs : Jz ρ xs.toList = some args) (hcal : Cal k.P f) (hs : h = hc ++ hr) (hac : AC k.P k.c.G f args hc R) (hd : Nat.blt d k.n = true)
 (hret : ∀ r h', R (.ret r) h' → JL k ops l Q ((d, r) :: ρ) (h' ++ hr)) (hpan : ∀ ch h', R (.pan ch) h' → Q (.panic ch) ρ (h' ++ hr)) :
 JL k ops (⟨some d, .call { callee := .value (.func f), args := xs, argTypes := ats }, ty, pos, after, none⟩ :: l) Q ρ h :=
 Ue hcal hac (by rw [DR hargs]; exact AVs.le_refl _) hs (fun t ht => by cases ht; exact blt hd) hret hpan
end

section
variable {P : Program} {G : List (Nat × List D)} {ρ : Env} {h : H} {dst : Option Tmp} {ty : TypeId} {pos : String} {after : Array Edge} {g : Option (Nat × Bool)}
theorem U0 {x : Operand} {r : AV} (hx : evO ρ x = some r) : Pure P G ⟨dst, .move x, ty, pos, after, g⟩ ρ h r := VG (AA hx)
theorem Nt {x : Operand} {r : AV} (hx : evO ρ x = some r) : Pure P G ⟨dst, .assign x, ty, pos, after, g⟩ ρ h r := QM (AA hx)
theorem Ol {c x y : Operand} {r : AV} (hc : ev ρ c = .val (.bool true)) (hx : evO ρ x = some r) : Pure P G ⟨dst, .pick c x y, ty, pos, after, g⟩ ρ h r := L5 hc (AA hx)
theorem M9 {c x y : Operand} {r : AV} (hc : ev ρ c = .val (.bool false)) (hx : evO ρ y = some r) : Pure P G ⟨dst, .pick c x y, ty, pos, after, g⟩ ρ h r := Kn hc (AA hx)
theorem dO {α : Type} {T E : TypeId} {x : Operand} {sz eb : Nat} {f : α → List D} {xs : List α} (hT : P.underlying T = some (.slice E)) (hx : ev ρ x = .d (.l sz eb (xs.map f))) : Pure P G ⟨dst, .call { callee := .builtin .len, args := #[x], argTypes := #[T] }, ty, pos, after, g⟩ ρ h (.int xs.length) := by
 have := Rx (G := G) (h := h) (dst := dst) (ty := ty) (pos := pos) (after := after) (g := g) hT hx
 rwa [List.length_map] at this
theorem Lb {α : Type} {T E : TypeId} {x y : Operand} {sz eb : Nat} {f : α → List D} {xs : List α} {n : Nat} {z : Value} {eb' : Nat} (hx : ev ρ x = .d (.l sz eb (xs.map f))) (hy : ev ρ y = .int (n : Int)) (hT : P.underlying T = some (.slice E)) (hE : El P E z sz eb')
 (hn : n < xs.length) : Pure P G ⟨dst, .indexAddr T x y, ty, pos, after, g⟩ ρ h (.pd (f xs[n])) :=
 HY hT hE hx hy (Int.natCast_nonneg n) (by rw [Int.toNat_natCast, List.getElem?_map, List.getElem?_eq_getElem hn]; rfl)
theorem Rn {α : Type} {T E : TypeId} {x y : Operand} {sz eb : Nat} {f : α → List D} {xs : List α} {n : Nat} {z : Value} {eb' : Nat} (hx : ev ρ x = .d (.l sz eb (xs.map f))) (hy : evO ρ y = some (.int ((n : Int) + 1))) (hT : P.underlying T = some (.slice E)) (hE : El P E z sz eb')
 (hn : n + 1 < xs.length) : Pure P G ⟨dst, .indexAddr T x y, ty, pos, after, g⟩ ρ h (.pd (f xs[n + 1])) :=
 Lb (n := n + 1) hx (AA hy) hT hE hn
theorem Q7 {α : Type} {T E : TypeId} {x y : Operand} {sz eb : Nat} {f : α → List D} {xs : List α} {n : Int} {z : Value} {eb' : Nat} (hx : ev ρ x = .d (.l sz eb (xs.map f))) (hy : ev ρ y = .int n) (hT : P.underlying T = some (.slice E)) (hE : El P E z sz eb')
 (h0 : 0 ≤ n) (hn : n.toNat < xs.length) : Pure P G ⟨dst, .indexAddr T x y, ty, pos, after, g⟩ ρ h (.pd (f xs[n.toNat])) :=
 HY hT hE hx hy h0 (by rw [List.getElem?_map, List.getElem?_eq_getElem hn]; rfl)
end

def gm (k : Kx) (Q : Exit → Env → H → List Deferred → Prop) : Exit → Act → World → Prop := fun e a w =>
 ∃ I ρ h, Ok k.c I h w ∧ SF k.n w I ρ a ∧ Q e ρ h a.defers
def J2 (k : Kx) (x : Code) (Q : Exit → Env → H → List Deferred → Prop) (ρ : Env) (h : H) : Prop :=
 ∀ I a w, Ok k.c I h w → SF k.n w I ρ a → a.defers = k.df → x.wp k.P (gm k Q) a w
def L9 (k : Kx) (y : Code) (Q : Exit → Env → H → List Deferred → Prop) : Exit → Env → H → List Deferred → Prop
 | .normal, ρ, h, df => J2 { k with df := df } y Q ρ h
 | e, ρ, h, df => Q e ρ h df

section
variable {k : Kx} {Q2 : Exit → Env → H → List Deferred → Prop} {ρ ρ' : Env} {h h' : H}
theorem aC {x : Code} (hj : J k x (fun e ρ h => Q2 e ρ h k.df) ρ h) : J2 k x Q2 ρ h := fun I a w h1 h2 h3 =>
 wp_mono (hj I a w h1 h2 h3) fun _ _ _ ⟨I, ρ, h, k1, k2, k3, k4⟩ => ⟨I, ρ, h, k1, k2, by rw [k3]; exact k4⟩
theorem TI {x y : Code} (hj : J2 k x (L9 k y Q2) ρ h) : J2 k (.seq x y) Q2 ρ h := by
 intro I a w h1 h2 h3
 refine wp_seq (wp_mono (hj I a w h1 h2 h3) ?_)
 rintro e a w ⟨I, ρ, h, h1, h2, h4⟩
 cases e with
 | normal => exact h4 I a w h1 h2 rfl
 | _ => exact ⟨I, ρ, h, h1, h2, h4⟩
theorem EK {x y : Code} (hj : J k x (fun e ρ h => L9 k y Q2 e ρ h k.df) ρ h) : J2 k (.seq x y) Q2 ρ h := TI (aC hj)
theorem Bq {y : Code} {df : List Deferred} (hj : J2 { k with df := df } y Q2 ρ h) : L9 k y Q2 .normal ρ h df := hj
theorem PV {y : Code} {df : List Deferred} (hj : Q2 .ret ρ h df) : L9 k y Q2 .ret ρ h df := hj
theorem Ju {y : Code} {df : List Deferred} {ch : List PanicEntry} (hj : Q2 (.panic ch) ρ h df) : L9 k y Q2 (.panic ch) ρ h df := hj

theorem SI {id fid : Nat} {d : Nat} {caps : Array Operand} {vs : List Value} {ty ty' : TypeId} {pos pos' : String} {after after' : Array Edge} (hc : caps.toList.map (ev ρ) = vs.map AV.val) (hd : Nat.blt d k.n = true)
 (hq : Q2 .normal ((d, .any) :: ρ) h ({ target := .fn (.func fid) vs.toArray, args := #[] } :: k.df)) :
 J2 k (.region id #[⟨some d, .makeFunc (.func fid) #[] caps, ty, pos, after, none⟩, ⟨none, .defer { callee := .value (.tmp d), args := #[], argTypes := #[] }, ty', pos', after', none⟩] false) Q2 ρ h := by
 intro I a w h1 h2 h3
 refine wp_region_lit ?_
 have hvs : caps.map a.eval = vs.toArray := by
  apply Array.ext'
  have hr := FZ h2 caps.toList
  rw [hc] at hr
  have : ∀ (us : List Value) (ws : List Value), AV.rels w I (us.map AV.val) ws → ws = us := by
   intro us
   induction us with
   | nil => intro ws hw; cases ws with
     | nil => rfl
     | cons _ _ => exact hw.elim
   | cons u us ih => intro ws hw; cases ws with
     | nil => exact hw.elim
     | cons v ws => obtain ⟨e1, e2⟩ := hw; rw [ih ws e2]; cases e1; rfl
  simpa using this _ _ hr
 have hdn : d < a.tmps.size := by rw [h2.1]; exact blt hd
 refine wpList_plain rfl fun K hK => ?_
 unfold Oper.wp
 have e1 : (execOp a.eval ⟨some d, .makeFunc (.func fid) #[] caps, ty, pos, after, none⟩).run k.P w = .ok (.value (.func (.func fid) #[] vs.toArray)) w := by
  simp [execOp, Instr.makeFunc, hvs]
 rw [e1]
 refine hK _ _ (wpList_plain rfl fun K hK => ?_)
 unfold Oper.wp
 have e2 : (execOp (a.put (some d) (.func (.func fid) #[] vs.toArray)).eval ⟨none, .defer { callee := .value (.tmp d), args := #[], argTypes := #[] }, ty', pos', after', none⟩).run k.P w = .ok (.defer { target := .fn (.func fid) vs.toArray, args := #[] }) w := by
  simp [execOp, resolve, Act.put, Act.eval, Array.getD, hdn, Deferred.ofValue]
 rw [e2]
 refine hK _ _ ⟨I, (d, .any) :: ρ, h, h1, ?_, ?_⟩
 · exact (h2.put (dst := some d) (fun t ht => by cases ht; exact blt hd) (r := .any) trivial)
 · have : a.defers = k.df := h3
   simpa [Act.put, this] using hq
end

def dT : Exit → Option FrameMode
 | .normal => some .returning
 | .ret => some .returning
 | .panic ch => some (.panicking ch)
 | _ => none

def LQ (k : Kx) (fn : Func) (R : Ending → World → Prop) (u : Option FrameMode) (ρ : Env) (h : H) (df : List Deferred) : Prop :=
 ∀ I a w, Ok k.c I h w → SF k.n w I ρ a → ∃ m, u = some m ∧ Leaves k.P fn a.tmps R df m w

theorem Yh {P : Program} {G : List (Nat × List D)} {f : FuncId} {fn : Func} {c : Code} {args : List AV} {h : H} {Q : AE → H → Prop} (n : Nat) (hf : P.funcs[f]? = some fn) (hb : fn.body = some c) (hn : fn.ntmps = n) (ha : args.length ≤ n)
 (hj : ∀ W I, J2 ⟨P, ⟨W, I, blks h, G⟩, n, []⟩ c (fun e ρ h' df => LQ ⟨P, ⟨W, I, blks h, G⟩, n, []⟩ fn (Gq G W I h Q) (dT e) ρ h' df) (Ch 0 args) h) : AC P G f args h Q := by
 intro I W vs h1 h2 h3 hG h4
 have hlen := AV.rels_length h4
 refine calls_of_wp_defers hf hb ?_
 have hok : Ok ⟨W, I, blks h, G⟩ I h W :=
  { ent := h1, nd := h2, imm := h3, new := fun b hb => .inl hb, inew := fun b hb => .inl hb, sup := fun b hb => hb, os := rfl, tape := rfl, output := rfl, size := Nat.le_refl _, keep := fun _ _ _ => rfl, glob := hG }
 have hsf : SF n W I (Ch 0 args) { tmps := vs.toArray ++ Array.replicate (fn.ntmps - vs.toArray.size) undef, defers := [] } := by
  refine ⟨by simp [hn]; omega, fun t => ?_⟩
  have := DN W I args vs 0 t h4
  simp only [Nat.zero_le, if_true, Nat.sub_zero] at this
  have e : (vs.toArray ++ Array.replicate (fn.ntmps - vs.toArray.size) undef).getD t undef = (vs[t]?).getD undef := by
   rw [Array.getD_eq_getD_getElem?, Array.getElem?_append]
   by_cases ht : t < vs.length
   · simp [ht]
   · simp only [List.size_toArray, ht, if_false]
     rw [List.getElem?_eq_none (by omega)]
     simp only [Array.getElem?_replicate]
     split <;> rfl
  rw [e]; exact this
 refine wp_mono (hj W I I _ W hok hsf rfl) ?_
 rintro e a w ⟨I', ρ', h', k1, k2, k4⟩
 obtain ⟨m, hm, hl⟩ := k4 I' a w k1 k2
 cases e with
 | normal => cases hm; exact hl
 | ret => cases hm; exact hl
 | panic ch => cases hm; exact hl
 | exit _ => cases hm
 | goto _ => cases hm
 | outgrown => cases hm

theorem L0 {P : Program} {fn : Func} {r1 r2 t1 t2 b1 b2 : Nat} {T1 T2 : TypeId} {z1 z2 : Nat × Nat} {v1 v2 : Value} {tmps : Array Value} {w : World} (hr : fn.results = #[.cell r1 t1, .cell r2 t2]) (a1 : A0 P t1 = some false) (a2 : A0 P t2 = some false)
 (e1 : tmps.getD r1 undef = .pointer (some ⟨b1, 0, none⟩)) (e2 : tmps.getD r2 undef = .pointer (some ⟨b2, 0, none⟩)) (c1 : w.heap[b1]? = some (.cells #[v1] T1 z1)) (c2 : w.heap[b2]? = some (.cells #[v2] T2 z2)) :
 (results fn tmps).run P w = .ok (.tuple #[v1, v2]) w := by
 have l1 : w.cell? ⟨b1, 0, none⟩ = some v1 := by rw [cell_of_row w b1 0 _ _ _ c1]; rfl
 have l2 : w.cell? ⟨b2, 0, none⟩ = some v2 := by rw [cell_of_row w b2 0 _ _ _ c2]; rfl
 rw [Array.getD_eq_getD_getElem?] at e1 e2
 unfold results
 rw [hr]
 simp [e1, e2, loadVar, B2 a1, B2 a2, run_load, l1, l2, asAddr]

theorem Dh {k : Kx} {fn : Func} {Q : AE → H → Prop} {ρ : Env} {h h0 : H} {r1 r2 t1 t2 b1 b2 : Nat} {T1 T2 : TypeId} {x1 x2 : AV} (hr : fn.results = #[.cell r1 t1, .cell r2 t2]) (a1 : A0 k.P t1 = some false) (a2 : A0 k.P t2 = some false)
 (e1 : get ρ r1 = .val (.pointer (some ⟨b1, 0, none⟩))) (e2 : get ρ r2 = .val (.pointer (some ⟨b2, 0, none⟩))) (c1 : Ent.cells b1 T1 [x1] ∈ h) (c2 : Ent.cells b2 T2 [x2] ∈ h) (hE : k.c.E = blks h0) {h' : H} (hs : List.Sublist h' h) {y1 y2 : AV} (l1 : AV.le x1 y1) (l2 : AV.le x2 y2) (hq : Q (.ret (.tup [y1, y2])) h') :
 LQ k fn (Gq k.c.G k.c.W k.c.I0 h0 Q) (some .returning) ρ h [] := by
 intro I a w h1 h2
 refine ⟨_, rfl, ?_⟩
 obtain ⟨cs1, d1, f1⟩ := h1.ent _ c1
 obtain ⟨cs2, d2, f2⟩ := h1.ent _ c2
 obtain ⟨v1, hv1, g1⟩ : ∃ v1, cs1 = #[v1] ∧ AV.rel w I x1 v1 := by
  obtain ⟨l⟩ := cs1
  match l, f1 with
  | [v], ⟨g, _⟩ => exact ⟨v, rfl, g⟩
  | _ :: _ :: _, ⟨_, g⟩ => exact g.elim
 obtain ⟨v2, hv2, g2⟩ : ∃ v2, cs2 = #[v2] ∧ AV.rel w I x2 v2 := by
  obtain ⟨l⟩ := cs2
  match l, f2 with
  | [v], ⟨g, _⟩ => exact ⟨v, rfl, g⟩
  | _ :: _ :: _, ⟨_, g⟩ => exact g.elim
 subst hv1; subst hv2
 refine ⟨_, L0 hr a1 a2 (AI (h2.2 r1) e1) (AI (h2.2 r2) e2) d1 d2, _, h', I, hq, ?_, ⟨_, rfl, l1 _ _ _ g1, l2 _ _ _ g2, trivial⟩⟩
 have hc : k.c = ⟨k.c.W, k.c.I0, blks h0, k.c.G⟩ := by rw [← hE]
 rw [← hc]
 exact
 { ent := fun e he => h1.ent e (hs.subset he), nd := h1.nd.sublist (BG hs), imm := fun b hb => ⟨(h1.imm b hb).1, fun hm => (h1.imm b hb).2 ((BG hs).subset hm)⟩,
   new := fun b hb => h1.new b ((BG hs).subset hb), inew := h1.inew, sup := h1.sup, os := h1.os, tape := h1.tape, output := h1.output, size := h1.size, keep := h1.keep, glob := h1.glob }

def CD (P : Program) (f : FuncId) (args : Array Value) (u : FrameMode) (h h' : H) (u' : FrameMode) : Prop :=
 ∀ c I w, Ok c I h w → CallsD P f args u w fun e v w' => e = .returned (.tuple #[]) ∧ v = u' ∧ Ok c I h' w' ∧ ∀ b, I b → w'.heap[b]? = w.heap[b]?

theorem It {k : Kx} {fn : Func} {R : Ending → World → Prop} {u u' m : FrameMode} {ρ : Env} {h h' : H} {f : FuncId} {vs : Array Value} {ds : List Deferred} (hu : u ≠ .run) (hcal : Cal k.P f) (hcd : CD k.P f vs u h h' u') (hm : settle u' = m)
 (hn : LQ k fn R (some m) ρ h' ds) : LQ k fn R (some u) ρ h ({ target := .fn (.func f) vs, args := #[] } :: ds) := by
 intro I a w h1 h2
 refine ⟨u, rfl, ?_⟩
 refine leaves_cons (f := f) (args := vs) hu ?_ ((hcd k.c I w h1).mono ?_)
 · have := hcal vs w
   simpa [invoke] using this
 · rintro e v w' ⟨rfl, rfl, k1, k2⟩
   obtain ⟨m', hm', hl⟩ := hn I a w' k1 (h2.mono k2 fun _ hb => hb)
   cases hm'
   dsimp only
   rw [hm]
   exact hl
section
variable {k : Kx} {Q : Exit → Env → H → Prop} {ρ ρ' : Env} {h h' : H} {ops : Array Oper} {l : List Oper} {dst : Option Tmp} {ty : TypeId} {pos : String} {after : Array Edge} {g : Option (Nat × Bool)}
theorem Z5 {x : Operand} {T : TypeId} {v : Value} (hx : ev ρ x = .val (.iface T v)) (hq : Q (.panic [{ v := .iface T v, recovered := false }]) ρ h) : JL k ops (⟨dst, .panic x, ty, pos, after, none⟩ :: l) Q ρ h := by
 intro I a w h1 h2 h3
 refine wpList_plain rfl fun K hK => ?_
 unfold Oper.wp
 have e1 := AI (h2.ev x) hx
 have : (execOp a.eval ⟨dst, .panic x, ty, pos, after, none⟩).run k.P w = .halt (.panic (.iface T v)) w := by
  have hp : (Instr.panic (.iface T v)).run k.P w = .halt (.panic (.iface T v)) w := rfl
  simp [execOp, e1, hp]
 rw [this]
 exact ⟨I, ρ, h, h1, h2, h3, hq⟩
theorem jpan {x : Operand} {T : TypeId} {v : Value} (hx : evO ρ x = some (.val (.iface T v))) (hq : Q (.panic [{ v := .iface T v, recovered := false }]) ρ h) : JL k ops (⟨dst, .panic x, ty, pos, after, none⟩ :: l) Q ρ h := Z5 (AA hx) hq
theorem VS.freezeCells {b n : Nat} {E : TypeId} {sz eb : Nat} {rows : List (List D)} {vs : List AV} {h1 h2 : H} {t : Nat} (h0 : 0 < sz) (ht : get ρ t = .val (.slice (some ⟨b, 0, none⟩) n n)) (hh : h = h1 ++ .cells b E vs :: h2) (hv : vs = rows.flatten.map D.av) (hn : rows.length = n) (hsz : ∀ r ∈ rows, r.length = sz) (hb : n * eb ≤ 140737488355328) (hm : n ≤ maxLen) :
 VS ρ h ((t, .d (.l sz eb rows)) :: ρ) (h1 ++ h2) := by
 subst hh; subst hv; subst hn
 intro c I m a w k1 k2
 obtain ⟨cs, hc1, hc2⟩ := k1.ent (.cells b E (rows.flatten.map D.av)) (by simp)
 refine ⟨_, k1.release rfl, ?_⟩
 have hf := k2.wider (I' := fun x => I x ∨ x = b) fun _ h => .inl h
 refine ⟨hf.1, fun s => ?_⟩
 simp only [get]
 cases hb' : Nat.beq t s with
 | false => exact hf.2 s
 | true =>
   have := Nat.eq_of_beq_eq_true hb'
   subst this
   have hv := AI (k2.2 t) ht
   simp only [cond_true, hv]
   have hcell : ∀ q x, rows.flatten[q]? = some x → ∃ c, w.cell? ((⟨b, 0, none⟩ : Addr).add q) = some c ∧ Rel w I x c := fun q x hx => by
    obtain ⟨c, hc3, hc4⟩ := AV.rels_get hc2 q x.av (by rw [List.getElem?_map, hx]; rfl)
    refine ⟨c, ?_, D.av_rel' hc4⟩
    rw [Addr.add_lit, Nat.zero_add, cell_of_row w b q cs E (0, 0) hc1]
    simpa using hc3
   have hq : ∀ (j u : Nat) (r : List D) (x : D), rows[j]? = some r → r[u]? = some x → rows.flatten[j * sz + u]? = some x := fun j u r x hr hx => by
    have hu : u < sz := by
     have := (List.getElem?_eq_some_iff.1 hx).1
     rwa [hsz r (List.mem_of_getElem? hr)] at this
    rw [CP h0 rows hsz, Nat.add_comm, Nat.add_mul_div_right _ _ h0, Nat.add_mul_mod_self_right, Nat.div_eq_of_lt hu, Nat.mod_eq_of_lt hu, Nat.zero_add, hr]
    exact hx
   refine Rel.l sz eb rows ⟨b, 0, none⟩ rows.length (fun j u => (w.cell? ((⟨b, 0, none⟩ : Addr).add (j * sz + u))).getD undef) (.inr rfl) (Nat.le_refl _) hm hb hsz (fun j u r x hr hx => ?_) (fun j u r x hr hx => ?_)
   · obtain ⟨c, hc3, _⟩ := hcell _ x (hq j u r x hr hx)
     simp only [hc3, Option.getD_some]
   · obtain ⟨c, hc3, hc4⟩ := hcell _ x (hq j u r x hr hx)
     simp only [hc3, Option.getD_some]
     exact hc4.mono (fun _ _ => rfl) fun _ h => .inl h
end

def Bl2 (P : Program) (t : TypeId) : Prop :=
 (match P.info? t, P.underlying t with
 | some it, some (.struct fields) =>
   match it.zero, fields.toList.mapM (fun f => (P.info? f.type).map fun i => (f.offset, i.size)) with
   | some z, some places => decide (z.cells.size = 2) && decide (places = [(0, 1), (1, 1)])
   | _, _ => false
 | _, _ => false) = true
theorem Bl2.built {P : Program} {t : TypeId} (h : Bl2 P t) {u v : Value} (hu : u.oneCell' = true) (hv : v.oneCell' = true) : P.built t [(0, u), (1, v)] = some #[u, v] := by
 unfold Bl2 at h
 unfold Program.built
 cases h1 : P.info? t with
 | none => rw [h1] at h; cases h
 | some it =>
   cases h2 : P.underlying t with
   | none => rw [h1, h2] at h; cases h
   | some d =>
     cases d with
     | struct fields =>
       rw [h1, h2] at h
       dsimp only at h ⊢
       cases h3 : it.zero with
       | none => rw [h3] at h; cases h
       | some z =>
         cases h4 : fields.toList.mapM (fun f => (P.info? f.type).map fun i => (f.offset, i.size)) with
         | none => rw [h3, h4] at h; cases h
         | some places =>
           rw [h3, h4] at h
           simp only [Bool.and_eq_true, decide_eq_true_eq] at h
           obtain ⟨h5, rfl⟩ := h
           dsimp only
           obtain ⟨l, hl⟩ : ∃ l, z.cells = l := ⟨_, rfl⟩
           rw [hl] at h5 ⊢
           obtain ⟨l⟩ := l
           match l, h5 with
           | [a, b], _ => simp [Instr.fill, cells_one hu, cells_one hv]
     | _ => rw [h1, h2] at h; cases h
section
variable {P : Program} {G : List (Nat × List D)} {ρ : Env} {h : H} {dst : Option Tmp} {ty : TypeId} {pos : String} {after : Array Edge} {g : Option (Nat × Bool)}
theorem Rj {T : TypeId} {x y : Operand} {r s : AV} (hT : Bl2 P T) (hx : evO ρ x = some r) (hy : evO ρ y = some s) (hr : r.flat = true) (hs : s.flat = true) : Pure P G ⟨dst, .build T #[(0, x), (1, y)], ty, pos, after, g⟩ ρ h (.agg [r, s]) :=
 AZ fun w I _ a k => by
  have e1 := BS (k.ev x) (AA hx)
  have e2 := BS (k.ev y) (AA hy)
  refine ⟨.agg #[a.eval x, a.eval y], ⟨[a.eval x, a.eval y], rfl, e1, e2, trivial⟩, fun w' => ?_⟩
  have := run_build (P := P) w' T #[(0, a.eval x), (1, a.eval y)] #[a.eval x, a.eval y] (hT.built (JR hr e1) (JR hs e2))
  simp [execOp, this]
theorem MN {S : TypeId} {x : Operand} {f b off fo : Nat} (hF : Fld P S f fo) (hx : evO ρ x = some (.val (.pointer (some ⟨b, off, none⟩)))) : Pure P G ⟨dst, .fieldAddr S x f, ty, pos, after, g⟩ ρ h (.val (.pointer (some ⟨b, off + fo, none⟩))) := He hF (AA hx)
theorem ID {T T0 : TypeId} {x : Operand} {b off : Nat} {vs : List AV} {r : AV} (hT : A0 P T = some false) (hx : evO ρ x = some (.val (.pointer (some ⟨b, off, none⟩)))) (hh : Ent.cells b T0 vs ∈ h) (hr : vs[off]? = some r) : Pure P G ⟨dst, .load T x, ty, pos, after, g⟩ ρ h r := Ga hT (AA hx) hh hr
theorem RD {x : Operand} {ad : Addr} (hx : evO ρ x = some (.val (.pointer (some ad)))) : Pure P G ⟨dst, .nilCheck x, ty, pos, after, g⟩ ρ h (.val (.pointer (some ad))) := NO (AA hx)
def Xd (P : Program) (T : TypeId) : Prop := ∃ d, P.underlying T = some d ∧ ∀ m, d ≠ .interface m
theorem Z3 {T : TypeId} {x : Operand} {v : Value} (hT : Xd P T) (hx : evO ρ x = some (.val v)) : Pure P G ⟨dst, .makeInterface T x, ty, pos, after, g⟩ ρ h (.val (.iface T v)) := Ii hT (AA hx)
end
section
variable {k : Kx} {Q : Exit → Env → H → Prop} {ρ ρ' : Env} {h h1 h2 : H} {ops : Array Oper} {l : List Oper} {dst : Option Tmp} {ty : TypeId} {pos : String} {after : Array Edge} {g : Option (Nat × Bool)}
theorem PS {T T0 : TypeId} {x y : Operand} {b : Nat} {r r0 : AV} {z : Value} {eb : Nat} (hx : evO ρ x = some (.val (.pointer (some ⟨b, 0, none⟩)))) (hy : evO ρ y = some r) (hs : r.flat = true) (hE : El k.P T z 1 eb) (hh : h = h1 ++ .cells b T0 [r0] :: h2)
 (hj : JL k ops l Q ρ (h1 ++ .cells b T0 [r] :: h2)) : JL k ops (⟨none, .store T x y, ty, pos, after, none⟩ :: l) Q ρ h := by
 have hcl : r.cl = [r] := by cases r <;> first | rfl | cases hs
 have hst : r.stor = true := by cases r <;> first | exact hs | cases hs
 refine HH (off := 0) (r := r) (vs := [r0]) (AA hx) (AA hy) hst hE (by rw [hcl]; rfl) hh (by rw [hcl]; simp) ?_
 rw [hcl, Fj _ _ _ (by simp)]
 exact hj
theorem du {T T0 : TypeId} {x y : Operand} {b off : Nat} {n : Int} {es : List Int} {z : Value} {eb : Nat} (hx : evO ρ x = some (.val (.pointer (some ⟨b, off, none⟩)))) (hy : evO ρ y = some (.int n)) (hE : El k.P T z 1 eb) (hh : h = h1 ++ .cells b T0 (es.map AV.int) :: h2) (hl : off < es.length)
 (hj : JL k ops l Q ρ (h1 ++ .cells b T0 ((es.set off n).map AV.int) :: h2)) : JL k ops (⟨none, .store T x y, ty, pos, after, none⟩ :: l) Q ρ h := by
 refine HH (off := off) (r := .int n) (vs := es.map AV.int) (AA hx) (AA hy) rfl hE rfl hh (by simp [AV.cl]; omega) ?_
 have : setAt (es.map AV.int) off (AV.int n).cl = (es.set off n).map AV.int := by
  rw [show (AV.int n).cl = [AV.int n] from rfl, Fj _ _ _ (by simpa using hl), List.map_set]
 rw [this]
 exact hj
end
theorem NM (w : World) (g x : Nat) (v : Value) (hx : x ≠ g) : (w.setCell ⟨g, 0, none⟩ v).heap[x]? = w.heap[x]? := by
 simp only [World.setCell, Array.getElem?_modify]
 rw [if_neg (fun e => hx e.symm)]
theorem Ok.set1 {c : Cx} {I : Nat → Prop} {h1 h2 : H} {b : Nat} {T : TypeId} {x : AV} {v : Value} {w : World} (k : Ok c I (h1 ++ .cells b T [x] :: h2) w) : Ok c I (h1 ++ .cells b T [.val v] :: h2) (w.setCell ⟨b, 0, none⟩ v) ∧ ∀ x, I x → (w.setCell ⟨b, 0, none⟩ v).heap[x]? = w.heap[x]? := by
 obtain ⟨cs, d1, f1⟩ := k.ent (.cells b T [x]) (by simp)
 obtain ⟨u, rfl⟩ : ∃ u, cs = #[u] := by
  obtain ⟨l⟩ := cs
  match l, f1 with
  | [v], _ => exact ⟨v, rfl⟩
  | _ :: _ :: _, ⟨_, g⟩ => exact g.elim
 refine k.write (e := .cells b T [x]) (e' := .cells b T [.val v]) (b := b) rfl rfl rfl rfl rfl (by simp [World.setCell]) (fun y hy => NM w b y v hy) ⟨#[v], ?_, rfl, trivial⟩
 simp only [World.setCell, Array.getElem?_modify, if_true]
 rw [d1]; rfl
theorem Ent.cells_one {w : World} {I : Nat → Prop} {b : Nat} {T : TypeId} {x : AV} (h : Ent.rel w I (.cells b T [x])) : ∃ u, w.heap[b]? = some (.cells #[u] T (0, 0)) := by
 obtain ⟨cs, d1, f1⟩ := h
 obtain ⟨l⟩ := cs
 match l, f1 with
 | [v], _ => exact ⟨v, d1⟩
 | _ :: _ :: _, ⟨_, g⟩ => exact g.elim
section
variable {k : Kx} {Q : Exit → Env → H → Prop} {ρ : Env} {h hc hr : H} {ops : Array Oper} {l : List Oper} {d : Nat} {dst : Option Tmp} {ty : TypeId} {pos : String} {after : Array Edge}
theorem ga {f : FuncId} {xs : Array Operand} {ats : Array TypeId} {args : List AV} {R : AE → H → Prop} (hargs : Jz ρ xs.toList = some args) (hcal : Cal k.P f) (hac : AC k.P k.c.G f args h R) (hd : Nat.blt d k.n = true)
 (hret : ∀ r h', R (.ret r) h' → JL k ops l Q ((d, r) :: ρ) h') (hpan : ∀ ch h', R (.pan ch) h' → Q (.panic ch) ρ h') :
 JL k ops (⟨some d, .call { callee := .value (.func f), args := xs, argTypes := ats }, ty, pos, after, none⟩ :: l) Q ρ h :=
 SS (hc := h) (hr := []) hargs hcal (List.append_nil h).symm hac hd (fun r h' hq => by rw [List.append_nil]; exact hret r h' hq) (fun ch h' hq => by rw [List.append_nil]; exact hpan ch h' hq)
end
section
variable {P : Program} {G : List (Nat × List D)} {ρ : Env} {h : H} {dst : Option Tmp} {ty : TypeId} {pos : String} {after : Array Edge} {g : Option (Nat × Bool)}
theorem HI {T E : TypeId} {x y : Operand} {b len cap : Nat} {n : Int} {sz eb : Nat} {z : Value} (hx : evO ρ x = some (.val (.slice (some ⟨b, 0, none⟩) len cap))) (hT : P.underlying T = some (.slice E)) (hE : El P E z sz eb)
 (hy : ev ρ y = .int n) (h0 : 0 ≤ n) (h1 : n < len) : Pure P G ⟨dst, .indexAddr T x y, ty, pos, after, g⟩ ρ h (.val (.pointer (some ⟨b, n.toNat * sz, none⟩))) := HJ hT hE (AA hx) hy h0 h1
theorem O1 {T E : TypeId} {x y : Operand} {b off len : Nat} {n : Int} {sz eb : Nat} {z : Value} (hx : evO ρ x = some (.val (.pointer (some ⟨b, off, none⟩)))) (hT : P.underlying T = some (.array len E)) (hy : ev ρ y = .int n) (hE : El P E z sz eb) (h0 : 0 ≤ n) (h1 : n < len) :
 Pure P G ⟨dst, .indexAddr T x y, ty, pos, after, g⟩ ρ h (.val (.pointer (some ⟨b, off + n.toNat * sz, none⟩))) :=
 AZ fun _ _ _ a hs => ⟨_, rfl, fun w' => by
  obtain ⟨i, hE, _, hsz, _⟩ := hE.get
  have e1 := AI (hs.ev x) (AA hx)
  have e2 := AI (hs.ev y) hy
  simp [execOp, e1, e2, Instr.indexAt, run_underlying hT, asIntOf, Instr.sureAddr, h0, h1, sizeOf, typeInfo, hE, Addr.add_lit, hsz]⟩
end
theorem U3 {k : Kx} {fn : Func} {R : Ending → World → Prop} {u : Option FrameMode} {ρ ρ' : Env} {h h' : H} {df : List Deferred} (v : VS ρ h ρ' h') (hl : LQ k fn R u ρ' h' df) : LQ k fn R u ρ h df :=
 fun I a w h1 h2 => let ⟨I', k1, k2⟩ := v k.c I k.n a w h1 h2; hl I' a w k1 k2
section
variable {k : Kx} {Q : Exit → Env → H → Prop} {ρ : Env} {h : H} {ops : Array Oper} {l : List Oper} {d : Nat} {dst : Option Tmp} {ty : TypeId} {pos : String} {after : Array Edge}
theorem PX {T : TypeId} {z : Value} {eb : Nat} (hz : El k.P T z 1 eb) (h1 : z.oneCell' = true) (hd : Nat.blt d k.n = true)
 (hj : ∀ b, JL k ops l Q ((d, .val (.pointer (some ⟨b, 0, none⟩))) :: ρ) (.cells b T [.val z] :: h)) : JL k ops (⟨some d, .alloc T, ty, pos, after, none⟩ :: l) Q ρ h :=
 QZ hz (fun t ht => by cases ht; exact blt hd) fun b => by rw [cells_one h1]; exact hj b
theorem gY {T : TypeId} {x : Operand} {cs : List AV} (hx : evO ρ x = some (.agg cs)) (hs : cs.all AV.flat = true) (hd : Nat.blt d k.n = true)
 (hj : ∀ b, JL k ops l Q ((d, .val (.pointer (some ⟨b, 0, none⟩))) :: ρ) (.cells b T cs :: h)) : JL k ops (⟨some d, .box T x, ty, pos, after, none⟩ :: l) Q ρ h :=
 ZE (AA hx) hs (fun t ht => by cases ht; exact blt hd) hj
theorem W5 {T E : TypeId} {x : Operand} {n : Nat} {eb : Nat} (hx : evO ρ x = some (.int n)) (hT : k.P.underlying T = some (.slice E)) (hz : El k.P E (.int .i64 0) 1 eb) (hb : eb * n ≤ 281474976710656) (hm : n ≤ 9223372036854775807) (hd : Nat.blt d k.n = true)
 (hj : ∀ b, JL k ops l Q ((d, .val (.slice (some ⟨b, 0, none⟩) n n)) :: ρ) (.cells b E ((List.replicate n 0).map AV.int) :: h)) : JL k ops (⟨some d, .makeSlice T x x, ty, pos, after, none⟩ :: l) Q ρ h :=
 Ub hT hz rfl (AA hx) hb hm (fun t ht => by cases ht; exact blt hd) fun b => by have := hj b; rwa [List.map_replicate] at this
end

structure Two (A B : Prop) : Prop where
 fst : A
 snd : B
structure Imp (c A : Prop) : Prop where
 get : c → A
structure All {α : Type} (p : α → Prop) : Prop where
 get : ∀ v, p v
theorem cmp {p r q : Prop} (g : r → q) (f : p → r) : p → q := fun h => g (f h)
theorem two {A B : Prop} (h1 : A) (h2 : B) : Two A B := ⟨h1, h2⟩
theorem imp {c A : Prop} (h : c → A) : Imp c A := ⟨h⟩
theorem all {α : Type} {p : α → Prop} (h : ∀ v, p v) : All p := ⟨h⟩
theorem bC {p : Prop} [Decidable p] {A B : Prop} (h : Two (Imp p A) (Imp (¬ p) B)) : CB (decide p) A B := dh h.1.get h.2.get
theorem WT {b : Bool} {A B : Prop} (h : Two (Imp (b = true) A) (Imp (b = false) B)) : CB b A B := Zv h.1.get h.2.get

abbrev AF {α : Type} (v : Value) (E : TypeId) (sz : Nat) (f : α → List D) (xs : List α) : Ent := .row v xs.length E sz ((xs.map f).flatten.map D.av)

def fW (ts : List Tmp) (Q : AE → H → Prop) (e : Exit) (ρ : Env) (h : H) : Prop := ∃ ρ' h', VS ρ h ρ' h' ∧ NH ts Q e ρ' h'
theorem AO {ts : List Tmp} {Q : AE → H → Prop} {e : Exit} {ρ ρ' : Env} {h h' : H} (v : VS ρ h ρ' h') (hq : NH ts Q e ρ' h') : fW ts Q e ρ h := ⟨ρ', h', v, hq⟩
theorem CY {ts : List Tmp} {Q : AE → H → Prop} {e : Exit} {ρ : Env} {h : H} (hq : NH ts Q e ρ h) : fW ts Q e ρ h := ⟨ρ, h, VS.of_le (Env.le_refl _), hq⟩
theorem AK {P : Program} {G : List (Nat × List D)} {f : FuncId} {fn : Func} {c : Code} {args : List AV} {h : H} {Q : AE → H → Prop} {ts : List Tmp} (n : Nat) (hf : P.funcs[f]? = some fn) (hb : fn.body = some c) (hn : fn.ntmps = n) (hr : fn.results = (ts.map ResultVar.tmp).toArray) (ha : args.length ≤ n)
 (hj : ∀ W I, J ⟨P, ⟨W, I, blks h, G⟩, n, []⟩ c (fW ts Q) (Ch 0 args) h) : AC P G f args h Q := by
 refine Dd n hf hb hn hr ha fun W I => ?_
 intro I' a w h1 h2 h3
 refine wp_mono (hj W I I' a w h1 h2 h3) ?_
 rintro e a' w' ⟨I'', ρ, hh, k1, k2, k3, ρ', hh', v, q⟩
 obtain ⟨I3, m1, m2⟩ := v _ _ _ _ _ k1 k2
 exact ⟨I3, ρ', hh', m1, m2, k3, q⟩

section
variable {k : Kx} {Q : Exit → Env → H → Prop} {ρ ρ' : Env} {h h1 h2 : H} {ops : Array Oper} {l : List Oper} {d : Nat} {dst : Option Tmp} {ty : TypeId} {pos : String} {after : Array Edge} {g : Option (Nat × Bool)}

theorem Mt {α : Type} (f : α → List D) (xs ys : List α) : ((xs.map f).flatten.map D.av) ++ ((ys.map f).flatten.map D.av) = (((xs ++ ys).map f).flatten.map D.av) := by simp

theorem Ci {α : Type} {f : α → List D} {xs : List α} {t : Nat} {v : Value} {E : TypeId} {sz eb : Nat} (ht : FV ρ t = some (.val v)) (h0 : Nat.blt 0 sz = true) (hsz : ∀ x, (f x).length = sz) (hb : xs.length * eb ≤ 140737488355328) :
 VS ρ (AF v E sz f xs :: h) ((t, .d (.l sz eb (xs.map f))) :: ρ) h :=
 VS.freeze (h1 := []) (rows := xs.map f) (blt h0) (A9 ht) rfl (by simp) (fun r hr => by obtain ⟨x, _, rfl⟩ := List.mem_map.1 hr; exact hsz x) hb
theorem FQ {α : Type} {E : TypeId} {sz : Nat} (f : α → List D) {x : Code} (hj : J k x Q ρ (AF (.slice none 0 0) E sz f [] :: h)) : J k x Q ρ h := Rh (VS.nilrow E sz) hj

theorem Ft {t : Nat} (sz eb : Nat) (ht : FV ρ t = some (.val (.slice none 0 0))) : VS ρ h ((t, .d (.l sz eb [])) :: ρ) h :=
 VS.of_le (Env.le_cons (by rw [A9 ht]; exact AV.le_nil sz eb) (Env.le_refl _))
theorem Iu {T E : TypeId} {x : Operand} {r : AV} {z : Value} {sz eb : Nat} {row : List D} (hT : k.P.underlying T = some (.slice E)) (he : El k.P E z sz eb) (h0 : 0 < sz) (hx : evO ρ x = some r) (hs : r.stor = true) (hr : r.cl = row.map D.av) (hsz : row.length = sz) (hb : eb ≤ 140737488355328) (hc : sz ≤ 16777216)
 (hd : Nat.blt d k.n = true) (hj : JL k ops l Q ((d, .d (.l sz eb [row])) :: ρ) h) : JL k ops (⟨some d, .buildSlice T 1 #[(0, x)], ty, pos, after, none⟩ :: l) Q ρ h :=
 C2 (xs := [x]) (rows := [row]) hT he h0 rfl rfl (by simp [AA hx, hr]) (by simpa [AA hx] using hs) (by simpa using hsz) (by simpa using hb) (by simpa using hc) (fun t ht => by cases ht; exact blt hd) hj
theorem Sm {T E : TypeId} {x : Operand} {n : Int} {z : Value} {eb : Nat} (hx : evO ρ x = some (.int n)) (hT : k.P.underlying T = some (.slice E)) (he : El k.P E z 1 eb) (hb : Nat.ble eb 1000000 = true)
 (hd : Nat.blt d k.n = true) (hj : JL k ops l Q ((d, .d (.l 1 eb [[.i .i64 n]])) :: ρ) h) : JL k ops (⟨some d, .buildSlice T 1 #[(0, x)], ty, pos, after, none⟩ :: l) Q ρ h :=
 Iu hT he (by decide) hx rfl rfl rfl (Nat.le_trans (Nat.le_of_ble_eq_true hb) (by decide)) (by decide) hd hj
theorem Ry {T E : TypeId} {x : Operand} {sz' eb' : Nat} {rows : List (List D)} {z : Value} {eb : Nat} (hx : evO ρ x = some (.d (.l sz' eb' rows))) (hT : k.P.underlying T = some (.slice E)) (he : El k.P E z 1 eb) (hb : Nat.ble eb 1000000 = true)
 (hd : Nat.blt d k.n = true) (hj : JL k ops l Q ((d, .d (.l 1 eb [[.l sz' eb' rows]])) :: ρ) h) : JL k ops (⟨some d, .buildSlice T 1 #[(0, x)], ty, pos, after, none⟩ :: l) Q ρ h :=
 Iu hT he (by decide) hx rfl rfl rfl (Nat.le_trans (Nat.le_of_ble_eq_true hb) (by decide)) (by decide) hd hj
theorem Kf (cs : List D) : (cs.map D.av).all AV.flat = true := by simp [D.av_flat]
theorem Ar {T E : TypeId} {x : Operand} {cs : List D} {z : Value} {sz eb : Nat} (hx : evO ρ x = some (.agg (cs.map D.av))) (hT : k.P.underlying T = some (.slice E)) (he : El k.P E z sz eb) (hsz : cs.length = sz) (h0 : Nat.blt 0 sz = true) (hb : Nat.ble eb 1000000 = true) (hc : Nat.ble sz 1000000 = true)
 (hd : Nat.blt d k.n = true) (hj : JL k ops l Q ((d, .d (.l sz eb [cs])) :: ρ) h) : JL k ops (⟨some d, .buildSlice T 1 #[(0, x)], ty, pos, after, none⟩ :: l) Q ρ h :=
 Iu hT he (blt h0) hx (Kf cs) rfl hsz (Nat.le_trans (Nat.le_of_ble_eq_true hb) (by decide)) (Nat.le_trans (Nat.le_of_ble_eq_true hc) (by decide)) hd hj

theorem TZ {T E : TypeId} {x : Operand} {a b : Int} {z : Value} {eb : Nat} (hx : evO ρ x = some (.agg [.int a, .int b])) (hT : k.P.underlying T = some (.slice E)) (he : El k.P E z 2 eb) (hb : Nat.ble eb 1000000 = true)
 (hd : Nat.blt d k.n = true) (hj : JL k ops l Q ((d, .d (.l 2 eb [[.i .i64 a, .i .i64 b]])) :: ρ) h) : JL k ops (⟨some d, .buildSlice T 1 #[(0, x)], ty, pos, after, none⟩ :: l) Q ρ h :=
 Iu hT he (by decide) hx rfl rfl rfl (Nat.le_trans (Nat.le_of_ble_eq_true hb) (by decide)) (by decide) hd hj
end

section
variable {P : Program} {G : List (Nat × List D)} {ρ : Env} {h : H} {dst : Option Tmp} {ty : TypeId} {pos : String} {after : Array Edge} {g : Option (Nat × Bool)}
theorem NG {α : Type} {f : α → List D} {xs : List α} {T E : TypeId} {x lo : Operand} {sz eb : Nat} {m : Int} {z : Value} {eb' : Nat} (hx : evO ρ x = some (.d (.l sz eb (xs.map f)))) (hlo : evO ρ lo = some (.int m)) (hT : P.underlying T = some (.slice E)) (hE : El P E z sz eb')
 (h0 : 0 ≤ m) (h2 : m ≤ xs.length) : Pure P G ⟨dst, .slice T x (some lo) none none, ty, pos, after, g⟩ ρ h (.d (.l sz eb ((xs.drop m.toNat).map f))) := by
 rw [List.map_drop]
 exact Kw hT hE (AA hx) (AA hlo) h0 (by rwa [List.length_map])
theorem Qc {α : Type} {f : α → List D} {xs : List α} {T E : TypeId} {x hi : Operand} {sz eb : Nat} {n : Int} {z : Value} {eb' : Nat} (hx : evO ρ x = some (.d (.l sz eb (xs.map f)))) (hhi : evO ρ hi = some (.int n)) (hT : P.underlying T = some (.slice E)) (hE : El P E z sz eb')
 (h0 : 0 ≤ n) (h2 : n ≤ xs.length) : Pure P G ⟨dst, .slice T x none (some hi) none, ty, pos, after, g⟩ ρ h (.d (.l sz eb ((xs.take n.toNat).map f))) := by
 rw [List.map_take]
 exact M0 hT hE (AA hx) (AA hhi) h0 (by rwa [List.length_map])
end
section
variable {P : Program} {G : List (Nat × List D)} {ρ : Env} {h : H} {dst : Option Tmp} {ty : TypeId} {pos : String} {after : Array Edge} {g : Option (Nat × Bool)}
theorem RP {T : TypeId} {x : Operand} {cs : List D} {z : Value} {sz eb : Nat} (hT : A0 P T = some true) (hx : ev ρ x = .pd cs) (hE : El P T z sz eb) (hn : sz = cs.length) : Pure P G ⟨dst, .load T x, ty, pos, after, g⟩ ρ h (.agg (cs.map D.av)) :=
 Mz hT hE hx (by rw [hn, List.take_length]) hn
def Eq2 (P : Program) (T : TypeId) : Prop := P.eqGuardType P.depth T = false ∧ ∀ (a b c d : Int) w, (Op.equalIn 10000 T (.agg #[.int .i64 a, .int .i64 b]) (.agg #[.int .i64 c, .int .i64 d])).run P w = .ok (a == c && b == d) w
end

section
variable {k : Kx} {Q : Exit → Env → H → Prop} {ρ ρ' : Env} {h h' h1 h2 : H} {ops : Array Oper} {l : List Oper} {d : Nat} {dst : Option Tmp} {ty : TypeId} {pos : String} {after : Array Edge} {g : Option (Nat × Bool)}
open Classical in
theorem AL {X : Type} {x : Code} (S : X → Env) (G : X → H) (Inv : X → Prop) (μ : X → Nat) (x0 : X) (h0 : Inv x0) (hv : VS ρ h (S x0) (G x0))
 (round : ∀ y, Inv y → J k x (JW (fun ρ' h' => ∃ y', Inv y' ∧ μ y' < μ y ∧ VS ρ' h' (S y') (G y')) Q) (S y) (G y)) : J k (.loop x) Q ρ h := by
 intro I a w h1 h2 h3
 let fits (a : Act) (w : World) (y : X) : Prop := Inv y ∧ ∃ I, Ok k.c I (G y) w ∧ SF k.n w I (S y) a ∧ a.defers = k.df
 let has (a : Act) (w : World) (m : Nat) : Prop := ∃ y, fits a w y ∧ μ y = m
 let M (a : Act) (w : World) : Nat := if hx : ∃ m, has a w m then Classical.choose (least hx) else 0
 have hM : ∀ a w y, fits a w y → M a w ≤ μ y ∧ ∃ z, fits a w z ∧ μ z = M a w := by
  intro a w y hy
  have hx : ∃ m, has a w m := ⟨μ y, y, hy, rfl⟩
  have hd : M a w = Classical.choose (least hx) := by simp only [M, dif_pos hx]
  have hs := Classical.choose_spec (least hx)
  exact ⟨by rw [hd]; exact hs.2 _ ⟨y, hy, rfl⟩, by rw [hd]; exact hs.1⟩
 obtain ⟨I0, m1, m2⟩ := hv _ _ _ _ _ h1 h2
 refine wp_loop (fun a w => ∃ y, fits a w y) M ⟨x0, h0, I0, m1, m2, h3⟩ ?_
 rintro a w ⟨y, hy⟩
 obtain ⟨_, z, ⟨hz1, I', hz2, hz3, hz4⟩, hz⟩ := hM a w y hy
 refine wp_mono (round z hz1 I' a w hz2 hz3 hz4) ?_
 rintro e a' w' ⟨I, ρ1, h1, k1, k2, k3, k4⟩
 cases e with
 | normal =>
   obtain ⟨y', i1, i2, v⟩ := k4
   obtain ⟨I2, n1, n2⟩ := v _ _ _ _ _ k1 k2
   have hy' : fits a' w' y' := ⟨i1, I2, n1, n2, k3⟩
   exact ⟨⟨y', hy'⟩, Nat.lt_of_le_of_lt (hM a' w' y' hy').1 (hz ▸ i2)⟩
 | _ => exact ⟨I, ρ1, h1, k1, k2, k3, k4⟩

theorem vle (hs : List.Sublist h' h) (hle : Env.le ρ ρ') : VS ρ h ρ' h' := VS.trans (VS.drop hs) (VS.of_le hle)
theorem bA {T : TypeId} {z : Value} {sz eb : Nat} (hz : El k.P T z sz eb) (hd : Nat.blt d k.n = true)
 (hj : All fun b => JL k ops l Q ((d, .val (.pointer (some ⟨b, 0, none⟩))) :: ρ) (.cells b T (z.cells.toList.map AV.val) :: h)) : JL k ops (⟨some d, .alloc T, ty, pos, after, none⟩ :: l) Q ρ h :=
 QZ hz (fun t ht => by cases ht; exact blt hd) hj.get
theorem gF {T : TypeId} {x : Operand} {cs : List AV} (hx : evO ρ x = some (.agg cs)) (hs : cs.all AV.flat = true) (hd : Nat.blt d k.n = true)
 (hj : All fun b => JL k ops l Q ((d, .val (.pointer (some ⟨b, 0, none⟩))) :: ρ) (.cells b T cs :: h)) : JL k ops (⟨some d, .box T x, ty, pos, after, none⟩ :: l) Q ρ h := gY hx hs hd hj.get
theorem fv {T : TypeId} {x : Operand} {r : AV} (hx : evO ρ x = some r) (hs : r.flat = true) (hd : Nat.blt d k.n = true)
 (hj : All fun b => JL k ops l Q ((d, .val (.pointer (some ⟨b, 0, none⟩))) :: ρ) (.cells b T [r] :: h)) : JL k ops (⟨some d, .box T x, ty, pos, after, none⟩ :: l) Q ρ h := by
 have hcl : r.cl = [r] := by cases r <;> first | rfl | cases hs
 have hst : r.stor = true := by cases r <;> first | exact hs | cases hs
 exact ZE (AA hx) hst (fun t ht => by cases ht; exact blt hd) fun b => by rw [hcl]; exact hj.get b
end
section
variable {P : Program} {G : List (Nat × List D)} {ρ : Env} {h : H} {dst : Option Tmp} {ty : TypeId} {pos : String} {after : Array Edge} {g : Option (Nat × Bool)}
theorem JK {T T0 : TypeId} {x : Operand} {b off : Nat} {vs : List AV} {z : Value} {sz eb : Nat} (hT : A0 P T = some true) (hx : evO ρ x = some (.val (.pointer (some ⟨b, off, none⟩)))) (hE : El P T z sz eb) (hh : Ent.cells b T0 vs ∈ h) (hn : Nat.ble (off + sz) vs.length = true) :
 Pure P G ⟨dst, .load T x, ty, pos, after, g⟩ ρ h (.agg ((vs.drop off).take sz)) := Hx hT hE (AA hx) hh (Nat.le_of_ble_eq_true hn)
end

def Bor (h : H) (x y : AV) : Prop := ∀ c I w v, Ok c I h w → AV.rel w I x v → AV.rel w (fun b => I b ∨ b ∈ blks h) y v
def XF (h : H) (x : AV) (d : D) : Prop := ∀ c I w v, Ok c I h w → AV.rel w I x v → Rel w (fun b => I b ∨ b ∈ blks h) d v
def bU (h : H) : List AV → List AV → Prop
 | [], [] => True
 | x :: xs, y :: ys => Bor h x y ∧ bU h xs ys
 | _, _ => False
def fL (h : H) : List AV → List D → Prop
 | [], [] => True
 | x :: xs, y :: ys => XF h x y ∧ fL h xs ys
 | _, _ => False
theorem F6 (h : H) (d : D) : XF h (.d d) d := fun _ _ _ _ _ hr => Rel.mono (fun _ _ => rfl) (fun _ h => .inl h) hr
theorem YQ (h : H) (n : Int) : XF h (.int n) (.i .i64 n) := fun _ _ _ _ _ hr => by cases hr; exact .i _ _
theorem Qd {h : H} {c : Cx} {I : Nat → Prop} {w : World} (k : Ok c I h w) : ∀ {xs ys : List AV} {vs : List Value}, bU h xs ys → AV.rels w I xs vs → AV.rels w (fun b => I b ∨ b ∈ blks h) ys vs
 | [], [], [], _, _ => trivial
 | _ :: _, _ :: _, _ :: _, ⟨h1, h2⟩, ⟨h3, h4⟩ => ⟨h1 _ _ _ _ k h3, Qd k h2 h4⟩
theorem QL {h : H} {c : Cx} {I : Nat → Prop} {w : World} (k : Ok c I h w) : ∀ {xs : List AV} {ds : List D} {vs : List Value}, fL h xs ds → AV.rels w I xs vs → ∀ (u : Nat) (d : D), ds[u]? = some d → ∃ v, vs[u]? = some v ∧ Rel w (fun b => I b ∨ b ∈ blks h) d v
 | [], [], _, _, _, u, d, hd => by simp at hd
 | x :: xs, y :: ys, v :: vs, ⟨h1, h2⟩, ⟨h3, h4⟩, u, d, hd => by
   cases u with
   | zero => simp at hd; subst hd; exact ⟨v, rfl, h1 _ _ _ _ k h3⟩
   | succ u => simpa using QL k h2 h4 u d (by simpa using hd)
theorem Ac {h : H} {b : Nat} {T : TypeId} {vs : List AV} {ds : List D} (hm : Ent.cells b T vs ∈ h) (hb : fL h vs ds) : Bor h (.val (.pointer (some ⟨b, 0, none⟩))) (.pd ds) := by
 intro c I w v k hr
 obtain rfl : v = _ := hr
 obtain ⟨cs, hc1, hc2⟩ := k.ent _ hm
 refine ⟨_, rfl, .inr (Ct hm rfl), fun u x hx => ?_⟩
 obtain ⟨v, hv, hrv⟩ := QL k hb hc2 u x hx
 refine ⟨v, ?_, hrv⟩
 rw [Addr.add_lit, Nat.zero_add, cell_of_row w b u cs T (0, 0) hc1]
 simpa using hv
theorem aA {h : H} {b n : Nat} {E : TypeId} {vs : List AV} {sz eb : Nat} {rows : List (List D)} (hm : Ent.cells b E vs ∈ h) (h0 : 0 < sz) (hv : vs = rows.flatten.map D.av) (hn : rows.length = n) (hsz : ∀ r ∈ rows, r.length = sz) (hb : n * eb ≤ 140737488355328) (hx : n ≤ maxLen) :
 XF h (.val (.slice (some ⟨b, 0, none⟩) n n)) (.l sz eb rows) := by
 intro c I w v k hr
 obtain rfl : v = _ := hr
 subst hv; subst hn
 obtain ⟨cs, hc1, hc2⟩ := k.ent _ hm
 have hcell : ∀ q x, rows.flatten[q]? = some x → ∃ c, w.cell? ((⟨b, 0, none⟩ : Addr).add q) = some c ∧ Rel w I x c := fun q x hx => by
  obtain ⟨c, hc3, hc4⟩ := AV.rels_get hc2 q x.av (by rw [List.getElem?_map, hx]; rfl)
  refine ⟨c, ?_, D.av_rel' hc4⟩
  rw [Addr.add_lit, Nat.zero_add, cell_of_row w b q cs E (0, 0) hc1]
  simpa using hc3
 have hq : ∀ (j u : Nat) (r : List D) (x : D), rows[j]? = some r → r[u]? = some x → rows.flatten[j * sz + u]? = some x := fun j u r x hr hx => by
  have hu : u < sz := by
   have := (List.getElem?_eq_some_iff.1 hx).1
   rwa [hsz r (List.mem_of_getElem? hr)] at this
  rw [CP h0 rows hsz, Nat.add_comm, Nat.add_mul_div_right _ _ h0, Nat.add_mul_mod_self_right, Nat.div_eq_of_lt hu, Nat.mod_eq_of_lt hu, Nat.zero_add, hr]
  exact hx
 refine Rel.l sz eb rows ⟨b, 0, none⟩ rows.length (fun j u => (w.cell? ((⟨b, 0, none⟩ : Addr).add (j * sz + u))).getD undef) (.inr (Ct hm rfl)) (Nat.le_refl _) hx hb hsz (fun j u r x hr hx => ?_) (fun j u r x hr hx => ?_)
 · obtain ⟨c, hc3, _⟩ := hcell _ x (hq j u r x hr hx)
   simp only [hc3, Option.getD_some]
 · obtain ⟨c, hc3, hc4⟩ := hcell _ x (hq j u r x hr hx)
   simp only [hc3, Option.getD_some]
   exact hc4.mono (fun _ _ => rfl) fun _ h => .inl h

theorem AC.borrow {P : Program} {G : List (Nat × List D)} {f : FuncId} {xs args : List AV} {v : Value} {h : H} (hac : ACr P G f args (.val v)) (hb : bU h xs args) {c : Cx} {I : Nat → Prop} {w : World} (k : Ok c I h w) (hG : c.G = G) {vs : List Value} (hr : AV.rels w I xs vs) :
 Calls P f vs.toArray w fun e w' => e = .returned v ∧ Ev I h w w' := by
 refine (hac (fun b => I b ∨ b ∈ blks h) w vs (by simp) (by simp [blks]) (fun b hb' => ⟨?_, by simp [blks]⟩) (fun q hq => (k.glob q (by rw [hG]; exact hq)).mono (fun _ _ => rfl) fun _ h => .inl h) (Qd k hb hr)).mono ?_
 · rcases hb' with hb' | hb'
   · exact (k.imm b hb').1
   · obtain ⟨e, he, heb⟩ := List.mem_filterMap.1 hb'
     exact Ent.blk_lt (k.ent e he) heb
 · rintro e w' ⟨r, h', I', ⟨rfl, rfl⟩, hok', hrel⟩
   cases e with
   | returned u =>
     obtain rfl : u = v := hrel
     exact ⟨rfl, hok'.os, hok'.tape, hok'.output, hok'.size, fun b hb => hok'.keep b hb (by simp [blks])⟩
   | panicked ch => exact hrel.elim
   | outgrown => exact hrel.elim

theorem Gp {P : Program} {a : Act} {dst : Option Tmp} {x : Operand} {xs : Array Operand} {ats : Array TypeId} {ty : TypeId} {pos : String} {after : Array Edge} {g : Option (Nat × Bool)} {f : FuncId} {caps : Array Value} (hx : a.eval x = .func (.func f) #[] caps) (w : World) :
 (execOp a.eval ⟨dst, .call { callee := .value x, args := xs, argTypes := ats }, ty, pos, after, g⟩).run P w = (callFunc f ((xs.toList.map a.eval ++ caps.toList).toArray)).run P w := by
 simp [execOp, resolve, hx, Deferred.ofValue, invoke]
 congr 2
 apply Array.ext'; simp

theorem IK (w : World) (I : Nat → Prop) : ∀ vs : List Value, AV.rels w I (vs.map AV.val) vs
 | [] => trivial
 | _ :: vs => ⟨rfl, IK w I vs⟩
section
variable {k : Kx} {Q : Exit → Env → H → Prop} {ρ ρ' : Env} {h h' : H} {ops : Array Oper} {l : List Oper} {d tn : Nat} {ty : TypeId} {pos : String} {after : Array Edge}
theorem Dg {f : FuncId} {x : Operand} {xs : Array Operand} {ats : Array TypeId} {caps : Array Value} {es args : List AV} {v : Value} (hf : evO ρ x = some (.val (.func (.func f) #[] caps))) (hxs : Jz ρ xs.toList = some es) (hcal : Cal k.P f) (hac : ACr k.P k.c.G f args (.val v)) (hb : bU h (es ++ caps.toList.map AV.val) args) (hd : Nat.blt d k.n = true)
 (hj : JQ k ops tn l Q ((d, .val v) :: ρ) h) : JQ k ops (tn + 1) (⟨some d, .call { callee := .value x, args := xs, argTypes := ats }, ty, pos, after, none⟩ :: l) Q ρ h := by
 intro I a w h1 h2 h3
 rw [List.take_succ_cons]
 unfold wpQuiet
 rw [if_pos (by simp [Region.wanted])]
 refine ⟨v, fun w' hw' => ?_, hj I _ w h1 (h2.put (fun t ht => by cases ht; exact blt hd) (r := .val v) rfl) (by rw [Act.defers_put]; exact h3)⟩
 unfold Oper.quietAt
 rw [Gp (AI (h2.ev x) (AA hf)), hcal]
 refine ⟨rfl, ?_⟩
 have h1' := h1.same hw'
 have h2' := SF.same h1 hw' h2
 have hr : AV.rels w' I (es ++ caps.toList.map AV.val) (xs.toList.map a.eval ++ caps.toList) := AV.rels_append (by rw [← DR hxs]; exact FZ h2' xs.toList) (IK w' I _)
 refine (AC.borrow hac hb h1' rfl hr).mono ?_
 rintro e w'' ⟨rfl, hs⟩
 exact ⟨rfl, hw'.trans hs⟩
end
section
variable {P : Program} {G : List (Nat × List D)} {ρ : Env} {h : H} {dst : Option Tmp} {ty : TypeId} {pos : String} {after : Array Edge} {g : Option (Nat × Bool)}
theorem ZW {f : FuncId} {x y : Operand} {u v : Value} (hx : evO ρ x = some (.val u)) (hy : evO ρ y = some (.val v)) : Pure P G ⟨dst, .makeFunc (.func f) #[] #[x, y], ty, pos, after, g⟩ ρ h (.val (.func (.func f) #[] #[u, v])) :=
 AZ fun w I _ a hs => ⟨_, rfl, fun w' => by
  have e1 := AI (hs.ev x) (AA hx)
  have e2 := AI (hs.ev y) (AA hy)
  simp [execOp, Instr.makeFunc, e1, e2]⟩
theorem ZV {f : FuncId} {x y z : Operand} {u v t : Value} (hx : evO ρ x = some (.val u)) (hy : evO ρ y = some (.val v)) (hz : evO ρ z = some (.val t)) : Pure P G ⟨dst, .makeFunc (.func f) #[] #[x, y, z], ty, pos, after, g⟩ ρ h (.val (.func (.func f) #[] #[u, v, t])) :=
 AZ fun w I _ a hs => ⟨_, rfl, fun w' => by
  have e1 := AI (hs.ev x) (AA hx)
  have e2 := AI (hs.ev y) (AA hy)
  have e3 := AI (hs.ev z) (AA hz)
  simp [execOp, Instr.makeFunc, e1, e2, e3]⟩
end
end Go.Av
