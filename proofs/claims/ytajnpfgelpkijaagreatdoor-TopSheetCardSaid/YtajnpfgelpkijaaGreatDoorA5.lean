/- A bundle of this claim's own texts: G3 G4 E7 E8 G8 Sg G22 E14 G20 G21 Q1 E11. -/
import Derived.Laws.Cover3
import Derived.Sort.OwnSortedInts
import Derived.Lib.SlicesCompact
import Derived.Test.YtajnpfgelpkijaaGreatDoorA2
import Derived.Test.YtajnpfgelpkijaaGreatDoorA3
import Derived.Test.YtajnpfgelpkijaaGreatDoorA4
set_option linter.unusedVariables false
set_option linter.unusedSimpArgs false
set_option maxRecDepth 100000
set_option maxHeartbeats 4000000
namespace Go.Sp
open Go Go.Av

structure Vr where
 name : ByteArray
 low : Int
 high : Int
 init : Int
def Vr.cells (v : Vr) : List D := [.s v.name, .i .i64 v.low, .i .i64 v.high, .i .i64 v.init]
abbrev Ba (l : List Vr) : D := .l 4 40 (l.map Vr.cells)
structure St where
 var : Int
 val : List Fo
def St.cells (s : St) : List D := [.i .i64 s.var, AN s.val]
abbrev Kc (l : List St) : D := .l 2 32 (l.map St.cells)
structure Ru where
 guard : List Fo
 sets : List St
def Ru.cells (r : Ru) : List D := [AN r.guard, Kc r.sets]
abbrev BH (l : List Ru) : D := .l 2 48 (l.map Ru.cells)
structure Md where
 vars : List Vr
 rules : List Ru
abbrev mdA (m : Md) : AV := .agg [.d (Ba m.vars), .d (BH m.rules)]

def NL (i : Nat) (c : UInt8) : Prop := (97 ≤ c.toNat ∧ c.toNat ≤ 122) ∨ (48 ≤ c.toNat ∧ c.toNat ≤ 57 ∧ i ≠ 0)
instance (i : Nat) (c : UInt8) : Decidable (NL i c) := by unfold NL; infer_instance
abbrev gv : ByteArray := ⟨#[121, 101, 115]⟩
abbrev noS : ByteArray := ⟨#[110, 111]⟩
def Bl (s : ByteArray) : Prop := (1 ≤ s.data.toList.length ∧ s.data.toList.length ≤ 8) ∧ s ≠ gv ∧ s ≠ noS ∧ ∀ (i : Nat) (h : i < s.data.toList.length), NL i s.data.toList[i]
noncomputable instance (s : ByteArray) : Decidable (Bl s) := Classical.propDecidable _

noncomputable instance (a : ByteArray) (l : List ByteArray) : Decidable (a ∈ l) := Classical.propDecidable _
def A6 (v : Vr) : Int := v.high - v.low + 1
def DC (v : Vr) : Prop := -1000 ≤ v.low ∧ v.high ≤ 1000 ∧ v.low ≤ v.high ∧ v.low ≤ v.init ∧ v.init ≤ v.high
instance (v : Vr) : Decidable (DC v) := by unfold DC; infer_instance
noncomputable def EE : List Vr → List ByteArray → Int → Int
 | [], _, _ => 0
 | v :: l, seen, n =>
   if ¬ Bl v.name then 6 else if v.name ∈ seen then 7 else if ¬ DC v then 2 else if 64 < A6 v then 1 else if 4096 < n * A6 v then 1 else EE l (seen ++ [v.name]) (n * A6 v)
noncomputable def ED (l : List Vr) : Int := if 6 < l.length then 1 else EE l [] 1
theorem X0 (l : List Vr) (i : Nat) (h : i < l.length) (seen : List ByteArray) (n : Int) : EE (l.drop i) seen n =
 if ¬ Bl l[i].name then 6 else if l[i].name ∈ seen then 7 else if ¬ DC l[i] then 2 else if 64 < A6 l[i] then 1 else if 4096 < n * A6 l[i] then 1 else EE (l.drop (i + 1)) (seen ++ [l[i].name]) (n * A6 l[i]) := by
 rw [List.drop_eq_getElem_cons h, EE]
theorem WD (l : List Vr) (i : Nat) (h : l.length ≤ i) (seen : List ByteArray) (n : Int) : EE (l.drop i) seen n = 0 := by rw [List.drop_of_length_le h, EE]

noncomputable def CF (l : List Fo) (vars : Int) (IG : Bool) : Int := if (Cn l vars).2 ≠ 0 then (Cn l vars).2 else if (Cn l vars).1 ≠ IG then 5 else 0
noncomputable def Er (vars : Int) : List St → List Int → Int
 | [], _ => 0
 | s :: l, seen => if ¬ (0 ≤ s.var ∧ s.var < vars) then 2 else if s.var ∈ seen then 7 else if CF s.val vars false ≠ 0 then CF s.val vars false else Er vars l (seen ++ [s.var])
noncomputable def DZ (r : Ru) (vars : Int) : Int := if 6 < r.sets.length then 1 else if CF r.guard vars true ≠ 0 then CF r.guard vars true else Er vars r.sets []
theorem YD (vars : Int) (l : List St) (i : Nat) (h : i < l.length) (seen : List Int) : Er vars (l.drop i) seen =
 if ¬ (0 ≤ l[i].var ∧ l[i].var < vars) then 2 else if l[i].var ∈ seen then 7 else if CF l[i].val vars false ≠ 0 then CF l[i].val vars false else Er vars (l.drop (i + 1)) (seen ++ [l[i].var]) := by
 rw [List.drop_eq_getElem_cons h, Er]
theorem Wj (vars : Int) (l : List St) (i : Nat) (h : l.length ≤ i) (seen : List Int) : Er vars (l.drop i) seen = 0 := by rw [List.drop_of_length_le h, Er]
noncomputable def DU (vars : Int) : List Ru → Int
 | [] => 0
 | r :: l => if DZ r vars ≠ 0 then DZ r vars else DU vars l
theorem VJ (vars : Int) (l : List Ru) (i : Nat) (h : i < l.length) : DU vars (l.drop i) = if DZ l[i] vars ≠ 0 then DZ l[i] vars else DU vars (l.drop (i + 1)) := by
 rw [List.drop_eq_getElem_cons h, DU]
theorem Sb (vars : Int) (l : List Ru) (i : Nat) (h : l.length ≤ i) : DU vars (l.drop i) = 0 := by rw [List.drop_of_length_le h, DU]
noncomputable def Ah (m : Md) : Int := if ED m.vars ≠ 0 then ED m.vars else if 12 < m.rules.length then 1 else DU m.vars.length m.rules

noncomputable def Cm (vars : Int) : List (List Fo) → Int
 | [] => 0
 | p :: l => if CF p vars true ≠ 0 then CF p vars true else Cm vars l
theorem XD (vars : Int) (l : List (List Fo)) (i : Nat) (h : i < l.length) : Cm vars (l.drop i) = if CF l[i] vars true ≠ 0 then CF l[i] vars true else Cm vars (l.drop (i + 1)) := by
 rw [List.drop_eq_getElem_cons h, Cm]
theorem Sv (vars : Int) (l : List (List Fo)) (i : Nat) (h : l.length ≤ i) : Cm vars (l.drop i) = 0 := by rw [List.drop_of_length_le h, Cm]
noncomputable def CS (m : Md) (l : List (List Fo)) : Int := if Ah m ≠ 0 then Ah m else if 6 < l.length then 1 else Cm m.vars.length l

def AR : List Vr → Int
 | [] => 1
 | v :: l => A6 v * AR l
theorem EO : ∀ a b : List Vr, AR (a ++ b) = AR a * AR b
 | [], b => by simp [AR]
 | v :: a, b => by simp only [List.cons_append, AR, EO a b, Int.mul_assoc]
structure Ui (l : List Vr) : Prop where
 range : ∀ v ∈ l, DC v
 span : ∀ v ∈ l, 1 ≤ A6 v ∧ A6 v ≤ 64
 all : AR l ≤ 4096
theorem Dt : ∀ {l : List Vr}, (∀ v ∈ l, 1 ≤ A6 v) → 1 ≤ AR l
 | [], _ => by simp [AR]
 | v :: l, h => by
   have h1 := h v List.mem_cons_self
   have h2 := Dt fun w hw => h w (List.mem_cons_of_mem v hw)
   simp only [AR]
   exact Int.le_trans (by omega) (Int.mul_le_mul h1 h2 (by omega) (by omega))
theorem Ui.take {l : List Vr} (g : Ui l) (i : Nat) : 1 ≤ AR (l.take i) ∧ AR (l.take i) ≤ 4096 ∧ 1 ≤ AR (l.drop i) ∧ AR (l.drop i) ≤ 4096 := by
 have e : AR l = AR (l.take i) * AR (l.drop i) := by rw [← EO, List.take_append_drop]
 have h1 : 1 ≤ AR (l.take i) := Dt fun v hv => (g.span v (List.mem_of_mem_take hv)).1
 have h2 : 1 ≤ AR (l.drop i) := Dt fun v hv => (g.span v (List.mem_of_mem_drop hv)).1
 have h3 := g.all
 have h4 : AR (l.take i) * 1 ≤ AR (l.take i) * AR (l.drop i) := Int.mul_le_mul_of_nonneg_left h2 (by omega)
 have h5 : 1 * AR (l.drop i) ≤ AR (l.take i) * AR (l.drop i) := Int.mul_le_mul_of_nonneg_right h1 (by omega)
 omega
theorem Lu : ∀ (l : List Vr) (seen : List ByteArray) (n : Int), 1 ≤ n → n ≤ 4096 → EE l seen n = 0 → (∀ v ∈ l, DC v ∧ A6 v ≤ 64) ∧ n * AR l ≤ 4096
 | [], _, n, _, h, _ => ⟨by simp, by simp [AR]; omega⟩
 | v :: l, seen, n, h1, h2, h => by
   rw [EE] at h
   by_cases c1 : ¬ Bl v.name
   · rw [if_pos c1] at h; cases h
   rw [if_neg c1] at h
   by_cases c2 : v.name ∈ seen
   · rw [if_pos c2] at h; cases h
   rw [if_neg c2] at h
   by_cases c3 : ¬ DC v
   · rw [if_pos c3] at h; cases h
   rw [if_neg c3] at h
   by_cases c4 : 64 < A6 v
   · rw [if_pos c4] at h; cases h
   rw [if_neg c4] at h
   by_cases c5 : 4096 < n * A6 v
   · rw [if_pos c5] at h; cases h
   rw [if_neg c5] at h
   have hr := Decidable.not_not.1 c3
   have hs : 1 ≤ A6 v := by unfold A6; have := hr.2.2.1; omega
   have hp : 1 ≤ n * A6 v := Int.le_trans (by omega) (Int.mul_le_mul h1 hs (by omega) (by omega))
   obtain ⟨i1, i2⟩ := Lu l _ _ hp (by omega) h
   refine ⟨fun w hw => ?_, ?_⟩
   · rcases List.mem_cons.1 hw with rfl | hw
     · exact ⟨hr, by omega⟩
     · exact i1 w hw
   · rw [AR, ← Int.mul_assoc]; exact i2
theorem KW {l : List Vr} (h : ED l = 0) : Ui l := by
 unfold ED at h
 by_cases c : 6 < l.length
 · rw [if_pos c] at h; cases h
 rw [if_neg c] at h
 obtain ⟨h1, h2⟩ := Lu l [] 1 (by decide) (by decide) h
 exact ⟨fun v hv => (h1 v hv).1, fun v hv => ⟨by unfold A6; have := (h1 v hv).1.2.2.1; omega, (h1 v hv).2⟩, by simpa using h2⟩
theorem BP {m : Md} (h : Ah m = 0) : ED m.vars = 0 := by
 unfold Ah at h
 by_cases c : ED m.vars ≠ 0
 · rw [if_pos c] at h; exact absurd h c
 · omega
noncomputable def Ir (m : Md) : Int × Int := if Ah m ≠ 0 then (0, Ah m) else (AR m.vars, 0)
theorem Gc (l : List Vr) (i : Nat) (h : i < l.length) : AR (l.take (i + 1)) = AR (l.take i) * A6 l[i] := by
 rw [List.take_succ_eq_append_getElem h, EO]
 simp [AR]
end Go.Sp
namespace Go.Av
open Go Go.Instr
section
variable {P : Program} {G : List (Nat × List D)} {ρ : Env} {h : H} {dst : Option Tmp} {ty : TypeId} {pos : String} {after : Array Edge} {g : Option (Nat × Bool)}
theorem JC {f : FuncId} {x : Operand} {u : Value} (hx : evO ρ x = some (.val u)) : Pure P G ⟨dst, .makeFunc (.func f) #[] #[x], ty, pos, after, g⟩ ρ h (.val (.func (.func f) #[] #[u])) :=
 AZ fun w I _ a hs => ⟨_, rfl, fun w' => by
  have e1 := AI (hs.ev x) (AA hx)
  simp [execOp, Instr.makeFunc, e1]⟩
end
open Go

section
variable {k : Kx} {Q : Exit → Env → H → Prop} {ρ : Env} {h : H} {ops : Array Oper} {l : List Oper} {d : Nat} {ty : TypeId} {pos : String} {after : Array Edge}
theorem cR {α : Type} {f : α → List D} {xs : List α} {T T' E : TypeId} {x y : Operand} {sz eb : Nat} (hx : evO ρ x = some (.d (.l sz eb (xs.map f)))) (hy : evO ρ y = some (.val (.slice none 0 0))) (hT : k.P.underlying T = some (.slice E)) (hd : Nat.blt d k.n = true)
 (hj : Two (Imp (xs = []) (JL k ops l Q ((d, .bool true) :: ρ) h)) (JL k ops l Q ((d, .bool false) :: ρ) h)) : JL k ops (⟨some d, .binOp .eql T x y T', ty, pos, after, none⟩ :: l) Q ρ h := by
 refine DT rfl (fun t ht => by cases ht; exact blt hd) fun I a w h1 h2 => ?_
 have ex : Rel w I (.l sz eb (xs.map f)) (a.eval x) := by have := h2.ev x; rw [AA hx] at this; exact this
 have ey : a.eval y = .slice none 0 0 := AI (h2.ev y) (AA hy)
 have key : ∀ (ad : Option Addr) (n c : Nat), a.eval x = .slice ad n c → (execOp a.eval ⟨some d, .binOp .eql T x y T', ty, pos, after, none⟩).run k.P w = .ok (.value (.bool ad.isNone)) w := by
  intro ad n c e
  have r : (binOp .eql T (.slice ad n c) (.slice none 0 0)).run k.P w = .ok (.bool ad.isNone) w := by
   simp only [binOp]
   simp [run_equal_slice_nil w T E ad n c hT]
  simp [execOp, e, ey, eqGuard_at_slice, r]
 have go : ∀ b, (b = true → xs = []) → JL k ops l Q (put ρ (some d) (.bool b)) h := by
  intro b hb
  cases b with
  | true => exact hj.1.get (hb rfl)
  | false => exact hj.2
 generalize hR : xs.map f = R at ex
 generalize hv : a.eval x = v at ex key
 cases ex with
 | nil => exact ⟨_, w, I, .bool true, h, key _ _ _ rfl, h1, h2, rfl, go true fun _ => List.map_eq_nil_iff.1 hR⟩
 | emp => exact ⟨_, w, I, .bool false, h, key _ _ _ rfl, h1, h2, rfl, go false fun h => (by cases h)⟩
 | l => exact ⟨_, w, I, .bool false, h, key _ _ _ rfl, h1, h2, rfl, go false fun h => (by cases h)⟩
end
end Go.Av
namespace Go.Sp
open Go Go.Av

def Ie (k : Int) (A B : Nat → Bool) (nx : Nat → Nat) : La :=
 if k = 17 then ⟨A, fun _ => true, nx, false⟩
 else if k = 18 then ⟨fun i => !A i, fun _ => false, nx, true⟩
 else if k = 15 then ⟨fun i => B i || !A i, B, nx, false⟩
 else ⟨fun i => !B i || A i, B, nx, true⟩
theorem MO (k : Int) (A B : Nat → Bool) (nx : Nat → Nat) : (Ie k A B nx).nxt = nx := by
 unfold Ie
 by_cases h1 : k = 17
 · rw [if_pos h1]
 by_cases h2 : k = 18
 · rw [if_neg h1, if_pos h2]
 by_cases h3 : k = 15
 · rw [if_neg h1, if_neg h2, if_pos h3]
 rw [if_neg h1, if_neg h2, if_neg h3]
theorem al {row : List Bool} {f : Nat → Bool} {N : Nat} (h1 : row.length = N) (h2 : ∀ (i : Nat) (h : i < row.length), row[i] = f i) : row = (List.range N).map f := by
 refine List.ext_getElem (by simp [h1]) fun i h _ => ?_
 rw [h2 i h]; simp
def rd (row : List Bool) (b : Bool) (i : Nat) : Bool := (row[i]?).getD b
theorem X3 {row : List Bool} {b : Bool} {i : Nat} (h : i < row.length) : rd row b i = row[i] := by unfold rd; rw [List.getElem?_eq_getElem h]; rfl
abbrev c8 (a : La) (row : List Bool) : Prop := a.On (rd row a.base)
theorem c8.scan {a : La} {row : List Bool} {s : Nat} (h : c8 a row) (hn : a.nxt = wnx s row.length) (hs : s < row.length) (hr : ∀ (i : Nat) (hi : i < row.length) (hi' : a.nxt i < row.length), row[i] = a.step i row[a.nxt i]) : ∀ (i : Nat) (h : i < row.length), row[i] = a.up (row.length + 1) i := by
 intro i hi
 have := La.On.scan (N := row.length) h (fun i hi => by
  have hx : a.nxt i < row.length := by rw [hn, wnx]; split <;> omega
  rw [X3 hi, X3 hx]; exact hr i hi hx) hn hs hi
 rw [X3 hi] at this
 exact this
def C9 (l : List Fo) (T : Nat → Nat → Bool) (i : Nat) : Nat → Int
 | 0 => 0
 | n + 1 => C9 l T i n + if AU (AW l n) ∧ T n i = true then 2 ^ Aw l n else 0
theorem Du (l : List Fo) (T : Nat → Nat → Bool) (i : Nat) : ∀ n, 0 ≤ C9 l T i n ∧ C9 l T i n < 2 ^ Aw l n
 | 0 => by simp [C9, Aw]
 | n + 1 => by
   have ih := Du l T i n
   have hp : (0 : Int) < 2 ^ Aw l n := by exact_mod_cast Nat.pow_pos (by decide)
   simp only [C9, Aw]
   by_cases c : AU (AW l n)
   · rw [if_pos c, Int.pow_succ]
     by_cases c2 : T n i = true
     · rw [if_pos ⟨c, c2⟩]; omega
     · rw [if_neg (fun h => c2 h.2)]; omega
   · rw [if_neg c, if_neg (fun h => c h.1)]; simpa using ih
theorem fq (A B : Nat → Bool) (nx : Nat → Nat) (i : Nat) (x : Bool) : (Ie 17 A B nx).step i x = (A i || x) := by
 show (if A i = true then true else x) = _
 cases A i <;> simp
theorem iF (A B : Nat → Bool) (nx : Nat → Nat) (i : Nat) (x : Bool) : (Ie 18 A B nx).step i x = (A i && x) := by
 show (if (!A i) = true then false else x) = _
 cases A i <;> simp
theorem gw (A B : Nat → Bool) (nx : Nat → Nat) (i : Nat) (x : Bool) : (Ie 15 A B nx).step i x = (B i || (A i && x)) := by
 show (if (B i || !A i) = true then B i else x) = _
 cases A i <;> cases B i <;> simp
theorem fx (A B : Nat → Bool) (nx : Nat → Nat) (i : Nat) (x : Bool) : (Ie 16 A B nx).step i x = (B i && (A i || x)) := by
 show (if (!B i || A i) = true then B i else x) = _
 cases A i <;> cases B i <;> simp
structure OY (f : Nat → Bool) (N i : Nat) (row : List Bool) : Prop where
 len : row.length = N
 done : ∀ (j : Nat) (h : j < row.length), j < i → row[j] = f j
 rest : ∀ (j : Nat) (h : j < row.length), i ≤ j → row[j] = false
theorem OY.start (f : Nat → Bool) (N : Nat) : OY f N 0 (List.replicate N false) := ⟨by simp, fun _ _ h => absurd h (Nat.not_lt_zero _), fun j h _ => by simp⟩
theorem OY.next {f : Nat → Bool} {N i : Nat} {row : List Bool} (w : OY f N i row) {x : Bool} (hx : f i = x) : OY f N (i + 1) (row.set i x) := by
 refine ⟨by simp [w.len], fun j h hj => ?_, fun j h hj => ?_⟩
 · rw [List.getElem_set]
   split
   · rename_i e; subst e; exact hx.symm
   · exact w.done j (by simpa using h) (by omega)
 · rw [List.getElem_set, if_neg (by omega)]
   exact w.rest j (by simpa using h) (by omega)
theorem OY.fin {f : Nat → Bool} {N : Nat} {row : List Bool} (w : OY f N N row) : row = (List.range N).map f := al w.len fun i h => w.done i h (by have := w.len; omega)
theorem Cvs.at (v : Value) (d : D) : ∀ (R : List AV) (i : Nat), Cvs v d (R.set i (.val v)) (R.set i (.d d))
 | [], _ => .nil
 | x :: R, 0 => .cons .here (Cvs.refl v d R)
 | x :: R, i + 1 => .cons (.same x) (Cvs.at v d R i)
open Go.Av

def Hw (k : Int) (a1 s b b1 : Bool) : Bool := if k = 14 then b1 else if k = 17 then a1 || b else if k = 18 then a1 && b else if k = 15 then s || (a1 && b) else s && (a1 || b)
theorem KY {k : Int} (a1 u v b b1 : Bool) (hk : AU k) (hu : k = 15 ∨ k = 16 → u = v) : Hw k a1 u b b1 = Hw k a1 v b b1 := by
 by_cases h : k = 15 ∨ k = 16
 · rw [hu h]
 · unfold AU at hk
   unfold Hw
   by_cases h14 : k = 14
   · rw [if_pos h14, if_pos h14]
   by_cases h17 : k = 17
   · rw [if_neg h14, if_neg h14, if_pos h17, if_pos h17]
   rw [if_neg h14, if_neg h14, if_neg h17, if_neg h17, if_pos (by omega), if_pos (by omega)]
def SE (k : Int) (a a1 s : Bool) : Bool := if k = 17 then !a || a1 else if k = 18 then a || !a1 else if k = 15 then !a || s else if k = 16 then a || !s else true
def IM (l : List Fo) (A B : Nat → Bool) (i : Nat) : Prop := AU (AW l i) → A i = Hw (AW l i) (A (i + 1)) (A (second l i)) (B i) (B (i + 1))
instance (l : List Fo) (A B : Nat → Bool) (i : Nat) : Decidable (IM l A B i) := by unfold IM; infer_instance
def kept (l : List Fo) (A B : Nat → Bool) : Prop := ∀ i, i < l.length → IM l A B i
instance (l : List Fo) (A B : Nat → Bool) : Decidable (kept l A B) := by unfold kept; infer_instance
def Dq (l : List Fo) (x : List Bool) (c : Int) (y : List Bool) (d : Int) : Bool × Int :=
 if x.length ≠ y.length then (false, 1)
 else if (BL l x c).2 ≠ 0 then (false, (BL l x c).2)
 else if (BL l y d).2 ≠ 0 then (false, (BL l y d).2)
 else (decide (kept l (tAt l x c) (tAt l y d)), 0)
def metAt (l : List Fo) (A : Nat → Bool) (i : Nat) : Bool := SE (AW l i) (A i) (A (i + 1)) (A (second l i))
def FR (l : List Fo) (A : Nat → Bool) : Nat → Int
 | 0 => 0
 | i + 1 => FR l A i + if AU (AW l i) ∧ metAt l A i = true then 2 ^ Aw l i else 0
def DW (l : List Fo) (x : List Bool) (c : Int) : Int × Int :=
 if (BL l x c).2 ≠ 0 then (0, (BL l x c).2) else (FR l (tAt l x c) l.length, 0)
theorem GS (l : List Fo) (A : Nat → Bool) : ∀ i, 0 ≤ FR l A i ∧ FR l A i < 2 ^ Aw l i
 | 0 => by simp [FR, Aw]
 | i + 1 => by
   have ih := GS l A i
   simp only [FR, Aw]
   by_cases h1 : AU (AW l i)
   · rw [if_pos h1, Int.pow_succ]
     by_cases h2 : metAt l A i = true
     · rw [if_pos ⟨h1, h2⟩]; omega
     · rw [if_neg (fun h => h2 h.2)]; omega
   · rw [if_neg h1, if_neg (fun h => h1 h.1), Nat.add_zero]; omega
structure TV (l : List Fo) (a : List Bool) (A : Nat → Bool) : Prop where
 len : a.length = l.length
 get : ∀ (i : Nat) (h : i < a.length), a[i] = A i
theorem HX {l : List Fo} {x : List Bool} {c : Int} {a : List Bool} (h : BL l x c = (a, 0)) : Gb l x.length ∧ TV l a (tAt l x c) := by
 unfold BL at h
 by_cases h1 : (Ak l x.length).2 ≠ 0
 · rw [if_pos h1] at h; simp at h; exact absurd h.2 h1
 rw [if_neg h1] at h
 by_cases h2 : c < 0 ∨ 2 ^ (Ak l x.length).1.length ≤ c
 · rw [if_pos h2] at h; simp at h
 rw [if_neg h2] at h
 simp only [Prod.mk.injEq, and_true] at h
 subst h
 have := KN (l := l) (p := x.length) (ps := (Ak l x.length).1) (Prod.ext rfl (by simpa using h1))
 exact ⟨Hg this.1, by simp, fun i hi => by simp⟩

theorem Qe {x y c : Bool} (h : x ≠ c ↔ y ≠ c) : x = y := by revert h; cases x <;> cases y <;> cases c <;> simp
noncomputable def La.inf (a : La) (i : Nat) : Bool := open Classical in if ∃ k, a.up k i ≠ a.base then !a.base else a.base
theorem La.inf_iff (a : La) (i : Nat) : a.inf i ≠ a.base ↔ ∃ k, a.up k i ≠ a.base := by
 unfold La.inf
 by_cases h : ∃ k, a.up k i ≠ a.base
 · rw [if_pos h]; exact ⟨fun _ => h, fun _ => by cases a.base <;> decide⟩
 · rw [if_neg h]; exact ⟨fun k => absurd rfl k, fun k => absurd k h⟩
theorem La.inf_step (a : La) (i : Nat) : a.inf i = a.step i (a.inf (a.nxt i)) := by
 refine Qe (c := a.base) ⟨fun h => ?_, fun h => (a.inf_iff i).2 ?_⟩
 · obtain ⟨k, hk⟩ := (a.inf_iff i).1 h
   cases k with
   | zero => exact absurd rfl hk
   | succ k =>
     rw [La.up] at hk
     by_cases c : a.up k (a.nxt i) = a.base
     · rw [c] at hk; exact a.step_mono hk _
     · rw [JZ ((a.inf_iff _).2 ⟨k, c⟩) c]; exact hk
 · by_cases c : a.inf (a.nxt i) = a.base
   · rw [c] at h; exact ⟨1, h⟩
   · obtain ⟨k, hk⟩ := (a.inf_iff _).1 c
     exact ⟨k + 1, by rw [La.up, JZ hk c]; exact h⟩
theorem La.fair_ex {a : La} {row : Nat → Bool} (hn : ∀ i, a.nxt i = i + 1) (h : ∀ i, row i = a.step i (row (i + 1))) : ∀ (d i : Nat), (row (i + d) = a.base ∨ a.stop (i + d) = true) → row i ≠ a.base → ∃ k, a.up k i ≠ a.base
 | d, i, hd, hr => by
   by_cases c : a.stop i = true
   · refine ⟨1, ?_⟩
     rw [h i, La.step, if_pos c] at hr
     show a.step i _ ≠ _
     rw [La.step, if_pos c]; exact hr
   · have e : row i = row (i + 1) := by rw [h i, La.step, if_neg c]
     cases d with
     | zero => exact hd.elim (fun k => absurd k hr) (fun k => absurd k c)
     | succ d =>
       obtain ⟨k, hk⟩ := La.fair_ex hn h d (i + 1) (by rw [show i + 1 + d = i + (d + 1) by omega]; exact hd) (e ▸ hr)
       refine ⟨k + 1, ?_⟩
       rw [La.up, La.step, if_neg c, hn]; exact hk
theorem La.fair_of {a : La} {row : Nat → Bool} (hn : ∀ i, a.nxt i = i + 1) (h : ∀ i, row i = a.step i (row (i + 1))) : ∀ (k i : Nat), a.up k i ≠ a.base → row i ≠ a.base
 | 0, _, hk => absurd rfl hk
 | k + 1, i, hk => by
   rw [h i]
   rw [La.up, hn] at hk
   by_cases c : a.up k (i + 1) = a.base
   · rw [c] at hk; exact a.step_mono hk _
   · rw [JZ (La.fair_of hn h k _ c) c]; exact hk
theorem La.fair {a : La} {row : Nat → Bool} (hn : ∀ i, a.nxt i = i + 1) (h : ∀ i, row i = a.step i (row (i + 1))) (hf : ∀ i, ∃ j, i ≤ j ∧ (row j = a.base ∨ a.stop j = true)) (i : Nat) : row i = a.inf i := by
 refine Qe (c := a.base) ⟨fun hr => (a.inf_iff i).2 ?_, fun hr => ?_⟩
 · obtain ⟨j, hij, hj⟩ := hf i
   exact La.fair_ex hn h (j - i) i (by rw [show i + (j - i) = j by omega]; exact hj) hr
 · obtain ⟨k, hk⟩ := (a.inf_iff i).1 hr
   exact La.fair_of hn h k i hk
theorem La.inf_met {a : La} (hn : ∀ i, a.nxt i = i + 1) (i : Nat) : ∃ j, i ≤ j ∧ (a.inf j = a.base ∨ a.stop j = true) := by
 by_cases h : a.inf i = a.base
 · exact ⟨i, Nat.le_refl _, .inl h⟩
 · obtain ⟨k, hk⟩ := (a.inf_iff i).1 h
   obtain ⟨j, _, hs, _⟩ := a.up_first k i hk
   have e : ∀ m i, a.itr m i = i + m := fun m => by
    induction m with
    | zero => intro i; rfl
    | succ m ih => intro i; rw [La.itr, ih, hn]; omega
   rw [e] at hs
   exact ⟨i + j, by omega, .inr hs⟩
noncomputable def ON (l : List Fo) (σ : Nat → Nat → Bool) (at_ : Nat) (A B : Nat → Bool) (i : Nat) : Bool :=
 if AW l at_ = 13 then σ i (Np l at_).toNat
 else if AW l at_ = 11 then true
 else if AW l at_ = 12 then false
 else if AW l at_ = 10 then !A i
 else if AW l at_ = 8 then A i && B i
 else if AW l at_ = 9 then A i || B i
 else if AW l at_ = 14 then A (i + 1)
 else (Ie (AW l at_) A B Nat.succ).inf i
noncomputable def iv (l : List Fo) (σ : Nat → Nat → Bool) : Nat → Nat → Nat → Bool
 | 0, _ => fun _ => false
 | m + 1, i => if i < l.length then ON l σ i (iv l σ m (i + 1)) (if i < second l i then iv l σ m (second l i) else fun _ => false) else fun _ => false
noncomputable def iAt (l : List Fo) (σ : Nat → Nat → Bool) (i : Nat) : Nat → Bool := iv l σ (l.length - i) i
theorem No (l : List Fo) (σ : Nat → Nat → Bool) : ∀ (m i : Nat), l.length ≤ i + m → iv l σ m i = iAt l σ i := by
 intro m
 induction m using Nat.strongRecOn with
 | _ m ih =>
 intro i h
 unfold iAt
 by_cases hi : i < l.length
 · obtain ⟨m', rfl⟩ : ∃ m', m = m' + 1 := ⟨m - 1, by omega⟩
   obtain ⟨k, hk⟩ : ∃ k, l.length - i = k + 1 := ⟨l.length - i - 1, by omega⟩
   rw [hk]
   have e : ∀ j, i < j → iv l σ m' j = iv l σ k j := fun j hj => by
    rw [ih m' (by omega) j (by omega)]
    by_cases hkm : k < m' + 1
    · rw [ih k hkm j (by omega)]
    · omega
   simp only [iv, if_pos hi]
   rw [e (i + 1) (by omega)]
   by_cases h2 : i < second l i
   · rw [if_pos h2, if_pos h2, e _ h2]
   · rw [if_neg h2, if_neg h2]
 · rw [show l.length - i = 0 by omega]
   cases m with
   | zero => rfl
   | succ m => simp only [iv, if_neg hi]
theorem Ou (l : List Fo) (σ : Nat → Nat → Bool) (i : Nat) (hi : i < l.length) : iAt l σ i = ON l σ i (iAt l σ (i + 1)) (if i < second l i then iAt l σ (second l i) else fun _ => false) := by
 rw [← No l σ (l.length - (i + 1)) (i + 1) (by omega)]
 conv => lhs; rw [iAt, show l.length - i = (l.length - (i + 1)) + 1 by omega, iv, if_pos hi]
 by_cases h2 : i < second l i
 · rw [if_pos h2, if_pos h2, No l σ _ (second l i) (by omega)]
 · rw [if_neg h2, if_neg h2]
def EM (s N : Nat) : Nat → Nat
 | 0 => 0
 | i + 1 => wnx s N (EM s N i)
theorem LF {s N : Nat} (hs : s < N) : ∀ i, EM s N i < N
 | 0 => by unfold EM; omega
 | i + 1 => by have := LF hs i; rw [EM, wnx]; split <;> omega
theorem MR {s N : Nat} (hs : s < N) : ∀ (d i p : Nat), s ≤ p → p < N → (EM s N i ≤ p → p ≤ EM s N i + d) → (p < EM s N i → N - EM s N i + (p - s) ≤ d) → ∃ j, i ≤ j ∧ EM s N j = p
 | 0, i, p, h1, h2, h3, h4 => by
   have := LF hs i
   by_cases c : EM s N i ≤ p
   · exact ⟨i, Nat.le_refl _, by have := h3 c; omega⟩
   · have := h4 (by omega); omega
 | d + 1, i, p, h1, h2, h3, h4 => by
   have hl := LF hs i
   by_cases c : EM s N i = p
   · exact ⟨i, Nat.le_refl _, c⟩
   have e : EM s N (i + 1) = wnx s N (EM s N i) := rfl
   obtain ⟨j, hj, hm⟩ := MR hs d (i + 1) p h1 h2
    (fun k => by
     rw [e, wnx] at k ⊢
     by_cases c2 : EM s N i + 1 < N
     · rw [if_pos c2] at k ⊢; have := h3 (by omega); omega
     · rw [if_neg c2] at k ⊢; have := h4 (by omega); omega)
    (fun k => by
     rw [e, wnx] at k ⊢
     by_cases c2 : EM s N i + 1 < N
     · rw [if_pos c2] at k ⊢
       have := h4 (by omega); omega
     · rw [if_neg c2] at k ⊢; omega)
   exact ⟨j, by omega, hm⟩
theorem Wh {s N p : Nat} (hs : s ≤ p) (hp : p < N) (i : Nat) : ∃ j, i ≤ j ∧ EM s N j = p :=
 MR (by omega) (2 * N) i p hs hp (fun _ => by omega) (fun _ => by omega)
theorem UX {k : Int} (hk : AU k) (h14 : k ≠ 14) (A B : Nat → Bool) (nx : Nat → Nat) (i : Nat) (a1 s b b1 : Bool) (hA : A i = a1) (hB : k = 15 ∨ k = 16 → B i = s) : (Ie k A B nx).step i b = Hw k a1 s b b1 := by
 have : k = 15 ∨ k = 16 ∨ k = 17 ∨ k = 18 := by unfold AU at hk; omega
 rcases this with rfl | rfl | rfl | rfl
 · rw [gw, hA, hB (.inl rfl)]; simp [Hw]
 · rw [fx, hA, hB (.inr rfl)]; simp [Hw]
 · rw [fq, hA]; simp [Hw]
 · rw [iF, hA]; simp [Hw]
theorem XW {k : Int} (hk : AU k) (h14 : k ≠ 14) (A B : Nat → Bool) (nx : Nat → Nat) (i : Nat) (a b a1 s : Bool) (hA : A i = a1) (hB : k = 15 ∨ k = 16 → B i = s) (ha : a = (Ie k A B nx).step i b) : SE k a a1 s = true ↔ (a = (Ie k A B nx).base ∨ (Ie k A B nx).stop i = true) := by
 have : k = 15 ∨ k = 16 ∨ k = 17 ∨ k = 18 := by unfold AU at hk; omega
 rcases this with rfl | rfl | rfl | rfl
 · rw [gw] at ha; subst ha; subst hA; have := hB (.inl rfl); subst this
   show (!(B i || A i && b) || B i) = true ↔ ((B i || A i && b) = false ∨ (B i || !A i) = true)
   cases A i <;> cases B i <;> cases b <;> decide
 · rw [fx] at ha; subst ha; subst hA; have := hB (.inr rfl); subst this
   show ((B i && (A i || b)) || !B i) = true ↔ ((B i && (A i || b)) = true ∨ (!B i || A i) = true)
   cases A i <;> cases B i <;> cases b <;> decide
 · rw [fq] at ha; subst ha; subst hA
   show (!(A i || b) || A i) = true ↔ ((A i || b) = false ∨ A i = true)
   cases A i <;> cases b <;> decide
 · rw [iF] at ha; subst ha; subst hA
   show ((A i && b) || !A i) = true ↔ ((A i && b) = true ∨ (!A i) = true)
   cases A i <;> cases b <;> decide
theorem Gb.first {l : List Fo} {p : Int} (g : Gb l p) {q : Nat} (hq : q < l.length) (h : 1 ≤ (partsOf (AW l q)).1) : q + 1 < l.length := by
 rw [BN l q hq] at h
 exact (E0 hq (g.well q hq) h).1
theorem Gb.second {l : List Fo} {p : Int} (g : Gb l p) {q : Nat} (hq : q < l.length) (h : (partsOf (AW l q)).1 = 2) : q < second l q ∧ second l q < l.length := by
 rw [BN l q hq] at h
 have h1 := (E0 hq (g.well q hq) (by omega)).2.2.1
 exact ⟨by omega, (Fx hq (g.well q hq) h).1⟩
theorem RU {l : List Fo} {p : Int} (g : Gb l p) (x : Nat → List Bool) (c : Nat → Int)
 (hk : ∀ i, kept l (tAt l (x i) (c i)) (tAt l (x (i + 1)) (c (i + 1))))
 (hf : ∀ q, q < l.length → AU (AW l q) → ∀ i, ∃ j, i ≤ j ∧ metAt l (tAt l (x j) (c j)) q = true) :
 ∀ (m q : Nat), l.length ≤ q + m → q < l.length → ∀ i, tAt l (x i) (c i) q = iAt l (fun i v => ((x i)[v]?).getD false) q i := by
 intro m
 induction m with
 | zero => intro q h hq; omega
 | succ m ih =>
   intro q h hq i
   have hA : 1 ≤ (partsOf (AW l q)).1 → ∀ i, tAt l (x i) (c i) (q + 1) = iAt l (fun i v => ((x i)[v]?).getD false) (q + 1) i := fun h1 => ih (q + 1) (by omega) (g.first hq h1)
   have hB : (partsOf (AW l q)).1 = 2 → ∀ i, tAt l (x i) (c i) (second l q) = iAt l (fun i v => ((x i)[v]?).getD false) (second l q) i := fun h1 => ih (second l q) (by have := g.second hq h1; omega) (g.second hq h1).2
   have hT : ∀ i, _ := fun i => Td l (x i) (c i) q hq
   have hI := fun i => congrFun (Ou l (fun i v => ((x i)[v]?).getD false) q hq) i
   have hK := fun i => hk i q hq
   have hF := hf q hq
   have h2 := g.second hq
   have hkd := g.kind q hq
   rw [← BN l q hq] at hkd
   unfold IM at hK
   unfold metAt at hF
   unfold stepT at hT
   unfold ON at hI
   generalize AW l q = k at hA hB hT hI hK hF h2 hkd
   rcases KK hkd with rfl | rfl | rfl | rfl | rfl | rfl | hk14
   · simp only [hT i, hI i, if_pos (h2 rfl).1]
     simp [hA (by decide) i, hB rfl i]
   · simp only [hT i, hI i, if_pos (h2 rfl).1]
     simp [hA (by decide) i, hB rfl i]
   · simp only [hT i, hI i]
     simp [hA (by decide) i]
   · simp [hT i, hI i]
   · simp [hT i, hI i]
   · simp [hT i, hI i]
   clear hT
   have hah : AU k := by unfold AU; omega
   have hp1 : 1 ≤ (partsOf k).1 := by rcases hk14 with rfl | rfl | rfl | rfl | rfl <;> decide
   have hK' := fun i => hK i hah
   by_cases c14 : k = 14
   · subst c14
     rw [hI, hK' i]
     simp [Hw, hA (by decide)]
   rw [hI, if_neg (by omega), if_neg (by omega), if_neg (by omega), if_neg (by omega), if_neg (by omega), if_neg (by omega), if_neg c14]
   have hB' : k = 15 ∨ k = 16 → ∀ i, (if q < second l q then iAt l (fun i v => ((x i)[v]?).getD false) (second l q) else fun _ => false) i = tAt l (x i) (c i) (second l q) := fun hu i => by
    have e2 : (partsOf k).1 = 2 := by rcases hu with rfl | rfl <;> decide
    rw [if_pos (h2 e2).1, hB e2]
   generalize (if q < second l q then iAt l (fun i v => ((x i)[v]?).getD false) (second l q) else fun _ => false) = B at hB'
   have hst : ∀ i, tAt l (x i) (c i) q = (Ie k (iAt l (fun i v => ((x i)[v]?).getD false) (q + 1)) B Nat.succ).step i (tAt l (x (i + 1)) (c (i + 1)) q) := fun i => by
    rw [UX hah c14 _ _ _ i (tAt l (x i) (c i) (q + 1)) (tAt l (x i) (c i) (second l q)) _ (tAt l (x (i + 1)) (c (i + 1)) (q + 1)) (hA hp1 i).symm (fun hu => hB' hu i)]
    exact hK' i
   refine La.fair (row := fun i => tAt l (x i) (c i) q) (fun i => by rw [MO]) hst (fun i => ?_) i
   obtain ⟨j, hj, hm⟩ := hF hah i
   exact ⟨j, hj, (XW hah c14 _ _ _ j _ _ _ _ (hA hp1 j).symm (fun hu => hB' hu j) (hst j)).1 hm⟩
theorem SN {l : List Fo} {p : Int} (g : Gb l p) (x : Nat → List Bool) (c : Nat → Int)
 (hk : ∀ i, kept l (tAt l (x i) (c i)) (tAt l (x (i + 1)) (c (i + 1))))
 (hf : ∀ q, q < l.length → AU (AW l q) → ∀ i, ∃ j, i ≤ j ∧ metAt l (tAt l (x j) (c j)) q = true) :
 tAt l (x 0) (c 0) 0 = iAt l (fun i v => ((x i)[v]?).getD false) 0 0 :=
 RU g x c hk hf l.length 0 (by omega) g.pos 0
theorem G0 (l : List Fo) (T : Nat → Nat → Bool) (i : Nat) : ∀ (n q : Nat), q < n → AU (AW l q) → Rr (C9 l T i n) (Aw l q) = T q i
 | 0, q, h, _ => absurd h (Nat.not_lt_zero q)
 | n + 1, q, h, ha => by
   have hb := Du l T i n
   have hp : (0 : Int) < 2 ^ Aw l n := by exact_mod_cast Nat.pow_pos (by decide)
   by_cases e : q = n
   · subst e
     simp only [C9]
     unfold Rr
     by_cases c2 : T q i = true
     · rw [if_pos ⟨ha, c2⟩, c2, decide_eq_true_iff, Int.add_ediv_of_dvd_right (Int.dvd_refl _), Int.ediv_eq_zero_of_lt hb.1 hb.2, Int.ediv_self (by omega)]; rfl
     · rw [if_neg (fun h => c2 h.2), Int.add_zero, Int.ediv_eq_zero_of_lt hb.1 hb.2, Bool.not_eq_true] at *
       rw [c2]; decide
   · have ih := G0 l T i n q (by omega) ha
     have hr : Aw l q + 1 ≤ Aw l n := by
      have h1 := F0 l (n - (q + 1)) (q + 1)
      rw [show q + 1 + (n - (q + 1)) = n by omega] at h1
      simp only [Aw, if_pos ha] at h1; omega
     rw [← ih]
     simp only [C9]
     by_cases c : AU (AW l n) ∧ T n i = true
     · rw [if_pos c]
       unfold Rr
       obtain ⟨d, hd⟩ : ∃ d, Aw l n = Aw l q + 1 + d := ⟨Aw l n - (Aw l q + 1), by omega⟩
       have e2 : (2 : Int) ^ Aw l n = 2 ^ Aw l q * (2 * 2 ^ d) := by rw [hd, Int.pow_add, Int.pow_succ]; ac_rfl
       have hq0 : (2 : Int) ^ Aw l q ≠ 0 := by
        have : (0 : Int) < 2 ^ Aw l q := by exact_mod_cast Nat.pow_pos (by decide)
        omega
       rw [e2, Int.add_mul_ediv_left _ _ hq0, Int.add_mul_emod_self_left]
     · rw [if_neg c, Int.add_zero]
noncomputable def FT (l : List Fo) (σ : Nat → Nat → Bool) (i : Nat) : Int := C9 l (iAt l σ) i l.length
theorem PW (l : List Fo) (σ : Nat → Nat → Bool) (i : Nat) : 0 ≤ FT l σ i ∧ FT l σ i < 2 ^ Aw l l.length := Du l _ i _
theorem CT {l : List Fo} {p : Int} (g : Gb l p) (σ : Nat → Nat → Bool) (x : List Bool) (i : Nat) (hx : ∀ v, (x[v]?).getD false = σ i v) :
 ∀ (m q : Nat), l.length ≤ q + m → q < l.length → tAt l x (FT l σ i) q = iAt l σ q i := by
 intro m
 induction m with
 | zero => intro q h hq; omega
 | succ m ih =>
   intro q h hq
   have hA : 1 ≤ (partsOf (AW l q)).1 → tAt l x (FT l σ i) (q + 1) = iAt l σ (q + 1) i := fun h1 => ih (q + 1) (by omega) (g.first hq h1)
   have hB : (partsOf (AW l q)).1 = 2 → tAt l x (FT l σ i) (second l q) = iAt l σ (second l q) i := fun h1 => ih (second l q) (by have := g.second hq h1; omega) (g.second hq h1).2
   have hT := Td l x (FT l σ i) q hq
   have hI := congrFun (Ou l σ q hq) i
   have hR : AU (AW l q) → _ := fun ha => G0 l (iAt l σ) i l.length q hq ha
   have h2 := g.second hq
   have hkd := g.kind q hq
   rw [← BN l q hq] at hkd
   unfold stepT at hT
   unfold ON at hI
   generalize AW l q = k at hA hB hT hI hR h2 hkd
   rcases KK hkd with rfl | rfl | rfl | rfl | rfl | rfl | hk14
   · simp only [hT, hI, if_pos (h2 rfl).1]
     simp [hA (by decide), hB rfl]
   · simp only [hT, hI, if_pos (h2 rfl).1]
     simp [hA (by decide), hB rfl]
   · simp only [hT, hI]
     simp [hA (by decide)]
   · simp [hT, hI]
   · simp [hT, hI]
   · simp [hT, hI, hx]
   rw [hT, if_neg (by omega), if_neg (by omega), if_neg (by omega), if_neg (by omega), if_neg (by omega), if_neg (by omega)]
   exact hR (by unfold AU; omega)
theorem Ni {l : List Fo} {p : Int} (g : Gb l p) (σ : Nat → Nat → Bool) {q : Nat} (hq : q < l.length) (ha : AU (AW l q)) (i : Nat) :
 iAt l σ q i = Hw (AW l q) (iAt l σ (q + 1) i) (iAt l σ (second l q) i) (iAt l σ q (i + 1)) (iAt l σ (q + 1) (i + 1)) ∧ ∃ j, i ≤ j ∧ SE (AW l q) (iAt l σ q j) (iAt l σ (q + 1) j) (iAt l σ (second l q) j) = true := by
 have h2 := g.second hq
 have hI := fun i => congrFun (Ou l σ q hq) i
 unfold ON at hI
 generalize AW l q = k at ha hI h2
 have ha' := ha
 unfold AU at ha'
 replace hI := fun i => (hI i).trans (by rw [if_neg (by omega), if_neg (by omega), if_neg (by omega), if_neg (by omega), if_neg (by omega), if_neg (by omega)])
 by_cases c14 : k = 14
 · subst c14
   exact ⟨by rw [hI]; simp [Hw], i, Nat.le_refl _, rfl⟩
 replace hI := fun i => (hI i).trans (if_neg c14)
 have hB' : k = 15 ∨ k = 16 → ∀ i, (if q < second l q then iAt l σ (second l q) else fun _ => false) i = iAt l σ (second l q) i := fun hu i => by
  have e2 : (partsOf k).1 = 2 := by rcases hu with rfl | rfl <;> decide
  rw [if_pos (h2 e2).1]
 generalize (if q < second l q then iAt l σ (second l q) else fun _ => false) = B at hB' hI
 have hs : ∀ i, iAt l σ q i = (Ie k (iAt l σ (q + 1)) B Nat.succ).step i (iAt l σ q (i + 1)) := fun i => by
  rw [hI i, La.inf_step, MO, hI (i + 1)]
 refine ⟨(hs i).trans (UX ha c14 _ _ _ i _ _ _ _ rfl (fun hu => hB' hu i)), ?_⟩
 obtain ⟨j, hj, hm⟩ := La.inf_met (a := Ie k (iAt l σ (q + 1)) B Nat.succ) (fun i => by rw [MO]) i
 refine ⟨j, hj, (XW ha c14 _ _ _ j _ _ _ _ rfl (fun hu => hB' hu j) (hs j)).2 ?_⟩
 rw [hI j]; exact hm
theorem Qt {k : Int} (a a1 u v : Bool) (hu : k = 15 ∨ k = 16 → u = v) : SE k a a1 u = SE k a a1 v := by
 by_cases h : k = 15 ∨ k = 16
 · rw [hu h]
 · unfold SE
   split
   · rfl
   split
   · rfl
   rw [if_neg (by omega), if_neg (by omega), if_neg (by omega), if_neg (by omega)]
theorem Dz {k : Int} (ha : AU k) : 1 ≤ (partsOf k).1 ∧ (k = 15 ∨ k = 16 → (partsOf k).1 = 2) := by
 have : k = 14 ∨ k = 15 ∨ k = 16 ∨ k = 17 ∨ k = 18 := by unfold AU at ha; omega
 rcases this with rfl | rfl | rfl | rfl | rfl <;> exact ⟨by decide, fun h => by first | decide | omega⟩
theorem QC {l : List Fo} {p : Int} (g : Gb l p) (σ : Nat → Nat → Bool) (x y : List Bool) (i : Nat) (hx : ∀ v, (x[v]?).getD false = σ i v) (hy : ∀ v, (y[v]?).getD false = σ (i + 1) v) :
 kept l (tAt l x (FT l σ i)) (tAt l y (FT l σ (i + 1))) := fun q hq ha => by
 have e := (Ni g σ hq ha i).1
 have hp := Dz ha
 have h1 := g.first hq hp.1
 rw [CT g σ x i hx l.length q (by omega) hq, CT g σ x i hx l.length (q + 1) (by omega) h1, CT g σ y (i + 1) hy l.length q (by omega) hq, CT g σ y (i + 1) hy l.length (q + 1) (by omega) h1, e]
 refine KY _ _ _ _ _ ha fun hu => ?_
 exact (CT g σ x i hx l.length _ (by have := g.second hq (hp.2 hu); omega) (g.second hq (hp.2 hu)).2).symm
theorem UR {l : List Fo} {p : Int} (g : Gb l p) (σ : Nat → Nat → Bool) (x : Nat → List Bool) (hx : ∀ i v, ((x i)[v]?).getD false = σ i v) {q : Nat} (hq : q < l.length) (ha : AU (AW l q)) (i : Nat) :
 ∃ j, i ≤ j ∧ metAt l (tAt l (x j) (FT l σ j)) q = true := by
 obtain ⟨j, hj, hm⟩ := (Ni g σ hq ha i).2
 have hp := Dz ha
 refine ⟨j, hj, ?_⟩
 unfold metAt
 rw [CT g σ _ j (hx j) l.length q (by omega) hq, CT g σ _ j (hx j) l.length (q + 1) (by omega) (g.first hq hp.1), ← hm]
 exact Qt _ _ _ _ fun hu => CT g σ _ j (hx j) l.length _ (by have := g.second hq (hp.2 hu); omega) (g.second hq (hp.2 hu)).2
end Go.Sp
namespace Go.Av
open Go
def fz (s : ByteArray) : List D := [.s s]
section
variable {k : Kx} {Q : Exit → Env → H → Prop} {ρ : Env} {h h' : H} {ops : Array Oper} {l : List Oper} {d : Nat} {ty : TypeId} {pos : String} {after : Array Edge}
theorem au {α : Type} {f : α → List D} {u : α} {T E : TypeId} {x : Operand} {cs : List AV} {z : Value} {sz eb : Nat} (h0 : evO ρ x = some (.agg cs)) (hu : cs = (f u).map D.av) (hT : k.P.underlying T = some (.slice E)) (he : El k.P E z sz eb) (hsz : ∀ y, (f y).length = sz) (h1 : Nat.blt 0 sz = true) (hc : Nat.ble sz 1000000 = true)
 (hd : Nat.blt d k.n = true) (hj : All fun q : Sl => JL k ops l Q ((d, .val q.v) :: ρ) (AF q.v E sz f [u] :: h)) : JL k ops (⟨some d, .buildSlice T 1 #[(0, x)], ty, pos, after, none⟩ :: l) Q ρ h := by
 subst hu
 have hc' := Nat.le_of_ble_eq_true hc
 refine KS (f := f) (ys := [u]) (xs := [x]) hT he (blt h1) (by simp) rfl ?_ ?_ hsz (by simp; omega) hd ⟨fun v => HC (h1 := []) rfl fun q e => by subst e; exact hj.get q⟩
 · simp only [List.map_cons, List.map_nil, AA h0]; rfl
 · intro x hx
   simp only [List.mem_cons, List.not_mem_nil, or_false] at hx
   rw [hx, AA h0]
   exact Kf _
theorem Oc {T E : TypeId} {x y u : Operand} {sz1 eb1 sz2 eb2 sz3 eb3 : Nat} {r1 r2 r3 : List (List D)} {z : Value} {eb : Nat} (hx : evO ρ x = some (.d (.l sz1 eb1 r1))) (hy : evO ρ y = some (.d (.l sz2 eb2 r2))) (hu : evO ρ u = some (.d (.l sz3 eb3 r3))) (hT : k.P.underlying T = some (.slice E)) (he : El k.P E z 1 eb) (hb : Nat.ble eb 1000000 = true)
 (hd : Nat.blt d k.n = true) (hj : JL k ops l Q ((d, .d (.l 1 eb [[.l sz1 eb1 r1], [.l sz2 eb2 r2], [.l sz3 eb3 r3]])) :: ρ) h) : JL k ops (⟨some d, .buildSlice T 3 #[(0, x), (1, y), (2, u)], ty, pos, after, none⟩ :: l) Q ρ h := by
 have hb' := Nat.le_of_ble_eq_true hb
 refine C2 (xs := [x, y, u]) (rows := [[.l sz1 eb1 r1], [.l sz2 eb2 r2], [.l sz3 eb3 r3]]) hT he (by decide) rfl rfl ?_ ?_ ?_ ?_ ?_ (fun t ht => by cases ht; exact blt hd) hj
 · simp [AA hx, AA hy, AA hu, D.av, AV.cl]
 · intro o ho
   simp only [List.mem_cons, List.not_mem_nil, or_false] at ho
   rcases ho with rfl | rfl | rfl
   · rw [AA hx]; rfl
   · rw [AA hy]; rfl
   · rw [AA hu]; rfl
 · intro r hr
   simp only [List.mem_cons, List.not_mem_nil, or_false] at hr
   rcases hr with rfl | rfl | rfl <;> rfl
 · simp; omega
 · simp
theorem Qo {T E : TypeId} {a b : ByteArray} {z : Value} {eb : Nat} (hT : k.P.underlying T = some (.slice E)) (he : El k.P E z 1 eb) (hb : Nat.ble eb 1000000 = true)
 (hd : Nat.blt d k.n = true) (hj : JL k ops l Q ((d, .d (.l 1 eb ([a, b].map fz))) :: ρ) h) : JL k ops (⟨some d, .buildSlice T 2 #[(0, .const (.string a)), (1, .const (.string b))], ty, pos, after, none⟩ :: l) Q ρ h := by
 have hb' := Nat.le_of_ble_eq_true hb
 refine C2 (xs := [.const (.string a), .const (.string b)]) (rows := [[.s a], [.s b]]) hT he (by decide) rfl rfl ?_ ?_ ?_ ?_ ?_ (fun t ht => by cases ht; exact blt hd) hj
 · simp [ev, D.av, AV.cl]
 · intro o ho
   simp only [List.mem_cons, List.not_mem_nil, or_false] at ho
   rcases ho with rfl | rfl <;> rfl
 · intro r hr
   simp only [List.mem_cons, List.not_mem_nil, or_false] at hr
   rcases hr with rfl | rfl <;> rfl
 · simp; omega
 · simp
end
end Go.Av
namespace Go.Sp
open Go Go.Av

inductive Lp (nx : Nat → List Nat) (fr : List Nat) (ins : Nat → Bool) : Nat → Prop where
 | base {k : Nat} (h : k ∈ fr) : Lp nx fr ins k
 | step {j k : Nat} (h : Lp nx fr ins j) (e : k ∈ nx j) (hi : ins k = true) : Lp nx fr ins k
def Bj (nx : Nat → List Nat) (ins : Nat → Bool) : List Nat → Prop
 | [] => True
 | [_] => True
 | a :: b :: l => (b ∈ nx a ∧ ins b = true) ∧ Bj nx ins (b :: l)
structure HO (nx : Nat → List Nat) (n : Nat) (fr : List Nat) (ins wnt : Nat → Bool) (l : List Nat) : Prop where
 ne : l ≠ []
 head : ∀ a, l.head? = some a → a ∈ fr
 chain : Bj nx ins l
 last : ∀ a, l.getLast? = some a → wnt a = true
 lt : ∀ a ∈ l, a < n
def V0 (nx : Nat → List Nat) (n : Nat) (fr : List Nat) (ins wnt : Nat → Bool) (l : List Nat) : Prop :=
 HO nx n fr ins wnt l ∨ (l = [] ∧ ∀ v, Lp nx fr ins v → wnt v = false)
structure WI (nx : Nat → List Nat) (n : Nat) (fr : List Nat) (ins : Nat → Bool) (ps : List (Int × Int)) : Prop where
 nodup : (ps.map (·.1)).Nodup
 key : ∀ (j : Nat) (h : j < ps.length), ∃ k : Nat, ps[j].1 = k ∧ k < n ∧ ((ps[j].2 = -1 ∧ k ∈ fr) ∨ ∃ (i : Nat) (hi : i < j) (p : Nat), (ps[i]'(Nat.lt_trans hi h)).1 = p ∧ ps[j].2 = p ∧ k ∈ nx p ∧ ins k = true)
theorem WI.nil (nx : Nat → List Nat) (n : Nat) (fr : List Nat) (ins : Nat → Bool) : WI nx n fr ins [] := ⟨List.nodup_nil, fun j h => (by simp at h)⟩
variable {nx : Nat → List Nat} {n : Nat} {fr : List Nat} {ins wnt : Nat → Bool} {ps : List (Int × Int)}
theorem WI.add (w : WI nx n fr ins ps) {k : Nat} {v : Int} (hno : getM ps (k : Int) = none) (hk : k < n) (hv : (v = -1 ∧ k ∈ fr) ∨ ∃ (i : Nat) (hi : i < ps.length) (p : Nat), ps[i].1 = p ∧ v = p ∧ k ∈ nx p ∧ ins k = true) : WI nx n fr ins (ps ++ [((k : Int), v)]) := by
 refine ⟨?_, fun j h => ?_⟩
 · rw [List.map_append, List.nodup_append]
   refine ⟨w.nodup, by simp, fun a ha b hb e => ?_⟩
   obtain ⟨p, hp, rfl⟩ := List.mem_map.1 ha
   simp at hb
   exact (getM_none.1 hno) p hp (e.trans hb)
 · by_cases hj : j < ps.length
   · obtain ⟨k', h1, h2, h3⟩ := w.key j hj
     refine ⟨k', by rw [List.getElem_append_left hj]; exact h1, h2, ?_⟩
     rw [List.getElem_append_left hj]
     rcases h3 with h3 | ⟨i, hi, p, e1, e2, e3⟩
     · exact .inl h3
     · exact .inr ⟨i, hi, p, by rw [List.getElem_append_left (by omega)]; exact e1, e2, e3⟩
   · obtain rfl : j = ps.length := by simp at h; omega
     refine ⟨k, by simp, hk, ?_⟩
     rw [List.getElem_append_right (Nat.le_refl _)]
     simp only [Nat.sub_self, List.getElem_cons_zero]
     rcases hv with hv | ⟨i, hi, p, e1, e2, e3⟩
     · exact .inl hv
     · exact .inr ⟨i, hi, p, by rw [List.getElem_append_left hi]; exact e1, e2, e3⟩
theorem WI.len (w : WI nx n fr ins ps) : ps.length ≤ n := by
 have key : ∀ (m : Nat) (xs : List Int), xs.Nodup → (∀ x ∈ xs, 0 ≤ x ∧ x < (m : Int)) → xs.length ≤ m := by
  intro m
  induction m with
  | zero =>
    intro xs _ h
    cases xs with
    | nil => exact Nat.le_refl _
    | cons x _ => have := h x List.mem_cons_self; omega
  | succ m ih =>
    intro xs hn h
    have i1 := ih (xs.erase m) (hn.erase _) fun x hx => by
     have h1 := h x (List.mem_of_mem_erase hx)
     have h2 : x ≠ m := fun e => by subst e; exact (List.Nodup.not_mem_erase hn) hx
     omega
    have := List.length_erase (a := (m : Int)) (l := xs)
    split at this <;> omega
 have := key n (ps.map (·.1)) w.nodup fun x hx => by
  obtain ⟨p, hp, rfl⟩ := List.mem_map.1 hx
  obtain ⟨j, hj, rfl⟩ := List.getElem_of_mem hp
  obtain ⟨k, h1, h2, _⟩ := w.key j hj
  omega
 rwa [List.length_map] at this
def isKey (ps : List (Int × Int)) (k : Nat) : Prop := getM ps (k : Int) ≠ none
theorem Fc {k : Nat} : isKey ps k ↔ ∃ (j : Nat) (h : j < ps.length), ps[j].1 = k := by
 unfold isKey
 rw [Ne, getM_none]
 constructor
 · intro h
   obtain ⟨p, h⟩ := Classical.not_forall.1 h
   obtain ⟨hp, h⟩ := Classical.not_imp.1 h
   obtain ⟨j, hj, rfl⟩ := List.getElem_of_mem hp
   exact ⟨j, hj, Decidable.not_not.1 h⟩
 · rintro ⟨j, hj, e⟩ h
   exact h _ (List.getElem_mem hj) e
theorem WU {k k' : Nat} {v : Int} : isKey (ps ++ [((k : Int), v)]) k' ↔ isKey ps k' ∨ k' = k := by
 rw [Fc, Fc]
 constructor
 · rintro ⟨j, hj, e⟩
   by_cases h : j < ps.length
   · rw [List.getElem_append_left h] at e; exact .inl ⟨j, h, e⟩
   · obtain rfl : j = ps.length := by simp at hj; omega
     rw [List.getElem_append_right (Nat.le_refl _)] at e
     simp at e
     exact .inr (by omega)
 · rintro (⟨j, hj, e⟩ | rfl)
   · exact ⟨j, by simp; omega, by rw [List.getElem_append_left hj]; exact e⟩
   · exact ⟨ps.length, by simp, by simp⟩
structure WS (nx : Nat → List Nat) (n : Nat) (fr : List Nat) (ins wnt : Nat → Bool) (ps : List (Int × Int)) (td : List Int) (x : Option (Nat × Nat)) : Prop where
 wi : WI nx n fr ins ps
 first : ∀ k ∈ fr, isKey ps k
 todo : ∀ y ∈ td, ∃ k : Nat, y = k ∧ isKey ps k
 un : ∀ k, isKey ps k → wnt k = false
 cl : ∀ k, isKey ps k → (k : Int) ∉ td → (∀ m, x ≠ some (k, m)) → ∀ y ∈ nx k, ins y = true → isKey ps y
 part : ∀ k m, x = some (k, m) → isKey ps k ∧ ∀ y ∈ (nx k).take m, ins y = true → isKey ps y
theorem WS.noway (s : WS nx n fr ins wnt ps [] none) : ∀ v, Lp nx fr ins v → wnt v = false := fun v hv => by
 refine s.un v ?_
 induction hv with
 | base h => exact s.first _ h
 | step _ e hi ih => exact s.cl _ ih (by simp) (fun m => by simp) _ e hi
theorem WS.pop {i : Nat} {td : List Int} (s : WS nx n fr ins wnt ps ((i : Int) :: td) none) : WS nx n fr ins wnt ps td (some (i, 0)) := by
 refine ⟨s.wi, s.first, fun y hy => s.todo y (List.mem_cons_of_mem _ hy), s.un, fun k hk hn hx y hy hi => ?_, fun k m e => ?_⟩
 · refine s.cl k hk (fun h => ?_) (fun m => by simp) y hy hi
   rcases List.mem_cons.1 h with h | h
   · exact hx 0 (by congr 2; omega)
   · exact hn h
 · cases e
   obtain ⟨k, e, hk⟩ := s.todo _ List.mem_cons_self
   obtain rfl : i = k := by omega
   exact ⟨hk, fun y hy => by simp at hy⟩
theorem WS.skip {i m : Nat} {td : List Int} (s : WS nx n fr ins wnt ps td (some (i, m))) (h : m < (nx i).length) (ho : isKey ps (nx i)[m] ∨ ins (nx i)[m] = false) : WS nx n fr ins wnt ps td (some (i, m + 1)) := by
 obtain ⟨p1, p2⟩ := s.part i m rfl
 refine ⟨s.wi, s.first, s.todo, s.un, fun k hk hn hx => s.cl k hk hn fun m' e => ?_, fun k m' e => ?_⟩
 · cases e; exact hx _ rfl
 · cases e
   refine ⟨p1, fun y hy hi => ?_⟩
   rw [List.take_succ_eq_append_getElem h] at hy
   rcases List.mem_append.1 hy with hy | hy
   · exact p2 y hy hi
   · rw [List.mem_singleton.1 hy] at hi ⊢
     rcases ho with ho | ho
     · exact ho
     · rw [ho] at hi; cases hi
theorem WS.meet {i m : Nat} {td : List Int} (s : WS nx n fr ins wnt ps td (some (i, m))) (hn : ∀ i, ∀ k ∈ nx i, k < n) (h : m < (nx i).length) (hno : getM ps ((nx i)[m] : Int) = none) (hi : ins (nx i)[m] = true) (hw : wnt (nx i)[m] = false) : WS nx n fr ins wnt (ps ++ [(((nx i)[m] : Int), (i : Int))]) (td ++ [((nx i)[m] : Int)]) (some (i, m + 1)) := by
 obtain ⟨p1, p2⟩ := s.part i m rfl
 obtain ⟨j, hj, e1⟩ := Fc.1 p1
 have hk : ∀ k, isKey (ps ++ [(((nx i)[m] : Int), (i : Int))]) k ↔ isKey ps k ∨ k = (nx i)[m] := fun k => WU
 refine ⟨s.wi.add hno (hn i _ (List.getElem_mem h)) (.inr ⟨j, hj, i, e1, rfl, List.getElem_mem h, hi⟩), fun k hfr => (hk k).2 (.inl (s.first k hfr)), fun y hy => ?_, fun k hk' => ?_, fun k hk' hnt hx y hy hiy => ?_, fun k m' e => ?_⟩
 · rcases List.mem_append.1 hy with hy | hy
   · obtain ⟨k, e, h⟩ := s.todo y hy
     exact ⟨k, e, (hk k).2 (.inl h)⟩
   · exact ⟨_, List.mem_singleton.1 hy, (hk _).2 (.inr rfl)⟩
 · rcases (hk k).1 hk' with h | rfl
   · exact s.un k h
   · exact hw
 · rcases (hk k).1 hk' with hkp | rfl
   · exact (hk y).2 (.inl (s.cl k hkp (fun h => hnt (List.mem_append_left _ h)) (fun m' e => hx _ (by cases e; rfl)) y hy hiy))
   · exact absurd (List.mem_append_right td (List.mem_singleton.2 rfl)) hnt
 · cases e
   refine ⟨(hk i).2 (.inl p1), fun y hy hiy => ?_⟩
   rw [List.take_succ_eq_append_getElem h] at hy
   rcases List.mem_append.1 hy with hy | hy
   · exact (hk y).2 (.inl (p2 y hy hiy))
   · exact (hk y).2 (.inr (List.mem_singleton.1 hy))
theorem WS.done {i : Nat} {td : List Int} (s : WS nx n fr ins wnt ps td (some (i, (nx i).length))) : WS nx n fr ins wnt ps td none := by
 obtain ⟨p1, p2⟩ := s.part i _ rfl
 rw [List.take_length] at p2
 refine ⟨s.wi, s.first, s.todo, s.un, fun k hk hn _ y hy hi => ?_, fun k m e => by cases e⟩
 by_cases e : k = i
 · subst e; exact p2 y hy hi
 · exact s.cl k hk hn (fun m h => e (by cases h; rfl)) y hy hi
def kAt (ps : List (Int × Int)) (p : Nat) : Int := if p = 0 then -1 else ((ps[p - 1]?).map (·.1)).getD 0
theorem YK (ps : List (Int × Int)) : kAt ps 0 = -1 := rfl
theorem Jd (ps : List (Int × Int)) (j : Nat) (h : j < ps.length) : kAt ps (j + 1) = ps[j].1 := by
 unfold kAt; rw [if_neg (by omega), Nat.add_sub_cancel, List.getElem?_eq_getElem h]; rfl
structure Bk (nx : Nat → List Nat) (n : Nat) (fr : List Nat) (ins wnt : Nat → Bool) (ps : List (Int × Int)) (p : Nat) (l : List Nat) : Prop where
 le : p ≤ ps.length
 more : 0 < p → ∀ k : Nat, kAt ps p = k → Bj nx ins (k :: l) ∧ ∀ a, (k :: l).getLast? = some a → wnt a = true
 lt : ∀ a ∈ l, a < n
 fin : p = 0 → HO nx n fr ins wnt l
theorem b7 (w : (ps.map (·.1)).Nodup) (j : Nat) (h : j < ps.length) : getM ps ps[j].1 = some ps[j].2 := by
 induction ps generalizing j with
 | nil => simp at h
 | cons q ps ih =>
   cases j with
   | zero => simp [getM]
   | succ j =>
     rw [List.map_cons, List.nodup_cons] at w
     have hne : ¬ q.1 = (ps[j]'(by simpa using h)).1 := fun e => w.1 (e ▸ List.mem_map.2 ⟨_, List.getElem_mem (by simpa using h), rfl⟩)
     have := ih w.2 j (by simpa using h)
     simp only [List.getElem_cons_succ]
     rw [← this]
     simp [getM, hne]
theorem Bk.step {j : Nat} {l : List Nat} (w : WI nx n fr ins ps) (b : Bk nx n fr ins wnt ps (j + 1) l) : ∃ k : Nat, ∃ p : Nat, kAt ps (j + 1) = k ∧ getM ps (k : Int) = some (kAt ps p) ∧ p ≤ j ∧ Bk nx n fr ins wnt ps p (k :: l) := by
 have hj : j < ps.length := b.le
 obtain ⟨k, h1, h2, h3⟩ := w.key j hj
 have hk := Jd ps j hj
 have hg := b7 w.nodup j hj
 rw [h1] at hg hk
 obtain ⟨c1, c2⟩ := b.more (by omega) k hk
 have hlt : ∀ a ∈ k :: l, a < n := fun a ha => by
  rcases List.mem_cons.1 ha with rfl | ha
  · exact h2
  · exact b.lt a ha
 rcases h3 with ⟨e, hfr⟩ | ⟨i, hi, p, e1, e2, e3, e4⟩
 · refine ⟨k, 0, hk, by rw [hg, e]; rfl, Nat.zero_le _, Nat.zero_le _, fun h => absurd h (by omega), hlt, fun _ => ⟨by simp, fun a ha => ?_, c1, c2, hlt⟩⟩
   simp at ha; subst ha; exact hfr
 · have hkp := Jd ps i (by omega)
   rw [e1] at hkp
   refine ⟨k, i + 1, hk, by rw [hg, e2, hkp], by omega, by omega, fun _ k' hk' => ?_, hlt, fun h => absurd h (by omega)⟩
   obtain rfl : p = k' := by omega
   exact ⟨⟨⟨e3, e4⟩, c1⟩, fun a ha => c2 a (by rwa [List.getLast?_cons_cons] at ha)⟩
theorem Bk.start {j k : Nat} (w : WI nx n fr ins ps) (hj : j < ps.length) (hk : ps[j].1 = k) (hw : wnt k = true) : Bk nx n fr ins wnt ps (j + 1) [] := by
 refine ⟨hj, fun _ k' hk' => ?_, fun a ha => (by cases ha), fun h => absurd h (by omega)⟩
 rw [Jd ps j hj, hk] at hk'
 obtain rfl : k = k' := by omega
 exact ⟨trivial, fun a ha => by simp at ha; subst ha; exact hw⟩
theorem WS.start (hn : fr.Nodup) (hlt : ∀ k ∈ fr, k < n) (hw : ∀ k ∈ fr, wnt k = false) : WS nx n fr ins wnt (fr.map fun k : Nat => ((k : Int), (-1 : Int))) (fr.map fun k : Nat => (k : Int)) none := by
 have hk : ∀ k, isKey (fr.map fun k : Nat => ((k : Int), (-1 : Int))) k ↔ k ∈ fr := fun k => by
  rw [Fc]
  constructor
  · rintro ⟨j, hj, e⟩
    rw [List.getElem_map] at e
    have hj' : j < fr.length := by simpa using hj
    have : fr[j] = k := by dsimp only at e; omega
    rw [← this]; exact List.getElem_mem hj'
  · intro h
    obtain ⟨j, hj, rfl⟩ := List.getElem_of_mem h
    exact ⟨j, by simpa using hj, by rw [List.getElem_map]⟩
 refine ⟨⟨?_, fun j h => ?_⟩, fun k h => (hk k).2 h, fun y hy => ?_, fun k h => hw k ((hk k).1 h), fun k h hno => ?_, fun k m e => by cases e⟩
 · rw [List.map_map]
   exact List.Pairwise.map _ (fun a b h e => h (by dsimp only [Function.comp] at e; omega)) hn
 · have hj' : j < fr.length := by simpa using h
   refine ⟨fr[j], by rw [List.getElem_map], hlt _ (List.getElem_mem hj'), .inl ⟨by rw [List.getElem_map], List.getElem_mem hj'⟩⟩
 · obtain ⟨k, hkm, rfl⟩ := List.mem_map.1 hy
   exact ⟨k, rfl, (hk k).2 hkm⟩
 · exact absurd (List.mem_map.2 ⟨k, (hk k).1 h, rfl⟩) hno
theorem V0.one {k : Nat} (h : k ∈ fr) (hk : k < n) (hw : wnt k = true) : V0 nx n fr ins wnt [k] :=
 .inl ⟨by simp, fun a ha => by simp at ha; subst ha; exact h, trivial, fun a ha => by simp at ha; subst ha; exact hw, fun a ha => by rw [List.mem_singleton.1 ha]; exact hk⟩

noncomputable def Hy (g : Gn) (h k : Nat) : Bool := decide (ni (A1 g) k = h)
theorem Le (g : Gn) {i : Nat} (h : i < g.spots.length) : ((ni (A1 g) i : Nat) : Int) = partOf g.nx i := by
 have h1 := GA (nx := g.nx) i
 rw [Ce _ _ (by rw [DX]; exact h)]
 simp only [A1, List.getElem_map, List.getElem_range]
 omega
theorem Dk (g : Gn) {i k : Nat} (hi : i < g.spots.length) (hk : k < g.spots.length) : ni (A1 g) i = ni (A1 g) k ↔ Rch g.nx i k ∧ Rch g.nx k i := by
 rw [← Ti, ← Le g hi, ← Le g hk]
 omega
theorem Rch.head {nx : Nat → List Nat} {i j : Nat} (h : Rch nx i j) : i = j ∨ ∃ k ∈ nx i, Rch nx k j := by
 induction h with
 | refl => exact .inl rfl
 | step _ e ih =>
   rcases ih with rfl | ⟨k, hk, h⟩
   · exact .inr ⟨_, e, .refl _⟩
   · exact .inr ⟨k, hk, .step h e⟩
section
variable {g : Gn} {h : Nat}
theorem Nz (hok : g.ok) {i v : Nat} (hi : i < g.spots.length) (hih : ni (A1 g) i = h) (h1 : Rch g.nx i v) (h2 : Rch g.nx v i) : Lp g.nx [i] (Hy g h) v := by
 induction h1 with
 | refl => exact .base (List.mem_singleton.2 rfl)
 | step h3 e ih =>
   have h4 := (Rch.one e).trans h2
   refine .step (ih h4) e ?_
   have hk := g.nx_lt hok _ _ e
   unfold Hy
   rw [decide_eq_true_iff, ← hih, Dk g hk hi]
   exact ⟨h2, h3.step e⟩
theorem V0.found {nx : Nat → List Nat} {n : Nat} {fr : List Nat} {ins wnt : Nat → Bool} {l : List Nat} (w : V0 nx n fr ins wnt l) {v : Nat} (hv : Lp nx fr ins v) (hw : wnt v = true) : HO nx n fr ins wnt l := by
 rcases w with w | ⟨_, w⟩
 · exact w
 · rw [w v hv] at hw; cases hw
theorem L8 (hh : Cu g h) : Lp g.nx (List.range g.init) (fun _ => true) h := by
 obtain ⟨j, hj, hr⟩ := hh
 induction hr with
 | refl => exact .base (List.mem_range.2 hj)
 | step _ e ih => exact .step ih e rfl
theorem OI (hok : g.ok) (hf : Fk g (A1 g) h) {a s : Nat} (ha : a < g.spots.length) (hah : ni (A1 g) a = h) (hs : s < g.many) : ∃ v, Lp g.nx [a] (Hy g h) v ∧ (ni g.sets v).testBit s = true := by
 obtain ⟨u, hu, e, hb⟩ := hf.2.2 s hs
 obtain ⟨r1, r2⟩ := (Dk g ha hu).1 (hah.trans e.symm)
 exact ⟨u, Nz hok ha hah r1 r2, hb⟩
theorem Li (hok : g.ok) (hf : Fk g (A1 g) h) {a : Nat} (ha : a < g.spots.length) (hah : ni (A1 g) a = h) : ∃ k ∈ g.nx a, Hy g h k = true := by
 obtain ⟨u, hu, e, w, hw, ew⟩ := hf.2.1
 obtain ⟨r1, r2⟩ := (Dk g ha hu).1 (hah.trans e.symm)
 rcases r1.head with rfl | ⟨k, hk, r3⟩
 · exact ⟨w, hw, decide_eq_true ew⟩
 · refine ⟨k, hk, decide_eq_true ?_⟩
   rw [← e, Dk g (g.nx_lt hok _ _ hk) hu]
   exact ⟨r3, r2.trans (Rch.one hk)⟩
theorem Ly (hok : g.ok) (hh : h < g.spots.length) (hf : Fk g (A1 g) h) {k : Nat} (hk : k < g.spots.length) (hkh : ni (A1 g) k = h) : Lp g.nx [k] (Hy g h) h := by
 obtain ⟨r1, r2⟩ := (Dk g hk hh).1 (hkh.trans hf.1.symm)
 exact Nz hok hk hkh r1 r2
end
section
variable {nx : Nat → List Nat} {ins : Nat → Bool}
theorem Bj.app : ∀ {l : List Nat} {a : Nat} {t : List Nat}, Bj nx ins l → l.getLast? = some a → Bj nx ins (a :: t) → Bj nx ins (l ++ t)
 | [], a, t, _, h, _ => by simp at h
 | [x], a, t, _, h, c => by
   simp at h; subst h; exact c
 | x :: y :: l, a, t, c, h, d => by
   rw [List.getLast?_cons_cons] at h
   exact ⟨c.1, Bj.app (l := y :: l) c.2 h d⟩
theorem Bj.mono {ins' : Nat → Bool} (hi : ∀ k, ins k = true → ins' k = true) : ∀ {l : List Nat}, Bj nx ins l → Bj nx ins' l
 | [], _ => trivial
 | [_], _ => trivial
 | _ :: _ :: _, c => ⟨⟨c.1.1, hi _ c.1.2⟩, Bj.mono hi c.2⟩
theorem Bj.all : ∀ {a : Nat} {t : List Nat}, Bj nx ins (a :: t) → ∀ x ∈ t, ins x = true
 | _, [], _, x, hx => by cases hx
 | _, y :: t, c, x, hx => by
   rcases List.mem_cons.1 hx with rfl | hx
   · exact c.1.2
   · exact Bj.all c.2 x hx
end
theorem HO.cons {nx : Nat → List Nat} {n i : Nat} {ins wnt : Nat → Bool} {l : List Nat} (w : HO nx n [i] ins wnt l) : ∃ t, l = i :: t := by
 cases l with
 | nil => exact absurd rfl w.ne
 | cons a t => exact ⟨t, by rw [List.mem_singleton.1 (w.head a rfl)]⟩
theorem HO.back {nx : Nat → List Nat} {n h : Nat} {fr : List Nat} {ins : Nat → Bool} {l : List Nat} (w : HO nx n fr ins (fun k => decide (k = h)) l) : l = l.dropLast ++ [h] := by
 have h1 := List.dropLast_concat_getLast w.ne
 have h2 := w.last _ (List.getLast?_eq_some_getLast w.ne)
 rw [of_decide_eq_true h2] at h1
 exact h1.symm
structure Hv (g : Gn) (h b : Nat) (l : List Nat) (met : Nat) : Prop where
 head : l.head? = some h
 chain : Bj g.nx (Hy g h) l
 ins : ∀ a ∈ l, a < g.spots.length ∧ ni (A1 g) a = h
 bits : ∀ s, s < b → ∃ a ∈ l, (ni g.sets a).testBit s = true
 met : ∀ s, met.testBit s = true → ∃ a ∈ l, (ni g.sets a).testBit s = true
section
variable {g : Gn} {h b met : Nat} {l : List Nat}
theorem Hv.start (hh : h < g.spots.length) (hf : Fk g (A1 g) h) : Hv g h 0 [h] (ni g.sets h) :=
 ⟨rfl, trivial, fun a ha => (by rw [List.mem_singleton.1 ha]; exact ⟨hh, hf.1⟩), fun s hs => absurd hs (Nat.not_lt_zero s), fun s hs => ⟨h, List.mem_singleton.2 rfl, hs⟩⟩
theorem Hv.ne (w : Hv g h b l met) : l ≠ [] := fun e => by have := w.head; rw [e] at this; cases this
theorem Hv.skip (w : Hv g h b l met) (hb : met.testBit b = true) : Hv g h (b + 1) l met :=
 ⟨w.head, w.chain, w.ins, fun s hs => by
  by_cases e : s = b
  · subst e; exact w.met _ hb
  · exact w.bits s (by omega), w.met⟩
theorem Hv.join (w : Hv g h b l met) {a : Nat} {t : List Nat} {met' : Nat} (ha : l.getLast? = some a) (v : HO g.nx g.spots.length [a] (Hy g h) (fun k => (ni g.sets k).testBit b) (a :: t)) (hm : ∀ s, met'.testBit s = true → met.testBit s = true ∨ ∃ x ∈ t, (ni g.sets x).testBit s = true) : Hv g h (b + 1) (l ++ t) met' := by
 have hal : a ∈ l := List.mem_of_getLast? ha
 refine ⟨?_, w.chain.app ha v.chain, fun x hx => ?_, fun s hs => ?_, fun s hs => ?_⟩
 · rw [List.head?_append, w.head]; rfl
 · rcases List.mem_append.1 hx with hx | hx
   · exact w.ins x hx
   · exact ⟨v.lt x (List.mem_cons_of_mem _ hx), of_decide_eq_true (v.chain.all x hx)⟩
 · by_cases e : s = b
   · subst e
     obtain ⟨z, hz⟩ : ∃ z, (a :: t).getLast? = some z := ⟨_, List.getLast?_eq_some_getLast (by simp)⟩
     have h1 := v.last z hz
     rcases List.mem_cons.1 (List.mem_of_getLast? hz) with rfl | hzt
     · exact ⟨z, List.mem_append_left _ hal, h1⟩
     · exact ⟨z, List.mem_append_right _ hzt, h1⟩
   · obtain ⟨x, hx, e⟩ := w.bits s (by omega)
     exact ⟨x, List.mem_append_left _ hx, e⟩
 · rcases hm s hs with h1 | ⟨x, hx, e⟩
   · obtain ⟨x, hx, e⟩ := w.met s h1
     exact ⟨x, List.mem_append_left _ hx, e⟩
   · exact ⟨x, List.mem_append_right _ hx, e⟩
end
structure O0 (g : Gn) (stem loop : List Nat) : Prop where
 ne : loop ≠ []
 lt : ∀ a ∈ stem ++ loop, a < g.spots.length
 chain : ∀ a, loop.head? = some a → Bj g.nx (fun _ => true) (stem ++ loop ++ [a])
 first : ∀ a, (stem ++ loop).head? = some a → a < g.init
 bits : ∀ s, s < g.many → ∃ a ∈ loop, (ni g.sets a).testBit s = true
theorem Hv.fits {g : Gn} {h met : Nat} {l ws w2 : List Nat} {a k : Nat} (w : Hv g h g.many l met) (ha : l.getLast? = some a) (hk : k ∈ g.nx a) (hki : Hy g h k = true)
 (s : HO g.nx g.spots.length (List.range g.init) (fun _ => true) (fun k => decide (k = h)) ws) (v : HO g.nx g.spots.length [k] (Hy g h) (fun k => decide (k = h)) w2) : O0 g ws.dropLast (l ++ w2.dropLast) := by
 obtain ⟨t, e2⟩ := v.cons
 have hb2 := v.back
 have hb1 := s.back
 have c1 : Bj g.nx (Hy g h) (l ++ w2) := w.chain.app ha (by rw [e2]; exact ⟨⟨hk, hki⟩, e2 ▸ v.chain⟩)
 have c2 : Bj g.nx (fun _ => true) (l ++ w2) := c1.mono fun _ _ => rfl
 have hh := w.head
 have hd : (l ++ w2.dropLast).head? = some h := by rw [List.head?_append, hh]; rfl
 obtain ⟨l', rfl⟩ : ∃ l', l = h :: l' := by
  cases l with
  | nil => cases hh
  | cons x l' => cases hh; exact ⟨l', rfl⟩
 refine ⟨fun e => (by rw [e] at hd; cases hd), fun x hx => ?_, fun x hx => ?_, fun x hx => ?_, fun b hb => ?_⟩
 · rcases List.mem_append.1 hx with hx | hx
   · exact s.lt x (List.dropLast_subset _ hx)
   · rcases List.mem_append.1 hx with hx | hx
     · exact (w.ins x hx).1
     · exact v.lt x (List.dropLast_subset _ hx)
 · rw [hd] at hx
   cases hx
   have c3 : Bj g.nx (fun _ => true) (ws ++ (l' ++ w2)) := by
    refine s.chain.app (a := h) (by rw [hb1, List.getLast?_append]; rfl) ?_
    exact c2
   rw [hb1, hb2] at c3
   simpa using c3
 · have : ws.head? = some x := by
    rw [hb1]
    rw [List.head?_append] at hx ⊢
    cases hw : ws.dropLast.head? with
    | none => rw [hw] at hx; rw [hd] at hx; exact hx
    | some y => rw [hw] at hx; exact hx
   exact List.mem_range.1 (s.head x this)
 · obtain ⟨x, hx, e⟩ := w.bits b hb
   exact ⟨x, List.mem_append_left _ hx, e⟩
end Go.Sp
namespace Go.Av
open Go Go.Sort Go.Proofs Go.Sp

abbrev DL (l : List Int) : List Int := l.mergeSort fun x y => decide (x ≤ y)
theorem Jy {w : World} {I : Nat → Prop} : ∀ {xs : List Int} {us : List Value}, AV.rels w I ((xs.map Ag).flatten.map D.av) us → us = xs.map (Value.int .i64)
 | [], [], _ => rfl
 | [], _ :: _, h => h.elim
 | x :: xs, [], h => h.elim
 | x :: xs, u :: us, h => by
   obtain ⟨h1, h2⟩ := h
   rw [List.map_cons, ← Jy h2, show u = .int .i64 x from h1]
theorem Jo (w : World) (I : Nat → Prop) : ∀ xs : List Int, AV.rels w I ((xs.map Ag).flatten.map D.av) (xs.map (Value.int .i64))
 | [] => trivial
 | x :: xs => ⟨rfl, Jo w I xs⟩
theorem X4 {P : Program} {G : List (Nat × List D)} {f : FuncId} {E : TypeId} (q : Sl) (xs : List Int) (hbig : xs.length < 4611686018427387904)
 (hc : ∀ (blk cap : Nat) (zs : List Int) (w : World), Holds (Value.int .i64) w blk 0 zs.toArray → blk < w.heap.size → zs.length < 4611686018427387904 → Calls P f #[.slice (some ⟨blk, 0, none⟩) zs.length cap] w fun e w' => e = .returned (.tuple #[]) ∧ ∃ n os, w' = grow (putRow (Value.int .i64) (Sort.ahead w n) blk 0 (DL zs).toArray) os)
 (hn : ∀ w : World, Calls P f #[.slice none 0 0] w fun e w' => e = .returned (.tuple #[]) ∧ w' = w) :
 AC P G f [.val q.v] [AF q.v E 1 Ag xs] fun e h => e = .ret (.tup []) ∧ h = [AF q.v E 1 Ag (DL xs)] := by
 intro I W vs h1 h2 h3 h4 h5
 obtain ⟨v, rfl⟩ : ∃ v, vs = [v] := by
  cases vs with
  | nil => exact h5.elim
  | cons v t => cases t with
    | nil => exact ⟨v, rfl⟩
    | cons _ _ => exact h5.2.elim
 obtain rfl : v = q.v := h5.1
 obtain ⟨us, ho, hr⟩ := h1 _ List.mem_cons_self
 obtain rfl := Jy hr
 have hls : (DL xs).length = xs.length := List.length_mergeSort _
 rcases ho.2 with ⟨e1, e2⟩ | ⟨g, cap, cur, e1, e2, e3, e4, e5, e6, e7⟩
 · obtain rfl : xs = [] := List.length_eq_zero_iff.1 e2
   have hz : DL ([] : List Int) = [] := by simp [DL]
   rw [e1, hz]
   refine (hn W).mono ?_
   rintro e w' ⟨rfl, rfl⟩
   refine ⟨_, _, I, ⟨rfl, rfl⟩, ⟨fun e he => ?_, List.nodup_nil, fun b hb => ⟨(h3 b hb).1, (fun k => by cases k)⟩, fun b hb => (by cases hb), fun b hb => .inl hb, fun b hb => hb, rfl, rfl, rfl, Nat.le_refl _, fun _ _ _ => rfl, h4⟩, ⟨[], rfl, trivial⟩⟩
   obtain rfl := List.mem_singleton.1 he
   exact ⟨[], ⟨rfl, .inl ⟨rfl, rfl⟩⟩, trivial⟩
 · have hq : q = ⟨some ⟨g, 0, none⟩, xs.length, cap⟩ := by
    have h := e1
    simp only [Sl.v, Value.slice.injEq] at h
    obtain ⟨a, b, c⟩ := h
    cases q; simp_all
   subst hq
   have hbl : ∀ ys : List Int, blks [AF (Sl.v ⟨some ⟨g, 0, none⟩, xs.length, cap⟩) E 1 Ag ys] = [g] := fun ys => rfl
   have hgs : g < W.heap.size := (Array.getElem?_eq_some_iff.1 e3).1
   refine (hc g cap xs W (holds_of_blockI e3 (by rw [Nat.mul_one] at e7; exact e7)) hgs hbig).mono ?_
   rintro e w' ⟨rfl, n, os, rfl⟩
   have hg := grownBy_sortedI (w := W) (g := g) (n := n) (os := os) (DL xs).toArray
   have hkeep : ∀ b, I b → (grow (putRow (Value.int .i64) (Sort.ahead W n) g 0 (DL xs).toArray) os).heap[b]? = W.heap[b]? := fun b hb => by
    refine hg.block b (h3 b hb).1 fun e => ?_
    have := (h3 b hb).2
    rw [hbl] at this
    exact this (by rw [Option.some.inj e]; exact List.mem_singleton.2 rfl)
   refine ⟨_, _, I, ⟨rfl, rfl⟩, ⟨fun e he => ?_, ?_, fun b hb => ⟨Nat.lt_of_lt_of_le (h3 b hb).1 hg.size, ?_⟩, fun b hb => ?_, fun b hb => .inl hb, fun b hb => hb, hg.os, hg.tape, hg.output, hg.size, fun b hb hne => ?_, fun q hq => PD.mono hkeep (fun _ h => h) (h4 q hq)⟩, ⟨[], rfl, trivial⟩⟩
   · obtain rfl := List.mem_singleton.1 he
     have hos := ownsRow_sortedI (n := n) (os := os) (base := 0) hls (Nat.zero_le g) e3 e4 e5 e6
     refine ⟨(DL xs).map (Value.int .i64), ?_, Jo _ _ _⟩
     rw [hls]; exact hos
   · rw [hbl]; simp
   · have := (h3 b hb).2
     rw [hbl] at this ⊢; exact this
   · rw [hbl] at hb; rw [hbl]; exact .inl hb
   · refine hg.block b hb fun e => hne ?_
     rw [hbl, Option.some.inj e]; exact List.mem_singleton.2 rfl
theorem Qx {P : Program} {G : List (Nat × List D)} {f : FuncId} {E : TypeId} (q : Sl) (xs : List Int) (hbig : xs.length ≤ 9223372036854775807) (hk : (Lib.compact xs).length ≤ xs.length)
 (hc : ∀ (blk cap : Nat) (zs : List Int) (w : World), Holds (Value.int .i64) w blk 0 zs.toArray → zs.length ≤ 9223372036854775807 → zs.length ≤ cap → Calls P f #[.slice (some ⟨blk, 0, none⟩) zs.length cap] w fun e w' => e = .returned (.slice (some ⟨blk, 0, none⟩) (Lib.compact zs).length cap) ∧ ∃ q, w' = putRow (Value.int .i64) (Sort.ahead w q) blk 0 (Lib.compact zs ++ List.replicate (zs.length - (Lib.compact zs).length) 0).toArray)
 (hn : ∀ w : World, Calls P f #[.slice none 0 0] w fun e w' => e = .returned (.slice none 0 0) ∧ w' = w) :
 AC P G f [.val q.v] [AF q.v E 1 Ag xs] fun e h => ∃ q' : Sl, e = .ret (.val q'.v) ∧ h = [AF q'.v E 1 Ag (Lib.compact xs)] := by
 intro I W vs h1 h2 h3 h4 h5
 obtain ⟨v, rfl⟩ : ∃ v, vs = [v] := by
  cases vs with
  | nil => exact h5.elim
  | cons v t => cases t with
    | nil => exact ⟨v, rfl⟩
    | cons _ _ => exact h5.2.elim
 obtain rfl : v = q.v := h5.1
 obtain ⟨us, ho, hr⟩ := h1 _ List.mem_cons_self
 obtain rfl := Jy hr
 rcases ho.2 with ⟨e1, e2⟩ | ⟨g, cap, cur, e1, e2, e3, e4, e5, e6, e7⟩
 · obtain rfl : xs = [] := List.length_eq_zero_iff.1 e2
   rw [e1]
   refine (hn W).mono ?_
   rintro e w' ⟨rfl, rfl⟩
   refine ⟨_, _, I, ⟨Sl.nil, rfl, rfl⟩, ⟨fun e he => ?_, List.nodup_nil, fun b hb => ⟨(h3 b hb).1, (fun k => by cases k)⟩, fun b hb => (by cases hb), fun b hb => .inl hb, fun b hb => hb, rfl, rfl, rfl, Nat.le_refl _, fun _ _ _ => rfl, h4⟩, rfl⟩
   obtain rfl := List.mem_singleton.1 he
   exact ⟨[], ⟨rfl, .inl ⟨rfl, rfl⟩⟩, trivial⟩
 · have hq : q = ⟨some ⟨g, 0, none⟩, xs.length, cap⟩ := by
    have h := e1
    simp only [Sl.v, Value.slice.injEq] at h
    obtain ⟨a, b, c⟩ := h
    cases q; simp_all
   subst hq
   have hbl : ∀ (n : Nat) (ys : List Int), blks [AF (Sl.v ⟨some ⟨g, 0, none⟩, n, cap⟩) E 1 Ag ys] = [g] := fun n ys => rfl
   refine (hc g cap xs W (holds_of_blockI e3 (by rw [Nat.mul_one] at e7; exact e7)) hbig e4).mono ?_
   rintro e w' ⟨rfl, n, rfl⟩
   generalize hys : Lib.compact xs ++ List.replicate (xs.length - (Lib.compact xs).length) 0 = ys
   have hyl : ys.length = xs.length := by rw [← hys, List.length_append, List.length_replicate]; omega
   have hg := grownBy_sortedI (w := W) (g := g) (n := n) (os := #[]) ys.toArray
   have hh := heap_sortedI (w := W) (g := g) (n := n) (os := #[]) ys.toArray e3
   rw [grow_empty] at hg hh
   have hkeep : ∀ b, I b → (putRow (Value.int .i64) (Sort.ahead W n) g 0 ys.toArray).heap[b]? = W.heap[b]? := fun b hb => by
    refine hg.block b (h3 b hb).1 fun e => ?_
    have := (h3 b hb).2
    rw [hbl] at this
    exact this (by rw [Option.some.inj e]; exact List.mem_singleton.2 rfl)
   refine ⟨_, _, I, ⟨⟨some ⟨g, 0, none⟩, (Lib.compact xs).length, cap⟩, rfl, rfl⟩, ⟨fun e he => ?_, ?_, fun b hb => ⟨Nat.lt_of_lt_of_le (h3 b hb).1 hg.size, ?_⟩, fun b hb => ?_, fun b hb => .inl hb, fun b hb => hb, hg.os, hg.tape, hg.output, hg.size, fun b hb hne => ?_, fun q hq => PD.mono hkeep (fun _ h => h) (h4 q hq)⟩, rfl⟩
   · obtain rfl := List.mem_singleton.1 he
     have ht := take_putCellsI cur ys (by rw [hyl]; omega)
     refine ⟨(Lib.compact xs).map (Value.int .i64), ⟨by simp, .inr ⟨g, cap, _, rfl, Nat.zero_le _, hh, by omega, e5, by simp [putCells, e6], ?_⟩⟩, Jo _ _ _⟩
     have h := congrArg (List.take (Lib.compact xs).length) ht
     rw [List.take_take, Nat.min_eq_left (by omega), ← List.map_take, ← hys, List.take_left] at h
     rw [Nat.mul_one]; rw [← hys]; exact h
   · rw [hbl]; simp
   · have := (h3 b hb).2
     rw [hbl] at this ⊢; exact this
   · rw [hbl] at hb; rw [hbl]; exact .inl hb
   · refine hg.block b hb fun e => hne ?_
     rw [hbl, Option.some.inj e]; exact List.mem_singleton.2 rfl
open Go Go.Instr
section
variable {P : Program} {G : List (Nat × List D)} {ρ : Env} {h : H} {dst : Option Tmp} {ty : TypeId} {pos : String} {after : Array Edge} {g : Option (Nat × Bool)}
theorem DM {α β : Type} [DecidableEq α] {kd : TypeDesc} {kv : α → Value} {vv : β → Value} (K : J5 kd kv) {T KT ET : TypeId} {x y : Operand} {b : Nat} {ps : List (α × β)} {a : α}
 (hx : evO ρ x = some (.val (.map (some b)))) (hy : evO ρ y = some (.val (kv a))) (hT : P.underlying T = some (.map KT ET)) (hK : P.underlying KT = some kd) (hm : Ent.raw b (Ay (Ab kv vv ps)) ∈ h) {c : β} (hc : getM ps a = some c) :
 Pure P G ⟨dst, .lookup T x y false, ty, pos, after, g⟩ ρ h (.val (vv c)) := by
 intro cx I n ac w _ hok hs
 have e1 := AI (hs.ev x) (AA hx)
 have e2 := AI (hs.ev y) (AA hy)
 have hb : w.heap[b]? = some (Ay (Ab kv vv ps)) := hok.ent _ hm
 refine ⟨vv c, rfl, fun w' hw' => ?_⟩
 have hb' : w'.heap[b]? = some (Ay (Ab kv vv ps)) := (hw'.own b (Ct hm rfl)).trans hb
 have hobj : (getObj b).run P w' = .ok (.map (BR (Ab kv vv ps) 0).toArray (Ab kv vv ps).length) w' := by simp [getObj, Sem.run, hb', Ay]
 obtain ⟨r, hr1, hr2⟩ := Ra (vv := vv) K hK ps a w'
 simp only [execOp, e1, e2, lookup]
 rw [hc] at hr2
 cases r with
 | none => cases hr2
 | some p =>
   obtain ⟨j, v⟩ := p
   obtain rfl : v = vv c := by simpa using hr2
   simp [run_underlying hT, hobj, K.easy P KT _ a w' hK, hr1]
end
section
variable {k : Kx} {Q : Exit → Env → H → Prop} {ρ : Env} {h h' : H} {ops : Array Oper} {l : List Oper} {d : Nat} {ty : TypeId} {pos : String} {after : Array Edge} {g : Option (Nat × Bool)}
-- an entry of a literal
theorem Ew {α β : Type} [DecidableEq α] {kd : TypeDesc} {kv : α → Value} {vv : β → Value} (K : J5 kd kv) {T KT ET : TypeId} {x y u : Operand} {r : AV} {b : Nat} {ps : List (α × β)} {a : α} {c : β}
 (hx : evO ρ x = some (.val (.map (some b)))) (hy : evO ρ y = some (.val (kv a))) (hv : evO ρ u = some r) (hr : ∀ w I v, AV.rel w I r v → v = vv c) (hT : k.P.underlying T = some (.map KT ET)) (hK : k.P.underlying KT = some kd)
 (hu : Upd (.raw b (Ay (Ab kv vv ps))) (.raw b (Ay (Ab kv vv (ps ++ [(a, c)])))) h h') (hno : getM ps a = none)
 (hj : JL k ops l Q ρ h') : JL k ops (⟨none, .insert T x y u, ty, pos, after, none⟩ :: l) Q ρ h := by
 obtain ⟨h1, h2, rfl, rfl⟩ := hu.split
 refine FH rfl rfl fun I ac w k1 k2 => ?_
 have e1 := AI (k2.ev x) (AA hx)
 have e2 := AI (k2.ev y) (AA hy)
 have e3 := hr _ _ _ (BS (k2.ev u) (AA hv))
 have hb : w.heap[b]? = some (Ay (Ab kv vv ps)) := k1.ent (.raw b (Ay (Ab kv vv ps))) (by simp)
 have hfind := Kz (vv := vv) K a ps 0 0 (getM_none.1 hno)
 have hnew : Obj.map (BR (Ab kv vv ps) 0 ++ [(⟨kv a, vv c, (Ab kv vv ps).length⟩ : MapEntry)]).toArray ((Ab kv vv ps).length + 1) = Ay (Ab kv vv (ps ++ [(a, c)])) := by
  have e : Ab kv vv (ps ++ [(a, c)]) = Ab kv vv ps ++ [(kv a, vv c)] := by simp [Ab]
  unfold Ay
  rw [e, EN]
  simp [BR]
 obtain ⟨g1, g2⟩ := k1.write (w' := { w with heap := w.heap.setIfInBounds b (Ay (Ab kv vv (ps ++ [(a, c)]))) }) (e' := .raw b (Ay (Ab kv vv (ps ++ [(a, c)])))) (b := b) rfl rfl rfl rfl rfl (by simp)
  (fun x hx => by simp [Array.getElem?_setIfInBounds, Ne.symm hx]) (by
   have hlt := (Array.getElem?_eq_some_iff.1 hb).1
   show _ = _
   simp [Array.getElem?_setIfInBounds, hlt])
 refine ⟨{ w with heap := w.heap.setIfInBounds b (Ay (Ab kv vv (ps ++ [(a, c)]))) }, I, h1 ++ .raw b (Ay (Ab kv vv (ps ++ [(a, c)]))) :: h2, ?_, g1, k2.mono g2 (fun _ h => h), hj⟩
 have hobj : (getObj b).run k.P w = .ok (.map (BR (Ab kv vv ps) 0).toArray (Ab kv vv ps).length) w := by simp [getObj, Sem.run, hb, Ay]
 have hset := LO (P := k.P) (w := w) (r := b) (Ay (Ab kv vv (ps ++ [(a, c)]))) (es := (BR (Ab kv vv ps) 0).toArray) (clock := (Ab kv vv ps).length) hb
 simp only [execOp, e1, e2, e3, mapUpdate]
 simp [run_underlying hT, hobj, K.easy k.P KT false a w hK, findKey, run_underlying hK, hfind, hnew, hset]
theorem Cz {α β : Type} (kv : α → Value) (vv : β → Value) {T : TypeId} (hd : Nat.blt d k.n = true) (hj : All fun b : Nat => JL k ops l Q ((d, .val (.map (some b))) :: ρ) (.raw b (Ay (Ab kv vv [])) :: h)) : JL k ops (⟨some d, .makeMap T none, ty, pos, after, none⟩ :: l) Q ρ h := Y5 hd hj
end
end Go.Av
