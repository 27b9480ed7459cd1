/- A bundle of this claim's own texts: G38 G39 G40 T7 E27. -/
import Derived.OrdersIn
import Derived.Test.YtajnpfgelpkijaaGreatDoorA6
import Derived.Test.YtajnpfgelpkijaaGreatDoorA7
import Derived.Test.YtajnpfgelpkijaaGreatDoorA10
import Derived.Test.YtajnpfgelpkijaaGreatDoorA11
set_option linter.unusedVariables false
set_option linter.unusedSimpArgs false
set_option maxRecDepth 100000
set_option maxHeartbeats 4000000
namespace Go.Sp
open Go Go.Av
noncomputable def Da (w : List UInt8) : Int :=
 open Classical in if h : ∃ n : Int, (-1000 ≤ n ∧ n ≤ 1000) ∧ Lib.itoa n = w then Classical.choose h else 5000
theorem Hm {n : Int} (h : -1000 ≤ n ∧ n ≤ 1000) : Da (Lib.itoa n) = n := by
 have hx : ∃ m : Int, (-1000 ≤ m ∧ m ≤ 1000) ∧ Lib.itoa m = Lib.itoa n := ⟨n, h, rfl⟩
 unfold Da
 rw [dif_pos hx]
 exact Ya (Classical.choose_spec hx).2
theorem Hj {w : List UInt8} (h : Da w < 5000) : (-1000 ≤ Da w ∧ Da w ≤ 1000) ∧ Lib.itoa (Da w) = w := by
 unfold Da at h ⊢
 split
 · rename_i hx; exact Classical.choose_spec hx
 · rename_i hx; rw [dif_neg hx] at h; omega
def Be : List Vr → List UInt8 → Int
 | [], _ => -1
 | v :: l, w => if v.name.data.toList = w then 0 else if Be l w = -1 then -1 else Be l w + 1
theorem Uu : ∀ (l : List Vr) (w : List UInt8), -1 ≤ Be l w
 | [], _ => by simp [Be]
 | v :: l, w => by
   have := Uu l w
   rw [Be]; split
   · omega
   · split <;> omega
theorem PI : ∀ {l : List Vr} {w : List UInt8}, 0 ≤ Be l w → ∃ h : (Be l w).toNat < l.length, (l[(Be l w).toNat]'h).name.data.toList = w
 | [], w, h => by simp [Be] at h
 | v :: l, w, h => by
   rw [Be] at h ⊢
   split
   · rename_i e; exact ⟨by simp, e⟩
   · rename_i e
     rw [if_neg e] at h
     split
     · rename_i e2; rw [if_pos e2] at h; omega
     · rename_i e2
       rw [if_neg e2] at h
       have hge := Uu l w
       obtain ⟨q1, q2⟩ := PI (l := l) (w := w) (by omega)
       have e3 : (Be l w + 1).toNat = (Be l w).toNat + 1 := by omega
       refine ⟨by rw [e3]; simpa using q1, ?_⟩
       simp only [e3, List.getElem_cons_succ]
       exact q2
theorem U2 {l : List Vr} {w : List UInt8} (h : ∀ v ∈ l, v.name.data.toList ≠ w) : Be l w = -1 := by
 induction l with
 | nil => rfl
 | cons v l ih => rw [Be, if_neg (h v List.mem_cons_self), if_pos (ih fun x hx => h x (List.mem_cons_of_mem _ hx))]
theorem Lz {a b : ByteArray} (h : a.data.toList = b.data.toList) : a = b := by rw [← FJ a, h, FJ]
theorem O5 : ∀ {l : List Vr}, (l.map Vr.name).Nodup → ∀ (i : Nat) (h : i < l.length), Be l l[i].name.data.toList = i
 | [], _, i, h => by simp at h
 | v :: l, hn, i, h => by
   rw [List.map_cons, List.nodup_cons] at hn
   cases i with
   | zero =>
     show Be (v :: l) v.name.data.toList = _
     rw [Be, if_pos rfl]; rfl
   | succ i =>
     have hi : i < l.length := by simpa using h
     have ih := O5 hn.2 i hi
     have e : (v :: l)[i + 1] = l[i] := rfl
     rw [e, Be, if_neg, ih, if_neg (by omega)]
     · omega
     · intro k
       exact hn.1 (List.mem_map.2 ⟨l[i], List.getElem_mem hi, (Lz k).symm⟩)
def D3 (w : List UInt8) : Option Nat := (List.range 16).find? fun i => decide (B7 (i + 3 : Nat) = w ∧ w ≠ [])
theorem Y4 {w : List UInt8} {i : Nat} (h : D3 w = some i) : i < 16 ∧ B7 (i + 3 : Nat) = w ∧ w ≠ [] := by
 have h1 := List.find?_some h
 have h2 := List.mem_of_find?_eq_some h
 have h3 := of_decide_eq_true h1
 exact ⟨List.mem_range.1 h2, h3.1, h3.2⟩
theorem UQ : ∀ i : Fin 16, i.val ≠ 10 → D3 (B7 ((i.val + 3 : Nat) : Int)) = some i.val ∧ B7 ((i.val + 3 : Nat) : Int) ≠ [] := by decide
theorem Hf : ∀ i : Fin 16, B7 ((i.val + 3 : Nat) : Int) = [] ∨ B7 ((i.val + 3 : Nat) : Int) = [121, 101, 115] ∨ B7 ((i.val + 3 : Nat) : Int) = [110, 111] ∨ ∃ b ∈ ([43, 45, 42, 61, 60, 38, 124, 33, 88, 85, 82, 70, 71] : List UInt8), B7 ((i.val + 3 : Nat) : Int) = [b] := by decide
theorem Gl {w : List UInt8} (h : ∀ i : Fin 16, B7 ((i.val + 3 : Nat) : Int) = w → w = []) : D3 w = none := by
 unfold D3
 rw [List.find?_eq_none]
 intro i hi k
 obtain ⟨k1, k2⟩ := of_decide_eq_true k
 exact k2 (h ⟨i, List.mem_range.1 hi⟩ k1)
theorem TP {s : ByteArray} (h : Bl s) : D3 s.data.toList = none := by
 refine Gl fun i hi => ?_
 obtain ⟨b, l, e, h1, h2⟩ := Mb h
 exfalso
 rcases Hf i with k | k | k | ⟨c, hc, k⟩
 · rw [hi, e] at k; cases k
 · rw [hi] at k
   exact h.2.1 (Lz k)
 · rw [hi] at k
   exact h.2.2.1 (Lz k)
 · rw [hi, e] at k
   obtain ⟨rfl, _⟩ := List.cons.inj k
   have key : ∀ c ∈ ([43, 45, 42, 61, 60, 38, 124, 33, 88, 85, 82, 70, 71] : List UInt8), ¬ (97 ≤ c.toNat ∧ c.toNat ≤ 122) := by decide
   exact key b hc ⟨h1, h2⟩
theorem Jw (n : Nat) : ∃ b l, Lib.decDigits n = b :: l ∧ 48 ≤ b.toNat ∧ b.toNat ≤ 57 := by
 cases e : Lib.decDigits n with
 | nil => exact absurd e (Zs n)
 | cons b l => exact ⟨b, l, rfl, Eb n b (by rw [e]; exact List.mem_cons_self)⟩
theorem GF (n : Int) : (∃ b l, Lib.itoa n = b :: l ∧ 48 ≤ b.toNat ∧ b.toNat ≤ 57) ∨ ∃ b l, Lib.itoa n = 45 :: b :: l := by
 unfold Lib.itoa
 split
 · obtain ⟨b, l, e, _⟩ := Jw n.natAbs
   exact .inr ⟨b, l, by rw [e]⟩
 · exact .inl (Jw _)
theorem WZ (n : Int) : D3 (Lib.itoa n) = none := by
 refine Gl fun i hi => ?_
 exfalso
 rcases GF n with ⟨b, l, e, h1, h2⟩ | ⟨b, l, e⟩
 · rcases Hf i with k | k | k | ⟨c, hc, k⟩
   · rw [hi, e] at k; cases k
   · rw [hi, e] at k; obtain ⟨rfl, _⟩ := List.cons.inj k; exact absurd h2 (by decide)
   · rw [hi, e] at k; obtain ⟨rfl, _⟩ := List.cons.inj k; exact absurd h2 (by decide)
   · rw [hi, e] at k
     obtain ⟨rfl, _⟩ := List.cons.inj k
     have key : ∀ c ∈ ([43, 45, 42, 61, 60, 38, 124, 33, 88, 85, 82, 70, 71] : List UInt8), ¬ (48 ≤ c.toNat ∧ c.toNat ≤ 57) := by decide
     exact key b hc ⟨h1, h2⟩
 · rcases Hf i with k | k | k | ⟨c, hc, k⟩
   · rw [hi, e] at k; cases k
   · rw [hi, e] at k; exact absurd (List.cons.inj k).1 (by decide)
   · rw [hi, e] at k; exact absurd (List.cons.inj k).1 (by decide)
   · rw [hi, e] at k; exact absurd (List.cons.inj k).2 (by simp)
theorem UL (l : List UInt8) : D3 (80 :: l) = none := by
 refine Gl fun i hi => ?_
 exfalso
 rcases Hf i with k | k | k | ⟨c, hc, k⟩
 · rw [hi] at k; cases k
 · rw [hi] at k; exact absurd (List.cons.inj k).1 (by decide)
 · rw [hi] at k; exact absurd (List.cons.inj k).1 (by decide)
 · rw [hi] at k
   obtain ⟨rfl, _⟩ := List.cons.inj k
   exact absurd hc (by decide)
def FE : List UInt8 → Int
 | [80, d] => if 48 ≤ d.toNat ∧ d.toNat ≤ 53 then (d.toNat : Int) - 48 else -1
 | _ => -1
theorem Zd {n : Int} (h0 : 0 ≤ n) (h1 : n < 6) : FE (80 :: Lib.itoa n) = n := by
 have e : Lib.itoa n = [UInt8.ofNat (48 + n.toNat)] := by
  unfold Lib.itoa
  rw [if_neg (by omega), EU (by omega)]
 have hd : (UInt8.ofNat (48 + n.toNat)).toNat = 48 + n.toNat := by rw [UInt8.toNat_ofNat']; omega
 rw [e]
 show (if _ then _ else _) = n
 rw [if_pos (by rw [hd]; omega), hd]; omega
theorem Qn {w : List UInt8} (h : 0 ≤ FE w) : FE w < 6 ∧ w = 80 :: Lib.itoa (FE w) := by
 unfold FE at h ⊢
 split at h
 · rename_i d
   by_cases c : 48 ≤ d.toNat ∧ d.toNat ≤ 53
   · simp only [if_pos c]
     refine ⟨by omega, ?_⟩
     have e : Lib.itoa ((d.toNat : Int) - 48) = [UInt8.ofNat (48 + (d.toNat - 48))] := by
      unfold Lib.itoa
      rw [if_neg (by omega), show ((d.toNat : Int) - 48).toNat = d.toNat - 48 by omega, EU (by omega)]
     rw [e, show 48 + (d.toNat - 48) = d.toNat by omega]
     simp
   · rw [if_neg c] at h; omega
 · omega
noncomputable def opF (vars : List Vr) (w : List UInt8) : Fo :=
 match D3 w with
 | some i => ⟨(i + 3 : Nat), 0⟩
 | none => if 0 ≤ Be vars w then ⟨2, Be vars w⟩ else if 0 ≤ FE w then ⟨13, FE w⟩ else if Da w < 5000 then ⟨1, Da w⟩ else ⟨0, 0⟩
theorem Rk {vars : List Vr} (hn : ∀ v ∈ vars, Bl v.name) {w : List UInt8} (h : ∀ b l, w = b :: l → ¬ (97 ≤ b.toNat ∧ b.toNat ≤ 122)) : Be vars w = -1 := by
 refine U2 fun v hv e => ?_
 obtain ⟨b, l, e2, h1, h2⟩ := Mb (hn v hv)
 exact h b l (e ▸ e2) ⟨h1, h2⟩
theorem WW {w : List UInt8} (h : ∀ l, w ≠ 80 :: l) : FE w = -1 := by
 unfold FE
 split
 · exact absurd rfl (h _)
 · rfl
theorem XY {vars : List Vr} (hn : ∀ v ∈ vars, Bl v.name) (hd : (vars.map Vr.name).Nodup) {o : Fo} {np : Int} (h : OpP vars.length np o) (hp : np ≤ 6) : opF vars (Bx vars o) = o := by
 obtain ⟨k, v⟩ := o
 unfold Bx
 by_cases c1 : k = 1
 · subst c1
   have hv := h.num rfl
   rw [if_pos rfl]
   unfold opF
   rw [WZ, Rk hn, WW, Hm hv]
   · simp only
     rw [if_neg (by omega), if_neg (by omega), if_pos (by dsimp only at hv; omega)]
   · intro l e
     rcases GF v with ⟨b, l', e', h1, h2⟩ | ⟨b, l', e'⟩
     · dsimp only at e
       rw [e'] at e; obtain ⟨rfl, _⟩ := List.cons.inj e; exact absurd h2 (by decide)
     · dsimp only at e
       rw [e'] at e; exact absurd (List.cons.inj e).1 (by decide)
   · intro b l e ⟨g1, g2⟩
     rcases GF v with ⟨b', l', e', h1, h2⟩ | ⟨b', l', e'⟩
     · dsimp only at e
       rw [e'] at e; obtain ⟨rfl, _⟩ := List.cons.inj e; omega
     · dsimp only at e
       rw [e'] at e; obtain ⟨rfl, _⟩ := List.cons.inj e; exact absurd g1 (by decide)
 rw [if_neg c1]
 by_cases c2 : k = 2
 · subst c2
   have hv := h.var rfl
   try dsimp only at hv
   have hi : v.toNat < vars.length := by omega
   rw [if_pos rfl]
   dsimp only
   rw [List.getElem?_eq_getElem hi]
   simp only [Option.map_some, Option.getD_some]
   unfold opF
   rw [TP (hn _ (List.getElem_mem hi)), O5 hd _ hi]
   simp only
   rw [if_pos (by omega)]
   exact Fo.ext' rfl (by (try dsimp only); omega)
 rw [if_neg c2]
 by_cases c3 : k = 13
 · subst c3
   have hv := h.prop rfl
   try dsimp only at hv
   rw [if_pos rfl]
   unfold opF
   rw [UL, Rk hn, Zd (by (try dsimp only); omega) (by (try dsimp only); omega)]
   · simp only
     rw [if_neg (by omega), if_pos (by (try dsimp only); omega)]
   · intro b l e ⟨g1, g2⟩
     obtain ⟨rfl, _⟩ := List.cons.inj e; exact absurd g1 (by decide)
 rw [if_neg c3]
 have h0 := h.none c1 c2 c3
 have hlo := h.lo
 have hhi := h.hi
 try dsimp only at h0 hlo hhi
 subst h0
 have hk : k = (((k.toNat - 3) + 3 : Nat) : Int) := by omega
 have hm := UQ ⟨k.toNat - 3, by omega⟩ (by (try dsimp only); omega)
 try dsimp only at hm
 rw [← hk] at hm
 unfold opF
 rw [hm.1]
 exact Fo.ext' (by (try dsimp only); omega) rfl
theorem Zr {vars : List Vr} {w : List UInt8} (h : 1 ≤ (opF vars w).kind) : Bx vars (opF vars w) = w := by
 unfold opF at h ⊢
 cases hm : D3 w with
 | some i =>
   obtain ⟨h1, h2, h3⟩ := Y4 hm
   simp only
   have h13 : i ≠ 10 := fun e => by
    subst e
    exact h3 h2.symm
   unfold Bx
   dsimp only
   rw [if_neg (by omega), if_neg (by omega), if_neg (by omega)]
   exact h2
 | none =>
   rw [hm] at h
   simp only at h ⊢
   by_cases c1 : 0 ≤ Be vars w
   · rw [if_pos c1]
     obtain ⟨q1, q2⟩ := PI c1
     unfold Bx
     rw [if_neg (by dsimp only; decide), if_pos rfl]
     dsimp only
     rw [List.getElem?_eq_getElem q1]
     simp only [Option.map_some, Option.getD_some]
     exact q2
   rw [if_neg c1] at h ⊢
   by_cases c2 : 0 ≤ FE w
   · rw [if_pos c2]
     unfold Bx
     rw [if_neg (by dsimp only; decide), if_neg (by dsimp only; decide), if_pos rfl]
     exact (Qn c2).2.symm
   rw [if_neg c2] at h ⊢
   by_cases c3 : Da w < 5000
   · rw [if_pos c3]
     unfold Bx
     rw [if_pos rfl]
     exact (Hj c3).2
   · rw [if_neg c3] at h; exact absurd h (by decide)
abbrev Ln := List (List UInt8)
def QT : List UInt8 := [118, 97, 114]
def Kr : List UInt8 := [115, 101, 116]
def Kp (vars : List Vr) (i : Int) : List UInt8 := ((vars[i.toNat]?).map fun v => v.name.data.toList).getD []
def UA (v : Vr) : Ln := [QT, v.name.data.toList, Lib.itoa v.low, Lib.itoa v.high, Lib.itoa v.init]
def Vy (vars : List Vr) (s : St) : Ln := Kr :: Kp vars s.var :: s.val.map (Bx vars)
def KL (vars : List Vr) (r : Ru) : List Ln := (HS :: r.guard.map (Bx vars)) :: r.sets.map (Vy vars)
def LN (vars : List Vr) (l : List Fo) : Ln := Hb :: l.map (Bx vars)
def J4 (vars : List Vr) (l : List Fo) : Ln := Ep :: l.map (Bx vars)
def C1 (t : Tk) : List Ln := t.model.vars.map UA ++ t.model.rules.flatMap (KL t.model.vars) ++ t.props.map (LN t.model.vars) ++ [J4 t.model.vars t.formula]
structure Rs where
 t : Tk
 tm : Nat
def Rs.vars (q : Rs) : List Vr := q.t.model.vars
def tk0 : Tk := ⟨⟨[], []⟩, [], []⟩
def FU (rs : List Ru) (s : St) : List Ru := match rs.getLast? with
 | none => []
 | some r => rs.dropLast ++ [⟨r.guard, r.sets ++ [s]⟩]
theorem CN (rs : List Ru) (r : Ru) (s : St) : FU (rs ++ [r]) s = rs ++ [⟨r.guard, r.sets ++ [s]⟩] := by unfold FU; simp
noncomputable def vrOf : Ln → Vr
 | [a, b, c, d] => ⟨tx a, Da b, Da c, Da d⟩
 | _ => ⟨.empty, 0, 0, 0⟩
noncomputable def Gg (q : Rs) : Ln → Option Rs
 | [] => none
 | w :: r =>
   if q.tm = 3 then none
   else if w = QT ∧ q.tm = 0 ∧ r.length = 4 then some ⟨⟨⟨q.t.model.vars ++ [vrOf r], q.t.model.rules⟩, q.t.props, q.t.formula⟩, 0⟩
   else if w = HS ∧ q.tm < 2 then some ⟨⟨⟨q.t.model.vars, q.t.model.rules ++ [⟨r.map (opF q.t.model.vars), []⟩]⟩, q.t.props, q.t.formula⟩, 1⟩
   else if w = Kr ∧ q.tm = 1 ∧ 0 < r.length then some ⟨⟨⟨q.t.model.vars, FU q.t.model.rules ⟨Be q.t.model.vars (r.headD []), r.tail.map (opF q.t.model.vars)⟩⟩, q.t.props, q.t.formula⟩, 1⟩
   else if w = Hb then some ⟨⟨q.t.model, q.t.props ++ [r.map (opF q.t.model.vars)], q.t.formula⟩, 2⟩
   else if w = Ep then some ⟨⟨q.t.model, q.t.props, r.map (opF q.t.model.vars)⟩, 3⟩
   else none
inductive C7 (q : Rs) : Ln → Rs → Prop
 | var (h : q.tm = 0) (a b c d : List UInt8) : C7 q [QT, a, b, c, d] ⟨⟨⟨q.t.model.vars ++ [⟨tx a, Da b, Da c, Da d⟩], q.t.model.rules⟩, q.t.props, q.t.formula⟩, 0⟩
 | rule (h : q.tm < 2) (r : Ln) : C7 q (HS :: r) ⟨⟨⟨q.t.model.vars, q.t.model.rules ++ [⟨r.map (opF q.t.model.vars), []⟩]⟩, q.t.props, q.t.formula⟩, 1⟩
 | set (h : q.tm = 1) (n : List UInt8) (r : Ln) : C7 q (Kr :: n :: r) ⟨⟨⟨q.t.model.vars, FU q.t.model.rules ⟨Be q.t.model.vars n, r.map (opF q.t.model.vars)⟩⟩, q.t.props, q.t.formula⟩, 1⟩
 | prop (h : q.tm ≠ 3) (r : Ln) : C7 q (Hb :: r) ⟨⟨q.t.model, q.t.props ++ [r.map (opF q.t.model.vars)], q.t.formula⟩, 2⟩
 | check (h : q.tm ≠ 3) (r : Ln) : C7 q (Ep :: r) ⟨⟨q.t.model, q.t.props, r.map (opF q.t.model.vars)⟩, 3⟩
theorem Ug {q q' : Rs} {l : Ln} (h : Gg q l = some q') : C7 q l q' := by
 cases l with
 | nil => cases h
 | cons w r =>
   rw [Gg] at h
   by_cases c0 : q.tm = 3
   · rw [if_pos c0] at h; cases h
   rw [if_neg c0] at h
   by_cases c1 : w = QT ∧ q.tm = 0 ∧ r.length = 4
   · rw [if_pos c1, Option.some.injEq] at h
     obtain ⟨rfl, h2, h3⟩ := c1
     match r, h3 with
     | [a, b, c, d], _ => exact h ▸ .var h2 a b c d
   rw [if_neg c1] at h
   by_cases c2 : w = HS ∧ q.tm < 2
   · rw [if_pos c2, Option.some.injEq] at h
     obtain ⟨rfl, h2⟩ := c2
     exact h ▸ .rule h2 r
   rw [if_neg c2] at h
   by_cases c3 : w = Kr ∧ q.tm = 1 ∧ 0 < r.length
   · rw [if_pos c3, Option.some.injEq] at h
     obtain ⟨rfl, h2, h3⟩ := c3
     cases r with
     | nil => cases h3
     | cons n r => exact h ▸ .set h2 n r
   rw [if_neg c3] at h
   by_cases c4 : w = Hb
   · rw [if_pos c4, Option.some.injEq] at h
     subst c4
     exact h ▸ .prop c0 r
   rw [if_neg c4] at h
   by_cases c5 : w = Ep
   · rw [if_pos c5, Option.some.injEq] at h
     subst c5
     exact h ▸ .check c0 r
   rw [if_neg c5] at h; cases h
theorem a6 {q q' : Rs} {l : Ln} (h : C7 q l q') : Gg q l = some q' := by
 cases h with
 | var h a b c d => rw [Gg, if_neg (by omega), if_pos ⟨rfl, h, rfl⟩]; rfl
 | rule h r => rw [Gg, if_neg (by omega), if_neg (fun k => absurd k.1 (by decide)), if_pos ⟨rfl, h⟩]
 | set h n r => rw [Gg, if_neg (by omega), if_neg (fun k => absurd k.1 (by decide)), if_neg (fun k => absurd k.1 (by decide)), if_pos ⟨rfl, h, by simp⟩]; rfl
 | prop h r => rw [Gg, if_neg h, if_neg (fun k => absurd k.1 (by decide)), if_neg (fun k => absurd k.1 (by decide)), if_neg (fun k => absurd k.1 (by decide)), if_pos rfl]
 | check h r => rw [Gg, if_neg h, if_neg (fun k => absurd k.1 (by decide)), if_neg (fun k => absurd k.1 (by decide)), if_neg (fun k => absurd k.1 (by decide)), if_neg (by decide), if_pos rfl]
noncomputable def Cg (q : Rs) : List Ln → Option Rs
 | [] => some q
 | l :: ls => (Gg q l).bind fun q' => Cg q' ls
theorem Hi (q : Rs) (a b : List Ln) : Cg q (a ++ b) = (Cg q a).bind fun q' => Cg q' b := by
 induction a generalizing q with
 | nil => rfl
 | cons l a ih =>
   rw [List.cons_append, Cg, Cg]
   cases Gg q l with
   | none => rfl
   | some q1 => exact ih q1
theorem Fl {q q' : Rs} {l : Ln} (h : C7 q l q') (ls : List Ln) : Cg q (l :: ls) = Cg q' ls := by
 rw [Cg, a6 h]; rfl
theorem I9 {vars : List Vr} (hn : ∀ v ∈ vars, Bl v.name) (hd : (vars.map Vr.name).Nodup) {np : Int} (hp : np ≤ 6) : ∀ l : List Fo, (∀ o ∈ l, OpP vars.length np o) → (l.map (Bx vars)).map (opF vars) = l := by
 intro l h
 rw [List.map_map]
 conv => rhs; rw [← List.map_id l]
 refine List.map_congr_left fun o ho => ?_
 exact XY hn hd (h o ho) hp
theorem OD : ∀ (l vs : List Vr), (∀ v ∈ l, -1000 ≤ v.low ∧ v.low ≤ 1000 ∧ -1000 ≤ v.high ∧ v.high ≤ 1000 ∧ -1000 ≤ v.init ∧ v.init ≤ 1000) → Cg ⟨⟨⟨vs, []⟩, [], []⟩, 0⟩ (l.map UA) = some ⟨⟨⟨vs ++ l, []⟩, [], []⟩, 0⟩
 | [], vs, _ => by rw [List.append_nil]; rfl
 | v :: l, vs, h => by
   obtain ⟨h1, h2, h3, h4, h5, h6⟩ := h v List.mem_cons_self
   have e : (⟨tx v.name.data.toList, Da (Lib.itoa v.low), Da (Lib.itoa v.high), Da (Lib.itoa v.init)⟩ : Vr) = v := by
    rw [FJ, Hm ⟨h1, h2⟩, Hm ⟨h3, h4⟩, Hm ⟨h5, h6⟩]
   have k := C7.var (q := ⟨⟨⟨vs, []⟩, [], []⟩, 0⟩) rfl v.name.data.toList (Lib.itoa v.low) (Lib.itoa v.high) (Lib.itoa v.init)
   rw [e] at k
   rw [List.map_cons]
   refine (Fl k _).trans ?_
   refine (OD l (vs ++ [v]) fun x hx => h x (List.mem_cons_of_mem _ hx)).trans ?_
   rw [List.append_assoc]; rfl
section
variable {vs : List Vr} (hn : ∀ v ∈ vs, Bl v.name) (hd : (vs.map Vr.name).Nodup)
include hn hd
theorem Nq (rs : List Ru) (g : List Fo) : ∀ (l ss : List St), (∀ s ∈ l, 0 ≤ s.var ∧ s.var < vs.length ∧ ∀ o ∈ s.val, OpP vs.length 0 o) → Cg ⟨⟨⟨vs, rs ++ [⟨g, ss⟩]⟩, [], []⟩, 1⟩ (l.map (Vy vs)) = some ⟨⟨⟨vs, rs ++ [⟨g, ss ++ l⟩]⟩, [], []⟩, 1⟩
 | [], ss, _ => by rw [List.append_nil]; rfl
 | s :: l, ss, h => by
   obtain ⟨h1, h2, h3⟩ := h s List.mem_cons_self
   have hi : s.var.toNat < vs.length := by omega
   have ev : Be vs (Kp vs s.var) = s.var := by
    unfold Kp
    rw [List.getElem?_eq_getElem hi]
    simp only [Option.map_some, Option.getD_some]
    rw [O5 hd _ hi]; omega
   have k := C7.set (q := ⟨⟨⟨vs, rs ++ [⟨g, ss⟩]⟩, [], []⟩, 1⟩) rfl (Kp vs s.var) (s.val.map (Bx vs))
   dsimp only at k
   rw [ev, I9 hn hd (by omega) s.val h3, CN] at k
   rw [List.map_cons]
   refine (Fl k _).trans ?_
   refine (Nq rs g l (ss ++ [s]) fun x hx => h x (List.mem_cons_of_mem _ hx)).trans ?_
   rw [List.append_assoc]; rfl
theorem MY : ∀ (l rs : List Ru) (tm : Nat), tm < 2 → (∀ r ∈ l, (∀ o ∈ r.guard, OpP vs.length 0 o) ∧ ∀ s ∈ r.sets, 0 ≤ s.var ∧ s.var < vs.length ∧ ∀ o ∈ s.val, OpP vs.length 0 o) → ∃ tm', tm' < 2 ∧ Cg ⟨⟨⟨vs, rs⟩, [], []⟩, tm⟩ (l.flatMap (KL vs)) = some ⟨⟨⟨vs, rs ++ l⟩, [], []⟩, tm'⟩
 | [], rs, tm, ht, _ => ⟨tm, ht, by rw [List.append_nil]; rfl⟩
 | r :: l, rs, tm, ht, h => by
   obtain ⟨h1, h2⟩ := h r List.mem_cons_self
   obtain ⟨tm', ht', ih⟩ := MY l (rs ++ [r]) 1 (by decide) fun x hx => h x (List.mem_cons_of_mem _ hx)
   refine ⟨tm', ht', ?_⟩
   have k := C7.rule (q := ⟨⟨⟨vs, rs⟩, [], []⟩, tm⟩) ht (r.guard.map (Bx vs))
   dsimp only at k
   rw [I9 hn hd (by omega) r.guard h1] at k
   rw [List.flatMap_cons]
   unfold KL
   rw [List.cons_append]
   refine (Fl k _).trans ?_
   rw [Hi, Nq hn hd rs r.guard r.sets [] h2]
   refine ih.trans ?_
   rw [List.append_assoc]; rfl
theorem MA (rs : List Ru) : ∀ (l ps : List (List Fo)) (tm : Nat), tm < 3 → (∀ p ∈ l, ∀ o ∈ p, OpP vs.length 0 o) → ∃ tm', tm' < 3 ∧ Cg ⟨⟨⟨vs, rs⟩, ps, []⟩, tm⟩ (l.map (LN vs)) = some ⟨⟨⟨vs, rs⟩, ps ++ l, []⟩, tm'⟩
 | [], ps, tm, ht, _ => ⟨tm, ht, by rw [List.append_nil]; rfl⟩
 | p :: l, ps, tm, ht, h => by
   obtain ⟨tm', ht', ih⟩ := MA rs l (ps ++ [p]) 2 (by decide) fun x hx => h x (List.mem_cons_of_mem _ hx)
   refine ⟨tm', ht', ?_⟩
   have k := C7.prop (q := ⟨⟨⟨vs, rs⟩, ps, []⟩, tm⟩) (by dsimp only; omega) (p.map (Bx vs))
   dsimp only at k
   rw [I9 hn hd (by omega) p (h p List.mem_cons_self)] at k
   rw [List.map_cons]
   refine (Fl k _).trans ?_
   refine ih.trans ?_
   rw [List.append_assoc]; rfl
end
theorem Im {t : Tk} (h : TkP t) : Cg ⟨tk0, 0⟩ (C1 t) = some ⟨t, 3⟩ := by
 obtain ⟨⟨vs, rs⟩, ps, fm⟩ := t
 have np : (ps.length : Int) ≤ 6 := by have := h.props6; dsimp only at this; omega
 unfold C1
 dsimp only
 rw [Hi, Hi, Hi]
 have e1 := OD vs [] h.range
 rw [List.nil_append] at e1
 rw [show tk0 = ⟨⟨[], []⟩, [], []⟩ from rfl, e1]
 obtain ⟨t1, k1, e2⟩ := MY h.names h.nodup rs [] 0 (by decide) fun r hr => ⟨(h.guards r hr).ops, fun s hs => ⟨(h.sets r hr s hs).1, (h.sets r hr s hs).2.1, (h.sets r hr s hs).2.2.ops⟩⟩
 rw [List.nil_append] at e2
 dsimp only [Option.bind_some]
 dsimp only at e2
 rw [e2]
 dsimp only [Option.bind_some]
 obtain ⟨t2, k2, e3⟩ := MA h.names h.nodup rs ps [] t1 (by omega) fun p hp => (h.props p hp).ops
 rw [List.nil_append] at e3
 dsimp only at e3
 rw [e3]
 dsimp only [Option.bind_some]
 have k := C7.check (q := ⟨⟨⟨vs, rs⟩, ps, []⟩, t2⟩) (by dsimp only; omega) (fm.map (Bx vs))
 dsimp only at k
 rw [I9 h.names h.nodup np fm h.form.ops] at k
 exact Fl k []
structure Gd (t : Tk) : Prop where
 vars : ∀ v ∈ t.model.vars, v.low < 5000 ∧ v.high < 5000 ∧ v.init < 5000
 guards : ∀ r ∈ t.model.rules, ∀ o ∈ r.guard, 1 ≤ o.kind
 sets : ∀ r ∈ t.model.rules, ∀ s ∈ r.sets, 0 ≤ s.var ∧ ∀ o ∈ s.val, 1 ≤ o.kind
 props : ∀ p ∈ t.props, ∀ o ∈ p, 1 ≤ o.kind
 form : ∀ o ∈ t.formula, 1 ≤ o.kind
theorem TkP.gd {t : Tk} (h : TkP t) : Gd t :=
 ⟨fun v hv => by have := h.range v hv; omega, fun r hr o ho => ((h.guards r hr).ops o ho).lo, fun r hr s hs => ⟨(h.sets r hr s hs).1, fun o ho => ((h.sets r hr s hs).2.2.ops o ho).lo⟩,
  fun p hp o ho => ((h.props p hp).ops o ho).lo, fun o ho => (h.form.ops o ho).lo⟩
structure RsI (q : Rs) : Prop where
 t0 : q.tm = 0 → q.t.model.rules = []
 t1 : q.tm < 2 → q.t.props = []
 t2 : q.tm = 1 → q.t.model.rules ≠ []
 t3 : q.tm ≠ 3 → q.t.formula = []
theorem RsI.start : RsI ⟨tk0, 0⟩ := ⟨fun _ => rfl, fun _ => rfl, fun h => absurd h (by decide), fun _ => rfl⟩
theorem C7.inv {q q' : Rs} {l : Ln} (h : RsI q) (k : C7 q l q') : RsI q' := by
 cases k with
 | var c => exact ⟨fun _ => h.t0 c, fun _ => h.t1 (by omega), fun k => by dsimp only at k; omega, fun _ => h.t3 (by omega)⟩
 | rule c => exact ⟨fun k => by dsimp only at k; omega, fun _ => h.t1 c, fun _ => by simp, fun _ => h.t3 (by omega)⟩
 | set c =>
   refine ⟨fun k => by dsimp only at k; omega, fun _ => h.t1 (by omega), fun _ => ?_, fun _ => h.t3 (by omega)⟩
   rcases List.eq_nil_or_concat q.t.model.rules with e | ⟨rs, r, e⟩
   · exact absurd e (h.t2 c)
   · rw [List.concat_eq_append] at e
     dsimp only
     rw [e, CN]; simp
 | prop c => exact ⟨fun k => by dsimp only at k; omega, fun k => by dsimp only at k; omega, fun k => by dsimp only at k; omega, fun _ => h.t3 c⟩
 | check c => exact ⟨fun k => by dsimp only at k; omega, fun k => by dsimp only at k; omega, fun k => by dsimp only at k; omega, fun k => absurd rfl k⟩
theorem C7.gd {q q' : Rs} {l : Ln} (h : RsI q) (k : C7 q l q') (g : Gd q'.t) : Gd q.t := by
 cases k with
 | var c => exact ⟨fun v hv => g.vars v (List.mem_append_left _ hv), g.guards, g.sets, g.props, g.form⟩
 | rule c => exact ⟨g.vars, fun v hv => g.guards v (List.mem_append_left _ hv), fun v hv => g.sets v (List.mem_append_left _ hv), g.props, g.form⟩
 | set c =>
   rcases List.eq_nil_or_concat q.t.model.rules with e | ⟨rs, r, e⟩
   · exact absurd e (h.t2 c)
   · rw [List.concat_eq_append] at e
     have g2 := g.guards
     have g3 := g.sets
     dsimp only at g2 g3
     rw [e, CN] at g2 g3
     refine ⟨g.vars, ?_, ?_, g.props, g.form⟩
     · intro x hx
       rw [e] at hx
       rcases List.mem_append.1 hx with hx | hx
       · exact g2 x (List.mem_append_left _ hx)
       · rw [List.mem_singleton] at hx; subst hx
         have := g2 _ (List.mem_append_right _ (List.mem_singleton.2 rfl))
         exact this
     · intro x hx
       rw [e] at hx
       rcases List.mem_append.1 hx with hx | hx
       · exact g3 x (List.mem_append_left _ hx)
       · rw [List.mem_singleton] at hx; subst hx
         have := g3 _ (List.mem_append_right _ (List.mem_singleton.2 rfl))
         exact fun s hs => this s (List.mem_append_left _ hs)
 | prop c => exact ⟨g.vars, g.guards, g.sets, fun p hp => g.props p (List.mem_append_left _ hp), g.form⟩
 | check c => exact ⟨g.vars, g.guards, g.sets, g.props, by rw [h.t3 c]; intro o ho; cases ho⟩
def Nf (q : Rs) : List Ln := q.t.model.vars.map UA ++ q.t.model.rules.flatMap (KL q.t.model.vars) ++ q.t.props.map (LN q.t.model.vars) ++ if q.tm = 3 then [J4 q.t.model.vars q.t.formula] else []
theorem Jk (vars : List Vr) : ∀ r : Ln, (∀ o ∈ r.map (opF vars), 1 ≤ o.kind) → (r.map (opF vars)).map (Bx vars) = r := by
 intro r h
 rw [List.map_map]
 conv => rhs; rw [← List.map_id r]
 refine List.map_congr_left fun w hw => ?_
 exact Zr (h _ (List.mem_map_of_mem hw))
theorem fP {vars : List Vr} {n : List UInt8} (h : 0 ≤ Be vars n) : Kp vars (Be vars n) = n := by
 obtain ⟨q1, q2⟩ := PI h
 unfold Kp
 rw [List.getElem?_eq_getElem q1]
 exact q2
theorem C7.so {q q' : Rs} {l : Ln} (h : RsI q) (k : C7 q l q') (g : Gd q'.t) : Nf q' = Nf q ++ [l] := by
 unfold Nf
 cases k with
 | var c a b d e =>
   have g1 := g.vars _ (List.mem_append_right _ List.mem_cons_self)
   dsimp only at g1 ⊢
   rw [h.t0 c, h.t1 (by omega), if_neg (by decide), if_neg (by omega), List.map_append]
   simp only [List.flatMap_nil, List.map_nil, List.append_nil, List.map_cons]
   congr 2
   unfold UA
   dsimp only
   rw [(Hj g1.1).2, (Hj g1.2.1).2, (Hj g1.2.2).2]
 | rule c r =>
   have g1 := g.guards _ (List.mem_append_right _ List.mem_cons_self)
   dsimp only at g1 ⊢
   rw [h.t1 c, if_neg (by decide), if_neg (by omega), List.flatMap_append]
   simp only [List.map_nil, List.append_nil, List.flatMap_cons, List.flatMap_nil, List.append_assoc]
   congr 2
   unfold KL
   dsimp only
   rw [Jk _ r g1]; rfl
 | set c n r =>
   rcases List.eq_nil_or_concat q.t.model.rules with e | ⟨rs, x, e⟩
   · exact absurd e (h.t2 c)
   rw [List.concat_eq_append] at e
   have g1 := g.sets
   dsimp only at g1 ⊢
   rw [e, CN] at g1
   have g2 := g1 _ (List.mem_append_right _ List.mem_cons_self) _ (List.mem_append_right _ List.mem_cons_self)
   dsimp only at g2
   rw [h.t1 (by omega), if_neg (by decide), if_neg (by omega), e, CN, List.flatMap_append, List.flatMap_append]
   simp only [List.map_nil, List.append_nil, List.flatMap_cons, List.flatMap_nil, List.append_assoc]
   congr 2
   unfold KL
   dsimp only
   rw [List.map_append]
   simp only [List.map_cons, List.map_nil, List.cons_append]
   congr 3
   unfold Vy
   dsimp only
   rw [fP g2.1, Jk _ r g2.2]
 | prop c r =>
   have g1 := g.props _ (List.mem_append_right _ List.mem_cons_self)
   dsimp only at g1 ⊢
   rw [if_neg (by decide), if_neg c, List.map_append]
   simp only [List.append_nil, List.append_assoc, List.map_cons, List.map_nil]
   congr 3
   unfold LN
   rw [Jk _ r g1]
 | check c r =>
   have g1 := g.form
   dsimp only at g1 ⊢
   rw [if_pos rfl, if_neg c]
   simp only [List.append_nil]
   congr 2
   unfold J4
   rw [Jk _ r g1]
theorem Lj : ∀ (ls : List Ln) {q q' : Rs}, Cg q ls = some q' → RsI q → Gd q'.t → Gd q.t ∧ Nf q' = Nf q ++ ls
 | [], q, q', h, hI, g => by
   rw [Cg, Option.some.injEq] at h
   subst h
   exact ⟨g, by rw [List.append_nil]⟩
 | l :: ls, q, q', h, hI, g => by
   rw [Cg] at h
   cases e : Gg q l with
   | none => rw [e] at h; cases h
   | some q1 =>
     rw [e] at h
     have k := Ug e
     obtain ⟨g1, s1⟩ := Lj ls h (k.inv hI) g
     refine ⟨k.gd hI g1, ?_⟩
     rw [s1, k.so hI g1, List.append_assoc]; rfl
theorem TM {ls : List Ln} {t : Tk} (h : Cg ⟨tk0, 0⟩ ls = some ⟨t, 3⟩) (g : TkP t) : C1 t = ls := by
 have := (Lj ls h RsI.start g.gd).2
 unfold Nf at this
 rw [if_pos rfl] at this
 exact this.trans (List.nil_append _)
def Pj (a : List UInt8 → Int) : Prop := ∀ n : Int, -1000 ≤ n → n ≤ 1000 → a (Lib.itoa n) = n
def A4 (a : List UInt8 → Int) (vars : List Vr) (w : List UInt8) : Fo :=
 match D3 w with
 | some i => ⟨(i + 3 : Nat), 0⟩
 | none => if 0 ≤ Be vars w then ⟨2, Be vars w⟩ else match w with
   | 80 :: r => ⟨13, a r⟩
   | w => ⟨1, a w⟩
def CV (a : List UInt8 → Int) (r : Ln) : Vr := ⟨tx ((r[0]?).getD []), ((r[1]?).map a).getD 0, ((r[2]?).map a).getD 0, ((r[3]?).map a).getD 0⟩
def BW (a : List UInt8 → Int) (t : Tk) : Ln → Tk
 | [] => t
 | w :: r =>
   if w = QT then ⟨⟨t.model.vars ++ [CV a r], t.model.rules⟩, t.props, t.formula⟩
   else if w = HS then ⟨⟨t.model.vars, t.model.rules ++ [⟨r.map (A4 a t.model.vars), []⟩]⟩, t.props, t.formula⟩
   else if w = Kr then (if 0 < r.length ∧ 0 < t.model.rules.length then ⟨⟨t.model.vars, FU t.model.rules ⟨Be t.model.vars (r.headD []), r.tail.map (A4 a t.model.vars)⟩⟩, t.props, t.formula⟩ else t)
   else if w = Hb then ⟨t.model, t.props ++ [r.map (A4 a t.model.vars)], t.formula⟩
   else if w = Ep then ⟨t.model, t.props, r.map (A4 a t.model.vars)⟩
   else t
theorem fQ {a : List UInt8 → Int} (ha : Pj a) {vars : List Vr} {w : List UInt8} (h : 1 ≤ (opF vars w).kind) : A4 a vars w = opF vars w := by
 unfold opF at h ⊢
 unfold A4
 cases hm : D3 w with
 | some i => rfl
 | none =>
   rw [hm] at h
   simp only at h ⊢
   by_cases c1 : 0 ≤ Be vars w
   · rw [if_pos c1, if_pos c1]
   rw [if_neg c1] at h ⊢
   rw [if_neg c1]
   by_cases c2 : 0 ≤ FE w
   · rw [if_pos c2]
     obtain ⟨q1, q2⟩ := Qn c2
     rw [q2]
     show (⟨13, a (Lib.itoa (FE w))⟩ : Fo) = ⟨13, FE (80 :: Lib.itoa (FE w))⟩
     rw [ha _ (by omega) (by omega), ← q2]
   rw [if_neg c2] at h ⊢
   by_cases c3 : Da w < 5000
   · rw [if_pos c3]
     obtain ⟨q1, q2⟩ := Hj c3
     split
     · rename_i r
       exfalso
       rcases GF (Da (80 :: r)) with ⟨b, l', e', h1, h2⟩ | ⟨b, l', e'⟩
       · rw [e'] at q2; obtain ⟨rfl, _⟩ := List.cons.inj q2; exact absurd h2 (by decide)
       · rw [e'] at q2; exact absurd (List.cons.inj q2).1 (by decide)
     · have e := ha (Da w) q1.1 q1.2
       rw [q2] at e
       rw [e]
   · rw [if_neg c3] at h; exact absurd h (by decide)
theorem LJ {a : List UInt8 → Int} (ha : Pj a) {vars : List Vr} {r : Ln} (h : ∀ o ∈ r.map (opF vars), 1 ≤ o.kind) : r.map (A4 a vars) = r.map (opF vars) :=
 List.map_congr_left fun _ hw => fQ ha (h _ (List.mem_map_of_mem hw))
theorem Pd {a : List UInt8 → Int} (ha : Pj a) {w : List UInt8} (h : Da w < 5000) : a w = Da w := by
 obtain ⟨q1, q2⟩ := Hj h
 have e := ha (Da w) q1.1 q1.2
 rw [q2] at e
 exact e
theorem C7.pad {a : List UInt8 → Int} (ha : Pj a) {q q' : Rs} {l : Ln} (h : RsI q) (k : C7 q l q') (g : Gd q'.t) : BW a q.t l = q'.t := by
 cases k with
 | var c x b d e =>
   have g1 := g.vars _ (List.mem_append_right _ List.mem_cons_self)
   dsimp only at g1 ⊢
   rw [BW, if_pos rfl]
   have e : CV a [x, b, d, e] = ⟨tx x, Da b, Da d, Da e⟩ := by
    show (⟨tx x, a b, a d, a e⟩ : Vr) = _
    rw [Pd ha g1.1, Pd ha g1.2.1, Pd ha g1.2.2]
   rw [e]
 | rule c r =>
   have g1 := g.guards _ (List.mem_append_right _ List.mem_cons_self)
   dsimp only at g1 ⊢
   rw [BW, if_neg (by decide), if_pos rfl, LJ ha g1]
 | set c n r =>
   rcases List.eq_nil_or_concat q.t.model.rules with e | ⟨rs, x, e⟩
   · exact absurd e (h.t2 c)
   rw [List.concat_eq_append] at e
   have g1 := g.sets
   dsimp only at g1 ⊢
   rw [e, CN] at g1
   have g2 := g1 _ (List.mem_append_right _ List.mem_cons_self) _ (List.mem_append_right _ List.mem_cons_self)
   dsimp only at g2
   rw [BW, if_neg (by decide), if_neg (by decide), if_pos rfl, if_pos ⟨by simp, by rw [e]; simp⟩, List.tail_cons, LJ ha g2.2]
   rfl
 | prop c r =>
   have g1 := g.props _ (List.mem_append_right _ List.mem_cons_self)
   dsimp only at g1 ⊢
   rw [BW, if_neg (by decide), if_neg (by decide), if_neg (by decide), if_pos rfl, LJ ha g1]
 | check c r =>
   have g1 := g.form
   dsimp only at g1 ⊢
   rw [BW, if_neg (by decide), if_neg (by decide), if_neg (by decide), if_neg (by decide), if_pos rfl, LJ ha g1]
theorem Nx {a : List UInt8 → Int} (ha : Pj a) : ∀ (ls : List Ln) {q q' : Rs}, Cg q ls = some q' → RsI q → Gd q'.t → ls.foldl (BW a) q.t = q'.t
 | [], q, q', h, hI, g => by
   rw [Cg, Option.some.injEq] at h
   subst h
   rfl
 | l :: ls, q, q', h, hI, g => by
   rw [Cg] at h
   cases e : Gg q l with
   | none => rw [e] at h; cases h
   | some q1 =>
     rw [e] at h
     have k := Ug e
     have g1 := (Lj ls h (k.inv hI) g).1
     rw [List.foldl_cons, k.pad ha hI g1]
     exact Nx ha ls h (k.inv hI) g
theorem W6 {a : List UInt8 → Int} (ha : Pj a) {t : Tk} (h : TkP t) : (C1 t).foldl (BW a) tk0 = t :=
 Nx ha (C1 t) (Im h) RsI.start h.gd
end Go.Sp
namespace Go.Proofs.YtajnpfgelpkijaaGreatDoor
open Go Go.Av Go.Sp

theorem CK : Cal Tryz.prog 57 := Cal.of Tryz.func57 (by kernel_rfl) (by kernel_rfl)
theorem aB ( l : List Fo) (props : Int) : ACr Tryz.prog GP 57 [.d (AN l), .int props] (.tup [.d (AP (Ak l props).1), .int (Ak l props).2]) := by
 refine AK (ts := [4, 5]) 32 Tryz.func57 rfl rfl rfl (by simp) fun W I => ?_
 refine EC (t := 0) rfl fun hl => ?_
 repeat' (first
  | refine ca Fs (Check _ _) ?_
  | refine ca BO (ahead _ _) ?_
  | exact True.intro | refine AJ ?_ | refine two ?_ ?_ | refine AG fun c_ => ?_
  | (refine imp fun hc => ?_) <;> try exact cx1 hc
  | refine all fun v_ => ?_)
 · refine AO (Ft (t := 4) 1 8 rfl) ?_
   ((with_reducible apply rq2); rfl; rfl; rfl)
   refine AD ?_
   rw [Ak, if_pos hc]; rfl
 have hs : Ak l props = (DI l 0, 0) := by rw [Ak, if_neg hc]
 refine FQ (E := 3) (sz := 1) Ag ?_
 refine AL (X := Nat × Sl × List Int) (fun y => [(0, .d (AN l)), (7, .val y.2.1.v), (16, .d (AN l)), (17, .int l.length), (18, .int y.1)]) (fun y => [AF y.2.1.v 3 1 Ag y.2.2]) (fun y => y.1 ≤ l.length ∧ y.2.2.length ≤ y.1 ∧ DI l 0 = y.2.2 ++ DI (l.drop y.1) y.1) (fun y => l.length - y.1) (0, Sl.nil, []) ⟨Nat.zero_le _, Nat.le_refl _, rfl⟩ (VS.of_le ?_) ?_
 · exact leD
 rintro ⟨i, v, out⟩ ⟨k1, k2, k3⟩
 dsimp only at k1 k2 k3 ⊢
 by_cases hi : i < l.length
 · rw [J8 l i hi] at k3
   repeat' (first
    | refine ca Fs (Check _ _) ?_
    | refine ca BO (ahead _ _) ?_
    | exact True.intro | refine AJ ?_ | refine two ?_ ?_ | refine AG fun c_ => ?_
    | (refine imp fun hc => ?_) <;> try exact cx1 hc
    | refine all fun v_ => ?_)
   · rw [if_pos hc] at k3
     refine ⟨(i + 1, v_, out ++ [(i : Int)]), ⟨by dsimp only; omega, by simp; omega, by simpa using k3⟩, by dsimp only; omega, VS.take (by exact AS) ?_⟩
     exact leD
   · rw [if_neg hc] at k3
     refine ⟨(i + 1, v, out), ⟨by dsimp only; omega, by dsimp only; omega, k3⟩, by dsimp only; omega, VS.take (by exact AS) ?_⟩
     exact leD
 · rw [IL l i (by omega), List.append_nil] at k3
   repeat' (first
    | refine ca Fs (Check _ _) ?_
    | refine ca BO (ahead _ _) ?_
    | exact True.intro | refine AJ ?_ | refine two ?_ ?_ | refine AG fun c_ => ?_
    | (refine imp fun hc => ?_) <;> try exact cx1 hc
    | refine all fun v_ => ?_)
   refine AO (Ci (t := 4) (eb := 8) rfl rfl (fun x => rfl) (by omega)) ?_
   ((with_reducible apply rq2); rfl; rfl; rfl)
   refine AD ?_
   rw [hs, k3]

end Go.Proofs.YtajnpfgelpkijaaGreatDoor
namespace Go.Av
open Go Go.RowKit
theorem dW {P : Program} {c : Cx} {f : FuncId} {fn : Func} {x : Code} {args : List AV} {vs : List Value} {h : H} {Q : AE → H → Prop} {I : Nat → Prop} {W : World} (n : Nat) (hf : P.funcs[f]? = some fn) (hb : fn.body = some x) (hn : fn.ntmps = n) (hr : fn.results = #[]) (ha : args.length ≤ n)
 (ok : Ok c I h W) (hv : AV.rels W I args vs) (hj : J ⟨P, c, n, []⟩ x (NH [] Q) (Ch 0 args) h) : Calls P f vs.toArray W fun e w' => ∃ r h' I', Q r h' ∧ Ok c I' h' w' ∧ AE.rel w' I' r e := by
 have hlen := AV.rels_length hv
 refine calls_of_wp hf hb ?_
 have hsf : SF n W I (Ch 0 args) { tmps := vs.toArray ++ Array.replicate (fn.ntmps - vs.toArray.size) undef, defers := [] } := by
  refine ⟨by simp [hn]; omega, fun t => ?_⟩
  have := DN W I args vs 0 t hv
  simp only [Nat.zero_le, if_true, Nat.sub_zero] at this
  have e : (vs.toArray ++ Array.replicate (fn.ntmps - vs.toArray.size) undef).getD t undef = (vs[t]?).getD undef := by
   rw [Array.getD_eq_getD_getElem?, Array.getElem?_append]
   by_cases ht : t < vs.length
   · simp [ht]
   · simp only [List.size_toArray, ht, if_false]
     rw [List.getElem?_eq_none (by omega)]
     simp only [Array.getElem?_replicate]
     split <;> rfl
  rw [e]; exact this
 refine wp_mono (hj I _ W ok hsf rfl) ?_
 rintro e a w ⟨I', ρ', h', k1, k2, k3, k4⟩
 have hres := Ki P fn [] hr a.tmps w
 have hrel : AV.rel w I' (Kg ρ' []) (aL a.tmps []) := ⟨[], rfl, trivial⟩
 cases e with
 | normal => exact ⟨k3, _, hres, _, h', I', k4, k1, hrel⟩
 | ret => exact ⟨k3, _, hres, _, h', I', k4, k1, hrel⟩
 | panic ch => exact ⟨k3, _, h', I', k4, k1, rfl⟩
 | exit _ => exact k4.elim
 | goto _ => exact k4.elim
 | outgrown => exact k4.elim
theorem VS.frame {ρ ρ' : Env} {h h' : H} (v : VS ρ h ρ' h') (g : H) : VS ρ (h ++ g) ρ' (h' ++ g) := fun c I n a w h1 h2 => by
 have hnd := h1.nd
 rw [AY] at hnd
 have ok : Ok ⟨w, I, blks h, c.G⟩ I h w :=
  { ent := fun e he => h1.ent e (List.mem_append.2 (.inl he)), nd := (List.nodup_append.1 hnd).1, imm := fun b hb => ⟨(h1.imm b hb).1, fun hm => (h1.imm b hb).2 (by rw [AY]; exact List.mem_append.2 (.inl hm))⟩,
    new := fun b hb => .inl hb, inew := fun b hb => .inl hb, sup := fun b hb => hb, os := rfl, tape := rfl, output := rfl, size := Nat.le_refl _, keep := fun _ _ _ => rfl, glob := h1.glob }
 obtain ⟨I', k1, k2⟩ := v _ I n a w ok h2
 exact ⟨I', (h1.call k1).1, k2⟩
theorem UH (m : Nat) {P : Program} {o : Oper} {a : Act} {next : Act → World → Prop} {Q : Exit → Act → World → Prop} : ∀ {r : Result Next}, o.upon P a next Q r → o.uponIn (Fence.wide.inRound m) 0 P a next Q r
 | .ok (.value _) _, h => h
 | .ok .skip _, h => h
 | .ok (.defer _) _, h => h
 | .ok (.enter _ _) _, h => ⟨fun hd => (by cases hd), (callsIn_wide.2 h).inRound m⟩
 | .ok (.row _ _) _, h => ⟨fun hd => (by cases hd), fun c cs _ => let ⟨v, w', r, s⟩ := h c cs; ⟨v, w', r, stepsIn_wide.2 s⟩⟩
 | .halt (.panic _) _, h => h
theorem Tb (m : Nat) {P : Program} {ops : Array Oper} {Q : Exit → Act → World → Prop} (hnd : ∀ (i : Nat) (o : Oper), ops[i]? = some o → ∀ c : Call, o.op ≠ .defer c) (hQ : ¬ LetsOut Q) {i : Nat} {K : Act → World → Prop} {a : Act} {w : World} (h : wpOp P ops Q i K a w) : wpOpIn (Fence.wide.inRound m) 0 P ops Q i K a w := by
 unfold wpOp at h
 unfold wpOpIn
 cases ho : ops[i]? with
 | none => rw [ho] at h; exact h
 | some o =>
   rw [ho] at h
   dsimp only at h ⊢
   split
   · rename_i hw
     rw [if_pos hw] at h
     rcases h with h | h
     · refine ⟨fun f _ => trivial, ?_⟩
       rw [Fence.inRound_round, Oper.semAt_some _ _ _ (hnd i o ho)]
       exact UH m h
     · exact absurd h.2 hQ
   · rename_i hw
     rw [if_neg hw] at h
     exact ⟨fun f _ => trivial, h⟩
theorem KO (m : Nat) {P : Program} {ops : Array Oper} {Q : Exit → Act → World → Prop} {md : Region.Mode} (hnd : ∀ (i : Nat) (o : Oper), ops[i]? = some o → ∀ c : Call, o.op ≠ .defer c) (hQ : ¬ LetsOut Q) : ∀ (f : Nat) (listed : Array Bool) (a : Act) (w : World), wpAny P md ops Q f listed a w → wpAnyIn (Fence.wide.inRound m) 0 P md ops Q f listed a w
 | 0, _, _, _, h => h
 | f + 1, listed, a, w, h => ⟨h.1, fun i hi => Tb m hnd hQ (wpOp_mono (fun a w => KO m hnd hQ f _ a w) (h.2 i hi))⟩
def ZA : Op → Bool
 | .defer _ => false
 | _ => true
theorem Oe {k : Kx} {ρ : Env} {h h' : H} {Q : Exit → Env → H → Prop} (m : Nat) {id t n : Nat} {l l2 : List Oper} {P : Program} (hT : H) (hm : P.follows .mixedOrders = true) (hP : k.P = P) (hx : Hd l n l2) (hn : l.length = t) (hs : HB l.toArray n = true) (hnd : (l.all fun o => ZA o.op) = true) (ht : Take h hT h')
 (hQ : ∀ ρ h, ¬ Q .outgrown ρ h) (hj : JH k l.toArray n n (Array.replicate t false) l2 0 n false Q hT ρ h') {I : Nat → Prop} {a : Act} {w : World} (h1 : Ok k.c I h w) (h2 : SF k.n w I ρ a) (h3 : a.defers = k.df) :
 (Code.region id l.toArray true).wpIn (Fence.wide.inRound m) 0 k.P (lift k Q) a w := by
 obtain ⟨I', h1, h2⟩ := (VS.perm (ρ := ρ) ht.perm) _ _ _ _ _ h1 h2
 subst hP
 subst hn
 obtain ⟨hd, hle⟩ := hx.drop
 refine wpIn_region_any hm (KO m ?_ ?_ _ _ _ _ ?_)
 · intro i o ho c hc
   have hmem : o ∈ l := by
    have : l[i]? = some o := by simpa using ho
    exact List.mem_of_getElem? this
   have := List.all_eq_true.1 hnd o hmem
   rw [hc] at this
   cases this
 · intro hl
   obtain ⟨_, _, _, ρ1, hh1, _, _, _, hq⟩ := hl
   exact hQ _ _ hq
 have hsm : Ev I' (hT ++ h') w { w with drawn := w.drawn + 1 } := ⟨rfl, rfl, rfl, Nat.le_refl _, fun _ _ => rfl⟩
 have inv0 : HeadInv .any l.toArray n (Array.replicate l.length false) :=
  ⟨by simp, fun j oj _ hl => (by rw [getD_replicate_false] at hl; cases hl), fun t _ ht => getD_in (by simpa using ht) (getD_replicate_false _ _)⟩
 have H := hj.get hs inv0 I' a _ (h1.same hsm) (SF.same h1 hsm h2) h3
 have K := EI (Q := lift k Q) (g := l.length - n) (fun listed' a' w' hL => by
  have := wpAny_of_seq (md := .any) (Q' := lift k Q) l2 n listed' a' w' (fun j => by rw [← hd]; simp [List.getElem?_drop]) (by
   have e : l2.length = l.toArray.size - n := by rw [← hd]; simp
   rw [e]; exact hL.1) hL.2
  have e : l2.length = l.length - n := by rw [← hd]; simp
  rwa [e] at this) _ _ _ _ H
 rw [show n + (l.length - n) = l.toArray.size by simp; omega] at K
 simpa using K
abbrev YV (P : Program) (fn : Func) (G : List (Nat × List D)) (W : World) (I : Nat → Prop) (h : H) (Q : AE → H → Prop) : Exit → Act → World → Prop := bodyPostM Fence.wide 0 P fn fun e w => Gq G W I h Q e w
theorem dP {P : Program} {G : List (Nat × List D)} {f : FuncId} {fn : Func} {c : Code} {args : List AV} {h : H} {Q : AE → H → Prop} (n : Nat) (hf : P.funcs[f]? = some fn) (hb : fn.body = some c) (hn : fn.ntmps = n) (ha : args.length ≤ n)
 (hj : ∀ W I, JP ⟨P, ⟨W, I, blks h, G⟩, n, []⟩ c (YV P fn G W I h Q) (Ch 0 args) h) : AC P G f args h Q := by
 intro I W vs h1 h2 h3 hG h4
 have hlen := AV.rels_length h4
 refine callsIn_wide.1 (callsIn_of_wp_marks (n := 0) hf hb trivial (wpIn_wide.2 ?_))
 have hok : Ok ⟨W, I, blks h, G⟩ I h W :=
  { ent := h1, nd := h2, imm := h3, new := fun b hb => .inl hb, inew := fun b hb => .inl hb, sup := fun b hb => hb, os := rfl, tape := rfl, output := rfl, size := Nat.le_refl _, keep := fun _ _ _ => rfl, glob := hG }
 have hsf : SF n W I (Ch 0 args) { tmps := vs.toArray ++ Array.replicate (fn.ntmps - vs.toArray.size) undef, defers := [] } := by
  refine ⟨by simp [hn]; omega, fun t => ?_⟩
  have := DN W I args vs 0 t h4
  simp only [Nat.zero_le, if_true, Nat.sub_zero] at this
  have e : (vs.toArray ++ Array.replicate (fn.ntmps - vs.toArray.size) undef).getD t undef = (vs[t]?).getD undef := by
   rw [Array.getD_eq_getD_getElem?, Array.getElem?_append]
   by_cases ht : t < vs.length
   · simp [ht]
   · simp only [List.size_toArray, ht, if_false]
     rw [List.getElem?_eq_none (by omega)]
     simp only [Array.getElem?_replicate]
     split <;> rfl
  rw [e]; exact this
 exact hj W I I _ W hok hsf rfl
theorem TF {P : Program} {fn : Func} {G : List (Nat × List D)} {W : World} {I : Nat → Prop} {h : H} {Q : AE → H → Prop} {rs : List ResultVar} {n : Nat} (hr : fn.results = rs.toArray) : ∀ e a w, lift ⟨P, ⟨W, I, blks h, G⟩, n, []⟩ (Zu P G rs Q) e a w → YV P fn G W I h Q e a w := by
 rintro e a w ⟨I', ρ', h', k1, k2, k3, k4⟩
 have fin : (∃ ρ1 h1 xs h'', VS ρ' h' ρ1 h1 ∧ RVs P G ρ1 h1 rs xs ∧ List.Sublist h'' h1 ∧ Q (.ret (Ja xs)) h'') → ∃ v, (results fn a.tmps).run P w = .ok v w ∧ Gq G W I h Q (.returned v) w := by
  rintro ⟨ρ1, hh1, xs, h'', v, hrv, hsub, hq⟩
  obtain ⟨I1, m1, m2⟩ := v _ _ _ _ _ k1 k2
  obtain ⟨us, e1, e2⟩ := EH rfl m1 m2 hrv
  exact ⟨_, GB hr e1, _, h'', I1, hq, m1.sub hsub, Pf e2⟩
 cases e with
 | normal => show LeavesInM _ _ _ _ _ _ a.defers _ _; rw [k3]; exact fin k4
 | ret => show LeavesInM _ _ _ _ _ _ a.defers _ _; rw [k3]; exact fin k4
 | panic ch => show LeavesInM _ _ _ _ _ _ a.defers _ _; rw [k3]; exact ⟨_, h', I', k4, k1, rfl⟩
 | exit _ => exact k4.elim
 | goto _ => exact k4.elim
 | outgrown => exact k4.elim
def gx (P : Program) (G : List (Nat × List D)) (rs : List ResultVar) (dn : Nat) (Q : AE → H → Prop) (e : Exit) (ρ : Env) (h : H) : Prop :=
 O2 e = true ∧ ∃ ρ1 h1 xs h', VS ρ h ρ1 (.raw dn (.deferred (some [])) :: h1) ∧ RVs P G ρ1 (.raw dn (.deferred none) :: h1) rs xs ∧ List.Sublist h' (.raw dn (.deferred none) :: h1) ∧ Q (.ret (Ja xs)) h'
theorem Vh {P : Program} {fn : Func} {G : List (Nat × List D)} {W : World} {I : Nat → Prop} {h : H} {Q : AE → H → Prop} {rs : List ResultVar} {n dn : Nat} (hr : fn.results = rs.toArray) : ∀ e a w, lift ⟨P, ⟨W, I, blks h, G⟩, n, [{ target := .collected dn, args := #[] }]⟩ (gx P G rs dn Q) e a w → YV P fn G W I h Q e a w := by
 rintro e a w ⟨I', ρ', h', k1, k2, k3, he, ρ1, hh1, xs, h'', v, hrv, hsub, hq⟩
 have fin : LeavesInM Fence.wide 0 P fn a.tmps (fun e w => Gq G W I h Q e w) a.defers .returning w := by
  obtain ⟨I1, m1, m2⟩ := v _ _ _ _ _ k1 k2
  have hD : w.heap[dn]? = some (.deferred (some [])) := m1.ent (.raw dn (.deferred (some []))) (by simp)
  have m1' := Ok.putRaw (o' := .deferred none) (h1 := []) m1
  have hni : ∀ b, I1 b → b ≠ dn := fun b hb e => (m1.imm b hb).2 (by subst e; simp [blks, Ent.blk])
  have m2' : SF n (w.putObj dn (.deferred none)) I1 ρ1 a := m2.mono (fun b hb => World.putObj_heap_other (hni b hb)) (fun _ hb => hb)
  obtain ⟨us, e1, e2⟩ := EH rfl m1' m2' hrv
  rw [k3]
  refine ⟨by simp, .inl ⟨_, _, rfl, run_takeDeferred hD, ?_⟩⟩
  exact ⟨_, GB hr e1, _, h'', I1, hq, m1'.sub hsub, Pf e2⟩
 cases e <;> first | exact fin | cases he
theorem X8 {k : Kx} {ρ : Env} {h : H} {id : Nat} {x : Code} {Post : Exit → Act → World → Prop} (hj : JP k x (Exit.inBlock id Post) ρ h) : JP k (.block id x) Post ρ h := fun I a w h1 h2 h3 => wp_block (hj I a w h1 h2 h3)
end Go.Av
