/- A bundle of this claim's own texts: E23 G5 G6 G12 E25 Br Cf E9 E26 E24 H1 Em En G23. -/
import Derived.Lib.Builder
import Derived.Laws.Externs
import Derived.LaidEqlPtr
import Derived.ProofKit
import Derived.Carry
import Derived.Lib.LaidTab
import Derived.Deep.Slices
import Derived.Below
import Derived.ChangeSame
import Derived.WideKeyArgs
import Derived.ShutString
import Derived.OpenShut
import Derived.RangeFuncNested
import Derived.RangeFuncCalls
import Derived.RangeFuncLeaves
import Derived.Test.YtajnpfgelpkijaaGreatDoorA1
import Derived.Test.YtajnpfgelpkijaaGreatDoorA2
import Derived.Test.YtajnpfgelpkijaaGreatDoorA3
import Derived.Test.YtajnpfgelpkijaaGreatDoorA4
import Derived.Test.YtajnpfgelpkijaaGreatDoorA5
import Derived.Test.YtajnpfgelpkijaaGreatDoorA6
set_option linter.unusedVariables false
set_option linter.unusedSimpArgs false
set_option maxRecDepth 100000
set_option maxHeartbeats 4000000
namespace Go.Av
open Go
section
variable {P : Program} {G : List (Nat × List D)} {ρ : Env} {h : H} {dst : Option Tmp} {ty : TypeId} {pos : String} {after : Array Edge} {g : Option (Nat × Bool)}
theorem OC {tp te : TypeId} {T' : TypeId} {x y : Operand} {p : Option Addr} (hx : evO ρ x = some (.val (.pointer p))) (hy : evO ρ y = some (.val (.pointer none))) (hT : P.underlying tp = some (.pointer te)) : Pure P G ⟨dst, .binOp .eql tp x y T', ty, pos, after, g⟩ ρ h (.bool (decide (p = none))) :=
 A5 (AA hx) (AA hy) (fun w => by simp [eqGuard, run_underlying hT]) fun w => by
  have h0 : ∀ d : Nat, (Op.equalIn (d + 1) tp (.pointer p) (.pointer none)).run P w = .ok (decide (p = none)) w := fun d => by
   cases p with
   | none => simp [Op.equalIn, run_underlying hT]
   | some a => simp [Op.equalIn, run_underlying hT]
  simp only [binOp]
  simp [Op.equal, Op.maxDepth, h0 9999]
theorem MK {tp te : TypeId} {T' : TypeId} {x y : Operand} {a : Addr} {j : TypeInfo} (hx : evO ρ x = some (.val (.pointer (some a)))) (hy : evO ρ y = some (.val (.pointer (some a)))) (hT : P.underlying tp = some (.pointer te)) (hj : P.info? te = some j) : Pure P G ⟨dst, .binOp .neq tp x y T', ty, pos, after, g⟩ ρ h (.bool false) :=
 A5 (AA hx) (AA hy) (fun w => by simp [eqGuard, run_underlying hT]) fun w => Lib.run_neq_ptr_same w a hT hj
theorem Gt {w : World} {I : Nat → Prop} {b : Nat} {T : TypeId} {vs : List AV} (h : (Ent.cells b T vs).rel w I) : w.shape? b = some (T, vs.length) := by
 obtain ⟨cs, h1, h2⟩ := h
 have : vs.length = cs.size := by rw [AV.rels_length h2, Array.length_toList]
 simp [World.shape?, h1, this]
theorem KZ {tp te up T : TypeId} {x : Operand} {b : Nat} {vs : List AV} {j : TypeInfo} (hx : evO ρ x = some (.val (.pointer (some ⟨b, 0, none⟩)))) (hm : Ent.cells b T vs ∈ h) (h0 : 0 < vs.length) (hs : P.underlying tp = some (.pointer te)) (hd : P.underlying up = some .unsafePointer) (ht : P.info? te = some j) (hj : j.size ≠ 0) :
 Pure P G ⟨dst, .convert tp up x, ty, pos, after, g⟩ ρ h (.val (.pointer (some ⟨b, 0, none⟩))) := by
 intro c I n a w _ hok hs'
 have e1 := AI (hs'.ev x) (AA hx)
 obtain ⟨cs, hc1, hc2⟩ := hok.ent _ hm
 refine ⟨_, rfl, fun w' hw' => ?_⟩
 have hheap : w'.heap[b]? = some (.cells cs T (0, 0)) := (hw'.own b (Ct hm rfl)).trans hc1
 have hsh := Gt (I := I) (w := w') (b := b) (T := T) (vs := cs.toList.map fun v => AV.val v) ⟨cs, hheap, rels_vals _ _ _⟩
 have hl : vs.length = cs.size := by rw [AV.rels_length hc2, Array.length_toList]
 have hr := Lib.run_to_unsafe (P := P) w' ⟨b, 0, none⟩ hs hd ht hj hsh (by rw [List.length_map, Array.length_toList]; simp only; omega)
 simp [execOp, e1, hr]
theorem H5 {tp te up T : TypeId} {x : Operand} {b : Nat} {vs : List AV} {j : TypeInfo} (hx : evO ρ x = some (.val (.pointer (some ⟨b, 0, none⟩)))) (hm : Ent.cells b T vs ∈ h) (hs : P.underlying up = some .unsafePointer) (hd : P.underlying tp = some (.pointer te)) (ht : P.info? te = some j) (hl : liesAt P P.depth T (vs.length / P.cellsOf T) 0 te 1 = true) :
 Pure P G ⟨dst, .convert up tp x, ty, pos, after, g⟩ ρ h (.val (.pointer (some ⟨b, 0, none⟩))) := by
 intro c I n a w _ hok hs'
 have e1 := AI (hs'.ev x) (AA hx)
 obtain ⟨cs, hc1, hc2⟩ := hok.ent _ hm
 refine ⟨_, rfl, fun w' hw' => ?_⟩
 have hheap : w'.heap[b]? = some (.cells cs T (0, 0)) := (hw'.own b (Ct hm rfl)).trans hc1
 have hsh := Gt (I := I) (w := w') (b := b) (T := T) (vs := cs.toList.map fun v => AV.val v) ⟨cs, hheap, rels_vals _ _ _⟩
 have hl' : (cs.toList.map fun v => AV.val v).length = vs.length := by rw [List.length_map, AV.rels_length hc2]
 have hr := Lib.run_from_unsafe (P := P) w' ⟨b, 0, none⟩ hs hd ht hsh (by rw [hl']; exact hl)
 simp [execOp, e1, hr]
theorem Kd {f : FuncId} {x : Operand} {T : TypeId} {v : Value} {fn : Func} (hx : evO ρ x = some (.val v)) (hf : P.funcs[f]? = some fn) (hname : (fn.name == "runtime.NumGoroutine") = false) (hb : fn.body.isNone = true) (hn : Extern.findNext fn = none) (he : Extern.find fn = some Extern.AbiNoEscape.same) :
 Pure P G ⟨dst, .call { callee := .value (.func f), args := #[x], argTypes := #[T] }, ty, pos, after, g⟩ ρ h (.val v) :=
 AZ fun w I _ a hs => ⟨_, rfl, fun w' => by
  have e1 := AI (hs.ev x) (AA hx)
  have hr := run_callFunc_extern hf hname hb hn he #[v] w'
  rw [execOp_call_go]
  have e2 : (#[] ++ #[x].map a.eval ++ #[] : Array Value) = #[v] := by simp [e1]
  rw [e2, hr, Lib.run_noEscape]
  rfl⟩
end
section
variable {k : Kx} {Q : Exit → Env → H → Prop} {ρ : Env} {h : H} {ops : Array Oper} {l : List Oper} {d : Nat} {ty : TypeId} {pos : String} {after : Array Edge}
theorem fa {xs ys : List UInt8} {T U E : TypeId} {x y : Operand} {v : Value} {H' : Sl → H} (hx : evO ρ x = some (.val v)) (hT : k.P.underlying T = some (.slice E)) (hU : k.P.underlying U = some .string) (he : El k.P E (.int .u8 0) 1 1)
 (hu : ∀ q : Sl, Upd (AF v E 1 Bb xs) (AF q.v E 1 Bb (xs ++ ys)) h (H' q)) (hy : evO ρ y = some (.val (.string (Go.Sp.tx ys)))) (hd : Nat.blt d k.n = true) (hb : xs.length + ys.length ≤ 140737488355328)
 (hj : All fun q : Sl => JL k ops l Q ((d, .val q.v) :: ρ) (H' q)) :
 JL k ops (⟨some d, .call { callee := .builtin .append, args := #[x, y], argTypes := #[T, U] }, ty, pos, after, none⟩ :: l) Q ρ h :=
 fp hx hT hU he hu hy hd hb hj
end
end Go.Av
namespace Go.Sp
open Go Go.Av

def Dc (n : Int) : List Vr → List Int → Int × Int
 | v :: l, x :: xs => if v.low ≤ x ∧ x ≤ v.high then Dc (n * A6 v + (x - v.low)) l xs else (0, 9)
 | _, _ => (n, 0)
theorem Yu (n : Int) (l : List Vr) (xs : List Int) (i : Nat) (h : i < l.length) (h' : i < xs.length) : Dc n (l.drop i) (xs.drop i) = if l[i].low ≤ xs[i] ∧ xs[i] ≤ l[i].high then Dc (n * A6 l[i] + (xs[i] - l[i].low)) (l.drop (i + 1)) (xs.drop (i + 1)) else (0, 9) := by
 rw [List.drop_eq_getElem_cons h, List.drop_eq_getElem_cons h', Dc]
theorem Wu (n : Int) (l : List Vr) (xs : List Int) (i : Nat) (h : l.length ≤ i) : Dc n (l.drop i) (xs.drop i) = (n, 0) := by rw [List.drop_of_length_le h]; cases xs.drop i <;> rfl
noncomputable def codeF (m : Md) (xs : List Int) : Int × Int := if Ah m ≠ 0 then (0, Ah m) else if xs.length ≠ m.vars.length then (0, 9) else Dc 0 m.vars xs
theorem MZ (l : List Vr) (i : Nat) (h : i < l.length) : AR (l.drop i) = A6 l[i] * AR (l.drop (i + 1)) := by
 rw [List.drop_eq_getElem_cons h, AR]
theorem KP {n p s d : Int} (h0 : 0 ≤ n) (h1 : n + 1 ≤ p) (hd0 : 0 ≤ d) (hd : d < s) : 0 ≤ n * s ∧ 0 ≤ n * s + d ∧ n * s + d + 1 ≤ p * s := by
 have a1 : 0 ≤ n * s := Int.mul_nonneg h0 (by omega)
 have a2 : (n + 1) * s ≤ p * s := Int.mul_le_mul_of_nonneg_right h1 (by omega)
 rw [Int.add_mul, Int.one_mul] at a2
 omega

def CO : List Vr → Int → List Int
 | [], _ => []
 | v :: l, c => (v.low + c / AR l) :: CO l (c % AR l)
theorem F7 : ∀ (l : List Vr) (c : Int), (CO l c).length = l.length
 | [], _ => rfl
 | _ :: l, c => by simp [CO, F7 l]
theorem di (c q s t : Int) (hq : 0 < q) : (c % (t * (s * q))) / q % s = c / q % s := by
 have e : c % (t * (s * q)) = c + (-(t * (c / (t * (s * q)))) * s) * q := by
  rw [Int.emod_def, show t * (s * q) * (c / (t * (s * q))) = t * (c / (t * (s * q))) * s * q by
   rw [Int.mul_assoc t (s * q), Int.mul_comm (s * q), ← Int.mul_assoc, ← Int.mul_assoc]]
  rw [Int.neg_mul, Int.neg_mul]
  omega
 rw [e, Int.add_mul_ediv_right _ _ (by omega), Int.add_mul_emod_self_right]
theorem Js : ∀ (l : List Vr) (c : Int) (i : Nat) (_ : ∀ v ∈ l, 1 ≤ A6 v) (_ : 0 ≤ c) (_ : c < AR l) (h : i < l.length) (h' : i < (CO l c).length), (CO l c)[i] = l[i].low + c / AR (l.drop (i + 1)) % A6 l[i]
 | [], _, _, _, _, _, h, _ => by simp at h
 | v :: l, c, 0, hs, h0, hc, _, _ => by
   have hp := Dt fun w hw => hs w (List.mem_cons_of_mem v hw)
   simp only [CO, List.getElem_cons_zero, List.drop_succ_cons, List.drop_zero]
   rw [Int.emod_eq_of_lt (Int.ediv_nonneg h0 (by omega)) (Int.ediv_lt_of_lt_mul (by omega) hc)]
 | v :: l, c, i + 1, hs, h0, hc, h, h' => by
   have hl : ∀ w ∈ l, 1 ≤ A6 w := fun w hw => hs w (List.mem_cons_of_mem v hw)
   have hp := Dt hl
   have hi : i < l.length := by simpa using h
   have hq := Dt fun w hw => hl w (List.mem_of_mem_drop (i := i + 1) hw)
   have e : AR l = AR (l.take i) * (A6 l[i] * AR (l.drop (i + 1))) := by
    rw [← MZ l i hi, ← EO, List.take_append_drop]
   simp only [CO, List.getElem_cons_succ, List.drop_succ_cons]
   rw [Js l _ i hl (Int.emod_nonneg _ (by omega)) (Int.emod_lt_of_pos _ (by omega)) hi, e, di _ _ _ _ (by omega)]
noncomputable def CW (m : Md) (c : Int) : List Int × Int := if Ah m ≠ 0 then ([], Ah m) else if 0 ≤ c ∧ c < AR m.vars then (CO m.vars c, 0) else ([], 9)
theorem aJ (c q s : Int) (hq : 0 ≤ q) : c / q / s = c / (s * q) := by rw [Int.ediv_ediv, if_neg (by omega), Int.sub_zero, Int.mul_comm]
def HD (V : List Int) (k : Nat) : List Int := List.replicate k 0 ++ V.drop k
theorem OR (V : List Int) (k : Nat) (h : k ≤ V.length) : (HD V k).length = V.length := by simp [HD]; omega
theorem WV (V : List Int) (k : Nat) (h : k < V.length) : (HD V (k + 1)).set k V[k] = HD V k := by
 unfold HD
 rw [List.replicate_succ', List.append_assoc, List.set_append_right _ _ (by simp), List.drop_eq_getElem_cons h]
 simp

theorem Gs (n : Int) : ∀ (l : List Ru), DU n l = 0 → ∀ r ∈ l, DZ r n = 0
 | [], _, r, hr => by cases hr
 | r :: l, h, q, hq => by
   rw [DU] at h
   by_cases c : DZ r n ≠ 0
   · rw [if_pos c] at h; exact absurd h c
   · rw [if_neg c] at h
     rcases List.mem_cons.1 hq with rfl | hq
     · exact Decidable.not_not.1 c
     · exact Gs n l h q hq
theorem Ia (n : Int) : ∀ (l : List St) (seen : List Int), Er n l seen = 0 → (∀ s ∈ l, 0 ≤ s.var ∧ s.var < n ∧ CF s.val n false = 0 ∧ s.var ∉ seen) ∧ (l.map St.var).Nodup
 | [], _, _ => ⟨fun s hs => (by cases hs), List.nodup_nil⟩
 | s :: l, seen, h => by
   rw [Er] at h
   by_cases c1 : ¬ (0 ≤ s.var ∧ s.var < n)
   · rw [if_pos c1] at h; exact absurd h (by decide)
   rw [if_neg c1] at h
   by_cases c2 : s.var ∈ seen
   · rw [if_pos c2] at h; exact absurd h (by decide)
   rw [if_neg c2] at h
   by_cases c3 : CF s.val n false ≠ 0
   · rw [if_pos c3] at h; exact absurd h c3
   rw [if_neg c3] at h
   obtain ⟨i1, i2⟩ := Ia n l _ h
   refine ⟨fun q hq => ?_, ?_⟩
   · rcases List.mem_cons.1 hq with rfl | hq
     · exact ⟨by omega, by omega, Decidable.not_not.1 c3, c2⟩
     · obtain ⟨a, b, c, d⟩ := i1 q hq
       exact ⟨a, b, c, fun hm => d (List.mem_append_left _ hm)⟩
   · rw [List.map_cons, List.nodup_cons]
     refine ⟨fun hm => ?_, i2⟩
     obtain ⟨q, hq, he⟩ := List.mem_map.1 hm
     exact (i1 q hq).2.2.2 (he ▸ List.mem_append_right _ (List.mem_singleton.2 rfl))
structure gh (r : Ru) (n : Nat) : Prop where
 guard : Cn r.guard n = (true, 0)
 few : r.sets.length ≤ 6
 sets : ∀ s ∈ r.sets, 0 ≤ s.var ∧ s.var < n ∧ (Cn s.val n).2 = 0
 once : (r.sets.map St.var).Nodup
theorem Lv {l : List Fo} {n : Int} {t : Bool} (h : CF l n t = 0) : Cn l n = (t, 0) := by
 unfold CF at h
 by_cases c : (Cn l n).2 ≠ 0
 · rw [if_pos c] at h; exact absurd h c
 rw [if_neg c] at h
 by_cases c2 : (Cn l n).1 ≠ t
 · rw [if_pos c2] at h; exact absurd h (by decide)
 · exact Prod.ext (Decidable.not_not.1 c2) (Decidable.not_not.1 c)
theorem gE {m : Md} (h : Ah m = 0) {r : Ru} (hr : r ∈ m.rules) : gh r m.vars.length := by
 have hv := BP h
 unfold Ah at h
 rw [if_neg (fun k => k hv)] at h
 by_cases c : 12 < m.rules.length
 · rw [if_pos c] at h; exact absurd h (by decide)
 rw [if_neg c] at h
 have hf := Gs _ _ h r hr
 unfold DZ at hf
 by_cases c1 : 6 < r.sets.length
 · rw [if_pos c1] at hf; exact absurd hf (by decide)
 rw [if_neg c1] at hf
 by_cases c2 : CF r.guard m.vars.length true ≠ 0
 · rw [if_pos c2] at hf; exact absurd hf c2
 rw [if_neg c2] at hf
 obtain ⟨i1, i2⟩ := Ia _ _ _ hf
 exact ⟨Lv (Decidable.not_not.1 c2), by omega, fun s hs => ⟨(i1 s hs).1, (i1 s hs).2.1, by rw [Lv (i1 s hs).2.2.1]⟩, i2⟩
def H9 (m : Md) (vs : List Int) (s : St) : Prop := (CL s.val vs).2 = 0 ∧ ∀ v, m.vars[s.var.toNat]? = some v → v.low ≤ (CL s.val vs).1 ∧ (CL s.val vs).1 ≤ v.high
def Cc (vs : List Int) : List St → List Int → List Int
 | [], out => out
 | s :: l, out => Cc vs l (out.set s.var.toNat (CL s.val vs).1)
theorem Dv (vs : List Int) : ∀ (l : List St) (out : List Int), (Cc vs l out).length = out.length
 | [], _ => rfl
 | s :: l, out => by rw [Cc, Dv vs l, List.length_set]
noncomputable instance (m : Md) (vs : List Int) (s : St) : Decidable (H9 m vs s) := Classical.propDecidable _
noncomputable def Co (m : Md) (r : Ru) (vs : List Int) : Option (List Int) :=
 if CL r.guard vs = (1, 0) ∧ ∀ s ∈ r.sets, H9 m vs s then some (Cc vs r.sets vs) else none
theorem XC {l : List Fo} {vs : List Int} (h : Cn l vs.length = (true, 0)) (hv : ∀ v ∈ vs, Al v) : CL l vs = (0, 8) ∨ CL l vs = (0, 0) ∨ CL l vs = (1, 0) := by
 have h0 : (Cn l vs.length).2 = 0 := by rw [h]
 obtain ⟨g, _, _⟩ := MM h0
 unfold CL
 rw [if_neg (fun k => k h0), if_pos hv]
 unfold wk
 cases hx : Cy l vs 0 with
 | none => exact .inl rfl
 | some n =>
   have hk : DE (AW l 0) := by
    have := h
    unfold Cn at this
    by_cases c1 : (vs.length : Int) < 0 ∨ 6 < (vs.length : Int)
    · rw [if_pos c1] at this; exact absurd this (by simp)
    rw [if_neg c1, if_neg (fun k => k g.ends)] at this
    by_cases c2 : II l vs.length ≠ 0
    · rw [if_pos c2] at this; exact absurd (Prod.mk.inj this).1 (by simp)
    rw [if_neg c2, if_pos g.typed] at this
    exact of_decide_eq_true (Prod.mk.inj this).1
   rcases Pc g.pos hk hx with rfl | rfl
   · exact .inr (.inl rfl)
   · exact .inr (.inr rfl)
def upd (vs : List Int) : List St → Nat → Int → Int
 | [], _, x => x
 | s :: l, i, x => upd vs l i (if s.var.toNat = i then (CL s.val vs).1 else x)
theorem MJ (vs : List Int) : ∀ (l : List St) (out : List Int) (i : Nat), (Cc vs l out)[i]? = (out[i]?).map (upd vs l i)
 | [], out, i => by simp [Cc, upd, Option.map_id']
 | s :: l, out, i => by
   rw [Cc, MJ vs l, List.getElem?_set]
   by_cases e : s.var.toNat = i
   · subst e
     rw [if_pos rfl]
     by_cases h : s.var.toNat < out.length
     · rw [if_pos h, List.getElem?_eq_getElem h]; simp [upd]
     · rw [if_neg h, List.getElem?_eq_none (by omega)]; rfl
   · rw [if_neg e]
     cases out[i]? with
     | none => rfl
     | some x => simp [upd, e]
theorem Sr (vs : List Int) : ∀ (l : List St) (i : Nat) (x : Int), upd vs l i x = x ∨ ∃ s ∈ l, s.var.toNat = i ∧ upd vs l i x = (CL s.val vs).1
 | [], _, _ => .inl rfl
 | s :: l, i, x => by
   rw [upd]
   by_cases e : s.var.toNat = i
   · rw [if_pos e]
     rcases Sr vs l i (CL s.val vs).1 with h | ⟨q, h1, h2, h3⟩
     · exact .inr ⟨s, List.mem_cons_self, e, h⟩
     · exact .inr ⟨q, List.mem_cons_of_mem _ h1, h2, h3⟩
   · rw [if_neg e]
     rcases Sr vs l i x with h | ⟨q, h1, h2, h3⟩
     · exact .inl h
     · exact .inr ⟨q, List.mem_cons_of_mem _ h1, h2, h3⟩
theorem KB : ∀ (l : List Vr) (xs : List Int) (n : Int), (∀ (i : Nat) (h : i < l.length) (h' : i < xs.length), l[i].low ≤ xs[i] ∧ xs[i] ≤ l[i].high) → (Dc n l xs).2 = 0
 | [], xs, n, _ => by simp [Dc]
 | v :: l, [], n, _ => by simp [Dc]
 | v :: l, x :: xs, n, h => by
   have h0 : v.low ≤ x ∧ x ≤ v.high := h 0 (by simp) (by simp)
   rw [Dc, if_pos h0]
   exact KB l xs _ fun i h1 h2 => h (i + 1) (by simpa using h1) (by simpa using h2)
theorem QU {l : List Vr} (g : Ui l) {c : Int} (h0 : 0 ≤ c) (hc : c < AR l) (i : Nat) (h : i < l.length) (h' : i < (CO l c).length) : l[i].low ≤ (CO l c)[i] ∧ (CO l c)[i] ≤ l[i].high := by
 rw [Js l c i (fun v hv => (g.span v hv).1) h0 hc h h']
 have hs := (g.span l[i] (List.getElem_mem h)).1
 have m1 := Int.emod_nonneg (c / AR (l.drop (i + 1))) (show A6 l[i] ≠ 0 by omega)
 have m2 := Int.emod_lt_of_pos (c / AR (l.drop (i + 1))) (show 0 < A6 l[i] by omega)
 unfold A6 at m1 m2 ⊢
 omega
theorem IY {m : Md} (h : Ah m = 0) : m.rules.length ≤ 12 := by
 have hv := BP h
 unfold Ah at h
 rw [if_neg (fun k => k hv)] at h
 by_cases c : 12 < m.rules.length
 · rw [if_pos c] at h; exact absurd h (by decide)
 · omega
theorem MB {m : Md} {l : List (List Fo)} (h : CS m l = 0) : Ah m = 0 ∧ l.length ≤ 6 := by
 unfold CS at h
 by_cases c1 : Ah m ≠ 0
 · rw [if_pos c1] at h; exact absurd h c1
 rw [if_neg c1] at h
 by_cases c2 : 6 < l.length
 · rw [if_pos c2] at h; exact absurd h (by decide)
 · exact ⟨Decidable.not_not.1 c1, by omega⟩
end Go.Sp
namespace Go.Av
open Go
section
variable {P : Program} {G : List (Nat × List D)} {ρ : Env} {h : H} {dst : Option Tmp} {ty : TypeId} {pos : String} {after : Array Edge} {g : Option (Nat × Bool)}
theorem O8 {T : TypeId} {x : Operand} {gl off : Nat} {c : D} {cs : List D} (hT : A0 P T = some false) (hx : evO ρ x = some (.val (.pointer (some ⟨gl, off, none⟩)))) (hG : (gl, cs) ∈ G) (hc : cs[off]? = some c) : Pure P G ⟨dst, .load T x, ty, pos, after, g⟩ ρ h c.av := by
 intro k I n a w hGc hok hs
 have e1 := AI (hs.ev x) (AA hx)
 have hpd := hok.glob (gl, cs) (by rw [hGc]; exact hG)
 obtain ⟨u, hu, hr⟩ := hpd.2 off c hc
 refine ⟨u, D.av_rel hr, fun w' hw' => ?_⟩
 have hcell : w'.cell? ⟨gl, off, none⟩ = some u := by
  have hu' : w.cell? ⟨gl, off, none⟩ = some u := by
   have : (⟨gl, 0, none⟩ : Addr).add off = ⟨gl, off, none⟩ := by rw [Addr.add_lit, Nat.zero_add]
   rw [← this]; exact hu
  exact (World.cell?_of_block (w := w) (hw'.imm gl hpd.1)).trans hu'
 simp [execOp, e1, Instr.loadAt, Instr.sureAddr, loadVar, B2 hT, run_load, hcell]
theorem Jh {T T' : TypeId} {x y : Operand} {a : List UInt8} {t : ByteArray} (hx : evO ρ x = some (.val (.string (Go.Sp.tx a)))) (hy : evO ρ y = some (.val (.string t))) (hb : a.length + t.data.toList.length ≤ 9223372036854775807) : Pure P G ⟨dst, .binOp .add T x y T', ty, pos, after, g⟩ ρ h (.val (.string (Go.Sp.tx (a ++ t.data.toList)))) := by
 rw [← Go.Sp.app_tx]
 exact Zp hx hy (by rw [Array.length_toList] at hb; exact hb)
theorem C8 {T : TypeId} {gl : Nat} {cs : List D} {z : Value} {sz eb : Nat} (hT : A0 P T = some true) (hE : El P T z sz eb) (hG : (gl, cs) ∈ G) (hn : sz = cs.length) : Pure P G ⟨dst, .load T (.global gl), ty, pos, after, g⟩ ρ h (.agg (cs.map D.av)) := by
 intro k I n a w hGc hok hs
 obtain ⟨i, hi, _, hsz, _⟩ := hE.get
 have hpd := hok.glob (gl, cs) (by rw [hGc]; exact hG)
 have e0 : a.eval (.global gl) = .pointer (some ⟨gl, 0, none⟩) := rfl
 let f : Nat → Value := fun u => (w.cell? ((⟨gl, 0, none⟩ : Addr).add u)).getD undef
 have hf : ∀ u x, cs[u]? = some x → w.cell? ((⟨gl, 0, none⟩ : Addr).add u) = some (f u) ∧ Rel w I x (f u) := fun u x hux => by
  obtain ⟨v, h1, h2⟩ := hpd.2 u x hux
  simp only [f, h1, Option.getD_some]
  exact ⟨trivial, h2⟩
 refine ⟨.agg ((List.range cs.length).map f).toArray, ⟨_, rfl, Pw cs f fun u x hux => (hf u x hux).2⟩, fun w' hw' => ?_⟩
 have hload := run_loadCells (P := P) w' ⟨gl, 0, none⟩ cs.length f fun j hj => by
  rw [World.cell?_of_block (w := w)]
  · exact (hf j cs[j] (List.getElem?_eq_getElem hj)).1
  · rw [Dr]; exact hw'.imm _ hpd.1
 simp [execOp, e0, Instr.loadAt, Instr.sureAddr, loadVar, B2 hT, sizeOf, typeInfo, hi, hsz, hn, hload]
theorem CE {T E : TypeId} {x y : Operand} {cs : List AV} {len n : Nat} {r : AV} {z : Value} {eb : Nat} (hx : evO ρ x = some (.agg cs)) (hy : evO ρ y = some (.int (n : Int))) (hT : P.underlying T = some (.array len E)) (hA : A0 P E = some false) (hE : El P E z 1 eb) (hn : n < len) (hr : cs[n]? = some r) :
 Pure P G ⟨dst, .index T x y, ty, pos, after, g⟩ ρ h r :=
 AZ fun w I _ a hs => by
  obtain ⟨i, hi, _, hsz, _⟩ := hE.get
  obtain ⟨vs, hv, hrel⟩ := BS (hs.ev x) (AA hx)
  have e2 := AI (hs.ev y) (AA hy)
  obtain ⟨v, h1, h2⟩ := AV.rels_get hrel n r hr
  refine ⟨v, h2, fun w' => ?_⟩
  have hn' : (n : Int) < (len : Int) := by omega
  have h3 : vs.toArray[n]? = some v := by simpa using h1
  simp [execOp, hv, e2, Instr.index, asIntOf, run_underlying hT, hn', part, B2 hA, sizeOf, typeInfo, hi, hsz, h1]
  intro hle
  omega
theorem XB {T : TypeId} {x0 x1 x2 : Operand} {a b c : Int} (h0 : evO ρ x0 = some (.int a)) (h1 : evO ρ x1 = some (.int b)) (h2 : evO ρ x2 = some (.int c)) (hB : P.built T [(0, .int .i64 a), (1, .int .i64 b), (2, .int .i64 c)] = some #[.int .i64 a, .int .i64 b, .int .i64 c]) :
 Pure P G ⟨dst, .build T #[(0, x0), (1, x1), (2, x2)], ty, pos, after, g⟩ ρ h (.agg [.int a, .int b, .int c]) :=
 AZ fun w I _ act hs => by
  have e0 := AI (hs.ev x0) (AA h0)
  have e1 := AI (hs.ev x1) (AA h1)
  have e2 := AI (hs.ev x2) (AA h2)
  refine ⟨.agg #[.int .i64 a, .int .i64 b, .int .i64 c], ⟨[_, _, _], rfl, rfl, rfl, rfl, trivial⟩, fun w' => ?_⟩
  have hr := run_build (P := P) w' T #[(0, .int .i64 a), (1, .int .i64 b), (2, .int .i64 c)] _ hB
  simp [execOp, e0, e1, e2, hr]
end

def Dm (w : World) (I : Nat → Prop) : List D → List Value → Prop
 | [], [] => True
 | x :: xs, c :: cs => Rel w I x c ∧ Dm w I xs cs
 | _, _ => False
theorem Dm.length {w : World} {I : Nat → Prop} : ∀ {xs : List D} {cs : List Value}, Dm w I xs cs → xs.length = cs.length
 | [], [], _ => rfl
 | _ :: _, _ :: _, ⟨_, h⟩ => by simp [Dm.length h]
theorem Dm.get {w : World} {I : Nat → Prop} : ∀ {xs : List D} {cs : List Value}, Dm w I xs cs → ∀ (u : Nat) (x : D), xs[u]? = some x → ∃ c, cs[u]? = some c ∧ Rel w I x c
 | [], [], _, _, _, h => by simp at h
 | x :: xs, c :: cs, ⟨h1, h2⟩, u, y, h => by
   cases u with
   | zero => simp at h; subst h; exact ⟨c, rfl, h1⟩
   | succ u => simpa using Dm.get h2 u y (by simpa using h)
theorem Dm.append {w : World} {I : Nat → Prop} : ∀ {xs ys : List D} {cs ds : List Value}, Dm w I xs cs → Dm w I ys ds → Dm w I (xs ++ ys) (cs ++ ds)
 | [], _, [], _, _, h => h
 | _ :: _, _, _ :: _, _, ⟨h1, h2⟩, h => ⟨h1, Dm.append h2 h⟩
theorem Dm.av {w : World} {I : Nat → Prop} : ∀ {xs : List D} {cs : List Value}, Dm w I xs cs → AV.rels w I (xs.map D.av) cs
 | [], [], _ => trivial
 | _ :: _, _ :: _, ⟨h1, h2⟩ => ⟨D.av_rel h1, Dm.av h2⟩

def Bn (P : Program) : Nat → TypeId → List D → Prop
 | 0, _, _ => False
 | fuel + 1, t, xs =>
   match P.underlying t with
   | some .bool => ∃ b, xs = [.b b]
   | some (.int k) => ∃ n, xs = [.i k n] ∧ (Lit.int k n).wf = true
   | some .string => ∃ s, xs = [.s s] ∧ s.size ≤ 140737488355328
   | some (.slice e) => ∃ rows, xs = [.l (P.cellsOf e) (P.bytesOf e) rows] ∧ (∀ r ∈ rows, Bn P fuel e r) ∧ rows.length * P.bytesOf e ≤ 140737488351232
   | some (.struct fs) => ∃ parts : List (List D), xs = parts.flatten ∧ parts.length = fs.size ∧ ∀ (i : Nat) (f : Field) (p : List D), fs[i]? = some f → parts[i]? = some p → Bn P fuel f.type p
   | some (.array n e) => ∃ parts : List (List D), xs = parts.flatten ∧ parts.length = n ∧ ∀ p ∈ parts, Bn P fuel e p
   | _ => False

def OP (P : Program) : Nat → List Field → Bool
 | _, [] => true
 | off, f :: fs => f.offset == off && OP P (off + P.cellsOf f.type) fs
def FW (P : Program) : Nat → TypeId → Bool
 | 0, _ => false
 | fuel + 1, t =>
   match P.underlying t with
   | some .bool | some (.int _) | some .string => true
   | some (.slice e) => decide (0 < P.cellsOf e) && FW P fuel e
   | some (.struct fs) => OP P 0 fs.toList && (fs.toList.map fun f => P.cellsOf f.type).sum == P.cellsOf t && fs.toList.all fun f => FW P fuel f.type
   | some (.array n e) => P.cellsOf t == n * P.cellsOf e && FW P fuel e
   | _ => false

theorem Ed {H : Type} {P : Program} {e : TypeId} : ∀ {ds : List (DataW H)} {d : DataW H}, d ∈ ds → ∀ x ∈ d.weights P e, x ∈ DataW.weightsAll P e ds
 | d' :: ds, d, h, x, hx => by
   simp only [DataW.weightsAll, List.mem_append]
   rcases List.mem_cons.1 h with rfl | h
   · exact .inl hx
   · exact .inr (Ed h x hx)
theorem GZ {H : Type} {P : Program} : ∀ {ts : List TypeId} {ds : List (DataW H)} (i : Nat) (t : TypeId) (d : DataW H), ts[i]? = some t → ds[i]? = some d → ∀ x ∈ d.weights P t, x ∈ DataW.weightsEach P ts ds
 | [], _, i, t, d, h, _, _, _ => by simp at h
 | _ :: _, [], i, t, d, _, h, _, _ => by simp at h
 | t' :: ts, d' :: ds, i, t, d, h1, h2, x, hx => by
   simp only [DataW.weightsEach, List.mem_append]
   cases i with
   | zero => simp at h1 h2; subst h1; subst h2; exact .inl hx
   | succ i => exact .inr (GZ i t d (by simpa using h1) (by simpa using h2) x hx)

theorem mapM_length {α β : Type} {f : α → Option β} : ∀ {l : List α} {r : List β}, l.mapM f = some r → r.length = l.length
 | [], r, h => by simp at h; subst h; rfl
 | x :: l, r, h => by
   simp only [List.mapM_cons, Option.bind_eq_bind, Option.bind_eq_some_iff, Option.pure_def, Option.some.injEq] at h
   obtain ⟨b, _, r', hr', rfl⟩ := h
   simp [mapM_length hr']

theorem HL {w : World} {a : Addr} {n : Nat} {cs : List Value} (h : w.cells? 0 a n = some cs) : cs.length = n ∧ ∀ (u : Nat) (c : Value), cs[u]? = some c → w.cell? (a.add u) = some c := by
 unfold World.cells? at h
 simp only [Nat.zero_le, if_true] at h
 have hl := mapM_length h
 simp at hl
 refine ⟨hl, fun u c hc => ?_⟩
 have hu : u < n := by rw [← hl]; exact (List.getElem?_eq_some_iff.1 hc).1
 obtain ⟨b, hb, hf⟩ := Lib.mapM_at h u u (by simp [hu])
 rw [hc] at hb
 cases hb
 exact hf

mutual
def D.bulk : D → Nat
 | .l _ _ rows => F5 rows + 1
 | .s x => x.size + 1
 | _ => 1
def CQ : List D → Nat
 | [] => 0
 | x :: xs => x.bulk + CQ xs
def F5 : List (List D) → Nat
 | [] => 0
 | r :: rs => CQ r + F5 rs
end
theorem JN : ∀ xs ys : List D, CQ (xs ++ ys) = CQ xs + CQ ys
 | [], ys => by simp [CQ]
 | x :: xs, ys => by rw [List.cons_append, CQ, CQ, JN xs ys]; omega
theorem FM : ∀ rows : List (List D), CQ rows.flatten = F5 rows
 | [] => by simp [CQ, F5]
 | r :: rows => by rw [List.flatten_cons, JN, F5, FM rows]
theorem Iz {β : Type} {f : β → List D} {g : β → Nat} : ∀ {l : List β}, (∀ i ∈ l, CQ (f i) ≤ g i) → F5 (l.map f) ≤ (l.map g).sum
 | [], _ => by simp [F5]
 | i :: l, h => by
   have := Iz (l := l) fun j hj => h j (List.mem_cons_of_mem _ hj)
   have := h i (by simp)
   simp only [List.map_cons, F5, List.sum_cons]
   omega
structure EA {H : Type} (B : DataW H → Nat) : Prop where
 lit : ∀ l, 1 ≤ B (.lit l)
 str : ∀ l, l.length + 1 ≤ B (.lit (.string l))
 nil : 1 ≤ B .nil
 slice : ∀ es sp, (es.map B).sum + 1 ≤ B (.slice es sp)
 agg : ∀ ps, (ps.map B).sum + 1 ≤ B (.agg ps)

theorem Ps {H : Type} {enc : TypeId × Value → H} {P : Program} {W : World} (B : DataW H → Nat) : ∀ (g : Nat) (fuel : Nat) (t : TypeId) (cs : List Value) (d : DataW H) (ps : List MemPlace),
 DataW.trod enc P W 0 (fun _ => true) true fuel t cs = some (d, ps) → FW P g t = true → (∀ x ∈ d.weights P t, x ≤ reachBytes) → ∃ xs, Dm W (fun b => b < W.heap.size) xs cs ∧ Bn P g t xs ∧ (EA B → CQ xs ≤ B d)
 | 0, _, _, _, _, _, _, h, _ => by simp [FW] at h
 | g + 1, fuel, t, cs, d, ps, h, hp, hw => by
   unfold FW at hp
   unfold Bn
   cases hu : P.underlying t with
   | none => rw [hu] at hp; simp at hp
   | some td =>
     rw [hu] at hp
     cases td with
     | bool =>
       obtain ⟨b, rfl, he⟩ := DataW.trod_bool hu h
       refine ⟨[.b b], ⟨.b b, trivial⟩, ⟨b, rfl⟩, fun hB => ?_⟩
       cases he
       simpa [CQ, D.bulk] using hB.lit _
     | int k =>
       obtain ⟨n, rfl, he, hwf⟩ := DataW.trod_int hu h
       refine ⟨[.i k n], ⟨.i k n, trivial⟩, ⟨n, rfl, hwf⟩, fun hB => ?_⟩
       cases he
       simpa [CQ, D.bulk] using hB.lit _
     | string =>
       obtain ⟨s, rfl, he, hs⟩ := DataW.trod_string hu h
       cases he
       have := hw s.data.toList.length (by unfold DataW.weights; exact List.mem_singleton.2 rfl)
       simp only [reachBytes] at this
       have e : s.size = s.data.toList.length := by rw [Array.length_toList]; rfl
       refine ⟨[.s s], ⟨.s s, trivial⟩, ⟨s, rfl, by omega⟩, fun hB => ?_⟩
       have := hB.str s.data.toList
       simp only [CQ, D.bulk]
       omega
     | slice e =>
       simp only [Bool.and_eq_true, decide_eq_true_eq] at hp
       obtain ⟨hc0, hpe⟩ := hp
       rcases Go.Deep.open_slice hu h with ⟨rfl, he⟩ | ⟨a, len, cap, m, n, Df, Pl, rfl, _, hlc, hcm, hm, hx, hel⟩
       · refine ⟨[.l (P.cellsOf e) (P.bytesOf e) []], ⟨.nil _ _, trivial⟩, ⟨[], rfl, by simp, by simp⟩, fun hB => ?_⟩
         cases he
         simpa [CQ, D.bulk, F5] using hB.nil
       · simp only [if_true] at hm
         subst hm
         have hd : d = .slice ((List.range len).map Df) ((List.range (m - len)).map fun j => Df (len + j)) := congrArg Prod.fst hx
         subst hd
         simp only [DataW.weights, hu] at hw
         have hbytes := hw _ (List.mem_cons_self ..)
         simp only [List.length_map, List.length_range, reachBytes] at hbytes
         have key : ∀ i, ∃ r : List D, i < len → ∃ cs', W.cells? 0 (a.add (i * P.cellsOf e)) (P.cellsOf e) = some cs' ∧ Dm W (fun b => b < W.heap.size) r cs' ∧ Bn P g e r ∧ (EA B → CQ r ≤ B (Df i)) := fun i => by
          by_cases hi : i < len
          · obtain ⟨cs', hcs, htr⟩ := hel i (by omega)
            obtain ⟨r, h1, h2, h3⟩ := Ps B g n e cs' (Df i) (Pl i) htr hpe fun x hx' => hw x (List.mem_cons_of_mem _ (List.mem_append.2 (.inl (Ed (List.mem_map.2 ⟨i, List.mem_range.2 hi, rfl⟩) x hx'))))
            exact ⟨r, fun _ => ⟨cs', hcs, h1, h2, h3⟩⟩
          · exact ⟨[], fun h => absurd h hi⟩
         let rf : Nat → List D := fun i => Classical.choose (key i)
         have hrf : ∀ i, i < len → ∃ cs', W.cells? 0 (a.add (i * P.cellsOf e)) (P.cellsOf e) = some cs' ∧ Dm W (fun b => b < W.heap.size) (rf i) cs' ∧ Bn P g e (rf i) ∧ (EA B → CQ (rf i) ≤ B (Df i)) := fun i => Classical.choose_spec (key i)
         have hget : ∀ (j : Nat) (r : List D), ((List.range len).map rf)[j]? = some r → j < len ∧ r = rf j := fun j r hj => by
          have hlt : j < len := by
           have := (List.getElem?_eq_some_iff.1 hj).1
           simpa using this
          rw [List.getElem?_map, List.getElem?_range hlt] at hj
          simp at hj
          exact ⟨hlt, hj.symm⟩
         have hlen : ((List.range len).map rf).length = len := by simp
         have hconf : ∀ r ∈ (List.range len).map rf, Bn P g e r := fun r hr => by
          obtain ⟨i, hi, rfl⟩ := List.mem_map.1 hr
          obtain ⟨_, _, _, h3, _⟩ := hrf i (List.mem_range.1 hi)
          exact h3
         have hsz : ∀ r ∈ (List.range len).map rf, r.length = P.cellsOf e := fun r hr => by
          obtain ⟨i, hi, rfl⟩ := List.mem_map.1 hr
          obtain ⟨cs', h1, h2, _⟩ := hrf i (List.mem_range.1 hi)
          rw [h2.length]; exact (HL h1).1
         have hlb : len * P.bytesOf e ≤ 140737488351232 := Nat.le_trans (Nat.mul_le_mul_right _ (show len ≤ len + (m - len) by omega)) hbytes
         have hbk : EA B → CQ [.l (P.cellsOf e) (P.bytesOf e) ((List.range len).map rf)] ≤ B (.slice ((List.range len).map Df) ((List.range (m - len)).map fun j => Df (len + j))) := fun hB => by
          have h1 := Iz (f := rf) (g := fun i => B (Df i)) (l := List.range len) fun i hi => by
           obtain ⟨_, _, _, _, h3⟩ := hrf i (List.mem_range.1 hi)
           exact h3 hB
          have h2 := hB.slice ((List.range len).map Df) ((List.range (m - len)).map fun j => Df (len + j))
          rw [List.map_map] at h2
          simp only [CQ, D.bulk]
          simp only [Function.comp_def] at h2
          omega
         refine ⟨[.l (P.cellsOf e) (P.bytesOf e) ((List.range len).map rf)], ⟨?_, trivial⟩, ⟨_, rfl, hconf, by rw [hlen]; exact hlb⟩, hbk⟩
         by_cases hm0 : m = 0
         · have h0 : len = 0 := by omega
           subst h0; subst hm0
           exact .emp _ _ a
         · have hcell : ∃ v, W.cell? a = some v := by
            obtain ⟨cs', hcs, _⟩ := hel 0 (by omega)
            obtain ⟨h1, h2⟩ := HL hcs
            rw [Nat.zero_mul] at h2
            have h0 : 0 < cs'.length := by omega
            exact ⟨cs'[0], by have := h2 0 _ (List.getElem?_eq_getElem h0); simpa [Addr.add] using this⟩
           obtain ⟨v, hv⟩ := hcell
           have hblk : a.block < W.heap.size := World.block_lt_of_cell? _ _ hv
           let css : Nat → Nat → Value := fun j u => (W.cell? (a.add (j * P.cellsOf e + u))).getD undef
           have hval : ∀ (j u : Nat) (r : List D) (x : D), ((List.range len).map rf)[j]? = some r → r[u]? = some x → W.cell? (a.add (j * P.cellsOf e + u)) = some (css j u) ∧ Rel W (fun b => b < W.heap.size) x (css j u) := fun j u r x hj hx => by
            obtain ⟨hlt, rfl⟩ := hget j r hj
            obtain ⟨cs', h1, h2, _⟩ := hrf j hlt
            obtain ⟨c, hc, hrel⟩ := h2.get u x hx
            have hcell := (HL h1).2 u c hc
            rw [Addr.add_add] at hcell
            simp only [css, hcell, Option.getD_some]
            exact ⟨trivial, hrel⟩
           have := Rel.l (w := W) (I := fun b => b < W.heap.size) (P.cellsOf e) (P.bytesOf e) ((List.range len).map rf) a m css hblk (by rw [hlen]; exact hlc) hcm (by rw [hlen]; omega) hsz (fun j u r x hj hx => (hval j u r x hj hx).1) (fun j u r x hj hx => (hval j u r x hj hx).2)
           rwa [hlen] at this
     | struct fs =>
       simp only [Bool.and_eq_true, List.all_eq_true, beq_iff_eq] at hp
       obtain ⟨⟨hco, hsum⟩, hpf⟩ := hp
       obtain ⟨ys, n, _, hx, hlc, hyl, hf⟩ := DataW.trod_struct hu h
       have hd : d = .agg (ys.map (·.1)) := congrArg Prod.fst hx
       subst hd
       simp only [DataW.weights, hu] at hw
       have key : ∀ i : Nat, ∃ r : List D, ∀ f : Field, fs[i]? = some f → Dm W (fun b => b < W.heap.size) r ((cs.drop f.offset).take (P.cellsOf f.type)) ∧ Bn P g f.type r ∧ (EA B → CQ r ≤ ((ys[i]?).map fun y => B y.1).getD 0) := fun i => by
        cases hfi : fs[i]? with
        | none => exact ⟨[], fun f hff => absurd hff (by simp)⟩
        | some f =>
          have hi : i < fs.size := (Array.getElem?_eq_some_iff.1 hfi).1
          have hyi : ys[i]? = some ys[i] := List.getElem?_eq_getElem (by omega)
          have htr := hf i f hfi
          rw [hyi] at htr
          have hmem : f ∈ fs.toList := by
           rw [← Array.getElem?_toList] at hfi
           exact List.mem_of_getElem? hfi
          obtain ⟨r, h1, h2, h3⟩ := Ps B g n f.type _ (ys[i]).1 (ys[i]).2 htr (hpf f hmem) fun x hx' => hw x (GZ i f.type (ys[i]).1 (by rw [List.getElem?_map, Array.getElem?_toList, hfi]; rfl) (by rw [List.getElem?_map, hyi]; rfl) x hx')
          exact ⟨r, fun f' hf' => by rw [← Option.some.inj hf']; exact ⟨h1, h2, fun hB => by rw [hyi]; exact h3 hB⟩⟩
       let pf : Nat → List D := fun i => Classical.choose (key i)
       have hpf' : ∀ (i : Nat) (f : Field), fs[i]? = some f → Dm W (fun b => b < W.heap.size) (pf i) ((cs.drop f.offset).take (P.cellsOf f.type)) ∧ Bn P g f.type (pf i) ∧ (EA B → CQ (pf i) ≤ ((ys[i]?).map fun y => B y.1).getD 0) := fun i => Classical.choose_spec (key i)
       have walk : ∀ (l : List Field) (i off : Nat), (∀ j f, l[j]? = some f → fs[i + j]? = some f) → OP P off l = true → off + (l.map fun f => P.cellsOf f.type).sum = cs.length → Dm W (fun b => b < W.heap.size) ((List.range' i l.length).map pf).flatten (cs.drop off) := by
        intro l
        induction l with
        | nil => intro i off _ _ hs; simp at hs; subst hs; simp [Dm]
        | cons f l ih =>
          intro i off hl hc hs
          simp only [OP, Bool.and_eq_true, beq_iff_eq] at hc
          obtain ⟨ho, hc⟩ := hc
          simp only [List.map_cons, List.sum_cons] at hs
          have h0 := (hpf' i f (by simpa using hl 0 f rfl)).1
          rw [ho] at h0
          have h1 := ih (i + 1) (off + P.cellsOf f.type) (fun j f' hj => by have := hl (j + 1) f' (by simpa using hj); rwa [← Nat.add_assoc, Nat.add_right_comm] at this) hc (by omega)
          rw [List.length_cons, List.range'_succ, List.map_cons, List.flatten_cons]
          have e : cs.drop off = (cs.drop off).take (P.cellsOf f.type) ++ cs.drop (off + P.cellsOf f.type) := by
           rw [← List.drop_drop, List.take_append_drop]
          rw [e]
          exact h0.append h1
       have hbk : EA B → CQ ((List.range' 0 fs.size).map pf).flatten ≤ B (.agg (ys.map (·.1))) := fun hB => by
        have h1 := Iz (f := pf) (g := fun i => ((ys[i]?).map fun y => B y.1).getD 0) (l := List.range' 0 fs.size) fun i hi => by
         have hi : i < fs.size := by simpa using hi
         exact (hpf' i fs[i] (Array.getElem?_eq_getElem hi)).2.2 hB
        have h2 := hB.agg (ys.map (·.1))
        rw [List.map_map] at h2
        have e : (List.range' 0 fs.size).map (fun i => ((ys[i]?).map fun y => B y.1).getD 0) = ys.map (B ∘ (·.1)) := by
         apply List.ext_getElem
         · simp [hyl]
         · intro i h1 h2
           have hi : i < ys.length := by simpa using h2
           simp [List.getElem?_eq_getElem hi]
        rw [e] at h1
        rw [FM]
        omega
       refine ⟨((List.range' 0 fs.size).map pf).flatten, ?_, ⟨(List.range' 0 fs.size).map pf, rfl, by simp, fun i f p hfi hpi => ?_⟩, hbk⟩
       · have := walk fs.toList 0 0 (fun j f hj => by simpa using hj) hco (by rw [hlc, ← hsum]; simp)
         simpa using this
       · have hi : i < fs.size := (Array.getElem?_eq_some_iff.1 hfi).1
         rw [List.getElem?_map, List.getElem?_range' hi] at hpi
         simp at hpi
         subst hpi
         exact (hpf' i f hfi).2.1
     | array m e =>
       simp only [Bool.and_eq_true, beq_iff_eq] at hp
       obtain ⟨hsum, hpe⟩ := hp
       obtain ⟨ys, n, _, hx, hlc, hyl, hf⟩ := DataW.trod_array hu h
       have hd : d = .agg (ys.map (·.1)) := congrArg Prod.fst hx
       subst hd
       simp only [DataW.weights, hu] at hw
       have key : ∀ i : Nat, ∃ r : List D, i < m → Dm W (fun b => b < W.heap.size) r ((cs.drop (i * P.cellsOf e)).take (P.cellsOf e)) ∧ Bn P g e r ∧ (EA B → CQ r ≤ ((ys[i]?).map fun y => B y.1).getD 0) := fun i => by
        by_cases hi : i < m
        · have hil : i < ys.length := by omega
          have hyi : ys[i]? = some ys[i] := List.getElem?_eq_getElem hil
          have htr := hf i hi
          rw [hyi] at htr
          obtain ⟨r, h1, h2, h3⟩ := Ps B g n e _ (ys[i]).1 (ys[i]).2 htr hpe fun x hx' => hw x (Ed (List.mem_map.2 ⟨_, List.getElem_mem hil, rfl⟩) x hx')
          exact ⟨r, fun _ => ⟨h1, h2, fun hB => by rw [hyi]; exact h3 hB⟩⟩
        · exact ⟨[], fun h => absurd h hi⟩
       let pf : Nat → List D := fun i => Classical.choose (key i)
       have hpf' : ∀ i : Nat, i < m → Dm W (fun b => b < W.heap.size) (pf i) ((cs.drop (i * P.cellsOf e)).take (P.cellsOf e)) ∧ Bn P g e (pf i) ∧ (EA B → CQ (pf i) ≤ ((ys[i]?).map fun y => B y.1).getD 0) := fun i => Classical.choose_spec (key i)
       have walk : ∀ (k i : Nat), i + k = m → Dm W (fun b => b < W.heap.size) ((List.range' i k).map pf).flatten (cs.drop (i * P.cellsOf e)) := by
        intro k
        induction k with
        | zero =>
          intro i hi
          have : cs.length ≤ i * P.cellsOf e := by rw [hlc, hsum, show i = m by omega]; exact Nat.le_refl _
          rw [List.drop_of_length_le this]; simp [Dm]
        | succ k ih =>
          intro i hi
          have h0 := (hpf' i (by omega)).1
          have h1 := ih (i + 1) (by omega)
          rw [Nat.succ_mul] at h1
          rw [List.range'_succ, List.map_cons, List.flatten_cons]
          have e : cs.drop (i * P.cellsOf e) = (cs.drop (i * P.cellsOf e)).take (P.cellsOf e) ++ cs.drop (i * P.cellsOf e + P.cellsOf e) := by
           rw [← List.drop_drop, List.take_append_drop]
          rw [e]
          exact h0.append h1
       have hbk : EA B → CQ ((List.range' 0 m).map pf).flatten ≤ B (.agg (ys.map (·.1))) := fun hB => by
        have h1 := Iz (f := pf) (g := fun i => ((ys[i]?).map fun y => B y.1).getD 0) (l := List.range' 0 m) fun i hi => by
         have hi : i < m := by simpa using hi
         exact (hpf' i hi).2.2 hB
        have h2 := hB.agg (ys.map (·.1))
        rw [List.map_map] at h2
        have e : (List.range' 0 m).map (fun i => ((ys[i]?).map fun y => B y.1).getD 0) = ys.map (B ∘ (·.1)) := by
         apply List.ext_getElem
         · simp [hyl]
         · intro i h1 h2
           have hi : i < ys.length := by simpa using h2
           simp [List.getElem?_eq_getElem hi]
        rw [e] at h1
        rw [FM]
        omega
       refine ⟨((List.range' 0 m).map pf).flatten, ?_, ⟨(List.range' 0 m).map pf, rfl, by simp, fun p hp => ?_⟩, hbk⟩
       · have := walk m 0 (by omega)
         rwa [Nat.zero_mul, List.drop_zero] at this
       · obtain ⟨i, hi, rfl⟩ := List.mem_map.1 hp
         exact (hpf' i (by simpa using hi)).2.1
     | _ => simp at hp

def EW (P : Program) (t : TypeId) : Bool := match P.underlying t with | some (.struct _) | some (.array _ _) => true | _ => false
def cu : List D → AV
 | [x] => x.av
 | _ => .any
def NZ (b : Bool) (xs : List D) : AV := if b then .agg (xs.map D.av) else cu xs

theorem aW {P : Program} {W : World} {I : Nat → Prop} {g base : Nat} {t : TypeId} {xs : List D} {v : Value} (hc : Bn P g t xs) (hr : Dm W I xs v.cells.toList) (ho : Value.okWide P W .any base t v) : AV.rel W I (NZ (EW P t) xs) v := by
 cases g with
 | zero => exact hc.elim
 | succ g =>
   unfold Bn at hc
   unfold NZ EW
   have one : ∀ {x : D}, xs = [x] → v.oneCell' = true → AV.rel W I (cu xs) v := fun hx hv => by
    subst hx
    rw [cells_one hv] at hr
    exact D.av_rel hr.1
   cases hu : P.underlying t with
   | none => rw [hu] at hc; exact hc.elim
   | some td =>
     rw [hu] at hc
     cases td with
     | bool => obtain ⟨b, hx⟩ := hc; obtain ⟨_, rfl⟩ := WideShapes.okWide_bool hu ho; simp only [Bool.false_eq_true, if_false]; exact one hx rfl
     | int k => obtain ⟨n, hx, _⟩ := hc; obtain ⟨_, rfl⟩ := WideShapes.okWide_int hu ho; simp only [Bool.false_eq_true, if_false]; exact one hx rfl
     | string => obtain ⟨s, hx, _⟩ := hc; obtain ⟨_, rfl⟩ := WideShapes.okWide_string hu ho; simp only [Bool.false_eq_true, if_false]; exact one hx rfl
     | slice e => obtain ⟨rows, hx, _⟩ := hc; obtain ⟨_, _, _, rfl⟩ := WideShapes.okWide_slice hu ho; simp only [Bool.false_eq_true, if_false]; exact one hx rfl
     | struct fs =>
       unfold Value.okWide at ho
       rw [hu] at ho
       obtain ⟨cs, rfl, _, _⟩ := ho
       simp only [if_true]
       exact ⟨cs.toList, by simp, hr.av⟩
     | array n e =>
       unfold Value.okWide at ho
       rw [hu] at ho
       obtain ⟨cs, rfl, _, _⟩ := ho
       simp only [if_true]
       exact ⟨cs.toList, by simp, hr.av⟩
     | _ => exact hc.elim

section
open Go.RowKit Go.WideShapes Go.ChangeShapes
variable {H : Type} {enc : TypeId × Value → H} {P : Program}
theorem NB {f : Func} {s : ChangeSpec} {apart fresh handsOn again : Bool} {W W' : World} {args : Array Value} {v : Value} {ds gs : List (DataW H)} {before pa pv : List MemPlace}
 (hW : DataW.Whole enc P f.params.toList s.vars apart W args.toList ds gs before)
 (hres : ∀ (b : Nat) (sp : Nat → Bool) (hd : Bool), DataW.TrodAll enc P W' b sp hd f.resultTypes.toList (v.resultList f.resultTypes.size) (s.fn H (ds ++ gs)).results [])
 (hargs : ∀ sp : Nat → Bool, (∀ p ∈ before, sp p.block = true) → DataW.TrodAll enc P W' 0 sp true f.params.toList args.toList (s.fn H (ds ++ gs)).args pa)
 (hvars : ∀ sp : Nat → Bool, (∀ p ∈ before, sp p.block = true) → DataW.TrodVars enc P W' sp s.vars (s.fn H (ds ++ gs)).vars pv)
 (hps : before = pa ++ pv) (hb : Below W.heap.size W W')
 (hok : ∀ (j : Nat) (t : TypeId) (r : Value), f.resultTypes[j]? = some t → (v.resultList f.resultTypes.size)[j]? = some r → Value.okWide P W' .any 0 t r) :
 s.post enc P f apart fresh handsOn again W args v W' := by
 have hlt : ∀ p ∈ before, p.block < W.heap.size := fun p hp => hW.lt p hp
 have hold : ∀ p ∈ before, (fun b => decide (b < W.heap.size)) p.block = true := fun p hp => by simpa using hlt p hp
 refine ⟨ds, gs, before, [], pa, pv, hW, hres _ _ _, hargs _ hold, hvars _ hold, World.keptBut_mono (fun p hp => ⟨hp, ?_⟩) (hb.frame (· ∈ before)), fun _ => ?_⟩
 · rw [hps, List.mem_append] at hp
   exact Or.inr hp
 · obtain ⟨_, _, _, _, _, hz, hn⟩ := hW
   refine ⟨hok, _, _, ([] ++ pa) ++ pv, ⟨[] ++ pa, pv, trodAll_append (hargs _ (fun _ _ => rfl)) (hres _ _ _), hvars _ (fun _ _ => rfl), rfl, ?_, ?_⟩, ?_⟩
   · intro b off hp
     have hin : MemPlace.cell b off ∈ before := by rw [hps]; simpa using hp
     rw [hb.frozen (hlt _ hin)]
     exact hz b off hin
   · intro ha
     have := hn ha
     rw [hps] at this
     simpa using this
   · intro p hp _
     rw [hps]
     simpa using hp

theorem IB (hl : laidOutB P = true) {W W' : World} : ∀ {ts : List TypeId} {vs : List Value} {ds : List (DataW H)} {ps : List MemPlace}, (∀ t ∈ ts, P.readableRec t = true ∧ t < P.types.size) → DataW.TrodAll enc P W 0 (fun _ => true) true ts vs ds ps → (∀ p ∈ ps, W.sameAt W' p) →
 ∀ sp : Nat → Bool, (∀ p ∈ ps, sp p.block = true) → DataW.TrodAll enc P W' 0 sp true ts vs ds ps
 | [], [], [], _, _, h, _, _, _ => h
 | t :: ts, v :: vs, d :: ds, ps, ht, ⟨p, q, h1, h2, e⟩, hs, sp, hsp => by
   subst e
   exact ⟨p, q, WideElems.Trod_stays hl (ht t (by simp)).1 (ht t (by simp)).2 h1 (fun x hx => hs x (by simp [hx])) (fun x hx => hsp x (by simp [hx])),
    IB hl (fun t ht' => ht t (by simp [ht'])) h2 (fun x hx => hs x (by simp [hx])) sp (fun x hx => hsp x (by simp [hx])), rfl⟩

theorem OA {W : World} {base g : Nat} (B : DataW H → Nat) : ∀ {ts : List TypeId} {vs : List Value} {ds : List (DataW H)} {ps : List MemPlace}, (∀ t ∈ ts, FW P g t = true) → DataW.TrodAll enc P W 0 (fun _ => true) true ts vs ds ps →
 (∀ (j : Nat) t v, ts[j]? = some t → vs[j]? = some v → Value.okWide P W .any base t v) → (∀ x ∈ DataW.weightsEach P ts ds, x ≤ reachBytes) →
 ∃ xss : List (List D), xss.length = ts.length ∧ (∀ (j : Nat) t xs, ts[j]? = some t → xss[j]? = some xs → Bn P g t xs) ∧ AV.rels W (fun b => b < W.heap.size) ((ts.zip xss).map fun p => NZ (EW P p.1) p.2) vs ∧ (EA B → F5 xss ≤ (ds.map B).sum)
 | [], [], [], _, _, _, _, _ => ⟨[], rfl, by simp, trivial, fun _ => by simp [F5]⟩
 | t :: ts, v :: vs, d :: ds, _, hp, ⟨p, q, ⟨fuel, h1⟩, h2, _⟩, hv, hw => by
   simp only [DataW.weightsEach, List.mem_append] at hw
   obtain ⟨xs, r1, r2, r3⟩ := Ps B g fuel t v.cells.toList d p h1 (hp t (by simp)) fun x hx => hw x (.inl hx)
   obtain ⟨xss, i1, i2, i3, i4⟩ := OA B (fun t ht => hp t (by simp [ht])) h2 (fun j t v h1 h2 => hv (j + 1) t v (by simpa using h1) (by simpa using h2)) fun x hx => hw x (.inr hx)
   refine ⟨xs :: xss, by simp [i1], fun j t' xs' h1 h2 => ?_, ⟨aW r2 r1 (hv 0 t v rfl rfl), i3⟩, fun hB => by
    have := r3 hB
    have := i4 hB
    simp only [F5, List.map_cons, List.sum_cons]
    omega⟩
   cases j with
   | zero => simp at h1 h2; subst h1; subst h2; exact r2
   | succ j => exact i2 j t' xs' (by simpa using h1) (by simpa using h2)

theorem bY {f : FuncId} {fn : Func} {s : ChangeSpec} {G : List (Nat × List D)} {g : Nat} {tb : TypeId} {W : World} {base : Nat} {args : Array Value} {ds gs : List (DataW H)} {before : List MemPlace}
 (hl : laidOutB P = true) (hpar : ∀ t ∈ fn.params.toList, FW P g t = true ∧ P.readableRec t = true ∧ t < P.types.size) (hres : fn.resultTypes = #[tb]) (htb : P.underlying tb = some .bool) (hvars : s.vars = [])
 (hspec : ∀ ds : List (DataW H), ds.length = fn.params.toList.length → (s.fn H (ds ++ [])).results = [.lit (.bool true)] ∧ (s.fn H (ds ++ [])).args = ds ∧ (s.fn H (ds ++ [])).vars = [])
 (B : DataW H → Nat)
 (hac : ∀ xss : List (List D), xss.length = fn.params.toList.length → (∀ (j : Nat) t xs, fn.params.toList[j]? = some t → xss[j]? = some xs → Bn P g t xs) → (EA B → F5 xss ≤ (ds.map B).sum) → ACr P G f ((fn.params.toList.zip xss).map fun p => NZ (EW P p.1) p.2) (.bool true))
 (hG : ∀ q ∈ G, PD W (fun b => b < W.heap.size) q.2 ⟨q.1, 0, none⟩)
 (hval : ∀ (j : Nat) t v, fn.params[j]? = some t → args[j]? = some v → Value.okWide P W .any base t v)
 (hW : DataW.Whole enc P fn.params.toList s.vars false W args.toList ds gs before)
 (hsize : (DataW.weightsEach P fn.params.toList ds).all (· ≤ reachBytes) = true) :
 Calls P f args W fun e W' => ∃ v, e = .returned v ∧ s.post enc P fn false true false false W args v W' := by
 have hW' := hW
 obtain ⟨p, q, hA, hV, rfl, hfz, hnd⟩ := hW
 rw [hvars] at hV
 obtain ⟨rfl, rfl⟩ : gs = [] ∧ q = [] := by cases gs <;> simp_all [DataW.TrodVars]
 obtain ⟨xss, x1, x2, x3, x4⟩ := OA B (g := g) (base := base) (fun t ht => (hpar t ht).1) hA (fun j t v h1 h2 => hval j t v (by simpa using h1) (by simpa using h2)) (fun x hx => by simpa using List.all_eq_true.1 hsize x hx)
 have hcall := hac xss x1 x2 x4 (fun b => b < W.heap.size) W args.toList (by simp) (by simp [blks]) (fun b hb => ⟨hb, by simp [blks]⟩) hG x3
 rw [Array.toArray_toList] at hcall
 refine hcall.mono fun e W' hpost => ?_
 obtain ⟨r, h', I', ⟨rfl, rfl⟩, hok, hrel⟩ := hpost
 cases e with
 | panicked ch => exact hrel.elim
 | outgrown => exact hrel.elim
 | returned v =>
   have hv : v = .bool true := hrel
   subst hv
   refine ⟨_, rfl, ?_⟩
   have hb : Below W.heap.size W W' := ⟨hok.os, hok.tape, hok.output, hok.size, fun k hk => hok.keep k hk (by simp [blks])⟩
   have hdl : ds.length = fn.params.toList.length := by
    have : ∀ {ts : List TypeId} {vs : List Value} {ds : List (DataW H)} {ps : List MemPlace}, DataW.TrodAll enc P W 0 (fun _ => true) true ts vs ds ps → ds.length = ts.length := by
     intro ts
     induction ts with
     | nil => intro vs ds ps h; cases vs <;> cases ds <;> simp_all [DataW.TrodAll]
     | cons t ts ih =>
       intro vs ds ps h
       cases vs with
       | nil => cases h
       | cons v vs =>
         cases ds with
         | nil => cases h
         | cons d ds => obtain ⟨_, _, _, h2, _⟩ := h; simp [ih h2]
    exact this hA
   obtain ⟨e1, e2, e3⟩ := hspec ds hdl
   refine NB (pa := p) (pv := []) hW' (fun b sp hd => ?_) (fun sp hsp => ?_) (fun sp _ => ?_) rfl hb ?_
   · rw [e1, hres]
     simp only [Value.resultList, List.size_toArray, List.length_cons, List.length_nil, if_true]
     exact trodAll_mk1 (shut_bool htb true)
   · rw [e2]
     exact IB hl (fun t ht => (hpar t ht).2) hA (fun x hx => hb.same (hW'.lt x (by simp [hx]))) sp (fun x hx => hsp x (by simp [hx]))
   · rw [hvars, e3]; rfl
   · exact ok_one hres rfl (okWide_bool_mk htb true)
theorem eR {f : FuncId} {fn : Func} {s : ChangeSpec} {G : List (Nat × List D)} {g : Nat} {tb : TypeId} {W : World} {base : Nat} {args : Array Value} {ds gs : List (DataW H)} {before : List MemPlace}
 (hl : laidOutB P = true) (hpar : ∀ t ∈ fn.params.toList, FW P g t = true ∧ P.readableRec t = true ∧ t < P.types.size) (hres : fn.resultTypes = #[tb]) (htb : P.underlying tb = some .bool) (hvars : s.vars = [])
 (hspec : ∀ ds : List (DataW H), ds.length = fn.params.toList.length → (s.fn H (ds ++ [])).results = [.lit (.bool true)] ∧ (s.fn H (ds ++ [])).args = ds ∧ (s.fn H (ds ++ [])).vars = [])
 (hac : ∀ xss : List (List D), xss.length = fn.params.toList.length → (∀ (j : Nat) t xs, fn.params.toList[j]? = some t → xss[j]? = some xs → Bn P g t xs) → ACr P G f ((fn.params.toList.zip xss).map fun p => NZ (EW P p.1) p.2) (.bool true))
 (hG : ∀ q ∈ G, PD W (fun b => b < W.heap.size) q.2 ⟨q.1, 0, none⟩)
 (hval : ∀ (j : Nat) t v, fn.params[j]? = some t → args[j]? = some v → Value.okWide P W .any base t v)
 (hW : DataW.Whole enc P fn.params.toList s.vars false W args.toList ds gs before)
 (hsize : (DataW.weightsEach P fn.params.toList ds).all (· ≤ reachBytes) = true) :
 Calls P f args W fun e W' => ∃ v, e = .returned v ∧ s.post enc P fn false true false false W args v W' :=
 bY hl hpar hres htb hvars hspec (fun _ => 0) (fun xss h1 h2 _ => hac xss h1 h2) hG hval hW hsize
end

theorem Oj {P : Program} {g : Nat} {t : TypeId} {xs : List D} (hu : P.underlying t = some .bool) (h : Bn P (g + 1) t xs) : ∃ b, xs = [.b b] := by unfold Bn at h; rw [hu] at h; exact h
theorem RB {P : Program} {g : Nat} {t : TypeId} {k : IntKind} {xs : List D} (hu : P.underlying t = some (.int k)) (h : Bn P (g + 1) t xs) : ∃ n, xs = [.i k n] ∧ (Lit.int k n).wf = true := by unfold Bn at h; rw [hu] at h; exact h
theorem Rq {α : Type} {f : α → List D} : ∀ {rows : List (List D)}, (∀ r ∈ rows, ∃ a, r = f a) → ∃ l : List α, rows = l.map f
 | [], _ => ⟨[], rfl⟩
 | r :: rows, h => by
   obtain ⟨a, rfl⟩ := h r (by simp)
   obtain ⟨l, rfl⟩ := Rq (rows := rows) fun r hr => h r (by simp [hr])
   exact ⟨a :: l, rfl⟩
theorem H0 {P : Program} {g : Nat} {t e : TypeId} {sz eb : Nat} {xs : List D} {α : Type} {f : α → List D} (hu : P.underlying t = some (.slice e)) (hc : P.cellsOf e = sz) (hb : P.bytesOf e = eb) (hf : ∀ r, Bn P g e r → ∃ a, r = f a) (h : Bn P (g + 1) t xs) : ∃ l : List α, xs = [.l sz eb (l.map f)] ∧ l.length * eb ≤ 140737488351232 := by
 unfold Bn at h
 rw [hu] at h
 obtain ⟨rows, rfl, h1, h2⟩ := h
 obtain ⟨l, rfl⟩ := Rq fun r hr => hf r (h1 r hr)
 exact ⟨l, by rw [hc, hb], by rw [← hb]; simpa using h2⟩
theorem Ko {P : Program} {g : Nat} {t : TypeId} {f0 f1 : Field} {xs : List D} (hu : P.underlying t = some (.struct #[f0, f1])) (h : Bn P (g + 1) t xs) : ∃ p0 p1, xs = p0 ++ p1 ∧ Bn P g f0.type p0 ∧ Bn P g f1.type p1 := by
 unfold Bn at h
 rw [hu] at h
 obtain ⟨parts, rfl, hl, hp⟩ := h
 match parts, hl with
 | [p0, p1], _ => exact ⟨p0, p1, by simp, hp 0 f0 p0 rfl rfl, hp 1 f1 p1 rfl rfl⟩
theorem GX {P : Program} {g : Nat} {t : TypeId} {f0 f1 f2 f3 : Field} {xs : List D} (hu : P.underlying t = some (.struct #[f0, f1, f2, f3])) (h : Bn P (g + 1) t xs) : ∃ p0 p1 p2 p3, xs = p0 ++ (p1 ++ (p2 ++ p3)) ∧ Bn P g f0.type p0 ∧ Bn P g f1.type p1 ∧ Bn P g f2.type p2 ∧ Bn P g f3.type p3 := by
 unfold Bn at h
 rw [hu] at h
 obtain ⟨parts, rfl, hl, hp⟩ := h
 match parts, hl with
 | [p0, p1, p2, p3], _ => exact ⟨p0, p1, p2, p3, by simp, hp 0 f0 p0 rfl rfl, hp 1 f1 p1 rfl rfl, hp 2 f2 p2 rfl rfl, hp 3 f3 p3 rfl rfl⟩
theorem LP {P : Program} {g : Nat} {t e : TypeId} {xs : List D} (hu : P.underlying t = some (.array 2 e)) (h : Bn P (g + 1) t xs) : ∃ p0 p1, xs = p0 ++ p1 ∧ Bn P g e p0 ∧ Bn P g e p1 := by
 unfold Bn at h
 rw [hu] at h
 obtain ⟨parts, rfl, hl, hp⟩ := h
 match parts, hl with
 | [p0, p1], _ => exact ⟨p0, p1, by simp, hp p0 (by simp), hp p1 (by simp)⟩
end Go.Av
namespace Go.Proofs.YtajnpfgelpkijaaGreatDoor
open Go Go.Av Go.Sp
theorem Ef {g : Nat} {xs : List D} (h : Bn Tryz.prog (g + 1) 3 xs) : ∃ n, xs = [.i .i64 n] ∧ Aj n := by
 obtain ⟨n, h, hw⟩ := RB Tryz.underlying3 h
 exact ⟨n, h, by simpa [Lit.wf, IntKind.min, IntKind.max, IntKind.signed, IntKind.bits, Aj] using hw⟩
theorem Vw {g : Nat} {xs : List D} (h : Bn Tryz.prog (g + 1) 4 xs) : ∃ b, xs = [.b b] := Oj Tryz.underlying4 h
end Go.Proofs.YtajnpfgelpkijaaGreatDoor
namespace Go.Av
open Go Go.Instr

structure WA (P : Program) (KT : TypeId) {α : Type} (kv : α → Value) [DecidableEq α] : Prop where
 find : ∀ {β : Type} (vv : β → Value) (ps : List (α × β)) (a : α) (w : World), ∃ r : Option (Nat × Value), (findKey KT (kv a) (BR (Ab kv vv ps) 0)).run P w = .ok r w ∧ r.map (·.2) = (getM ps a).map vv
 easy : ∀ (e : Bool) (a : α) (w : World), (checkKey e 10000 KT (kv a)).run P w = .ok () w
section
variable {α β : Type} [DecidableEq α] {kv : α → Value}
theorem MP {P : Program} {KT : TypeId} (he : ∀ a b w, (Op.equal KT (kv a) (kv b)).run P w = .ok (decide (a = b)) w) (vv : β → Value) (a : α) : ∀ (ps : List (α × β)) (i j : Nat) (w : World),
 ∃ r : Option (Nat × Value), (findAsking KT (kv a) (BR (Ab kv vv ps) i) j).run P w = .ok r w ∧ r.map (·.2) = (getM ps a).map vv
 | [], i, j, w => ⟨none, rfl, rfl⟩
 | (b, c) :: ps, i, j, w => by
   by_cases h : a = b
   · subst h
     refine ⟨some (j, vv c), ?_, by simp [getM]⟩
     simp [Ab, BR, findAsking, he]
   · obtain ⟨r, h1, h2⟩ := MP he vv a ps (i + 1) (j + 1) w
     have hb : ¬ b = a := fun k => h k.symm
     refine ⟨r, ?_, by rw [h2]; simp [getM, hb]⟩
     have e : BR (Ab kv vv ((b, c) :: ps)) i = ⟨kv b, vv c, i⟩ :: BR (Ab kv vv ps) (i + 1) := rfl
     rw [e, findAsking]
     simp [he, h, h1]
theorem SK {P : Program} {KT : TypeId} {fs : Array Field} (hK : P.underlying KT = some (.struct fs)) (he : ∀ a b w, (Op.equal KT (kv a) (kv b)).run P w = .ok (decide (a = b)) w)
 (hc : ∀ e a w, (checkKey e 10000 KT (kv a)).run P w = .ok () w) : WA P KT kv where
 easy := hc
 find vv ps a w := by
  cases ps with
  | nil => exact ⟨none, by simp [findKey, run_underlying hK, Ab, BR, findNow], rfl⟩
  | cons p ps =>
    obtain ⟨r, h1, h2⟩ := MP he vv a (p :: ps) 0 0 w
    refine ⟨r, ?_, h2⟩
    have e : findNow (.struct fs) (kv a) (BR (Ab kv vv (p :: ps)) 0) 0 = none := by
     have e1 : BR (Ab kv vv (p :: ps)) 0 = ⟨kv p.1, vv p.2, 0⟩ :: BR (Ab kv vv ps) 1 := rfl
     rw [e1, findNow]
     have e2 : sameNow (.struct fs) (kv a) (kv p.1) = none := by unfold sameNow; split <;> simp_all
     simp only [e2]
    simp [findKey, run_underlying hK, e, h1]
end
section
variable {k : Kx} {Q : Exit → Env → H → Prop} {ρ : Env} {h h' : H} {ops : Array Oper} {l : List Oper} {ty : TypeId} {pos : String} {after : Array Edge}
theorem aS {α β : Type} [DecidableEq α] {kv : α → Value} {vv : β → Value} {T KT ET : TypeId} (K : WA k.P KT kv) {x y u : Operand} {r s : AV} {b : Nat} {ps : List (α × β)} {a : α} {c : β}
 (hx : evO ρ x = some (.val (.map (some b)))) (hy : evO ρ y = some s) (hs : ∀ w I v, AV.rel w I s v → v = kv a) (hv : evO ρ u = some r) (hr : ∀ w I v, AV.rel w I r v → v = vv c) (hT : k.P.underlying T = some (.map KT ET))
 (hu : Upd (.raw b (Ay (Ab kv vv ps))) (.raw b (Ay (Ab kv vv (ps ++ [(a, c)])))) h h') (hno : getM ps a = none)
 (hj : JL k ops l Q ρ h') : JL k ops (⟨none, .mapUpdate T x y u, ty, pos, after, none⟩ :: l) Q ρ h := by
 obtain ⟨h1, h2, rfl, rfl⟩ := hu.split
 refine FH rfl rfl fun I ac w k1 k2 => ?_
 have e1 := AI (k2.ev x) (AA hx)
 have e2 := hs _ _ _ (BS (k2.ev y) (AA hy))
 have e3 := hr _ _ _ (BS (k2.ev u) (AA hv))
 have hb : w.heap[b]? = some (Ay (Ab kv vv ps)) := k1.ent (.raw b (Ay (Ab kv vv ps))) (by simp)
 obtain ⟨q, hfind, hq⟩ := K.find vv ps a w
 obtain rfl : q = none := by
  rw [hno] at hq
  cases q with
  | none => rfl
  | some _ => cases hq
 have hnew : Obj.map (BR (Ab kv vv ps) 0 ++ [(⟨kv a, vv c, (Ab kv vv ps).length⟩ : MapEntry)]).toArray ((Ab kv vv ps).length + 1) = Ay (Ab kv vv (ps ++ [(a, c)])) := by
  have e : Ab kv vv (ps ++ [(a, c)]) = Ab kv vv ps ++ [(kv a, vv c)] := by simp [Ab]
  unfold Ay
  rw [e, EN]
  simp [BR]
 obtain ⟨g1, g2⟩ := k1.write (w' := { w with heap := w.heap.setIfInBounds b (Ay (Ab kv vv (ps ++ [(a, c)]))) }) (e' := .raw b (Ay (Ab kv vv (ps ++ [(a, c)])))) (b := b) rfl rfl rfl rfl rfl (by simp)
  (fun x hx => by simp [Array.getElem?_setIfInBounds, Ne.symm hx]) (by
   have hlt := (Array.getElem?_eq_some_iff.1 hb).1
   show _ = _
   simp [Array.getElem?_setIfInBounds, hlt])
 refine ⟨{ w with heap := w.heap.setIfInBounds b (Ay (Ab kv vv (ps ++ [(a, c)]))) }, I, h1 ++ .raw b (Ay (Ab kv vv (ps ++ [(a, c)]))) :: h2, ?_, g1, k2.mono g2 (fun _ h => h), hj⟩
 have hobj : (getObj b).run k.P w = .ok (.map (BR (Ab kv vv ps) 0).toArray (Ab kv vv ps).length) w := by simp [getObj, Sem.run, hb, Ay]
 have hset := LO (P := k.P) (w := w) (r := b) (Ay (Ab kv vv (ps ++ [(a, c)]))) (es := (BR (Ab kv vv ps) 0).toArray) (clock := (Ab kv vv ps).length) hb
 simp only [execOp, e1, e2, e3, mapUpdate]
 simp [run_underlying hT, hobj, K.easy false a w, hfind, hnew, hset]
end
section
variable {P : Program} {G : List (Nat × List D)} {ρ : Env} {h : H} {dst : Option Tmp} {ty : TypeId} {pos : String} {after : Array Edge} {g : Option (Nat × Bool)}
theorem QK {α β : Type} [DecidableEq α] {kv : α → Value} {vv : β → Value} {T KT ET : TypeId} (K : WA P KT kv) {x y : Operand} {s : AV} {b : Nat} {ps : List (α × β)} {a : α} {z : Value} {sz eb : Nat}
 (hx : evO ρ x = some (.val (.map (some b)))) (hy : evO ρ y = some s) (hs : ∀ w I v, AV.rel w I s v → v = kv a) (hT : P.underlying T = some (.map KT ET)) (hE : El P ET z sz eb) (hm : Ent.raw b (Ay (Ab kv vv ps)) ∈ h) :
 Pure P G ⟨dst, .lookup T x y true, ty, pos, after, g⟩ ρ h (.tup [.val (((getM ps a).map vv).getD z), .bool (getM ps a).isSome]) := by
 intro c I n ac w _ hok hs'
 obtain ⟨i, hi, hz, _, _⟩ := hE.get
 have e1 := AI (hs'.ev x) (AA hx)
 have e2 := hs _ _ _ (BS (hs'.ev y) (AA hy))
 have hb : w.heap[b]? = some (Ay (Ab kv vv ps)) := hok.ent _ hm
 refine ⟨.tuple #[((getM ps a).map vv).getD z, .bool (getM ps a).isSome], ⟨[_, _], rfl, rfl, rfl, trivial⟩, fun w' hw' => ?_⟩
 have hb' : w'.heap[b]? = some (Ay (Ab kv vv ps)) := (hw'.own b (Ct hm rfl)).trans hb
 have hobj : (getObj b).run P w' = .ok (.map (BR (Ab kv vv ps) 0).toArray (Ab kv vv ps).length) w' := by simp [getObj, Sem.run, hb', Ay]
 obtain ⟨r, hr1, hr2⟩ := K.find vv ps a w'
 simp only [execOp, e1, e2, lookup]
 cases r with
 | none =>
   have hr3 : (getM ps a).map vv = none := hr2.symm
   have hr4 : getM ps a = none := by simpa using hr3
   simp [run_underlying hT, hobj, K.easy _ a w', hr1, hr4, zeroValue, typeInfo, hi, hz]
 | some r =>
   obtain ⟨j, v⟩ := r
   have hr3 : (getM ps a).map vv = some v := hr2.symm
   obtain ⟨bb, hb1, hb2⟩ := Option.map_eq_some_iff.1 hr3
   simp [run_underlying hT, hobj, K.easy _ a w', hr1, hb1, hb2]
theorem DA {α : Type} {f : α → List D} {xs : List α} {T E : TypeId} {x : Operand} {q : Sl} {j sz eb : Nat} {z : Value} (hT : A0 P T = some true) (hE : El P T z sz eb) (hx : evO ρ x = some (.val (.pointer (some (q.at (j * sz)))))) (hm : AF q.v E sz f xs ∈ h) (hsz : ∀ a, (f a).length = sz) (hj : j < xs.length) :
 Pure P G ⟨dst, .load T x, ty, pos, after, g⟩ ρ h (.agg ((f xs[j]).map D.av)) := by
 intro cx I m a w _ hok hs
 obtain ⟨i, hi, _, rfl, _⟩ := hE.get
 obtain ⟨gb, cap, cur, rfl, hg, hnc, hcm, hcs, hrel⟩ := Ent.row_form (hok.ent _ hm) (by omega)
 have e1 : a.eval x = .pointer (some ⟨gb, j * i.size, none⟩) := AI (hs.ev x) (AA hx)
 have hle : (j + 1) * i.size ≤ xs.length * i.size := Nat.mul_le_mul_right _ hj
 rw [Nat.add_mul, Nat.one_mul] at hle
 have hcl : xs.length * i.size ≤ cur.toList.length := by
  have e : cur.toList.length = cap * i.size := hcs
  rw [e]; exact Nat.mul_le_mul_right _ hnc
 have hfl : ∀ l : List α, ((l.map f).flatten).length = l.length * i.size := fun l => by
  rw [BM _ fun r hr => by obtain ⟨b, _, rfl⟩ := List.mem_map.1 hr; exact hsz b, List.length_map]
 have hsplit : (xs.map f).flatten = ((xs.take j).map f).flatten ++ (f xs[j] ++ ((xs.drop (j + 1)).map f).flatten) := by
  have e : xs = xs.take j ++ xs[j] :: xs.drop (j + 1) := by rw [← List.drop_eq_getElem_cons hj, List.take_append_drop]
  have e2 : ((xs.take j ++ xs[j] :: xs.drop (j + 1)).map f).flatten = (xs.map f).flatten := by rw [← e]
  rw [List.map_append, List.map_cons, List.flatten_append, List.flatten_cons] at e2
  exact e2.symm
 have htl : ((xs.take j).map f).flatten.length = j * i.size := by rw [hfl, List.length_take, Nat.min_eq_left (by omega)]
 have hl1 : ((((xs.map f).flatten.map D.av).drop (j * i.size)).take i.size) = (f xs[j]).map D.av := by
  rw [hsplit, List.map_append, List.map_append, List.drop_left' (by rw [List.length_map, htl]), List.take_left' (by rw [List.length_map, hsz])]
 have hr1 : ((cur.toList.take (xs.length * i.size)).drop (j * i.size)).take i.size = (cur.toList.drop (j * i.size)).take i.size := by
  rw [List.drop_take, List.take_take, Nat.min_eq_left (by omega)]
 have hrels := C0 i.size (EV (j * i.size) hrel)
 rw [hl1, hr1] at hrels
 refine ⟨.agg ((cur.toList.drop (j * i.size)).take i.size).toArray, ⟨_, rfl, hrels⟩, fun w' hw' => ?_⟩
 have hheap : w'.heap[gb]? = some (.cells cur E (0, 0)) := (hw'.own gb (Ct hm rfl)).trans hg
 have hload := run_loadCells_list (P := P) w' ⟨gb, j * i.size, none⟩ ((cur.toList.drop (j * i.size)).take i.size) fun u v hv => by
  rw [Addr.add_lit, cell_of_row w' gb (j * i.size + u) cur E (0, 0) hheap]
  rw [List.getElem?_take] at hv
  split at hv
  · rw [List.getElem?_drop] at hv; simpa using hv
  · cases hv
 have hln : ((cur.toList.drop (j * i.size)).take i.size).length = i.size := by
  rw [List.length_take, List.length_drop]; omega
 rw [hln] at hload
 simp [execOp, e1, Instr.loadAt, Instr.sureAddr, loadVar, B2 hT, sizeOf, typeInfo, hi, hload]
end
open Go
theorem Nr {α : Type} {f : α → List D} {sz u : Nat} {r : AV} {a : α} (hsz : ∀ a, (f a).length = sz) (hu : u < sz) : ∀ (xs : List α) (j : Nat) (h : j < xs.length), (f a).map D.av = ((f xs[j]).map D.av).set u r → (((xs.map f).flatten).map D.av).set (j * sz + u) r = (((xs.set j a).map f).flatten).map D.av
 | [], j, h, _ => by simp at h
 | x :: xs, 0, _, e => by
   have el : ((f x).map D.av).length = sz := by rw [List.length_map, hsz]
   simp only [List.getElem_cons_zero] at e
   simp only [Nat.zero_mul, Nat.zero_add, List.map_cons, List.flatten_cons, List.map_append, List.set_cons_zero]
   rw [List.set_append_left _ _ (by omega), e]
 | x :: xs, j + 1, h, e => by
   have el : ((f x).map D.av).length = sz := by rw [List.length_map, hsz]
   have ih := Nr hsz hu xs j (by simpa using h) (by simpa using e)
   simp only [List.map_cons, List.flatten_cons, List.map_append, List.set_cons_succ]
   rw [← ih, List.set_append_right _ _ (by rw [el, Nat.add_mul]; omega)]
   congr 2
   rw [el, Nat.add_mul]; omega
section
variable {k : Kx} {Q : Exit → Env → H → Prop} {ρ : Env} {h h' : H} {ops : Array Oper} {l : List Oper} {ty : TypeId} {pos : String} {after : Array Edge}
theorem U7 {α : Type} {f : α → List D} {xs : List α} {a : α} {T E : TypeId} {x y : Operand} {q : Sl} {j u sz : Nat} {r : AV} {z : Value} {eb : Nat} (hx : evO ρ x = some (.val (.pointer (some (q.at (j * sz + u)))))) (hy : evO ρ y = some r) (hE : El k.P T z 1 eb) (hs : r.flat = true) (hsz : ∀ a, (f a).length = sz) (hu : u < sz) (hjl : j < xs.length)
 (hr : (f a).map D.av = ((f xs[j]).map D.av).set u r) (hup : Upd (AF q.v E sz f xs) (AF q.v E sz f (xs.set j a)) h h') (hj : JL k ops l Q ρ h') : JL k ops (⟨none, .store T x y, ty, pos, after, none⟩ :: l) Q ρ h := by
 obtain ⟨h1, h2, rfl, rfl⟩ := hup.split
 obtain ⟨e1, e2⟩ := K0 hs
 have hfl : ((((xs.map f).flatten).map D.av)).length = xs.length * sz := by
  rw [List.length_map, BM _ (fun r hr => by obtain ⟨a, _, rfl⟩ := List.mem_map.1 hr; exact hsz a), List.length_map]
 have hle : (j + 1) * sz ≤ xs.length * sz := Nat.mul_le_mul_right _ hjl
 rw [Nat.add_mul] at hle
 refine J0 (off := j * sz + u) (r := r) (AA hx) (AA hy) e2 hE (by rw [e1]; rfl) (by omega) ?_ ?_
 · rw [hfl, e1]; simp only [List.length_cons, List.length_nil]; omega
 · rw [e1, Fj _ _ _ (by rw [hfl]; omega), Nr hsz hu xs j hjl hr]
   unfold AF at hj
   rwa [List.length_set] at hj
end
theorem Cvs.lastU {α : Type} {f : α → List D} {v : Value} {d : D} {pre post : List D} {a b : α} (xs : List α) (hv : v.oneCell' = true) (ha : f a = pre ++ .ve v hv :: post) (hb : (f b).map D.av = (pre.map D.av) ++ .d d :: (post.map D.av)) : Cvs v d ((((xs ++ [a]).map f).flatten).map D.av) ((((xs ++ [b]).map f).flatten).map D.av) := by
 have e1 : ((((xs ++ [a]).map f).flatten).map D.av) = (((xs.map f).flatten).map D.av ++ pre.map D.av) ++ .val v :: post.map D.av := by
  simp [ha, D.av]
 have e2 : ((((xs ++ [b]).map f).flatten).map D.av) = (((xs.map f).flatten).map D.av ++ pre.map D.av) ++ .d d :: post.map D.av := by
  simp only [List.map_append, List.map_cons, List.map_nil, List.flatten_append, List.flatten_cons, List.flatten_nil, List.append_nil, hb, List.append_assoc]
 rw [e1, e2]
 exact Cvs.mid _ _ _ _
open Go Go.RowKit
def JP (k : Kx) (x : Code) (Post : Exit → Act → World → Prop) (ρ : Env) (h : H) : Prop := ∀ I a w, Ok k.c I h w → SF k.n w I ρ a → a.defers = k.df → x.wp k.P Post a w
section
variable {k : Kx} {ρ ρ' : Env} {h h' : H} {Post : Exit → Act → World → Prop}
theorem PH {x y : Code} {Q : Exit → Env → H → Prop} (hj : J k x (JW (fun ρ h => JP k y Post ρ h) Q) ρ h) (hq : ∀ e a w, lift k Q e a w → Post e a w) : JP k (.seq x y) Post ρ h := fun I a w h1 h2 h3 => by
 refine wp_seq (wp_mono (hj I a w h1 h2 h3) ?_)
 rintro e a w ⟨I, ρ, h, k1, k2, k3, k4⟩
 cases e with
 | normal => exact k4 I a w k1 k2 k3
 | _ => exact hq _ _ _ ⟨I, ρ, h, k1, k2, k3, k4⟩
theorem dq {x y : Code} (hj : JP k x (Exit.then (y.wp k.P Post) Post) ρ h) : JP k (.seq x y) Post ρ h := fun I a w h1 h2 h3 => wp_seq (hj I a w h1 h2 h3)
theorem gI {x : Code} (v : VS ρ h ρ' h') (hj : JP k x Post ρ' h') : JP k x Post ρ h := fun I a w h1 h2 h3 => let ⟨I', k1, k2⟩ := v k.c I k.n a w h1 h2; hj I' a w k1 k2 h3
end
def Exact (ρ : Env) : Prop := ∀ t, (∃ v, get ρ t = .val v) ∨ get ρ t = .any
theorem Exact.nil : Exact [] := fun _ => .inr rfl
theorem Exact.cons {ρ : Env} {t : Nat} {v : Value} (h : Exact ρ) : Exact ((t, .val v) :: ρ) := fun u => by
 simp only [get]
 cases Nat.beq t u with
 | true => exact .inl ⟨v, rfl⟩
 | false => exact h u
theorem SF.exact {n : Nat} {w w' : World} {I I' : Nat → Prop} {ρ : Env} {a : Act} (f : SF n w I ρ a) (hx : Exact ρ) : SF n w' I' ρ a := ⟨f.1, fun t => by
 have := f.2 t
 rcases hx t with ⟨v, e⟩ | e
 · rw [e] at this ⊢; exact this
 · rw [e]; trivial⟩
theorem Ok.perm {c : Cx} {I : Nat → Prop} {h h' : H} {w : World} (k : Ok c I h w) (hp : h.Perm h') : ∃ I', Ok c I' h' w :=
 let ⟨I', k1, _⟩ := VS.perm (ρ := []) hp c I 0 { tmps := #[], defers := [] } w k ⟨rfl, fun _ => trivial⟩
 ⟨I', k1⟩
theorem Ok.putRaw {c : Cx} {I : Nat → Prop} {h1 h2 : H} {b : Nat} {o o' : Obj} {w : World} (k : Ok c I (h1 ++ .raw b o :: h2) w) : Ok c I (h1 ++ .raw b o' :: h2) (w.putObj b o') := by
 have hb : w.heap[b]? = some o := k.ent (.raw b o) (by simp)
 have hlt : b < w.heap.size := (Array.getElem?_eq_some_iff.1 hb).1
 exact (k.write (e := .raw b o) (e' := .raw b o') (b := b) (w' := w.putObj b o') rfl rfl rfl rfl rfl (by simp) (fun x hx => World.putObj_heap_other hx) (World.putObj_heap_same hlt)).1
abbrev Oa (P : Program) (c : Cx) (l : Nat) (v : Value) (h : H) (N : H → Prop) : Prop := ∀ I W, Ok c I h W → YieldAt Fence.wide 0 P l #[v] W fun e W' => e = .returned (.bool true) ∧ ∃ I' h', N h' ∧ Ok c I' h' W'
theorem bK {k : Kx} {Q : Exit → Env → H → Prop} {ρ : Env} {h : H} {N : H → Prop} {id : Nat} {l : Nat} {y x : Operand} {v : Value} {d1 d2 d3 d4 : Nat} {T1 T2 T3 T4 T5 T6 : TypeId} {p1 p2 p3 p4 : String} {a1 a2 a3 a4 : Array Edge}
 (hy0 : evO ρ y = some (.val (.func (.yield l) #[] #[]))) (hx : evO ρ x = some (.val v)) (hex : Exact ρ) (hy : Oa k.P k.c l v h N) (hd1 : Nat.blt d1 k.n = true) (hd2 : Nat.blt d2 k.n = true) (hd3 : Nat.blt d3 k.n = true) (hd4 : Nat.blt d4 k.n = true)
 (h12 : Nat.beq d1 d2 = false) (h1x : evO ((d1, .val (.func (.yield l) #[] #[])) :: ρ) x = some (.val v))
 (hq : ∀ h', N h' → Q .normal ((d4, .bool false) :: (d3, .bool true) :: (d2, .val v) :: (d1, .val (.func (.yield l) #[] #[])) :: ρ) h') :
 J k (.region id #[⟨some d1, .move y, T1, p1, a1, none⟩, ⟨some d2, .move x, T2, p2, a2, none⟩, ⟨some d3, .call { callee := .value (.tmp d1), args := #[.tmp d2], argTypes := #[T5] }, T3, p3, a3, none⟩, ⟨some d4, .unOp .not T6 (.tmp d3), T4, p4, a4, none⟩] false) Q ρ h := by
 intro I a w k1 k2 k3
 refine (wpIn_wide (n := 0)).1 (wpIn_region_lit (l := [_, _, _, _]) ?_)
 have e1 := AI (k2.ev y) (AA hy0)
 have f1 : SF k.n w I ((d1, .val (.func (.yield l) #[] #[])) :: ρ) (a.put (some d1) (.func (.yield l) #[] #[])) := k2.put (fun t ht => by cases ht; exact blt hd1) (r := .val _) rfl
 have e2 := AI (f1.ev x) (AA h1x)
 have f2 : SF k.n w I ((d2, .val v) :: (d1, .val (.func (.yield l) #[] #[])) :: ρ) ((a.put (some d1) (.func (.yield l) #[] #[])).put (some d2) v) := f1.put (fun t ht => by cases ht; exact blt hd2) (r := .val _) rfl
 have e3 := AI (f2.ev (.tmp d1)) (show ev _ (.tmp d1) = .val (.func (.yield l) #[] #[]) by
  have hb : Nat.beq d2 d1 = false := by
   cases hh : Nat.beq d2 d1 with
   | false => rfl
   | true => rw [Nat.eq_of_beq_eq_true hh] at h12; simp at h12
  simp only [ev, get, hb, cond_false]
  simp)
 have e4 := AI (f2.ev (.tmp d2)) (show ev _ (.tmp d2) = .val v by simp [ev, get])
 obtain ⟨fn, tmps, assign, body, hrun, hround⟩ := hy I w k1
 refine wpListIn_plain rfl fun K hK => ?_
 refine ⟨fun f hf => trivial, ?_⟩
 rw [show (Oper.semAt Fence.wide.round a.eval ⟨some d1, .move y, T1, p1, a1, none⟩).run k.P w = .ok (.value (.func (.yield l) #[] #[])) w by simp [Oper.semAt, Fence.wide, execOp, e1]]
 refine hK _ _ (wpListIn_plain rfl fun K hK => ⟨fun f hf => trivial, ?_⟩)
 rw [show (Oper.semAt Fence.wide.round (a.put (some d1) (.func (.yield l) #[] #[])).eval ⟨some d2, .move x, T2, p2, a2, none⟩).run k.P w = .ok (.value v) w by simp [Oper.semAt, Fence.wide, execOp, e2]]
 refine hK _ _ (wpListIn_plain rfl fun K hK => ⟨fun f hf => trivial, ?_⟩)
 rw [show (Oper.semAt Fence.wide.round ((a.put (some d1) (.func (.yield l) #[] #[])).put (some d2) v).eval ⟨some d3, .call { callee := .value (.tmp d1), args := #[.tmp d2], argTypes := #[T5] }, T3, p3, a3, none⟩).run k.P w = .ok (.round l fn tmps assign body) w by
  rw [show ∀ ρ o, Oper.semAt Fence.wide.round ρ o = execOp ρ o from fun _ _ => rfl]
  simp [execOp, resolve, invoke, Deferred.ofValue, e3, e4, hrun]]
 refine ⟨fun hd => (by cases hd), ?_⟩
 refine hround.mono ?_
 rintro e w' ⟨rfl, I', h', hn, k1'⟩
 have f3 : SF k.n w' I' ((d3, .bool true) :: (d2, .val v) :: (d1, .val (.func (.yield l) #[] #[])) :: ρ) ((((a.put (some d1) (.func (.yield l) #[] #[])).put (some d2) v)).put (some d3) (.bool true)) := (f2.exact hex.cons.cons).put (fun t ht => by cases ht; exact blt hd3) (r := .val _) rfl
 have e5 := AI (f3.ev (.tmp d3)) (show ev _ (.tmp d3) = .val (.bool true) by simp [ev, get])
 refine hK _ _ (wpListIn_plain rfl fun K hK => ⟨fun f hf => trivial, ?_⟩)
 rw [show (Oper.semAt Fence.wide.round ((((a.put (some d1) (.func (.yield l) #[] #[])).put (some d2) v)).put (some d3) (.bool true)).eval ⟨some d4, .unOp .not T6 (.tmp d3), T4, p4, a4, none⟩).run k.P w' = .ok (.value (.bool false)) w' by
  rw [show ∀ ρ o, Oper.semAt Fence.wide.round ρ o = execOp ρ o from fun _ _ => rfl]; simp [execOp, e5, Op.unary]]
 refine hK _ _ (wpListIn_nil ⟨I', _, h', k1', f3.put (fun t ht => by cases ht; exact blt hd4) (r := .val (.bool false)) rfl, ?_, hq h' hn⟩)
 rw [Act.defers_put, Act.defers_put, Act.defers_put, Act.defers_put]; exact k3
theorem Ys {k : Kx} {Post : Exit → Act → World → Prop} {ρ : Env} {gf : Nat} {lb : Array Value} {g : Operand} {p q : Tmp} {assign body : Code} {hb : List UInt8 → Ent} {s : List UInt8} {Hs : List (List UInt8) → H → Prop} {h0 : H} {all : List (List UInt8)} {dt : List (List UInt8) → List UInt8 → List UInt8 → Prop}
 (hg : evO ρ g = some (.val (.func (.func gf) #[] lb))) (eg : ∀ args w, (callFunc gf args).run k.P w = .ok (.enter gf args) w) (hex : Exact ρ) (hp : p < k.n) (hq : q < k.n)
 (hit : ∀ (l : Nat) (F : List (List UInt8) → H → Prop), (∀ pre x rest h, dt pre x rest → F pre h → Oa k.P k.c l (.string (Go.Sp.tx x)) (hb rest :: h) fun h2 => ∃ h', h2 = hb rest :: h' ∧ F (pre ++ [x]) h') →
  ∀ I W h, F [] h → Ok k.c I (hb s :: h) W → Calls k.P gf (#[.func (.yield l) #[] #[]] ++ lb) W fun e W' => (∃ v, e = .returned v) ∧ ∃ I' r h', F all h' ∧ Ok k.c I' (hb r :: h') W')
 (hassign : ∀ (l : Nat) (a : Act) (v : Value) (W : World) (K : Act → World → Prop), a.tmps[p]? = some v → K (a.put (some q) v) W → assign.wpIn (Fence.wide.inRound l) 0 k.P (Exit.then K (fun _ _ _ => False)) a W)
 (hbody : ∀ (l : Nat) (e1 e2 : Ent) (pre : List (List UInt8)) (x rest : List UInt8) (h : H), dt pre x rest → Hs pre h → ∀ I a W, Ok k.c I (hb rest :: e1 :: e2 :: h) W → SF k.n W I ((q, .val (.string (Go.Sp.tx x))) :: (p, .val (.string (Go.Sp.tx x))) :: ρ) a → a.defers = [] →
  body.wpIn (Fence.wide.inRound l) 0 k.P (fun e _ W' => e = .normal ∧ ∃ I' h', Hs (pre ++ [x]) h' ∧ Ok k.c I' (hb rest :: e1 :: e2 :: h') W') a W)
 (hdone : ∀ (D : Nat) (e1 : Ent) (r : List UInt8) (h : H), Hs all h → ∀ I a w, Ok k.c I (hb r :: e1 :: .raw D (.deferred (some [])) :: h) w → SF k.n w I ρ a → a.defers = { target := .collected D, args := #[] } :: k.df → Post .normal a w) (h00 : Hs [] h0) :
 JP k (.rangeFunc g #[p] assign body) Post ρ (hb s :: h0) := by
 intro I a w k1 k2 k3
 refine (wpIn_wide (n := 0)).1 (wpIn_rangeFunc ?_)
 intro fn hfn
 obtain ⟨rec, hrec⟩ : ∃ rec : LoopState → Option Code → Loop, rec = fun st pe => { state := st, pending := pe, fn, tmps := a.tmps, params := #[p], assign, body, defers := w.heap.size } := ⟨_, rfl⟩
 obtain ⟨W1, hW1⟩ : ∃ W1, (w.alloc (.deferred (some []))).alloc (.loop (rec .ready none)) = W1 := ⟨_, rfl⟩
 have heg := AI (k2.ev g) (AA hg)
 have ok1 := (k1.fresh (.deferred (some [])) (.raw w.heap.size (.deferred (some []))) rfl (World.alloc_heap_new w _)).fresh (.loop (rec .ready none)) (.raw (w.alloc (.deferred (some []))).heap.size (.loop (rec .ready none))) rfl (World.alloc_heap_new _ _)
 rw [hW1, World.size_alloc] at ok1
 obtain ⟨I1, ok1⟩ := ok1.perm (h' := hb s :: .raw (w.heap.size + 1) (.loop (rec .ready none)) :: .raw w.heap.size (.deferred (some [])) :: h0) (by
  refine (List.Perm.cons _ (List.Perm.swap _ _ _)).trans ?_
  exact List.Perm.swap _ _ _)
 refine ⟨w.heap.size + 1, [{ target := .collected w.heap.size, args := #[] }], W1, { target := .fn (.func gf) lb, args := #[.func (.yield (w.heap.size + 1)) #[] #[]] }, W1, gf,
  #[.func (.yield (w.heap.size + 1)) #[] #[]] ++ lb, W1, ?_, ?_, ?_, ?_, fun hd => (by cases hd), ?_⟩
 · rw [← hW1, hrec]; exact run_enterLoop_outer _ _ _ _ _
 · simp only [resolve, heg]
   simp [go_sem]
 · intro f' hf'; trivial
 · simp [invoke, go_sem, eg]
 · refine callsIn_wide.2 ((hit (w.heap.size + 1) (fun pre h => ∃ h', h = .raw (w.heap.size + 1) (.loop (rec .ready none)) :: .raw w.heap.size (.deferred (some [])) :: h' ∧ Hs pre h') ?_ I1 W1 _ ⟨h0, rfl, h00⟩ ok1).mono ?_)
   · rintro pre x rest _ hd ⟨hh, rfl, hH⟩ I W ok
     have hl : W.heap[w.heap.size + 1]? = some (.loop (rec .ready none)) := ok.ent (.raw (w.heap.size + 1) (.loop (rec .ready none))) (by simp)
     have hy := run_yield (P := k.P) (args := #[.string (Go.Sp.tx x)]) hl (by rw [hrec]; rfl)
     rw [hrec] at hy
     have hsz : a.tmps.size = k.n := k2.1
     refine ⟨fn, _, assign, body, hy, roundIn_of_wpIn hfn (hassign _ _ (.string (Go.Sp.tx x)) W _ (by simp [hsz, hp]) ⟨_, run_beginRound hl (by rw [hrec]), ?_⟩)⟩
     have ok2 := Ok.putRaw (o' := .loop { rec .ready none with state := .busy }) (show Ok k.c I ([hb rest] ++ .raw (w.heap.size + 1) (.loop (rec .ready none)) :: .raw w.heap.size (.deferred (some [])) :: hh) W from ok)
     have sf : SF k.n (W.putObj (w.heap.size + 1) (.loop { rec .ready none with state := .busy })) I ((q, .val (.string (Go.Sp.tx x))) :: (p, .val (.string (Go.Sp.tx x))) :: ρ) (Act.put { tmps := ((#[p].zip #[Value.string (Go.Sp.tx x)]).foldl (fun t (p, v) => t.setIfInBounds p v) a.tmps), defers := [] } (some q) (.string (Go.Sp.tx x))) := by
      have s0 : SF k.n (W.putObj (w.heap.size + 1) (.loop { rec .ready none with state := .busy })) I ρ { tmps := a.tmps, defers := [] } := SF.exact (w := w) (I := I1) ⟨k2.1, (k2.exact hex).2⟩ hex
      have s1 := (s0.put (dst := some p) (fun t ht => by cases ht; exact hp) (r := .val (.string (Go.Sp.tx x))) rfl).put (dst := some q) (fun t ht => by cases ht; exact hq) (r := .val (.string (Go.Sp.tx x))) (v := .string (Go.Sp.tx x)) rfl
      have ez : ((#[p].zip #[Value.string (Go.Sp.tx x)]).foldl (fun t (p, v) => t.setIfInBounds p v) a.tmps) = a.tmps.setIfInBounds p (.string (Go.Sp.tx x)) := by simp
      rw [ez]
      exact s1
     refine wpIn_mono (hbody _ _ _ pre x rest hh hd hH I _ _ ok2 sf rfl) ?_
     rintro e a3 W3 ⟨rfl, I3, hh3, hH3, ok3⟩
     have hl3 : W3.heap[w.heap.size + 1]? = some (.loop { rec .ready none with state := .busy }) := ok3.ent (.raw (w.heap.size + 1) (.loop { rec .ready none with state := .busy })) (by simp)
     have hr := run_endRound (P := k.P) none hl3
     have ok4 := Ok.putRaw (o' := .loop (rec .ready none)) (show Ok k.c I3 ([hb rest] ++ .raw (w.heap.size + 1) (.loop { rec .ready none with state := .busy }) :: .raw w.heap.size (.deferred (some [])) :: hh3) W3 from ok3)
     refine ⟨_, _, hr, rfl, I3, _, ⟨_, rfl, hh3, rfl, hH3⟩, ?_⟩
     have e0 : ({ (({ rec .ready none with state := .busy } : Loop)) with state := if (none : Option Code).isNone then LoopState.ready else .done, pending := none } : Loop) = rec .ready none := by rw [hrec]; rfl
     rw [e0]
     exact ok4
   · rintro e W2 ⟨⟨v, rfl⟩, I2, r, _, ⟨hh, rfl, hH⟩, ok2⟩
     have hl : W2.heap[w.heap.size + 1]? = some (.loop (rec .ready none)) := ok2.ent (.raw (w.heap.size + 1) (.loop (rec .ready none))) (by simp)
     have hend := run_endLoop (P := k.P) hl (by rw [hrec]; simp)
     have ok3 := Ok.putRaw (o' := .loop { rec .ready none with state := .exhausted }) (show Ok k.c I2 ([hb r] ++ .raw (w.heap.size + 1) (.loop (rec .ready none)) :: .raw w.heap.size (.deferred (some [])) :: hh) W2 from ok2)
     subst hrec
     refine ⟨none, _, hend, ?_⟩
     exact hdone w.heap.size _ r hh hH I2 _ _ ok3 (SF.exact (w := w) (I := I) ⟨k2.1, k2.2⟩ hex) (by simp [k3])
end Go.Av
namespace Go.Sp
open Go Go.Av

inductive Wf (K : Fo → Prop) : List Fo → Prop
 | leaf {o : Fo} (k : K o) (h : partsOf o.kind = (0, 0)) : Wf K [o]
 | one {o : Fo} {a : List Fo} (k : K o) (h : partsOf o.kind = (1, 0)) (ha : Wf K a) : Wf K (o :: a)
 | two {o : Fo} {a b : List Fo} (k : K o) (h : partsOf o.kind = (2, 0)) (ha : Wf K a) (hb : Wf K b) : Wf K (o :: (a ++ b))
section
variable {K : Fo → Prop} {l : List Fo}
theorem Wf.pos (w : Wf K l) : 0 < l.length := by cases w <;> simp
theorem Wf.all (w : Wf K l) : ∀ o ∈ l, K o := by
 induction w with
 | leaf k h => intro o ho; rw [List.mem_singleton.1 ho]; exact k
 | one k h ha ih =>
   intro o ho
   rcases List.mem_cons.1 ho with rfl | ho
   · exact k
   · exact ih o ho
 | two k h ha hb iha ihb =>
   intro o ho
   rcases List.mem_cons.1 ho with rfl | ho
   · exact k
   · rcases List.mem_append.1 ho with ho | ho
     · exact iha o ho
     · exact ihb o ho
theorem Wf.scanE (w : Wf K l) : ∀ (r : List Fo) (n i : Int), 1 ≤ n → scan (l ++ r) n i = if n = 1 then (i + l.length, 0) else scan r (n - 1) (i + l.length) := by
 induction w with
 | @leaf o k h =>
   intro r n i hn
   rw [List.singleton_append, B3, h]
   dsimp only
   rw [if_neg (fun c => c rfl), show n + 0 - 1 = n - 1 by omega, List.length_singleton]
   by_cases c : n = 1
   · rw [if_pos c, if_pos (by omega)]; rfl
   · rw [if_neg c, if_neg (by omega)]; rfl
 | @one o a k h ha ih =>
   intro r n i hn
   rw [List.cons_append, B3, h]
   dsimp only
   rw [if_neg (fun c => c rfl), if_neg (by omega), show n + 1 - 1 = n by omega, ih r n (i + 1) hn, List.length_cons, show i + 1 + (a.length : Int) = i + ((a.length + 1 : Nat) : Int) by omega]
 | @two o a b k h ha hb iha ihb =>
   intro r n i hn
   rw [List.cons_append, B3, h]
   dsimp only
   rw [if_neg (fun c => c rfl), if_neg (by omega), show n + 2 - 1 = n + 1 by omega, List.append_assoc, iha (b ++ r) (n + 1) (i + 1) (by omega), if_neg (by omega), show n + 1 - 1 = n by omega, ihb r n _ hn, List.length_cons, List.length_append,
    show i + 1 + (a.length : Int) + (b.length : Int) = i + ((a.length + b.length + 1 : Nat) : Int) by omega]
theorem Wf.endE (w : Wf K l) (p r : List Fo) : AT (p ++ l ++ r) (p.length : Nat) = (((p.length + l.length : Nat) : Int), 0) := by
 unfold AT
 rw [Int.toNat_natCast, List.append_assoc, List.drop_left, w.scanE _ _ _ (by omega), if_pos rfl, Int.natCast_add]
theorem Wf.ends (w : Wf K l) (h : l.length ≤ 60) : (Az l).2 = 0 := by
 have h0 := w.endE [] []
 rw [List.nil_append, List.append_nil, List.length_nil, Nat.zero_add] at h0
 unfold Az
 have h1 : AT l 0 = ((l.length : Int), 0) := h0
 rw [if_neg (by omega), h1, if_neg (fun c => c rfl), if_neg (by dsimp only; omega)]
theorem DO (p : List Fo) (o : Fo) (s : List Fo) : AW (p ++ o :: s) p.length = o.kind := by simp [AW]
noncomputable def opI (k v : Int) (σ : Nat → Nat → Bool) (A B : Nat → Bool) (i : Nat) : Bool :=
 if k = 13 then σ i v.toNat
 else if k = 11 then true
 else if k = 12 then false
 else if k = 10 then !A i
 else if k = 8 then A i && B i
 else if k = 9 then A i || B i
 else if k = 14 then A (i + 1)
 else (Ie k A B Nat.succ).inf i
theorem X9 (l : List Fo) (σ : Nat → Nat → Bool) (q : Nat) (A B : Nat → Bool) : ON l σ q A B = opI (AW l q) (Np l q) σ A B := rfl
theorem Tj {k : Int} (h : partsOf k = (0, 0)) (h8 : 8 ≤ k) : k = 11 ∨ k = 12 ∨ k = 13 := by
 unfold partsOf at h
 split at h
 · omega
 · split at h
   · exact absurd (congrArg Prod.fst h) (by simp)
   · split at h
     · exact absurd (congrArg Prod.fst h) (by simp)
     · exact absurd (congrArg Prod.snd h) (by simp)
theorem Xs {k : Int} (h : partsOf k = (0, 0)) (h8 : 8 ≤ k) (v : Int) (σ : Nat → Nat → Bool) (A B A' B' : Nat → Bool) : opI k v σ A B = opI k v σ A' B' := by
 rcases Tj h h8 with rfl | rfl | rfl <;> rfl
theorem Xv {o : Fo} (h : partsOf o.kind = (0, 0)) (h8 : 8 ≤ o.kind) (σ : Nat → Nat → Bool) (A B : Nat → Bool) : iAt [o] σ 0 = opI o.kind o.val σ A B := by
 have L := Ou [o] σ 0 (by simp)
 rw [L, X9]
 exact Xs h h8 _ _ _ _ _ _
theorem bf (σ : Nat → Nat → Bool) : iAt [⟨11, 0⟩] σ 0 = fun _ => true := Xv rfl (by decide) σ (fun _ => true) (fun _ => true)
end
def nAh (l : List Fo) : Nat := (l.filter fun o => decide (AU o.kind)).length
theorem EZ (o : Fo) (l : List Fo) : nAh (o :: l) = (if AU o.kind then 1 else 0) + nAh l := by
 unfold nAh
 by_cases c : AU o.kind
 · rw [if_pos c, List.filter_cons, if_pos (decide_eq_true c), List.length_cons, Nat.add_comm]
 · rw [if_neg c, List.filter_cons, if_neg (by simpa using c), Nat.zero_add]
theorem NV (props : Int) : ∀ (l : List Fo) (n : Nat), (∀ o ∈ l, D1 o.kind o.val props = 0) → n + nAh l ≤ 6 → HZ l props n = 0
 | [], n, _, h => by rw [HZ, if_neg (by simp [nAh] at h; omega)]
 | o :: r, n, h, h6 => by
   have h0 := h o List.mem_cons_self
   rw [HZ, if_neg (fun c => c h0)]
   refine NV props r _ (fun x hx => h x (List.mem_cons_of_mem _ hx)) ?_
   rw [EZ] at h6
   by_cases c : AU o.kind
   · rw [if_pos c] at h6 ⊢; omega
   · rw [if_neg c] at h6 ⊢; omega
theorem Uv (a b : List Fo) : nAh (a ++ b) = nAh a + nAh b := by simp [nAh]
abbrev FoK (p : Int) (o : Fo) : Prop := D1 o.kind o.val p = 0
theorem Wf.form {p : Int} {l : List Fo} (w : Wf (FoK p) l) (h60 : l.length ≤ 60) (h6 : nAh l ≤ 6) (hp : 0 ≤ p ∧ p ≤ 6) : DS l p = 0 := by
 unfold DS
 rw [if_neg (by omega), if_neg (fun c => c (w.ends h60)), NV p l 0 w.all (by omega)]
end Go.Sp
namespace Go.Proofs.YtajnpfgelpkijaaGreatDoor
open Go Go.Av
theorem WN : Fld Tryz.prog 133 0 0 := by unfold Fld; kernel_rfl
instance : FdC Tryz.prog 133 0 0 := ⟨WN⟩
theorem VU : Fld Tryz.prog 133 1 5 := by unfold Fld; kernel_rfl
instance : FdC Tryz.prog 133 1 5 := ⟨VU⟩
theorem WO : Bls Tryz.prog 133 [.slice none 0 0, .int .i64 0, .slice none 0 0, .slice none 0 0, .int .i64 0, .map none] [(0, 5), (5, 1)] := by unfold Bls; kernel_rfl
instance : HR Tryz.prog 133 [.slice none 0 0, .int .i64 0, .slice none 0 0, .slice none 0 0, .int .i64 0, .map none] [(0, 5), (5, 1)] := ⟨WO⟩
theorem eZ : El Tryz.prog 157 (.agg #[.int .i64 0, .int .i64 0]) 2 16 := by unfold El; kernel_rfl
instance : ElC Tryz.prog 157 (.agg #[.int .i64 0, .int .i64 0]) 2 16 := ⟨eZ⟩
theorem aw : Fld Tryz.prog 157 0 0 := by unfold Fld; kernel_rfl
instance : FdC Tryz.prog 157 0 0 := ⟨aw⟩
theorem aT : Fld Tryz.prog 157 1 1 := by unfold Fld; kernel_rfl
instance : FdC Tryz.prog 157 1 1 := ⟨aT⟩
theorem aU : Bls Tryz.prog 157 [.int .i64 0, .int .i64 0] [(0, 1), (1, 1)] := by unfold Bls; kernel_rfl
instance : HR Tryz.prog 157 [.int .i64 0, .int .i64 0] [(0, 1), (1, 1)] := ⟨aU⟩
theorem aZ : El Tryz.prog 117 (.agg #[.slice none 0 0, .int .i64 0, .slice none 0 0, .bool false]) 4 64 := by unfold El; kernel_rfl
instance : ElC Tryz.prog 117 (.agg #[.slice none 0 0, .int .i64 0, .slice none 0 0, .bool false]) 4 64 := ⟨aZ⟩
theorem Z4 : Fld Tryz.prog 117 0 0 := by unfold Fld; kernel_rfl
instance : FdC Tryz.prog 117 0 0 := ⟨Z4⟩
theorem Zc : Fld Tryz.prog 117 1 1 := by unfold Fld; kernel_rfl
instance : FdC Tryz.prog 117 1 1 := ⟨Zc⟩
theorem Zb : Fld Tryz.prog 117 2 2 := by unfold Fld; kernel_rfl
instance : FdC Tryz.prog 117 2 2 := ⟨Zb⟩
theorem XZ : Fld Tryz.prog 117 3 3 := by unfold Fld; kernel_rfl
instance : FdC Tryz.prog 117 3 3 := ⟨XZ⟩
theorem Wm : El Tryz.prog 38 (.agg #[.int .i64 0, .int .i64 0, .int .i64 0, .int .i64 0, .int .i64 0, .int .i64 0, .slice none 0 0]) 7 72 := by unfold El; kernel_rfl
instance : ElC Tryz.prog 38 (.agg #[.int .i64 0, .int .i64 0, .int .i64 0, .int .i64 0, .int .i64 0, .int .i64 0, .slice none 0 0]) 7 72 := ⟨Wm⟩
theorem TL : Fld Tryz.prog 38 0 0 := by unfold Fld; kernel_rfl
instance : FdC Tryz.prog 38 0 0 := ⟨TL⟩
theorem TN : Fld Tryz.prog 38 1 2 := by unfold Fld; kernel_rfl
instance : FdC Tryz.prog 38 1 2 := ⟨TN⟩
theorem Tt : Fld Tryz.prog 38 2 4 := by unfold Fld; kernel_rfl
instance : FdC Tryz.prog 38 2 4 := ⟨Tt⟩
theorem UO : Fld Tryz.prog 38 3 6 := by unfold Fld; kernel_rfl
instance : FdC Tryz.prog 38 3 6 := ⟨UO⟩
theorem Vq : Fld Tryz.prog 122 0 0 := by unfold Fld; kernel_rfl
instance : FdC Tryz.prog 122 0 0 := ⟨Vq⟩
theorem XJ : Fld Tryz.prog 122 1 1 := by unfold Fld; kernel_rfl
instance : FdC Tryz.prog 122 1 1 := ⟨XJ⟩
theorem Wq : Fld Tryz.prog 122 2 2 := by unfold Fld; kernel_rfl
instance : FdC Tryz.prog 122 2 2 := ⟨Wq⟩
theorem Wv : Fld Tryz.prog 122 3 3 := by unfold Fld; kernel_rfl
instance : FdC Tryz.prog 122 3 3 := ⟨Wv⟩
theorem Wk : Fld Tryz.prog 122 4 4 := by unfold Fld; kernel_rfl
instance : FdC Tryz.prog 122 4 4 := ⟨Wk⟩
theorem Wi : Fld Tryz.prog 122 5 5 := by unfold Fld; kernel_rfl
instance : FdC Tryz.prog 122 5 5 := ⟨Wi⟩
theorem Vd : Bls Tryz.prog 122 [.slice none 0 0, .int .i64 0, .int .i64 0, .int .i64 0, .int .i64 0, .slice none 0 0] [(0, 1), (1, 1), (2, 1), (3, 1), (4, 1), (5, 1)] := by unfold Bls; kernel_rfl
instance : HR Tryz.prog 122 [.slice none 0 0, .int .i64 0, .int .i64 0, .int .i64 0, .int .i64 0, .slice none 0 0] [(0, 1), (1, 1), (2, 1), (3, 1), (4, 1), (5, 1)] := ⟨Vd⟩
end Go.Proofs.YtajnpfgelpkijaaGreatDoor
namespace Go.Sp
open Go Go.Av

theorem Rch.way {nx : Nat → List Nat} {π : Nat → Nat} (hs : ∀ i, π (i + 1) ∈ nx (π i)) (i : Nat) : ∀ d, Rch nx (π i) (π (i + d))
 | 0 => .refl _
 | d + 1 => .step (Rch.way hs i d) (hs (i + d))
theorem NQ {π : Nat → Nat} : ∀ (n : Nat), (∀ i, ∃ j, i ≤ j ∧ π j < n) → ∃ v, v < n ∧ ∀ i, ∃ j, i ≤ j ∧ π j = v
 | 0, h => by obtain ⟨j, _, hj⟩ := h 0; omega
 | n + 1, h => by
   by_cases c : ∀ i, ∃ j, i ≤ j ∧ π j = n
   · exact ⟨n, by omega, c⟩
   · obtain ⟨b, hb⟩ := Classical.not_forall.1 c
     obtain ⟨v, h1, h2⟩ := NQ (π := π) n fun i => by
      obtain ⟨j, hj, hl⟩ := h (i + b)
      refine ⟨j, by omega, ?_⟩
      have : π j ≠ n := fun e => hb ⟨j, Nat.le_trans (Nat.le_add_left b i) hj, e⟩
      omega
     exact ⟨v, by omega, h2⟩
theorem Vp {g : Gn} (hok : g.ok) {π : Nat → Nat} (h0 : π 0 < g.init) (hs : ∀ i, π (i + 1) ∈ g.nx (π i)) (hf : ∀ s, s < g.many → ∀ i, ∃ j, i ≤ j ∧ (ni g.sets (π j)).testBit s = true) : ∃ h, h < g.spots.length ∧ Ej g h := by
 have hi := hok.init
 have hlt : ∀ i, π i < g.spots.length := fun i => by
  cases i with
  | zero => omega
  | succ i => exact g.nx_lt hok _ _ (hs i)
 obtain ⟨v, hv, hag⟩ := NQ (π := π) g.spots.length fun i => ⟨i, Nat.le_refl _, hlt i⟩
 obtain ⟨i0, _, e0⟩ := hag 0
 have hpart : ∀ j, i0 ≤ j → ni (A1 g) (π j) = ni (A1 g) v := fun j hj => by
  rw [Dk g (hlt j) hv]
  obtain ⟨j', hj', e'⟩ := hag j
  have h1 := Rch.way hs i0 (j - i0)
  have h2 := Rch.way hs j (j' - j)
  rw [show i0 + (j - i0) = j by omega, e0] at h1
  rw [show j + (j' - j) = j' by omega, e'] at h2
  exact ⟨h2, h1⟩
 have hlen := DX g
 have hh : ni (A1 g) v < g.spots.length := by rw [Ce _ _ (by omega)]; exact R4 g v (by omega)
 obtain ⟨m, hm, r1, r2, _⟩ := D2 g.nx v
 have hmv : (ni (A1 g) v : Int) = m := by rw [Le g hv, hm]
 have hmv' : ni (A1 g) v = m := by exact_mod_cast hmv
 refine ⟨ni (A1 g) v, hh, ⟨π 0, h0, ?_⟩, ?_, ⟨π i0, hlt _, hpart _ (Nat.le_refl _), π (i0 + 1), hs i0, hpart _ (by omega)⟩, fun s hs' => ?_⟩
 · have h1 := Rch.way hs 0 i0
   rw [Nat.zero_add, e0] at h1
   rw [hmv']; exact h1.trans r1
 · rw [Dk g hh hv, hmv']
   exact ⟨r2, r1⟩
 · obtain ⟨j, hj, hb⟩ := hf s hs' i0
   exact ⟨π j, hlt j, hpart j hj, hb⟩
theorem Bj.at {nx : Nat → List Nat} {ins : Nat → Bool} : ∀ {l : List Nat}, Bj nx ins l → ∀ (i : Nat) (h : i + 1 < l.length), l[i + 1] ∈ nx l[i]
 | [], _, i, h => by simp at h
 | [_], _, i, h => by simp at h
 | a :: b :: l, c, 0, h => c.1.1
 | a :: b :: l, c, i + 1, h => Bj.at (l := b :: l) c.2 i (by simpa using h)
theorem O0.way {g : Gn} {stem loop : List Nat} (w : O0 g stem loop) (i : Nat) :
 ni (stem ++ loop) (EM stem.length (stem ++ loop).length (i + 1)) ∈ g.nx (ni (stem ++ loop) (EM stem.length (stem ++ loop).length i)) := by
 have hlp := List.length_pos_iff.2 w.ne
 have hN : (stem ++ loop).length = stem.length + loop.length := List.length_append
 have hl := LF (s := stem.length) (N := (stem ++ loop).length) (by omega) i
 obtain ⟨a, t, e⟩ : ∃ a t, loop = a :: t := by
  cases hlp' : loop with
  | nil => rw [hlp'] at hlp; simp at hlp
  | cons a t => exact ⟨a, t, rfl⟩
 have hc := w.chain a (by rw [e]; rfl)
 rw [EM]
 generalize EM stem.length (stem ++ loop).length i = m at hl
 have h1 := hc.at m (by rw [List.length_append]; simp; omega)
 rw [Ce _ _ hl]
 rw [List.getElem_append_left (by omega)] at h1
 by_cases c : m + 1 < (stem ++ loop).length
 · rw [wnx, if_pos c, Ce _ _ c]
   rw [List.getElem_append_left c] at h1
   exact h1
 · rw [wnx, if_neg c, Ce _ _ (by omega)]
   have e3 : (stem ++ loop ++ [a])[m + 1]'(by rw [List.length_append]; simp; omega) = a := by rw [List.getElem_append_right (by omega)]; simp
   rw [e3] at h1
   have e2 : (stem ++ loop)[stem.length]'(by omega) = a := by rw [List.getElem_append_right (Nat.le_refl _)]; simp [e]
   rw [e2]
   exact h1
theorem O0.meets {g : Gn} {stem loop : List Nat} (w : O0 g stem loop) (s : Nat) (hs : s < g.many) (i : Nat) : ∃ j, i ≤ j ∧ (ni g.sets (ni (stem ++ loop) (EM stem.length (stem ++ loop).length j))).testBit s = true := by
 obtain ⟨a, ha, hb⟩ := w.bits s hs
 obtain ⟨k, hk, rfl⟩ := List.getElem_of_mem ha
 have hN : (stem ++ loop).length = stem.length + loop.length := List.length_append
 obtain ⟨j, hj, e⟩ := Wh (s := stem.length) (N := (stem ++ loop).length) (p := stem.length + k) (by omega) (by omega) i
 refine ⟨j, hj, ?_⟩
 rw [e, Ce (stem ++ loop) _ (by omega), List.getElem_append_right (by omega)]
 simpa using hb
theorem O0.start {g : Gn} {stem loop : List Nat} (w : O0 g stem loop) : ni (stem ++ loop) 0 < g.init := by
 have hlp := List.length_pos_iff.2 w.ne
 have hN : (stem ++ loop).length = stem.length + loop.length := List.length_append
 rw [Ce _ _ (by omega)]
 exact w.first _ (by rw [List.head?_eq_getElem?, List.getElem?_eq_getElem (by omega)])
theorem Ll {nx : Nat → List Nat} {n : Nat} {fr : List Nat} {ins wnt : Nat → Bool} {v : Nat} (hn : ∀ i, ∀ k ∈ nx i, k < n) (hfr : ∀ k ∈ fr, k < n) (h : Lp nx fr ins v) : wnt v = true → ∃ l, HO nx n fr ins wnt l := by
 have key : ∃ l, l.getLast? = some v ∧ (∀ a, l.head? = some a → a ∈ fr) ∧ Bj nx ins l ∧ ∀ a ∈ l, a < n := by
  induction h with
  | @base k h => exact ⟨[k], rfl, fun a ha => (by cases ha; exact h), trivial, fun a ha => (by rw [List.mem_singleton.1 ha]; exact hfr k h)⟩
  | @step j k _ e hi ih =>
    obtain ⟨l, h1, h2, h3, h4⟩ := ih
    have hne : l ≠ [] := fun e => by rw [e] at h1; cases h1
    refine ⟨l ++ [k], by simp, fun a ha => h2 a ?_, h3.app h1 ⟨⟨e, hi⟩, trivial⟩, fun a ha => ?_⟩
    · cases l with
      | nil => exact absurd rfl hne
      | cons x l => simpa using ha
    · rcases List.mem_append.1 ha with ha | ha
      · exact h4 a ha
      · rw [List.mem_singleton.1 ha]; exact hn _ _ e
 intro hw
 obtain ⟨l, h1, h2, h3, h4⟩ := key
 exact ⟨l, fun e => (by rw [e] at h1; cases h1), h2, h3, fun a ha => (by rw [h1] at ha; cases ha; exact hw), h4⟩
theorem Sz {g : Gn} (hok : g.ok) {h : Nat} (hh : h < g.spots.length) (hg : Ej g h) : ∃ stem loop, O0 g stem loop := by
 have hnx := fun i => g.nx_lt hok i
 have key : ∀ b, b ≤ g.many → ∃ l met, Hv g h b l met := by
  intro b
  induction b with
  | zero => intro _; exact ⟨_, _, Hv.start hh hg.2⟩
  | succ b ih =>
    intro hb
    obtain ⟨l, met, w⟩ := ih (by omega)
    obtain ⟨a, ha⟩ : ∃ a, l.getLast? = some a := ⟨_, List.getLast?_eq_some_getLast w.ne⟩
    obtain ⟨h1, h2⟩ := w.ins a (List.mem_of_getLast? ha)
    obtain ⟨v, h3, h4⟩ := OI hok hg.2 h1 h2 (show b < g.many by omega)
    obtain ⟨l2, h5⟩ := Ll (wnt := fun k => (ni g.sets k).testBit b) hnx (fun k hk => by rw [List.mem_singleton.1 hk]; exact h1) h3 h4
    obtain ⟨t, rfl⟩ := h5.cons
    exact ⟨_, 0, w.join (met' := 0) ha h5 fun s hs => by simp at hs⟩
 obtain ⟨l, met, w⟩ := key g.many (Nat.le_refl _)
 obtain ⟨a, ha⟩ : ∃ a, l.getLast? = some a := ⟨_, List.getLast?_eq_some_getLast w.ne⟩
 obtain ⟨h1, h2⟩ := w.ins a (List.mem_of_getLast? ha)
 obtain ⟨k, hk, hki⟩ := Li hok hg.2 h1 h2
 have hkn := hnx _ _ hk
 have hkh : ni (A1 g) k = h := of_decide_eq_true hki
 have hin := hok.init
 obtain ⟨ws, hs⟩ := Ll (n := g.spots.length) (wnt := fun k => decide (k = h)) hnx (fun k hk => by have := List.mem_range.1 hk; omega) (L8 hg.1) (decide_eq_true rfl)
 obtain ⟨w2, hv⟩ := Ll (n := g.spots.length) (wnt := fun k => decide (k = h)) hnx (fun j hj => by rw [List.mem_singleton.1 hj]; exact hkn) (Ly hok hh hg.2 hkn hkh) (decide_eq_true rfl)
 exact ⟨_, _, w.fits ha hk hki hs hv⟩
end Go.Sp
