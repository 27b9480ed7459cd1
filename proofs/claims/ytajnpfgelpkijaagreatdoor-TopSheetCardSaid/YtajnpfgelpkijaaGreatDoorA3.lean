/- A bundle of this claim's own texts: E3 E4 E5 E6. -/
import Derived.Laws.BitsLemmas
import Derived.Laws.BytesString
import Derived.Lib.AppendZerosOnto
import Derived.Lib.SliceRun
import Derived.Laws.IdiomStrings
import Derived.Test.YtajnpfgelpkijaaGreatDoorA1
set_option linter.unusedVariables false
set_option linter.unusedSimpArgs false
set_option maxRecDepth 100000
set_option maxHeartbeats 4000000
namespace Go.Av
open Go

section
variable {k : Kx} {Q : Exit → Env → H → Prop} {ρ ρ' : Env} {h h1 h2 : H} {ops : Array Oper} {l : List Oper} {d : Nat} {dst : Option Tmp} {ty : TypeId} {pos : String} {after : Array Edge} {g : Option (Nat × Bool)} {e1 e2 e3 e4 : Ent}
theorem K0 {r : AV} (hs : r.flat = true) : r.cl = [r] ∧ r.stor = true := by cases r <;> first | exact ⟨rfl, hs⟩ | cases hs
theorem Yn {T T0 : TypeId} {x y : Operand} {b off : Nat} {r : AV} {vs : List AV} {z : Value} {eb : Nat} (hx : evO ρ x = some (.val (.pointer (some ⟨b, off, none⟩)))) (hy : evO ρ y = some r) (hs : r.flat = true) (hE : El k.P T z 1 eb) (hh : h = h1 ++ .cells b T0 vs :: h2) (hl : off < vs.length)
 (hj : JL k ops l Q ρ (h1 ++ .cells b T0 (vs.set off r) :: h2)) : JL k ops (⟨none, .store T x y, ty, pos, after, none⟩ :: l) Q ρ h := by
 obtain ⟨hcl, hst⟩ := K0 hs
 refine HH (off := off) (r := r) (vs := vs) (AA hx) (AA hy) hst hE (by rw [hcl]; rfl) hh (by rw [hcl]; simp; omega) ?_
 rw [hcl, Fj _ _ _ hl]
 exact hj
theorem dQ {α : Type} {f : α → AV} {T T0 : TypeId} {x y : Operand} {b off : Nat} {a : α} {vs : List α} {z : Value} {eb : Nat} (hx : evO ρ x = some (.val (.pointer (some ⟨b, off, none⟩)))) (hh : h = h1 ++ .cells b T0 (vs.map f) :: h2) (hy : evO ρ y = some (f a)) (hs : (f a).flat = true) (hE : El k.P T z 1 eb) (hl : off < vs.length)
 (hj : JL k ops l Q ρ (h1 ++ .cells b T0 ((vs.set off a).map f) :: h2)) : JL k ops (⟨none, .store T x y, ty, pos, after, none⟩ :: l) Q ρ h := by
 refine Yn hx hy hs hE hh (by simpa using hl) ?_
 rw [List.map_set] at hj
 exact hj
theorem Xu {T : TypeId} {z : Value} {eb : Nat} (hz : El k.P T z 1 eb) (h1 : z.oneCell' = true) (hd : Nat.blt d k.n = true)
 (hj : All fun b => JL k ops l Q ((d, .val (.pointer (some ⟨b, 0, none⟩))) :: ρ) (.cells b T [.val z] :: h)) : JL k ops (⟨some d, .alloc T, ty, pos, after, none⟩ :: l) Q ρ h := PX hz h1 hd hj.get
theorem jmk {α : Type} (f : α → AV) (a : α) {z : Value} {T E : TypeId} {x : Operand} {n : Nat} {eb : Nat} (hx : evO ρ x = some (.int n)) (hT : k.P.underlying T = some (.slice E)) (hz : El k.P E z 1 eb) (hz1 : z.oneCell' = true) (hf : f a = .val z) (hb : eb * n ≤ 281474976710656) (hm : n ≤ 9223372036854775807) (hd : Nat.blt d k.n = true)
 (hj : All fun b => JL k ops l Q ((d, .val (.slice (some ⟨b, 0, none⟩) n n)) :: ρ) (.cells b E ((List.replicate n a).map f) :: h)) : JL k ops (⟨some d, .makeSlice T x x, ty, pos, after, none⟩ :: l) Q ρ h :=
 Ub hT hz hz1 (AA hx) hb hm (fun t ht => by cases ht; exact blt hd) fun b => by have := hj.get b; rwa [List.map_replicate, hf] at this
theorem Zf {T E : TypeId} {x : Operand} {n : Nat} {eb : Nat} (hx : evO ρ x = some (.int n)) (hT : k.P.underlying T = some (.slice E)) (hz : El k.P E (.bool false) 1 eb) (hb : eb * n ≤ 281474976710656) (hm : n ≤ 9223372036854775807) (hd : Nat.blt d k.n = true)
 (hj : All fun b => JL k ops l Q ((d, .val (.slice (some ⟨b, 0, none⟩) n n)) :: ρ) (.cells b E ((List.replicate n false).map AV.bool) :: h)) : JL k ops (⟨some d, .makeSlice T x x, ty, pos, after, none⟩ :: l) Q ρ h :=
 jmk AV.bool false hx hT hz rfl rfl hb hm hd hj
theorem cB {T E : TypeId} {x : Operand} {n : Nat} {eb : Nat} (hx : evO ρ x = some (.int n)) (hT : k.P.underlying T = some (.slice E)) (hz : El k.P E (.int .i64 0) 1 eb) (hb : eb * n ≤ 281474976710656) (hm : n ≤ 9223372036854775807) (hd : Nat.blt d k.n = true)
 (hj : All fun b => JL k ops l Q ((d, .val (.slice (some ⟨b, 0, none⟩) n n)) :: ρ) (.cells b E ((List.replicate n 0).map AV.int) :: h)) : JL k ops (⟨some d, .makeSlice T x x, ty, pos, after, none⟩ :: l) Q ρ h :=
 jmk AV.int 0 hx hT hz rfl rfl hb hm hd hj
end

theorem ER (n : Int) (h0 : 0 ≤ n) (h1 : n < 2 ^ 63) : IntKind.i64.wrap n = n := GV (by unfold Aj; omega)
theorem eD {m : Int} (h0 : 0 ≤ m) (h1 : m ≤ 9223372036854775807) : bits .and .i64 m 1 = m % 2 := bits_mask .i64 63 (by decide) ER 1 (by decide) m h0 (by omega)
theorem cU {x y : Int} (j : Nat) (hx0 : 0 ≤ x) (hx : x < 2 ^ j) (hy0 : 0 ≤ y) (hy : y % 2 ^ j = 0) (hj : (2 : Int) ^ j < 2 ^ 63) (hy1 : y < 2 ^ 63) : bits .or .i64 x y = x + y := by
 obtain ⟨a, rfl⟩ := Int.eq_ofNat_of_zero_le hx0
 obtain ⟨b, rfl⟩ := Int.eq_ofNat_of_zero_le hy0
 have ha : a < 2 ^ 63 := by have := Int.lt_trans hx hj; exact_mod_cast this
 have hb : b < 2 ^ 63 := by exact_mod_cast hy1
 have e1 := (bits_nat .i64 63 (by decide) ER a b ha hb).2
 have e2 := (bits_nat .i64 63 (by decide) ER b a hb ha).2
 have e3 := bits_join .i64 63 (by decide) ER j (b : Int) (a : Int) hy0 hy hy1 hx0 hx (Int.lt_trans hx hj)
 rw [e2] at e3
 rw [e1, Nat.or_comm, e3, Int.add_comm]
theorem vfz {α : Type} {f : α → List D} {g : α → AV} {xs : List α} {ρ : Env} {h h1 h2 : H} {t b n : Nat} {E : TypeId} (sz eb : Nat) (h0 : Nat.blt 0 sz = true) (ht : FV ρ t = some (.val (.slice (some ⟨b, 0, none⟩) n n))) (hh : h = h1 ++ .cells b E (xs.map g) :: h2)
 (hv : xs.map g = ((xs.map f).flatten).map D.av) (hn : xs.length = n) (hsz : ∀ a, (f a).length = sz) (hb : n * eb ≤ 140737488355328) (hm : n ≤ 140737488355328) : VS ρ h ((t, .d (.l sz eb (xs.map f))) :: ρ) [] :=
 VS.trans (VS.freezeCells (blt h0) (A9 ht) hh hv (by simpa using hn) (fun r hr => by obtain ⟨a, _, rfl⟩ := List.mem_map.1 hr; exact hsz a) hb (by simpa [maxLen] using Nat.le_trans hm (by decide))) (VS.drop (List.nil_sublist _))

def Mj (tmps : Array Value) : ResultVar → Sem Value
 | .tmp t => pure (tmps.getD t undef)
 | .cell a t => do loadVar t (← asAddr (tmps.getD a undef))
def RV1 (P : Program) (G : List (Nat × List D)) (ρ : Env) (h : H) (r : ResultVar) (x : AV) : Prop :=
 ∀ (c : Cx) (I : Nat → Prop) (n : Nat) (a : Act) (w : World), c.G = G → Ok c I h w → SF n w I ρ a → ∃ v, AV.rel w I x v ∧ (Mj a.tmps r).run P w = .ok v w
def RVs (P : Program) (G : List (Nat × List D)) (ρ : Env) (h : H) : List ResultVar → List AV → Prop
 | [], [] => True
 | r :: rs, x :: xs => RV1 P G ρ h r x ∧ RVs P G ρ h rs xs
 | _, _ => False
def Ja : List AV → AV
 | [x] => x
 | xs => .tup xs
theorem EH {P : Program} {G : List (Nat × List D)} {ρ : Env} {h : H} {c : Cx} {I : Nat → Prop} {n : Nat} {a : Act} {w : World} (hG : c.G = G) (k : Ok c I h w) (s : SF n w I ρ a) : ∀ {rs : List ResultVar} {xs : List AV}, RVs P G ρ h rs xs →
 ∃ vs, (List.mapM (Mj a.tmps) rs).run P w = .ok vs w ∧ AV.rels w I xs vs
 | [], [], _ => ⟨[], rfl, trivial⟩
 | r :: rs, x :: xs, ⟨h1, h2⟩ => by
   obtain ⟨v, e1, e2⟩ := h1 c I n a w hG k s
   obtain ⟨vs, f1, f2⟩ := EH hG k s h2
   refine ⟨v :: vs, ?_, e1, f2⟩
   rw [List.mapM_cons]
   simp only [Sem.run_bind, Sem.run_pure, Result.andThen_ok, e2, f1]
theorem GB {P : Program} {fn : Func} {rs : List ResultVar} (hr : fn.results = rs.toArray) {tmps : Array Value} {w : World} {vs : List Value} (hm : (List.mapM (Mj tmps) rs).run P w = .ok vs w) :
 (results fn tmps).run P w = .ok (if h : vs.toArray.size = 1 then vs.toArray[0] else .tuple vs.toArray) w := by
 have e : (fun (x : ResultVar) => (match x with | .tmp t => pure (tmps.getD t undef) | .cell a t => do loadVar t (← asAddr (tmps.getD a undef)) : Sem Value)) = Mj tmps := by
  funext x; cases x <;> rfl
 unfold results
 rw [hr]
 simp only [List.mapM_toArray, Sem.run_bind, Sem.run_map]
 erw [e]
 rw [hm]
 rfl
def Zu (P : Program) (G : List (Nat × List D)) (rs : List ResultVar) (Q : AE → H → Prop) (e : Exit) (ρ : Env) (h : H) : Prop :=
 match e with
 | .normal => ∃ ρ1 h1 xs h', VS ρ h ρ1 h1 ∧ RVs P G ρ1 h1 rs xs ∧ List.Sublist h' h1 ∧ Q (.ret (Ja xs)) h'
 | .ret => ∃ ρ1 h1 xs h', VS ρ h ρ1 h1 ∧ RVs P G ρ1 h1 rs xs ∧ List.Sublist h' h1 ∧ Q (.ret (Ja xs)) h'
 | .panic ch => Q (.pan ch) h
 | _ => False
theorem Pf {w : World} {I : Nat → Prop} {xs : List AV} {vs : List Value} (h : AV.rels w I xs vs) : AV.rel w I (Ja xs) (if h : vs.toArray.size = 1 then vs.toArray[0] else .tuple vs.toArray) := by
 match xs, vs, h with
 | [], [], _ => exact ⟨[], rfl, trivial⟩
 | [x], [v], h => exact h.1
 | x :: y :: xs, u :: v :: vs, h =>
   rw [dif_neg (by simp)]
   exact ⟨_, rfl, h⟩
theorem Ok.sub {c : Cx} {I : Nat → Prop} {h h' : H} {w : World} (h1 : Ok c I h w) (hs : List.Sublist h' h) : Ok c I h' w :=
 { ent := fun e he => h1.ent e (hs.subset he), nd := h1.nd.sublist (BG hs), imm := fun b hb => ⟨(h1.imm b hb).1, fun hm => (h1.imm b hb).2 ((BG hs).subset hm)⟩,
   new := fun b hb => h1.new b ((BG hs).subset hb), inew := h1.inew, sup := h1.sup, os := h1.os, tape := h1.tape, output := h1.output, size := h1.size, keep := h1.keep, glob := h1.glob }
theorem Et {P : Program} {G : List (Nat × List D)} {f : FuncId} {fn : Func} {c : Code} {args : List AV} {h : H} {Q : AE → H → Prop} {rs : List ResultVar} (n : Nat) (hf : P.funcs[f]? = some fn) (hb : fn.body = some c) (hn : fn.ntmps = n) (hr : fn.results = rs.toArray) (ha : args.length ≤ n)
 (hj : ∀ W I, J ⟨P, ⟨W, I, blks h, G⟩, n, []⟩ c (Zu P G rs Q) (Ch 0 args) h) : AC P G f args h Q := by
 intro I W vs h1 h2 h3 hG h4
 have hlen := AV.rels_length h4
 refine calls_of_wp hf hb ?_
 have hok : Ok ⟨W, I, blks h, G⟩ I h W :=
  { ent := h1, nd := h2, imm := h3, new := fun b hb => .inl hb, inew := fun b hb => .inl hb, sup := fun b hb => hb, os := rfl, tape := rfl, output := rfl, size := Nat.le_refl _, keep := fun _ _ _ => rfl, glob := hG }
 have hsf : SF n W I (Ch 0 args) { tmps := vs.toArray ++ Array.replicate (fn.ntmps - vs.toArray.size) undef, defers := [] } := by
  refine ⟨by simp [hn]; omega, fun t => ?_⟩
  have := DN W I args vs 0 t h4
  simp only [Nat.zero_le, if_true, Nat.sub_zero] at this
  have e : (vs.toArray ++ Array.replicate (fn.ntmps - vs.toArray.size) undef).getD t undef = (vs[t]?).getD undef := by
   rw [Array.getD_eq_getD_getElem?, Array.getElem?_append]
   by_cases ht : t < vs.length
   · simp [ht]
   · simp only [List.size_toArray, ht, if_false]
     rw [List.getElem?_eq_none (by omega)]
     simp only [Array.getElem?_replicate]
     split <;> rfl
  rw [e]; exact this
 refine wp_mono (hj W I I _ W hok hsf rfl) ?_
 rintro e a w ⟨I', ρ', h', k1, k2, k3, k4⟩
 have fin : (∃ ρ1 h1 xs h'', VS ρ' h' ρ1 h1 ∧ RVs P G ρ1 h1 rs xs ∧ List.Sublist h'' h1 ∧ Q (.ret (Ja xs)) h'') → ∃ v, (results fn a.tmps).run P w = .ok v w ∧ Gq G W I h Q (.returned v) w := by
  rintro ⟨ρ1, hh1, xs, h'', v, hrv, hsub, hq⟩
  obtain ⟨I1, m1, m2⟩ := v _ _ _ _ _ k1 k2
  obtain ⟨us, e1, e2⟩ := EH rfl m1 m2 hrv
  exact ⟨_, GB hr e1, _, h'', I1, hq, m1.sub hsub, Pf e2⟩
 cases e with
 | normal => obtain ⟨v, e1, e2⟩ := fin k4; exact ⟨k3, v, e1, e2⟩
 | ret => obtain ⟨v, e1, e2⟩ := fin k4; exact ⟨k3, v, e1, e2⟩
 | panic ch => exact ⟨k3, _, h', I', k4, k1, rfl⟩
 | exit _ => exact k4.elim
 | goto _ => exact k4.elim
 | outgrown => exact k4.elim
theorem Jt {P : Program} {G : List (Nat × List D)} {rs : List ResultVar} {Q : AE → H → Prop} {e : Exit} {ρ ρ1 : Env} {h h1 h' : H} {xs : List AV} (v : VS ρ h ρ1 h1) (hrv : RVs P G ρ1 h1 rs xs) (he : O2 e = true) (hs : List.Sublist h' h1) (hq : Q (.ret (Ja xs)) h') : Zu P G rs Q e ρ h := by
 cases e <;> first | exact ⟨ρ1, h1, xs, h', v, hrv, hs, hq⟩ | cases he
theorem ck {P : Program} {G : List (Nat × List D)} {rs : List ResultVar} {Q : AE → H → Prop} {e : Exit} {ρ : Env} {h h' : H} {xs : List AV} (hrv : RVs P G ρ h rs xs) (he : O2 e = true) (hs : List.Sublist h' h) (hq : Q (.ret (Ja xs)) h') : Zu P G rs Q e ρ h :=
 Jt (VS.of_le (Env.le_refl _)) hrv he hs hq
section
variable {P : Program} {G : List (Nat × List D)} {ρ : Env} {h : H}
theorem Eg {t : Nat} {x : AV} (hx : FV ρ t = some x) : RV1 P G ρ h (.tmp t) x := fun _ I _ a w _ _ s => ⟨a.tmps.getD t undef, by have := s.2 t; rw [A9 hx] at this; exact this, rfl⟩
theorem CI {r T b : Nat} {T0 : TypeId} {vs : List AV} {z : Value} {sz eb : Nat} (hT : A0 P T = some true) (hE : El P T z sz eb) (hx : FV ρ r = some (.val (.pointer (some ⟨b, 0, none⟩)))) (hm : Ent.cells b T0 vs ∈ h) (hn : sz = vs.length) : RV1 P G ρ h (.cell r T) (.agg vs) := fun _ I _ a w _ k s => by
 obtain ⟨i, hi, _, rfl, _⟩ := hE.get
 obtain ⟨cs, hc1, hc2⟩ := k.ent _ hm
 have hlen : cs.toList.length = vs.length := (AV.rels_length hc2).symm
 refine ⟨.agg cs.toList.toArray, ⟨_, rfl, hc2⟩, ?_⟩
 have e1 := AI (s.2 r) (A9 hx)
 have hload := run_loadCells_list (P := P) w ⟨b, 0, none⟩ cs.toList fun j v hv => by
  rw [Addr.add_lit, Nat.zero_add, cell_of_row w b j cs T0 (0, 0) hc1]
  simpa using hv
 have hsz : cs.toList.length = i.size := by rw [hlen, hn]
 rw [hsz] at hload
 rw [Array.getD_eq_getD_getElem?] at e1
 simp [Mj, e1, asAddr, loadVar, B2 hT, sizeOf, typeInfo, hi, hload]
end

mutual
inductive Cv (v : Value) (d : D) : AV → AV → Prop where
 | same (x : AV) : Cv v d x x
 | here : Cv v d (.val v) (.d d)
 | agg {xs ys : List AV} (h : Cvs v d xs ys) : Cv v d (.agg xs) (.agg ys)
inductive Cvs (v : Value) (d : D) : List AV → List AV → Prop where
 | nil : Cvs v d [] []
 | cons {x y : AV} {xs ys : List AV} (h1 : Cv v d x y) (h2 : Cvs v d xs ys) : Cvs v d (x :: xs) (y :: ys)
end
mutual
theorem Cv.rel {v : Value} {d : D} {w : World} {I : Nat → Prop} (hr : Rel w I d v) : ∀ {x y : AV} {u : Value}, Cv v d x y → AV.rel w I x u → AV.rel w I y u
 | _, _, _, .same x, h => h
 | _, _, _, .here, h => by cases h; exact hr
 | _, _, _, .agg hc, ⟨vs, h1, h2⟩ => ⟨vs, h1, Cvs.rel hr hc h2⟩
theorem Cvs.rel {v : Value} {d : D} {w : World} {I : Nat → Prop} (hr : Rel w I d v) : ∀ {xs ys : List AV} {us : List Value}, Cvs v d xs ys → AV.rels w I xs us → AV.rels w I ys us
 | [], [], us, .nil, h => h
 | _ :: _, _ :: _, u :: us, .cons h1 h2, ⟨g1, g2⟩ => ⟨Cv.rel hr h1 g1, Cvs.rel hr h2 g2⟩
end
def CvE (v : Value) (d : D) (ρ ρ' : Env) : Prop := ∀ t, Cv v d (get ρ t) (get ρ' t)
theorem CvE.refl (v : Value) (d : D) (ρ : Env) : CvE v d ρ ρ := fun _ => .same _
theorem CvE.cons {v : Value} {d : D} {ρ ρ' : Env} {t : Nat} {x y : AV} (hx : FV ρ t = some x) (hc : Cv v d x y) (h : CvE v d ρ ρ') : CvE v d ρ ((t, y) :: ρ') := fun s => by
 simp only [get]
 cases hb : Nat.beq t s with
 | true => rw [← Nat.eq_of_beq_eq_true hb, A9 hx]; exact hc
 | false => exact h s
inductive CvH (v : Value) (d : D) : H → H → Prop where
 | refl (h : H) : CvH v d h h
 | keep {e : Ent} {h h' : H} (k : CvH v d h h') : CvH v d (e :: h) (e :: h')
 | cells {b : Nat} {T : TypeId} {vs vs' : List AV} {h h' : H} (hc : Cvs v d vs vs') (k : CvH v d h h') : CvH v d (.cells b T vs :: h) (.cells b T vs' :: h')
 | row {u : Value} {n : Nat} {T : TypeId} {sz : Nat} {vs vs' : List AV} {h h' : H} (hc : Cvs v d vs vs') (k : CvH v d h h') : CvH v d (.row u n T sz vs :: h) (.row u n T sz vs' :: h')
theorem CvH.blks {v : Value} {d : D} {h h' : H} (k : CvH v d h h') : blks h' = blks h := by
 induction k with
 | refl h => rfl
 | keep k ih => rename_i e _ _; simp only [Av.blks, List.filterMap_cons] at ih ⊢; rw [ih]
 | cells hc k ih => simp only [Av.blks, List.filterMap_cons, Ent.blk] at ih ⊢; rw [ih]
 | row hc k ih => simp only [Av.blks, List.filterMap_cons, Ent.blk] at ih ⊢; rw [ih]
theorem CvH.ent {v : Value} {d : D} {w : World} {I : Nat → Prop} (hr : Rel w I d v) {h h' : H} (k : CvH v d h h') : (∀ e ∈ h, e.rel w I) → ∀ e ∈ h', e.rel w I := by
 induction k with
 | refl h => exact fun h => h
 | keep k ih =>
   intro hh e he
   rcases List.mem_cons.1 he with rfl | he
   · exact hh _ (by simp)
   · exact ih (fun e he => hh e (by simp [he])) e he
 | cells hc k ih =>
   intro hh e he
   rcases List.mem_cons.1 he with rfl | he
   · obtain ⟨cs, h1, h2⟩ := hh _ List.mem_cons_self
     exact ⟨cs, h1, hc.rel hr h2⟩
   · exact ih (fun e he => hh e (by simp [he])) e he
 | row hc k ih =>
   intro hh e he
   rcases List.mem_cons.1 he with rfl | he
   · obtain ⟨cs, h1, h2⟩ := hh _ List.mem_cons_self
     exact ⟨cs, h1, hc.rel hr h2⟩
   · exact ih (fun e he => hh e (by simp [he])) e he
theorem Ok.conv {c : Cx} {I : Nat → Prop} {h h' : H} {w : World} {v : Value} {d : D} (k : Ok c I h w) (hr : Rel w I d v) (hc : CvH v d h h') : Ok c I h' w :=
 { ent := hc.ent hr k.ent, nd := hc.blks ▸ k.nd, imm := fun b hb => hc.blks ▸ k.imm b hb, new := fun b hb => k.new b (hc.blks ▸ hb), inew := k.inew, sup := k.sup, os := k.os, tape := k.tape, output := k.output, size := k.size, keep := k.keep, glob := k.glob }
theorem SF.conv {n : Nat} {w : World} {I : Nat → Prop} {ρ ρ' : Env} {a : Act} {v : Value} {d : D} (f : SF n w I ρ a) (hr : Rel w I d v) (hc : CvE v d ρ ρ') : SF n w I ρ' a := ⟨f.1, fun t => (hc t).rel hr (f.2 t)⟩

theorem cT {c : Cx} {I : Nat → Prop} {w : World} {v : Value} {n : Nat} {E : TypeId} {sz : Nat} (eb : Nat) {rows : List (List D)} {h1 h2 : H} (k1 : Ok c I (h1 ++ .row v n E sz (rows.flatten.map D.av) :: h2) w) (h0 : 0 < sz) (hn : rows.length = n) (hsz : ∀ r ∈ rows, r.length = sz) (hb : n * eb ≤ 140737488355328) :
 ∃ I' : Nat → Prop, Ok c I' (h1 ++ h2) w ∧ (∀ b, I b → I' b) ∧ Rel w I' (.l sz eb rows) v := by
 obtain ⟨os, ho, hos⟩ := k1.ent (.row v n E sz (rows.flatten.map D.av)) (by simp)
 rcases ho.2 with ⟨rfl, rfl⟩ | ⟨g, cap, cur, rfl, _, hg, hnc, hcm, hcs, htake⟩
 · have : rows = [] := List.eq_nil_of_length_eq_zero hn
   subst this
   have hok : Ok c I (h1 ++ h2) w := by
    have hbe : blks (h1 ++ Ent.row (.slice none 0 0) 0 E sz (List.map D.av [].flatten) :: h2) = blks (h1 ++ h2) := by rw [AY, AY]; rfl
    exact { ent := fun e he => k1.ent e (((List.sublist_cons_self _ h2).append_left h1).subset he), nd := hbe ▸ k1.nd, imm := fun b hb => hbe ▸ k1.imm b hb, new := fun b hb => k1.new b (hbe ▸ hb), inew := k1.inew, sup := k1.sup, os := k1.os, tape := k1.tape, output := k1.output, size := k1.size, keep := k1.keep, glob := k1.glob }
   exact ⟨I, hok, fun _ h => h, .nil sz eb⟩
 · have hok := k1.release (b := g) (e := .row (.slice (some ⟨g, 0, none⟩) n cap) n E sz (rows.flatten.map D.av)) rfl
   refine ⟨_, hok, fun _ h => .inl h, ?_⟩
   subst hn
   have hcell : ∀ q x, rows.flatten[q]? = some x → ∃ c, w.cell? ((⟨g, 0, none⟩ : Addr).add q) = some c ∧ Rel w I x c := fun q x hx => by
    obtain ⟨c, hc1, hc2⟩ := AV.rels_get hos q x.av (by rw [List.getElem?_map, hx]; rfl)
    exact ⟨c, ho.cells (g := g) rfl q c hc1, D.av_rel' hc2⟩
   have hq : ∀ (j u : Nat) (r : List D) (x : D), rows[j]? = some r → r[u]? = some x → rows.flatten[j * sz + u]? = some x := fun j u r x hr hx => by
    have hu : u < sz := by
     have := (List.getElem?_eq_some_iff.1 hx).1
     rwa [hsz r (List.mem_of_getElem? hr)] at this
    rw [CP h0 rows hsz, Nat.add_comm, Nat.add_mul_div_right _ _ h0, Nat.add_mul_mod_self_right, Nat.div_eq_of_lt hu, Nat.mod_eq_of_lt hu, Nat.zero_add, hr]
    exact hx
   refine .l sz eb rows ⟨g, 0, none⟩ cap (fun j u => (w.cell? ((⟨g, 0, none⟩ : Addr).add (j * sz + u))).getD undef) (.inr rfl) hnc hcm hb hsz (fun j u r x hr hx => ?_) (fun j u r x hr hx => ?_)
   · obtain ⟨c, hc1, _⟩ := hcell _ x (hq j u r x hr hx)
     simp only [hc1, Option.getD_some]
   · obtain ⟨c, hc1, hc2⟩ := hcell _ x (hq j u r x hr hx)
     simp only [hc1, Option.getD_some]
     exact hc2.mono (fun _ _ => rfl) fun _ h => .inl h
theorem Gh {α : Type} {f : α → List D} {xs : List α} {ρ ρ' : Env} {h h1 h2 h' : H} {v : Value} {E : TypeId} {sz : Nat} (eb : Nat) (h0 : Nat.blt 0 sz = true) (hh : h = h1 ++ AF v E sz f xs :: h2) (hsz : ∀ a, (f a).length = sz) (hb : xs.length * eb ≤ 140737488355328)
 (hρ : CvE v (.l sz eb (xs.map f)) ρ ρ') (hH : CvH v (.l sz eb (xs.map f)) (h1 ++ h2) h') : VS ρ h ρ' h' := by
 subst hh
 intro c I m a w k1 k2
 obtain ⟨I', g1, g2, g3⟩ := cT eb k1 (blt h0) (by simp) (fun r hr => by obtain ⟨a, _, rfl⟩ := List.mem_map.1 hr; exact hsz a) hb
 exact ⟨I', g1.conv g3 hH, (k2.wider g2).conv g3 hρ⟩

def Bls (P : Program) (t : TypeId) (zs : List Value) (pl : List (Nat × Nat)) : Prop :=
 (match P.info? t, P.underlying t with
 | some it, some (.struct fields) =>
   match it.zero, fields.toList.mapM (fun f => (P.info? f.type).map fun i => (f.offset, i.size)) with
   | some z, some places => some (z.cells.toList, places)
   | _, _ => none
 | _, _ => none) = some (zs, pl)
theorem Bls.built {P : Program} {t : TypeId} {zs : List Value} {pl : List (Nat × Nat)} (h : Bls P t zs pl) (parts : List (Nat × Value)) : P.built t parts = Instr.fill (pl.toArray[·]?) zs.toArray parts := by
 unfold Bls at h
 unfold Program.built
 cases h1 : P.info? t with
 | none => rw [h1] at h; cases h
 | some it =>
   cases h2 : P.underlying t with
   | none => rw [h1, h2] at h; cases h
   | some d =>
     cases d with
     | struct fields =>
       rw [h1, h2] at h
       dsimp only at h ⊢
       cases h3 : it.zero with
       | none => rw [h3] at h; cases h
       | some z =>
         cases h4 : fields.toList.mapM (fun f => (P.info? f.type).map fun i => (f.offset, i.size)) with
         | none => rw [h3, h4] at h; cases h
         | some places =>
           rw [h3, h4] at h
           simp only [Option.some.injEq, Prod.mk.injEq] at h
           obtain ⟨h5, rfl⟩ := h
           subst h5
           rfl
     | _ => rw [h1, h2] at h; cases h
def Pp (pl : List (Nat × Nat)) : List AV → List (Nat × AV) → Option (List AV)
 | cs, [] => some cs
 | cs, (i, x) :: r =>
   match pl[i]? with
   | none => none
   | some p => bif Nat.beq x.cl.length p.2 && Nat.ble (p.1 + p.2) cs.length then Pp pl (setAt cs p.1 x.cl) r else none
inductive Z9 {α β : Type} (R : α → β → Prop) : List α → List β → Prop where
 | nil : Z9 R [] []
 | cons {a : α} {b : β} {as_ : List α} {bs : List β} (h : R a b) (t : Z9 R as_ bs) : Z9 R (a :: as_) (b :: bs)
theorem Rg {w : World} {I : Nat → Prop} {pl : List (Nat × Nat)} : ∀ {ps : List (Nat × AV)} {vs : List (Nat × Value)} {avs avs' : List AV} {cs : Array Value}, AV.rels w I avs cs.toList → Z9 (fun p q => p.1 = q.1 ∧ AV.rel w I p.2 q.2 ∧ p.2.stor = true) ps vs → Pp pl avs ps = some avs' →
 ∃ cs', Instr.fill (pl.toArray[·]?) cs vs = some cs' ∧ AV.rels w I avs' cs'.toList
 | [], [], avs, avs', cs, hr, _, hf => by cases hf; exact ⟨cs, rfl, hr⟩
 | (i, x) :: ps, (j, v) :: vs, avs, avs', cs, hr, .cons ⟨h1, h2, h3⟩ h4, hf => by
   cases h1
   simp only [Pp] at hf
   cases hp : pl[i]? with
   | none => rw [hp] at hf; cases hf
   | some p =>
     rw [hp] at hf
     dsimp only at hf
     cases hc : Nat.beq x.cl.length p.2 && Nat.ble (p.1 + p.2) avs.length with
     | false => rw [hc] at hf; cases hf
     | true =>
       rw [hc] at hf
       simp only [cond_true] at hf
       rw [Bool.and_eq_true] at hc
       have e1 := Nat.eq_of_beq_eq_true hc.1
       have e2 := Nat.le_of_ble_eq_true hc.2
       have hcl := MF h3 h2
       have hvl : v.cells.toList.length = x.cl.length := (AV.rels_length hcl).symm
       have hcs : cs.toList.length = avs.length := (AV.rels_length hr).symm
       have hsz : v.cells.size = p.2 := by rw [← e1, ← hvl]; simp
       have hfold := Me v.cells.toList 0 cs (cs.toList.take p.1) (cs.toList.drop p.1) (List.take_append_drop _ _).symm (by rw [List.length_drop, hcs, hvl, e1]; omega)
       have htl : (cs.toList.take p.1).length = p.1 := by rw [List.length_take, hcs]; omega
       rcases hfold with hfold | hfold
       case inr => omega
       rw [htl, Nat.sub_zero, List.drop_drop] at hfold
       have hstep : AV.rels w I (setAt avs p.1 x.cl) ((v.cells.zipIdx).foldl (fun cs q => cs.setIfInBounds (p.1 + q.2) q.1) cs).toList := by
        rw [← Array.foldl_toList, Array.toList_zipIdx, hfold]
        unfold setAt
        rw [hvl]
        exact AV.rels_append (AV.rels_append (C0 _ hr) hcl) (EV _ hr)
       obtain ⟨cs', g1, g2⟩ := Rg hstep h4 hf
       refine ⟨cs', ?_, g2⟩
       have hb : (v.cells.size ≠ p.2 || p.1 + v.cells.size > cs.size) = false := by
        refine Bool.or_eq_false_iff.2 ⟨by simp [hsz], decide_eq_false ?_⟩
        have : cs.size = avs.length := by rw [← hcs]; simp
        omega
       simp only [Instr.fill]
       have hpa : (pl.toArray)[i]? = some p := by simpa using hp
       rw [hpa]
       dsimp only
       rw [hb]
       exact g1
def LY (ρ : Env) : List (Nat × Operand) → Option (List (Nat × AV))
 | [] => some []
 | (i, x) :: r => (evO ρ x).bind fun a => (LY ρ r).bind fun as_ => some ((i, a) :: as_)
theorem L4 {n : Nat} {w : World} {I : Nat → Prop} {ρ : Env} {a : Act} (f : SF n w I ρ a) : ∀ {ps : List (Nat × Operand)} {xs : List (Nat × AV)}, LY ρ ps = some xs → xs.all (fun p => p.2.stor) = true → Z9 (fun p q => p.1 = q.1 ∧ AV.rel w I p.2 q.2 ∧ p.2.stor = true) xs (ps.map fun p => (p.1, a.eval p.2))
 | [], xs, h, _ => by cases h; exact .nil
 | (i, x) :: ps, xs, h, hs => by
   simp only [LY] at h
   cases h1 : evO ρ x with
   | none => rw [h1] at h; cases h
   | some r =>
     cases h2 : LY ρ ps with
     | none => rw [h1, h2] at h; cases h
     | some rs =>
       rw [h1, h2] at h
       cases h
       simp only [List.all_cons, Bool.and_eq_true] at hs
       refine .cons ⟨rfl, ?_, hs.1⟩ (L4 f h2 hs.2)
       have := f.ev x
       rw [AA h1] at this
       exact this
section
variable {P : Program} {G : List (Nat × List D)} {ρ : Env} {h : H} {dst : Option Tmp} {ty : TypeId} {pos : String} {after : Array Edge} {g : Option (Nat × Bool)}
theorem X6 {T : TypeId} {zs : List Value} {pl : List (Nat × Nat)} {parts : Array (Nat × Operand)} {xs : List (Nat × AV)} {cs : List AV} (hB : Bls P T zs pl) (hx : LY ρ parts.toList = some xs) (hs : xs.all (fun p => p.2.stor) = true) (hf : Pp pl (zs.map AV.val) xs = some cs) :
 Pure P G ⟨dst, .build T parts, ty, pos, after, g⟩ ρ h (.agg cs) :=
 AZ fun w I _ a k => by
  obtain ⟨cs', g1, g2⟩ := Rg (cs := zs.toArray) (by simpa using rels_vals w I zs) (L4 k hx hs) hf
  refine ⟨.agg cs', ⟨cs'.toList, by simp, g2⟩, fun w' => ?_⟩
  have e : (parts.map fun (i, x) => (i, a.eval x)).toList = parts.toList.map fun p => (p.1, a.eval p.2) := by simp
  have := run_build (P := P) w' T (parts.map fun (i, x) => (i, a.eval x)) cs' (by rw [hB.built, e]; exact g1)
  simp [execOp, this]

def Bb (b : UInt8) : List D := [.i .u8 b.toNat]
abbrev TH (l : List UInt8) : D := .l 1 1 (l.map Bb)
abbrev AV.byte (b : UInt8) : AV := .val (.int .u8 (b.toNat : Int))
theorem UE {T E E' : TypeId} {x : Operand} {v : Value} {n sz : Nat} {xs : List AV} (hT : P.underlying T = some (.slice E')) (hx : evO ρ x = some (.val v)) (hm : Ent.row v n E sz xs ∈ h) : Pure P G ⟨dst, .call { callee := .builtin .len, args := #[x], argTypes := #[T] }, ty, pos, after, g⟩ ρ h (.int n) := by
 intro c I m a w _ k s
 have e1 := AI (s.ev x) (AA hx)
 refine ⟨_, rfl, fun w' _ => ?_⟩
 obtain ⟨us, ho, _⟩ := k.ent _ hm
 rcases ho.2 with ⟨rfl, rfl⟩ | ⟨g, cap, cur, rfl, _⟩
 · simp [execOp, resolve, invoke, builtin, e1, Builtin.len_, run_underlying hT, goInt]
 · simp [execOp, resolve, invoke, builtin, e1, Builtin.len_, run_underlying hT, goInt]
end
section
variable {k : Kx} {Q : Exit → Env → H → Prop} {ρ ρ' : Env} {h h1 h2 : H} {ops : Array Oper} {l : List Oper} {d : Nat} {dst : Option Tmp} {ty : TypeId} {pos : String} {after : Array Edge} {g : Option (Nat × Bool)}
theorem bV {α : Type} (f : α → List D) {T E : TypeId} {z : Value} {sz eb : Nat} (hT : k.P.underlying T = some (.slice E)) (he : El k.P E z sz eb) (hd : Nat.blt d k.n = true)
 (hj : All fun v => JL k ops l Q ((d, .val v) :: ρ) (AF v E sz f [] :: h)) : JL k ops (⟨some d, .buildSlice T 0 #[], ty, pos, after, none⟩ :: l) Q ρ h := by
 obtain ⟨i, hi, hz0, hz1, _⟩ := he.get
 refine DT rfl (fun t ht => by cases ht; exact blt hd) fun I a w k1 k2 => ?_
 refine ⟨.slice (some ⟨w.heap.size, 0, none⟩) 0 0, w.alloc (.cells #[] E), I, .val (.slice (some ⟨w.heap.size, 0, none⟩) 0 0), _, ?_, k1.fresh _ (AF (.slice (some ⟨w.heap.size, 0, none⟩) 0 0) E sz f []) rfl ?_, k2.fresh k1 _, rfl, hj.get _⟩
 · simp [execOp, Instr.buildSlice, run_underlying hT, sizeOf, typeInfo, hi, Instr.fill, newRow]
   have : Array.range 0 = #[] := by apply Array.ext'; simp
   rw [this, Array.map_empty]
 · refine ⟨[], ⟨by simp, .inr ⟨w.heap.size, 0, #[], rfl, by simp, heap_alloc_new w _, ?_⟩⟩, trivial⟩
   simp
end

section
variable {k : Kx} {Q : Exit → Env → H → Prop} {ρ ρ' : Env} {h h1 h2 : H} {ops : Array Oper} {l : List Oper} {d : Nat} {dst : Option Tmp} {ty : TypeId} {pos : String} {after : Array Edge} {g : Option (Nat × Bool)} {e1 e2 e3 e4 e5 e6 : Ent}
theorem ZD {T T0 : TypeId} {x y : Operand} {b : Nat} {cs vs : List AV} {z : Value} {sz eb : Nat} (hx : evO ρ x = some (.val (.pointer (some ⟨b, 0, none⟩)))) (hy : evO ρ y = some (.agg cs)) (hs : cs.all AV.flat = true) (hE : El k.P T z sz eb) (hn : sz = cs.length) (hl : vs.length = cs.length) (hh : h = h1 ++ .cells b T0 vs :: h2)
 (hj : JL k ops l Q ρ (h1 ++ .cells b T0 cs :: h2)) : JL k ops (⟨none, .store T x y, ty, pos, after, none⟩ :: l) Q ρ h := by
 refine HH (off := 0) (r := .agg cs) (vs := vs) (AA hx) (AA hy) hs hE hn hh (by simp [AV.cl, hl]) ?_
 have : setAt vs 0 (AV.agg cs).cl = cs := by simp [setAt, AV.cl, ← hl]
 rw [this]
 exact hj
theorem da {β : Type} {X : β → AV} {en : β → Ent} {f : FuncId} {xs : Array Operand} {ats : Array TypeId} {args : List AV} (hargs : Jz ρ xs.toList = some args) (hcal : Cal k.P f) (hac : AC k.P k.c.G f args [] fun r h => ∃ v, r = .ret (X v) ∧ h = [en v]) (hd : Nat.blt d k.n = true)
 (hj : All fun v => JL k ops l Q ((d, X v) :: ρ) (en v :: h)) : JL k ops (⟨some d, .call { callee := .value (.func f), args := xs, argTypes := ats }, ty, pos, after, none⟩ :: l) Q ρ h :=
 SS (hc := []) (hr := h) hargs hcal rfl hac hd (fun r h' hq => by obtain ⟨v, e1, e2⟩ := hq; cases e1; subst e2; exact hj.get v) (fun ch h' hq => by obtain ⟨v, e1, _⟩ := hq; cases e1)

theorem Re {T E : TypeId} {x : Operand} {b : UInt8} {z : Value} {eb : Nat} (hx : evO ρ x = some (AV.byte b)) (hT : k.P.underlying T = some (.slice E)) (he : El k.P E z 1 eb) (hb : Nat.ble eb 1000000 = true)
 (hd : Nat.blt d k.n = true) (hj : JL k ops l Q ((d, .d (.l 1 eb [Bb b])) :: ρ) h) : JL k ops (⟨some d, .buildSlice T 1 #[(0, x)], ty, pos, after, none⟩ :: l) Q ρ h :=
 Iu hT he (by decide) hx rfl rfl rfl (by have := Nat.le_of_ble_eq_true hb; omega) (by decide) hd hj
theorem KS {α : Type} {f : α → List D} {ys : List α} {T E : TypeId} {z : Value} {sz eb len : Nat} {parts : Array (Nat × Operand)} {xs : List Operand} (hT : k.P.underlying T = some (.slice E)) (he : El k.P E z sz eb) (h0 : 0 < sz)
 (hp : parts = ((xs.zipIdx).map fun p => (p.2, p.1)).toArray) (hl : len = xs.length) (hr : xs.map (fun x => (ev ρ x).cl) = (ys.map f).map (·.map D.av)) (hs : ∀ x ∈ xs, (ev ρ x).stor = true) (hsz : ∀ y, (f y).length = sz) (hc : ys.length * sz ≤ 16777216)
 (hd : Nat.blt d k.n = true) (hj : All fun v => JL k ops l Q ((d, .val v) :: ρ) (AF v E sz f ys :: h)) : JL k ops (⟨some d, .buildSlice T len parts, ty, pos, after, none⟩ :: l) Q ρ h := by
 obtain ⟨i, hi, hz0, hz1, _⟩ := he.get
 have hxl : xs.length = ys.length := by have := congrArg List.length hr; simpa using this
 refine DT rfl (fun t ht => by cases ht; exact blt hd) fun I a w k1 k2 => ?_
 obtain ⟨hrel, hcs⟩ := Ma k2 xs (ys.map f) hr hs
 have hsv : ∀ v ∈ xs.map a.eval, v.cells.size = sz := fun v hv => by
  obtain ⟨r, h1, h2⟩ := hcs v hv
  obtain ⟨y, _, rfl⟩ := List.mem_map.1 h1
  rw [h2]; exact hsz y
 let zc : Array Value := if len * sz = 0 then #[] else z.cells
 obtain ⟨cells, hf1, hf2⟩ := Ls (sz := sz) (xs.map a.eval) 0 ((Array.range (len * sz)).map (zc[· % zc.size]!)) [] ((Array.range (len * sz)).map (zc[· % zc.size]!)).toList hsv rfl (by simp) (by simp [hl])
 simp only [List.nil_append] at hf2
 have hrun : (Instr.buildSlice T len (parts.map fun (i, x) => (i, a.eval x))).run k.P w = .ok (.slice (some ⟨w.heap.size, 0, none⟩) len len) (w.alloc (.cells cells E)) := by
  have hparts : (parts.map fun (i, x) => (i, a.eval x)).toList = ((xs.map a.eval).zipIdx 0).map fun p => (p.2, p.1) := by
   rw [hp]; simp [List.zipIdx_map]
  have hlt : ¬ len * sz > 2 ^ 24 := by rw [hl, hxl]; omega
  simp only [Instr.buildSlice, Sem.run_bind, run_underlying hT, Result.andThen_ok, sizeOf, typeInfo, run_program, hi, Sem.run_pure, hz1, hlt, if_false, Sem.run_ite, zeroValue, hz0]
  by_cases hzz : len * sz = 0
  · simp only [zc, hzz, if_true] at hf1
    simp only [hzz, if_true, hparts]
    rw [hf1]; simp [newRow]
  · simp only [zc, hzz, if_false] at hf1
    simp only [hzz, if_false, hparts]
    rw [hf1]; simp [newRow]
 have hcl : cells.toList.length = ys.length * sz := by
  rw [hf2]
  have := AV.rels_length hrel
  rw [List.length_map, BM (ys.map f) (fun r hr => by obtain ⟨y, _, rfl⟩ := List.mem_map.1 hr; exact hsz y), List.length_map] at this
  exact this.symm
 refine ⟨.slice (some ⟨w.heap.size, 0, none⟩) ys.length ys.length, w.alloc (.cells cells E), I, .val (.slice (some ⟨w.heap.size, 0, none⟩) ys.length ys.length), _, ?_, k1.fresh _ (AF (.slice (some ⟨w.heap.size, 0, none⟩) ys.length ys.length) E sz f ys) rfl ?_, k2.fresh k1 _, rfl, hj.get _⟩
 · rw [← hxl, ← hl]
   simp only [execOp, Sem.run_bind, hrun, Result.andThen_ok, Sem.run_pure]
 · have hmono : ∀ b, I b → (w.alloc (.cells cells E)).heap[b]? = w.heap[b]? := fun b hb => Go.RowKit.Below.heap_alloc w _ b (k1.imm b hb).1
   refine ⟨cells.toList, World.ownsRow_lit w cells ys.length (Nat.zero_le _) ?_ (by rw [← hcl]; simp), ?_⟩
   · have : ys.length ≤ ys.length * sz := Nat.le_mul_of_pos_right _ h0
     simp only [maxLen]; omega
   · rw [hf2]
     exact AV.rels_mono hmono (fun _ h => h) hrel
end
section
variable {P : Program} {G : List (Nat × List D)} {ρ : Env} {h : H} {dst : Option Tmp} {ty : TypeId} {pos : String} {after : Array Edge} {g : Option (Nat × Bool)}
theorem fO {x y : Operand} {m n : Int} {ats : Array TypeId} (hx : evO ρ x = some (.int m)) (hy : evO ρ y = some (.int n)) : Pure P G ⟨dst, .call { callee := .builtin .min, args := #[x, y], argTypes := ats }, ty, pos, after, g⟩ ρ h (.int (min m n)) :=
 AZ fun w I _ a hs => by
  have e1 := AI (hs.ev x) (AA hx)
  have e2 := AI (hs.ev y) (AA hy)
  refine ⟨_, rfl, fun w' => ?_⟩
  have e3 : (if n < m then n else m) = min m n := by omega
  have hr : (Builtin.min_ ats ty #[.int .i64 m, .int .i64 n]).run P w' = .ok (.int .i64 (min m n)) w' := by rw [← e3]; simp [Builtin.min_, Builtin.min2]
  simp [execOp, resolve, invoke, builtin, e1, e2, hr]
end
theorem AV.le_agg {xs ys : List AV} (h : AVs.le xs ys) : AV.le (.agg xs) (.agg ys) := fun _ _ _ ⟨vs, h1, h2⟩ => ⟨vs, h1, AVs.le_rel h h2⟩
theorem RV1.le {P : Program} {G : List (Nat × List D)} {ρ : Env} {h : H} {r : ResultVar} {x y : AV} (hr : RV1 P G ρ h r x) (hl : AV.le x y) : RV1 P G ρ h r y := fun c I n a w h1 h2 h3 => let ⟨v, e1, e2⟩ := hr c I n a w h1 h2 h3; ⟨v, hl _ _ _ e1, e2⟩
theorem RVs.le {P : Program} {G : List (Nat × List D)} {ρ : Env} {h : H} : ∀ {rs : List ResultVar} {xs ys : List AV}, RVs P G ρ h rs xs → AVs.le xs ys → RVs P G ρ h rs ys
 | [], [], [], _, _ => trivial
 | _ :: _, _ :: _, _ :: _, ⟨h1, h2⟩, ⟨g1, g2⟩ => ⟨h1.le g1, RVs.le h2 g2⟩
theorem QX {P : Program} {G : List (Nat × List D)} {rs : List ResultVar} {Q : AE → H → Prop} {e : Exit} {ρ ρ1 : Env} {h h1 h' : H} {xs ys : List AV} (v : VS ρ h ρ1 h1) (hrv : RVs P G ρ1 h1 rs xs) (hle : AVs.le xs ys) (he : O2 e = true) (hs : List.Sublist h' h1) (hq : Q (.ret (Ja ys)) h') : Zu P G rs Q e ρ h :=
 Jt v (hrv.le hle) he hs hq
theorem vid {ρ : Env} {h : H} : VS ρ h ρ h := VS.of_le (Env.le_refl _)

def YY : Op → Bool
 | .store .. => true
 | .mapUpdate .. => true
 | _ => false
def b9 (P : Program) (o : Oper) : Bool :=
 match o.op with
 | .call c => (match c.callee with
   | .value (.func _) => (match P.underlying o.type with
     | some (.int _) => false
     | some .bool => false
     | some .string => false
     | _ => true)
   | _ => false)
 | _ => false
def Yj (P : Program) (ops : Array Oper) (n : Nat) : Bool :=
 ops.any (b9 P) && Region.noSelect ops && decide (n ≤ ops.size) && (decide (n = ops.size) || (Region.sinkB .any ops n && Region.chainB .any ops n)) && (ops.toList.take n).all fun o => !YY o.op
def Gf (ops : Array Oper) (listed : Array Bool) (n i : Nat) : Bool := (Region.ready .any ops listed).contains i && Region.free .any ops listed i && decide (i < n)
structure JE (k : Kx) (ops : Array Oper) (n f : Nat) (listed : Array Bool) (l2 : List Oper) (s : Nat) (pend held : List (Nat × Bool)) (Q : Exit → Env → H → Prop) (ρ : Env) (h : H) : Prop where
 get : Yj k.P ops n = true → HeadInv .any ops n listed → ∀ I a w, Ok k.c I h w → SF k.n w I ρ a → a.defers = k.df →
  Ge k.P .any ops (Ev I h w) n (fun listed' a' w' => Region.seqB .any ops (ops.size - n) n listed' = true ∧ wpList k.P ops (lift k Q) l2 a' w') f listed a w

section
variable {k : Kx} {Q : Exit → Env → H → Prop} {ρ ρ' : Env} {h h' : H} {ops : Array Oper} {listed : Array Bool} {l2 : List Oper} {n f s i d : Nat} {op : Op} {ty : TypeId} {pos : String} {after : Array Edge} {pend held : List (Nat × Bool)} {b : Bool}

end
structure Sl where
 ad : Option Addr
 n : Nat
 c : Nat
abbrev Sl.v (q : Sl) : Value := .slice q.ad q.n q.c
abbrev Sl.nil : Sl := ⟨none, 0, 0⟩
section
variable {k : Kx} {Q : Exit → Env → H → Prop} {ρ ρ' : Env} {h h' h1 h2 : H} {ops : Array Oper} {l : List Oper} {d : Nat} {ty : TypeId} {pos : String} {after : Array Edge} {e1 e2 e3 e4 : Ent}
theorem HC {v : Value} {n : Nat} {E : TypeId} {sz : Nat} {xs : List AV} (hh : h = h1 ++ .row v n E sz xs :: h2) (hj : ∀ q : Sl, v = q.v → JL k ops l Q ρ h) : JL k ops l Q ρ h := by
 intro I a w k1 k2 k3
 obtain ⟨os, ho, _⟩ := k1.ent (.row v n E sz xs) (by rw [hh]; simp)
 rcases ho.2 with ⟨rfl, _⟩ | ⟨g, cap, cur, rfl, _⟩
 · exact hj ⟨none, 0, 0⟩ rfl I a w k1 k2 k3
 · exact hj ⟨some ⟨g, 0, none⟩, n, cap⟩ rfl I a w k1 k2 k3
theorem gB {α : Type} {f : α → List D} {xs ys : List α} {T E : TypeId} {x y : Operand} {z : Value} {sz eb eb' : Nat} {v : Value} (hx : evO ρ x = some (.val v)) (hh : h = h1 ++ AF v E sz f xs :: h2) (hy : evO ρ y = some (.d (.l sz eb' (ys.map f)))) (hT : k.P.underlying T = some (.slice E)) (he : El k.P E z sz eb) (hz : z.cells.size = sz) (h0 : Nat.blt 0 sz = true)
 (hd : Nat.blt d k.n = true) (hb : (xs.length + ys.length) * eb ≤ 140737488355328) (hm : xs.length + ys.length ≤ 140737488355328)
 (hj : ∀ q : Sl, JL k ops l Q ((d, .val q.v) :: ρ) (h1 ++ AF q.v E sz f (xs ++ ys) :: h2)) :
 JL k ops (⟨some d, .call { callee := .builtin .append, args := #[x, y], argTypes := #[T, T] }, ty, pos, after, none⟩ :: l) Q ρ h := by
 refine WB (h1 := h1) (h2 := h2) (n := xs.length) (rows := ys.map f) hT he hz (blt h0) (AA hx) (AA hy) hh (by simpa using hb) (by simpa using hm) (fun t ht => by cases ht; exact blt hd) fun v' => ?_
 refine HC (h1 := h1) (h2 := h2) rfl fun q hq => ?_
 subst hq
 have := hj q
 rw [Mt]
 unfold AF at this
 rw [List.length_append] at this
 rw [List.length_map]
 exact this
theorem Z0 {α : Type} (f : α → List D) {T E : TypeId} {z : Value} {sz eb : Nat} (hT : k.P.underlying T = some (.slice E)) (he : El k.P E z sz eb) (hd : Nat.blt d k.n = true)
 (hj : All fun q : Sl => JL k ops l Q ((d, .val q.v) :: ρ) (AF q.v E sz f [] :: h)) : JL k ops (⟨some d, .buildSlice T 0 #[], ty, pos, after, none⟩ :: l) Q ρ h :=
 bV f hT he hd ⟨fun v => HC (h1 := []) rfl fun q e => by subst e; exact hj.get q⟩
end

section
variable {k : Kx} {Q : Exit → Env → H → Prop} {ρ ρ' : Env} {h h' : H} {ops : Array Oper} {listed : Array Bool} {n f i j d : Nat} {op : Op} {ty : TypeId} {pos : String} {after : Array Edge}

theorem Il {P : Program} {o : Oper} {a : Act} {w : World} {K K' : Act → World → Prop} {Q Q' : Exit → Act → World → Prop} (hK : ∀ a w, K a w → K' a w) (hQ : ∀ e a w, e ≠ .normal → ¬ Q e a w) (h : o.wp P a w K Q) : o.wp P a w K' Q' := by
 unfold Oper.wp at *
 generalize (execOp a.eval o).run P w = r at *
 cases r with
 | ok n w' =>
   cases n <;> simp only [Oper.upon] at h ⊢
   case value u => exact hK _ _ h
   case skip => exact hK _ _ h
   case defer d => exact hK _ _ h
   case enter f args =>
    refine Calls.mono h fun e w'' he => ?_
    cases e with
    | returned u => exact hK _ _ he
    | panicked c => exact absurd he (hQ _ _ _ (by simp))
    | outgrown => obtain ⟨_, _, hf⟩ := he; exact absurd hf (hQ _ _ _ (by simp))
   case row row args => exact Rows.mono h fun u w'' he => hK _ _ he
 | halt x w' =>
   cases x <;> simp only [Oper.upon] at h ⊢
   case panic u => exact absurd h (hQ _ _ _ (by simp))
structure JX (k : Kx) (ops : Array Oper) (f : Nat) (listed : Array Bool) (Q : Exit → Env → H → Prop) (ρ : Env) (h : H) : Prop where
 get : Region.noSelect ops = true → HeadInv .any ops ops.size listed → ∀ I a w, Ok k.c I h w → SF k.n w I ρ a → a.defers = k.df →
  Ge k.P .any ops (fun _ => True) ops.size (fun listed' a' w' => Region.ready .any ops listed' = [] ∧ lift k Q .normal a' w') f listed a w

theorem OT {id : Nat} {l : List Oper} {P : Program} (hm : P.follows .mixedOrders = true) (hP : k.P = P) (hn : l.length = n) (hs : Region.noSelect l.toArray = true)
 (hj : JX k l.toArray n (Array.replicate l.length false) Q ρ h) : J k (.region id l.toArray true) Q ρ h := by
 subst hP
 subst hn
 intro I a w h1 h2 h3
 refine wp_region_any hm ?_
 have hsm : Ev I h w { w with drawn := w.drawn + 1 } := ⟨rfl, rfl, rfl, Nat.le_refl _, fun _ _ => rfl⟩
 have inv0 : HeadInv .any l.toArray l.toArray.size (Array.replicate l.length false) :=
  ⟨by simp, fun j oj _ hl => (by rw [getD_replicate_false] at hl; cases hl), fun t _ ht => getD_in (by simpa using ht) (getD_replicate_false _ _)⟩
 have H := hj.get hs inv0 I a _ (h1.same hsm) (SF.same h1 hsm h2) h3
 have K := EI (Q := lift k Q) (g := 0) (fun listed' a' w' hL => ⟨hL.1, hL.2⟩) _ _ _ _ H
 simpa using K
theorem bS (hr : Region.ready .any ops listed = []) (hj : Q .normal ρ h) : JX k ops 0 listed Q ρ h := ⟨fun _ _ I _ _ h1 h2 h3 => ⟨hr, I, ρ, h, h1, h2, h3, hj⟩⟩
theorem aX (hn : Region.ready .any ops listed ≠ []) (hall : ∀ i ∈ Region.ready .any ops listed, ∃ o, ops[i]? = some o ∧ JL k ops [o] (fun e ρ' h' => e = .normal ∧ JX k ops f (listed.setIfInBounds i true) Q ρ' h') ρ h) : JX k ops (f + 1) listed Q ρ h := by
 refine ⟨fun hs inv I a w h1 h2 h3 => ⟨hn, fun i hi => ?_⟩⟩
 obtain ⟨o, ho, hj⟩ := hall i hi
 have hin : i < ops.size := (Array.getElem?_eq_some_iff.1 ho).1
 refine ⟨hin, ?_⟩
 have H := hj I a w h1 h2 h3
 unfold wpOp
 rw [ho]
 dsimp only
 have hK : ∀ a' w', lift k (fun e ρ' h' => e = .normal ∧ JX k ops f (listed.setIfInBounds i true) Q ρ' h') .normal a' w' → True ∧ Ge k.P .any ops (fun _ => True) ops.size (fun listed' a' w' => Region.ready .any ops listed' = [] ∧ lift k Q .normal a' w') f (listed.setIfInBounds i true) a' w' := by
  rintro a' w' ⟨I', ρ', h', q1, q2, q3, _, q4⟩
  exact ⟨trivial, q4.get hs (inv.set hi hin) I' a' w' q1 q2 q3⟩
 have hQ : ∀ e a' w', e ≠ .normal → ¬ lift k (fun e ρ' h' => e = .normal ∧ JX k ops f (listed.setIfInBounds i true) Q ρ' h') e a' w' := by
  rintro e a' w' he ⟨_, _, _, _, _, _, q, _⟩
  exact he q
 rw [wpList] at H
 by_cases hw : Region.wanted o (yielded ops a.tmps) = true
 · rw [if_pos hw] at H ⊢
   rcases H with H | ⟨_, a', w', H⟩
   · exact .inl (Il hK hQ H)
   · exact absurd H (hQ _ _ _ (by simp))
 · rw [if_neg hw] at H ⊢
   exact hK _ _ H
theorem Pz {o : Oper} {r : AV} (ho : ops[i]? = some o) (hc : Gf ops listed ops.size i = true) (hd : ∀ t, o.dst = some t → t < k.n)
 (hy : ∀ I a w, Ok k.c I h w → SF k.n w I ρ a → ∃ v, AV.rel w I r v ∧ YieldsIf k.P ops (fun _ => True) o v a)
 (hj : JX k ops f (listed.setIfInBounds i true) Q (put ρ o.dst r) h) : JX k ops (f + 1) listed Q ρ h := by
 refine ⟨fun hs inv I a w h1 h2 h3 => ?_⟩
 simp only [Gf, Bool.and_eq_true, decide_eq_true_eq] at hc
 obtain ⟨⟨hr, hf⟩, hin⟩ := hc
 have hr' : i ∈ Region.ready .any ops listed := by simpa using hr
 obtain ⟨v, hv, hyv⟩ := hy I a w h1 h2
 exact Kl ho (Region.noSelect_spec hs) (fun _ _ _ j hj => by obtain ⟨_, o, ho, _⟩ := mem_ready.1 hj; exact (Array.getElem?_eq_some_iff.1 ho).1) hin (fun _ _ _ hL j hj => by rw [hL.1] at hj; cases hj) f listed a w inv (Region.free_spec ho hf) hr' hyv trivial
  (hj.get hs (inv.set hr' hin) I _ w h1 (h2.put hd hv) (by rw [Act.defers_put]; exact h3))
theorem bP {x : Operand} {r : AV} (ho : ops[i]? = some ⟨some d, .move x, ty, pos, after, none⟩) (hc : Gf ops listed ops.size i = true) (hx : evO ρ x = some r) (hd : Nat.blt d k.n = true)
 (hj : JX k ops f (listed.setIfInBounds i true) Q ((d, r) :: ρ) h) : JX k ops (f + 1) listed Q ρ h :=
 Pz ho hc (fun t ht => by cases ht; exact blt hd) (fun _ a _ _ h2 => ⟨a.eval x, BS (h2.ev x) (AA hx), .inl ⟨by simp [Region.wanted], fun _ _ => rfl⟩⟩) hj
structure Stop (p : Prop) : Prop where
 get : p
theorem Mc {X : Type} {x : Code} (S : X → Env) (G : X → H) (hx : J k x (fun e ρ' h' => e = .normal ∧ ∃ y, VS ρ' h' (S y) (G y)) ρ h) (hq : ∀ y, Q .normal (S y) (G y)) : J k x Q ρ h := by
 intro I a w h1 h2 h3
 refine wp_mono (hx I a w h1 h2 h3) ?_
 rintro e a' w' ⟨I', ρ', h', k1, k2, k3, rfl, y, hv⟩
 obtain ⟨I'', k4, k5⟩ := hv k.c I' k.n a' w' k1 k2
 exact ⟨I'', S y, G y, k4, k5, k3, hq y⟩
end

inductive Upd (e e' : Ent) : H → H → Prop where
 | here {h : H} : Upd e e' (e :: h) (e' :: h)
 | there {x : Ent} {h h' : H} (u : Upd e e' h h') : Upd e e' (x :: h) (x :: h')
theorem Upd.split {e e' : Ent} {h h' : H} (u : Upd e e' h h') : ∃ h1 h2, h = h1 ++ e :: h2 ∧ h' = h1 ++ e' :: h2 := by
 induction u with
 | here => exact ⟨[], _, rfl, rfl⟩
 | there _ ih =>
   obtain ⟨h1, h2, rfl, rfl⟩ := ih
   exact ⟨_ :: h1, h2, rfl, rfl⟩
theorem Upd.perm {e e' : Ent} {h h' : H} (u : Upd e e' h h') : ∃ r, h.Perm (e :: r) ∧ h'.Perm (e' :: r) := by
 obtain ⟨h1, h2, rfl, rfl⟩ := u.split
 exact ⟨h1 ++ h2, List.perm_middle, List.perm_middle⟩
inductive Sel (e : Ent) : H → H → Prop where
 | here {h : H} : Sel e (e :: h) h
 | there {x : Ent} {h h' : H} (u : Sel e h h') : Sel e (x :: h) (x :: h')
theorem Sel.perm {e : Ent} {h h' : H} (u : Sel e h h') : h.Perm (e :: h') := by
 induction u with
 | here => exact List.Perm.refl _
 | there _ ih => exact (ih.cons _).trans (List.Perm.swap ..)
inductive Take : H → H → H → Prop where
 | nil {h : H} : Take h [] h
 | cons {e : Ent} {h h1 hc hr : H} (s : Sel e h h1) (t : Take h1 hc hr) : Take h (e :: hc) hr
theorem Take.perm {h hc hr : H} (t : Take h hc hr) : h.Perm (hc ++ hr) := by
 induction t with
 | nil => exact List.Perm.refl _
 | cons s _ ih => exact s.perm.trans (ih.cons _)
inductive App : H → H → H → Prop where
 | nil {h : H} : App [] h h
 | cons {e : Ent} {a h h' : H} (p : App a h h') : App (e :: a) h (e :: h')
theorem App.eq {a h h' : H} (p : App a h h') : h' = a ++ h := by
 induction p with
 | nil => rfl
 | cons _ ih => rw [ih]; rfl

section
variable {k : Kx} {Q : Exit → Env → H → Prop} {ρ ρ' : Env} {h h' hr : H} {ops : Array Oper} {l : List Oper} {d : Nat} {dst : Option Tmp} {ty : TypeId} {pos : String} {after : Array Edge}

theorem VS.take {hc : H} (t : Take h hc hr) (hle : Env.le ρ ρ') : VS ρ h ρ' hc := VS.trans (VS.perm t.perm) (VS.trans (VS.drop (List.sublist_append_left hc hr)) (VS.of_le hle))

theorem iE {α : Type} {f : α → AV} {T T0 : TypeId} {x y : Operand} {b off : Nat} {a : α} {vs : List α} {z : Value} {eb : Nat} (hx : evO ρ x = some (.val (.pointer (some ⟨b, off, none⟩))))
 (hu : Upd (.cells b T0 (vs.map f)) (.cells b T0 ((vs.set off a).map f)) h h') (hy : evO ρ y = some (f a)) (hs : (f a).flat = true) (hE : El k.P T z 1 eb) (hl : off < vs.length)
 (hj : JL k ops l Q ρ h') : JL k ops (⟨none, .store T x y, ty, pos, after, none⟩ :: l) Q ρ h := by
 obtain ⟨h1, h2, rfl, rfl⟩ := hu.split
 exact dQ hx rfl hy hs hE hl hj
theorem fY {T T0 : TypeId} {x y : Operand} {b : Nat} {cs vs : List AV} {z : Value} {sz eb : Nat} (hx : evO ρ x = some (.val (.pointer (some ⟨b, 0, none⟩)))) (hy : evO ρ y = some (.agg cs)) (hs : cs.all AV.flat = true) (hE : El k.P T z sz eb) (hn : sz = cs.length)
 (hu : Upd (.cells b T0 vs) (.cells b T0 cs) h h') (hl : vs.length = cs.length)
 (hj : JL k ops l Q ρ h') : JL k ops (⟨none, .store T x y, ty, pos, after, none⟩ :: l) Q ρ h := by
 obtain ⟨h1, h2, rfl, rfl⟩ := hu.split
 exact ZD hx hy hs hE hn hl rfl hj
inductive Ha : List AV → Nat → List AV → List AV → Prop where
 | nil {l : List AV} : Ha l 0 [] l
 | put {x c : AV} {l cs l' : List AV} (h : Ha l 0 cs l') : Ha (x :: l) 0 (c :: cs) (c :: l')
 | skip {x : AV} {l cs l' : List AV} {n : Nat} (h : Ha l n cs l') : Ha (x :: l) (n + 1) cs (x :: l')
theorem Ha.eq {l cs l' : List AV} {n : Nat} (h : Ha l n cs l') : l' = setAt l n cs ∧ n + cs.length ≤ l.length := by
 induction h with
 | nil => simp [setAt]
 | put _ ih =>
   obtain ⟨rfl, h2⟩ := ih
   refine ⟨by simp [setAt, Nat.add_comm], by simp at h2 ⊢; omega⟩
 | skip _ ih =>
   obtain ⟨rfl, h2⟩ := ih
   refine ⟨by simp [setAt, Nat.add_right_comm], by simp at h2 ⊢; omega⟩
theorem gy {T T0 : TypeId} {x y : Operand} {b off : Nat} {r : AV} {vs vs' : List AV} {z : Value} {eb : Nat} (hx : evO ρ x = some (.val (.pointer (some ⟨b, off, none⟩)))) (hy : evO ρ y = some r) (hs : r.flat = true) (hE : El k.P T z 1 eb)
 (hu : Upd (.cells b T0 vs) (.cells b T0 vs') h h') (hv : Ha vs off [r] vs')
 (hj : JL k ops l Q ρ h') : JL k ops (⟨none, .store T x y, ty, pos, after, none⟩ :: l) Q ρ h := by
 obtain ⟨h1, h2, rfl, rfl⟩ := hu.split
 obtain ⟨rfl, hl⟩ := hv.eq
 simp only [List.length_cons, List.length_nil] at hl
 refine Yn hx hy hs hE rfl (by omega) ?_
 rw [← Fj _ _ _ (by omega)]
 exact hj
theorem gN {α : Type} {f : α → List D} {xs ys : List α} {T E : TypeId} {x y : Operand} {z : Value} {sz eb eb' : Nat} {v : Value} {H' : Sl → H} (hx : evO ρ x = some (.val v)) (hT : k.P.underlying T = some (.slice E)) (he : El k.P E z sz eb)
 (hu : ∀ q : Sl, Upd (AF v E sz f xs) (AF q.v E sz f (xs ++ ys)) h (H' q)) (hy : evO ρ y = some (.d (.l sz eb' (ys.map f)))) (hz : z.cells.size = sz) (h0 : Nat.blt 0 sz = true)
 (hd : Nat.blt d k.n = true) (hb : (xs.length + ys.length) * eb ≤ 140737488355328) (hm : xs.length + ys.length ≤ 140737488355328)
 (hj : All fun q : Sl => JL k ops l Q ((d, .val q.v) :: ρ) (H' q)) :
 JL k ops (⟨some d, .call { callee := .builtin .append, args := #[x, y], argTypes := #[T, T] }, ty, pos, after, none⟩ :: l) Q ρ h := by
 obtain ⟨h1, h2, e1, _⟩ := (hu Sl.nil).split
 refine gB (h1 := h1) (h2 := h2) hx e1 hy hT he hz h0 hd hb hm fun q => ?_
 refine FX (VS.perm ?_) (hj.get q)
 obtain ⟨r, p1, p2⟩ := (hu q).perm
 refine List.perm_middle.trans (List.Perm.trans (List.Perm.cons _ ?_) p2.symm)
 rw [e1] at p1
 exact (List.perm_middle.symm.trans p1).cons_inv
theorem Bm {α : Type} {f : α → List D} {xs : List α} {u : α} {T E : TypeId} {x y : Operand} {z : Value} {sz eb eb' : Nat} {v : Value} {H' : Sl → H} (hx : evO ρ x = some (.val v)) (hT : k.P.underlying T = some (.slice E)) (he : El k.P E z sz eb)
 (hu : ∀ q : Sl, Upd (AF v E sz f xs) (AF q.v E sz f (xs ++ [u])) h (H' q)) (hy : evO ρ y = some (.d (.l sz eb' [f u]))) (hz : z.cells.size = sz) (h0 : Nat.blt 0 sz = true)
 (hd : Nat.blt d k.n = true) (hb : (xs.length + 1) * eb ≤ 140737488355328) (hm : xs.length + 1 ≤ 140737488355328)
 (hj : All fun q : Sl => JL k ops l Q ((d, .val q.v) :: ρ) (H' q)) :
 JL k ops (⟨some d, .call { callee := .builtin .append, args := #[x, y], argTypes := #[T, T] }, ty, pos, after, none⟩ :: l) Q ρ h := gN (ys := [u]) hx hT he hu hy hz h0 hd hb hm hj

theorem Au {β : Type} {X : β → AV} {en : β → H} {hc : H} {H' : β → H} {f : FuncId} {xs : Array Operand} {ats : Array TypeId} {args : List AV} (hargs : Jz ρ xs.toList = some args) (hcal : Cal k.P f) (hac : AC k.P k.c.G f args hc fun r h => ∃ v, r = .ret (X v) ∧ h = en v)
 (ht : Take h hc hr) (hd : Nat.blt d k.n = true) (ha : ∀ v, App (en v) hr (H' v)) (hj : All fun v => JL k ops l Q ((d, X v) :: ρ) (H' v)) :
 JL k ops (⟨some d, .call { callee := .value (.func f), args := xs, argTypes := ats }, ty, pos, after, none⟩ :: l) Q ρ h :=
 FX (VS.perm ht.perm) (SS (hc := hc) (hr := hr) hargs hcal rfl hac hd (fun r h' hq => by obtain ⟨v, e1, e2⟩ := hq; cases e1; subst e2; rw [← (ha v).eq]; exact hj.get v) (fun ch h' hq => by obtain ⟨v, e1, _⟩ := hq; cases e1))
theorem XR {f : FuncId} {x : Operand} {xs : Array Operand} {ats : Array TypeId} {caps : Array Value} {es : List AV} {hc hr : H} {R : AE → H → Prop} (hf : evO ρ x = some (.val (.func (.func f) #[] caps))) (hxs : Jz ρ xs.toList = some es) (hcal : Cal k.P f) (hac : AC k.P k.c.G f (es ++ caps.toList.map AV.val) hc R) (hs : h = hc ++ hr) (hd : ∀ t, dst = some t → t < k.n)
 (hret : ∀ r h', R (.ret r) h' → JL k ops l Q (put ρ dst r) (h' ++ hr)) (hpan : ∀ ch h', R (.pan ch) h' → Q (.panic ch) ρ (h' ++ hr)) :
 JL k ops (⟨dst, .call { callee := .value x, args := xs, argTypes := ats }, ty, pos, after, none⟩ :: l) Q ρ h := by
 intro I a w h1 h2 h3
 subst hs
 refine wpList_plain rfl fun K hK => ?_
 unfold Oper.wp
 rw [Gp (AI (h2.ev x) (AA hf)), hcal]
 simp only [Oper.upon]
 have hr' : AV.rels w I (es ++ caps.toList.map AV.val) (xs.toList.map a.eval ++ caps.toList) := AV.rels_append (by rw [← DR hxs]; exact FZ h2 xs.toList) (IK w I _)
 refine (hac I w _ (fun e he => h1.ent e (List.mem_append.2 (.inl he))) ?_ ?_ (fun q hq => h1.glob q hq) hr').mono ?_
 · have := h1.nd; rw [AY] at this; exact (List.nodup_append.1 this).1
 · intro b hb
   have := h1.imm b hb
   rw [AY, List.mem_append] at this
   exact ⟨this.1, fun hm => this.2 (.inl hm)⟩
 · rintro e w' ⟨r, h', I', hR, hok, hrel⟩
   obtain ⟨k1, k2⟩ := h1.call hok
   have hsf : SF k.n w' I' ρ a := h2.mono k2 (fun b hb => hok.sup b hb)
   cases r with
   | ret r =>
     cases e with
     | returned v => exact hK _ _ (hret r h' hR I' _ w' k1 (hsf.put hd hrel) (by rw [Act.defers_put]; exact h3))
     | panicked ch => exact hrel.elim
     | outgrown => exact hrel.elim
   | pan ch =>
     cases e with
     | returned v => exact hrel.elim
     | panicked ch' => subst hrel; exact ⟨I', ρ, h' ++ hr, k1, hsf, h3, hpan _ _ hR⟩
     | outgrown => exact hrel.elim
theorem Cq {β : Type} {X : β → AV} {en : β → H} {hc : H} {H' : β → H} {f : FuncId} {x : Operand} {xs : Array Operand} {ats : Array TypeId} {caps : Array Value} {es : List AV} (hf : evO ρ x = some (.val (.func (.func f) #[] caps))) (hxs : Jz ρ xs.toList = some es) (hcal : Cal k.P f)
 (hac : AC k.P k.c.G f (es ++ caps.toList.map AV.val) hc fun r h => ∃ v, r = .ret (X v) ∧ h = en v)
 (ht : Take h hc hr) (hd : Nat.blt d k.n = true) (ha : ∀ v, App (en v) hr (H' v)) (hj : All fun v => JL k ops l Q ((d, X v) :: ρ) (H' v)) :
 JL k ops (⟨some d, .call { callee := .value x, args := xs, argTypes := ats }, ty, pos, after, none⟩ :: l) Q ρ h :=
 FX (VS.perm ht.perm) (XR (hc := hc) (hr := hr) hf hxs hcal hac rfl (fun t ht => by cases ht; exact blt hd) (fun r h' hq => by obtain ⟨v, e1, e2⟩ := hq; cases e1; subst e2; rw [← (ha v).eq]; exact hj.get v) (fun ch h' hq => by obtain ⟨v, e1, _⟩ := hq; cases e1))
end

def Sl.at (q : Sl) (off : Nat) : Addr := ⟨(q.ad.map (·.block)).getD 0, off, none⟩
theorem Ent.row_form {w : World} {I : Nat → Prop} {q : Sl} {n : Nat} {E : TypeId} {sz : Nat} {l : List AV} (h : (Ent.row q.v n E sz l).rel w I) (hn : 0 < n) :
 ∃ g cap cur, q = ⟨some ⟨g, 0, none⟩, n, cap⟩ ∧ w.heap[g]? = some (.cells cur E (0, 0)) ∧ n ≤ cap ∧ cap ≤ maxLen ∧ cur.size = cap * sz ∧ AV.rels w I l (cur.toList.take (n * sz)) := by
 obtain ⟨os, ho, hr⟩ := h
 rcases ho.2 with ⟨_, rfl⟩ | ⟨g, cap, cur, hv, _, hg, h1, h2, h3, rfl⟩
 · omega
 · obtain ⟨ad, m, c⟩ := q
   simp only [Sl.v, Value.slice.injEq] at hv
   obtain ⟨rfl, rfl, rfl⟩ := hv
   exact ⟨g, _, cur, rfl, hg, h1, h2, h3, hr⟩
section
variable {P : Program} {G : List (Nat × List D)} {ρ : Env} {h : H} {dst : Option Tmp} {ty : TypeId} {pos : String} {after : Array Edge} {g : Option (Nat × Bool)}
theorem RX {α : Type} {f : α → List D} {xs : List α} {sz j u : Nat} {c : D} (hsz : ∀ a, (f a).length = sz) (hj : j < xs.length) (hc : (f xs[j])[u]? = some c) : (((xs.map f).flatten).map D.av)[j * sz + u]? = some c.av := by
 have hu : u < sz := by rw [← hsz xs[j]]; exact (List.getElem?_eq_some_iff.1 hc).1
 have h0 : 0 < sz := by omega
 rw [List.getElem?_map, CP h0 _ (fun r hr => by obtain ⟨a, _, rfl⟩ := List.mem_map.1 hr; exact hsz a)]
 have e1 : (j * sz + u) / sz = j := by rw [Nat.mul_comm, Nat.mul_add_div (by omega), Nat.div_eq_of_lt hu, Nat.add_zero]
 have e2 : (j * sz + u) % sz = u := by rw [Nat.mul_comm, Nat.mul_add_mod, Nat.mod_eq_of_lt hu]
 rw [e1, e2, List.getElem?_map, List.getElem?_eq_getElem hj]
 simp [hc]
theorem Jl {α : Type} {f : α → List D} {xs : List α} {T E : TypeId} {x y : Operand} {q : Sl} {n sz eb : Nat} {z : Value} (hx : evO ρ x = some (.val q.v)) (hy : evO ρ y = some (.int (n : Int))) (hT : P.underlying T = some (.slice E)) (hE : El P E z sz eb)
 (hm : AF q.v E sz f xs ∈ h) (hn : n < xs.length) : Pure P G ⟨dst, .indexAddr T x y, ty, pos, after, g⟩ ρ h (.val (.pointer (some (q.at (n * sz))))) := by
 intro c I m a w _ hok hs
 obtain ⟨i, hi, _, hsz, _⟩ := hE.get
 obtain ⟨gb, cap, cur, rfl, _⟩ := Ent.row_form (hok.ent _ hm) (by omega)
 have e1 := AI (hs.ev x) (AA hx)
 have e2 := AI (hs.ev y) (AA hy)
 refine ⟨_, rfl, fun w' _ => ?_⟩
 simp [execOp, e1, e2, Instr.indexAt, run_underlying hT, asIntOf, hn, sizeOf, typeInfo, hi, hsz, Sl.at, Addr.add]
 exact fun h => h.symm
theorem NN {α : Type} {f : α → List D} {xs : List α} {T E : TypeId} {x y : Operand} {q : Sl} {n : Int} {sz eb : Nat} {z : Value} (hx : evO ρ x = some (.val q.v)) (hy : evO ρ y = some (.int n)) (hT : P.underlying T = some (.slice E)) (hE : El P E z sz eb)
 (hm : AF q.v E sz f xs ∈ h) (h0 : 0 ≤ n) (hn : n.toNat < xs.length) : Pure P G ⟨dst, .indexAddr T x y, ty, pos, after, g⟩ ρ h (.val (.pointer (some (q.at (n.toNat * sz))))) :=
 Jl (n := n.toNat) hx (by rw [Int.toNat_of_nonneg h0]; exact hy) hT hE hm hn
theorem RZ {T E : TypeId} {x y : Operand} {b len cap n : Nat} {eb : Nat} {z : Value} (hx : evO ρ x = some (.val (.slice (some ⟨b, 0, none⟩) len cap))) (hy : evO ρ y = some (.int (n : Int))) (hT : P.underlying T = some (.slice E)) (hE : El P E z 1 eb)
 (h1 : n < len) : Pure P G ⟨dst, .indexAddr T x y, ty, pos, after, g⟩ ρ h (.val (.pointer (some ⟨b, n, none⟩))) := by
 have := HI (P := P) (G := G) (h := h) (dst := dst) (ty := ty) (pos := pos) (after := after) (g := g) hx hT hE (AA hy) (by omega) (by omega)
 simpa using this
theorem Jj {α : Type} {f : α → List D} {xs : List α} {T E : TypeId} {x : Operand} {q : Sl} {j u sz : Nat} {c : D} (hT : A0 P T = some false) (hx : evO ρ x = some (.val (.pointer (some (q.at (j * sz + u)))))) (hm : AF q.v E sz f xs ∈ h) (hsz : ∀ a, (f a).length = sz) (hj : j < xs.length) (hc : (f xs[j])[u]? = some c) :
 Pure P G ⟨dst, .load T x, ty, pos, after, g⟩ ρ h c.av := by
 intro cx I m a w _ hok hs
 obtain ⟨gb, cap, cur, rfl, hg, hnc, hcm, hcs, hrel⟩ := Ent.row_form (hok.ent _ hm) (by omega)
 have e1 := AI (hs.ev x) (AA hx)
 obtain ⟨v, hv, hr⟩ := AV.rels_get hrel _ _ (RX hsz hj hc)
 refine ⟨v, hr, fun w' hw' => ?_⟩
 have hcell : w'.cell? ⟨gb, j * sz + u, none⟩ = some v := by
  have hbk : w'.heap[(⟨gb, j * sz + u, none⟩ : Addr).block]? = w.heap[(⟨gb, j * sz + u, none⟩ : Addr).block]? := hw'.own gb (Ct hm rfl)
  rw [World.cell?_of_block (w := w) hbk]
  have : cur.toList[j * sz + u]? = some v := by
   rw [List.getElem?_take] at hv
   split at hv
   · exact hv
   · cases hv
  simpa [World.cell?, hg] using this
 have e3 : a.eval x = .pointer (some ⟨gb, j * sz + u, none⟩) := e1
 simp [execOp, e3, Instr.loadAt, Instr.sureAddr, loadVar, B2 hT, run_load, hcell]
theorem PJ {α : Type} {f : α → List D} {xs : List α} {T E : TypeId} {x : Operand} {q : Sl} {j sz : Nat} {c : D} (hT : A0 P T = some false) (hx : evO ρ x = some (.val (.pointer (some (q.at (j * sz)))))) (hm : AF q.v E sz f xs ∈ h) (hsz : ∀ a, (f a).length = sz) (hj : j < xs.length) (hc : (f xs[j])[0]? = some c) :
 Pure P G ⟨dst, .load T x, ty, pos, after, g⟩ ρ h c.av := Jj (u := 0) hT hx hm hsz hj hc
theorem Qg {α : Type} {f : α → AV} {xs : List α} {T T0 : TypeId} {x : Operand} {b off : Nat} (hT : A0 P T = some false) (hx : evO ρ x = some (.val (.pointer (some ⟨b, off, none⟩)))) (hh : Ent.cells b T0 (xs.map f) ∈ h) (hl : off < xs.length) : Pure P G ⟨dst, .load T x, ty, pos, after, g⟩ ρ h (f xs[off]) :=
 Ga hT (AA hx) hh (by rw [List.getElem?_map, List.getElem?_eq_getElem hl]; rfl)
end
section
variable {k : Kx} {Q : Exit → Env → H → Prop} {ρ : Env} {h : H} {ops : Array Oper} {listed : Array Bool} {n f i m d : Nat} {op : Op} {ty : TypeId} {pos : String} {after : Array Edge}
structure JXP (k : Kx) (ops : Array Oper) (n f : Nat) (listed : Array Bool) (i m : Nat) (Q : Exit → Env → H → Prop) (ρ : Env) (h : H) : Prop where
 get : JX k ops f listed Q ρ h
structure JXS (k : Kx) (ops : Array Oper) (n f : Nat) (listed : Array Bool) (i m : Nat) (Q : Exit → Env → H → Prop) (ρ : Env) (h : H) : Prop where
 get : ∀ j, i ≤ j → j < i + m → j ∈ Region.ready .any ops listed → ∃ o, ops[j]? = some o ∧ JL k ops [o] (fun e ρ' h' => e = .normal ∧ JXP k ops n f (listed.setIfInBounds j true) 0 n Q ρ' h') ρ h
theorem aE (hn : Region.ready .any ops listed ≠ []) (hall : ∀ i ∈ Region.ready .any ops listed, ∃ o, ops[i]? = some o ∧ JL k ops [o] (fun e ρ' h' => e = .normal ∧ JXP k ops n f (listed.setIfInBounds i true) 0 n Q ρ' h') ρ h) : JX k ops (f + 1) listed Q ρ h := by
 refine ⟨fun hs inv I a w h1 h2 h3 => ⟨hn, fun i hi => ?_⟩⟩
 obtain ⟨o, ho, hj⟩ := hall i hi
 have hin : i < ops.size := (Array.getElem?_eq_some_iff.1 ho).1
 refine ⟨hin, ?_⟩
 have H := hj I a w h1 h2 h3
 unfold wpOp
 rw [ho]
 dsimp only
 have hK : ∀ a' w', lift k (fun e ρ' h' => e = .normal ∧ JXP k ops n f (listed.setIfInBounds i true) 0 n Q ρ' h') .normal a' w' → True ∧ Ge k.P .any ops (fun _ => True) ops.size (fun listed' a' w' => Region.ready .any ops listed' = [] ∧ lift k Q .normal a' w') f (listed.setIfInBounds i true) a' w' := by
  rintro a' w' ⟨I', ρ', h', q1, q2, q3, _, q4⟩
  exact ⟨trivial, q4.get.get hs (inv.set hi hin) I' a' w' q1 q2 q3⟩
 have hQ : ∀ e a' w', e ≠ .normal → ¬ lift k (fun e ρ' h' => e = .normal ∧ JXP k ops n f (listed.setIfInBounds i true) 0 n Q ρ' h') e a' w' := by
  rintro e a' w' he ⟨_, _, _, _, _, _, q, _⟩
  exact he q
 rw [wpList] at H
 by_cases hw : Region.wanted o (yielded ops a.tmps) = true
 · rw [if_pos hw] at H ⊢
   rcases H with H | ⟨_, a', w', H⟩
   · exact .inl (Il hK hQ H)
   · exact absurd H (hQ _ _ _ (by simp))
 · rw [if_neg hw] at H ⊢
   exact hK _ _ H
theorem Jg {id : Nat} {l : List Oper} {P : Program} (hm : P.follows .mixedOrders = true) (hP : k.P = P) (hn : l.length = n) (hs : Region.noSelect l.toArray = true)
 (hj : JXP k l.toArray n n (Array.replicate n false) 0 n Q ρ h) : J k (.region id l.toArray true) Q ρ h := by
 subst hn
 exact OT hm hP rfl hs hj.get
theorem Q0 {x : Operand} {r : AV} (ho : ops[i]? = some ⟨some d, .move x, ty, pos, after, none⟩) (hc : Gf ops listed ops.size i = true) (hx : evO ρ x = some r) (hd : Nat.blt d k.n = true)
 (hj : JXP k ops n f (listed.setIfInBounds i true) 0 n Q ((d, r) :: ρ) h) : JXP k ops n (f + 1) listed i (m + 1) Q ρ h := ⟨bP ho hc hx hd hj.get⟩
theorem QF (hj : JXP k ops n f listed (i + 1) m Q ρ h) : JXP k ops n f listed i (m + 1) Q ρ h := ⟨hj.get⟩
theorem YA (hr : Region.ready .any ops listed = []) (hj : Q .normal ρ h) : JXP k ops n 0 listed i m Q ρ h := ⟨bS hr hj⟩
theorem cS (hne : (Region.ready .any ops listed).isEmpty = false) (hs : ops.size = n) (hj : JXS k ops n f listed 0 n Q ρ h) : JXP k ops n (f + 1) listed i 0 Q ρ h :=
 ⟨aE (fun e => by rw [e] at hne; cases hne) fun j hr => by
  obtain ⟨_, o, ho, _⟩ := mem_ready.1 hr
  have := (Array.getElem?_eq_some_iff.1 ho).1
  exact hj.get j (Nat.zero_le _) (by omega) hr⟩
theorem af (_ht : True) : JXS k ops n f listed i 0 Q ρ h := ⟨fun j h1 h2 => by omega⟩
theorem dR (hc : (Region.ready .any ops listed).contains i = false) (hj : JXS k ops n f listed (i + 1) m Q ρ h) : JXS k ops n f listed i (m + 1) Q ρ h :=
 ⟨fun j h1 h2 hr => by
  by_cases e : j = i
  · subst e
    have : (Region.ready .any ops listed).contains j = true := by simpa using hr
    rw [this] at hc; cases hc
  · exact hj.get j (by omega) (by omega) hr⟩
theorem aP {o : Oper} (ho : ops[i]? = some o) (hd : JL k ops [o] (fun e ρ' h' => e = .normal ∧ JXP k ops n f (listed.setIfInBounds i true) 0 n Q ρ' h') ρ h) (hj : JXS k ops n f listed (i + 1) m Q ρ h) : JXS k ops n f listed i (m + 1) Q ρ h :=
 ⟨fun j h1 h2 hr => by
  by_cases e : j = i
  · subst e
    exact ⟨o, ho, hd⟩
  · exact hj.get j (by omega) (by omega) hr⟩
theorem Yg {dst : Option Tmp} {g : Option (Nat × Bool)} (ho : ops[i]? = some ⟨dst, op, ty, pos, after, g⟩) (hj : Two (JL k ops [⟨dst, op, ty, pos, after, g⟩] (fun e ρ' h' => e = .normal ∧ JXP k ops n f (listed.setIfInBounds i true) 0 n Q ρ' h') ρ h) (JXS k ops n f listed (i + 1) m Q ρ h)) : JXS k ops n f listed i (m + 1) Q ρ h := aP ho hj.fst hj.snd
theorem gT {p : Prop} (hp : p) : Exit.normal = Exit.normal ∧ p := ⟨rfl, hp⟩
end

theorem Ok.reent {c : Cx} {I : Nat → Prop} {h1 h2 : H} {e e' : Ent} {w : World} (k : Ok c I (h1 ++ e :: h2) w) (hb : e'.blk = e.blk) (he : e'.rel w I) : Ok c I (h1 ++ e' :: h2) w := by
 have hblk : blks (h1 ++ e' :: h2) = blks (h1 ++ e :: h2) := by
  simp only [blks, List.filterMap_append, List.filterMap_cons, hb]
 refine { k with ent := fun x hx => ?_, nd := by rw [hblk]; exact k.nd, imm := fun b hb' => by rw [hblk]; exact k.imm b hb', new := fun b hb' => k.new b (by rw [← hblk]; exact hb') }
 rcases List.mem_append.1 hx with hx | hx
 · exact k.ent x (List.mem_append.2 (.inl hx))
 · rcases List.mem_cons.1 hx with rfl | hx
   · exact he
   · exact k.ent x (List.mem_append.2 (.inr (List.mem_cons_of_mem _ hx)))
section
variable {k : Kx} {Q : Exit → Env → H → Prop} {ρ ρ' : Env} {h h' h1 h2 hr : H} {ops : Array Oper} {l : List Oper} {d : Nat} {dst : Option Tmp} {ty : TypeId} {pos : String} {after : Array Edge}
theorem cI {q : Sl} {n : Nat} {E : TypeId} {sz : Nat} {cs : List AV} (hn : 0 < n)
 (hj : ∀ (g cap : Nat) (js : List Value), q = ⟨some ⟨g, 0, none⟩, n, cap⟩ → n ≤ cap → cap ≤ maxLen → cs.length = n * sz → cs.length + js.length = cap * sz → JL k ops l Q ρ (h1 ++ .cells g E (cs ++ js.map AV.val) :: h2)) :
 JL k ops l Q ρ (h1 ++ .row q.v n E sz cs :: h2) := by
 intro I a w k1 k2 k3
 have he := k1.ent (.row q.v n E sz cs) (by simp)
 obtain ⟨g, cap, cur, rfl, hg, m1, m2, m3, hrel⟩ := Ent.row_form he hn
 have hl : cs.length = n * sz := by
  have h1 := AV.rels_length hrel
  have h2 : n * sz ≤ cap * sz := Nat.mul_le_mul_right _ m1
  rw [List.length_take, Array.length_toList (xs := cur), m3] at h1
  omega
 have e := hj g cap (cur.toList.drop (n * sz)) rfl m1 m2 hl (by rw [hl, List.length_drop, Array.length_toList (xs := cur), m3]; have h2 : n * sz ≤ cap * sz := Nat.mul_le_mul_right _ m1; omega)
 refine e I a w (k1.reent rfl ⟨cur, hg, ?_⟩) k2 k3
 have := AV.rels_append hrel (rels_vals w I (cur.toList.drop (n * sz)))
 rwa [List.take_append_drop] at this
theorem ZN {g cap n : Nat} {E : TypeId} {sz : Nat} {cs : List AV} {js : List Value} (m1 : n ≤ cap) (m2 : cap ≤ maxLen) (hl : cs.length = n * sz) (hc : cs.length + js.length = cap * sz)
 (hj : JL k ops l Q ρ (h1 ++ .row (.slice (some ⟨g, 0, none⟩) n cap) n E sz cs :: h2)) : JL k ops l Q ρ (h1 ++ .cells g E (cs ++ js.map AV.val) :: h2) := by
 intro I a w k1 k2 k3
 obtain ⟨cur, hg, hrel⟩ := k1.ent (.cells g E (cs ++ js.map AV.val)) (by simp)
 have hlen := AV.rels_length hrel
 rw [List.length_append, List.length_map, Array.length_toList (xs := cur)] at hlen
 refine hj I a w (k1.reent rfl ⟨cur.toList.take (n * sz), ⟨?_, .inr ⟨g, cap, cur, rfl, Nat.zero_le _, hg, m1, m2, by omega, rfl⟩⟩, ?_⟩) k2 k3
 · rw [List.length_take, Array.length_toList (xs := cur)]; omega
 · have := C0 (n * sz) hrel
   rwa [List.take_append_of_le_length (by omega), List.take_of_length_le (by omega)] at this
theorem TK {cs js rs : List AV} {off : Nat} (h : off + rs.length ≤ cs.length) : setAt (cs ++ js) off rs = setAt cs off rs ++ js := by
 unfold setAt
 rw [List.take_append_of_le_length (by omega), List.drop_append_of_le_length h]
 simp [List.append_assoc]
theorem J0 {T E : TypeId} {x y : Operand} {q : Sl} {off n sz0 : Nat} {r : AV} {cs : List AV} {z : Value} {sz eb : Nat} (hx : ev ρ x = .val (.pointer (some (q.at off)))) (hy : ev ρ y = r) (hs : r.stor = true) (hE : El k.P T z sz eb) (hn : sz = r.cl.length) (h0 : 0 < n)
 (hoff : off + r.cl.length ≤ cs.length) (hj : JL k ops l Q ρ (h1 ++ .row q.v n E sz0 (setAt cs off r.cl) :: h2)) : JL k ops (⟨none, .store T x y, ty, pos, after, none⟩ :: l) Q ρ (h1 ++ .row q.v n E sz0 cs :: h2) := by
 refine cI h0 fun g cap js hq m1 m2 m3 m4 => ?_
 subst hq
 refine HH (b := g) (off := off) (r := r) (vs := cs ++ js.map AV.val) hx hy hs hE hn rfl (by rw [List.length_append]; omega) ?_
 rw [TK hoff]
 have hl : (setAt cs off r.cl).length = cs.length := by
  unfold setAt
  simp only [List.length_append, List.length_take, List.length_drop]
  omega
 exact ZN m1 m2 (by rw [hl]; exact m3) (by rw [hl]; exact m4) hj
theorem MX {α : Type} {f : α → List D} {sz : Nat} (hsz : ∀ a, (f a).length = sz) : ∀ (xs : List α) (j : Nat) (a : α), j < xs.length → setAt (((xs.map f).flatten).map D.av) (j * sz) ((f a).map D.av) = (((xs.set j a).map f).flatten).map D.av
 | [], j, a, h => by simp at h
 | x :: xs, 0, a, _ => by
   have e : ((f x).map D.av).length = sz := by rw [List.length_map, hsz]
   have e' : ((f a).map D.av).length = sz := by rw [List.length_map, hsz]
   simp only [setAt, Nat.zero_mul, List.take_zero, List.nil_append, Nat.zero_add, List.map_cons, List.flatten_cons, List.map_append, List.set_cons_zero]
   rw [e', ← e, List.drop_left]
 | x :: xs, j + 1, a, h => by
   have ih := MX hsz xs j a (by simpa using h)
   have e : ((f x).map D.av).length = sz := by rw [List.length_map, hsz]
   simp only [List.map_cons, List.flatten_cons, List.map_append, List.set_cons_succ]
   rw [← ih]
   unfold setAt
   have e2 : (j + 1) * sz = ((f x).map D.av).length + j * sz := by rw [e, Nat.add_mul]; omega
   rw [e2, List.take_length_add_append, Nat.add_assoc, List.drop_length_add_append]
   simp [List.append_assoc]
theorem fS {α : Type} {f : α → List D} {xs : List α} {a : α} {T E : TypeId} {x y : Operand} {q : Sl} {j sz : Nat} {r : AV} {z : Value} {eb : Nat} (hx : evO ρ x = some (.val (.pointer (some (q.at (j * sz)))))) (hy : evO ρ y = some r) (hu : Upd (AF q.v E sz f xs) (AF q.v E sz f (xs.set j a)) h h') (hr : r.cl = (f a).map D.av) (hs : r.stor = true) (hE : El k.P T z sz eb) (hsz : ∀ a, (f a).length = sz) (hjl : j < xs.length)
 (hj : JL k ops l Q ρ h') : JL k ops (⟨none, .store T x y, ty, pos, after, none⟩ :: l) Q ρ h := by
 obtain ⟨h1, h2, rfl, rfl⟩ := hu.split
 have hfl : ((((xs.map f).flatten).map D.av)).length = xs.length * sz := by
  rw [List.length_map, BM _ (fun r hr => by obtain ⟨a, _, rfl⟩ := List.mem_map.1 hr; exact hsz a), List.length_map]
 have hlen : r.cl.length = sz := by rw [hr, List.length_map, hsz]
 refine J0 (off := j * sz) (r := r) (AA hx) (AA hy) hs hE hlen.symm (by omega) ?_ ?_
 · rw [hfl, hlen]
   have : (j + 1) * sz ≤ xs.length * sz := Nat.mul_le_mul_right _ (by omega)
   rw [Nat.add_mul] at this
   omega
 · rw [hr, MX hsz xs j a hjl]
   unfold AF at hj
   rwa [List.length_set] at hj
theorem cg {α : Type} {f : α → List D} {xs : List α} {a : α} {T E : TypeId} {x y : Operand} {q : Sl} {j : Nat} {r : AV} {z : Value} {eb : Nat} (hx : evO ρ x = some (.val (.pointer (some (q.at (j * 1)))))) (hy : evO ρ y = some r) (hE : El k.P T z 1 eb) (hs : r.flat = true) (hu : Upd (AF q.v E 1 f xs) (AF q.v E 1 f (xs.set j a)) h h') (hr : [r] = (f a).map D.av) (hsz : ∀ a, (f a).length = 1) (hjl : j < xs.length)
 (hj : JL k ops l Q ρ h') : JL k ops (⟨none, .store T x y, ty, pos, after, none⟩ :: l) Q ρ h :=
 fS hx hy hu (by rw [(K0 hs).1]; exact hr) (K0 hs).2 hE hsz hjl hj
theorem eI {α : Type} {f : α → List D} {xs : List α} {T E : TypeId} {x hi : Operand} {q : Sl} {n : Int} {sz eb : Nat} {z : Value} {H' : Sl → H} (hx : evO ρ x = some (.val q.v)) (hhi : evO ρ hi = some (.int n)) (hT : k.P.underlying T = some (.slice E)) (hE : El k.P E z sz eb)
 (hu : ∀ q' : Sl, Upd (AF q.v E sz f xs) (AF q'.v E sz f (xs.take n.toNat)) h (H' q')) (hsz : ∀ a, (f a).length = sz) (h0 : 0 ≤ n) (hn : n ≤ xs.length) (hd : Nat.blt d k.n = true)
 (hj : All fun q' : Sl => JL k ops l Q ((d, .val q'.v) :: ρ) (H' q')) : JL k ops (⟨some d, .slice T x none (some hi) none, ty, pos, after, none⟩ :: l) Q ρ h := by
 obtain ⟨h1, h2, e1, _⟩ := (hu Sl.nil).split
 have hperm : ∀ q' : Sl, (h1 ++ AF q'.v E sz f (xs.take n.toNat) :: h2).Perm (H' q') := fun q' => by
  obtain ⟨r, p1, p2⟩ := (hu q').perm
  refine List.perm_middle.trans (List.Perm.trans (List.Perm.cons _ ?_) p2.symm)
  rw [e1] at p1
  exact (List.perm_middle.symm.trans p1).cons_inv
 subst e1
 obtain ⟨i, hi', _, hsz', _⟩ := hE.get
 refine DT rfl (fun t ht => by cases ht; exact blt hd) fun I a w k1 k2 => ?_
 have v1 := AI (k2.ev x) (AA hx)
 have v2 := AI (k2.ev hi) (AA hhi)
 have hfl : ∀ ys : List α, ((((ys.map f).flatten).map D.av)).length = ys.length * sz := fun ys => by
  rw [List.length_map, BM _ (fun r hr => by obtain ⟨a, _, rfl⟩ := List.mem_map.1 hr; exact hsz a), List.length_map]
 have htake : (((xs.take n.toNat).map f).flatten).map D.av = ((((xs.map f).flatten).map D.av)).take (n.toNat * sz) := by
  have hl0 : ((((xs.take n.toNat).map f).flatten).map D.av).length = n.toNat * sz := by rw [hfl, List.length_take, Nat.min_eq_left (by omega)]
  have e : ((xs.map f).flatten).map D.av = (((xs.take n.toNat).map f).flatten).map D.av ++ (((xs.drop n.toNat).map f).flatten).map D.av := by
   rw [← List.map_append, ← List.flatten_append, ← List.map_append, List.take_append_drop]
  rw [e, List.take_append_of_le_length (by omega)]
  exact (List.take_of_length_le (by omega)).symm
 have hlt : (xs.take n.toNat).length = n.toNat := by rw [List.length_take]; omega
 by_cases hx0 : 0 < xs.length
 · obtain ⟨g, cap, cur, rfl, hg, m1, m2, m3, hrel⟩ := Ent.row_form (k1.ent (AF q.v E sz f xs) (by simp)) hx0
   have b1 : 0 ≤ n ∧ n ≤ (cap : Int) := by omega
   have hle : n.toNat * sz ≤ cap * sz := Nat.mul_le_mul_right _ (by omega)
   have hle2 : n.toNat * sz ≤ xs.length * sz := Nat.mul_le_mul_right _ (by omega)
   refine ⟨.slice (some ⟨g, 0, none⟩) n.toNat cap, w, I, .val (Sl.v ⟨some ⟨g, 0, none⟩, n.toNat, cap⟩), _, ?_, (Ok.reent k1 (e' := AF (Sl.v ⟨some ⟨g, 0, none⟩, n.toNat, cap⟩) E sz f (xs.take n.toNat)) rfl ?_), k2, rfl, FX (VS.perm (hperm _)) (hj.get _)⟩
   · simp [execOp, v1, v2, Instr.sliceAt, run_underlying hT, Instr.slice, Instr.sliceBounds, Instr.sliceBound, asIntOf, b1, sizeOf, typeInfo, hi', Addr.add]
   · refine ⟨cur.toList.take (n.toNat * sz), ⟨?_, .inr ⟨g, cap, cur, by rw [hlt], Nat.zero_le _, hg, by rw [hlt]; omega, m2, m3, by rw [hlt]⟩⟩, ?_⟩
     · rw [List.length_take, Array.length_toList (xs := cur), m3, hlt]; omega
     · rw [htake]
       have := C0 (n.toNat * sz) hrel
       rwa [List.take_take, Nat.min_eq_left hle2] at this
 · obtain rfl : xs = [] := List.eq_nil_of_length_eq_zero (by omega)
   have hn0 : n = 0 := by simp at hn; omega
   subst hn0
   have he := k1.ent (AF q.v E sz f []) (by simp)
   obtain ⟨os, ho, _⟩ := he
   obtain ⟨ad, c, hq⟩ : ∃ ad c, q = ⟨ad, 0, c⟩ := by
    rcases ho.2 with ⟨hv, _⟩ | ⟨g, cap, cur, hv, _⟩
    · obtain ⟨a1, a2, a3⟩ := q
      simp only [Sl.v, Value.slice.injEq] at hv
      exact ⟨a1, a3, by rw [hv.2.1]⟩
    · obtain ⟨a1, a2, a3⟩ := q
      simp only [Sl.v, Value.slice.injEq] at hv
      exact ⟨a1, a3, by rw [hv.2.1]; rfl⟩
   subst hq
   refine ⟨.slice ad 0 c, w, I, .val (Sl.v ⟨ad, 0, c⟩), _, ?_, k1, k2, rfl, FX (VS.perm (hperm ⟨ad, 0, c⟩)) (hj.get _)⟩
   have e0 : ad.map (fun x => x.add 0) = ad := by cases ad <;> simp [Addr.add]
   simp [execOp, v1, v2, Instr.sliceAt, run_underlying hT, Instr.slice, Instr.sliceBounds, Instr.sliceBound, asIntOf, sizeOf, typeInfo, hi', e0]
end
def Sl.sub (q : Sl) (m sz : Nat) : Sl := ⟨if q.c = m then q.ad else q.ad.map (·.add (m * sz)), q.n - m, q.c - m⟩
section
variable {P : Program} {G : List (Nat × List D)} {ρ : Env} {h : H} {dst : Option Tmp} {ty : TypeId} {pos : String} {after : Array Edge} {g : Option (Nat × Bool)}
theorem UY {c : Cx} {I : Nat → Prop} {w : World} {α : Type} {f : α → List D} {xs : List α} {E : TypeId} {q : Sl} {sz : Nat} (hok : Ok c I h w) (hm : AF q.v E sz f xs ∈ h) : q.n = xs.length ∧ q.n ≤ q.c := by
 obtain ⟨os, ho, _⟩ := hok.ent _ hm
 obtain ⟨a1, a2, a3⟩ := q
 rcases ho.2 with ⟨hv, h0⟩ | ⟨g, cap, cur, hv, _, _, m1, _⟩
 · simp only [Sl.v, Value.slice.injEq] at hv
   obtain ⟨rfl, rfl, rfl⟩ := hv
   exact ⟨by dsimp only; omega, Nat.le_refl _⟩
 · simp only [Sl.v, Value.slice.injEq] at hv
   obtain ⟨rfl, rfl, rfl⟩ := hv
   exact ⟨rfl, m1⟩
theorem Pv {α : Type} {f : α → List D} {xs : List α} {T E : TypeId} {x lo : Operand} {q : Sl} {m : Int} {sz eb : Nat} {z : Value} (hx : evO ρ x = some (.val q.v)) (hlo : evO ρ lo = some (.int m)) (hT : P.underlying T = some (.slice E)) (hE : El P E z sz eb)
 (hm : AF q.v E sz f xs ∈ h) (h0 : 0 ≤ m) (hn : m ≤ xs.length) : Pure P G ⟨dst, .slice T x (some lo) none none, ty, pos, after, g⟩ ρ h (.val (q.sub m.toNat sz).v) := by
 intro c I n a w _ hok hs
 obtain ⟨i, hi, _, hsz, _⟩ := hE.get
 have e1 := AI (hs.ev x) (AA hx)
 have e2 := AI (hs.ev lo) (AA hlo)
 obtain ⟨r1, r2⟩ := UY hok hm
 refine ⟨_, rfl, fun w' _ => ?_⟩
 have b1 : 0 ≤ m ∧ m ≤ (q.n : Int) := by omega
 have b2 : (0 : Int) ≤ q.n ∧ (q.n : Int) ≤ q.c := by omega
 simp [execOp, e1, e2, Instr.sliceAt, run_underlying hT, Instr.slice, Instr.sliceBounds, Instr.sliceBound, asIntOf, b1, b2, sizeOf, typeInfo, hi, hsz, Sl.sub]
theorem TQ {α : Type} {f : α → List D} {xs : List α} {T E E' : TypeId} {x : Operand} {q : Sl} {m sz sz' : Nat} (hx : evO ρ x = some (.val (q.sub m sz).v)) (hT : P.underlying T = some (.slice E')) (hm : AF q.v E sz' f xs ∈ h) : Pure P G ⟨dst, .call { callee := .builtin .len, args := #[x], argTypes := #[T] }, ty, pos, after, g⟩ ρ h (.int ((xs.length - m : Nat) : Int)) := by
 intro c I n a w _ hok hs
 obtain ⟨r1, r2⟩ := UY hok hm
 have e1 := AI (hs.ev x) (AA hx)
 refine ⟨_, rfl, fun w' _ => ?_⟩
 have e2 : a.eval x = .slice (q.sub m sz).ad (q.n - m) (q.c - m) := e1
 simp [execOp, resolve, invoke, builtin, e2, Builtin.len_, run_underlying hT, goInt, r1]
theorem OU {α : Type} {f : α → List D} {xs : List α} {T E : TypeId} {x y : Operand} {q : Sl} {m n sz eb : Nat} {z : Value} (hx : evO ρ x = some (.val (q.sub m sz).v)) (hy : evO ρ y = some (.int (n : Int))) (hT : P.underlying T = some (.slice E)) (hE : El P E z sz eb)
 (hm : AF q.v E sz f xs ∈ h) (hn : m + n < xs.length) : Pure P G ⟨dst, .indexAddr T x y, ty, pos, after, g⟩ ρ h (.val (.pointer (some (q.at ((m + n) * sz))))) := by
 intro c I o a w _ hok hs
 obtain ⟨i, hi, _, hsz, _⟩ := hE.get
 obtain ⟨gb, cap, cur, rfl, hg, m1, _⟩ := Ent.row_form (hok.ent _ hm) (by omega)
 have e1 := AI (hs.ev x) (AA hx)
 have e2 := AI (hs.ev y) (AA hy)
 have hc : cap ≠ m := by omega
 have e3 : a.eval x = .slice (some ⟨gb, m * sz, none⟩) (xs.length - m) (cap - m) := by
  rw [e1]; simp [Sl.sub, Sl.v, hc, Addr.add_lit]
 refine ⟨_, rfl, fun w' _ => ?_⟩
 have h1 : n < xs.length - m := by omega
 simp [execOp, e3, e2, Instr.indexAt, run_underlying hT, asIntOf, h1, sizeOf, typeInfo, hi, hsz, Sl.at, Addr.add_lit, Nat.add_mul]
end
inductive InA (d : D) : List AV → Prop where
 | here {as_ : List AV} : InA d (.d d :: as_)
 | agg {cs as_ : List AV} (h : InA d cs) : InA d (.agg cs :: as_)
 | there {a : AV} {as_ : List AV} (h : InA d as_) : InA d (a :: as_)
theorem InA.rel {d : D} {w : World} {I : Nat → Prop} {args : List AV} (h : InA d args) : ∀ {vs : List Value}, AV.rels w I args vs → ∃ v, Rel w I d v := by
 induction h with
 | here => intro vs hr; cases vs with | nil => exact hr.elim | cons v vs => exact ⟨v, hr.1⟩
 | agg _ ih => intro vs hr; cases vs with | nil => exact hr.elim | cons v vs => obtain ⟨us, _, h⟩ := hr.1; exact ih h
 | there _ ih => intro vs hr; cases vs with | nil => exact hr.elim | cons v vs => exact ih hr.2
theorem AC.factI {α : Type} {f : α → List D} {xs : List α} {P : Program} {G : List (Nat × List D)} {fn : FuncId} {args : List AV} {h : H} {Q : AE → H → Prop} {sz eb : Nat} (hm : InA (.l sz eb (xs.map f)) args) (hac : xs.length * eb ≤ 140737488355328 → AC P G fn args h Q) : AC P G fn args h Q := by
 intro I W vs h1 h2 h3 h4 h5
 obtain ⟨v, hv⟩ := hm.rel h5
 have := (Rel.len_le hv).1
 rw [List.length_map] at this
 exact hac this I W vs h1 h2 h3 h4 h5
theorem AC.factN {α : Type} {f : α → List D} {g : List α → List D} {xss : List (List α)} {P : Program} {G : List (Nat × List D)} {fn : FuncId} {args : List AV} {h : H} {Q : AE → H → Prop} {sz eb : Nat} (sz' eb' : Nat) (hg : ∀ x, g x = [.l sz' eb' (x.map f)]) (hm : InA (.l sz eb (xss.map g)) args) (hac : (∀ x ∈ xss, x.length * eb' ≤ 140737488355328) → AC P G fn args h Q) : AC P G fn args h Q := by
 intro I W vs h1 h2 h3 h4 h5
 obtain ⟨v, hv⟩ := hm.rel h5
 refine hac (fun x hx => ?_) I W vs h1 h2 h3 h4 h5
 obtain ⟨j, hj, rfl⟩ := List.getElem_of_mem hx
 have key : ∀ rows, rows = xss.map g → Rel W I (.l sz eb rows) v → ∃ u, Rel W I (.l sz' eb' (xss[j].map f)) u := fun rows hr hrel => by
  have hrow : rows[j]? = some [D.l sz' eb' (xss[j].map f)] := by rw [hr, List.getElem?_map, List.getElem?_eq_getElem hj, ← hg]; rfl
  cases hrel with
  | nil => simp at hrow
  | emp => simp at hrow
  | l _ _ _ ad cap css hI hcap hm hb hsz hc hr => exact ⟨_, hr j 0 _ _ hrow rfl⟩
 obtain ⟨u, hu⟩ := key _ rfl hv
 have := (Rel.len_le hu).1
 rwa [List.length_map] at this

def Sl.cut (q : Sl) (n : Nat) : Sl := ⟨q.ad, n, q.c⟩
section
variable {k : Kx} {Q : Exit → Env → H → Prop} {ρ ρ' : Env} {h h' h1 h2 hr : H} {ops : Array Oper} {l : List Oper} {d : Nat} {dst : Option Tmp} {ty : TypeId} {pos : String} {after : Array Edge}
theorem Bs {id tn : Nat} {l : List Oper} (t : Nat) (hm : k.P.follows .mixedOrders = true) (_hn : l.length = tn + t) (hB : Region.lexTailB .any l.toArray tn = true) (hj : JQ k l.toArray tn l Q ρ h) : J k (.region id l.toArray true) Q ρ h :=
 fun I a w h1 h2 h3 => D0 (C := Ev I h w) tn hm hB ⟨rfl, rfl, rfl, Nat.le_refl _, fun _ _ => rfl⟩ (hj I a w h1 h2 h3)
theorem VS.cut {α : Type} {f : α → List D} {xs : List α} {E : TypeId} {sz : Nat} {q : Sl} {n : Nat} (hu : Upd (AF q.v E sz f xs) (AF (q.cut n).v E sz f (xs.take n)) h h') (hsz : ∀ a, (f a).length = sz) (hn : n ≤ xs.length) : VS ρ h ρ h' := by
 obtain ⟨h1, h2, rfl, rfl⟩ := hu.split
 intro c I m a w k1 k2
 have hfl : ∀ ys : List α, ((((ys.map f).flatten).map D.av)).length = ys.length * sz := fun ys => by
  rw [List.length_map, BM _ (fun r hr => by obtain ⟨a, _, rfl⟩ := List.mem_map.1 hr; exact hsz a), List.length_map]
 have htake : (((xs.take n).map f).flatten).map D.av = ((((xs.map f).flatten).map D.av)).take (n * sz) := by
  have hl0 : ((((xs.take n).map f).flatten).map D.av).length = n * sz := by rw [hfl, List.length_take, Nat.min_eq_left (by omega)]
  have e : ((xs.map f).flatten).map D.av = (((xs.take n).map f).flatten).map D.av ++ (((xs.drop n).map f).flatten).map D.av := by
   rw [← List.map_append, ← List.flatten_append, ← List.map_append, List.take_append_drop]
  rw [e, List.take_append_of_le_length (by omega)]
  exact (List.take_of_length_le (by omega)).symm
 have hlt : (xs.take n).length = n := by rw [List.length_take]; omega
 by_cases hx0 : 0 < xs.length
 · obtain ⟨g, cap, cur, rfl, hg, m1, m2, m3, hrel⟩ := Ent.row_form (k1.ent (AF q.v E sz f xs) (by simp)) hx0
   have hle : n * sz ≤ cap * sz := Nat.mul_le_mul_right _ (by omega)
   have hle2 : n * sz ≤ xs.length * sz := Nat.mul_le_mul_right _ hn
   refine ⟨I, Ok.reent k1 (e' := AF (Sl.v ⟨some ⟨g, 0, none⟩, n, cap⟩) E sz f (xs.take n)) rfl ?_, k2⟩
   refine ⟨cur.toList.take (n * sz), ⟨?_, .inr ⟨g, cap, cur, by rw [hlt], Nat.zero_le _, hg, by rw [hlt]; omega, m2, m3, by rw [hlt]⟩⟩, ?_⟩
   · rw [List.length_take, Array.length_toList (xs := cur), m3, hlt]; omega
   · rw [htake]
     have := C0 (n * sz) hrel
     rwa [List.take_take, Nat.min_eq_left hle2] at this
 · obtain rfl : xs = [] := List.eq_nil_of_length_eq_zero (by omega)
   have hn0 : n = 0 := by simpa using hn
   subst hn0
   obtain ⟨r1, r2⟩ := UY k1 (q := q) (f := f) (xs := []) (E := E) (sz := sz) (by simp)
   have : q.cut 0 = q := by
    obtain ⟨a1, a2, a3⟩ := q
    simp only [Sl.cut]
    simp at r1
    rw [r1]
   rw [this]
   exact ⟨I, k1, k2⟩
theorem ZO {fr : Nat × Nat → List D} {xs : List (Nat × Nat)} {T E : TypeId} {x y : Operand} {q : Sl} {j : Nat} {v : Int} {z : Value} {eb : Nat} (hx : evO ρ x = some (.val (.pointer (some (q.at (j * 2 + 1)))))) (hy : evO ρ y = some (.int v)) (hE : El k.P T z 1 eb) (hjl : j < xs.length)
 (hu : Upd (AF q.v E 2 fr xs) (AF q.v E 2 fr (xs.set j (xs[j].1, xs[j].2 + 1))) h h') (hfr : ∀ p, fr p = [.i .i64 (p.1 : Int), .i .i64 (p.2 : Int)]) (hv : v = (xs[j].2 : Int) + 1)
 (hj : JL k ops l Q ρ h') : JL k ops (⟨none, .store T x y, ty, pos, after, none⟩ :: l) Q ρ h := by
 obtain ⟨h1, h2, rfl, rfl⟩ := hu.split
 have hsz : ∀ a, (fr a).length = 2 := fun a => by rw [hfr]; rfl
 have hfl : ((((xs.map fr).flatten).map D.av)).length = xs.length * 2 := by
  rw [List.length_map, BM _ (fun r hr => by obtain ⟨a, _, rfl⟩ := List.mem_map.1 hr; exact hsz a), List.length_map]
 refine J0 (off := j * 2 + 1) (r := .int v) (AA hx) (AA hy) rfl hE rfl (by omega) (by rw [hfl]; simp [AV.cl]; omega) ?_
 have e : setAt (((xs.map fr).flatten).map D.av) (j * 2 + 1) (AV.cl (.int v)) = (((xs.set j (xs[j].1, xs[j].2 + 1)).map fr).flatten).map D.av := by
  rw [← MX hsz xs j _ hjl, hfr]
  have hg0 : (((xs.map fr).flatten).map D.av)[j * 2]? = some (.int (xs[j].1 : Int)) := by
   have := RX (f := fr) (xs := xs) (sz := 2) (j := j) (u := 0) (c := .i .i64 (xs[j].1 : Int)) hsz hjl (by rw [hfr]; rfl)
   simpa [D.av] using this
  generalize (((xs.map fr).flatten).map D.av) = cs at hg0
  have hlt := (List.getElem?_eq_some_iff.1 hg0).1
  have hge := (List.getElem?_eq_some_iff.1 hg0).2
  subst hv
  simp only [setAt, AV.cl, List.map_cons, List.map_nil, D.av, List.length_cons, List.length_nil]
  rw [List.take_succ_eq_append_getElem hlt, hge]
  simp [List.append_assoc]
 rw [e]
 unfold AF at hj
 rwa [List.length_set] at hj
end
section
variable {P : Program} {G : List (Nat × List D)} {ρ : Env} {h : H} {dst : Option Tmp} {ty : TypeId} {pos : String} {after : Array Edge} {g : Option (Nat × Bool)}
theorem Oh {α : Type} {f : α → List D} {xs : List α} {T E : TypeId} {x hi : Operand} {q : Sl} {n : Int} {sz eb : Nat} {z : Value} (hx : evO ρ x = some (.val q.v)) (hhi : evO ρ hi = some (.int n)) (hT : P.underlying T = some (.slice E)) (hE : El P E z sz eb)
 (hm : AF q.v E sz f xs ∈ h) (h0 : 0 ≤ n) (hn : n ≤ xs.length) : Pure P G ⟨dst, .slice T x none (some hi) none, ty, pos, after, g⟩ ρ h (.val (q.cut n.toNat).v) := by
 intro c I o a w _ hok hs
 obtain ⟨i, hi', _, hsz, _⟩ := hE.get
 have e1 := AI (hs.ev x) (AA hx)
 have e2 := AI (hs.ev hi) (AA hhi)
 obtain ⟨r1, r2⟩ := UY hok hm
 refine ⟨_, rfl, fun w' _ => ?_⟩
 have b1 : 0 ≤ n ∧ n ≤ (q.c : Int) := by omega
 have e0 : q.ad.map (fun x => x.add 0) = q.ad := by cases q.ad <;> simp [Addr.add_lit, Addr.add]
 simp [execOp, e1, e2, Instr.sliceAt, run_underlying hT, Instr.slice, Instr.sliceBounds, Instr.sliceBound, asIntOf, b1, sizeOf, typeInfo, hi', Sl.cut, e0]
end

def bO : List Nat → List (List Nat)
 | [] => [[]]
 | x :: l => bO l ++ (bO l).map (x :: ·)
theorem Xt {S l : List Nat} (h : S.Sublist l) : S ∈ bO l := by
 induction h with
 | slnil => exact List.mem_cons_self
 | cons a _ ih => exact List.mem_append.2 (.inl ih)
 | cons_cons a _ ih => exact List.mem_append.2 (.inr (List.mem_map.2 ⟨_, ih, rfl⟩))
def marks (listed : Array Bool) : List Nat → Array Bool
 | [] => listed
 | i :: l => (marks listed l).setIfInBounds i true
theorem Mv {listed : Array Bool} {l l' : List Nat} (h : l.Perm l') : marks listed l = marks listed l' := by
 induction h with
 | nil => rfl
 | cons x _ ih => simp only [marks, ih]
 | swap x y l =>
   simp only [marks]
   by_cases e : x = y
   · rw [e]
   · rw [Array.setIfInBounds_comm _ _ (Ne.symm e)]
 | trans _ _ ih1 ih2 => exact ih1.trans ih2
def Yo (ops : Array Oper) (listed : Array Bool) (is : List Nat) : Bool :=
 (bO is).all fun T => decide (T.length = is.length) || (!(Region.ready .any ops (marks listed T)).isEmpty && (Region.ready .any ops (marks listed T)).all fun j => is.contains j && !T.contains j)
section
variable {k : Kx} {Q : Exit → Env → H → Prop} {ρ ρ' : Env} {h : H} {ops : Array Oper} {listed : Array Bool} {n f : Nat}
theorem gj (hle : Env.le ρ ρ') (hj : JX k ops f listed Q ρ' h) : JX k ops f listed Q ρ h := ⟨fun h1 h2 I a w k1 k2 k3 => hj.get h1 h2 I a w k1 (k2.le hle) k3⟩
inductive Reads (k : Kx) (ops : Array Oper) (ρ : Env) (h : H) : List (Nat × Nat × AV) → Prop where
 | nil : Reads k ops ρ h []
 | cons {i d : Nat} {r : AV} {op : Op} {ty : TypeId} {pos : String} {after : Array Edge} {l : List (Nat × Nat × AV)} (ho : ops[i]? = some ⟨some d, op, ty, pos, after, none⟩) (hp : Pure k.P k.c.G ⟨some d, op, ty, pos, after, none⟩ ρ h r) (hd : Nat.blt d k.n = true) (hf : FV ρ d = none) (t : Reads k ops ρ h l) : Reads k ops ρ h ((i, d, r) :: l)
theorem Reads.get {l : List (Nat × Nat × AV)} (t : Reads k ops ρ h l) {p : Nat × Nat × AV} (hp : p ∈ l) : ∃ op ty pos after, ops[p.1]? = some ⟨some p.2.1, op, ty, pos, after, none⟩ ∧ Pure k.P k.c.G ⟨some p.2.1, op, ty, pos, after, none⟩ ρ h p.2.2 ∧ p.2.1 < k.n ∧ FV ρ p.2.1 = none := by
 induction t with
 | nil => cases hp
 | cons ho h1 h2 h3 _ ih =>
   rcases List.mem_cons.1 hp with rfl | hp
   · exact ⟨_, _, _, _, ho, h1, blt h2, h3⟩
   · exact ih hp
def Fi (T : List (Nat × Nat × AV)) (ρ : Env) : Env := T.map (fun p => (p.2.1, p.2.2)) ++ ρ
theorem get_none : ∀ {ρ : Env} {t : Nat}, FV ρ t = none → Av.get ρ t = .any
 | [], _, _ => rfl
 | (u, v) :: r, t, h => by
   simp only [FV, Av.get] at h ⊢
   cases hb : Nat.beq u t with
   | true => rw [hb] at h; cases h
   | false => rw [hb] at h; simp only [cond_false] at h ⊢; exact get_none h
theorem ZJ {T : List (Nat × Nat × AV)} (hf : ∀ p ∈ T, FV ρ p.2.1 = none) : Env.le (Fi T ρ) ρ := by
 induction T with
 | nil => exact Env.le_refl _
 | cons p T ih =>
   intro t
   have h1 := ih (fun q hq => hf q (List.mem_cons_of_mem _ hq)) t
   show AV.le (bif Nat.beq p.2.1 t then p.2.2 else Av.get (Fi T ρ) t) (Av.get ρ t)
   cases hb : Nat.beq p.2.1 t with
   | true =>
     have e : p.2.1 = t := Nat.eq_of_beq_eq_true hb
     rw [← e, get_none (hf p List.mem_cons_self)]
     exact AV.le_any _
   | false => exact h1
theorem Tu {T T' : List (Nat × Nat × AV)} (hp : T.Perm T') (hn : (T.map fun p => p.2.1).Nodup) : ∀ t, Av.get (Fi T ρ) t = Av.get (Fi T' ρ) t := by
 induction hp with
 | nil => intro t; rfl
 | cons x _ ih =>
   intro t
   show (bif Nat.beq x.2.1 t then x.2.2 else Av.get (Fi _ ρ) t) = (bif Nat.beq x.2.1 t then x.2.2 else Av.get (Fi _ ρ) t)
   rw [ih (List.nodup_cons.1 hn).2 t]
 | swap x y l =>
   intro t
   show (bif Nat.beq y.2.1 t then y.2.2 else bif Nat.beq x.2.1 t then x.2.2 else Av.get (Fi l ρ) t) = (bif Nat.beq x.2.1 t then x.2.2 else bif Nat.beq y.2.1 t then y.2.2 else Av.get (Fi l ρ) t)
   have hne : y.2.1 ≠ x.2.1 := fun e => (List.nodup_cons.1 hn).1 (by show y.2.1 ∈ _; rw [e]; exact List.mem_cons_self)
   cases h1 : Nat.beq y.2.1 t with
   | false => rfl
   | true =>
     have e1 : y.2.1 = t := Nat.eq_of_beq_eq_true h1
     cases h2 : Nat.beq x.2.1 t with
     | false => rfl
     | true => exact absurd (e1.trans (Nat.eq_of_beq_eq_true h2).symm) hne
 | trans h1 _ ih1 ih2 =>
   intro t
   rw [ih1 hn t, ih2 ((h1.map _).nodup_iff.1 hn) t]
theorem Yr {L : List (Nat × Nat × AV)} (t : Reads k ops ρ h L) (hc : Yo ops listed (L.map (·.1)) = true) (hn : (L.map fun p => p.2.1).Nodup) (hi : (L.map (·.1)).Nodup)
 (hj : JX k ops f (marks listed (L.map (·.1))) Q (Fi L ρ) h) : ∀ (m : Nat) (T R : List (Nat × Nat × AV)), R.length = m → (T ++ R).Perm L → JX k ops (f + m) (marks listed (T.map (·.1))) Q (Fi T ρ) h := by
 intro m
 induction m with
 | zero =>
   intro T R hR hp
   obtain rfl : R = [] := List.eq_nil_of_length_eq_zero hR
   rw [List.append_nil] at hp
   rw [Mv (hp.map _)]
   exact gj (fun t => AV.le_of_eq (Tu hp ((hp.map _).nodup_iff.2 hn) t)) hj
 | succ m ih =>
   intro T R hR hp
   have hpi := hp.map (·.1)
   rw [List.map_append] at hpi
   have hnd := hpi.nodup_iff.2 hi
   have hS : ((L.map (·.1)).filter fun j => (T.map (·.1)).contains j).Perm (T.map (·.1)) := by
    refine (hpi.symm.filter _).trans ?_
    rw [List.filter_append]
    have e1 : (T.map (·.1)).filter (fun j => (T.map (·.1)).contains j) = T.map (·.1) := List.filter_eq_self.2 fun a ha => by simpa using ha
    have e2 : (R.map (·.1)).filter (fun j => (T.map (·.1)).contains j) = [] := List.filter_eq_nil_iff.2 fun a ha hc => (List.nodup_append.1 hnd).2.2 a (by simpa using hc) a ha rfl
    rw [e1, e2, List.append_nil]
   have hsub := Xt (List.filter_sublist (p := fun j => (T.map (·.1)).contains j) (l := L.map (·.1)))
   have hchk := List.all_eq_true.1 hc _ hsub
   have hlen : ((L.map (·.1)).filter fun j => (T.map (·.1)).contains j).length ≠ (L.map (·.1)).length := by
    rw [hS.length_eq, ← hpi.length_eq]
    simp only [List.length_append, List.length_map]
    omega
   rw [decide_eq_false hlen, Bool.false_or, Mv hS, Bool.and_eq_true] at hchk
   refine aX (fun e => by rw [e] at hchk; simp at hchk) fun j hjr => ?_
   have hjc := List.all_eq_true.1 hchk.2 j hjr
   simp only [Bool.and_eq_true, Bool.not_eq_true'] at hjc
   have hjL : j ∈ L.map (·.1) := by simpa using hjc.1
   have hjT : j ∉ T.map (·.1) := fun hm => by
    have : ((L.map (·.1)).filter fun j => (T.map (·.1)).contains j).contains j = true := by simpa using hS.mem_iff.2 hm
    rw [this] at hjc
    exact absurd hjc.2 (by decide)
   have hjR : j ∈ R.map (·.1) := by
    rcases List.mem_append.1 (hpi.mem_iff.2 hjL) with h1 | h1
    · exact absurd h1 hjT
    · exact h1
   obtain ⟨p, hpR, rfl⟩ := List.mem_map.1 hjR
   obtain ⟨R1, R2, rfl⟩ := List.append_of_mem hpR
   have hpL : p ∈ L := hp.mem_iff.1 (by simp)
   obtain ⟨op, ty, pos, after, ho, hpu, hd, hfr⟩ := t.get hpL
   have hle : Env.le (Fi T ρ) ρ := ZJ fun q hq => by
    obtain ⟨_, _, _, _, _, _, _, h4⟩ := t.get (hp.mem_iff.1 (List.mem_append.2 (.inl hq)))
    exact h4
   have hpu' : Pure k.P k.c.G ⟨some p.2.1, op, ty, pos, after, none⟩ (Fi T ρ) h p.2.2 := fun c I n a w e1 e2 e3 => hpu c I n a w e1 e2 (e3.le hle)
   refine ⟨_, ho, VA hpu' rfl (fun t ht => by cases ht; exact hd) (L3 ⟨rfl, ?_⟩)⟩
   have hperm : (p :: T ++ (R1 ++ R2)).Perm L := by
    refine List.Perm.trans ?_ hp
    rw [List.cons_append, ← List.append_assoc, ← List.append_assoc]
    exact (List.perm_middle (l₁ := T ++ R1) (l₂ := R2) (a := p)).symm
   have := ih (p :: T) (R1 ++ R2) (by simp at hR ⊢; omega) hperm
   exact this
theorem XI (L : List (Nat × Nat × AV)) (is ds : List Nat) {g i m : Nat} (t : Reads k ops ρ h L) (his : L.map (·.1) = is) (hds : (L.map fun p => p.2.1) = ds) (hf : f + L.length = g) (hc : Yo ops listed is = true) (hn : ds.Nodup) (hi : is.Nodup)
 (hj : JXP k ops n f (marks listed is) 0 n Q (Fi L ρ) h) : JXP k ops n g listed i m Q ρ h := by
 subst his hds
 exact ⟨by rw [← hf]; exact Yr t hc hn hi hj.get L.length [] L rfl (by simp)⟩
end

structure Sam (T : List Nat) (w w' : World) : Prop where
 os : w'.os = w.os
 tape : w'.tape = w.tape
 output : w'.output = w.output
 size : w.heap.size ≤ w'.heap.size
 block : ∀ b, b < w.heap.size → b ∉ T → w'.heap[b]? = w.heap[b]?
theorem Sam.refl (T : List Nat) (w : World) : Sam T w w := ⟨rfl, rfl, rfl, Nat.le_refl _, fun _ _ _ => rfl⟩
def HB (ops : Array Oper) (n : Nat) : Bool :=
 Region.noSelect ops && decide (n ≤ ops.size) && (decide (n = ops.size) || (Region.sinkB .any ops n && Region.chainB .any ops n))
structure JH (k : Kx) (ops : Array Oper) (n f : Nat) (listed : Array Bool) (l2 : List Oper) (i m : Nat) (pr : Bool) (Q : Exit → Env → H → Prop) (hT : H) (ρ : Env) (h : H) : Prop where
 get : HB ops n = true → HeadInv .any ops n listed → ∀ I a w, Ok k.c I (hT ++ h) w → SF k.n w I ρ a → a.defers = k.df →
  Ge k.P .any ops (Sam (blks hT) w) n (fun listed' a' w' => Region.seqB .any ops (ops.size - n) n listed' = true ∧ wpList k.P ops (lift k Q) l2 a' w') f listed a w
structure JHS (k : Kx) (ops : Array Oper) (n f : Nat) (listed : Array Bool) (l2 : List Oper) (i m : Nat) (Q : Exit → Env → H → Prop) (hT : H) (ρ : Env) (h : H) : Prop where
 get : ∀ j, i ≤ j → j < i + m → j ∈ Region.ready .any ops listed → ∃ o, ops[j]? = some o ∧ ∀ c : World × (Nat → Prop) × List Nat, JL ⟨k.P, ⟨c.1, c.2.1, c.2.2, k.c.G⟩, k.n, k.df⟩ ops [o] (fun e ρ' hT' => e = .normal ∧ JH k ops n f (listed.setIfInBounds j true) l2 0 n false Q hT' ρ' h) ρ hT
theorem Ms {ops : Array Oper} {n : Nat} (hs : HB ops n = true) {i : Nat} (hi : i < n) : ∀ listed, HeadInv .any ops n listed → i ∈ Region.ready .any ops listed → ∀ j ∈ Region.ready .any ops listed, j < n := by
 simp only [HB, Bool.and_eq_true, Bool.or_eq_true, decide_eq_true_eq] at hs
 obtain ⟨⟨hsel, hle⟩, hor⟩ := hs
 intro listed inv hr j hj
 rcases hor with hn | ⟨hs, hc⟩
 · obtain ⟨_, o, ho, _⟩ := mem_ready.1 hj
   rw [hn]; exact (Array.getElem?_eq_some_iff.1 ho).1
 · rcases Nat.lt_or_ge j n with h | h
   · exact h
   · obtain ⟨_, o, ho, _⟩ := mem_ready.1 hj
     have hlt := (Array.getElem?_eq_some_iff.1 ho).1
     exact absurd hj (tail_waits hs hc (by omega) inv _ i rfl hi (mem_ready.1 hr).1 j h)
theorem bq {ops : Array Oper} {n : Nat} (hs : HB ops n = true) : Region.noSelect ops = true := by
 simp only [HB, Bool.and_eq_true] at hs
 exact hs.1.1
section
variable {k : Kx} {Q : Exit → Env → H → Prop} {ρ ρ' : Env} {h h' hT : H} {ops : Array Oper} {listed : Array Bool} {l2 : List Oper} {n f i m d : Nat} {op : Op} {ty : TypeId} {pos : String} {after : Array Edge} {pr : Bool}

theorem Ok.right {c : Cx} {I : Nat → Prop} {w : World} (k1 : Ok c I (hT ++ h) w) : Ok c I h w where
 ent e he := k1.ent e (List.mem_append.2 (.inr he))
 nd := by have := k1.nd; rw [AY] at this; exact (List.nodup_append.1 this).2.1
 imm b hb := ⟨(k1.imm b hb).1, fun hm => (k1.imm b hb).2 (by rw [AY]; exact List.mem_append.2 (.inr hm))⟩
 new b hb := k1.new b (by rw [AY]; exact List.mem_append.2 (.inr hb))
 inew := k1.inew
 sup := k1.sup
 os := k1.os
 tape := k1.tape
 output := k1.output
 size := k1.size
 keep := k1.keep
 glob := k1.glob
theorem Ok.left {c : Cx} {I : Nat → Prop} {w : World} (k1 : Ok c I (hT ++ h) w) : Ok ⟨w, I, blks hT, c.G⟩ I hT w where
 ent e he := k1.ent e (List.mem_append.2 (.inl he))
 nd := by have := k1.nd; rw [AY] at this; exact (List.nodup_append.1 this).1
 imm b hb := ⟨(k1.imm b hb).1, fun hm => (k1.imm b hb).2 (by rw [AY]; exact List.mem_append.2 (.inl hm))⟩
 new b hb := .inl hb
 inew b hb := .inl hb
 sup b hb := hb
 os := rfl
 tape := rfl
 output := rfl
 size := Nat.le_refl _
 keep _ _ _ := rfl
 glob := k1.glob
theorem Sam.weak {c : Cx} {I : Nat → Prop} {w w' : World} (k1 : Ok c I (hT ++ h) w) (s : Sam (blks hT) w w') : Nc I h w w' where
 imm b hb := s.block b (k1.imm b hb).1 fun hm => (k1.imm b hb).2 (by rw [AY]; exact List.mem_append.2 (.inl hm))
 own b hb := s.block b (by
  obtain ⟨e, he, heb⟩ := List.mem_filterMap.1 hb
  exact Ent.blk_lt (k1.ent e (List.mem_append.2 (.inr he))) heb) fun hm => by
  have := k1.nd
  rw [AY] at this
  exact (List.nodup_append.1 this).2.2 b hm b hb rfl
theorem Pm {o : Oper} {r : AV} (ho : ops[i]? = some o) (hc : Gf ops listed n i = true) (hd : ∀ t, o.dst = some t → t < k.n)
 (hy : ∀ I a w, Ok k.c I (hT ++ h) w → SF k.n w I ρ a → ∃ v, AV.rel w I r v ∧ YieldsIf k.P ops (Sam (blks hT) w) o v a)
 (hj : JH k ops n f (listed.setIfInBounds i true) l2 (i + 1) m true Q hT (put ρ o.dst r) h) : JH k ops n (f + 1) listed l2 i (m + 1) pr Q hT ρ h := by
 refine ⟨fun hs inv I a w h1 h2 h3 => ?_⟩
 simp only [Gf, Bool.and_eq_true, decide_eq_true_eq] at hc
 obtain ⟨⟨hr, hf⟩, hin⟩ := hc
 have hr' : i ∈ Region.ready .any ops listed := by simpa using hr
 obtain ⟨v, hv, hyv⟩ := hy I a w h1 h2
 exact Kl ho (Region.noSelect_spec (bq hs)) (Ms hs hin) hin (fun _ _ _ h => seqB_ready h.1) f listed a w inv (Region.free_spec ho hf) hr' hyv (Sam.refl _ _)
  (hj.get hs (inv.set hr' hin) I _ w h1 (h2.put hd hv) (by rw [Act.defers_put]; exact h3))
theorem ab {r : AV} (ho : ops[i]? = some ⟨some d, op, ty, pos, after, none⟩) (hc : Gf ops listed n i = true) (hp : Pure k.P k.c.G ⟨some d, op, ty, pos, after, none⟩ ρ h r) (hd : Nat.blt d k.n = true)
 (hj : JH k ops n f (listed.setIfInBounds i true) l2 (i + 1) m true Q hT ((d, r) :: ρ) h) : JH k ops n (f + 1) listed l2 i (m + 1) pr Q hT ρ h :=
 Pm ho hc (fun t ht => by cases ht; exact blt hd) (fun I a w h1 h2 => by
  obtain ⟨v, hv, hrun⟩ := hp k.c I k.n a w rfl h1.right h2
  exact ⟨v, hv, .inl ⟨by simp [Region.wanted], fun w' hw' => hrun w' (hw'.weak h1)⟩⟩) hj
theorem gJ {j dj : Nat} {want : Bool} {oj : Oper} {r : AV} (ho : ops[i]? = some ⟨some d, op, ty, pos, after, some (j, want)⟩) (hoj : ops[j]? = some oj) (hdj : oj.dst = some dj) (hr : get ρ dj = .val (.bool want)) (hn : Nat.blt dj k.n = true) (hc : Gf ops listed n i = true)
 (hp : Pure k.P k.c.G ⟨some d, op, ty, pos, after, some (j, want)⟩ ρ h r) (hd : Nat.blt d k.n = true)
 (hj : JH k ops n f (listed.setIfInBounds i true) l2 (i + 1) m true Q hT ((d, r) :: ρ) h) : JH k ops n (f + 1) listed l2 i (m + 1) pr Q hT ρ h :=
 Pm ho hc (fun t ht => by cases ht; exact blt hd) (fun I a w h1 h2 => by
  obtain ⟨v, hv, hrun⟩ := hp k.c I k.n a w rfl h1.right h2
  have hw := EP (ops := ops) (o := ⟨some d, op, ty, pos, after, some (j, want)⟩) h2 rfl hoj hdj hr (blt hn)
  exact ⟨v, hv, .inl ⟨by rw [hw]; simp, fun w' hw' => hrun w' (hw'.weak h1)⟩⟩) hj
theorem gX {j dj : Nat} {want : Bool} {oj : Oper} (ho : ops[i]? = some ⟨some d, op, ty, pos, after, some (j, want)⟩) (hoj : ops[j]? = some oj) (hdj : oj.dst = some dj) (hr : get ρ dj = .val (.bool (!want))) (hn : Nat.blt dj k.n = true) (hc : Gf ops listed n i = true) (hd : Nat.blt d k.n = true)
 (hj : JH k ops n f (listed.setIfInBounds i true) l2 (i + 1) m true Q hT ((d, .val undef) :: ρ) h) : JH k ops n (f + 1) listed l2 i (m + 1) pr Q hT ρ h :=
 Pm ho hc (fun t ht => by cases ht; exact blt hd) (fun I a w h1 h2 => by
  have hw := EP (ops := ops) (o := ⟨some d, op, ty, pos, after, some (j, want)⟩) h2 rfl hoj hdj hr (blt hn)
  exact ⟨undef, rfl, .inr ⟨by rw [hw]; cases want <;> simp, rfl⟩⟩) hj
theorem cj (hle : Env.le ρ ρ') (hj : JH k ops n f listed l2 i m pr Q hT ρ' h) : JH k ops n f listed l2 i m pr Q hT ρ h := ⟨fun hs inv I a w h1 h2 h3 => hj.get hs inv I a w h1 (h2.le hle) h3⟩
theorem ZH {j dj : Nat} {c want : Bool} {oj : Oper} (ho : ops[i]? = some ⟨some d, op, ty, pos, after, some (j, want)⟩) (hoj : ops[j]? = some oj) (hdj : oj.dst = some dj) (hr : get ρ dj = .val (.bool c)) (hc : Gf ops listed n i = true)
 (hb : CB c (JH k ops n (f + 1) listed l2 i (m + 1) pr Q hT ((dj, .bool true) :: ρ) h) (JH k ops n (f + 1) listed l2 i (m + 1) pr Q hT ((dj, .bool false) :: ρ) h)) : JH k ops n (f + 1) listed l2 i (m + 1) pr Q hT ρ h := by
 cases c with
 | true => exact cj (Env.le_cons (AV.le_of_eq hr) (Env.le_refl _)) (hb.1 rfl)
 | false => exact cj (Env.le_cons (AV.le_of_eq hr) (Env.le_refl _)) (hb.2 rfl)
theorem b8 (hj : JH k ops n f listed l2 (i + 1) m pr Q hT ρ h) : JH k ops n f listed l2 i (m + 1) pr Q hT ρ h := ⟨hj.get⟩
theorem aY (hj : JH k ops n f listed l2 0 n false Q hT ρ h) : JH k ops n f listed l2 i 0 true Q hT ρ h := ⟨hj.get⟩
theorem bD (hc : Region.seqB .any ops (ops.size - n) n listed = true) (ha : App hT h h') (hj : JL k ops l2 Q ρ h') : JH k ops n 0 listed l2 i m pr Q hT ρ h :=
 ⟨fun _ _ I a w h1 h2 h3 => ⟨hc, hj I a w (by rw [ha.eq]; exact h1) h2 h3⟩⟩
theorem dw (hne : (Region.ready .any ops listed).isEmpty = false) (hs : (Region.ready .any ops listed).all (fun j => decide (j < n)) = true) (hj : JHS k ops n f listed l2 0 n Q hT ρ h) : JH k ops n (f + 1) listed l2 i 0 false Q hT ρ h := by
 refine ⟨fun hsh inv I a w h1 h2 h3 => ⟨fun e => by rw [e] at hne; simp at hne, fun j hjr => ?_⟩⟩
 have hjn : j < n := by simpa using List.all_eq_true.1 hs j hjr
 refine ⟨hjn, ?_⟩
 obtain ⟨o, ho, hJ⟩ := hj.get j (Nat.zero_le _) (by omega) hjr
 have H := hJ (w, I, blks hT) I a w h1.left h2 h3
 unfold wpOp
 rw [ho]
 dsimp only at H ⊢
 have hK : ∀ a' w', lift ⟨k.P, ⟨w, I, blks hT, k.c.G⟩, k.n, k.df⟩ (fun e ρ' hT' => e = .normal ∧ JH k ops n f (listed.setIfInBounds j true) l2 0 n false Q hT' ρ' h) .normal a' w' →
  Sam (blks hT) w w' ∧ Ge k.P .any ops (Sam (blks hT) w) n (fun listed' a' w' => Region.seqB .any ops (ops.size - n) n listed' = true ∧ wpList k.P ops (lift k Q) l2 a' w') f (listed.setIfInBounds j true) a' w' := by
  rintro a' w' ⟨I', ρ', hT', q1, q2, q3, _, q4⟩
  obtain ⟨k1, _⟩ := Ok.call (hc := hT) (hr := h) h1 q1
  have hsm : Sam (blks hT) w w' := ⟨q1.os, q1.tape, q1.output, q1.size, fun b hb hE => q1.keep b hb hE⟩
  refine ⟨hsm, Mh (S := Sam (blks hT') w') (fun u hu => ?_) _ _ _ _ (q4.get hsh (inv.set hjr hjn) I' a' w' k1 q2 q3)⟩
  refine ⟨hu.os.trans hsm.os, hu.tape.trans hsm.tape, hu.output.trans hsm.output, Nat.le_trans hsm.size hu.size, fun b hb hE => (hu.block b (Nat.lt_of_lt_of_le hb hsm.size) fun hm => ?_).trans (hsm.block b hb hE)⟩
  rcases q1.new b hm with hx | hx
  · exact hE hx
  · exact absurd hb (Nat.not_lt.2 hx)
 have hQ : ∀ e a' w', e ≠ .normal → ¬ lift ⟨k.P, ⟨w, I, blks hT, k.c.G⟩, k.n, k.df⟩ (fun e ρ' hT' => e = .normal ∧ JH k ops n f (listed.setIfInBounds j true) l2 0 n false Q hT' ρ' h) e a' w' := by
  rintro e a' w' he ⟨_, _, _, _, _, _, q, _⟩
  exact he q
 rw [wpList] at H
 by_cases hw : Region.wanted o (yielded ops a.tmps) = true
 · rw [if_pos hw] at H ⊢
   rcases H with H | ⟨_, a', w', H⟩
   · exact .inl (Il hK hQ H)
   · exact absurd H (hQ _ _ _ (by simp))
 · rw [if_neg hw] at H ⊢
   exact hK _ _ H
theorem cf (_ht : True) : JHS k ops n f listed l2 i 0 Q hT ρ h := ⟨fun j h1 h2 => by omega⟩
theorem fA (hc : (Region.ready .any ops listed).contains i = false) (hj : JHS k ops n f listed l2 (i + 1) m Q hT ρ h) : JHS k ops n f listed l2 i (m + 1) Q hT ρ h :=
 ⟨fun j h1 h2 hr => by
  by_cases e : j = i
  · subst e
    have : (Region.ready .any ops listed).contains j = true := by simpa using hr
    rw [this] at hc; cases hc
  · exact hj.get j (by omega) (by omega) hr⟩
structure gQ (p : World × (Nat → Prop) × List Nat → Prop) : Prop where
 get : ∀ c, p c
theorem AG {p : World × (Nat → Prop) × List Nat → Prop} (h : ∀ c, p c) : gQ p := ⟨h⟩
theorem cZ {dst : Option Tmp} {g : Option (Nat × Bool)} (ho : ops[i]? = some ⟨dst, op, ty, pos, after, g⟩)
 (hj : Two (gQ fun c => JL ⟨k.P, ⟨c.1, c.2.1, c.2.2, k.c.G⟩, k.n, k.df⟩ ops [⟨dst, op, ty, pos, after, g⟩] (fun e ρ' hT' => e = .normal ∧ JH k ops n f (listed.setIfInBounds i true) l2 0 n false Q hT' ρ' h) ρ hT) (JHS k ops n f listed l2 (i + 1) m Q hT ρ h)) : JHS k ops n f listed l2 i (m + 1) Q hT ρ h :=
 ⟨fun j h1 h2 hr => by
  by_cases e : j = i
  · subst e
    exact ⟨_, ho, hj.fst.get⟩
  · exact hj.snd.get j (by omega) (by omega) hr⟩
theorem dZ {k' : Kx} (hj : JH k ops n f listed l2 i m pr Q hT ρ h) : JL k' ops [] (fun e ρ' hT' => e = .normal ∧ JH k ops n f listed l2 i m pr Q hT' ρ' h) ρ hT := L3 ⟨rfl, hj⟩

def effB : Op → Bool
 | .makeSlice _ _ _ => true
 | .alloc _ => true
 | .box _ _ => true
 | .buildSlice _ _ _ => true
 | .call c => (match c.callee with
   | .value _ => true
   | .builtin .append => true
   | _ => false)
 | _ => false
theorem IN {X : Type} {x : Code} {N : Env → H → Prop} (S : X → Env) (G : X → H) (hx : J k x (fun e ρ' h' => e = .normal ∧ ∃ y, VS ρ' h' (S y) (G y)) ρ h) (hq : ∀ y, N (S y) (G y)) : J k x (JW N Q) ρ h :=
 Mc S G hx fun y => Cw (hq y)

inductive Hd : List Oper → Nat → List Oper → Prop where
 | nil {l : List Oper} : Hd l 0 l
 | cons {d : Option Tmp} {op : Op} {ty : TypeId} {pos : String} {after : Array Edge} {g : Option (Nat × Bool)} {l l2 : List Oper} {n : Nat} (hb : YY op = false) (h : Hd l n l2) : Hd (⟨d, op, ty, pos, after, g⟩ :: l) (n + 1) l2
theorem Hd.drop {l l2 : List Oper} {n : Nat} (h : Hd l n l2) : l.drop n = l2 ∧ n ≤ l.length := by
 induction h with
 | nil => exact ⟨rfl, Nat.zero_le _⟩
 | cons _ h ih => exact ⟨by simpa using ih.1, by simp; omega⟩
theorem BC {id t : Nat} {l l2 : List Oper} {P : Program} (hT : H) (hm : P.follows .mixedOrders = true) (hP : k.P = P) (hx : Hd l n l2) (hn : l.length = t) (hs : HB l.toArray n = true) (ht : Take h hT h')
 (hj : JH k l.toArray n n (Array.replicate t false) l2 0 n false Q hT ρ h') : J k (.region id l.toArray true) Q ρ h := by
 refine Rh (VS.perm ht.perm) ?_
 subst hP
 subst hn
 intro I a w h1 h2 h3
 obtain ⟨hd, hle⟩ := hx.drop
 refine wp_region_any hm ?_
 have hsm : Ev I (hT ++ h') w { w with drawn := w.drawn + 1 } := ⟨rfl, rfl, rfl, Nat.le_refl _, fun _ _ => rfl⟩
 have inv0 : HeadInv .any l.toArray n (Array.replicate l.length false) :=
  ⟨by simp, fun j oj _ hl => (by rw [getD_replicate_false] at hl; cases hl), fun t _ ht => getD_in (by simpa using ht) (getD_replicate_false _ _)⟩
 have H := hj.get hs inv0 I a _ (h1.same hsm) (SF.same h1 hsm h2) h3
 have K := EI (Q := lift k Q) (g := l.length - n) (fun listed' a' w' hL => by
  have := wpAny_of_seq (md := .any) (Q' := lift k Q) l2 n listed' a' w' (fun j => by rw [← hd]; simp [List.getElem?_drop]) (by
   have e : l2.length = l.toArray.size - n := by rw [← hd]; simp
   rw [e]; exact hL.1) hL.2
  have e : l2.length = l.length - n := by rw [← hd]; simp
  rwa [e] at this) _ _ _ _ H
 rw [show n + (l.length - n) = l.toArray.size by simp; omega] at K
 simpa using K
theorem SU {id t : Nat} {l l2 : List Oper} {P : Program} (hm : P.follows .mixedOrders = true) (hP : k.P = P) (hx : Hd l n l2) (hn : l.length = t) (hs : HB l.toArray n = true)
 (hj : JH k l.toArray n n (Array.replicate t false) l2 0 n false Q [] ρ h) : J k (.region id l.toArray true) Q ρ h := BC [] hm hP hx hn hs .nil hj
end

section
variable {ρ : Env} {h h' : H} {α : Type} {f : α → List D} {E : TypeId} {sz : Nat} {qs : List Sl} {ls : List (List α)}
theorem Cvs.refl (v : Value) (d : D) : ∀ xs : List AV, Cvs v d xs xs
 | [] => .nil
 | x :: xs => .cons (.same x) (Cvs.refl v d xs)
theorem Cvs.mid (v : Value) (d : D) (r : List AV) : ∀ xs : List AV, Cvs v d (xs ++ .val v :: r) (xs ++ .d d :: r)
 | [] => .cons .here (Cvs.refl v d r)
 | x :: xs => .cons (.same x) (Cvs.mid v d r xs)
end
section
variable {k : Kx} {Q : Exit → Env → H → Prop} {ρ ρ' : Env} {h h' : H} {ops : Array Oper} {l : List Oper} {d : Nat} {ty : TypeId} {pos : String} {after : Array Edge}
theorem Pg {T E : TypeId} {x y : Operand} {sz' eb' sz2 eb2 : Nat} {rows rows2 : List (List D)} {z : Value} {eb : Nat} (hx : evO ρ x = some (.d (.l sz' eb' rows))) (hy : evO ρ y = some (.d (.l sz2 eb2 rows2))) (hT : k.P.underlying T = some (.slice E)) (he : El k.P E z 1 eb) (hb : Nat.ble eb 1000000 = true)
 (hd : Nat.blt d k.n = true) (hj : JL k ops l Q ((d, .d (.l 1 eb [[.l sz' eb' rows], [.l sz2 eb2 rows2]])) :: ρ) h) : JL k ops (⟨some d, .buildSlice T 2 #[(0, x), (1, y)], ty, pos, after, none⟩ :: l) Q ρ h := by
 have hb' := Nat.le_of_ble_eq_true hb
 refine C2 (xs := [x, y]) (rows := [[.l sz' eb' rows], [.l sz2 eb2 rows2]]) hT he (by decide) rfl rfl ?_ ?_ ?_ ?_ ?_ (fun t ht => by cases ht; exact blt hd) hj
 · simp [AA hx, AA hy, D.av, AV.cl]
 · intro o ho
   simp only [List.mem_cons, List.not_mem_nil, or_false] at ho
   rcases ho with rfl | rfl
   · rw [AA hx]; rfl
   · rw [AA hy]; rfl
 · intro r hr
   simp only [List.mem_cons, List.not_mem_nil, or_false] at hr
   rcases hr with rfl | rfl <;> rfl
 · simp; omega
 · simp
end
open Go Go.Instr

def BR : List (Value × Value) → Nat → List MapEntry
 | [], _ => []
 | p :: ps, i => ⟨p.1, p.2, i⟩ :: BR ps (i + 1)
def Ay (ps : List (Value × Value)) : Obj := .map (BR ps 0).toArray ps.length
theorem EN : ∀ (ps qs : List (Value × Value)) (i : Nat), BR (ps ++ qs) i = BR ps i ++ BR qs (i + ps.length)
 | [], qs, i => by simp [BR]
 | p :: ps, qs, i => by
   simp only [List.cons_append, BR, EN ps qs (i + 1), List.length_cons]
   rw [show i + 1 + ps.length = i + (ps.length + 1) by omega]
structure J5 (kd : TypeDesc) {α : Type} (kv : α → Value) [DecidableEq α] : Prop where
 same : ∀ a b, sameNow kd (kv a) (kv b) = some (decide (a = b))
 easy : ∀ (P : Program) (T : TypeId) (e : Bool) (a : α) (w : World), P.underlying T = some kd → (checkKey e 10000 T (kv a)).run P w = .ok () w
theorem AQ (k : IntKind) : J5 (.int k) (Value.int k) where
 same a b := by
  simp only [sameNow, if_pos trivial]
  exact congrArg some (Bool.eq_iff_iff.2 (by simp))
 easy P T e a w h := by
  unfold checkKey
  simp [run_underlying h]
theorem Eh (a b : ByteArray) : (a == b) = true ↔ a = b := by
 cases a; cases b
 rw [ByteArray.mk.injEq]
 show (_ == _) = true ↔ _
 simp only [BEq.beq]
 unfold ByteArray.beq
 simp
theorem AX : J5 .string Value.string where
 same a b := by
  simp only [sameNow]
  exact congrArg some (Bool.eq_iff_iff.2 (by rw [Eh]; simp))
 easy P T e a w h := by
  unfold checkKey
  simp [run_underlying h]
section
variable {α β : Type} [DecidableEq α] {kd : TypeDesc} {kv : α → Value} {vv : β → Value}
def Ab (kv : α → Value) (vv : β → Value) (ps : List (α × β)) : List (Value × Value) := ps.map fun p => (kv p.1, vv p.2)
theorem Kz (K : J5 kd kv) (a : α) : ∀ (ps : List (α × β)) (i j : Nat), (∀ p ∈ ps, p.1 ≠ a) → findNow kd (kv a) (BR (Ab kv vv ps) i) j = some none
 | [], _, _, _ => rfl
 | p :: ps, i, j, h => by
   have h1 : a ≠ p.1 := fun e => h p List.mem_cons_self e.symm
   simp only [Ab, List.map_cons, BR, findNow, K.same, decide_eq_false h1]
   exact Kz K a ps (i + 1) (j + 1) fun q hq => h q (List.mem_cons_of_mem _ hq)
theorem RW (K : J5 kd kv) (a : α) (b : β) : ∀ (ps qs : List (α × β)) (i j : Nat), (∀ p ∈ ps, p.1 ≠ a) → findNow kd (kv a) (BR (Ab kv vv (ps ++ (a, b) :: qs)) i) j = some (some (j + ps.length, vv b))
 | [], qs, i, j, _ => by simp [Ab, BR, findNow, K.same]
 | p :: ps, qs, i, j, h => by
   have h1 : a ≠ p.1 := fun e => h p List.mem_cons_self e.symm
   have ih := RW K a b ps qs (i + 1) (j + 1) fun q hq => h q (List.mem_cons_of_mem _ hq)
   simp only [Ab] at ih
   simp only [Ab, List.cons_append, List.map_cons, BR, findNow, K.same, decide_eq_false h1, ih, List.length_cons]
   rw [show j + 1 + ps.length = j + (ps.length + 1) by omega]
def getM (ps : List (α × β)) (a : α) : Option β := (ps.find? fun p => p.1 == a).map (·.2)
theorem LC {ps : List (α × β)} {a : α} (h : ∀ p ∈ ps, p.1 ≠ a) : getM ps a = none := by
 simp only [getM, Option.map_eq_none_iff, List.find?_eq_none]
 intro p hp
 simpa using h p hp
theorem MV {ps : List (α × β)} {a : α} (h : ¬ ∀ p ∈ ps, p.1 ≠ a) : ∃ b l r, ps = l ++ (a, b) :: r ∧ (∀ p ∈ l, p.1 ≠ a) ∧ getM ps a = some b := by
 induction ps with
 | nil => exact absurd (by simp) h
 | cons p ps ih =>
   by_cases e : p.1 = a
   · refine ⟨p.2, [], ps, by rw [← e]; rfl, by simp, ?_⟩
     simp [getM, e]
   · obtain ⟨b, l, r, h1, h2, h3⟩ := ih fun k => h fun q hq => by
      rcases List.mem_cons.1 hq with rfl | hq
      · exact e
      · exact k q hq
     refine ⟨b, p :: l, r, by rw [h1]; rfl, fun q hq => ?_, ?_⟩
     · rcases List.mem_cons.1 hq with rfl | hq
       · exact e
       · exact h2 q hq
     · rw [← h3]
       have e' : (p.1 == a) = false := by simpa using e
       simp [getM, List.find?_cons, e']
theorem getM_none {ps : List (α × β)} {a : α} : getM ps a = none ↔ ∀ p ∈ ps, p.1 ≠ a := by
 constructor
 · intro h
   by_cases k : ∀ p ∈ ps, p.1 ≠ a
   · exact k
   · obtain ⟨b, l, r, _, _, h3⟩ := MV k
     rw [h] at h3; cases h3
 · exact LC
theorem Ra (K : J5 kd kv) {P : Program} {T : TypeId} (hT : P.underlying T = some kd) (ps : List (α × β)) (a : α) (w : World) :
 ∃ r : Option (Nat × Value), (findKey T (kv a) (BR (Ab kv vv ps) 0)).run P w = .ok r w ∧ r.map (·.2) = (getM ps a).map vv := by
 by_cases h : ∀ p ∈ ps, p.1 ≠ a
 · refine ⟨none, ?_, by rw [LC h]; rfl⟩
   simp [findKey, run_underlying hT, Kz K a ps 0 0 h]
 · obtain ⟨b, l, r, e, h2, h3⟩ := MV h
   refine ⟨some (0 + l.length, vv b), ?_, by rw [h3]; rfl⟩
   subst e
   simp [findKey, run_underlying hT, RW K a b l r 0 0 h2]
end
section
variable {k : Kx} {Q : Exit → Env → H → Prop} {ρ ρ' : Env} {h h' : H} {ops : Array Oper} {l : List Oper} {d : Nat} {dst : Option Tmp} {ty : TypeId} {pos : String} {after : Array Edge} {g : Option (Nat × Bool)}
theorem Y5 {T : TypeId} (hd : Nat.blt d k.n = true) (hj : All fun b : Nat => JL k ops l Q ((d, .val (.map (some b))) :: ρ) (.raw b (Ay []) :: h)) : JL k ops (⟨some d, .makeMap T none, ty, pos, after, none⟩ :: l) Q ρ h := by
 refine DT rfl (fun t ht => by cases ht; exact blt hd) fun I ac w h1 h2 => ?_
 refine ⟨.map (some w.heap.size), w.alloc (.map #[] 0), I, .val (.map (some w.heap.size)), _, ?_, h1.fresh _ (.raw w.heap.size (Ay [])) rfl (heap_alloc_new w _), h2.fresh h1 _, rfl, hj.get w.heap.size⟩
 have hm : (makeMap T none).run k.P w = .ok (.map (some w.heap.size)) (w.alloc (.map #[] 0)) := rfl
 simp [execOp, hm]
theorem LO {P : Program} {w : World} {r : Nat} {es : Array MapEntry} {clock : Nat} (o : Obj) (hb : w.heap[r]? = some (.map es clock)) : (setObj r o).run P w = .ok () { w with heap := w.heap.setIfInBounds r o } := by
 simp [setObj, Sem.run, hb]
theorem Gk {α β : Type} [DecidableEq α] {kd : TypeDesc} {kv : α → Value} {vv : β → Value} (K : J5 kd kv) {T KT ET : TypeId} {x y u : Operand} {r : AV} {b : Nat} {ps : List (α × β)} {a : α} {c : β}
 (hx : evO ρ x = some (.val (.map (some b)))) (hy : evO ρ y = some (.val (kv a))) (hv : evO ρ u = some r) (hr : ∀ w I v, AV.rel w I r v → v = vv c) (hT : k.P.underlying T = some (.map KT ET)) (hK : k.P.underlying KT = some kd)
 (hu : Upd (.raw b (Ay (Ab kv vv ps))) (.raw b (Ay (Ab kv vv (ps ++ [(a, c)])))) h h') (hno : getM ps a = none)
 (hj : JL k ops l Q ρ h') : JL k ops (⟨none, .mapUpdate T x y u, ty, pos, after, none⟩ :: l) Q ρ h := by
 obtain ⟨h1, h2, rfl, rfl⟩ := hu.split
 refine FH rfl rfl fun I ac w k1 k2 => ?_
 have e1 := AI (k2.ev x) (AA hx)
 have e2 := AI (k2.ev y) (AA hy)
 have e3 := hr _ _ _ (BS (k2.ev u) (AA hv))
 have hb : w.heap[b]? = some (Ay (Ab kv vv ps)) := k1.ent (.raw b (Ay (Ab kv vv ps))) (by simp)
 have hfind := Kz (vv := vv) K a ps 0 0 (getM_none.1 hno)
 have hnew : Obj.map (BR (Ab kv vv ps) 0 ++ [(⟨kv a, vv c, (Ab kv vv ps).length⟩ : MapEntry)]).toArray ((Ab kv vv ps).length + 1) = Ay (Ab kv vv (ps ++ [(a, c)])) := by
  have e : Ab kv vv (ps ++ [(a, c)]) = Ab kv vv ps ++ [(kv a, vv c)] := by simp [Ab]
  unfold Ay
  rw [e, EN]
  simp [BR]
 obtain ⟨g1, g2⟩ := k1.write (w' := { w with heap := w.heap.setIfInBounds b (Ay (Ab kv vv (ps ++ [(a, c)]))) }) (e' := .raw b (Ay (Ab kv vv (ps ++ [(a, c)])))) (b := b) rfl rfl rfl rfl rfl (by simp)
  (fun x hx => by simp [Array.getElem?_setIfInBounds, Ne.symm hx]) (by
   have hlt := (Array.getElem?_eq_some_iff.1 hb).1
   show _ = _
   simp [Array.getElem?_setIfInBounds, hlt])
 refine ⟨{ w with heap := w.heap.setIfInBounds b (Ay (Ab kv vv (ps ++ [(a, c)]))) }, I, h1 ++ .raw b (Ay (Ab kv vv (ps ++ [(a, c)]))) :: h2, ?_, g1, k2.mono g2 (fun _ h => h), hj⟩
 have hobj : (getObj b).run k.P w = .ok (.map (BR (Ab kv vv ps) 0).toArray (Ab kv vv ps).length) w := by simp [getObj, Sem.run, hb, Ay]
 have hset := LO (P := k.P) (w := w) (r := b) (Ay (Ab kv vv (ps ++ [(a, c)]))) (es := (BR (Ab kv vv ps) 0).toArray) (clock := (Ab kv vv ps).length) hb
 simp only [execOp, e1, e2, e3, mapUpdate]
 simp [run_underlying hT, hobj, K.easy k.P KT false a w hK, findKey, run_underlying hK, hfind, hnew, hset]
end
section
variable {P : Program} {G : List (Nat × List D)} {ρ : Env} {h : H} {dst : Option Tmp} {ty : TypeId} {pos : String} {after : Array Edge} {g : Option (Nat × Bool)}
theorem MH {α β : Type} [DecidableEq α] {kd : TypeDesc} {kv : α → Value} {vv : β → Value} (K : J5 kd kv) {T KT ET : TypeId} {x y : Operand} {b : Nat} {ps : List (α × β)} {a : α} {z : Value} {sz eb : Nat}
 (hx : evO ρ x = some (.val (.map (some b)))) (hy : evO ρ y = some (.val (kv a))) (hT : P.underlying T = some (.map KT ET)) (hK : P.underlying KT = some kd) (hE : El P ET z sz eb) (hm : Ent.raw b (Ay (Ab kv vv ps)) ∈ h) :
 Pure P G ⟨dst, .lookup T x y true, ty, pos, after, g⟩ ρ h (.tup [.val (((getM ps a).map vv).getD z), .bool (getM ps a).isSome]) := by
 intro c I n ac w _ hok hs
 obtain ⟨i, hi, hz, _, _⟩ := hE.get
 have e1 := AI (hs.ev x) (AA hx)
 have e2 := AI (hs.ev y) (AA hy)
 have hb : w.heap[b]? = some (Ay (Ab kv vv ps)) := hok.ent _ hm
 refine ⟨.tuple #[((getM ps a).map vv).getD z, .bool (getM ps a).isSome], ⟨[_, _], rfl, rfl, rfl, trivial⟩, fun w' hw' => ?_⟩
 have hb' : w'.heap[b]? = some (Ay (Ab kv vv ps)) := (hw'.own b (Ct hm rfl)).trans hb
 have hobj : (getObj b).run P w' = .ok (.map (BR (Ab kv vv ps) 0).toArray (Ab kv vv ps).length) w' := by simp [getObj, Sem.run, hb', Ay]
 obtain ⟨r, hr1, hr2⟩ := Ra (vv := vv) K hK ps a w'
 simp only [execOp, e1, e2, lookup]
 cases r with
 | none =>
   have hr3 : (getM ps a).map vv = none := hr2.symm
   have hr4 : getM ps a = none := by simpa using hr3
   simp [run_underlying hT, hobj, K.easy P KT _ a w' hK, hr1, hr4, zeroValue, typeInfo, hi, hz]
 | some r =>
   obtain ⟨j, v⟩ := r
   have hr3 : (getM ps a).map vv = some v := hr2.symm
   obtain ⟨bb, hb1, hb2⟩ := Option.map_eq_some_iff.1 hr3
   simp [run_underlying hT, hobj, K.easy P KT _ a w' hK, hr1, hb1, hb2]
end
def Sx {α : Type} (kv : α → Value) (xs : List α) : Obj := Ay (Ab kv (fun _ : Unit => .agg #[]) (xs.map fun x => (x, ())))
theorem XX {α : Type} [DecidableEq α] (xs : List α) (a : α) : (getM (xs.map fun x => (x, ())) a).isSome = decide (a ∈ xs) := by
 by_cases h : a ∈ xs
 · rw [decide_eq_true h]
   cases hg : getM (xs.map fun x => (x, ())) a with
   | none => exact absurd rfl (getM_none.1 hg (a, ()) (List.mem_map.2 ⟨a, h, rfl⟩))
   | some _ => rfl
 · rw [decide_eq_false h, LC]
   · rfl
   · intro p hp
     obtain ⟨x, hx, rfl⟩ := List.mem_map.1 hp
     exact fun e => h (by subst e; exact hx)
section
variable {k : Kx} {Q : Exit → Env → H → Prop} {ρ ρ' : Env} {h h' : H} {ops : Array Oper} {l : List Oper} {d : Nat} {dst : Option Tmp} {ty : TypeId} {pos : String} {after : Array Edge} {g : Option (Nat × Bool)}
theorem B0 {α : Type} (kv : α → Value) {T : TypeId} (hd : Nat.blt d k.n = true) (hj : All fun b : Nat => JL k ops l Q ((d, .val (.map (some b))) :: ρ) (.raw b (Sx kv []) :: h)) : JL k ops (⟨some d, .makeMap T none, ty, pos, after, none⟩ :: l) Q ρ h := Y5 hd hj
theorem BQ {α : Type} [DecidableEq α] {kd : TypeDesc} {kv : α → Value} (K : J5 kd kv) {T KT ET : TypeId} {x y u : Operand} {b : Nat} {xs : List α} {a : α}
 (hx : evO ρ x = some (.val (.map (some b)))) (hy : evO ρ y = some (.val (kv a))) (hv : evO ρ u = some (.agg [])) (hT : k.P.underlying T = some (.map KT ET)) (hK : k.P.underlying KT = some kd)
 (hu : Upd (.raw b (Sx kv xs)) (.raw b (Sx kv (xs ++ [a]))) h h') (hno : a ∉ xs)
 (hj : JL k ops l Q ρ h') : JL k ops (⟨none, .mapUpdate T x y u, ty, pos, after, none⟩ :: l) Q ρ h := by
 have hno' : getM (xs.map fun x => (x, ())) a = none := LC fun p hp => by
  obtain ⟨x, hx, rfl⟩ := List.mem_map.1 hp
  exact fun e => hno (by subst e; exact hx)
 have hu' : Upd (.raw b (Ay (Ab kv (fun _ : Unit => .agg #[]) (xs.map fun x => (x, ()))))) (.raw b (Ay (Ab kv (fun _ : Unit => .agg #[]) (xs.map (fun x => (x, ())) ++ [(a, ())])))) h h' := by
  have := hu
  unfold Sx at this
  rwa [List.map_append] at this
 exact Gk K (c := ()) hx hy hv (fun w I v hr => by
  obtain ⟨vs, e1, e2⟩ := hr
  cases vs with
  | nil => exact e1
  | cons _ _ => exact e2.elim) hT hK hu' hno' hj
end
section
variable {P : Program} {G : List (Nat × List D)} {ρ : Env} {h : H} {dst : Option Tmp} {ty : TypeId} {pos : String} {after : Array Edge} {g : Option (Nat × Bool)}
theorem A7 {α : Type} [DecidableEq α] {kd : TypeDesc} {kv : α → Value} (K : J5 kd kv) {T KT ET : TypeId} {x y : Operand} {b : Nat} {xs : List α} {a : α} {eb : Nat}
 (hx : evO ρ x = some (.val (.map (some b)))) (hy : evO ρ y = some (.val (kv a))) (hT : P.underlying T = some (.map KT ET)) (hK : P.underlying KT = some kd) (hE : El P ET (.agg #[]) 0 eb) (hm : Ent.raw b (Sx kv xs) ∈ h) :
 Pure P G ⟨dst, .lookup T x y true, ty, pos, after, g⟩ ρ h (.tup [.agg [], .bool (decide (a ∈ xs))]) := by
 intro c I n ac w e1 e2 e3
 obtain ⟨v, hv, hrun⟩ := MH (P := P) (G := G) (ρ := ρ) (h := h) (dst := dst) (ty := ty) (pos := pos) (after := after) (g := g) (vv := fun _ : Unit => .agg #[]) K hx hy hT hK hE hm c I n ac w e1 e2 e3
 refine ⟨v, ?_, hrun⟩
 obtain ⟨vs, h1, h2⟩ := hv
 refine ⟨vs, h1, ?_⟩
 match vs, h2 with
 | [p, q], ⟨g1, g2, g3⟩ =>
   refine ⟨⟨[], ?_, trivial⟩, ?_, g3⟩
   · rw [show p = _ from g1]
     cases getM (xs.map fun x => (x, ())) a <;> rfl
   · rw [XX] at g2; exact g2
end
section
variable {k : Kx} {Q : Exit → Env → H → Prop} {ρ ρ' : Env} {h h' : H} {ops : Array Oper} {l : List Oper} {d : Nat} {ty : TypeId} {pos : String} {after : Array Edge}
theorem Hl {S T E : TypeId} {x : Operand} {s : ByteArray} (hx : evO ρ x = some (.val (.string s))) (hS : k.P.underlying S = some .string) (hT : k.P.underlying T = some (.slice E)) (hE : k.P.underlying E = some (.int .u8)) (hb : s.data.toList.length ≤ 140737488355328) (hd : Nat.blt d k.n = true)
 (hj : JL k ops l Q ((d, .d (TH s.data.toList)) :: ρ) h) : JL k ops (⟨some d, .convert S T x, ty, pos, after, none⟩ :: l) Q ρ h := by
 refine DT rfl (fun t ht => by cases ht; exact blt hd) fun I ac w h1 h2 => ?_
 have e1 := AI (h2.ev x) (AA hx)
 have hrun := run_bytes_of_string (P := k.P) w S T E s hS hT hE
 have hge := grownCap_ge w s.size 0 E
 have hsz : s.size = s.data.toList.length := by rw [Array.length_toList]; rfl
 have hle := grownCap_le_maxLen w s.size 0 E (by unfold maxLen; omega)
 have hs : Ev I h w w.drew := ⟨rfl, rfl, rfl, Nat.le_refl _, fun _ _ => rfl⟩
 have k1 := h1.same hs
 have k2 := SF.same h1 hs h2
 generalize grownCap w s.size 0 E = cap at hrun hge hle
 generalize ho : Obj.cells (bytesRow s cap) E ((bytesRow s cap).size, (bytesRow s cap).size + 1) = o at hrun
 have hok := Ok.release (h1 := []) (b := w.drew.heap.size) (k1.fresh o (.raw w.drew.heap.size o) rfl (heap_alloc_new w.drew o)) rfl
 have hmono : ∀ b, I b → (w.drew.alloc o).heap[b]? = w.drew.heap[b]? := fun b hb => Go.RowKit.Below.heap_alloc w.drew _ b (k1.imm b hb).1
 have hblk : (w.drew.alloc o).heap[w.drew.heap.size]? = some (.cells (bytesRow s cap) E ((bytesRow s cap).size, (bytesRow s cap).size + 1)) := by rw [ho]; exact heap_alloc_new w.drew o
 refine ⟨.slice (some ⟨w.drew.heap.size, 0, none⟩) s.size cap, w.drew.alloc o, _, .d (TH s.data.toList), _, ?_, hok, k2.mono hmono (fun _ h => .inl h), ?_, hj⟩
 · have hrun' : (convert S T (.string s)).run k.P w = .ok (.slice (some ⟨w.drew.heap.size, 0, none⟩) s.size cap) (w.drew.alloc o) := hrun
   simp [execOp, e1, hrun']
 · have hlen : (s.data.toList.map Bb).length = s.size := by rw [List.length_map, hsz]
   have := Rel.l (w := w.drew.alloc o) (I := fun x => I x ∨ x = w.drew.heap.size) 1 1 (s.data.toList.map Bb) ⟨w.drew.heap.size, 0, none⟩ cap (fun j _ => .int .u8 ((s.data.toList[j]?.getD 0).toNat : Int)) (.inr rfl) (by rw [hlen]; omega) hle (by rw [hlen]; omega)
    (fun r hr => by obtain ⟨a, _, rfl⟩ := List.mem_map.1 hr; rfl) (fun j u r x hr hx => ?_) (fun j u r x hr hx => ?_)
   · rw [hlen] at this
     exact this
   · rw [List.getElem?_map] at hr
     obtain ⟨b, hb1, rfl⟩ := Option.map_eq_some_iff.1 hr
     have hu : u = 0 := by
      have := (List.getElem?_eq_some_iff.1 hx).1
      simp [Bb] at this
      exact this
     subst hu
     have hjl : j < s.data.size := by
      have := (List.getElem?_eq_some_iff.1 hb1).1
      simpa using this
     rw [Addr.add_lit, cell_of_row (w.drew.alloc o) _ _ _ _ _ hblk, hb1]
     simp only [Nat.zero_add, Nat.mul_one, Nat.add_zero, Option.getD_some]
     rw [Array.getElem?_toList] at hb1
     have hjl' : j < s.size := hjl
     have hbb : s.data[j] = b := (Array.getElem?_eq_some_iff.1 hb1).2
     simp [bytesRow, Array.getElem?_append, hjl', hb1, hbb]
   · rw [List.getElem?_map] at hr
     obtain ⟨b, hb1, rfl⟩ := Option.map_eq_some_iff.1 hr
     have hu : u = 0 := by
      have := (List.getElem?_eq_some_iff.1 hx).1
      simp [Bb] at this
      exact this
     subst hu
     simp only [Bb, List.getElem?_cons_zero, Option.some.injEq] at hx
     subst hx
     simp only [hb1, Option.getD_some]
     exact .i _ _
theorem Vf {T E : TypeId} {parts : Array (Nat × Operand)} {len : Nat} (ns : List Int) {z : Value} {eb : Nat} (hp : parts = (((ns.map fun n => Operand.const (.int .i64 n)).zipIdx).map fun p => (p.2, p.1)).toArray) (hl : len = ns.length) (hT : k.P.underlying T = some (.slice E)) (he : El k.P E z 1 eb) (hb : Nat.ble (ns.length * eb) 1000000 = true) (hc : Nat.ble ns.length 1000000 = true)
 (hd : Nat.blt d k.n = true) (hj : JL k ops l Q ((d, .d (.l 1 eb (ns.map fun n => [.i .i64 n]))) :: ρ) h) : JL k ops (⟨some d, .buildSlice T len parts, ty, pos, after, none⟩ :: l) Q ρ h := by
 refine C2 (xs := ns.map fun n => Operand.const (.int .i64 n)) (rows := ns.map fun n => [.i .i64 n]) hT he (by decide) hp (by simpa using hl) ?_ ?_ ?_ ?_ ?_ (fun t ht => by cases ht; exact blt hd) hj
 · rw [List.map_map, List.map_map]
   apply List.map_congr_left
   intro n _
   rfl
 · intro o ho
   obtain ⟨n, _, rfl⟩ := List.mem_map.1 ho
   rfl
 · intro r hr
   obtain ⟨n, _, rfl⟩ := List.mem_map.1 hr
   rfl
 · rw [List.length_map]
   exact Nat.le_trans (Nat.le_of_ble_eq_true hb) (by decide)
 · rw [List.length_map, Nat.mul_one]
   exact Nat.le_trans (Nat.le_of_ble_eq_true hc) (by decide)
end
section
variable {P : Program} {G : List (Nat × List D)} {ρ : Env} {h : H} {dst : Option Tmp} {ty : TypeId} {pos : String} {after : Array Edge} {g : Option (Nat × Bool)}
theorem Ei {T : TypeId} {x : Operand} {s : ByteArray} (hx : evO ρ x = some (.val (.string s))) (hT : P.underlying T = some .string) : Pure P G ⟨dst, .call { callee := .builtin .len, args := #[x], argTypes := #[T] }, ty, pos, after, g⟩ ρ h (.int (s.data.toList.length : Nat)) := by
 have := Kv (P := P) (G := G) (h := h) (dst := dst) (ty := ty) (pos := pos) (after := after) (g := g) hT (AA hx)
 rwa [show s.size = s.data.toList.length by rw [Array.length_toList]; rfl] at this
end
end Go.Av
