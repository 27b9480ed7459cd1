/- A bundle of this claim's own texts: E3 E4 El St T1 T2 T0 T3. -/
import Derived.Laws.BitsLemmas
import Derived.Laws.BytesString
import Derived.Test.YtniklgkoiaeipaaGreatDoorProg
import Derived.RegionTactic
import Derived.Test.YtniklgkoiaeipaaGreatDoorZ1
namespace Go.Av
open Go
set_option linter.unusedVariables false
set_option linter.unusedSimpArgs false

section
variable {k : Kx} {Q : Exit → Env → H → Prop} {ρ ρ' : Env} {h h1 h2 : H} {ops : Array Oper} {l : List Oper} {d : Nat} {dst : Option Tmp} {ty : TypeId} {pos : String} {after : Array Edge} {g : Option (Nat × Bool)} {e1 e2 e3 e4 : Ent}
theorem flat_cl {r : AV} (hs : r.flat = true) : r.cl = [r] ∧ r.stor = true := by cases r <;> first | exact ⟨rfl, hs⟩ | cases hs
theorem js_set {T T0 : TypeId} {x y : Operand} {b off : Nat} {r : AV} {vs : List AV} {z : Value} {eb : Nat} (hx : evO ρ x = some (.val (.pointer (some ⟨b, off, none⟩)))) (hy : evO ρ y = some r) (hs : r.flat = true) (hE : El k.P T z 1 eb) (hh : h = h1 ++ .cells b T0 vs :: h2) (hl : off < vs.length)
 (hj : JL k ops l Q ρ (h1 ++ .cells b T0 (vs.set off r) :: h2)) : JL k ops (⟨none, .store T x y, ty, pos, after, none⟩ :: l) Q ρ h := by
 obtain ⟨hcl, hst⟩ := flat_cl hs
 refine JL_store (off := off) (r := r) (vs := vs) (ev_of_evO hx) (ev_of_evO hy) hst hE (by rw [hcl]; rfl) hh (by rw [hcl]; simp; omega) ?_
 rw [hcl, setAt_one _ _ _ hl]
 exact hj
theorem js_map {α : Type} {f : α → AV} {T T0 : TypeId} {x y : Operand} {b off : Nat} {a : α} {vs : List α} {z : Value} {eb : Nat} (hx : evO ρ x = some (.val (.pointer (some ⟨b, off, none⟩)))) (hh : h = h1 ++ .cells b T0 (vs.map f) :: h2) (hy : evO ρ y = some (f a)) (hs : (f a).flat = true) (hE : El k.P T z 1 eb) (hl : off < vs.length)
 (hj : JL k ops l Q ρ (h1 ++ .cells b T0 ((vs.set off a).map f) :: h2)) : JL k ops (⟨none, .store T x y, ty, pos, after, none⟩ :: l) Q ρ h := by
 refine js_set hx hy hs hE hh (by simpa using hl) ?_
 rw [List.map_set] at hj
 exact hj
theorem jalloc1T {T : TypeId} {z : Value} {eb : Nat} (hz : El k.P T z 1 eb) (h1 : z.oneCell' = true) (hd : Nat.blt d k.n = true)
 (hj : All fun b => JL k ops l Q ((d, .val (.pointer (some ⟨b, 0, none⟩))) :: ρ) (.cells b T [.val z] :: h)) : JL k ops (⟨some d, .alloc T, ty, pos, after, none⟩ :: l) Q ρ h := jalloc1 hz h1 hd hj.get
theorem jmk {α : Type} (f : α → AV) (a : α) {z : Value} {T E : TypeId} {x : Operand} {n : Nat} {eb : Nat} (hx : evO ρ x = some (.int n)) (hT : k.P.underlying T = some (.slice E)) (hz : El k.P E z 1 eb) (hz1 : z.oneCell' = true) (hf : f a = .val z) (hb : eb * n ≤ 281474976710656) (hm : n ≤ 9223372036854775807) (hd : Nat.blt d k.n = true)
 (hj : All fun b => JL k ops l Q ((d, .val (.slice (some ⟨b, 0, none⟩) n n)) :: ρ) (.cells b E ((List.replicate n a).map f) :: h)) : JL k ops (⟨some d, .makeSlice T x x, ty, pos, after, none⟩ :: l) Q ρ h :=
 JL_make hT hz hz1 (ev_of_evO hx) hb hm (fun t ht => by cases ht; exact blt hd) fun b => by have := hj.get b; rwa [List.map_replicate, hf] at this
theorem jmk_bool {T E : TypeId} {x : Operand} {n : Nat} {eb : Nat} (hx : evO ρ x = some (.int n)) (hT : k.P.underlying T = some (.slice E)) (hz : El k.P E (.bool false) 1 eb) (hb : eb * n ≤ 281474976710656) (hm : n ≤ 9223372036854775807) (hd : Nat.blt d k.n = true)
 (hj : All fun b => JL k ops l Q ((d, .val (.slice (some ⟨b, 0, none⟩) n n)) :: ρ) (.cells b E ((List.replicate n false).map AV.bool) :: h)) : JL k ops (⟨some d, .makeSlice T x x, ty, pos, after, none⟩ :: l) Q ρ h :=
 jmk AV.bool false hx hT hz rfl rfl hb hm hd hj
theorem jmk_int {T E : TypeId} {x : Operand} {n : Nat} {eb : Nat} (hx : evO ρ x = some (.int n)) (hT : k.P.underlying T = some (.slice E)) (hz : El k.P E (.int .i64 0) 1 eb) (hb : eb * n ≤ 281474976710656) (hm : n ≤ 9223372036854775807) (hd : Nat.blt d k.n = true)
 (hj : All fun b => JL k ops l Q ((d, .val (.slice (some ⟨b, 0, none⟩) n n)) :: ρ) (.cells b E ((List.replicate n 0).map AV.int) :: h)) : JL k ops (⟨some d, .makeSlice T x x, ty, pos, after, none⟩ :: l) Q ρ h :=
 jmk AV.int 0 hx hT hz rfl rfl hb hm hd hj
end

theorem wraps_i64 (n : Int) (h0 : 0 ≤ n) (h1 : n < 2 ^ 63) : IntKind.i64.wrap n = n := wrap_in (by unfold inI64; omega)
theorem and1 {m : Int} (h0 : 0 ≤ m) (h1 : m ≤ 9223372036854775807) : bits .and .i64 m 1 = m % 2 := bits_mask .i64 63 (by decide) wraps_i64 1 (by decide) m h0 (by omega)
theorem or_join {x y : Int} (j : Nat) (hx0 : 0 ≤ x) (hx : x < 2 ^ j) (hy0 : 0 ≤ y) (hy : y % 2 ^ j = 0) (hj : (2 : Int) ^ j < 2 ^ 63) (hy1 : y < 2 ^ 63) : bits .or .i64 x y = x + y := by
 obtain ⟨a, rfl⟩ := Int.eq_ofNat_of_zero_le hx0
 obtain ⟨b, rfl⟩ := Int.eq_ofNat_of_zero_le hy0
 have ha : a < 2 ^ 63 := by have := Int.lt_trans hx hj; exact_mod_cast this
 have hb : b < 2 ^ 63 := by exact_mod_cast hy1
 have e1 := (bits_nat .i64 63 (by decide) wraps_i64 a b ha hb).2
 have e2 := (bits_nat .i64 63 (by decide) wraps_i64 b a hb ha).2
 have e3 := bits_join .i64 63 (by decide) wraps_i64 j (b : Int) (a : Int) hy0 hy hy1 hx0 hx (Int.lt_trans hx hj)
 rw [e2] at e3
 rw [e1, Nat.or_comm, e3, Int.add_comm]
theorem vfz {α : Type} {f : α → List D} {g : α → AV} {xs : List α} {ρ : Env} {h h1 h2 : H} {t b n : Nat} {E : TypeId} (sz eb : Nat) (h0 : Nat.blt 0 sz = true) (ht : getO ρ t = some (.val (.slice (some ⟨b, 0, none⟩) n n))) (hh : h = h1 ++ .cells b E (xs.map g) :: h2)
 (hv : xs.map g = ((xs.map f).flatten).map D.av) (hn : xs.length = n) (hsz : ∀ a, (f a).length = sz) (hb : n * eb ≤ 140737488355328) (hm : n ≤ 140737488355328) : VS ρ h ((t, .d (.l sz eb (xs.map f))) :: ρ) [] :=
 VS.trans (VS.freezeCells (blt h0) (get_of_getO ht) hh hv (by simpa using hn) (fun r hr => by obtain ⟨a, _, rfl⟩ := List.mem_map.1 hr; exact hsz a) hb (by simpa [maxLen] using Nat.le_trans hm (by decide))) (VS.drop (List.nil_sublist _))
end Go.Av
namespace Go.Av
open Go
set_option linter.unusedVariables false
set_option linter.unusedSimpArgs false

def resSem (tmps : Array Value) : ResultVar → Sem Value
 | .tmp t => pure (tmps.getD t undef)
 | .cell a t => do loadVar t (← asAddr (tmps.getD a undef))
def RV1 (P : Program) (G : List (Nat × List D)) (ρ : Env) (h : H) (r : ResultVar) (x : AV) : Prop :=
 ∀ (c : Cx) (I : Nat → Prop) (n : Nat) (a : Act) (w : World), c.G = G → Ok c I h w → SF n w I ρ a → ∃ v, AV.rel w I x v ∧ (resSem a.tmps r).run P w = .ok v w
def RVs (P : Program) (G : List (Nat × List D)) (ρ : Env) (h : H) : List ResultVar → List AV → Prop
 | [], [] => True
 | r :: rs, x :: xs => RV1 P G ρ h r x ∧ RVs P G ρ h rs xs
 | _, _ => False
def tupAV : List AV → AV
 | [x] => x
 | xs => .tup xs
theorem mapM_results {P : Program} {G : List (Nat × List D)} {ρ : Env} {h : H} {c : Cx} {I : Nat → Prop} {n : Nat} {a : Act} {w : World} (hG : c.G = G) (k : Ok c I h w) (s : SF n w I ρ a) : ∀ {rs : List ResultVar} {xs : List AV}, RVs P G ρ h rs xs →
 ∃ vs, (List.mapM (resSem a.tmps) rs).run P w = .ok vs w ∧ AV.rels w I xs vs
 | [], [], _ => ⟨[], rfl, trivial⟩
 | r :: rs, x :: xs, ⟨h1, h2⟩ => by
   obtain ⟨v, e1, e2⟩ := h1 c I n a w hG k s
   obtain ⟨vs, f1, f2⟩ := mapM_results hG k s h2
   refine ⟨v :: vs, ?_, e1, f2⟩
   rw [List.mapM_cons]
   simp only [Sem.run_bind, Sem.run_pure, Result.andThen_ok, e2, f1]
theorem run_resultsR {P : Program} {fn : Func} {rs : List ResultVar} (hr : fn.results = rs.toArray) {tmps : Array Value} {w : World} {vs : List Value} (hm : (List.mapM (resSem tmps) rs).run P w = .ok vs w) :
 (results fn tmps).run P w = .ok (if h : vs.toArray.size = 1 then vs.toArray[0] else .tuple vs.toArray) w := by
 have e : (fun (x : ResultVar) => (match x with | .tmp t => pure (tmps.getD t undef) | .cell a t => do loadVar t (← asAddr (tmps.getD a undef)) : Sem Value)) = resSem tmps := by
  funext x; cases x <;> rfl
 unfold results
 rw [hr]
 simp only [List.mapM_toArray, Sem.run_bind, Sem.run_map]
 erw [e]
 rw [hm]
 rfl
def retR (P : Program) (G : List (Nat × List D)) (rs : List ResultVar) (Q : AE → H → Prop) (e : Exit) (ρ : Env) (h : H) : Prop :=
 match e with
 | .normal => ∃ ρ1 h1 xs h', VS ρ h ρ1 h1 ∧ RVs P G ρ1 h1 rs xs ∧ List.Sublist h' h1 ∧ Q (.ret (tupAV xs)) h'
 | .ret => ∃ ρ1 h1 xs h', VS ρ h ρ1 h1 ∧ RVs P G ρ1 h1 rs xs ∧ List.Sublist h' h1 ∧ Q (.ret (tupAV xs)) h'
 | .panic ch => Q (.pan ch) h
 | _ => False
theorem tup_rel {w : World} {I : Nat → Prop} {xs : List AV} {vs : List Value} (h : AV.rels w I xs vs) : AV.rel w I (tupAV xs) (if h : vs.toArray.size = 1 then vs.toArray[0] else .tuple vs.toArray) := by
 match xs, vs, h with
 | [], [], _ => exact ⟨[], rfl, trivial⟩
 | [x], [v], h => exact h.1
 | x :: y :: xs, u :: v :: vs, h =>
   rw [dif_neg (by simp)]
   exact ⟨_, rfl, h⟩
theorem Ok.sub {c : Cx} {I : Nat → Prop} {h h' : H} {w : World} (h1 : Ok c I h w) (hs : List.Sublist h' h) : Ok c I h' w :=
 { ent := fun e he => h1.ent e (hs.subset he), nd := h1.nd.sublist (blks_sublist hs), imm := fun b hb => ⟨(h1.imm b hb).1, fun hm => (h1.imm b hb).2 ((blks_sublist hs).subset hm)⟩,
   new := fun b hb => h1.new b ((blks_sublist hs).subset hb), inew := h1.inew, sup := h1.sup, os := h1.os, tape := h1.tape, output := h1.output, size := h1.size, keep := h1.keep, glob := h1.glob }
theorem AC_ofR {P : Program} {G : List (Nat × List D)} {f : FuncId} {fn : Func} {c : Code} {args : List AV} {h : H} {Q : AE → H → Prop} {rs : List ResultVar} (n : Nat) (hf : P.funcs[f]? = some fn) (hb : fn.body = some c) (hn : fn.ntmps = n) (hr : fn.results = rs.toArray) (ha : args.length ≤ n)
 (hj : ∀ W I, J ⟨P, ⟨W, I, blks h, G⟩, n, []⟩ c (retR P G rs Q) (argsEnv 0 args) h) : AC P G f args h Q := by
 intro I W vs h1 h2 h3 hG h4
 have hlen := AV.rels_length h4
 refine calls_of_wp hf hb ?_
 have hok : Ok ⟨W, I, blks h, G⟩ I h W :=
  { ent := h1, nd := h2, imm := h3, new := fun b hb => .inl hb, inew := fun b hb => .inl hb, sup := fun b hb => hb, os := rfl, tape := rfl, output := rfl, size := Nat.le_refl _, keep := fun _ _ _ => rfl, glob := hG }
 have hsf : SF n W I (argsEnv 0 args) { tmps := vs.toArray ++ Array.replicate (fn.ntmps - vs.toArray.size) undef, defers := [] } := by
  refine ⟨by simp [hn]; omega, fun t => ?_⟩
  have := get_argsEnv W I args vs 0 t h4
  simp only [Nat.zero_le, if_true, Nat.sub_zero] at this
  have e : (vs.toArray ++ Array.replicate (fn.ntmps - vs.toArray.size) undef).getD t undef = (vs[t]?).getD undef := by
   rw [Array.getD_eq_getD_getElem?, Array.getElem?_append]
   by_cases ht : t < vs.length
   · simp [ht]
   · simp only [List.size_toArray, ht, if_false]
     rw [List.getElem?_eq_none (by omega)]
     simp only [Array.getElem?_replicate]
     split <;> rfl
  rw [e]; exact this
 refine wp_mono (hj W I I _ W hok hsf rfl) ?_
 rintro e a w ⟨I', ρ', h', k1, k2, k3, k4⟩
 have fin : (∃ ρ1 h1 xs h'', VS ρ' h' ρ1 h1 ∧ RVs P G ρ1 h1 rs xs ∧ List.Sublist h'' h1 ∧ Q (.ret (tupAV xs)) h'') → ∃ v, (results fn a.tmps).run P w = .ok v w ∧ ACpost G W I h Q (.returned v) w := by
  rintro ⟨ρ1, hh1, xs, h'', v, hrv, hsub, hq⟩
  obtain ⟨I1, m1, m2⟩ := v _ _ _ _ _ k1 k2
  obtain ⟨us, e1, e2⟩ := mapM_results rfl m1 m2 hrv
  exact ⟨_, run_resultsR hr e1, _, h'', I1, hq, m1.sub hsub, tup_rel e2⟩
 cases e with
 | normal => obtain ⟨v, e1, e2⟩ := fin k4; exact ⟨k3, v, e1, e2⟩
 | ret => obtain ⟨v, e1, e2⟩ := fin k4; exact ⟨k3, v, e1, e2⟩
 | panic ch => exact ⟨k3, _, h', I', k4, k1, rfl⟩
 | exit _ => exact k4.elim
 | goto _ => exact k4.elim
 | outgrown => exact k4.elim
theorem retr {P : Program} {G : List (Nat × List D)} {rs : List ResultVar} {Q : AE → H → Prop} {e : Exit} {ρ ρ1 : Env} {h h1 h' : H} {xs : List AV} (v : VS ρ h ρ1 h1) (hrv : RVs P G ρ1 h1 rs xs) (he : retE e = true) (hs : List.Sublist h' h1) (hq : Q (.ret (tupAV xs)) h') : retR P G rs Q e ρ h := by
 cases e <;> first | exact ⟨ρ1, h1, xs, h', v, hrv, hs, hq⟩ | cases he
theorem retr0 {P : Program} {G : List (Nat × List D)} {rs : List ResultVar} {Q : AE → H → Prop} {e : Exit} {ρ : Env} {h h' : H} {xs : List AV} (hrv : RVs P G ρ h rs xs) (he : retE e = true) (hs : List.Sublist h' h) (hq : Q (.ret (tupAV xs)) h') : retR P G rs Q e ρ h :=
 retr (VS.of_le (Env.le_refl _)) hrv he hs hq
section
variable {P : Program} {G : List (Nat × List D)} {ρ : Env} {h : H}
theorem rv_tmp {t : Nat} {x : AV} (hx : getO ρ t = some x) : RV1 P G ρ h (.tmp t) x := fun _ I _ a w _ _ s => ⟨a.tmps.getD t undef, by have := s.2 t; rw [get_of_getO hx] at this; exact this, rfl⟩
theorem rv_agg {r T b : Nat} {T0 : TypeId} {vs : List AV} {z : Value} {sz eb : Nat} (hT : isAggB P T = some true) (hE : El P T z sz eb) (hx : getO ρ r = some (.val (.pointer (some ⟨b, 0, none⟩)))) (hm : Ent.cells b T0 vs ∈ h) (hn : sz = vs.length) : RV1 P G ρ h (.cell r T) (.agg vs) := fun _ I _ a w _ k s => by
 obtain ⟨i, hi, _, rfl, _⟩ := hE.get
 obtain ⟨cs, hc1, hc2⟩ := k.ent _ hm
 have hlen : cs.toList.length = vs.length := (AV.rels_length hc2).symm
 refine ⟨.agg cs.toList.toArray, ⟨_, rfl, hc2⟩, ?_⟩
 have e1 := rel_val (s.2 r) (get_of_getO hx)
 have hload := run_loadCells_list (P := P) w ⟨b, 0, none⟩ cs.toList fun j v hv => by
  rw [Addr.add_lit, Nat.zero_add, cell_of_row w b j cs T0 (0, 0) hc1]
  simpa using hv
 have hsz : cs.toList.length = i.size := by rw [hlen, hn]
 rw [hsz] at hload
 rw [Array.getD_eq_getD_getElem?] at e1
 simp [resSem, e1, asAddr, loadVar, run_isAgg hT, sizeOf, typeInfo, hi, hload]
end

mutual
inductive Cv (v : Value) (d : D) : AV → AV → Prop where
 | same (x : AV) : Cv v d x x
 | here : Cv v d (.val v) (.d d)
 | agg {xs ys : List AV} (h : Cvs v d xs ys) : Cv v d (.agg xs) (.agg ys)
inductive Cvs (v : Value) (d : D) : List AV → List AV → Prop where
 | nil : Cvs v d [] []
 | cons {x y : AV} {xs ys : List AV} (h1 : Cv v d x y) (h2 : Cvs v d xs ys) : Cvs v d (x :: xs) (y :: ys)
end
mutual
theorem Cv.rel {v : Value} {d : D} {w : World} {I : Nat → Prop} (hr : Rel w I d v) : ∀ {x y : AV} {u : Value}, Cv v d x y → AV.rel w I x u → AV.rel w I y u
 | _, _, _, .same x, h => h
 | _, _, _, .here, h => by cases h; exact hr
 | _, _, _, .agg hc, ⟨vs, h1, h2⟩ => ⟨vs, h1, Cvs.rel hr hc h2⟩
theorem Cvs.rel {v : Value} {d : D} {w : World} {I : Nat → Prop} (hr : Rel w I d v) : ∀ {xs ys : List AV} {us : List Value}, Cvs v d xs ys → AV.rels w I xs us → AV.rels w I ys us
 | [], [], us, .nil, h => h
 | _ :: _, _ :: _, u :: us, .cons h1 h2, ⟨g1, g2⟩ => ⟨Cv.rel hr h1 g1, Cvs.rel hr h2 g2⟩
end
def CvE (v : Value) (d : D) (ρ ρ' : Env) : Prop := ∀ t, Cv v d (get ρ t) (get ρ' t)
theorem CvE.refl (v : Value) (d : D) (ρ : Env) : CvE v d ρ ρ := fun _ => .same _
theorem CvE.cons {v : Value} {d : D} {ρ ρ' : Env} {t : Nat} {x y : AV} (hx : getO ρ t = some x) (hc : Cv v d x y) (h : CvE v d ρ ρ') : CvE v d ρ ((t, y) :: ρ') := fun s => by
 simp only [get]
 cases hb : Nat.beq t s with
 | true => rw [← Nat.eq_of_beq_eq_true hb, get_of_getO hx]; exact hc
 | false => exact h s
inductive CvH (v : Value) (d : D) : H → H → Prop where
 | refl (h : H) : CvH v d h h
 | keep {e : Ent} {h h' : H} (k : CvH v d h h') : CvH v d (e :: h) (e :: h')
 | cells {b : Nat} {T : TypeId} {vs vs' : List AV} {h h' : H} (hc : Cvs v d vs vs') (k : CvH v d h h') : CvH v d (.cells b T vs :: h) (.cells b T vs' :: h')
theorem CvH.blks {v : Value} {d : D} {h h' : H} (k : CvH v d h h') : blks h' = blks h := by
 induction k with
 | refl h => rfl
 | keep k ih => rename_i e _ _; simp only [Av.blks, List.filterMap_cons] at ih ⊢; rw [ih]
 | cells hc k ih => simp only [Av.blks, List.filterMap_cons, Ent.blk] at ih ⊢; rw [ih]
theorem CvH.ent {v : Value} {d : D} {w : World} {I : Nat → Prop} (hr : Rel w I d v) {h h' : H} (k : CvH v d h h') : (∀ e ∈ h, e.rel w I) → ∀ e ∈ h', e.rel w I := by
 induction k with
 | refl h => exact fun h => h
 | keep k ih =>
   intro hh e he
   rcases List.mem_cons.1 he with rfl | he
   · exact hh _ (by simp)
   · exact ih (fun e he => hh e (by simp [he])) e he
 | cells hc k ih =>
   intro hh e he
   rcases List.mem_cons.1 he with rfl | he
   · obtain ⟨cs, h1, h2⟩ := hh _ List.mem_cons_self
     exact ⟨cs, h1, hc.rel hr h2⟩
   · exact ih (fun e he => hh e (by simp [he])) e he
theorem Ok.conv {c : Cx} {I : Nat → Prop} {h h' : H} {w : World} {v : Value} {d : D} (k : Ok c I h w) (hr : Rel w I d v) (hc : CvH v d h h') : Ok c I h' w :=
 { ent := hc.ent hr k.ent, nd := hc.blks ▸ k.nd, imm := fun b hb => hc.blks ▸ k.imm b hb, new := fun b hb => k.new b (hc.blks ▸ hb), inew := k.inew, sup := k.sup, os := k.os, tape := k.tape, output := k.output, size := k.size, keep := k.keep, glob := k.glob }
theorem SF.conv {n : Nat} {w : World} {I : Nat → Prop} {ρ ρ' : Env} {a : Act} {v : Value} {d : D} (f : SF n w I ρ a) (hr : Rel w I d v) (hc : CvE v d ρ ρ') : SF n w I ρ' a := ⟨f.1, fun t => (hc t).rel hr (f.2 t)⟩

theorem row_rel {c : Cx} {I : Nat → Prop} {w : World} {v : Value} {n : Nat} {E : TypeId} {sz : Nat} (eb : Nat) {rows : List (List D)} {h1 h2 : H} (k1 : Ok c I (h1 ++ .row v n E sz (rows.flatten.map D.av) :: h2) w) (h0 : 0 < sz) (hn : rows.length = n) (hsz : ∀ r ∈ rows, r.length = sz) (hb : n * eb ≤ 140737488355328) :
 ∃ I' : Nat → Prop, Ok c I' (h1 ++ h2) w ∧ (∀ b, I b → I' b) ∧ Rel w I' (.l sz eb rows) v := by
 obtain ⟨os, ho, hos⟩ := k1.ent (.row v n E sz (rows.flatten.map D.av)) (by simp)
 rcases ho.2 with ⟨rfl, rfl⟩ | ⟨g, cap, cur, rfl, _, hg, hnc, hcm, hcs, htake⟩
 · have : rows = [] := List.eq_nil_of_length_eq_zero hn
   subst this
   have hok : Ok c I (h1 ++ h2) w := by
    have hbe : blks (h1 ++ Ent.row (.slice none 0 0) 0 E sz (List.map D.av [].flatten) :: h2) = blks (h1 ++ h2) := by rw [blks_append, blks_append]; rfl
    exact { ent := fun e he => k1.ent e (((List.sublist_cons_self _ h2).append_left h1).subset he), nd := hbe ▸ k1.nd, imm := fun b hb => hbe ▸ k1.imm b hb, new := fun b hb => k1.new b (hbe ▸ hb), inew := k1.inew, sup := k1.sup, os := k1.os, tape := k1.tape, output := k1.output, size := k1.size, keep := k1.keep, glob := k1.glob }
   exact ⟨I, hok, fun _ h => h, .nil sz eb⟩
 · have hok := k1.release (b := g) (e := .row (.slice (some ⟨g, 0, none⟩) n cap) n E sz (rows.flatten.map D.av)) rfl
   refine ⟨_, hok, fun _ h => .inl h, ?_⟩
   subst hn
   have hcell : ∀ q x, rows.flatten[q]? = some x → ∃ c, w.cell? ((⟨g, 0, none⟩ : Addr).add q) = some c ∧ Rel w I x c := fun q x hx => by
    obtain ⟨c, hc1, hc2⟩ := AV.rels_get hos q x.av (by rw [List.getElem?_map, hx]; rfl)
    exact ⟨c, ho.cells (g := g) rfl q c hc1, D.av_rel' hc2⟩
   have hq : ∀ (j u : Nat) (r : List D) (x : D), rows[j]? = some r → r[u]? = some x → rows.flatten[j * sz + u]? = some x := fun j u r x hr hx => by
    have hu : u < sz := by
     have := (List.getElem?_eq_some_iff.1 hx).1
     rwa [hsz r (List.mem_of_getElem? hr)] at this
    rw [flatten_get h0 rows hsz, Nat.add_comm, Nat.add_mul_div_right _ _ h0, Nat.add_mul_mod_self_right, Nat.div_eq_of_lt hu, Nat.mod_eq_of_lt hu, Nat.zero_add, hr]
    exact hx
   refine .l sz eb rows ⟨g, 0, none⟩ cap (fun j u => (w.cell? ((⟨g, 0, none⟩ : Addr).add (j * sz + u))).getD undef) (.inr rfl) hnc hcm hb hsz (fun j u r x hr hx => ?_) (fun j u r x hr hx => ?_)
   · obtain ⟨c, hc1, _⟩ := hcell _ x (hq j u r x hr hx)
     simp only [hc1, Option.getD_some]
   · obtain ⟨c, hc1, hc2⟩ := hcell _ x (hq j u r x hr hx)
     simp only [hc1, Option.getD_some]
     exact hc2.mono (fun _ _ => rfl) fun _ h => .inl h
theorem vdat {α : Type} {f : α → List D} {xs : List α} {ρ ρ' : Env} {h h1 h2 h' : H} {v : Value} {E : TypeId} {sz : Nat} (eb : Nat) (h0 : Nat.blt 0 sz = true) (hh : h = h1 ++ rowE v E sz f xs :: h2) (hsz : ∀ a, (f a).length = sz) (hb : xs.length * eb ≤ 140737488355328)
 (hρ : CvE v (.l sz eb (xs.map f)) ρ ρ') (hH : CvH v (.l sz eb (xs.map f)) (h1 ++ h2) h') : VS ρ h ρ' h' := by
 subst hh
 intro c I m a w k1 k2
 obtain ⟨I', g1, g2, g3⟩ := row_rel eb k1 (blt h0) (by simp) (fun r hr => by obtain ⟨a, _, rfl⟩ := List.mem_map.1 hr; exact hsz a) hb
 exact ⟨I', g1.conv g3 hH, (k2.wider g2).conv g3 hρ⟩
end Go.Av
namespace Go.Av
open Go
set_option linter.unusedVariables false
set_option linter.unusedSimpArgs false

def Bls (P : Program) (t : TypeId) (zs : List Value) (pl : List (Nat × Nat)) : Prop :=
 (match P.info? t, P.underlying t with
 | some it, some (.struct fields) =>
   match it.zero, fields.toList.mapM (fun f => (P.info? f.type).map fun i => (f.offset, i.size)) with
   | some z, some places => some (z.cells.toList, places)
   | _, _ => none
 | _, _ => none) = some (zs, pl)
theorem Bls.built {P : Program} {t : TypeId} {zs : List Value} {pl : List (Nat × Nat)} (h : Bls P t zs pl) (parts : List (Nat × Value)) : P.built t parts = Instr.fill (pl.toArray[·]?) zs.toArray parts := by
 unfold Bls at h
 unfold Program.built
 cases h1 : P.info? t with
 | none => rw [h1] at h; cases h
 | some it =>
   cases h2 : P.underlying t with
   | none => rw [h1, h2] at h; cases h
   | some d =>
     cases d with
     | struct fields =>
       rw [h1, h2] at h
       dsimp only at h ⊢
       cases h3 : it.zero with
       | none => rw [h3] at h; cases h
       | some z =>
         cases h4 : fields.toList.mapM (fun f => (P.info? f.type).map fun i => (f.offset, i.size)) with
         | none => rw [h3, h4] at h; cases h
         | some places =>
           rw [h3, h4] at h
           simp only [Option.some.injEq, Prod.mk.injEq] at h
           obtain ⟨h5, rfl⟩ := h
           subst h5
           rfl
     | _ => rw [h1, h2] at h; cases h
def fillAV (pl : List (Nat × Nat)) : List AV → List (Nat × AV) → Option (List AV)
 | cs, [] => some cs
 | cs, (i, x) :: r =>
   match pl[i]? with
   | none => none
   | some p => bif Nat.beq x.cl.length p.2 && Nat.ble (p.1 + p.2) cs.length then fillAV pl (setAt cs p.1 x.cl) r else none
inductive All2 {α β : Type} (R : α → β → Prop) : List α → List β → Prop where
 | nil : All2 R [] []
 | cons {a : α} {b : β} {as_ : List α} {bs : List β} (h : R a b) (t : All2 R as_ bs) : All2 R (a :: as_) (b :: bs)
theorem fill_rel {w : World} {I : Nat → Prop} {pl : List (Nat × Nat)} : ∀ {ps : List (Nat × AV)} {vs : List (Nat × Value)} {avs avs' : List AV} {cs : Array Value}, AV.rels w I avs cs.toList → All2 (fun p q => p.1 = q.1 ∧ AV.rel w I p.2 q.2 ∧ p.2.stor = true) ps vs → fillAV pl avs ps = some avs' →
 ∃ cs', Instr.fill (pl.toArray[·]?) cs vs = some cs' ∧ AV.rels w I avs' cs'.toList
 | [], [], avs, avs', cs, hr, _, hf => by cases hf; exact ⟨cs, rfl, hr⟩
 | (i, x) :: ps, (j, v) :: vs, avs, avs', cs, hr, .cons ⟨h1, h2, h3⟩ h4, hf => by
   cases h1
   simp only [fillAV] at hf
   cases hp : pl[i]? with
   | none => rw [hp] at hf; cases hf
   | some p =>
     rw [hp] at hf
     dsimp only at hf
     cases hc : Nat.beq x.cl.length p.2 && Nat.ble (p.1 + p.2) avs.length with
     | false => rw [hc] at hf; cases hf
     | true =>
       rw [hc] at hf
       simp only [cond_true] at hf
       rw [Bool.and_eq_true] at hc
       have e1 := Nat.eq_of_beq_eq_true hc.1
       have e2 := Nat.le_of_ble_eq_true hc.2
       have hcl := cl_rel h3 h2
       have hvl : v.cells.toList.length = x.cl.length := (AV.rels_length hcl).symm
       have hcs : cs.toList.length = avs.length := (AV.rels_length hr).symm
       have hsz : v.cells.size = p.2 := by rw [← e1, ← hvl]; simp
       have hfold := fold_set v.cells.toList 0 cs (cs.toList.take p.1) (cs.toList.drop p.1) (List.take_append_drop _ _).symm (by rw [List.length_drop, hcs, hvl, e1]; omega)
       have htl : (cs.toList.take p.1).length = p.1 := by rw [List.length_take, hcs]; omega
       rcases hfold with hfold | hfold
       case inr => omega
       rw [htl, Nat.sub_zero, List.drop_drop] at hfold
       have hstep : AV.rels w I (setAt avs p.1 x.cl) ((v.cells.zipIdx).foldl (fun cs q => cs.setIfInBounds (p.1 + q.2) q.1) cs).toList := by
        rw [← Array.foldl_toList, Array.toList_zipIdx, hfold]
        unfold setAt
        rw [hvl]
        exact AV.rels_append (AV.rels_append (rels_take _ hr) hcl) (rels_drop _ hr)
       obtain ⟨cs', g1, g2⟩ := fill_rel hstep h4 hf
       refine ⟨cs', ?_, g2⟩
       have hb : (v.cells.size ≠ p.2 || p.1 + v.cells.size > cs.size) = false := by
        refine Bool.or_eq_false_iff.2 ⟨by simp [hsz], decide_eq_false ?_⟩
        have : cs.size = avs.length := by rw [← hcs]; simp
        omega
       simp only [Instr.fill]
       have hpa : (pl.toArray)[i]? = some p := by simpa using hp
       rw [hpa]
       dsimp only
       rw [hb]
       exact g1
def partsO (ρ : Env) : List (Nat × Operand) → Option (List (Nat × AV))
 | [] => some []
 | (i, x) :: r => (evO ρ x).bind fun a => (partsO ρ r).bind fun as_ => some ((i, a) :: as_)
theorem partsO_rel {n : Nat} {w : World} {I : Nat → Prop} {ρ : Env} {a : Act} (f : SF n w I ρ a) : ∀ {ps : List (Nat × Operand)} {xs : List (Nat × AV)}, partsO ρ ps = some xs → xs.all (fun p => p.2.stor) = true → All2 (fun p q => p.1 = q.1 ∧ AV.rel w I p.2 q.2 ∧ p.2.stor = true) xs (ps.map fun p => (p.1, a.eval p.2))
 | [], xs, h, _ => by cases h; exact .nil
 | (i, x) :: ps, xs, h, hs => by
   simp only [partsO] at h
   cases h1 : evO ρ x with
   | none => rw [h1] at h; cases h
   | some r =>
     cases h2 : partsO ρ ps with
     | none => rw [h1, h2] at h; cases h
     | some rs =>
       rw [h1, h2] at h
       cases h
       simp only [List.all_cons, Bool.and_eq_true] at hs
       refine .cons ⟨rfl, ?_, hs.1⟩ (partsO_rel f h2 hs.2)
       have := f.ev x
       rw [ev_of_evO h1] at this
       exact this
section
variable {P : Program} {G : List (Nat × List D)} {ρ : Env} {h : H} {dst : Option Tmp} {ty : TypeId} {pos : String} {after : Array Edge} {g : Option (Nat × Bool)}
theorem pu_build {T : TypeId} {zs : List Value} {pl : List (Nat × Nat)} {parts : Array (Nat × Operand)} {xs : List (Nat × AV)} {cs : List AV} (hB : Bls P T zs pl) (hx : partsO ρ parts.toList = some xs) (hs : xs.all (fun p => p.2.stor) = true) (hf : fillAV pl (zs.map AV.val) xs = some cs) :
 Pure P G ⟨dst, .build T parts, ty, pos, after, g⟩ ρ h (.agg cs) :=
 pure_free fun w I _ a k => by
  obtain ⟨cs', g1, g2⟩ := fill_rel (cs := zs.toArray) (by simpa using rels_vals w I zs) (partsO_rel k hx hs) hf
  refine ⟨.agg cs', ⟨cs'.toList, by simp, g2⟩, fun w' => ?_⟩
  have e : (parts.map fun (i, x) => (i, a.eval x)).toList = parts.toList.map fun p => (p.1, a.eval p.2) := by simp
  have := run_build (P := P) w' T (parts.map fun (i, x) => (i, a.eval x)) cs' (by rw [hB.built, e]; exact g1)
  simp [execOp, this]

def byteC (b : UInt8) : List D := [.i .u8 b.toNat]
abbrev bytesD (l : List UInt8) : D := .l 1 1 (l.map byteC)
abbrev AV.byte (b : UInt8) : AV := .val (.int .u8 (b.toNat : Int))
theorem pu_byte_int {S T : TypeId} {x : Operand} {b : UInt8} (hS : (P.underlying S).isSome = true) (hT : P.underlying T = some (.int .i64)) (hx : evO ρ x = some (AV.byte b)) : Pure P G ⟨dst, .convert S T x, ty, pos, after, g⟩ ρ h (.int (b.toNat : Int)) := by
 have := pure_convert (P := P) (G := G) (h := h) (dst := dst) (ty := ty) (pos := pos) (after := after) (g := g) hS hT (ev_of_evO hx)
 have hb := b.toNat_lt
 rwa [wrap_in (by unfold inI64; omega)] at this
theorem pu_len_row {T E E' : TypeId} {x : Operand} {v : Value} {n sz : Nat} {xs : List AV} (hT : P.underlying T = some (.slice E')) (hx : evO ρ x = some (.val v)) (hm : Ent.row v n E sz xs ∈ h) : Pure P G ⟨dst, .call { callee := .builtin .len, args := #[x], argTypes := #[T] }, ty, pos, after, g⟩ ρ h (.int n) := by
 intro c I m a w _ k s
 have e1 := rel_val (s.ev x) (ev_of_evO hx)
 refine ⟨_, rfl, fun w' _ => ?_⟩
 obtain ⟨us, ho, _⟩ := k.ent _ hm
 rcases ho.2 with ⟨rfl, rfl⟩ | ⟨g, cap, cur, rfl, _⟩
 · simp [execOp, resolve, invoke, builtin, e1, Builtin.len_, run_underlying hT, goInt]
 · simp [execOp, resolve, invoke, builtin, e1, Builtin.len_, run_underlying hT, goInt]
end
section
variable {k : Kx} {Q : Exit → Env → H → Prop} {ρ ρ' : Env} {h h1 h2 : H} {ops : Array Oper} {l : List Oper} {d : Nat} {dst : Option Tmp} {ty : TypeId} {pos : String} {after : Array Edge} {g : Option (Nat × Bool)}
theorem jbuild0 {α : Type} (f : α → List D) {T E : TypeId} {z : Value} {sz eb : Nat} (hT : k.P.underlying T = some (.slice E)) (he : El k.P E z sz eb) (hd : Nat.blt d k.n = true)
 (hj : All fun v => JL k ops l Q ((d, .val v) :: ρ) (rowE v E sz f [] :: h)) : JL k ops (⟨some d, .buildSlice T 0 #[], ty, pos, after, none⟩ :: l) Q ρ h := by
 obtain ⟨i, hi, hz0, hz1, _⟩ := he.get
 refine JL_eff rfl (fun t ht => by cases ht; exact blt hd) fun I a w k1 k2 => ?_
 refine ⟨.slice (some ⟨w.heap.size, 0, none⟩) 0 0, w.alloc (.cells #[] E), I, .val (.slice (some ⟨w.heap.size, 0, none⟩) 0 0), _, ?_, k1.fresh _ (rowE (.slice (some ⟨w.heap.size, 0, none⟩) 0 0) E sz f []) rfl ?_, k2.fresh k1 _, rfl, hj.get _⟩
 · simp [execOp, Instr.buildSlice, run_underlying hT, sizeOf, typeInfo, hi, Instr.fill, newRow]
   have : Array.range 0 = #[] := by apply Array.ext'; simp
   rw [this, Array.map_empty]
 · refine ⟨[], ⟨by simp, .inr ⟨w.heap.size, 0, #[], rfl, by simp, heap_alloc_new w _, ?_⟩⟩, trivial⟩
   simp
end
end Go.Av
namespace Go.Av
open Go
set_option linter.unusedVariables false
set_option linter.unusedSimpArgs false

section
variable {k : Kx} {Q : Exit → Env → H → Prop} {ρ ρ' : Env} {h h1 h2 : H} {ops : Array Oper} {l : List Oper} {d : Nat} {dst : Option Tmp} {ty : TypeId} {pos : String} {after : Array Edge} {g : Option (Nat × Bool)} {e1 e2 e3 e4 e5 e6 : Ent}
theorem js_whole {T T0 : TypeId} {x y : Operand} {b : Nat} {cs vs : List AV} {z : Value} {sz eb : Nat} (hx : evO ρ x = some (.val (.pointer (some ⟨b, 0, none⟩)))) (hy : evO ρ y = some (.agg cs)) (hs : cs.all AV.flat = true) (hE : El k.P T z sz eb) (hn : sz = cs.length) (hl : vs.length = cs.length) (hh : h = h1 ++ .cells b T0 vs :: h2)
 (hj : JL k ops l Q ρ (h1 ++ .cells b T0 cs :: h2)) : JL k ops (⟨none, .store T x y, ty, pos, after, none⟩ :: l) Q ρ h := by
 refine JL_store (off := 0) (r := .agg cs) (vs := vs) (ev_of_evO hx) (ev_of_evO hy) hs hE hn hh (by simp [AV.cl, hl]) ?_
 have : setAt vs 0 (AV.agg cs).cl = cs := by simp [setAt, AV.cl, ← hl]
 rw [this]
 exact hj
theorem callE1 {β : Type} {X : β → AV} {en : β → Ent} {f : FuncId} {xs : Array Operand} {ats : Array TypeId} {args : List AV} (hargs : evsO ρ xs.toList = some args) (hcal : Cal k.P f) (hac : AC k.P k.c.G f args [] fun r h => ∃ v, r = .ret (X v) ∧ h = [en v]) (hd : Nat.blt d k.n = true)
 (hj : All fun v => JL k ops l Q ((d, X v) :: ρ) (en v :: h)) : JL k ops (⟨some d, .call { callee := .value (.func f), args := xs, argTypes := ats }, ty, pos, after, none⟩ :: l) Q ρ h :=
 callw (hc := []) (hr := h) hargs hcal rfl hac hd (fun r h' hq => by obtain ⟨v, e1, e2⟩ := hq; cases e1; subst e2; exact hj.get v) (fun ch h' hq => by obtain ⟨v, e1, _⟩ := hq; cases e1)

theorem bor_row {α : Type} {f : α → List D} {xs : List α} {v : Value} {E : TypeId} {sz : Nat} (eb : Nat) (hm : rowE v E sz f xs ∈ h) (h0 : Nat.blt 0 sz = true) (hsz : ∀ a, (f a).length = sz) (hb : xs.length * eb ≤ 140737488355328) : Bor h (.val v) (.d (.l sz eb (xs.map f))) := by
 intro c I w u kk hr
 obtain rfl : u = v := hr
 obtain ⟨s, t, rfl⟩ := List.append_of_mem hm
 obtain ⟨os, ho, hos⟩ := kk.ent (rowE u E sz f xs) (by simp)
 rcases ho.2 with ⟨rfl, hn⟩ | ⟨g, cap, cur, hv, _, hg, hnc, hcm, hcs, htake⟩
 · have : xs = [] := List.eq_nil_of_length_eq_zero hn
   subst this
   exact .nil sz eb
 · have hin : g ∈ blks (s ++ rowE u E sz f xs :: t) := by
    rw [blks_append]; subst hv
    exact List.mem_append.2 (.inr (by simp [blks, Ent.blk, Value.ownBlock]))
   have hcell : ∀ q x, (xs.map f).flatten[q]? = some x → ∃ c, w.cell? ((⟨g, 0, none⟩ : Addr).add q) = some c ∧ Rel w I x c := fun q x hx => by
    obtain ⟨c, hc1, hc2⟩ := AV.rels_get hos q x.av (by rw [List.getElem?_map, hx]; rfl)
    exact ⟨c, ho.cells (g := g) (by rw [hv]; rfl) q c hc1, D.av_rel' hc2⟩
   have hszs : ∀ r ∈ xs.map f, r.length = sz := fun r hr => by obtain ⟨a, _, rfl⟩ := List.mem_map.1 hr; exact hsz a
   have hq : ∀ (j u : Nat) (r : List D) (x : D), (xs.map f)[j]? = some r → r[u]? = some x → (xs.map f).flatten[j * sz + u]? = some x := fun j u r x hr hx => by
    have hu : u < sz := by
     have := (List.getElem?_eq_some_iff.1 hx).1
     rwa [hszs r (List.mem_of_getElem? hr)] at this
    rw [flatten_get (blt h0) _ hszs, Nat.add_comm, Nat.add_mul_div_right _ _ (blt h0), Nat.add_mul_mod_self_right, Nat.div_eq_of_lt hu, Nat.mod_eq_of_lt hu, Nat.zero_add, hr]
    exact hx
   have hres := Rel.l (w := w) (I := fun b => I b ∨ b ∈ blks (s ++ rowE u E sz f xs :: t)) sz eb (xs.map f) ⟨g, 0, none⟩ cap (fun j u => (w.cell? ((⟨g, 0, none⟩ : Addr).add (j * sz + u))).getD undef) (.inr hin) (by simpa using hnc) hcm (by simpa using hb) hszs (fun j u r x hr hx => by
    obtain ⟨c, hc1, _⟩ := hcell _ x (hq j u r x hr hx)
    simp only [hc1, Option.getD_some]) (fun j u r x hr hx => by
    obtain ⟨c, hc1, hc2⟩ := hcell _ x (hq j u r x hr hx)
    simp only [hc1, Option.getD_some]
    exact hc2.mono (fun _ _ => rfl) fun _ h => .inl h)
   rw [List.length_map] at hres
   show Rel w (fun b => I b ∨ b ∈ blks (s ++ rowE u E sz f xs :: t)) (.l sz eb (xs.map f)) u
   generalize (fun b => I b ∨ b ∈ blks (s ++ rowE u E sz f xs :: t)) = J at hres ⊢
   rw [hv]
   exact hres

end
theorem AV.le_agg {xs ys : List AV} (h : AVs.le xs ys) : AV.le (.agg xs) (.agg ys) := fun _ _ _ ⟨vs, h1, h2⟩ => ⟨vs, h1, AVs.le_rel h h2⟩
theorem RV1.le {P : Program} {G : List (Nat × List D)} {ρ : Env} {h : H} {r : ResultVar} {x y : AV} (hr : RV1 P G ρ h r x) (hl : AV.le x y) : RV1 P G ρ h r y := fun c I n a w h1 h2 h3 => let ⟨v, e1, e2⟩ := hr c I n a w h1 h2 h3; ⟨v, hl _ _ _ e1, e2⟩
theorem RVs.le {P : Program} {G : List (Nat × List D)} {ρ : Env} {h : H} : ∀ {rs : List ResultVar} {xs ys : List AV}, RVs P G ρ h rs xs → AVs.le xs ys → RVs P G ρ h rs ys
 | [], [], [], _, _ => trivial
 | _ :: _, _ :: _, _ :: _, ⟨h1, h2⟩, ⟨g1, g2⟩ => ⟨h1.le g1, RVs.le h2 g2⟩
theorem retrl {P : Program} {G : List (Nat × List D)} {rs : List ResultVar} {Q : AE → H → Prop} {e : Exit} {ρ ρ1 : Env} {h h1 h' : H} {xs ys : List AV} (v : VS ρ h ρ1 h1) (hrv : RVs P G ρ1 h1 rs xs) (hle : AVs.le xs ys) (he : retE e = true) (hs : List.Sublist h' h1) (hq : Q (.ret (tupAV ys)) h') : retR P G rs Q e ρ h :=
 retr v (hrv.le hle) he hs hq
theorem vid {ρ : Env} {h : H} : VS ρ h ρ h := VS.of_le (Env.le_refl _)
end Go.Av
namespace Go.Av
open Go
set_option linter.unusedVariables false
set_option linter.unusedSimpArgs false

def storeB : Op → Bool
 | .store .. => true
 | .mapUpdate .. => true
 | _ => false
def bigCall (P : Program) (o : Oper) : Bool :=
 match o.op with
 | .call c => (match c.callee with
   | .value (.func _) => (match P.underlying o.type with
     | some (.int _) => false
     | some .bool => false
     | some .string => false
     | _ => true)
   | _ => false)
 | _ => false
def mixShape (P : Program) (ops : Array Oper) (n : Nat) : Bool :=
 ops.any (bigCall P) && Region.noSelect ops && decide (n ≤ ops.size) && (decide (n = ops.size) || (Region.sinkB .any ops n && Region.chainB .any ops n)) && (ops.toList.take n).all fun o => !storeB o.op
def mixOk (ops : Array Oper) (listed : Array Bool) (n i : Nat) : Bool := (Region.ready .any ops listed).contains i && Region.free .any ops listed i && decide (i < n)
structure JE (k : Kx) (ops : Array Oper) (n f : Nat) (listed : Array Bool) (l2 : List Oper) (s : Nat) (pend held : List (Nat × Bool)) (Q : Exit → Env → H → Prop) (ρ : Env) (h : H) : Prop where
 get : mixShape k.P ops n = true → HeadInv .any ops n listed → ∀ I a w, Ok k.c I h w → SF k.n w I ρ a → a.defers = k.df →
  headH k.P .any ops (Same I h w) n (fun listed' a' w' => Region.seqB .any ops (ops.size - n) n listed' = true ∧ wpList k.P ops (lift k Q) l2 a' w') f listed a w

section
variable {k : Kx} {Q : Exit → Env → H → Prop} {ρ ρ' : Env} {h h' : H} {ops : Array Oper} {listed : Array Bool} {l2 : List Oper} {n f s i d : Nat} {op : Op} {ty : TypeId} {pos : String} {after : Array Edge} {pend held : List (Nat × Bool)} {b : Bool}

end
structure Sl where
 ad : Option Addr
 n : Nat
 c : Nat
abbrev Sl.v (q : Sl) : Value := .slice q.ad q.n q.c
abbrev Sl.nil : Sl := ⟨none, 0, 0⟩
section
variable {k : Kx} {Q : Exit → Env → H → Prop} {ρ ρ' : Env} {h h' h1 h2 : H} {ops : Array Oper} {l : List Oper} {d : Nat} {ty : TypeId} {pos : String} {after : Array Edge} {e1 e2 e3 e4 : Ent}
theorem JL_slice {v : Value} {n : Nat} {E : TypeId} {sz : Nat} {xs : List AV} (hh : h = h1 ++ .row v n E sz xs :: h2) (hj : ∀ q : Sl, v = q.v → JL k ops l Q ρ h) : JL k ops l Q ρ h := by
 intro I a w k1 k2 k3
 obtain ⟨os, ho, _⟩ := k1.ent (.row v n E sz xs) (by rw [hh]; simp)
 rcases ho.2 with ⟨rfl, _⟩ | ⟨g, cap, cur, rfl, _⟩
 · exact hj ⟨none, 0, 0⟩ rfl I a w k1 k2 k3
 · exact hj ⟨some ⟨g, 0, none⟩, n, cap⟩ rfl I a w k1 k2 k3
theorem jappG {α : Type} {f : α → List D} {xs ys : List α} {T E : TypeId} {x y : Operand} {z : Value} {sz eb eb' : Nat} {v : Value} (hx : evO ρ x = some (.val v)) (hh : h = h1 ++ rowE v E sz f xs :: h2) (hy : evO ρ y = some (.d (.l sz eb' (ys.map f)))) (hT : k.P.underlying T = some (.slice E)) (he : El k.P E z sz eb) (hz : z.cells.size = sz) (h0 : Nat.blt 0 sz = true)
 (hd : Nat.blt d k.n = true) (hb : (xs.length + ys.length) * eb ≤ 140737488355328) (hm : xs.length + ys.length ≤ 140737488355328)
 (hj : ∀ q : Sl, JL k ops l Q ((d, .val q.v) :: ρ) (h1 ++ rowE q.v E sz f (xs ++ ys) :: h2)) :
 JL k ops (⟨some d, .call { callee := .builtin .append, args := #[x, y], argTypes := #[T, T] }, ty, pos, after, none⟩ :: l) Q ρ h := by
 refine JL_append (h1 := h1) (h2 := h2) (n := xs.length) (rows := ys.map f) hT he hz (blt h0) (ev_of_evO hx) (ev_of_evO hy) hh (by simpa using hb) (by simpa using hm) (fun t ht => by cases ht; exact blt hd) fun v' => ?_
 refine JL_slice (h1 := h1) (h2 := h2) rfl fun q hq => ?_
 subst hq
 have := hj q
 rw [rows_flat_snoc]
 unfold rowE at this
 rw [List.length_append] at this
 rw [List.length_map]
 exact this
theorem jbuild0S {α : Type} (f : α → List D) {T E : TypeId} {z : Value} {sz eb : Nat} (hT : k.P.underlying T = some (.slice E)) (he : El k.P E z sz eb) (hd : Nat.blt d k.n = true)
 (hj : All fun q : Sl => JL k ops l Q ((d, .val q.v) :: ρ) (rowE q.v E sz f [] :: h)) : JL k ops (⟨some d, .buildSlice T 0 #[], ty, pos, after, none⟩ :: l) Q ρ h :=
 jbuild0 f hT he hd ⟨fun v => JL_slice (h1 := []) rfl fun q e => by subst e; exact hj.get q⟩
end
end Go.Av
namespace Go.Av
open Go
set_option linter.unusedVariables false
set_option linter.unusedSimpArgs false

section
variable {k : Kx} {Q : Exit → Env → H → Prop} {ρ ρ' : Env} {h h' : H} {ops : Array Oper} {listed : Array Bool} {n f i j d : Nat} {op : Op} {ty : TypeId} {pos : String} {after : Array Edge}

theorem oper_wp_to {P : Program} {o : Oper} {a : Act} {w : World} {K K' : Act → World → Prop} {Q Q' : Exit → Act → World → Prop} (hK : ∀ a w, K a w → K' a w) (hQ : ∀ e a w, e ≠ .normal → ¬ Q e a w) (h : o.wp P a w K Q) : o.wp P a w K' Q' := by
 unfold Oper.wp at *
 generalize (execOp a.eval o).run P w = r at *
 cases r with
 | ok n w' =>
   cases n <;> simp only [Oper.upon] at h ⊢
   case value u => exact hK _ _ h
   case skip => exact hK _ _ h
   case defer d => exact hK _ _ h
   case enter f args =>
    refine Calls.mono h fun e w'' he => ?_
    cases e with
    | returned u => exact hK _ _ he
    | panicked c => exact absurd he (hQ _ _ _ (by simp))
    | outgrown => obtain ⟨_, _, hf⟩ := he; exact absurd hf (hQ _ _ _ (by simp))
   case row row args => exact Rows.mono h fun u w'' he => hK _ _ he
 | halt x w' =>
   cases x <;> simp only [Oper.upon] at h ⊢
   case panic u => exact absurd h (hQ _ _ _ (by simp))
structure JX (k : Kx) (ops : Array Oper) (f : Nat) (listed : Array Bool) (Q : Exit → Env → H → Prop) (ρ : Env) (h : H) : Prop where
 get : Region.noSelect ops = true → HeadInv .any ops ops.size listed → ∀ I a w, Ok k.c I h w → SF k.n w I ρ a → a.defers = k.df →
  headH k.P .any ops (fun _ => True) ops.size (fun listed' a' w' => Region.ready .any ops listed' = [] ∧ lift k Q .normal a' w') f listed a w

structure Stop (p : Prop) : Prop where
 get : p
end
end Go.Av
namespace Go.Av
open Go
set_option linter.unusedVariables false
set_option linter.unusedSimpArgs false

inductive Upd (e e' : Ent) : H → H → Prop where
 | here {h : H} : Upd e e' (e :: h) (e' :: h)
 | there {x : Ent} {h h' : H} (u : Upd e e' h h') : Upd e e' (x :: h) (x :: h')
theorem Upd.split {e e' : Ent} {h h' : H} (u : Upd e e' h h') : ∃ h1 h2, h = h1 ++ e :: h2 ∧ h' = h1 ++ e' :: h2 := by
 induction u with
 | here => exact ⟨[], _, rfl, rfl⟩
 | there _ ih =>
   obtain ⟨h1, h2, rfl, rfl⟩ := ih
   exact ⟨_ :: h1, h2, rfl, rfl⟩
theorem Upd.perm {e e' : Ent} {h h' : H} (u : Upd e e' h h') : ∃ r, h.Perm (e :: r) ∧ h'.Perm (e' :: r) := by
 obtain ⟨h1, h2, rfl, rfl⟩ := u.split
 exact ⟨h1 ++ h2, List.perm_middle, List.perm_middle⟩
inductive Sel (e : Ent) : H → H → Prop where
 | here {h : H} : Sel e (e :: h) h
 | there {x : Ent} {h h' : H} (u : Sel e h h') : Sel e (x :: h) (x :: h')
theorem Sel.perm {e : Ent} {h h' : H} (u : Sel e h h') : h.Perm (e :: h') := by
 induction u with
 | here => exact List.Perm.refl _
 | there _ ih => exact (ih.cons _).trans (List.Perm.swap ..)
inductive Take : H → H → H → Prop where
 | nil {h : H} : Take h [] h
 | cons {e : Ent} {h h1 hc hr : H} (s : Sel e h h1) (t : Take h1 hc hr) : Take h (e :: hc) hr
theorem Take.perm {h hc hr : H} (t : Take h hc hr) : h.Perm (hc ++ hr) := by
 induction t with
 | nil => exact List.Perm.refl _
 | cons s _ ih => exact s.perm.trans (ih.cons _)
inductive App : H → H → H → Prop where
 | nil {h : H} : App [] h h
 | cons {e : Ent} {a h h' : H} (p : App a h h') : App (e :: a) h (e :: h')
theorem App.eq {a h h' : H} (p : App a h h') : h' = a ++ h := by
 induction p with
 | nil => rfl
 | cons _ ih => rw [ih]; rfl

section
variable {k : Kx} {Q : Exit → Env → H → Prop} {ρ ρ' : Env} {h h' hr : H} {ops : Array Oper} {l : List Oper} {d : Nat} {dst : Option Tmp} {ty : TypeId} {pos : String} {after : Array Edge}

theorem VS.take {hc : H} (t : Take h hc hr) (hle : Env.le ρ ρ') : VS ρ h ρ' hc := VS.trans (VS.perm t.perm) (VS.trans (VS.drop (List.sublist_append_left hc hr)) (VS.of_le hle))

theorem js_um {α : Type} {f : α → AV} {T T0 : TypeId} {x y : Operand} {b off : Nat} {a : α} {vs : List α} {z : Value} {eb : Nat} (hx : evO ρ x = some (.val (.pointer (some ⟨b, off, none⟩))))
 (hu : Upd (.cells b T0 (vs.map f)) (.cells b T0 ((vs.set off a).map f)) h h') (hy : evO ρ y = some (f a)) (hs : (f a).flat = true) (hE : El k.P T z 1 eb) (hl : off < vs.length)
 (hj : JL k ops l Q ρ h') : JL k ops (⟨none, .store T x y, ty, pos, after, none⟩ :: l) Q ρ h := by
 obtain ⟨h1, h2, rfl, rfl⟩ := hu.split
 exact js_map hx rfl hy hs hE hl hj
theorem js_uw {T T0 : TypeId} {x y : Operand} {b : Nat} {cs vs : List AV} {z : Value} {sz eb : Nat} (hx : evO ρ x = some (.val (.pointer (some ⟨b, 0, none⟩)))) (hy : evO ρ y = some (.agg cs)) (hs : cs.all AV.flat = true) (hE : El k.P T z sz eb) (hn : sz = cs.length)
 (hu : Upd (.cells b T0 vs) (.cells b T0 cs) h h') (hl : vs.length = cs.length)
 (hj : JL k ops l Q ρ h') : JL k ops (⟨none, .store T x y, ty, pos, after, none⟩ :: l) Q ρ h := by
 obtain ⟨h1, h2, rfl, rfl⟩ := hu.split
 exact js_whole hx hy hs hE hn hl rfl hj
inductive SetAR : List AV → Nat → List AV → List AV → Prop where
 | nil {l : List AV} : SetAR l 0 [] l
 | put {x c : AV} {l cs l' : List AV} (h : SetAR l 0 cs l') : SetAR (x :: l) 0 (c :: cs) (c :: l')
 | skip {x : AV} {l cs l' : List AV} {n : Nat} (h : SetAR l n cs l') : SetAR (x :: l) (n + 1) cs (x :: l')
theorem SetAR.eq {l cs l' : List AV} {n : Nat} (h : SetAR l n cs l') : l' = setAt l n cs ∧ n + cs.length ≤ l.length := by
 induction h with
 | nil => simp [setAt]
 | put _ ih =>
   obtain ⟨rfl, h2⟩ := ih
   refine ⟨by simp [setAt, Nat.add_comm], by simp at h2 ⊢; omega⟩
 | skip _ ih =>
   obtain ⟨rfl, h2⟩ := ih
   refine ⟨by simp [setAt, Nat.add_right_comm], by simp at h2 ⊢; omega⟩
theorem js_ur {T T0 : TypeId} {x y : Operand} {b off : Nat} {r : AV} {vs vs' : List AV} {z : Value} {eb : Nat} (hx : evO ρ x = some (.val (.pointer (some ⟨b, off, none⟩)))) (hy : evO ρ y = some r) (hs : r.flat = true) (hE : El k.P T z 1 eb)
 (hu : Upd (.cells b T0 vs) (.cells b T0 vs') h h') (hv : SetAR vs off [r] vs')
 (hj : JL k ops l Q ρ h') : JL k ops (⟨none, .store T x y, ty, pos, after, none⟩ :: l) Q ρ h := by
 obtain ⟨h1, h2, rfl, rfl⟩ := hu.split
 obtain ⟨rfl, hl⟩ := hv.eq
 simp only [List.length_cons, List.length_nil] at hl
 refine js_set hx hy hs hE rfl (by omega) ?_
 rw [← setAt_one _ _ _ (by omega)]
 exact hj
theorem japU {α : Type} {f : α → List D} {xs ys : List α} {T E : TypeId} {x y : Operand} {z : Value} {sz eb eb' : Nat} {v : Value} {H' : Sl → H} (hx : evO ρ x = some (.val v)) (hT : k.P.underlying T = some (.slice E)) (he : El k.P E z sz eb)
 (hu : ∀ q : Sl, Upd (rowE v E sz f xs) (rowE q.v E sz f (xs ++ ys)) h (H' q)) (hy : evO ρ y = some (.d (.l sz eb' (ys.map f)))) (hz : z.cells.size = sz) (h0 : Nat.blt 0 sz = true)
 (hd : Nat.blt d k.n = true) (hb : (xs.length + ys.length) * eb ≤ 140737488355328) (hm : xs.length + ys.length ≤ 140737488355328)
 (hj : All fun q : Sl => JL k ops l Q ((d, .val q.v) :: ρ) (H' q)) :
 JL k ops (⟨some d, .call { callee := .builtin .append, args := #[x, y], argTypes := #[T, T] }, ty, pos, after, none⟩ :: l) Q ρ h := by
 obtain ⟨h1, h2, e1, _⟩ := (hu Sl.nil).split
 refine jappG (h1 := h1) (h2 := h2) hx e1 hy hT he hz h0 hd hb hm fun q => ?_
 refine JL_vs (VS.perm ?_) (hj.get q)
 obtain ⟨r, p1, p2⟩ := (hu q).perm
 refine List.perm_middle.trans (List.Perm.trans (List.Perm.cons _ ?_) p2.symm)
 rw [e1] at p1
 exact (List.perm_middle.symm.trans p1).cons_inv
theorem japU1 {α : Type} {f : α → List D} {xs : List α} {u : α} {T E : TypeId} {x y : Operand} {z : Value} {sz eb eb' : Nat} {v : Value} {H' : Sl → H} (hx : evO ρ x = some (.val v)) (hT : k.P.underlying T = some (.slice E)) (he : El k.P E z sz eb)
 (hu : ∀ q : Sl, Upd (rowE v E sz f xs) (rowE q.v E sz f (xs ++ [u])) h (H' q)) (hy : evO ρ y = some (.d (.l sz eb' [f u]))) (hz : z.cells.size = sz) (h0 : Nat.blt 0 sz = true)
 (hd : Nat.blt d k.n = true) (hb : (xs.length + 1) * eb ≤ 140737488355328) (hm : xs.length + 1 ≤ 140737488355328)
 (hj : All fun q : Sl => JL k ops l Q ((d, .val q.v) :: ρ) (H' q)) :
 JL k ops (⟨some d, .call { callee := .builtin .append, args := #[x, y], argTypes := #[T, T] }, ty, pos, after, none⟩ :: l) Q ρ h := japU (ys := [u]) hx hT he hu hy hz h0 hd hb hm hj

theorem callG {β : Type} {X : β → AV} {en : β → H} {hc : H} {H' : β → H} {f : FuncId} {xs : Array Operand} {ats : Array TypeId} {args : List AV} (hargs : evsO ρ xs.toList = some args) (hcal : Cal k.P f) (hac : AC k.P k.c.G f args hc fun r h => ∃ v, r = .ret (X v) ∧ h = en v)
 (ht : Take h hc hr) (hd : Nat.blt d k.n = true) (ha : ∀ v, App (en v) hr (H' v)) (hj : All fun v => JL k ops l Q ((d, X v) :: ρ) (H' v)) :
 JL k ops (⟨some d, .call { callee := .value (.func f), args := xs, argTypes := ats }, ty, pos, after, none⟩ :: l) Q ρ h :=
 JL_vs (VS.perm ht.perm) (callw (hc := hc) (hr := hr) hargs hcal rfl hac hd (fun r h' hq => by obtain ⟨v, e1, e2⟩ := hq; cases e1; subst e2; rw [← (ha v).eq]; exact hj.get v) (fun ch h' hq => by obtain ⟨v, e1, _⟩ := hq; cases e1))
theorem JL_callV {f : FuncId} {x : Operand} {xs : Array Operand} {ats : Array TypeId} {caps : Array Value} {es : List AV} {hc hr : H} {R : AE → H → Prop} (hf : evO ρ x = some (.val (.func (.func f) #[] caps))) (hxs : evsO ρ xs.toList = some es) (hcal : Cal k.P f) (hac : AC k.P k.c.G f (es ++ caps.toList.map AV.val) hc R) (hs : h = hc ++ hr) (hd : ∀ t, dst = some t → t < k.n)
 (hret : ∀ r h', R (.ret r) h' → JL k ops l Q (put ρ dst r) (h' ++ hr)) (hpan : ∀ ch h', R (.pan ch) h' → Q (.panic ch) ρ (h' ++ hr)) :
 JL k ops (⟨dst, .call { callee := .value x, args := xs, argTypes := ats }, ty, pos, after, none⟩ :: l) Q ρ h := by
 intro I a w h1 h2 h3
 subst hs
 refine wpList_plain rfl fun K hK => ?_
 unfold Oper.wp
 rw [run_call_value (rel_val (h2.ev x) (ev_of_evO hf)), hcal]
 simp only [Oper.upon]
 have hr' : AV.rels w I (es ++ caps.toList.map AV.val) (xs.toList.map a.eval ++ caps.toList) := AV.rels_append (by rw [← evs_of_evsO hxs]; exact rels_evs h2 xs.toList) (rels_vals' w I _)
 refine (hac I w _ (fun e he => h1.ent e (List.mem_append.2 (.inl he))) ?_ ?_ (fun q hq => h1.glob q hq) hr').mono ?_
 · have := h1.nd; rw [blks_append] at this; exact (List.nodup_append.1 this).1
 · intro b hb
   have := h1.imm b hb
   rw [blks_append, List.mem_append] at this
   exact ⟨this.1, fun hm => this.2 (.inl hm)⟩
 · rintro e w' ⟨r, h', I', hR, hok, hrel⟩
   obtain ⟨k1, k2⟩ := h1.call hok
   have hsf : SF k.n w' I' ρ a := h2.mono k2 (fun b hb => hok.sup b hb)
   cases r with
   | ret r =>
     cases e with
     | returned v => exact hK _ _ (hret r h' hR I' _ w' k1 (hsf.put hd hrel) (by rw [Act.defers_put]; exact h3))
     | panicked ch => exact hrel.elim
     | outgrown => exact hrel.elim
   | pan ch =>
     cases e with
     | returned v => exact hrel.elim
     | panicked ch' => subst hrel; exact ⟨I', ρ, h' ++ hr, k1, hsf, h3, hpan _ _ hR⟩
     | outgrown => exact hrel.elim
theorem callGV {β : Type} {X : β → AV} {en : β → H} {hc : H} {H' : β → H} {f : FuncId} {x : Operand} {xs : Array Operand} {ats : Array TypeId} {caps : Array Value} {es : List AV} (hf : evO ρ x = some (.val (.func (.func f) #[] caps))) (hxs : evsO ρ xs.toList = some es) (hcal : Cal k.P f)
 (hac : AC k.P k.c.G f (es ++ caps.toList.map AV.val) hc fun r h => ∃ v, r = .ret (X v) ∧ h = en v)
 (ht : Take h hc hr) (hd : Nat.blt d k.n = true) (ha : ∀ v, App (en v) hr (H' v)) (hj : All fun v => JL k ops l Q ((d, X v) :: ρ) (H' v)) :
 JL k ops (⟨some d, .call { callee := .value x, args := xs, argTypes := ats }, ty, pos, after, none⟩ :: l) Q ρ h :=
 JL_vs (VS.perm ht.perm) (JL_callV (hc := hc) (hr := hr) hf hxs hcal hac rfl (fun t ht => by cases ht; exact blt hd) (fun r h' hq => by obtain ⟨v, e1, e2⟩ := hq; cases e1; subst e2; rw [← (ha v).eq]; exact hj.get v) (fun ch h' hq => by obtain ⟨v, e1, _⟩ := hq; cases e1))
end

def Sl.at (q : Sl) (off : Nat) : Addr := ⟨(q.ad.map (·.block)).getD 0, off, none⟩
theorem Ent.row_form {w : World} {I : Nat → Prop} {q : Sl} {n : Nat} {E : TypeId} {sz : Nat} {l : List AV} (h : (Ent.row q.v n E sz l).rel w I) (hn : 0 < n) :
 ∃ g cap cur, q = ⟨some ⟨g, 0, none⟩, n, cap⟩ ∧ w.heap[g]? = some (.cells cur E (0, 0)) ∧ n ≤ cap ∧ cap ≤ maxLen ∧ cur.size = cap * sz ∧ AV.rels w I l (cur.toList.take (n * sz)) := by
 obtain ⟨os, ho, hr⟩ := h
 rcases ho.2 with ⟨_, rfl⟩ | ⟨g, cap, cur, hv, _, hg, h1, h2, h3, rfl⟩
 · omega
 · obtain ⟨ad, m, c⟩ := q
   simp only [Sl.v, Value.slice.injEq] at hv
   obtain ⟨rfl, rfl, rfl⟩ := hv
   exact ⟨g, _, cur, rfl, hg, h1, h2, h3, hr⟩
section
variable {P : Program} {G : List (Nat × List D)} {ρ : Env} {h : H} {dst : Option Tmp} {ty : TypeId} {pos : String} {after : Array Edge} {g : Option (Nat × Bool)}
theorem flat_get {α : Type} {f : α → List D} {xs : List α} {sz j u : Nat} {c : D} (hsz : ∀ a, (f a).length = sz) (hj : j < xs.length) (hc : (f xs[j])[u]? = some c) : (((xs.map f).flatten).map D.av)[j * sz + u]? = some c.av := by
 have hu : u < sz := by rw [← hsz xs[j]]; exact (List.getElem?_eq_some_iff.1 hc).1
 have h0 : 0 < sz := by omega
 rw [List.getElem?_map, flatten_get h0 _ (fun r hr => by obtain ⟨a, _, rfl⟩ := List.mem_map.1 hr; exact hsz a)]
 have e1 : (j * sz + u) / sz = j := by rw [Nat.mul_comm, Nat.mul_add_div (by omega), Nat.div_eq_of_lt hu, Nat.add_zero]
 have e2 : (j * sz + u) % sz = u := by rw [Nat.mul_comm, Nat.mul_add_mod, Nat.mod_eq_of_lt hu]
 rw [e1, e2, List.getElem?_map, List.getElem?_eq_getElem hj]
 simp [hc]
theorem pu_index_row {α : Type} {f : α → List D} {xs : List α} {T E : TypeId} {x y : Operand} {q : Sl} {n sz eb : Nat} {z : Value} (hx : evO ρ x = some (.val q.v)) (hy : evO ρ y = some (.int (n : Int))) (hT : P.underlying T = some (.slice E)) (hE : El P E z sz eb)
 (hm : rowE q.v E sz f xs ∈ h) (hn : n < xs.length) : Pure P G ⟨dst, .indexAddr T x y, ty, pos, after, g⟩ ρ h (.val (.pointer (some (q.at (n * sz))))) := by
 intro c I m a w _ hok hs
 obtain ⟨i, hi, _, hsz, _⟩ := hE.get
 obtain ⟨gb, cap, cur, rfl, _⟩ := Ent.row_form (hok.ent _ hm) (by omega)
 have e1 := rel_val (hs.ev x) (ev_of_evO hx)
 have e2 := rel_val (hs.ev y) (ev_of_evO hy)
 refine ⟨_, rfl, fun w' _ => ?_⟩
 simp [execOp, e1, e2, Instr.indexAt, run_underlying hT, asIntOf, hn, sizeOf, typeInfo, hi, hsz, Sl.at, Addr.add]
 exact fun h => h.symm
theorem pu_index_rowI {α : Type} {f : α → List D} {xs : List α} {T E : TypeId} {x y : Operand} {q : Sl} {n : Int} {sz eb : Nat} {z : Value} (hx : evO ρ x = some (.val q.v)) (hy : evO ρ y = some (.int n)) (hT : P.underlying T = some (.slice E)) (hE : El P E z sz eb)
 (hm : rowE q.v E sz f xs ∈ h) (h0 : 0 ≤ n) (hn : n.toNat < xs.length) : Pure P G ⟨dst, .indexAddr T x y, ty, pos, after, g⟩ ρ h (.val (.pointer (some (q.at (n.toNat * sz))))) :=
 pu_index_row (n := n.toNat) hx (by rw [Int.toNat_of_nonneg h0]; exact hy) hT hE hm hn
theorem pu_index_c1 {T E : TypeId} {x y : Operand} {b len cap n : Nat} {eb : Nat} {z : Value} (hx : evO ρ x = some (.val (.slice (some ⟨b, 0, none⟩) len cap))) (hy : evO ρ y = some (.int (n : Int))) (hT : P.underlying T = some (.slice E)) (hE : El P E z 1 eb)
 (h1 : n < len) : Pure P G ⟨dst, .indexAddr T x y, ty, pos, after, g⟩ ρ h (.val (.pointer (some ⟨b, n, none⟩))) := by
 have := pu_index_cells (P := P) (G := G) (h := h) (dst := dst) (ty := ty) (pos := pos) (after := after) (g := g) hx hT hE (ev_of_evO hy) (by omega) (by omega)
 simpa using this
theorem pu_index_ci1 {T E : TypeId} {x y : Operand} {b len cap : Nat} {n : Int} {eb : Nat} {z : Value} (hx : evO ρ x = some (.val (.slice (some ⟨b, 0, none⟩) len cap))) (hy : evO ρ y = some (.int n)) (hT : P.underlying T = some (.slice E)) (hE : El P E z 1 eb)
 (h0 : 0 ≤ n) (h1 : n < len) : Pure P G ⟨dst, .indexAddr T x y, ty, pos, after, g⟩ ρ h (.val (.pointer (some ⟨b, n.toNat, none⟩))) := by
 have := pu_index_cells (P := P) (G := G) (h := h) (dst := dst) (ty := ty) (pos := pos) (after := after) (g := g) hx hT hE (ev_of_evO hy) h0 h1
 simpa using this
theorem pu_load_rowu {α : Type} {f : α → List D} {xs : List α} {T E : TypeId} {x : Operand} {q : Sl} {j u sz : Nat} {c : D} (hT : isAggB P T = some false) (hx : evO ρ x = some (.val (.pointer (some (q.at (j * sz + u)))))) (hm : rowE q.v E sz f xs ∈ h) (hsz : ∀ a, (f a).length = sz) (hj : j < xs.length) (hc : (f xs[j])[u]? = some c) :
 Pure P G ⟨dst, .load T x, ty, pos, after, g⟩ ρ h c.av := by
 intro cx I m a w _ hok hs
 obtain ⟨gb, cap, cur, rfl, hg, hnc, hcm, hcs, hrel⟩ := Ent.row_form (hok.ent _ hm) (by omega)
 have e1 := rel_val (hs.ev x) (ev_of_evO hx)
 obtain ⟨v, hv, hr⟩ := AV.rels_get hrel _ _ (flat_get hsz hj hc)
 refine ⟨v, hr, fun w' hw' => ?_⟩
 have hcell : w'.cell? ⟨gb, j * sz + u, none⟩ = some v := by
  have hbk : w'.heap[(⟨gb, j * sz + u, none⟩ : Addr).block]? = w.heap[(⟨gb, j * sz + u, none⟩ : Addr).block]? := hw'.own gb (mem_blks hm rfl)
  rw [World.cell?_of_block (w := w) hbk]
  have : cur.toList[j * sz + u]? = some v := by
   rw [List.getElem?_take] at hv
   split at hv
   · exact hv
   · cases hv
  simpa [World.cell?, hg] using this
 have e3 : a.eval x = .pointer (some ⟨gb, j * sz + u, none⟩) := e1
 simp [execOp, e3, Instr.loadAt, Instr.sureAddr, loadVar, run_isAgg hT, run_load, hcell]
theorem pu_load_row0 {α : Type} {f : α → List D} {xs : List α} {T E : TypeId} {x : Operand} {q : Sl} {j sz : Nat} {c : D} (hT : isAggB P T = some false) (hx : evO ρ x = some (.val (.pointer (some (q.at (j * sz)))))) (hm : rowE q.v E sz f xs ∈ h) (hsz : ∀ a, (f a).length = sz) (hj : j < xs.length) (hc : (f xs[j])[0]? = some c) :
 Pure P G ⟨dst, .load T x, ty, pos, after, g⟩ ρ h c.av := pu_load_rowu (u := 0) hT hx hm hsz hj hc
theorem pu_load_map {α : Type} {f : α → AV} {xs : List α} {T T0 : TypeId} {x : Operand} {b off : Nat} (hT : isAggB P T = some false) (hx : evO ρ x = some (.val (.pointer (some ⟨b, off, none⟩)))) (hh : Ent.cells b T0 (xs.map f) ∈ h) (hl : off < xs.length) : Pure P G ⟨dst, .load T x, ty, pos, after, g⟩ ρ h (f xs[off]) :=
 pure_load_cells hT (ev_of_evO hx) hh (by rw [List.getElem?_map, List.getElem?_eq_getElem hl]; rfl)
end
end Go.Av
namespace Go.Av
open Go
set_option linter.unusedVariables false
set_option linter.unusedSimpArgs false
theorem AC.fact {α : Type} {f : α → List D} {xs : List α} {P : Program} {G : List (Nat × List D)} {fn : FuncId} {as_ : List AV} {h : H} {Q : AE → H → Prop} {sz eb : Nat} (hac : xs.length * eb ≤ 140737488355328 → AC P G fn (.d (.l sz eb (xs.map f)) :: as_) h Q) : AC P G fn (.d (.l sz eb (xs.map f)) :: as_) h Q := by
 intro I W vs h1 h2 h3 h4 h5
 cases vs with
 | nil => exact h5.elim
 | cons v vs =>
   have := (Rel.len_le h5.1).1
   rw [List.length_map] at this
   exact hac this I W (v :: vs) h1 h2 h3 h4 h5
section
variable {k : Kx} {Q : Exit → Env → H → Prop} {ρ : Env} {h : H} {ops : Array Oper} {listed : Array Bool} {n f i m d : Nat} {op : Op} {ty : TypeId} {pos : String} {after : Array Edge}
structure JXP (k : Kx) (ops : Array Oper) (n f : Nat) (listed : Array Bool) (i m : Nat) (Q : Exit → Env → H → Prop) (ρ : Env) (h : H) : Prop where
 get : JX k ops f listed Q ρ h
structure JXS (k : Kx) (ops : Array Oper) (n f : Nat) (listed : Array Bool) (i m : Nat) (Q : Exit → Env → H → Prop) (ρ : Env) (h : H) : Prop where
 get : ∀ j, i ≤ j → j < i + m → j ∈ Region.ready .any ops listed → ∃ o, ops[j]? = some o ∧ JL k ops [o] (fun e ρ' h' => e = .normal ∧ JXP k ops n f (listed.setIfInBounds j true) 0 n Q ρ' h') ρ h
theorem jxs_nil (_ht : True) : JXS k ops n f listed i 0 Q ρ h := ⟨fun j h1 h2 => by omega⟩
theorem jxs_no (hc : (Region.ready .any ops listed).contains i = false) (hj : JXS k ops n f listed (i + 1) m Q ρ h) : JXS k ops n f listed i (m + 1) Q ρ h :=
 ⟨fun j h1 h2 hr => by
  by_cases e : j = i
  · subst e
    have : (Region.ready .any ops listed).contains j = true := by simpa using hr
    rw [this] at hc; cases hc
  · exact hj.get j (by omega) (by omega) hr⟩
end
end Go.Av
namespace Go.Av
open Go
set_option linter.unusedVariables false
set_option linter.unusedSimpArgs false

theorem Ok.reent {c : Cx} {I : Nat → Prop} {h1 h2 : H} {e e' : Ent} {w : World} (k : Ok c I (h1 ++ e :: h2) w) (hb : e'.blk = e.blk) (he : e'.rel w I) : Ok c I (h1 ++ e' :: h2) w := by
 have hblk : blks (h1 ++ e' :: h2) = blks (h1 ++ e :: h2) := by
  simp only [blks, List.filterMap_append, List.filterMap_cons, hb]
 refine { k with ent := fun x hx => ?_, nd := by rw [hblk]; exact k.nd, imm := fun b hb' => by rw [hblk]; exact k.imm b hb', new := fun b hb' => k.new b (by rw [← hblk]; exact hb') }
 rcases List.mem_append.1 hx with hx | hx
 · exact k.ent x (List.mem_append.2 (.inl hx))
 · rcases List.mem_cons.1 hx with rfl | hx
   · exact he
   · exact k.ent x (List.mem_append.2 (.inr (List.mem_cons_of_mem _ hx)))
section
variable {k : Kx} {Q : Exit → Env → H → Prop} {ρ ρ' : Env} {h h' h1 h2 hr : H} {ops : Array Oper} {l : List Oper} {d : Nat} {dst : Option Tmp} {ty : TypeId} {pos : String} {after : Array Edge}
theorem JL_open {q : Sl} {n : Nat} {E : TypeId} {sz : Nat} {cs : List AV} (hn : 0 < n)
 (hj : ∀ (g cap : Nat) (js : List Value), q = ⟨some ⟨g, 0, none⟩, n, cap⟩ → n ≤ cap → cap ≤ maxLen → cs.length = n * sz → cs.length + js.length = cap * sz → JL k ops l Q ρ (h1 ++ .cells g E (cs ++ js.map AV.val) :: h2)) :
 JL k ops l Q ρ (h1 ++ .row q.v n E sz cs :: h2) := by
 intro I a w k1 k2 k3
 have he := k1.ent (.row q.v n E sz cs) (by simp)
 obtain ⟨g, cap, cur, rfl, hg, m1, m2, m3, hrel⟩ := Ent.row_form he hn
 have hl : cs.length = n * sz := by
  have h1 := AV.rels_length hrel
  have h2 : n * sz ≤ cap * sz := Nat.mul_le_mul_right _ m1
  rw [List.length_take, Array.length_toList (xs := cur), m3] at h1
  omega
 have e := hj g cap (cur.toList.drop (n * sz)) rfl m1 m2 hl (by rw [hl, List.length_drop, Array.length_toList (xs := cur), m3]; have h2 : n * sz ≤ cap * sz := Nat.mul_le_mul_right _ m1; omega)
 refine e I a w (k1.reent rfl ⟨cur, hg, ?_⟩) k2 k3
 have := AV.rels_append hrel (rels_vals w I (cur.toList.drop (n * sz)))
 rwa [List.take_append_drop] at this
theorem JL_close {g cap n : Nat} {E : TypeId} {sz : Nat} {cs : List AV} {js : List Value} (m1 : n ≤ cap) (m2 : cap ≤ maxLen) (hl : cs.length = n * sz) (hc : cs.length + js.length = cap * sz)
 (hj : JL k ops l Q ρ (h1 ++ .row (.slice (some ⟨g, 0, none⟩) n cap) n E sz cs :: h2)) : JL k ops l Q ρ (h1 ++ .cells g E (cs ++ js.map AV.val) :: h2) := by
 intro I a w k1 k2 k3
 obtain ⟨cur, hg, hrel⟩ := k1.ent (.cells g E (cs ++ js.map AV.val)) (by simp)
 have hlen := AV.rels_length hrel
 rw [List.length_append, List.length_map, Array.length_toList (xs := cur)] at hlen
 refine hj I a w (k1.reent rfl ⟨cur.toList.take (n * sz), ⟨?_, .inr ⟨g, cap, cur, rfl, Nat.zero_le _, hg, m1, m2, by omega, rfl⟩⟩, ?_⟩) k2 k3
 · rw [List.length_take, Array.length_toList (xs := cur)]; omega
 · have := rels_take (n * sz) hrel
   rwa [List.take_append_of_le_length (by omega), List.take_of_length_le (by omega)] at this
theorem setAt_left {cs js rs : List AV} {off : Nat} (h : off + rs.length ≤ cs.length) : setAt (cs ++ js) off rs = setAt cs off rs ++ js := by
 unfold setAt
 rw [List.take_append_of_le_length (by omega), List.drop_append_of_le_length h]
 simp [List.append_assoc]
theorem JL_storeR {T E : TypeId} {x y : Operand} {q : Sl} {off n sz0 : Nat} {r : AV} {cs : List AV} {z : Value} {sz eb : Nat} (hx : ev ρ x = .val (.pointer (some (q.at off)))) (hy : ev ρ y = r) (hs : r.stor = true) (hE : El k.P T z sz eb) (hn : sz = r.cl.length) (h0 : 0 < n)
 (hoff : off + r.cl.length ≤ cs.length) (hj : JL k ops l Q ρ (h1 ++ .row q.v n E sz0 (setAt cs off r.cl) :: h2)) : JL k ops (⟨none, .store T x y, ty, pos, after, none⟩ :: l) Q ρ (h1 ++ .row q.v n E sz0 cs :: h2) := by
 refine JL_open h0 fun g cap js hq m1 m2 m3 m4 => ?_
 subst hq
 refine JL_store (b := g) (off := off) (r := r) (vs := cs ++ js.map AV.val) hx hy hs hE hn rfl (by rw [List.length_append]; omega) ?_
 rw [setAt_left hoff]
 have hl : (setAt cs off r.cl).length = cs.length := by
  unfold setAt
  simp only [List.length_append, List.length_take, List.length_drop]
  omega
 exact JL_close m1 m2 (by rw [hl]; exact m3) (by rw [hl]; exact m4) hj
theorem flat_set {α : Type} {f : α → List D} {sz : Nat} (hsz : ∀ a, (f a).length = sz) : ∀ (xs : List α) (j : Nat) (a : α), j < xs.length → setAt (((xs.map f).flatten).map D.av) (j * sz) ((f a).map D.av) = (((xs.set j a).map f).flatten).map D.av
 | [], j, a, h => by simp at h
 | x :: xs, 0, a, _ => by
   have e : ((f x).map D.av).length = sz := by rw [List.length_map, hsz]
   have e' : ((f a).map D.av).length = sz := by rw [List.length_map, hsz]
   simp only [setAt, Nat.zero_mul, List.take_zero, List.nil_append, Nat.zero_add, List.map_cons, List.flatten_cons, List.map_append, List.set_cons_zero]
   rw [e', ← e, List.drop_left]
 | x :: xs, j + 1, a, h => by
   have ih := flat_set hsz xs j a (by simpa using h)
   have e : ((f x).map D.av).length = sz := by rw [List.length_map, hsz]
   simp only [List.map_cons, List.flatten_cons, List.map_append, List.set_cons_succ]
   rw [← ih]
   unfold setAt
   have e2 : (j + 1) * sz = ((f x).map D.av).length + j * sz := by rw [e, Nat.add_mul]; omega
   rw [e2, List.take_length_add_append, Nat.add_assoc, List.drop_length_add_append]
   simp [List.append_assoc]
theorem js_row {α : Type} {f : α → List D} {xs : List α} {a : α} {T E : TypeId} {x y : Operand} {q : Sl} {j sz : Nat} {r : AV} {z : Value} {eb : Nat} (hx : evO ρ x = some (.val (.pointer (some (q.at (j * sz)))))) (hy : evO ρ y = some r) (hu : Upd (rowE q.v E sz f xs) (rowE q.v E sz f (xs.set j a)) h h') (hr : r.cl = (f a).map D.av) (hs : r.stor = true) (hE : El k.P T z sz eb) (hsz : ∀ a, (f a).length = sz) (hjl : j < xs.length)
 (hj : JL k ops l Q ρ h') : JL k ops (⟨none, .store T x y, ty, pos, after, none⟩ :: l) Q ρ h := by
 obtain ⟨h1, h2, rfl, rfl⟩ := hu.split
 have hfl : ((((xs.map f).flatten).map D.av)).length = xs.length * sz := by
  rw [List.length_map, flatten_length _ (fun r hr => by obtain ⟨a, _, rfl⟩ := List.mem_map.1 hr; exact hsz a), List.length_map]
 have hlen : r.cl.length = sz := by rw [hr, List.length_map, hsz]
 refine JL_storeR (off := j * sz) (r := r) (ev_of_evO hx) (ev_of_evO hy) hs hE hlen.symm (by omega) ?_ ?_
 · rw [hfl, hlen]
   have : (j + 1) * sz ≤ xs.length * sz := Nat.mul_le_mul_right _ (by omega)
   rw [Nat.add_mul] at this
   omega
 · rw [hr, flat_set hsz xs j a hjl]
   unfold rowE at hj
   rwa [List.length_set] at hj
theorem js_row1 {α : Type} {f : α → List D} {xs : List α} {a : α} {T E : TypeId} {x y : Operand} {q : Sl} {j : Nat} {r : AV} {z : Value} {eb : Nat} (hx : evO ρ x = some (.val (.pointer (some (q.at (j * 1)))))) (hy : evO ρ y = some r) (hE : El k.P T z 1 eb) (hs : r.flat = true) (hu : Upd (rowE q.v E 1 f xs) (rowE q.v E 1 f (xs.set j a)) h h') (hr : [r] = (f a).map D.av) (hsz : ∀ a, (f a).length = 1) (hjl : j < xs.length)
 (hj : JL k ops l Q ρ h') : JL k ops (⟨none, .store T x y, ty, pos, after, none⟩ :: l) Q ρ h :=
 js_row hx hy hu (by rw [(flat_cl hs).1]; exact hr) (flat_cl hs).2 hE hsz hjl hj
end
section
variable {P : Program} {G : List (Nat × List D)} {ρ : Env} {h : H} {dst : Option Tmp} {ty : TypeId} {pos : String} {after : Array Edge} {g : Option (Nat × Bool)}
theorem row_n {c : Cx} {I : Nat → Prop} {w : World} {α : Type} {f : α → List D} {xs : List α} {E : TypeId} {q : Sl} {sz : Nat} (hok : Ok c I h w) (hm : rowE q.v E sz f xs ∈ h) : q.n = xs.length ∧ q.n ≤ q.c := by
 obtain ⟨os, ho, _⟩ := hok.ent _ hm
 obtain ⟨a1, a2, a3⟩ := q
 rcases ho.2 with ⟨hv, h0⟩ | ⟨g, cap, cur, hv, _, _, m1, _⟩
 · simp only [Sl.v, Value.slice.injEq] at hv
   obtain ⟨rfl, rfl, rfl⟩ := hv
   exact ⟨by dsimp only; omega, Nat.le_refl _⟩
 · simp only [Sl.v, Value.slice.injEq] at hv
   obtain ⟨rfl, rfl, rfl⟩ := hv
   exact ⟨rfl, m1⟩
end
inductive InA (d : D) : List AV → Prop where
 | here {as_ : List AV} : InA d (.d d :: as_)
 | agg {cs as_ : List AV} (h : InA d cs) : InA d (.agg cs :: as_)
 | there {a : AV} {as_ : List AV} (h : InA d as_) : InA d (a :: as_)
theorem InA.rel {d : D} {w : World} {I : Nat → Prop} {args : List AV} (h : InA d args) : ∀ {vs : List Value}, AV.rels w I args vs → ∃ v, Rel w I d v := by
 induction h with
 | here => intro vs hr; cases vs with | nil => exact hr.elim | cons v vs => exact ⟨v, hr.1⟩
 | agg _ ih => intro vs hr; cases vs with | nil => exact hr.elim | cons v vs => obtain ⟨us, _, h⟩ := hr.1; exact ih h
 | there _ ih => intro vs hr; cases vs with | nil => exact hr.elim | cons v vs => exact ih hr.2
theorem AC.factI {α : Type} {f : α → List D} {xs : List α} {P : Program} {G : List (Nat × List D)} {fn : FuncId} {args : List AV} {h : H} {Q : AE → H → Prop} {sz eb : Nat} (hm : InA (.l sz eb (xs.map f)) args) (hac : xs.length * eb ≤ 140737488355328 → AC P G fn args h Q) : AC P G fn args h Q := by
 intro I W vs h1 h2 h3 h4 h5
 obtain ⟨v, hv⟩ := hm.rel h5
 have := (Rel.len_le hv).1
 rw [List.length_map] at this
 exact hac this I W vs h1 h2 h3 h4 h5
end Go.Av
namespace Go.Av
open Go
set_option linter.unusedVariables false
set_option linter.unusedSimpArgs false

def Sl.cut (q : Sl) (n : Nat) : Sl := ⟨q.ad, n, q.c⟩
section
variable {k : Kx} {Q : Exit → Env → H → Prop} {ρ ρ' : Env} {h h' h1 h2 hr : H} {ops : Array Oper} {l : List Oper} {d : Nat} {dst : Option Tmp} {ty : TypeId} {pos : String} {after : Array Edge}
theorem VS.cut {α : Type} {f : α → List D} {xs : List α} {E : TypeId} {sz : Nat} {q : Sl} {n : Nat} (hu : Upd (rowE q.v E sz f xs) (rowE (q.cut n).v E sz f (xs.take n)) h h') (hsz : ∀ a, (f a).length = sz) (hn : n ≤ xs.length) : VS ρ h ρ h' := by
 obtain ⟨h1, h2, rfl, rfl⟩ := hu.split
 intro c I m a w k1 k2
 have hfl : ∀ ys : List α, ((((ys.map f).flatten).map D.av)).length = ys.length * sz := fun ys => by
  rw [List.length_map, flatten_length _ (fun r hr => by obtain ⟨a, _, rfl⟩ := List.mem_map.1 hr; exact hsz a), List.length_map]
 have htake : (((xs.take n).map f).flatten).map D.av = ((((xs.map f).flatten).map D.av)).take (n * sz) := by
  have hl0 : ((((xs.take n).map f).flatten).map D.av).length = n * sz := by rw [hfl, List.length_take, Nat.min_eq_left (by omega)]
  have e : ((xs.map f).flatten).map D.av = (((xs.take n).map f).flatten).map D.av ++ (((xs.drop n).map f).flatten).map D.av := by
   rw [← List.map_append, ← List.flatten_append, ← List.map_append, List.take_append_drop]
  rw [e, List.take_append_of_le_length (by omega)]
  exact (List.take_of_length_le (by omega)).symm
 have hlt : (xs.take n).length = n := by rw [List.length_take]; omega
 by_cases hx0 : 0 < xs.length
 · obtain ⟨g, cap, cur, rfl, hg, m1, m2, m3, hrel⟩ := Ent.row_form (k1.ent (rowE q.v E sz f xs) (by simp)) hx0
   have hle : n * sz ≤ cap * sz := Nat.mul_le_mul_right _ (by omega)
   have hle2 : n * sz ≤ xs.length * sz := Nat.mul_le_mul_right _ hn
   refine ⟨I, Ok.reent k1 (e' := rowE (Sl.v ⟨some ⟨g, 0, none⟩, n, cap⟩) E sz f (xs.take n)) rfl ?_, k2⟩
   refine ⟨cur.toList.take (n * sz), ⟨?_, .inr ⟨g, cap, cur, by rw [hlt], Nat.zero_le _, hg, by rw [hlt]; omega, m2, m3, by rw [hlt]⟩⟩, ?_⟩
   · rw [List.length_take, Array.length_toList (xs := cur), m3, hlt]; omega
   · rw [htake]
     have := rels_take (n * sz) hrel
     rwa [List.take_take, Nat.min_eq_left hle2] at this
 · obtain rfl : xs = [] := List.eq_nil_of_length_eq_zero (by omega)
   have hn0 : n = 0 := by simpa using hn
   subst hn0
   obtain ⟨r1, r2⟩ := row_n k1 (q := q) (f := f) (xs := []) (E := E) (sz := sz) (by simp)
   have : q.cut 0 = q := by
    obtain ⟨a1, a2, a3⟩ := q
    simp only [Sl.cut]
    simp at r1
    rw [r1]
   rw [this]
   exact ⟨I, k1, k2⟩
end
section
variable {P : Program} {G : List (Nat × List D)} {ρ : Env} {h : H} {dst : Option Tmp} {ty : TypeId} {pos : String} {after : Array Edge} {g : Option (Nat × Bool)}
theorem pu_slice_cut {α : Type} {f : α → List D} {xs : List α} {T E : TypeId} {x hi : Operand} {q : Sl} {n : Int} {sz eb : Nat} {z : Value} (hx : evO ρ x = some (.val q.v)) (hhi : evO ρ hi = some (.int n)) (hT : P.underlying T = some (.slice E)) (hE : El P E z sz eb)
 (hm : rowE q.v E sz f xs ∈ h) (h0 : 0 ≤ n) (hn : n ≤ xs.length) : Pure P G ⟨dst, .slice T x none (some hi) none, ty, pos, after, g⟩ ρ h (.val (q.cut n.toNat).v) := by
 intro c I o a w _ hok hs
 obtain ⟨i, hi', _, hsz, _⟩ := hE.get
 have e1 := rel_val (hs.ev x) (ev_of_evO hx)
 have e2 := rel_val (hs.ev hi) (ev_of_evO hhi)
 obtain ⟨r1, r2⟩ := row_n hok hm
 refine ⟨_, rfl, fun w' _ => ?_⟩
 have b1 : 0 ≤ n ∧ n ≤ (q.c : Int) := by omega
 have e0 : q.ad.map (fun x => x.add 0) = q.ad := by cases q.ad <;> simp [Addr.add_lit, Addr.add]
 simp [execOp, e1, e2, Instr.sliceAt, run_underlying hT, Instr.slice, Instr.sliceBounds, Instr.sliceBound, asIntOf, b1, sizeOf, typeInfo, hi', Sl.cut, e0]
end
end Go.Av
namespace Go.Av
open Go
set_option linter.unusedVariables false
set_option linter.unusedSimpArgs false

section
variable {k : Kx} {Q : Exit → Env → H → Prop} {ρ ρ' : Env} {h : H} {ops : Array Oper} {listed : Array Bool} {n f : Nat}
inductive Reads (k : Kx) (ops : Array Oper) (ρ : Env) (h : H) : List (Nat × Nat × AV) → Prop where
 | nil : Reads k ops ρ h []
 | cons {i d : Nat} {r : AV} {op : Op} {ty : TypeId} {pos : String} {after : Array Edge} {l : List (Nat × Nat × AV)} (ho : ops[i]? = some ⟨some d, op, ty, pos, after, none⟩) (hp : Pure k.P k.c.G ⟨some d, op, ty, pos, after, none⟩ ρ h r) (hd : Nat.blt d k.n = true) (hf : getO ρ d = none) (t : Reads k ops ρ h l) : Reads k ops ρ h ((i, d, r) :: l)
theorem Reads.get {l : List (Nat × Nat × AV)} (t : Reads k ops ρ h l) {p : Nat × Nat × AV} (hp : p ∈ l) : ∃ op ty pos after, ops[p.1]? = some ⟨some p.2.1, op, ty, pos, after, none⟩ ∧ Pure k.P k.c.G ⟨some p.2.1, op, ty, pos, after, none⟩ ρ h p.2.2 ∧ p.2.1 < k.n ∧ getO ρ p.2.1 = none := by
 induction t with
 | nil => cases hp
 | cons ho h1 h2 h3 _ ih =>
   rcases List.mem_cons.1 hp with rfl | hp
   · exact ⟨_, _, _, _, ho, h1, blt h2, h3⟩
   · exact ih hp
end
end Go.Av
namespace Go.Av
open Go
set_option linter.unusedVariables false
set_option linter.unusedSimpArgs false

structure Sam (T : List Nat) (w w' : World) : Prop where
 os : w'.os = w.os
 tape : w'.tape = w.tape
 output : w'.output = w.output
 size : w.heap.size ≤ w'.heap.size
 block : ∀ b, b < w.heap.size → b ∉ T → w'.heap[b]? = w.heap[b]?
theorem Sam.refl (T : List Nat) (w : World) : Sam T w w := ⟨rfl, rfl, rfl, Nat.le_refl _, fun _ _ _ => rfl⟩
def hShape (ops : Array Oper) (n : Nat) : Bool :=
 Region.noSelect ops && decide (n ≤ ops.size) && (decide (n = ops.size) || (Region.sinkB .any ops n && Region.chainB .any ops n))
structure JH (k : Kx) (ops : Array Oper) (n f : Nat) (listed : Array Bool) (l2 : List Oper) (i m : Nat) (pr : Bool) (Q : Exit → Env → H → Prop) (hT : H) (ρ : Env) (h : H) : Prop where
 get : hShape ops n = true → HeadInv .any ops n listed → ∀ I a w, Ok k.c I (hT ++ h) w → SF k.n w I ρ a → a.defers = k.df →
  headH k.P .any ops (Sam (blks hT) w) n (fun listed' a' w' => Region.seqB .any ops (ops.size - n) n listed' = true ∧ wpList k.P ops (lift k Q) l2 a' w') f listed a w
structure JHS (k : Kx) (ops : Array Oper) (n f : Nat) (listed : Array Bool) (l2 : List Oper) (i m : Nat) (Q : Exit → Env → H → Prop) (hT : H) (ρ : Env) (h : H) : Prop where
 get : ∀ j, i ≤ j → j < i + m → j ∈ Region.ready .any ops listed → ∃ o, ops[j]? = some o ∧ ∀ c : World × (Nat → Prop) × List Nat, JL ⟨k.P, ⟨c.1, c.2.1, c.2.2, k.c.G⟩, k.n, k.df⟩ ops [o] (fun e ρ' hT' => e = .normal ∧ JH k ops n f (listed.setIfInBounds j true) l2 0 n false Q hT' ρ' h) ρ hT
theorem hlow {ops : Array Oper} {n : Nat} (hs : hShape ops n = true) {i : Nat} (hi : i < n) : ∀ listed, HeadInv .any ops n listed → i ∈ Region.ready .any ops listed → ∀ j ∈ Region.ready .any ops listed, j < n := by
 simp only [hShape, Bool.and_eq_true, Bool.or_eq_true, decide_eq_true_eq] at hs
 obtain ⟨⟨hsel, hle⟩, hor⟩ := hs
 intro listed inv hr j hj
 rcases hor with hn | ⟨hs, hc⟩
 · obtain ⟨_, o, ho, _⟩ := mem_ready.1 hj
   rw [hn]; exact (Array.getElem?_eq_some_iff.1 ho).1
 · rcases Nat.lt_or_ge j n with h | h
   · exact h
   · obtain ⟨_, o, ho, _⟩ := mem_ready.1 hj
     have hlt := (Array.getElem?_eq_some_iff.1 ho).1
     exact absurd hj (tail_waits hs hc (by omega) inv _ i rfl hi (mem_ready.1 hr).1 j h)
theorem hsel_of {ops : Array Oper} {n : Nat} (hs : hShape ops n = true) : Region.noSelect ops = true := by
 simp only [hShape, Bool.and_eq_true] at hs
 exact hs.1.1
section
variable {k : Kx} {Q : Exit → Env → H → Prop} {ρ ρ' : Env} {h h' hT : H} {ops : Array Oper} {listed : Array Bool} {l2 : List Oper} {n f i m d : Nat} {op : Op} {ty : TypeId} {pos : String} {after : Array Edge} {pr : Bool}

theorem Ok.right {c : Cx} {I : Nat → Prop} {w : World} (k1 : Ok c I (hT ++ h) w) : Ok c I h w where
 ent e he := k1.ent e (List.mem_append.2 (.inr he))
 nd := by have := k1.nd; rw [blks_append] at this; exact (List.nodup_append.1 this).2.1
 imm b hb := ⟨(k1.imm b hb).1, fun hm => (k1.imm b hb).2 (by rw [blks_append]; exact List.mem_append.2 (.inr hm))⟩
 new b hb := k1.new b (by rw [blks_append]; exact List.mem_append.2 (.inr hb))
 inew := k1.inew
 sup := k1.sup
 os := k1.os
 tape := k1.tape
 output := k1.output
 size := k1.size
 keep := k1.keep
 glob := k1.glob
theorem Ok.left {c : Cx} {I : Nat → Prop} {w : World} (k1 : Ok c I (hT ++ h) w) : Ok ⟨w, I, blks hT, c.G⟩ I hT w where
 ent e he := k1.ent e (List.mem_append.2 (.inl he))
 nd := by have := k1.nd; rw [blks_append] at this; exact (List.nodup_append.1 this).1
 imm b hb := ⟨(k1.imm b hb).1, fun hm => (k1.imm b hb).2 (by rw [blks_append]; exact List.mem_append.2 (.inl hm))⟩
 new b hb := .inl hb
 inew b hb := .inl hb
 sup b hb := hb
 os := rfl
 tape := rfl
 output := rfl
 size := Nat.le_refl _
 keep _ _ _ := rfl
 glob := k1.glob
theorem Sam.weak {c : Cx} {I : Nat → Prop} {w w' : World} (k1 : Ok c I (hT ++ h) w) (s : Sam (blks hT) w w') : SameW I h w w' where
 imm b hb := s.block b (k1.imm b hb).1 fun hm => (k1.imm b hb).2 (by rw [blks_append]; exact List.mem_append.2 (.inl hm))
 own b hb := s.block b (by
  obtain ⟨e, he, heb⟩ := List.mem_filterMap.1 hb
  exact Ent.blk_lt (k1.ent e (List.mem_append.2 (.inr he))) heb) fun hm => by
  have := k1.nd
  rw [blks_append] at this
  exact (List.nodup_append.1 this).2.2 b hm b hb rfl
theorem jh_take {o : Oper} {r : AV} (ho : ops[i]? = some o) (hc : mixOk ops listed n i = true) (hd : ∀ t, o.dst = some t → t < k.n)
 (hy : ∀ I a w, Ok k.c I (hT ++ h) w → SF k.n w I ρ a → ∃ v, AV.rel w I r v ∧ YieldsIf k.P ops (Sam (blks hT) w) o v a)
 (hj : JH k ops n f (listed.setIfInBounds i true) l2 (i + 1) m true Q hT (put ρ o.dst r) h) : JH k ops n (f + 1) listed l2 i (m + 1) pr Q hT ρ h := by
 refine ⟨fun hs inv I a w h1 h2 h3 => ?_⟩
 simp only [mixOk, Bool.and_eq_true, decide_eq_true_eq] at hc
 obtain ⟨⟨hr, hf⟩, hin⟩ := hc
 have hr' : i ∈ Region.ready .any ops listed := by simpa using hr
 obtain ⟨v, hv, hyv⟩ := hy I a w h1 h2
 exact headH_first ho (Region.noSelect_spec (hsel_of hs)) (hlow hs hin) hin (fun _ _ _ h => seqB_ready h.1) f listed a w inv (Region.free_spec ho hf) hr' hyv (Sam.refl _ _)
  (hj.get hs (inv.set hr' hin) I _ w h1 (h2.put hd hv) (by rw [Act.defers_put]; exact h3))
theorem jh_pure {r : AV} (ho : ops[i]? = some ⟨some d, op, ty, pos, after, none⟩) (hc : mixOk ops listed n i = true) (hp : Pure k.P k.c.G ⟨some d, op, ty, pos, after, none⟩ ρ h r) (hd : Nat.blt d k.n = true)
 (hj : JH k ops n f (listed.setIfInBounds i true) l2 (i + 1) m true Q hT ((d, r) :: ρ) h) : JH k ops n (f + 1) listed l2 i (m + 1) pr Q hT ρ h :=
 jh_take ho hc (fun t ht => by cases ht; exact blt hd) (fun I a w h1 h2 => by
  obtain ⟨v, hv, hrun⟩ := hp k.c I k.n a w rfl h1.right h2
  exact ⟨v, hv, .inl ⟨by simp [Region.wanted], fun w' hw' => hrun w' (hw'.weak h1)⟩⟩) hj
theorem jh_gy {j dj : Nat} {want : Bool} {oj : Oper} {r : AV} (ho : ops[i]? = some ⟨some d, op, ty, pos, after, some (j, want)⟩) (hoj : ops[j]? = some oj) (hdj : oj.dst = some dj) (hr : get ρ dj = .val (.bool want)) (hn : Nat.blt dj k.n = true) (hc : mixOk ops listed n i = true)
 (hp : Pure k.P k.c.G ⟨some d, op, ty, pos, after, some (j, want)⟩ ρ h r) (hd : Nat.blt d k.n = true)
 (hj : JH k ops n f (listed.setIfInBounds i true) l2 (i + 1) m true Q hT ((d, r) :: ρ) h) : JH k ops n (f + 1) listed l2 i (m + 1) pr Q hT ρ h :=
 jh_take ho hc (fun t ht => by cases ht; exact blt hd) (fun I a w h1 h2 => by
  obtain ⟨v, hv, hrun⟩ := hp k.c I k.n a w rfl h1.right h2
  have hw := wanted_of (ops := ops) (o := ⟨some d, op, ty, pos, after, some (j, want)⟩) h2 rfl hoj hdj hr (blt hn)
  exact ⟨v, hv, .inl ⟨by rw [hw]; simp, fun w' hw' => hrun w' (hw'.weak h1)⟩⟩) hj
theorem jh_gn {j dj : Nat} {want : Bool} {oj : Oper} (ho : ops[i]? = some ⟨some d, op, ty, pos, after, some (j, want)⟩) (hoj : ops[j]? = some oj) (hdj : oj.dst = some dj) (hr : get ρ dj = .val (.bool (!want))) (hn : Nat.blt dj k.n = true) (hc : mixOk ops listed n i = true) (hd : Nat.blt d k.n = true)
 (hj : JH k ops n f (listed.setIfInBounds i true) l2 (i + 1) m true Q hT ((d, .val undef) :: ρ) h) : JH k ops n (f + 1) listed l2 i (m + 1) pr Q hT ρ h :=
 jh_take ho hc (fun t ht => by cases ht; exact blt hd) (fun I a w h1 h2 => by
  have hw := wanted_of (ops := ops) (o := ⟨some d, op, ty, pos, after, some (j, want)⟩) h2 rfl hoj hdj hr (blt hn)
  exact ⟨undef, rfl, .inr ⟨by rw [hw]; cases want <;> simp, rfl⟩⟩) hj
theorem JH_le (hle : Env.le ρ ρ') (hj : JH k ops n f listed l2 i m pr Q hT ρ' h) : JH k ops n f listed l2 i m pr Q hT ρ h := ⟨fun hs inv I a w h1 h2 h3 => hj.get hs inv I a w h1 (h2.le hle) h3⟩
theorem jh_split {j dj : Nat} {c want : Bool} {oj : Oper} (ho : ops[i]? = some ⟨some d, op, ty, pos, after, some (j, want)⟩) (hoj : ops[j]? = some oj) (hdj : oj.dst = some dj) (hr : get ρ dj = .val (.bool c)) (hc : mixOk ops listed n i = true)
 (hb : CB c (JH k ops n (f + 1) listed l2 i (m + 1) pr Q hT ((dj, .bool true) :: ρ) h) (JH k ops n (f + 1) listed l2 i (m + 1) pr Q hT ((dj, .bool false) :: ρ) h)) : JH k ops n (f + 1) listed l2 i (m + 1) pr Q hT ρ h := by
 cases c with
 | true => exact JH_le (Env.le_cons (AV.le_of_eq hr) (Env.le_refl _)) (hb.1 rfl)
 | false => exact JH_le (Env.le_cons (AV.le_of_eq hr) (Env.le_refl _)) (hb.2 rfl)
theorem jh_skip (hj : JH k ops n f listed l2 (i + 1) m pr Q hT ρ h) : JH k ops n f listed l2 i (m + 1) pr Q hT ρ h := ⟨hj.get⟩
theorem jh_wrap (hj : JH k ops n f listed l2 0 n false Q hT ρ h) : JH k ops n f listed l2 i 0 true Q hT ρ h := ⟨hj.get⟩
theorem jh_done (hc : Region.seqB .any ops (ops.size - n) n listed = true) (ha : App hT h h') (hj : JL k ops l2 Q ρ h') : JH k ops n 0 listed l2 i m pr Q hT ρ h :=
 ⟨fun _ _ I a w h1 h2 h3 => ⟨hc, hj I a w (by rw [ha.eq]; exact h1) h2 h3⟩⟩
theorem jh_end (hne : (Region.ready .any ops listed).isEmpty = false) (hs : (Region.ready .any ops listed).all (fun j => decide (j < n)) = true) (hj : JHS k ops n f listed l2 0 n Q hT ρ h) : JH k ops n (f + 1) listed l2 i 0 false Q hT ρ h := by
 refine ⟨fun hsh inv I a w h1 h2 h3 => ⟨fun e => by rw [e] at hne; simp at hne, fun j hjr => ?_⟩⟩
 have hjn : j < n := by simpa using List.all_eq_true.1 hs j hjr
 refine ⟨hjn, ?_⟩
 obtain ⟨o, ho, hJ⟩ := hj.get j (Nat.zero_le _) (by omega) hjr
 have H := hJ (w, I, blks hT) I a w h1.left h2 h3
 unfold wpOp
 rw [ho]
 dsimp only at H ⊢
 have hK : ∀ a' w', lift ⟨k.P, ⟨w, I, blks hT, k.c.G⟩, k.n, k.df⟩ (fun e ρ' hT' => e = .normal ∧ JH k ops n f (listed.setIfInBounds j true) l2 0 n false Q hT' ρ' h) .normal a' w' →
  Sam (blks hT) w w' ∧ headH k.P .any ops (Sam (blks hT) w) n (fun listed' a' w' => Region.seqB .any ops (ops.size - n) n listed' = true ∧ wpList k.P ops (lift k Q) l2 a' w') f (listed.setIfInBounds j true) a' w' := by
  rintro a' w' ⟨I', ρ', hT', q1, q2, q3, _, q4⟩
  obtain ⟨k1, _⟩ := Ok.call (hc := hT) (hr := h) h1 q1
  have hsm : Sam (blks hT) w w' := ⟨q1.os, q1.tape, q1.output, q1.size, fun b hb hE => q1.keep b hb hE⟩
  refine ⟨hsm, headH_mono (S := Sam (blks hT') w') (fun u hu => ?_) _ _ _ _ (q4.get hsh (inv.set hjr hjn) I' a' w' k1 q2 q3)⟩
  refine ⟨hu.os.trans hsm.os, hu.tape.trans hsm.tape, hu.output.trans hsm.output, Nat.le_trans hsm.size hu.size, fun b hb hE => (hu.block b (Nat.lt_of_lt_of_le hb hsm.size) fun hm => ?_).trans (hsm.block b hb hE)⟩
  rcases q1.new b hm with hx | hx
  · exact hE hx
  · exact absurd hb (Nat.not_lt.2 hx)
 have hQ : ∀ e a' w', e ≠ .normal → ¬ lift ⟨k.P, ⟨w, I, blks hT, k.c.G⟩, k.n, k.df⟩ (fun e ρ' hT' => e = .normal ∧ JH k ops n f (listed.setIfInBounds j true) l2 0 n false Q hT' ρ' h) e a' w' := by
  rintro e a' w' he ⟨_, _, _, _, _, _, q, _⟩
  exact he q
 rw [wpList] at H
 by_cases hw : Region.wanted o (yielded ops a.tmps) = true
 · rw [if_pos hw] at H ⊢
   rcases H with H | ⟨_, a', w', H⟩
   · exact .inl (oper_wp_to hK hQ H)
   · exact absurd H (hQ _ _ _ (by simp))
 · rw [if_neg hw] at H ⊢
   exact hK _ _ H
theorem jhs_nil (_ht : True) : JHS k ops n f listed l2 i 0 Q hT ρ h := ⟨fun j h1 h2 => by omega⟩
theorem jhs_no (hc : (Region.ready .any ops listed).contains i = false) (hj : JHS k ops n f listed l2 (i + 1) m Q hT ρ h) : JHS k ops n f listed l2 i (m + 1) Q hT ρ h :=
 ⟨fun j h1 h2 hr => by
  by_cases e : j = i
  · subst e
    have : (Region.ready .any ops listed).contains j = true := by simpa using hr
    rw [this] at hc; cases hc
  · exact hj.get j (by omega) (by omega) hr⟩
structure AllC (p : World × (Nat → Prop) × List Nat → Prop) : Prop where
 get : ∀ c, p c
theorem allc {p : World × (Nat → Prop) × List Nat → Prop} (h : ∀ c, p c) : AllC p := ⟨h⟩
theorem jhs_yes {dst : Option Tmp} {g : Option (Nat × Bool)} (ho : ops[i]? = some ⟨dst, op, ty, pos, after, g⟩)
 (hj : Two (AllC fun c => JL ⟨k.P, ⟨c.1, c.2.1, c.2.2, k.c.G⟩, k.n, k.df⟩ ops [⟨dst, op, ty, pos, after, g⟩] (fun e ρ' hT' => e = .normal ∧ JH k ops n f (listed.setIfInBounds i true) l2 0 n false Q hT' ρ' h) ρ hT) (JHS k ops n f listed l2 (i + 1) m Q hT ρ h)) : JHS k ops n f listed l2 i (m + 1) Q hT ρ h :=
 ⟨fun j h1 h2 hr => by
  by_cases e : j = i
  · subst e
    exact ⟨_, ho, hj.fst.get⟩
  · exact hj.snd.get j (by omega) (by omega) hr⟩
theorem jh_nil {k' : Kx} (hj : JH k ops n f listed l2 i m pr Q hT ρ h) : JL k' ops [] (fun e ρ' hT' => e = .normal ∧ JH k ops n f listed l2 i m pr Q hT' ρ' h) ρ hT := JL_nil ⟨rfl, hj⟩

def effB : Op → Bool
 | .makeSlice _ _ _ => true
 | .alloc _ => true
 | .box _ _ => true
 | .buildSlice _ _ _ => true
 | .call c => (match c.callee with
   | .value _ => true
   | .builtin .append => true
   | _ => false)
 | _ => false
inductive Hd : List Oper → Nat → List Oper → Prop where
 | nil {l : List Oper} : Hd l 0 l
 | cons {d : Option Tmp} {op : Op} {ty : TypeId} {pos : String} {after : Array Edge} {g : Option (Nat × Bool)} {l l2 : List Oper} {n : Nat} (hb : storeB op = false) (h : Hd l n l2) : Hd (⟨d, op, ty, pos, after, g⟩ :: l) (n + 1) l2
theorem Hd.drop {l l2 : List Oper} {n : Nat} (h : Hd l n l2) : l.drop n = l2 ∧ n ≤ l.length := by
 induction h with
 | nil => exact ⟨rfl, Nat.zero_le _⟩
 | cons _ h ih => exact ⟨by simpa using ih.1, by simp; omega⟩
theorem J_region_HB {id t : Nat} {l l2 : List Oper} {P : Program} (hT : H) (hm : P.follows .mixedOrders = true) (hP : k.P = P) (hx : Hd l n l2) (hn : l.length = t) (hs : hShape l.toArray n = true) (ht : Take h hT h')
 (hj : JH k l.toArray n n (Array.replicate t false) l2 0 n false Q hT ρ h') : J k (.region id l.toArray true) Q ρ h := by
 refine J_vs (VS.perm ht.perm) ?_
 subst hP
 subst hn
 intro I a w h1 h2 h3
 obtain ⟨hd, hle⟩ := hx.drop
 refine wp_region_any hm ?_
 have hsm : Same I (hT ++ h') w { w with drawn := w.drawn + 1 } := ⟨rfl, rfl, rfl, Nat.le_refl _, fun _ _ => rfl⟩
 have inv0 : HeadInv .any l.toArray n (Array.replicate l.length false) :=
  ⟨by simp, fun j oj _ hl => (by rw [getD_replicate_false] at hl; cases hl), fun t _ ht => getD_in (by simpa using ht) (getD_replicate_false _ _)⟩
 have H := hj.get hs inv0 I a _ (h1.same hsm) (SF.same h1 hsm h2) h3
 have K := any_of_headH (Q := lift k Q) (g := l.length - n) (fun listed' a' w' hL => by
  have := wpAny_of_seq (md := .any) (Q' := lift k Q) l2 n listed' a' w' (fun j => by rw [← hd]; simp [List.getElem?_drop]) (by
   have e : l2.length = l.toArray.size - n := by rw [← hd]; simp
   rw [e]; exact hL.1) hL.2
  have e : l2.length = l.length - n := by rw [← hd]; simp
  rwa [e] at this) _ _ _ _ H
 rw [show n + (l.length - n) = l.toArray.size by simp; omega] at K
 simpa using K
theorem J_region_HA {id t : Nat} {l l2 : List Oper} {P : Program} (hm : P.follows .mixedOrders = true) (hP : k.P = P) (hx : Hd l n l2) (hn : l.length = t) (hs : hShape l.toArray n = true)
 (hj : JH k l.toArray n n (Array.replicate t false) l2 0 n false Q [] ρ h) : J k (.region id l.toArray true) Q ρ h := J_region_HB [] hm hP hx hn hs .nil hj
end
end Go.Av
namespace Go.Av
open Go
set_option linter.unusedVariables false
set_option linter.unusedSimpArgs false

section
variable {ρ : Env} {h h' : H} {α : Type} {f : α → List D} {E : TypeId} {sz : Nat} {qs : List Sl} {ls : List (List α)}
theorem Cvs.refl (v : Value) (d : D) : ∀ xs : List AV, Cvs v d xs xs
 | [] => .nil
 | x :: xs => .cons (.same x) (Cvs.refl v d xs)
end
end Go.Av
namespace Go.Proofs.YtniklgkoiaeipaaGreatDoor
open Go Go.Av
set_option linter.unusedVariables false
set_option linter.unusedSimpArgs false
set_option maxRecDepth 100000
set_option maxHeartbeats 4000000
class ElC (P : Program) (t : TypeId) (z : outParam Value) (s b : outParam Nat) : Prop where h : El P t z s b
class FdC (P : Program) (t f : Nat) (o : outParam Nat) : Prop where h : Fld P t f o
class BlC (P : Program) (t : TypeId) : Prop where h : Bl2 P t
class BlsC (P : Program) (t : TypeId) (zs : outParam (List Value)) (pl : outParam (List (Nat × Nat))) : Prop where h : Bls P t zs pl
class EqC (P : Program) (t : TypeId) : Prop where h : Eq2 P t
class NifC (P : Program) (t : TypeId) : Prop where h : NotIf P t
theorem el_int : El Tryz.prog 3 (.int .i64 0) 1 8 := by unfold El; kernel_rfl
instance : ElC Tryz.prog 3 (.int .i64 0) 1 8 := ⟨el_int⟩
theorem el_bool : El Tryz.prog 4 (.bool false) 1 1 := by unfold El; kernel_rfl
instance : ElC Tryz.prog 4 (.bool false) 1 1 := ⟨el_bool⟩
theorem el_byte : El Tryz.prog 5 (.int .u8 0) 1 1 := by unfold El; kernel_rfl
instance : ElC Tryz.prog 5 (.int .u8 0) 1 1 := ⟨el_byte⟩
theorem el_Errno : El Tryz.prog 36 (.int .i64 0) 1 8 := by unfold El; kernel_rfl
instance : ElC Tryz.prog 36 (.int .i64 0) 1 8 := ⟨el_Errno⟩
theorem el_unit : El Tryz.prog 125 (.agg #[]) 0 0 := by unfold El; kernel_rfl
instance : ElC Tryz.prog 125 (.agg #[]) 0 0 := ⟨el_unit⟩
theorem bls_unit : Bls Tryz.prog 125 [] [] := by unfold Bls; kernel_rfl
instance : BlsC Tryz.prog 125 [] [] := ⟨bls_unit⟩
theorem el_ints : El Tryz.prog 33 (.slice none 0 0) 1 24 := by unfold El; kernel_rfl
instance : ElC Tryz.prog 33 (.slice none 0 0) 1 24 := ⟨el_ints⟩
theorem el_bools : El Tryz.prog 72 (.slice none 0 0) 1 24 := by unfold El; kernel_rfl
instance : ElC Tryz.prog 72 (.slice none 0 0) 1 24 := ⟨el_bools⟩
theorem el_ops : El Tryz.prog 27 (.slice none 0 0) 1 24 := by unfold El; kernel_rfl
instance : ElC Tryz.prog 27 (.slice none 0 0) 1 24 := ⟨el_ops⟩
theorem el_lists : El Tryz.prog 32 (.slice none 0 0) 1 24 := by unfold El; kernel_rfl
instance : ElC Tryz.prog 32 (.slice none 0 0) 1 24 := ⟨el_lists⟩
theorem el_spots : El Tryz.prog 31 (.slice none 0 0) 1 24 := by unfold El; kernel_rfl
instance : ElC Tryz.prog 31 (.slice none 0 0) 1 24 := ⟨el_spots⟩
theorem el_rules : El Tryz.prog 23 (.slice none 0 0) 1 24 := by unfold El; kernel_rfl
instance : ElC Tryz.prog 23 (.slice none 0 0) 1 24 := ⟨el_rules⟩
theorem el_sets : El Tryz.prog 135 (.slice none 0 0) 1 24 := by unfold El; kernel_rfl
instance : ElC Tryz.prog 135 (.slice none 0 0) 1 24 := ⟨el_sets⟩
theorem el_Op : El Tryz.prog 62 (.agg #[.int .i64 0, .int .i64 0]) 2 16 := by unfold El; kernel_rfl
instance : ElC Tryz.prog 62 (.agg #[.int .i64 0, .int .i64 0]) 2 16 := ⟨el_Op⟩
theorem fd_Op0 : Fld Tryz.prog 62 0 0 := by unfold Fld; kernel_rfl
instance : FdC Tryz.prog 62 0 0 := ⟨fd_Op0⟩
theorem fd_Op1 : Fld Tryz.prog 62 1 1 := by unfold Fld; kernel_rfl
instance : FdC Tryz.prog 62 1 1 := ⟨fd_Op1⟩
theorem fd_reader0 : Fld Tryz.prog 194 0 0 := by unfold Fld; kernel_rfl
instance : FdC Tryz.prog 194 0 0 := ⟨fd_reader0⟩
theorem fd_reader1 : Fld Tryz.prog 194 1 1 := by unfold Fld; kernel_rfl
instance : FdC Tryz.prog 194 1 1 := ⟨fd_reader1⟩
theorem bl_reader : Bl2 Tryz.prog 194 := by unfold Bl2; kernel_rfl
instance : BlC Tryz.prog 194 := ⟨bl_reader⟩
theorem fd_pair0 : Fld Tryz.prog 197 0 0 := by unfold Fld; kernel_rfl
instance : FdC Tryz.prog 197 0 0 := ⟨fd_pair0⟩
theorem fd_pair1 : Fld Tryz.prog 197 1 1 := by unfold Fld; kernel_rfl
instance : FdC Tryz.prog 197 1 1 := ⟨fd_pair1⟩
theorem bl_pair : Bl2 Tryz.prog 197 := by unfold Bl2; kernel_rfl
instance : BlC Tryz.prog 197 := ⟨bl_pair⟩
theorem fd_machine0 : Fld Tryz.prog 189 0 0 := by unfold Fld; kernel_rfl
instance : FdC Tryz.prog 189 0 0 := ⟨fd_machine0⟩
theorem fd_machine1 : Fld Tryz.prog 189 1 1 := by unfold Fld; kernel_rfl
instance : FdC Tryz.prog 189 1 1 := ⟨fd_machine1⟩
theorem bls_machine : Bls Tryz.prog 189 [.slice none 0 0, .slice none 0 0] [(0, 1), (1, 1)] := by unfold Bls; kernel_rfl
instance : BlsC Tryz.prog 189 [.slice none 0 0, .slice none 0 0] [(0, 1), (1, 1)] := ⟨bls_machine⟩
theorem el_Spot : El Tryz.prog 98 (.agg #[.int .i64 0, .int .i64 0]) 2 16 := by unfold El; kernel_rfl
instance : ElC Tryz.prog 98 (.agg #[.int .i64 0, .int .i64 0]) 2 16 := ⟨el_Spot⟩
theorem fd_Spot0 : Fld Tryz.prog 98 0 0 := by unfold Fld; kernel_rfl
instance : FdC Tryz.prog 98 0 0 := ⟨fd_Spot0⟩
theorem fd_Spot1 : Fld Tryz.prog 98 1 1 := by unfold Fld; kernel_rfl
instance : FdC Tryz.prog 98 1 1 := ⟨fd_Spot1⟩
theorem bl_Spot : Bl2 Tryz.prog 98 := by unfold Bl2; kernel_rfl
instance : BlC Tryz.prog 98 := ⟨bl_Spot⟩
theorem el_Graph : El Tryz.prog 35 (.agg #[.slice none 0 0, .int .i64 0, .slice none 0 0, .slice none 0 0, .int .i64 0]) 5 88 := by unfold El; kernel_rfl
instance : ElC Tryz.prog 35 (.agg #[.slice none 0 0, .int .i64 0, .slice none 0 0, .slice none 0 0, .int .i64 0]) 5 88 := ⟨el_Graph⟩
theorem fd_Graph0 : Fld Tryz.prog 35 0 0 := by unfold Fld; kernel_rfl
instance : FdC Tryz.prog 35 0 0 := ⟨fd_Graph0⟩
theorem fd_Graph1 : Fld Tryz.prog 35 1 1 := by unfold Fld; kernel_rfl
instance : FdC Tryz.prog 35 1 1 := ⟨fd_Graph1⟩
theorem fd_Graph2 : Fld Tryz.prog 35 2 2 := by unfold Fld; kernel_rfl
instance : FdC Tryz.prog 35 2 2 := ⟨fd_Graph2⟩
theorem fd_Graph3 : Fld Tryz.prog 35 3 3 := by unfold Fld; kernel_rfl
instance : FdC Tryz.prog 35 3 3 := ⟨fd_Graph3⟩
theorem fd_Graph4 : Fld Tryz.prog 35 4 4 := by unfold Fld; kernel_rfl
instance : FdC Tryz.prog 35 4 4 := ⟨fd_Graph4⟩
theorem bls_Graph : Bls Tryz.prog 35 [.slice none 0 0, .int .i64 0, .slice none 0 0, .slice none 0 0, .int .i64 0] [(0, 1), (1, 1), (2, 1), (3, 1), (4, 1)] := by unfold Bls; kernel_rfl
instance : BlsC Tryz.prog 35 [.slice none 0 0, .int .i64 0, .slice none 0 0, .slice none 0 0, .int .i64 0] [(0, 1), (1, 1), (2, 1), (3, 1), (4, 1)] := ⟨bls_Graph⟩
theorem el_Variable : El Tryz.prog 131 (.agg #[.string ByteArray.empty, .int .i64 0, .int .i64 0, .int .i64 0]) 4 40 := by unfold El; kernel_rfl
instance : ElC Tryz.prog 131 (.agg #[.string ByteArray.empty, .int .i64 0, .int .i64 0, .int .i64 0]) 4 40 := ⟨el_Variable⟩
theorem fd_Variable0 : Fld Tryz.prog 131 0 0 := by unfold Fld; kernel_rfl
instance : FdC Tryz.prog 131 0 0 := ⟨fd_Variable0⟩
theorem fd_Variable1 : Fld Tryz.prog 131 1 1 := by unfold Fld; kernel_rfl
instance : FdC Tryz.prog 131 1 1 := ⟨fd_Variable1⟩
theorem fd_Variable2 : Fld Tryz.prog 131 2 2 := by unfold Fld; kernel_rfl
instance : FdC Tryz.prog 131 2 2 := ⟨fd_Variable2⟩
theorem fd_Variable3 : Fld Tryz.prog 131 3 3 := by unfold Fld; kernel_rfl
instance : FdC Tryz.prog 131 3 3 := ⟨fd_Variable3⟩
theorem el_Set : El Tryz.prog 139 (.agg #[.int .i64 0, .slice none 0 0]) 2 32 := by unfold El; kernel_rfl
instance : ElC Tryz.prog 139 (.agg #[.int .i64 0, .slice none 0 0]) 2 32 := ⟨el_Set⟩
theorem fd_Set0 : Fld Tryz.prog 139 0 0 := by unfold Fld; kernel_rfl
instance : FdC Tryz.prog 139 0 0 := ⟨fd_Set0⟩
theorem fd_Set1 : Fld Tryz.prog 139 1 1 := by unfold Fld; kernel_rfl
instance : FdC Tryz.prog 139 1 1 := ⟨fd_Set1⟩
theorem bl_Set : Bl2 Tryz.prog 139 := by unfold Bl2; kernel_rfl
instance : BlC Tryz.prog 139 := ⟨bl_Set⟩
theorem el_Rule : El Tryz.prog 137 (.agg #[.slice none 0 0, .slice none 0 0]) 2 48 := by unfold El; kernel_rfl
instance : ElC Tryz.prog 137 (.agg #[.slice none 0 0, .slice none 0 0]) 2 48 := ⟨el_Rule⟩
theorem fd_Rule0 : Fld Tryz.prog 137 0 0 := by unfold Fld; kernel_rfl
instance : FdC Tryz.prog 137 0 0 := ⟨fd_Rule0⟩
theorem fd_Rule1 : Fld Tryz.prog 137 1 1 := by unfold Fld; kernel_rfl
instance : FdC Tryz.prog 137 1 1 := ⟨fd_Rule1⟩
theorem bls_Rule : Bls Tryz.prog 137 [.slice none 0 0, .slice none 0 0] [(0, 1), (1, 1)] := by unfold Bls; kernel_rfl
instance : BlsC Tryz.prog 137 [.slice none 0 0, .slice none 0 0] [(0, 1), (1, 1)] := ⟨bls_Rule⟩
theorem el_Model : El Tryz.prog 25 (.agg #[.slice none 0 0, .slice none 0 0]) 2 48 := by unfold El; kernel_rfl
instance : ElC Tryz.prog 25 (.agg #[.slice none 0 0, .slice none 0 0]) 2 48 := ⟨el_Model⟩
theorem fd_Model0 : Fld Tryz.prog 25 0 0 := by unfold Fld; kernel_rfl
instance : FdC Tryz.prog 25 0 0 := ⟨fd_Model0⟩
theorem fd_Model1 : Fld Tryz.prog 25 1 1 := by unfold Fld; kernel_rfl
instance : FdC Tryz.prog 25 1 1 := ⟨fd_Model1⟩
theorem bls_Model : Bls Tryz.prog 25 [.slice none 0 0, .slice none 0 0] [(0, 1), (1, 1)] := by unfold Bls; kernel_rfl
instance : BlsC Tryz.prog 25 [.slice none 0 0, .slice none 0 0] [(0, 1), (1, 1)] := ⟨bls_Model⟩
theorem el_Task : El Tryz.prog 29 (.agg #[.slice none 0 0, .slice none 0 0, .slice none 0 0, .slice none 0 0]) 4 96 := by unfold El; kernel_rfl
instance : ElC Tryz.prog 29 (.agg #[.slice none 0 0, .slice none 0 0, .slice none 0 0, .slice none 0 0]) 4 96 := ⟨el_Task⟩
theorem fd_Task0 : Fld Tryz.prog 29 0 0 := by unfold Fld; kernel_rfl
instance : FdC Tryz.prog 29 0 0 := ⟨fd_Task0⟩
theorem fd_Task1 : Fld Tryz.prog 29 1 2 := by unfold Fld; kernel_rfl
instance : FdC Tryz.prog 29 1 2 := ⟨fd_Task1⟩
theorem fd_Task2 : Fld Tryz.prog 29 2 3 := by unfold Fld; kernel_rfl
instance : FdC Tryz.prog 29 2 3 := ⟨fd_Task2⟩
theorem bls_Task : Bls Tryz.prog 29 [.slice none 0 0, .slice none 0 0, .slice none 0 0, .slice none 0 0] [(0, 2), (2, 1), (3, 1)] := by unfold Bls; kernel_rfl
instance : BlsC Tryz.prog 29 [.slice none 0 0, .slice none 0 0, .slice none 0 0, .slice none 0 0] [(0, 2), (2, 1), (3, 1)] := ⟨bls_Task⟩
theorem eq2_Op : Eq2 Tryz.prog 62 := ⟨by kernel_rfl, fun a b c d w => by
  have u3 := Tryz.underlying3
  rw [show (10000 : Nat) = 9999 + 1 from rfl, run_equalIn_agg w 9999 62 _ _ (by kernel_rfl) (by kernel_rfl)]
  simp only [Program.fieldsOf, Tryz.underlying62]
  go_simp
  by_cases h1 : a = c <;> by_cases h2 : b = d <;> simp [h1, h2]⟩
instance : EqC Tryz.prog 62 := ⟨eq2_Op⟩
theorem eq2_Spot : Eq2 Tryz.prog 98 := ⟨by kernel_rfl, fun a b c d w => by
  have u3 := Tryz.underlying3
  rw [show (10000 : Nat) = 9999 + 1 from rfl, run_equalIn_agg w 9999 98 _ _ (by kernel_rfl) (by kernel_rfl)]
  simp only [Program.fieldsOf, Tryz.underlying98]
  go_simp
  by_cases h1 : a = c <;> by_cases h2 : b = d <;> simp [h1, h2]⟩
instance : EqC Tryz.prog 98 := ⟨eq2_Spot⟩
theorem nif_Errno : NotIf Tryz.prog 36 := ⟨_, Tryz.underlying36, fun _ h => by cases h⟩
instance : NifC Tryz.prog 36 := ⟨nif_Errno⟩
theorem mixed : Tryz.prog.follows .mixedOrders = true := by kernel_rfl
def partsT : List D := [-1, 0, 0, 2, 2, 2, 2, 2, 2, 2, 1, 0, 0, 0, 1, 2, 2, 1, 1].map fun n => D.i .i64 n
def GP : List (Nat × List D) := [(0, partsT)]
theorem GP_mem : (0, partsT) ∈ GP := by simp [GP]
end Go.Proofs.YtniklgkoiaeipaaGreatDoor
namespace Go.Av
open Go
set_option linter.unusedVariables false
set_option linter.unusedSimpArgs false
class FlagA : Prop
class FlagH : Prop
class StopAt (n : outParam Nat) : Prop
theorem useA [FlagA] {p : Prop} (h : p) : p := h
theorem useH [FlagH] {p : Prop} (h : p) : p := h
section
variable {k : Kx} {Q : Exit → Env → H → Prop} {ρ : Env} {h : H}
theorem jstopn {n : Nat} [StopAt n] {id : Nat} {l : List Oper} (_hA : Nat.ble n (l.countP fun o => effB o.op) = true) (hj : Stop (J k (.region id l.toArray true) Q ρ h)) : J k (.region id l.toArray true) Q ρ h := hj.get
end
theorem of_dT {p : Prop} {i : Decidable p} (h : @decide p i = true) : p := of_decide_eq_true h
theorem of_dF {p : Prop} {i : Decidable p} (h : @decide p i = false) : ¬ p := of_decide_eq_false h
theorem bndD {p : Prop} (h : p := by (first | omega | (simp only [List.length_map, List.length_range, List.length_append, List.length_cons, List.length_nil, List.length_take, List.length_drop, List.length_set, List.length_replicate]; omega))) : p := h
theorem updD {p : Prop} (h : p := by ((repeat (first | with_reducible exact Upd.here | with_reducible apply Upd.there)); first | done | fail)) : p := h
theorem updqD {p : Prop} (h : p := by (intro q_; (repeat (first | with_reducible exact Upd.here | with_reducible apply Upd.there)); first | done | fail)) : p := h
theorem sarD {p : Prop} (h : p := by ((repeat (first | exact SetAR.nil | apply SetAR.put | apply SetAR.skip)); first | done | fail)) : p := h
theorem memD {p : Prop} (h : p := by ((repeat (first | exact List.mem_cons_self | apply List.mem_cons_of_mem)); first | done | fail)) : p := h
theorem sublD {p : Prop} (h : p := by ((repeat (first | exact List.nil_sublist _ | (with_reducible apply List.Sublist.cons_cons) | apply List.Sublist.cons)); first | done | fail)) : p := h
theorem takedD {p : Prop} (h : p := by ((repeat (first | exact Take.nil | ((with_reducible apply Take.cons); (focus ((repeat (first | exact Sel.here | with_reducible apply Sel.there)); done))))); first | done | fail)) : p := h
theorem leD {p : Prop} (h : p := by
 repeat (first
  | exact Env.le_nil _
  | refine Env.le_cons (AV.le_refl _) ?_
  | refine Env.le_cons (AV.le_int rfl (by first | rfl | omega | (dsimp only; omega))) ?_)
 first | done | fail) : p := h
theorem cx {c q : Prop} (hc : c) (h : c → q := by intro hc; first | contradiction | (exfalso; omega)) : q := h hc
theorem cx1 {c q : Prop} (hc : c) (h : c → q := by intro hc; first | contradiction | (exfalso; omega) | (exfalso; exact absurd (of_dT hc) (by assumption)) | (exfalso; exact of_dF hc (by assumption))) : q := h hc
theorem pureD {p : Prop} (h : p := by
 (first
  | (first
    | ((with_reducible apply pu_move); rfl)
    | ((with_reducible apply pu_assign); rfl)
    | ((with_reducible apply pure_extract); rfl; rfl)
    | ((with_reducible apply pure_lss); rfl; rfl)
    | ((with_reducible apply pure_eql); rfl; rfl)
    | ((with_reducible apply pure_neq); rfl; rfl)
    | ((with_reducible apply pure_eql_bool); rfl; rfl; rfl)
    | ((with_reducible apply pure_neq_bool); rfl; rfl; rfl)
    | ((with_reducible apply pure_geq); rfl; rfl)
    )
  | (first
    | ((with_reducible apply pure_gtr); rfl; rfl)
    | ((with_reducible apply pure_leq); rfl; rfl)
    | ((with_reducible apply pure_add); rfl; rfl; (focus (first | (unfold inI64; omega) | (unfold inI64; simp only [Int.reduceToNat, Int.reducePow]; omega) | assumption)))
    | ((with_reducible apply pure_sub); rfl; rfl; (focus (first | (unfold inI64; omega) | (unfold inI64; simp only [Int.reduceToNat, Int.reducePow]; omega) | assumption)))
    | ((with_reducible apply pure_mul); rfl; rfl; (focus (first | (unfold inI64; omega) | (unfold inI64; simp only [Int.reduceToNat, Int.reducePow]; omega) | assumption)))
    | ((with_reducible apply pure_quo); rfl; rfl; omega; omega; omega)
    | ((with_reducible apply pure_rem); rfl; rfl; omega; omega)
    | ((with_reducible apply pure_shl); rfl; rfl; omega; omega; (focus (first | (unfold inI64; omega) | (unfold inI64; simp only [Int.reduceToNat, Int.reducePow]; omega) | assumption)))
    | ((with_reducible apply pure_shr); rfl; rfl; omega; omega)
    )
  | (first
    | ((with_reducible apply pure_shl_u); rfl; rfl; omega; omega; (focus (first | (unfold inI64; omega) | (unfold inI64; simp only [Int.reduceToNat, Int.reducePow]; omega) | assumption)))
    | ((with_reducible apply pure_shr_u); rfl; rfl; omega; omega)
    | ((with_reducible apply pure_and1); rfl; rfl; omega; omega)
    | ((with_reducible apply pure_and); rfl; rfl)
    | ((with_reducible apply pure_or); rfl; rfl)
    | ((with_reducible apply pure_neg); rfl; (focus (first | (unfold inI64; omega) | (unfold inI64; simp only [Int.reduceToNat, Int.reducePow]; omega) | assumption)))
    | ((with_reducible apply pure_eql_string); rfl; rfl)
    | ((with_reducible apply pure_neq_string); rfl; rfl)
    | ((with_reducible apply pu_pick_true); rfl; rfl)
    )
  | (first
    | ((with_reducible apply pu_pick_false); rfl; rfl)
    | ((with_reducible apply pure_not); rfl)
    | ((with_reducible apply pu_len); rfl; rfl)
    | ((with_reducible apply pure_len); rfl; rfl)
    | ((with_reducible apply pu_max); rfl; rfl)
    | ((with_reducible apply pu_min); rfl; rfl)
    | ((with_reducible apply pu_slice_to3); rfl; rfl; rfl; rfl; (focus (with_reducible exact ElC.h)); omega; (focus exact bndD))
    | ((with_reducible apply pure_index1); rfl; (focus rfl); rfl; (focus (with_reducible exact ElC.h)); (focus exact bndD))
    | ((with_reducible apply pure_index); rfl; rfl; rfl; (focus (with_reducible exact ElC.h)); (focus exact bndD))
    | ((with_reducible apply pure_indexI); rfl; rfl; rfl; (focus (with_reducible exact ElC.h)); omega; (focus exact bndD))
    | ((with_reducible apply pu_func2); rfl; rfl)
    )
  | (first
    | ((with_reducible apply pu_func3); rfl; rfl; rfl)
    | ((with_reducible apply pu_slice); rfl; rfl; rfl; rfl; (focus (with_reducible exact ElC.h)); omega; omega; (focus exact bndD))
    | ((with_reducible apply pu_slice_from); rfl; rfl; rfl; (focus (with_reducible exact ElC.h)); omega; (focus exact bndD))
    | ((with_reducible apply pu_slice_to); rfl; rfl; rfl; (focus (with_reducible exact ElC.h)); omega; (focus exact bndD))
    | ((with_reducible apply pu_index_c1); rfl; rfl; rfl; (focus (with_reducible exact ElC.h)); omega)
    | ((with_reducible apply pu_index_ci1); rfl; rfl; rfl; (focus (with_reducible exact ElC.h)); omega; omega)
    | ((with_reducible apply pu_index_cells); rfl; rfl; (focus (with_reducible exact ElC.h)); rfl; omega; omega)
    | ((with_reducible apply pu_index_row); rfl; rfl; rfl; (focus (with_reducible exact ElC.h)); (focus exact memD); (focus exact bndD))
    | ((with_reducible apply pu_index_rowI); rfl; rfl; rfl; (focus (with_reducible exact ElC.h)); (focus exact memD); omega; (focus exact bndD))
    | ((with_reducible apply pure_fieldAddr); (focus (with_reducible exact FdC.h)); rfl)
    | ((with_reducible apply pure_load); rfl; rfl)
    | ((with_reducible apply pu_load_row); rfl; rfl; (focus (with_reducible exact ElC.h)); rfl)
    | ((with_reducible apply pu_neq2); (focus (with_reducible exact EqC.h)); rfl; rfl)
    )
  | (first
    | ((with_reducible apply pu_nilCheck); rfl)
    | ((with_reducible apply pu_nilCheck_pd); rfl)
    | ((with_reducible apply pu_field_cells); (focus (with_reducible exact FdC.h)); rfl)
    | ((with_reducible apply pu_load_map); rfl; rfl; (focus exact memD); (focus exact bndD))
    | ((with_reducible apply pu_load_cells); rfl; rfl; (focus exact memD); (first | rfl | assumption | ((apply set_ne_get); (focus assumption); (focus (first | omega | exact Nat.ne_of_lt (Nat.lt_succ_self _))))))
    | ((with_reducible apply pu_load_row0); rfl; rfl; (focus exact memD); (focus exact fun _ => rfl); rfl; (focus exact bndD))
    | ((with_reducible apply pu_load_rowu); rfl; rfl; (focus exact memD); (focus exact fun _ => rfl); rfl; (focus exact bndD))
    | ((with_reducible apply pu_field_row); (focus (with_reducible exact FdC.h)); rfl)
    | ((with_reducible apply pu_load_cells_agg); rfl; rfl; (focus (with_reducible exact ElC.h)); (focus exact memD); rfl)
    | ((with_reducible apply pu_iface); (focus (with_reducible exact NifC.h)); rfl)
    | ((with_reducible apply pure_build2); (focus (with_reducible exact BlC.h)); rfl; rfl; rfl; rfl)
    | ((with_reducible apply pu_build); (focus (with_reducible exact BlsC.h)); rfl; rfl; rfl)
    | ((with_reducible apply pu_byte_int); rfl; rfl; rfl)
    )
  | (first
    | ((with_reducible apply pu_int_byte); rfl; rfl; rfl)
    | ((with_reducible apply pu_int_int); rfl; rfl; rfl; (focus (first | (unfold inI64; omega) | (unfold inI64; simp only [Int.reduceToNat, Int.reducePow]; omega) | assumption)))
    | ((with_reducible apply pu_bytes_string); rfl; rfl; rfl; rfl)
    | ((with_reducible apply pu_len_sub); rfl; rfl; (focus exact memD))
    | ((with_reducible apply pu_slice_cut); rfl; rfl; rfl; (focus (with_reducible exact ElC.h)); (focus exact memD); omega; (focus exact bndD))
    | ((with_reducible apply pu_index_cut); rfl; rfl; rfl; (focus (with_reducible exact ElC.h)); (focus exact memD); omega; omega; (focus exact bndD))
    | ((with_reducible apply pu_len_row); rfl; rfl; (focus exact memD))
    | ((with_reducible apply pu_len_cut); rfl; rfl; (focus exact memD))
    | ((with_reducible apply pure_len_nil); rfl; rfl)
    | ((with_reducible apply pu_slice_sub); rfl; rfl; rfl; (focus (with_reducible exact ElC.h)); (focus exact memD); omega; (focus exact bndD))
    | ((with_reducible apply pu_index_sub); rfl; rfl; rfl; (focus (with_reducible exact ElC.h)); (focus exact memD); (focus exact bndD))
    | ((with_reducible apply pure_global); rfl; exact el_int; exact GP_mem; rfl; omega; omega)
    | ((with_reducible apply pu_index_arr); rfl; rfl; rfl; (focus (with_reducible exact ElC.h)); omega; omega)
    )
  )) : p := h
end Go.Av
namespace Go.Proofs.YtniklgkoiaeipaaGreatDoor
open Go Go.Av
set_option linter.unusedVariables false
set_option linter.unusedSimpArgs false
set_option maxRecDepth 100000
set_option maxHeartbeats 4000000

theorem allocF {p q : Prop} (h : p → q := by
 apply cmp; (focus (first
  | ((with_reducible apply jboxT); (focus rfl); (focus rfl); (focus rfl))
  | ((with_reducible apply jalloc1T); (focus (with_reducible exact ElC.h)); (focus rfl); (focus rfl))
  | ((with_reducible apply jallocN); (focus (with_reducible exact ElC.h)); (focus rfl))
  | ((with_reducible apply jmk_bool); (focus rfl); (focus rfl); (focus (with_reducible exact ElC.h)); (focus omega); (focus omega); (focus rfl))
  | ((with_reducible apply jmk_int); (focus rfl); (focus rfl); (focus (with_reducible exact ElC.h)); (focus omega); (focus omega); (focus rfl))
  | ((with_reducible apply js_um); (focus rfl); (focus exact updD); (focus rfl); (focus rfl); (focus (with_reducible exact ElC.h)); (focus exact bndD))
  | ((with_reducible apply js_uw); (focus rfl); (focus rfl); (focus rfl); (focus (with_reducible exact ElC.h)); (focus rfl); (focus exact updD); (focus rfl))
  | ((with_reducible apply js_ur); (focus rfl); (focus rfl); (focus rfl); (focus (with_reducible exact ElC.h)); (focus exact updD); (focus exact sarD))
  | ((with_reducible apply js_us); (focus rfl); (focus rfl); (focus rfl); (focus (with_reducible exact ElC.h)); (focus rfl); (focus exact updD); (focus exact sarD))
  ))
 exact fun h => h) : p → q := h
theorem allocD {p q : Prop} (hp : p) (h : p → q := by exact allocF) : q := h hp
theorem stp {p q : Prop} (hp : p) (h : p → q := by
 repeat1' (apply cmp; (focus (first
  | ((with_reducible apply jstopn); (focus (decide +kernel)))
  | ((refine useA ?_); (first
   | ((with_reducible apply japU1); (focus rfl); (focus rfl); (focus (with_reducible exact ElC.h)); (focus exact updqD); (focus rfl); (focus rfl); (focus rfl); (focus rfl); (focus exact bndD); (focus exact bndD))
   | ((with_reducible apply japU); (focus rfl); (focus rfl); (focus (with_reducible exact ElC.h)); (focus exact updqD); (focus rfl); (focus rfl); (focus rfl); (focus rfl); (focus exact bndD); (focus exact bndD))
   | exact allocF
   | ((with_reducible apply js_inc); (focus rfl); (focus rfl); (focus (with_reducible exact ElC.h)); (focus exact updD); (focus exact fun _ => rfl); (focus rfl); (focus exact bndD))
   | ((with_reducible apply js_row1); (focus rfl); (focus rfl); (focus (with_reducible exact ElC.h)); (focus rfl); (focus exact updD); (focus rfl); (focus exact fun _ => rfl); (focus exact bndD))
   | ((with_reducible apply js_cut); (focus rfl); (focus rfl); (focus rfl); (focus (with_reducible exact ElC.h)); (focus exact updqD); (focus exact fun _ => rfl); (focus omega); (focus exact bndD); (focus rfl))
   ))
  | ((refine useH ?_); (first
   | (first
    | ((with_reducible apply J_region_HA); (focus exact mixed); (focus rfl); (focus ((repeat ((with_reducible apply Hd.cons); (focus rfl))); exact Hd.nil)); (focus ((repeat (with_reducible apply len_cons)); exact len_nil)); (focus (decide +kernel)))
    | ((with_reducible apply jh_done); (focus (decide +kernel)); (focus ((repeat (with_reducible apply App.cons)); exact App.nil)))
    | ((with_reducible apply jh_pure); (focus rfl); (focus (decide +kernel)); (focus exact pureD); (focus rfl))
    | ((with_reducible apply jh_gy); (focus rfl); (focus rfl); (focus rfl); (focus rfl); (focus rfl); (focus (decide +kernel)); (focus exact pureD); (focus rfl))
    | ((with_reducible apply jh_gn); (focus rfl); (focus rfl); (focus rfl); (focus rfl); (focus rfl); (focus (decide +kernel)); (focus rfl))
    | ((with_reducible apply jh_gu); (focus rfl); (focus rfl); (focus rfl); (focus rfl); (focus (decide +kernel)); (focus rfl))
    | ((with_reducible apply jh_split); (focus rfl); (focus rfl); (focus rfl); (focus rfl); (focus (decide +kernel)))
    | with_reducible apply jh_skip
    | with_reducible apply jh_wrap
    | ((with_reducible apply jh_end); (focus (decide +kernel)); (focus (decide +kernel)))
    | with_reducible exact jhs_nil
    | ((with_reducible apply jhs_no); (focus (decide +kernel)))
    | ((with_reducible apply jhs_yes); (focus rfl))
    | with_reducible apply jh_nil
    )
   ))
  | (first
    | (first
     | with_reducible exact JL_nil
     | ((with_reducible apply jp); (focus exact pureD); (focus rfl))
     | ((with_reducible apply jgt); (focus rfl); (focus rfl); (focus rfl); (focus rfl); (focus rfl))
     | ((with_reducible apply jgf); (focus rfl); (focus rfl); (focus rfl); (focus rfl); (focus rfl))
     | ((with_reducible apply jgu); (focus rfl); (focus rfl); (focus rfl); (focus rfl))
     | ((with_reducible apply jqu); (focus rfl); (focus rfl); (focus rfl); (focus rfl))
     | with_reducible exact tq_normal
     | with_reducible exact tq_ret
     | with_reducible exact tq_exit
     )
    | (first
     | with_reducible exact tq_panic
     | with_reducible exact bq_normal
     | with_reducible exact bq_ret
     | with_reducible exact bq_exit
     | ((with_reducible apply bq_exit'); (focus decide))
     | with_reducible exact bq_panic
     | ((with_reducible apply jpan); (focus rfl))
     | with_reducible exact J_seq
     | with_reducible exact J_region
     )
    | (first
     | ((with_reducible apply J_region_anyA); (focus exact mixed); (focus rfl); (focus ((repeat (with_reducible apply len_cons)); exact len_nil)); (focus (decide +kernel)))
     )
    | (first
     | ((with_reducible apply (J_region_mix 0)); (focus exact mixed); (focus rfl); (focus ((repeat (with_reducible apply len_cons)); exact len_nil)); (focus (decide +kernel)); (focus ((repeat (with_reducible apply Mix.cons)); exact Mix.nil)))
     | ((with_reducible apply (J_region_mix 1)); (focus exact mixed); (focus rfl); (focus ((repeat (with_reducible apply len_cons)); exact len_nil)); (focus (decide +kernel)); (focus ((repeat (with_reducible apply Mix.cons)); exact Mix.nil)))
     | ((with_reducible apply (J_region_mix 2)); (focus exact mixed); (focus rfl); (focus ((repeat (with_reducible apply len_cons)); exact len_nil)); (focus (decide +kernel)); (focus ((repeat (with_reducible apply Mix.cons)); exact Mix.nil)))
     | ((with_reducible apply (J_region_mix 3)); (focus exact mixed); (focus rfl); (focus ((repeat (with_reducible apply len_cons)); exact len_nil)); (focus (decide +kernel)); (focus ((repeat (with_reducible apply Mix.cons)); exact Mix.nil)))
     | ((with_reducible apply (J_region_mix 4)); (focus exact mixed); (focus rfl); (focus ((repeat (with_reducible apply len_cons)); exact len_nil)); (focus (decide +kernel)); (focus ((repeat (with_reducible apply Mix.cons)); exact Mix.nil)))
     | ((with_reducible apply (J_region_mix 5)); (focus exact mixed); (focus rfl); (focus ((repeat (with_reducible apply len_cons)); exact len_nil)); (focus (decide +kernel)); (focus ((repeat (with_reducible apply Mix.cons)); exact Mix.nil)))
     | ((with_reducible apply (J_region_mix 6)); (focus exact mixed); (focus rfl); (focus ((repeat (with_reducible apply len_cons)); exact len_nil)); (focus (decide +kernel)); (focus ((repeat (with_reducible apply Mix.cons)); exact Mix.nil)))
     | ((with_reducible apply (J_region_mix 7)); (focus exact mixed); (focus rfl); (focus ((repeat (with_reducible apply len_cons)); exact len_nil)); (focus (decide +kernel)); (focus ((repeat (with_reducible apply Mix.cons)); exact Mix.nil)))
     | ((with_reducible apply (J_region_mix 8)); (focus exact mixed); (focus rfl); (focus ((repeat (with_reducible apply len_cons)); exact len_nil)); (focus (decide +kernel)); (focus ((repeat (with_reducible apply Mix.cons)); exact Mix.nil)))
     )
    | (first
     | with_reducible exact J_block
     | ((with_reducible apply J_region_tail); (focus exact mixed); (focus ((repeat (with_reducible apply len_cons)); exact len_nil)); (focus (decide +kernel)))
     | ((with_reducible apply (J_region_tailT 2)); (focus exact mixed); (focus ((repeat (with_reducible apply len_cons)); exact len_nil)); (focus (decide +kernel)))
     | ((with_reducible apply (J_region_tailT 3)); (focus exact mixed); (focus ((repeat (with_reducible apply len_cons)); exact len_nil)); (focus (decide +kernel)))
     | ((with_reducible apply (J_region_tailT 4)); (focus exact mixed); (focus ((repeat (with_reducible apply len_cons)); exact len_nil)); (focus (decide +kernel)))
     | ((with_reducible apply (J_region_tailT 5)); (focus exact mixed); (focus ((repeat (with_reducible apply len_cons)); exact len_nil)); (focus (decide +kernel)))
     | ((with_reducible apply (J_region_tailT 6)); (focus exact mixed); (focus ((repeat (with_reducible apply len_cons)); exact len_nil)); (focus (decide +kernel)))
     | ((with_reducible apply (J_region_tailT 7)); (focus exact mixed); (focus ((repeat (with_reducible apply len_cons)); exact len_nil)); (focus (decide +kernel)))
     | ((with_reducible apply J_region_draw); (focus exact mixed); (focus (decide +kernel)); (focus ((repeat (with_reducible apply len_cons)); exact len_nil)))
     | with_reducible exact JQ_nil
     | ((with_reducible apply jqp); (focus exact pureD); (focus rfl))
     | ((with_reducible apply jqt); (focus rfl); (focus rfl); (focus rfl); (focus rfl); (focus rfl))
     | ((with_reducible apply jqf); (focus rfl); (focus rfl); (focus rfl); (focus rfl); (focus rfl))
     | (first
      | ((with_reducible apply jbuild_byte); (focus rfl); (focus rfl); (focus (with_reducible exact ElC.h)); (focus rfl); (focus rfl))
      | ((with_reducible apply jbuild_int); (focus rfl); (focus rfl); (focus (with_reducible exact ElC.h)); (focus rfl); (focus rfl))
      | ((with_reducible apply jbuild_bool); (focus rfl); (focus rfl); (focus (with_reducible exact ElC.h)); (focus rfl); (focus rfl))
      | ((with_reducible apply jbuild_list); (focus rfl); (focus rfl); (focus (with_reducible exact ElC.h)); (focus rfl); (focus rfl))
      | ((with_reducible apply jbuild_agg); (focus rfl); (focus rfl); (focus (with_reducible exact ElC.h)); (focus rfl); (focus rfl); (focus rfl); (focus rfl); (focus rfl))
      | ((with_reducible apply jbuild_two); (focus rfl); (focus rfl); (focus (with_reducible exact ElC.h)); (focus rfl); (focus rfl)))
     | ((with_reducible apply japp); (focus rfl); (focus rfl); (focus rfl); (focus (with_reducible exact ElC.h)); (focus rfl); (focus rfl); (focus rfl); (focus exact bndD); (focus exact bndD))
     )
    | (first
     | ((with_reducible apply japp_copy); (focus rfl); (focus rfl); (focus rfl); (focus (with_reducible exact ElC.h)); (focus rfl); (focus rfl); (focus rfl); (focus exact fun _ => rfl); (focus exact bndD); (focus exact bndD))
     | with_reducible exact J_skip
     | with_reducible exact J_ret
     | with_reducible exact J_exit
     | ((with_reducible apply jcond); (focus rfl))
     | with_reducible exact cb_true
     | with_reducible exact cb_false
     | with_reducible exact cb_decT
     | with_reducible exact cb_not
     )
    | (first
     | with_reducible exact cb_splitT
     )
    | (first
     | ((with_reducible apply je_q); (focus rfl); (focus (decide +kernel)); (focus exact pureD); (focus rfl))
     | ((with_reducible apply je_qy); (focus rfl); (focus rfl); (focus rfl); (focus rfl); (focus rfl); (focus (decide +kernel)); (focus exact pureD); (focus rfl))
     | ((with_reducible apply je_gt); (focus rfl); (focus rfl); (focus rfl); (focus rfl); (focus rfl); (focus (decide +kernel)); (focus rfl))
     | ((with_reducible apply je_gf); (focus rfl); (focus rfl); (focus rfl); (focus rfl); (focus rfl); (focus (decide +kernel)); (focus rfl))
     | ((with_reducible apply je_gu); (focus rfl); (focus rfl); (focus rfl); (focus rfl); (focus (decide +kernel)); (focus rfl))
     | ((with_reducible apply je_done); (focus (decide +kernel)))
     | ((with_reducible apply je_swap); (focus ((repeat (with_reducible apply Rv.cons)); exact Rv.nil)))
     | ((with_reducible apply je_hold); (focus (decide +kernel)))
     )
    | (first
     | ((with_reducible apply J_region_any); (focus exact mixed); (focus rfl); (focus ((repeat (with_reducible apply len_cons)); exact len_nil)); (focus (decide +kernel)))
     | ((with_reducible apply jxp_done); (focus (decide +kernel)))
     | ((with_reducible apply jxp_move); (focus rfl); (focus (decide +kernel)); (focus rfl); (focus rfl))
     | ((with_reducible apply jxp_assign); (focus rfl); (focus (decide +kernel)); (focus rfl); (focus rfl))
     | ((with_reducible apply jxp_extract); (focus rfl); (focus (decide +kernel)); (focus rfl); (focus rfl); (focus rfl))
     | with_reducible apply jxp_next
     | ((with_reducible apply jxp_end); (focus (decide +kernel)); (focus rfl))
     | with_reducible exact jxs_nil
     | ((with_reducible apply jxs_no); (focus (decide +kernel)))
     | ((with_reducible apply jxs_yesT); (focus rfl))
     | with_reducible apply jxp_nil
     | with_reducible apply jxand
     )
    ))))
 exact fun h => h) : q := h hp
end Go.Proofs.YtniklgkoiaeipaaGreatDoor
namespace Go.Proofs.YtniklgkoiaeipaaGreatDoor
open Go Go.Av Go.Sp
set_option linter.unusedVariables false
set_option linter.unusedSimpArgs false
set_option maxRecDepth 100000
set_option maxHeartbeats 4000000

theorem cal_PartsOf : Cal Tryz.prog 192 := Cal.of Tryz.func192 (by kernel_rfl) (by kernel_rfl)
theorem cal_Parts : Cal Tryz.prog 188 := Cal.of Tryz.func188 (by kernel_rfl) (by kernel_rfl)
theorem cal_endOf : Cal Tryz.prog 148 := Cal.of Tryz.func148 (by kernel_rfl) (by kernel_rfl)

theorem PartsOf (G : List (Nat × List D)) (x : Int) : ACr Tryz.prog G 192 [.int x] (.tup [.int (partsOf x).1, .int (partsOf x).2]) := by
 refine AC_of (ts := [2, 3]) 26 Tryz.func192 rfl rfl rfl (by simp) fun W I => ?_
 repeat' (first
  | exact True.intro
  | refine stp ?_
  | refine two ?_ ?_
  | (refine imp fun hc => ?_) <;> try exact cx hc
  | refine all fun v_ => ?_)
 all_goals ((with_reducible apply rq2); rfl; rfl; rfl)
 all_goals (refine ret_eq ?_; simp [partsOf, *])

theorem partsT_at (x : Int) (h1 : ¬ x < 1) (h2 : ¬ 18 < x) : partsT[x.toNat]? = some (.i .i64 (partsOf x).1) ∧ (partsOf x).2 = 0 := by
 have : x = 1 ∨ x = 2 ∨ x = 3 ∨ x = 4 ∨ x = 5 ∨ x = 6 ∨ x = 7 ∨ x = 8 ∨ x = 9 ∨ x = 10 ∨ x = 11 ∨ x = 12 ∨ x = 13 ∨ x = 14 ∨ x = 15 ∨ x = 16 ∨ x = 17 ∨ x = 18 := by omega
 rcases this with h | h | h | h | h | h | h | h | h | h | h | h | h | h | h | h | h | h <;> subst h <;> exact ⟨rfl, rfl⟩

theorem Parts (x : Int) : ACr Tryz.prog GP 188 [.int x] (.tup [.int (partsOf x).1, .int (partsOf x).2]) := by
 refine AC_of (ts := [2, 3]) 13 Tryz.func188 rfl rfl rfl (by simp) fun W I => ?_
 repeat' (first
  | exact True.intro
  | refine stp ?_
  | refine two ?_ ?_
  | (refine imp fun hc => ?_) <;> try exact cx hc
  | refine all fun v_ => ?_)
 · ((with_reducible apply rq2); rfl; rfl; rfl)
   refine ret_eq ?_
   rw [partsOf_no x (by omega)]
 · ((with_reducible apply rq2); rfl; rfl; rfl)
   refine ret_eq ?_
   rw [partsOf_no x (by omega)]
 · obtain ⟨h1, h2⟩ := partsT_at x (by omega) (by omega)
   refine jp (pure_load_at (c := .i .i64 (partsOf x).1) rfl rfl (by rw [List.getElem?_drop, Nat.mul_one]; exact h1)) rfl ?_
   repeat' (first
    | exact True.intro
    | refine stp ?_
    | refine two ?_ ?_
    | (refine imp fun hc => ?_) <;> try exact cx hc
    | refine all fun v_ => ?_)
   ((with_reducible apply rq2); rfl; rfl; rfl)
   refine ret_eq ?_
   rw [h2]; rfl

theorem armXT1_1 {p q : Prop} (hp : p) (h : p → q := by
 apply cmp; (focus (first
  | ((with_reducible apply call0); (focus rfl); (focus exact cal_PartsOf); (focus exact PartsOf _ _); (focus rfl))
  | ((with_reducible apply je_call0); (focus rfl); (focus (decide +kernel)); (focus rfl); (focus exact cal_PartsOf); (focus exact PartsOf _ _); (focus rfl))
  ))
 exact fun h => h) : q := h hp
theorem endOf (l : List Fo) (a : Int) (G : List (Nat × List D)) (h0 : 0 ≤ a) (ha : a ≤ 140737488355328) : ACr Tryz.prog G 148 [.d (opsD l), .int a] (.tup [.int (Sp.endOf l a).1, .int (Sp.endOf l a).2]) := by
 refine AC_of (ts := [4, 5]) 37 Tryz.func148 rfl rfl rfl (by simp) fun W I => ?_
 refine jfact (t := 0) rfl fun hl => ?_
 repeat' (first
  | refine armXT1_1 ?_
  | exact True.intro
  | refine stp ?_
  | refine two ?_ ?_
  | (refine imp fun hc => ?_) <;> try exact cx hc
  | refine all fun v_ => ?_)
 refine J_loop (X := Nat × Int) (fun p => [(0, .d (opsD l)), (6, .int p.2), (7, .int p.1)]) (fun _ => []) (fun p => a ≤ p.1 ∧ (p.1 ≤ l.length ∨ p.1 = a) ∧ 0 < p.2 ∧ p.2 ≤ 1 + (p.1 : Int) + (p.1 : Int) ∧ Sp.endOf l a = scan (l.drop p.1) p.2 p.1) (fun p => l.length - p.1) (a.toNat, 1) ?_ ?_ rfl ?_
 · refine ⟨by omega, by omega, by omega, by omega, ?_⟩
   simp only [Sp.endOf]; rw [Int.toNat_of_nonneg h0]
 · exact leD
 rintro ⟨i, w⟩ ⟨h1, h2, h3, h4, h5⟩
 dsimp only at h1 h2 h3 h4 h5 ⊢
 by_cases hi : i < l.length
 · have hd : l.drop i = l[i] :: l.drop (i + 1) := List.drop_eq_getElem_cons hi
   have hp := partsOf_le l[i].kind
   rw [hd, scan_cons] at h5
   repeat' (first
    | refine armXT1_1 ?_
    | exact True.intro
    | refine stp ?_
    | refine two ?_ ?_
    | (refine imp fun hc => ?_) <;> try exact cx hc
    | refine all fun v_ => ?_)
   · ((with_reducible apply rq2); rfl; rfl; rfl)
     refine ret_eq ?_
     rw [h5, if_pos hc]
   · ((with_reducible apply rq2); rfl; rfl; rfl)
     refine ret_eq ?_
     rw [h5, if_neg (by assumption), if_pos hc]
   · refine ⟨(i + 1, w + (partsOf l[i].kind).1 - 1), ⟨by omega, by omega, by dsimp only; omega, by dsimp only; omega, ?_⟩, by dsimp only; omega, ?_, rfl⟩
     · rw [h5, if_neg (by assumption), if_neg hc]; rfl
     · exact leD
 · repeat' (first
    | refine armXT1_1 ?_
    | exact True.intro
    | refine stp ?_
    | refine two ?_ ?_
    | (refine imp fun hc => ?_) <;> try exact cx hc
    | refine all fun v_ => ?_)
   ((with_reducible apply rq2); rfl; rfl; rfl)
   refine ret_eq ?_
   rw [h5, List.drop_eq_nil_of_le (by omega)]; rfl
end Go.Proofs.YtniklgkoiaeipaaGreatDoor
namespace Go.Proofs.YtniklgkoiaeipaaGreatDoor
open Go Go.Av Go.Sp
set_option linter.unusedVariables false
set_option linter.unusedSimpArgs false
set_option maxRecDepth 100000
set_option maxHeartbeats 4000000

theorem cal_skip : Cal Tryz.prog 141 := Cal.of Tryz.func141 (by kernel_rfl) (by kernel_rfl)
theorem cal_Ends1 : Cal Tryz.prog 140 := Cal.of Tryz.func140 (by kernel_rfl) (by kernel_rfl)
theorem cal_Ends : Cal Tryz.prog 92 := Cal.of Tryz.func92 (by kernel_rfl) (by kernel_rfl)

theorem ends1_idle (p q : Addr) (w : World) :
 CallsD Tryz.prog 140 #[.pointer (some p), .pointer (some q)] .returning w fun e u' w' => e = .returned (.tuple #[]) ∧ u' = .returning ∧ w' = w := by
 refine callsD_of_wpS Tryz.func140 rfl fun c₀ cs hu => ?_
 apply wpS_seq
 apply wpS_region
 simp [wpOpsS, go_sem, recoverD, hu, Tryz.ntmps140, Exit.thenS]
 apply wpS_seq
 apply wpS_region
 simp [wpOpsS, go_sem, Exit.thenS]
 refine wpS_cond (t := false) (by simp [Act.eval, Array.replicate]) ?_
 simp only [Bool.false_eq_true, if_false]
 refine wpS_of_wp (wp_skip ?_)
 cases c₀
 simp_all [bodyPostS, results, Tryz.results140]

theorem ends1_pan (b c : Nat) (hbc : b ≠ c) (x y : Value) (n : Int) (w : World) (hb : w.heap[b]? = some (.cells #[x] 33 (0, 0))) (hc : w.heap[c]? = some (.cells #[y] 36 (0, 0))) :
 CallsD Tryz.prog 140 #[.pointer (some ⟨b, 0, none⟩), .pointer (some ⟨c, 0, none⟩)] (.panicking [{ v := .iface 36 (.int .i64 n), recovered := false }]) w fun e u' w' =>
  e = .returned (.tuple #[]) ∧ u' = .panicking [{ v := .iface 36 (.int .i64 n), recovered := true }] ∧ w' = ((w.setCell ⟨b, 0, none⟩ (.slice none 0 0)).setCell ⟨c, 0, none⟩ (.int .i64 n)).drew := by
 refine callsD_of_wpS Tryz.func140 rfl fun c₀ cs hu => ?_
 apply wpS_seq
 apply wpS_region
 simp [wpOpsS, go_sem, recoverD, hu, Tryz.ntmps140, Exit.thenS]
 apply wpS_seq
 apply wpS_region
 simp [wpOpsS, go_sem, Exit.thenS]
 refine wpS_cond (t := true) (by simp [Act.eval, Array.replicate]) ?_
 simp only [if_true]
 refine wpS_of_wp ?_
 have hcb : w.cell? ⟨b, 0, none⟩ = some x := by rw [cell_of_row w b 0 _ _ _ hb]; rfl
 have hcc : w.cell? ⟨c, 0, none⟩ = some y := by rw [cell_of_row w c 0 _ _ _ hc]; rfl
 have fb : w.frozen? ⟨b, 0, none⟩ = false := by simp [World.frozen?, hb]
 have fc : w.frozen? ⟨c, 0, none⟩ = false := by simp [World.frozen?, hc]
 have hta : ∀ w : World, (Instr.typeAssert (.iface 36 (.int .i64 n)) 20 36 false).run Tryz.prog w = .ok (.int .i64 n) w := fun w => by
  simp [Instr.typeAssert, run_underlying Tryz.underlying36]
 go_region
 all_goals
  cases c₀
  simp_all [bodyPostS, results, Tryz.results140]

theorem ends1_cd_idle (p q : Addr) (h : H) : CD Tryz.prog 140 #[.pointer (some p), .pointer (some q)] .returning h h .returning :=
 fun _ _ w hok => (ends1_idle p q w).mono fun _ _ _ ⟨h1, h2, h3⟩ => ⟨h1, h2, h3 ▸ hok, fun _ _ => by rw [h3]⟩
theorem ends1_cd_pan (b c : Nat) (x y : AV) (n : Int) : CD Tryz.prog 140 #[.pointer (some ⟨b, 0, none⟩), .pointer (some ⟨c, 0, none⟩)] (.panicking [{ v := .iface 36 (.int .i64 n), recovered := false }])
 [.cells c 36 [y], .cells b 33 [x]] [.cells c 36 [.int n], .cells b 33 [.val (.slice none 0 0)]] (.panicking [{ v := .iface 36 (.int .i64 n), recovered := true }]) := by
 intro cx I w hok
 obtain ⟨u1, d1⟩ := Ent.cells_one (hok.ent (.cells b 33 [x]) (by simp))
 obtain ⟨u2, d2⟩ := Ent.cells_one (hok.ent (.cells c 36 [y]) (by simp))
 have hbc : b ≠ c := by
  have := hok.nd
  simp [blks, Ent.blk] at this
  exact fun e => this e.symm
 refine (ends1_pan b c hbc u1 u2 n w d1 d2).mono ?_
 rintro e u' w' ⟨h1, h2, rfl⟩
 obtain ⟨k1, k2⟩ := Ok.set1 (h1 := [.cells c 36 [y]]) (h2 := []) (v := .slice none 0 0) hok
 obtain ⟨k3, k4⟩ := Ok.set1 (h1 := []) (v := .int .i64 n) k1
 exact ⟨h1, h2, k3.same (Same.drewN 1), fun z hz => (k4 z hz).trans (k2 z hz)⟩

def skipQ (l : List Fo) (b b' i : Nat) (es : List Int) (e : AE) (h : H) : Prop :=
 ∃ es' : List Int, es'.length = l.length ∧ h = [.cells b 194 [.d (opsD l), .val (.slice (some ⟨b', 0, none⟩) l.length l.length)], .cells b' 3 (es'.map AV.int)] ∧
  ((∃ n : Nat, e = .ret (.int n) ∧ Sp.endOf l i = ((n : Int), 0) ∧ (∀ j, i ≤ j → j < n → (Sp.endOf l j).2 = 0 ∧ es'[j]? = some (Sp.endOf l j).1) ∧ ∀ j, (j < i ∨ n ≤ j) → es'[j]? = es[j]?) ∨
   ((Sp.endOf l i).2 ≠ 0 ∧ e = .pan [{ v := .iface 36 (.int .i64 (Sp.endOf l i).2), recovered := false }]))

theorem armXT2_1 {p q : Prop} (hp : p) (h : p → q := by
 apply cmp; (focus (first
  | ((with_reducible apply call0); (focus rfl); (focus exact cal_Parts); (focus exact Parts _); (focus rfl))
  | ((with_reducible apply je_call0); (focus rfl); (focus (decide +kernel)); (focus rfl); (focus exact cal_Parts); (focus exact Parts _); (focus rfl))
  ))
 exact fun h => h) : q := h hp
theorem skip (l : List Fo) (b b' : Nat) (hl : l.length ≤ 60) : ∀ (m i : Nat) (es : List Int), l.length ≤ i + m → es.length = l.length →
 AC Tryz.prog GP 141 [.val (.pointer (some ⟨b, 0, none⟩)), .int i] [.cells b 194 [.d (opsD l), .val (.slice (some ⟨b', 0, none⟩) l.length l.length)], .cells b' 3 (es.map AV.int)] (skipQ l b b' i es) := by
 have done : ∀ (i : Nat) (es : List Int), es.length = l.length → (l.length : Int) ≤ i → skipQ l b b' i es (.pan [{ v := .iface 36 (.int .i64 4), recovered := false }]) [.cells b 194 [.d (opsD l), .val (.slice (some ⟨b', 0, none⟩) l.length l.length)], .cells b' 3 (es.map AV.int)] := fun i es hes hi =>
  ⟨es, hes, rfl, .inr ⟨by rw [endOf_none l i (by omega)]; decide, by rw [endOf_none l i (by omega)]⟩⟩
 intro m
 induction m with
 | zero =>
   intro i es hm hes
   refine AC_of (ts := [4]) 49 Tryz.func141 rfl rfl rfl (by simp) fun W I => ?_
   repeat' (first
    | refine armXT2_1 ?_
    | exact True.intro
    | refine stp ?_
    | refine two ?_ ?_
    | (refine imp fun hc => ?_) <;> try exact cx hc
    | refine all fun v_ => ?_)
   exact done i es hes (by assumption)
 | succ m ih =>
   intro i es hm hes
   refine AC_of (ts := [4]) 49 Tryz.func141 rfl rfl rfl (by simp) fun W I => ?_
   repeat' (first
    | refine armXT2_1 ?_
    | exact True.intro
    | refine stp ?_
    | refine two ?_ ?_
    | (refine imp fun hc => ?_) <;> try exact cx hc
    | refine all fun v_ => ?_)
   · exact done i es hes (by assumption)
   · have he := endOf_at l i (by omega)
     rw [if_pos hc] at he
     exact ⟨es, hes, rfl, .inr ⟨by rw [he]; exact hc, by rw [he]⟩⟩
   have hi : i < l.length := by omega
   have he := endOf_at l i hi
   have hp := partsOf_le l[i].kind
   rw [if_neg hc] at he
   generalize hn : (partsOf l[i].kind).1 = n at he hp ⊢
   refine J_loop (X := Nat × Nat × List Int) (fun y => [(0, .val (.pointer (some ⟨b, 0, none⟩))), (1, .int i), (34, .int n), (35, .int y.1), (7, .int y.2.1)])
    (fun y => [.cells b 194 [.d (opsD l), .val (.slice (some ⟨b', 0, none⟩) l.length l.length)], .cells b' 3 (y.2.2.map AV.int)])
    (fun y => (y.1 : Int) ≤ n ∧ i < y.2.1 ∧ y.2.1 ≤ l.length ∧ y.2.2.length = l.length ∧ Sp.endOf l i = (if n - y.1 = 0 then ((y.2.1 : Int), 0) else scan (l.drop y.2.1) (n - y.1) y.2.1) ∧
     (∀ j, i < j → j < y.2.1 → (Sp.endOf l j).2 = 0 ∧ y.2.2[j]? = some (Sp.endOf l j).1) ∧ ∀ j, (j ≤ i ∨ y.2.1 ≤ j) → y.2.2[j]? = es[j]?)
    (fun y => n.toNat - y.1) (0, i + 1, es) ?_ ?_ rfl ?_
   · refine ⟨by omega, by dsimp only; omega, by dsimp only; omega, hes, ?_, fun j h1 h2 => by dsimp only at h2; omega, fun _ _ => rfl⟩
     rw [he]
     have : (1 : Int) + n - 1 = n - ((0 : Nat) : Int) := by omega
     dsimp only
     rw [this]
     rfl
   · exact leD
   rintro ⟨j, e, fs⟩ ⟨h1, h2, h3, h4, h5, h6, h7⟩
   dsimp only at h1 h2 h3 h4 h5 h6 h7 ⊢
   repeat' (first
    | refine armXT2_1 ?_
    | exact True.intro
    | refine stp ?_
    | refine two ?_ ?_
    | (refine imp fun hc => ?_) <;> try exact cx hc
    | refine all fun v_ => ?_)
   · refine callA rfl cal_skip (ih e fs (by omega) h4) rfl (fun r h' hq => ?_) (fun ch h' hq => ?_)
     · obtain ⟨es', k1, rfl, ⟨n', k2, k3, k4, k5⟩ | ⟨_, k2⟩⟩ := hq
       · cases k2
         repeat' (first
          | refine armXT2_1 ?_
          | exact True.intro
          | refine stp ?_
          | refine two ?_ ?_
          | (refine imp fun hc => ?_) <;> try exact cx hc
          | refine all fun v_ => ?_)
         have hb := endOf_bound l e (by rw [k3])
         rw [k3] at hb
         refine ⟨(j + 1, n', es'), ⟨by dsimp only; omega, by dsimp only at hb ⊢; omega, by dsimp only at hb ⊢; omega, k1, ?_, ?_, ?_⟩, by dsimp only; omega, ?_, rfl⟩
         · rw [h5, if_neg (by omega)]
           dsimp only
           by_cases hlast : n - ((j + 1 : Nat) : Int) = 0
           · rw [if_pos hlast]
             have : n - (j : Int) = 1 := by omega
             rw [this]
             have := k3
             unfold Sp.endOf at this
             rwa [Int.toNat_natCast] at this
           · rw [if_neg hlast]
             have : n - (j : Int) = (n - ((j + 1 : Nat) : Int)) + 1 := by omega
             rw [this, scan_next l e _ (by omega), k3]
             rfl
         · intro p hp1 hp2
           dsimp only at hp2 ⊢
           by_cases hpe : e ≤ p
           · exact k4 p hpe hp2
           · rw [k5 p (.inl (by omega))]
             exact h6 p hp1 (by omega)
         · intro p hp1
           dsimp only at hp1 ⊢
           dsimp only at hb
           rw [k5 p (by omega)]
           exact h7 p (by omega)
         · exact leD
       · cases k2
     · obtain ⟨es', k1, rfl, ⟨n', k2, k3, k4⟩ | ⟨k3, k2⟩⟩ := hq
       · cases k2
       · cases k2
         repeat' (refine stp ?_)
         refine ⟨es', k1, rfl, .inr ?_⟩
         have : (Sp.endOf l i).2 = (Sp.endOf l e).2 := by
          rw [h5, if_neg (by omega)]
          by_cases hlast : n - (j : Int) = 1
          · rw [hlast]; unfold Sp.endOf; rw [Int.toNat_natCast]
          · have h : n - (j : Int) = (n - ((j + 1 : Nat) : Int)) + 1 := by omega
            rw [h, scan_next l e _ (by omega), if_pos k3]
         rw [this]
         exact ⟨k3, rfl⟩
   · repeat' (first
      | refine armXT2_1 ?_
      | exact True.intro
      | refine stp ?_
      | refine two ?_ ?_
      | (refine imp fun hc => ?_) <;> try exact cx hc
      | refine all fun v_ => ?_)
     refine js_int (h1 := [_]) rfl rfl el_int rfl (by omega) ?_
     simp only [List.cons_append, List.nil_append, Int.toNat_natCast, Nat.mul_one]
     repeat' (first
      | refine armXT2_1 ?_
      | exact True.intro
      | refine stp ?_
      | refine two ?_ ?_
      | (refine imp fun hc => ?_) <;> try exact cx hc
      | refine all fun v_ => ?_)
     ((with_reducible apply rq1); rfl; rfl)
     have hz : n - (j : Int) = 0 := by omega
     rw [if_pos hz] at h5
     refine ⟨fs.set i e, by simpa using h4, rfl, .inl ⟨e, rfl, h5, fun p hp1 hp2 => ?_, fun p hp1 => ?_⟩⟩
     · by_cases hpi : p = i
       · subst hpi
         rw [h5]
         exact ⟨rfl, by rw [List.getElem?_set_self (by omega)]⟩
       · rw [List.getElem?_set_ne (by omega)]
         exact h6 p (by omega) hp2
     · rw [List.getElem?_set_ne (by omega)]
       exact h7 p (by omega)

theorem Ends (l : List Fo) : ACr Tryz.prog GP 92 [.d (opsD l)] (.tup [.d (intsD (endsOf l).1), .int (endsOf l).2]) := by
 refine AC_ofD 25 Tryz.func92 rfl rfl (by simp) fun W I => ?_
 apply J2_seq1
 repeat' (first
  | exact True.intro
  | refine stp ?_
  | refine two ?_ ?_
  | (refine imp fun hc => ?_) <;> try exact cx hc
  | refine all fun v_ => ?_)
 refine jalloc1 el_ints rfl rfl fun b2 => ?_
 refine jalloc1 el_Errno rfl rfl fun b3 => ?_
 repeat' (first
  | exact True.intro
  | refine stp ?_
  | refine two ?_ ?_
  | (refine imp fun hc => ?_) <;> try exact cx hc
  | refine all fun v_ => ?_)
 apply tq2_normal
 apply J2_seq1
 repeat' (first
  | exact True.intro
  | refine stp ?_
  | refine two ?_ ?_
  | (refine imp fun hc => ?_) <;> try exact cx hc
  | refine all fun v_ => ?_)
 · refine js_one (h1 := [_]) rfl rfl rfl el_ints rfl ?_
   simp only [List.cons_append, List.nil_append]
   refine js_one (h1 := []) rfl rfl rfl el_Errno rfl ?_
   simp only [List.nil_append]
   repeat' (first
    | exact True.intro
    | refine stp ?_
    | refine two ?_ ?_
    | (refine imp fun hc => ?_) <;> try exact cx hc
    | refine all fun v_ => ?_)
   apply tq2_ret
   refine LQ_cells2 rfl (by unfold isAggB; kernel_rfl) (by unfold isAggB; kernel_rfl) rfl rfl (List.mem_cons_of_mem _ List.mem_cons_self) List.mem_cons_self rfl (List.nil_sublist _) (AV.le_nil 1 8) (AV.le_refl _) ?_
   refine ret_eq ?_
   rw [endsOf, if_pos (by omega)]; rfl
 apply tq2_normal
 dsimp only
 refine J2_seq (J2_defer (vs := [.pointer (some ⟨b2, 0, none⟩), .pointer (some ⟨b3, 0, none⟩)]) rfl rfl ?_)
 apply tq2_normal
 dsimp only
 apply J2_seq1
 repeat' (first
  | exact True.intro
  | refine stp ?_
  | refine two ?_ ?_
  | (refine imp fun hc => ?_) <;> try exact cx hc
  | refine all fun v_ => ?_)
 refine jmake_int rfl rfl el_int (by omega) (by omega) rfl fun b' => ?_
 repeat' (first
  | exact True.intro
  | refine stp ?_
  | refine two ?_ ?_
  | (refine imp fun hc => ?_) <;> try exact cx hc
  | refine all fun v_ => ?_)
 refine jbox rfl rfl rfl fun b => ?_
 repeat' (first
  | exact True.intro
  | refine stp ?_
  | refine two ?_ ?_
  | (refine imp fun hc => ?_) <;> try exact cx hc
  | refine all fun v_ => ?_)
 apply tq2_normal
 dsimp only
 apply J2_seq1
 repeat' (first
  | exact True.intro
  | refine stp ?_
  | refine two ?_ ?_
  | (refine imp fun hc => ?_) <;> try exact cx hc
  | refine all fun v_ => ?_)
 have hk : AC Tryz.prog GP 141 [.val (.pointer (some ⟨b, 0, none⟩)), .int 0] [.cells b 194 [.d (opsD l), .val (.slice (some ⟨b', 0, none⟩) l.length l.length)], .cells b' 3 ((List.replicate l.length 0).map AV.int)] (skipQ l b b' 0 (List.replicate l.length 0)) :=
  skip l b b' (by omega) l.length 0 (List.replicate l.length 0) (by omega) (by simp)
 have pan : ∀ (n : Int) (ρ : Env) (es : List Int), n = (endsOf l).2 → (endsOf l).1 = [] →
  LQ ⟨Tryz.prog, ⟨W, I, [], GP⟩, 25, [{ target := .fn (.func 140) #[.pointer (some ⟨b2, 0, none⟩), .pointer (some ⟨b3, 0, none⟩)], args := #[] }]⟩ Tryz.f92
   (ACpost GP W I [] fun e h => e = .ret (.tup [.d (intsD (endsOf l).1), .int (endsOf l).2]) ∧ h = []) (some (.panicking [{ v := .iface 36 (.int .i64 n), recovered := false }]))
   ((2, .val (.pointer (some ⟨b2, 0, none⟩))) :: (3, .val (.pointer (some ⟨b3, 0, none⟩))) :: ρ)
   [.cells b 194 [.d (opsD l), .val (.slice (some ⟨b', 0, none⟩) l.length l.length)], .cells b' 3 (es.map AV.int), .cells b3 36 [.val (.int .i64 0)], .cells b2 33 [.val (.slice none 0 0)]]
   [{ target := .fn (.func 140) #[.pointer (some ⟨b2, 0, none⟩), .pointer (some ⟨b3, 0, none⟩)], args := #[] }] := by
  intro n ρ es h1 h2
  refine LQ_vs (VS.drop (h' := [.cells b3 36 [.val (.int .i64 0)], .cells b2 33 [.val (.slice none 0 0)]]) (.cons _ (.cons _ (.refl _)))) ?_
  refine LQ_defer (by simp) cal_Ends1 (ends1_cd_pan b2 b3 _ _ n) (m := .returning) rfl ?_
  refine LQ_cells2 (h0 := []) (y1 := .d (intsD [])) rfl (by unfold isAggB; kernel_rfl) (by unfold isAggB; kernel_rfl) rfl rfl (List.mem_cons_of_mem _ List.mem_cons_self) List.mem_cons_self rfl (List.nil_sublist _) (AV.le_nil 1 8) (AV.le_refl _) ?_
  refine ret_eq ?_
  rw [h1, h2]
 have h60 : ¬ 60 < l.length := by omega
 refine callw (hc := [_, _]) rfl cal_skip rfl hk rfl (fun r h' hq => ?_) (fun ch h' hq => ?_)
 · obtain ⟨es', k1, rfl, ⟨n', k2, k3, k4, k5⟩ | ⟨_, k2⟩⟩ := hq
   · cases k2
     have hb := endOf_bound l 0 (by rw [show ((0 : Nat) : Int) = 0 from rfl]; rw [show ((0 : Nat) : Int) = 0 from rfl] at k3; rw [k3])
     rw [show ((0 : Nat) : Int) = 0 from rfl] at k3 hb
     rw [k3] at hb
     simp only [List.cons_append, List.nil_append]
     repeat' (first
      | exact True.intro
      | refine stp ?_
      | refine two ?_ ?_
      | (refine imp fun hc => ?_) <;> try exact cx hc
      | refine all fun v_ => ?_)
     · apply tq2_panic
       dsimp only at hb
       have h3 : (endsOf l) = ([], 3) := by rw [endsOf, if_neg h60, k3, if_neg (by simp), if_pos (by dsimp only; omega)]
       refine LQ_vs (VS.of_le ?_) (pan _ [] es' ?_ ?_)
       · exact leD
       · rw [h3]
       · rw [h3]
     · have hn : n' = l.length := by omega
       have he : es' = (List.range l.length).map fun i : Nat => (Sp.endOf l i).1 := by
        apply List.ext_getElem?
        intro j
        by_cases hj : j < l.length
        · rw [(k4 j (Nat.zero_le _) (by omega)).2, List.getElem?_map, List.getElem?_range hj]; rfl
        · rw [List.getElem?_eq_none (by omega), List.getElem?_eq_none (by simp; omega)]
       have h3 : (endsOf l) = (es', 0) := by rw [endsOf, if_neg h60, k3, if_neg (by simp), if_neg (by dsimp only; omega), he]
       apply tq2_normal
       dsimp only
       apply J2_of
       repeat' (first
        | exact True.intro
        | refine stp ?_
        | refine two ?_ ?_
        | (refine imp fun hc => ?_) <;> try exact cx hc
        | refine all fun v_ => ?_)
       refine JL_vs (VS.freezeCells (t := 24) (h1 := [_]) (rows := es'.map intC) (sz := 1) (eb := 8) (by decide) rfl rfl (ints_flat es') (by simp [k1]) (by simp [intC]) (by omega) (by simp only [maxLen]; omega)) ?_
       simp only [List.cons_append, List.nil_append]
       refine js_one (h1 := [_, _]) rfl rfl rfl el_ints rfl ?_
       simp only [List.cons_append, List.nil_append]
       refine js_one (h1 := [_]) rfl rfl rfl el_Errno rfl ?_
       simp only [List.cons_append, List.nil_append]
       repeat' (first
        | exact True.intro
        | refine stp ?_
        | refine two ?_ ?_
        | (refine imp fun hc => ?_) <;> try exact cx hc
        | refine all fun v_ => ?_)
       refine LQ_defer (by simp) cal_Ends1 (ends1_cd_idle _ _ _) (m := .returning) rfl ?_
       refine LQ_cells2 (h0 := []) rfl (by unfold isAggB; kernel_rfl) (by unfold isAggB; kernel_rfl) rfl rfl (List.mem_cons_of_mem _ (List.mem_cons_of_mem _ List.mem_cons_self)) (List.mem_cons_of_mem _ List.mem_cons_self) rfl (List.nil_sublist _) (AV.le_refl _) (AV.le_refl _) ?_
       refine ret_eq ?_
       rw [h3]
   · cases k2
 · obtain ⟨es', k1, rfl, ⟨n', k2, k3, k4⟩ | ⟨k3, k2⟩⟩ := hq
   · cases k2
   · cases k2
     have k3 : (Sp.endOf l 0).2 ≠ 0 := k3
     repeat' (refine stp ?_)
     apply tq2_panic
     refine LQ_vs (VS.of_le ?_) (pan _ [] es' ?_ ?_)
     · exact leD
     · rw [endsOf, if_neg h60, if_pos k3]; rfl
     · rw [endsOf, if_neg h60, if_pos k3]
end Go.Proofs.YtniklgkoiaeipaaGreatDoor
namespace Go.Proofs.YtniklgkoiaeipaaGreatDoor
open Go Go.Av Go.Sp
set_option linter.unusedVariables false
set_option linter.unusedSimpArgs false
set_option maxRecDepth 100000
set_option maxHeartbeats 4000000

theorem cal_In : Cal Tryz.prog 64 := Cal.of Tryz.func64 (by kernel_rfl) (by kernel_rfl)
theorem cal_ops : Cal Tryz.prog 41 := Cal.of Tryz.func41 (by kernel_rfl) (by kernel_rfl)
theorem cal_sameInts : Cal Tryz.prog 56 := Cal.of Tryz.func56 (by kernel_rfl) (by kernel_rfl)
theorem cal_sameOps : Cal Tryz.prog 59 := Cal.of Tryz.func59 (by kernel_rfl) (by kernel_rfl)
theorem cal_sameTerms : Cal Tryz.prog 58 := Cal.of Tryz.func58 (by kernel_rfl) (by kernel_rfl)
theorem ACr_true {P : Program} {G : List (Nat × List D)} {f : FuncId} {xs : List AV} {p : Prop} [Decidable p] (h : ACr P G f xs (.bool (decide p))) (hp : p) : ACr P G f xs (.bool true) := by rwa [decide_eq_true hp] at h
theorem ACr_false {P : Program} {G : List (Nat × List D)} {f : FuncId} {xs : List AV} {p : Prop} [Decidable p] (h : ACr P G f xs (.bool (decide p))) (hp : ¬ p) : ACr P G f xs (.bool false) := by rwa [decide_eq_false hp] at h
theorem In (G : List (Nat × List D)) (x a b : Int) : ACr Tryz.prog G 64 [.int x, .int a, .int b] (.bool (decide (a ≤ x ∧ x ≤ b))) := by
 refine AC_of (ts := [6]) 15 Tryz.func64 rfl rfl rfl (by simp) fun W I => ?_
 repeat' (first
  | exact True.intro
  | refine stp ?_
  | refine two ?_ ?_
  | (refine imp fun hc => ?_) <;> try exact cx hc
  | refine all fun v_ => ?_)
 all_goals
  ((with_reducible apply rq1); rfl; rfl)
  refine ret_eq (congrArg AV.bool ?_)
  (first | rfl | (refine decide_eq_decide.2 ?_; omega) | (refine (decide_eq_true ?_).symm; omega) | (refine (decide_eq_false ?_).symm; omega) | (refine decide_eq_true ?_; omega) | (refine decide_eq_false ?_; omega))
theorem ops (G : List (Nat × List D)) (a : List Fo) (ha : a.length * 16 ≤ 140737488355328) : ACr Tryz.prog G 41 [.d (opsD a)] (.d (opsD a)) := by
 refine AC_ofV (ts := [2]) 5 Tryz.func41 rfl rfl rfl (by simp) fun W I => ?_
 repeat' (first
  | exact True.intro
  | refine stp ?_
  | refine two ?_ ?_
  | (refine imp fun hc => ?_) <;> try exact cx hc
  | refine all fun v_ => ?_)
 refine retv0 ?_
 ((with_reducible apply rq1); rfl; rfl)
 exact ret_eq rfl
theorem opsU (G : List (Nat × List D)) (a : List Fo) : ACr Tryz.prog G 41 [.d (opsD a)] (.d (opsD a)) := AC.fact fun h => ops G a h
theorem sameInts (G : List (Nat × List D)) (a b : List Int) : ACr Tryz.prog G 56 [.d (intsD a), .d (intsD b)] (.bool (decide (a = b))) := by
 refine AC_of (ts := [4]) 26 Tryz.func56 rfl rfl rfl (by simp) fun W I => ?_
 refine jfact (t := 0) rfl fun hl0 => ?_
 refine jfact (t := 1) rfl fun hl1 => ?_
 repeat' (first
  | exact True.intro
  | refine stp ?_
  | refine two ?_ ?_
  | (refine imp fun hc => ?_) <;> try exact cx hc
  | refine all fun v_ => ?_)
 · ((with_reducible apply rq1); rfl; rfl)
   refine ret_eq ?_
   rw [decide_eq_false]
   intro e; subst e; omega
 refine J_loop (X := Nat) (fun i => [(0, .d (intsD a)), (1, .d (intsD b)), (5, .int i)]) (fun _ => []) (fun i => i ≤ a.length ∧ a.take i = b.take i) (fun i => a.length - i) 0 ⟨Nat.zero_le _, rfl⟩ ?_ rfl ?_
 · exact leD
 rintro i ⟨h1, h2⟩
 repeat' (first
  | exact True.intro
  | refine stp ?_
  | refine two ?_ ?_
  | (refine imp fun hc => ?_) <;> try exact cx hc
  | refine all fun v_ => ?_)
 all_goals first
  | (((with_reducible apply rq1); rfl; rfl)
     refine ret_eq ?_
     rw [decide_eq_false]
     intro e; subst e
     exact hc rfl)
  | (refine ⟨i + 1, ⟨by omega, take_step (by omega) (by omega) h2 ?_⟩, by first | omega | (dsimp only; omega), ?_, rfl⟩
     · simpa using hc
     · exact leD)
  | (((with_reducible apply rq1); rfl; rfl)
     refine ret_eq ?_
     rw [decide_eq_true]
     rwa [List.take_of_length_le (by omega), List.take_of_length_le (by omega)] at h2)
theorem sameOps (G : List (Nat × List D)) (a b : List Fo) : ACr Tryz.prog G 59 [.d (opsD a), .d (opsD b)] (.bool (decide (a = b))) := by
 refine AC_of (ts := [4]) 26 Tryz.func59 rfl rfl rfl (by simp) fun W I => ?_
 refine jfact (t := 0) rfl fun hl0 => ?_
 refine jfact (t := 1) rfl fun hl1 => ?_
 repeat' (first
  | exact True.intro
  | refine stp ?_
  | refine two ?_ ?_
  | (refine imp fun hc => ?_) <;> try exact cx hc
  | refine all fun v_ => ?_)
 · ((with_reducible apply rq1); rfl; rfl)
   refine ret_eq ?_
   rw [decide_eq_false]
   intro e; subst e; omega
 refine J_loop (X := Nat) (fun i => [(0, .d (opsD a)), (1, .d (opsD b)), (5, .int i)]) (fun _ => []) (fun i => i ≤ a.length ∧ a.take i = b.take i) (fun i => a.length - i) 0 ⟨Nat.zero_le _, rfl⟩ ?_ rfl ?_
 · exact leD
 rintro i ⟨h1, h2⟩
 repeat' (first
  | exact True.intro
  | refine stp ?_
  | refine two ?_ ?_
  | (refine imp fun hc => ?_) <;> try exact cx hc
  | refine all fun v_ => ?_)
 all_goals first
  | (((with_reducible apply rq1); rfl; rfl)
     refine ret_eq ?_
     rw [decide_eq_false]
     intro e; subst e
     simp at hc)
  | (refine ⟨i + 1, ⟨by omega, take_step (by omega) (by omega) h2 ?_⟩, by first | omega | (dsimp only; omega), ?_, rfl⟩
     · (simp only [Bool.and_eq_true, beq_iff_eq] at hc; exact Fo.ext' hc.1 hc.2)
     · exact leD)
  | (((with_reducible apply rq1); rfl; rfl)
     refine ret_eq ?_
     rw [decide_eq_true]
     rwa [List.take_of_length_le (by omega), List.take_of_length_le (by omega)] at h2)
end Go.Proofs.YtniklgkoiaeipaaGreatDoor
namespace Go.Proofs.YtniklgkoiaeipaaGreatDoor
open Go Go.Av Go.Sp
set_option linter.unusedVariables false
set_option linter.unusedSimpArgs false
set_option maxRecDepth 100000
set_option maxHeartbeats 4000000

theorem cal_EndsOf : Cal Tryz.prog 144 := Cal.of Tryz.func144 (by kernel_rfl) (by kernel_rfl)

theorem armXT3_1 {p q : Prop} (hp : p) (h : p → q := by
 apply cmp; (focus (first
  | ((with_reducible apply call0); (focus rfl); (focus exact cal_endOf); (focus exact endOf _ _ _ (by omega) (by omega)); (focus rfl))
  | ((with_reducible apply je_call0); (focus rfl); (focus (decide +kernel)); (focus rfl); (focus exact cal_endOf); (focus exact endOf _ _ _ (by omega) (by omega)); (focus rfl))
  ))
 exact fun h => h) : q := h hp
theorem EndsOf (G : List (Nat × List D)) (l : List Fo) : ACr Tryz.prog G 144 [.d (opsD l)] (.tup [.d (intsD (endsOf l).1), .int (endsOf l).2]) := by
 refine AC_ofV (ts := [2, 3]) 42 Tryz.func144 rfl rfl rfl (by simp) fun W I => ?_
 repeat' (first
  | refine armXT3_1 ?_
  | exact True.intro
  | refine stp ?_
  | refine two ?_ ?_
  | (refine imp fun hc => ?_) <;> try exact cx hc
  | refine all fun v_ => ?_)
 · refine retv (vnil (t := 2) 1 8 rfl) ?_
   ((with_reducible apply rq2); rfl; rfl; rfl)
   refine ret_eq ?_
   rw [endsOf, if_pos (by omega)]; rfl
 · refine retv (vnil (t := 2) 1 8 rfl) ?_
   ((with_reducible apply rq2); rfl; rfl; rfl)
   refine ret_eq ?_
   rw [endsOf, if_neg (by omega), if_pos (by assumption)]; rfl
 · refine retv (vnil (t := 2) 1 8 rfl) ?_
   ((with_reducible apply rq2); rfl; rfl; rfl)
   refine ret_eq ?_
   rw [endsOf, if_neg (by omega), if_neg (by assumption), if_pos (by assumption)]; rfl
 have h60 : ¬ 60 < l.length := by omega
 refine jrow (E := 3) (sz := 1) intC ?_
 refine J_loop (X := Nat × Value) (fun y => [(0, .d (opsD l)), (6, .val y.2), (7, .int y.1)]) (fun y => [rowE y.2 3 1 intC ((List.range y.1).map fun i : Nat => (Sp.endOf l i).1)]) (fun y => y.1 ≤ l.length) (fun y => l.length - y.1) (0, .slice none 0 0) (Nat.zero_le _) ?_ rfl ?_
 · exact leD
 rintro ⟨i, v⟩ h1
 dsimp only at h1 ⊢
 have hlen : ((List.range i).map fun i : Nat => (Sp.endOf l i).1).length = i := by simp
 repeat' (first
  | refine armXT3_1 ?_
  | exact True.intro
  | refine stp ?_
  | refine two ?_ ?_
  | (refine imp fun hc => ?_) <;> try exact cx hc
  | refine all fun v_ => ?_)
 · refine ⟨(i + 1, v_), by dsimp only; omega, by dsimp only; omega, ?_, ?_⟩
   · exact leD
   · dsimp only
     rw [List.range_succ, List.map_append]; rfl
 · refine retv (vfreeze (t := 2) (eb := 8) rfl rfl (fun x => rfl) (by rw [hlen]; omega)) ?_
   ((with_reducible apply rq2); rfl; rfl; rfl)
   refine ret_eq ?_
   have : i = l.length := by omega
   rw [endsOf, if_neg h60, if_neg (by assumption), if_neg (by assumption), this]
end Go.Proofs.YtniklgkoiaeipaaGreatDoor
