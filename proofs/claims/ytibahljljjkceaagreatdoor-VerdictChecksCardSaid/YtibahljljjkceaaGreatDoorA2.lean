/- A bundle of this claim's own texts: E3 E4 El St T1 T2 T0. -/
import Derived.Laws.BitsLemmas
import Derived.Laws.BytesString
import Derived.Test.YtibahljljjkceaaGreatDoorProg
import Derived.RegionTactic
import Derived.Test.YtibahljljjkceaaGreatDoorA1
set_option linter.unusedVariables false
set_option linter.unusedSimpArgs false
set_option maxRecDepth 100000
set_option maxHeartbeats 4000000
namespace Go.Av
open Go

section
variable {k : Kx} {Q : Exit → Env → H → Prop} {ρ ρ' : Env} {h h1 h2 : H} {ops : Array Oper} {l : List Oper} {d : Nat} {dst : Option Tmp} {ty : TypeId} {pos : String} {after : Array Edge} {g : Option (Nat × Bool)} {e1 e2 e3 e4 : Ent}
theorem OO {r : AV} (hs : r.flat = true) : r.cl = [r] ∧ r.stor = true := by cases r <;> first | exact ⟨rfl, hs⟩ | cases hs
theorem Q7 {T T0 : TypeId} {x y : Operand} {b off : Nat} {r : AV} {vs : List AV} {z : Value} {eb : Nat} (hx : evO ρ x = some (.val (.pointer (some ⟨b, off, none⟩)))) (hy : evO ρ y = some r) (hs : r.flat = true) (hE : El k.P T z 1 eb) (hh : h = h1 ++ .cells b T0 vs :: h2) (hl : off < vs.length)
 (hj : JL k ops l Q ρ (h1 ++ .cells b T0 (vs.set off r) :: h2)) : JL k ops (⟨none, .store T x y, ty, pos, after, none⟩ :: l) Q ρ h := by
 obtain ⟨hcl, hst⟩ := OO hs
 refine HT (off := off) (r := r) (vs := vs) (AF hx) (AF hy) hst hE (by rw [hcl]; rfl) hh (by rw [hcl]; simp; omega) ?_
 rw [hcl, H3 _ _ _ hl]
 exact hj
theorem Zs {α : Type} {f : α → AV} {T T0 : TypeId} {x y : Operand} {b off : Nat} {a : α} {vs : List α} {z : Value} {eb : Nat} (hx : evO ρ x = some (.val (.pointer (some ⟨b, off, none⟩)))) (hh : h = h1 ++ .cells b T0 (vs.map f) :: h2) (hy : evO ρ y = some (f a)) (hs : (f a).flat = true) (hE : El k.P T z 1 eb) (hl : off < vs.length)
 (hj : JL k ops l Q ρ (h1 ++ .cells b T0 ((vs.set off a).map f) :: h2)) : JL k ops (⟨none, .store T x y, ty, pos, after, none⟩ :: l) Q ρ h := by
 refine Q7 hx hy hs hE hh (by simpa using hl) ?_
 rw [List.map_set] at hj
 exact hj
theorem WZ {T : TypeId} {z : Value} {eb : Nat} (hz : El k.P T z 1 eb) (h1 : z.oneCell' = true) (hd : Nat.blt d k.n = true)
 (hj : All fun b => JL k ops l Q ((d, .val (.pointer (some ⟨b, 0, none⟩))) :: ρ) (.cells b T [.val z] :: h)) : JL k ops (⟨some d, .alloc T, ty, pos, after, none⟩ :: l) Q ρ h := OB hz h1 hd hj.get
theorem jmk {α : Type} (f : α → AV) (a : α) {z : Value} {T E : TypeId} {x : Operand} {n : Nat} {eb : Nat} (hx : evO ρ x = some (.int n)) (hT : k.P.underlying T = some (.slice E)) (hz : El k.P E z 1 eb) (hz1 : z.oneCell' = true) (hf : f a = .val z) (hb : eb * n ≤ 281474976710656) (hm : n ≤ 9223372036854775807) (hd : Nat.blt d k.n = true)
 (hj : All fun b => JL k ops l Q ((d, .val (.slice (some ⟨b, 0, none⟩) n n)) :: ρ) (.cells b E ((List.replicate n a).map f) :: h)) : JL k ops (⟨some d, .makeSlice T x x, ty, pos, after, none⟩ :: l) Q ρ h :=
 R7 hT hz hz1 (AF hx) hb hm (fun t ht => by cases ht; exact blt hd) fun b => by have := hj.get b; rwa [List.map_replicate, hf] at this
theorem Wh {T E : TypeId} {x : Operand} {n : Nat} {eb : Nat} (hx : evO ρ x = some (.int n)) (hT : k.P.underlying T = some (.slice E)) (hz : El k.P E (.bool false) 1 eb) (hb : eb * n ≤ 281474976710656) (hm : n ≤ 9223372036854775807) (hd : Nat.blt d k.n = true)
 (hj : All fun b => JL k ops l Q ((d, .val (.slice (some ⟨b, 0, none⟩) n n)) :: ρ) (.cells b E ((List.replicate n false).map AV.bool) :: h)) : JL k ops (⟨some d, .makeSlice T x x, ty, pos, after, none⟩ :: l) Q ρ h :=
 jmk AV.bool false hx hT hz rfl rfl hb hm hd hj
theorem XX {T E : TypeId} {x : Operand} {n : Nat} {eb : Nat} (hx : evO ρ x = some (.int n)) (hT : k.P.underlying T = some (.slice E)) (hz : El k.P E (.int .i64 0) 1 eb) (hb : eb * n ≤ 281474976710656) (hm : n ≤ 9223372036854775807) (hd : Nat.blt d k.n = true)
 (hj : All fun b => JL k ops l Q ((d, .val (.slice (some ⟨b, 0, none⟩) n n)) :: ρ) (.cells b E ((List.replicate n 0).map AV.int) :: h)) : JL k ops (⟨some d, .makeSlice T x x, ty, pos, after, none⟩ :: l) Q ρ h :=
 jmk AV.int 0 hx hT hz rfl rfl hb hm hd hj
end

theorem Ey (n : Int) (h0 : 0 ≤ n) (h1 : n < 2 ^ 63) : IntKind.i64.wrap n = n := Gg (by unfold A9; omega)
theorem Zo {m : Int} (h0 : 0 ≤ m) (h1 : m ≤ 9223372036854775807) : bits .and .i64 m 1 = m % 2 := bits_mask .i64 63 (by decide) Ey 1 (by decide) m h0 (by omega)
theorem XU {x y : Int} (j : Nat) (hx0 : 0 ≤ x) (hx : x < 2 ^ j) (hy0 : 0 ≤ y) (hy : y % 2 ^ j = 0) (hj : (2 : Int) ^ j < 2 ^ 63) (hy1 : y < 2 ^ 63) : bits .or .i64 x y = x + y := by
 obtain ⟨a, rfl⟩ := Int.eq_ofNat_of_zero_le hx0
 obtain ⟨b, rfl⟩ := Int.eq_ofNat_of_zero_le hy0
 have ha : a < 2 ^ 63 := by have := Int.lt_trans hx hj; exact_mod_cast this
 have hb : b < 2 ^ 63 := by exact_mod_cast hy1
 have e1 := (bits_nat .i64 63 (by decide) Ey a b ha hb).2
 have e2 := (bits_nat .i64 63 (by decide) Ey b a hb ha).2
 have e3 := bits_join .i64 63 (by decide) Ey j (b : Int) (a : Int) hy0 hy hy1 hx0 hx (Int.lt_trans hx hj)
 rw [e2] at e3
 rw [e1, Nat.or_comm, e3, Int.add_comm]
theorem vfz {α : Type} {f : α → List D} {g : α → AV} {xs : List α} {ρ : Env} {h h1 h2 : H} {t b n : Nat} {E : TypeId} (sz eb : Nat) (h0 : Nat.blt 0 sz = true) (ht : Fg ρ t = some (.val (.slice (some ⟨b, 0, none⟩) n n))) (hh : h = h1 ++ .cells b E (xs.map g) :: h2)
 (hv : xs.map g = ((xs.map f).flatten).map D.av) (hn : xs.length = n) (hsz : ∀ a, (f a).length = sz) (hb : n * eb ≤ 140737488355328) (hm : n ≤ 140737488355328) : VS ρ h ((t, .d (.l sz eb (xs.map f))) :: ρ) [] :=
 VS.trans (VS.freezeCells (blt h0) (BU ht) hh hv (by simpa using hn) (fun r hr => by obtain ⟨a, _, rfl⟩ := List.mem_map.1 hr; exact hsz a) hb (by simpa [maxLen] using Nat.le_trans hm (by decide))) (VS.drop (List.nil_sublist _))

def LD (tmps : Array Value) : ResultVar → Sem Value
 | .tmp t => pure (tmps.getD t undef)
 | .cell a t => do loadVar t (← asAddr (tmps.getD a undef))
def RV1 (P : Program) (G : List (Nat × List D)) (ρ : Env) (h : H) (r : ResultVar) (x : AV) : Prop :=
 ∀ (c : Cx) (I : Nat → Prop) (n : Nat) (a : Act) (w : World), c.G = G → Ok c I h w → SF n w I ρ a → ∃ v, AV.rel w I x v ∧ (LD a.tmps r).run P w = .ok v w
def RVs (P : Program) (G : List (Nat × List D)) (ρ : Env) (h : H) : List ResultVar → List AV → Prop
 | [], [] => True
 | r :: rs, x :: xs => RV1 P G ρ h r x ∧ RVs P G ρ h rs xs
 | _, _ => False
def Kq : List AV → AV
 | [x] => x
 | xs => .tup xs
theorem JM {P : Program} {G : List (Nat × List D)} {ρ : Env} {h : H} {c : Cx} {I : Nat → Prop} {n : Nat} {a : Act} {w : World} (hG : c.G = G) (k : Ok c I h w) (s : SF n w I ρ a) : ∀ {rs : List ResultVar} {xs : List AV}, RVs P G ρ h rs xs →
 ∃ vs, (List.mapM (LD a.tmps) rs).run P w = .ok vs w ∧ AV.rels w I xs vs
 | [], [], _ => ⟨[], rfl, trivial⟩
 | r :: rs, x :: xs, ⟨h1, h2⟩ => by
   obtain ⟨v, e1, e2⟩ := h1 c I n a w hG k s
   obtain ⟨vs, f1, f2⟩ := JM hG k s h2
   refine ⟨v :: vs, ?_, e1, f2⟩
   rw [List.mapM_cons]
   simp only [Sem.run_bind, Sem.run_pure, Result.andThen_ok, e2, f1]
theorem OF {P : Program} {fn : Func} {rs : List ResultVar} (hr : fn.results = rs.toArray) {tmps : Array Value} {w : World} {vs : List Value} (hm : (List.mapM (LD tmps) rs).run P w = .ok vs w) :
 (results fn tmps).run P w = .ok (if h : vs.toArray.size = 1 then vs.toArray[0] else .tuple vs.toArray) w := by
 have e : (fun (x : ResultVar) => (match x with | .tmp t => pure (tmps.getD t undef) | .cell a t => do loadVar t (← asAddr (tmps.getD a undef)) : Sem Value)) = LD tmps := by
  funext x; cases x <;> rfl
 unfold results
 rw [hr]
 simp only [List.mapM_toArray, Sem.run_bind, Sem.run_map]
 erw [e]
 rw [hm]
 rfl
def YP (P : Program) (G : List (Nat × List D)) (rs : List ResultVar) (Q : AE → H → Prop) (e : Exit) (ρ : Env) (h : H) : Prop :=
 match e with
 | .normal => ∃ ρ1 h1 xs h', VS ρ h ρ1 h1 ∧ RVs P G ρ1 h1 rs xs ∧ List.Sublist h' h1 ∧ Q (.ret (Kq xs)) h'
 | .ret => ∃ ρ1 h1 xs h', VS ρ h ρ1 h1 ∧ RVs P G ρ1 h1 rs xs ∧ List.Sublist h' h1 ∧ Q (.ret (Kq xs)) h'
 | .panic ch => Q (.pan ch) h
 | _ => False
theorem XS {w : World} {I : Nat → Prop} {xs : List AV} {vs : List Value} (h : AV.rels w I xs vs) : AV.rel w I (Kq xs) (if h : vs.toArray.size = 1 then vs.toArray[0] else .tuple vs.toArray) := by
 match xs, vs, h with
 | [], [], _ => exact ⟨[], rfl, trivial⟩
 | [x], [v], h => exact h.1
 | x :: y :: xs, u :: v :: vs, h =>
   rw [dif_neg (by simp)]
   exact ⟨_, rfl, h⟩
theorem Ok.sub {c : Cx} {I : Nat → Prop} {h h' : H} {w : World} (h1 : Ok c I h w) (hs : List.Sublist h' h) : Ok c I h' w :=
 { ent := fun e he => h1.ent e (hs.subset he), nd := h1.nd.sublist (Ba hs), imm := fun b hb => ⟨(h1.imm b hb).1, fun hm => (h1.imm b hb).2 ((Ba hs).subset hm)⟩,
   new := fun b hb => h1.new b ((Ba hs).subset hb), inew := h1.inew, sup := h1.sup, os := h1.os, tape := h1.tape, output := h1.output, size := h1.size, keep := h1.keep, glob := h1.glob }
theorem Ec {P : Program} {G : List (Nat × List D)} {f : FuncId} {fn : Func} {c : Code} {args : List AV} {h : H} {Q : AE → H → Prop} {rs : List ResultVar} (n : Nat) (hf : P.funcs[f]? = some fn) (hb : fn.body = some c) (hn : fn.ntmps = n) (hr : fn.results = rs.toArray) (ha : args.length ≤ n)
 (hj : ∀ W I, J ⟨P, ⟨W, I, blks h, G⟩, n, []⟩ c (YP P G rs Q) (EO 0 args) h) : AC P G f args h Q := by
 intro I W vs h1 h2 h3 hG h4
 have hlen := AV.rels_length h4
 refine calls_of_wp hf hb ?_
 have hok : Ok ⟨W, I, blks h, G⟩ I h W :=
  { ent := h1, nd := h2, imm := h3, new := fun b hb => .inl hb, inew := fun b hb => .inl hb, sup := fun b hb => hb, os := rfl, tape := rfl, output := rfl, size := Nat.le_refl _, keep := fun _ _ _ => rfl, glob := hG }
 have hsf : SF n W I (EO 0 args) { tmps := vs.toArray ++ Array.replicate (fn.ntmps - vs.toArray.size) undef, defers := [] } := by
  refine ⟨by simp [hn]; omega, fun t => ?_⟩
  have := Fl W I args vs 0 t h4
  simp only [Nat.zero_le, if_true, Nat.sub_zero] at this
  have e : (vs.toArray ++ Array.replicate (fn.ntmps - vs.toArray.size) undef).getD t undef = (vs[t]?).getD undef := by
   rw [Array.getD_eq_getD_getElem?, Array.getElem?_append]
   by_cases ht : t < vs.length
   · simp [ht]
   · simp only [List.size_toArray, ht, if_false]
     rw [List.getElem?_eq_none (by omega)]
     simp only [Array.getElem?_replicate]
     split <;> rfl
  rw [e]; exact this
 refine wp_mono (hj W I I _ W hok hsf rfl) ?_
 rintro e a w ⟨I', ρ', h', k1, k2, k3, k4⟩
 have fin : (∃ ρ1 h1 xs h'', VS ρ' h' ρ1 h1 ∧ RVs P G ρ1 h1 rs xs ∧ List.Sublist h'' h1 ∧ Q (.ret (Kq xs)) h'') → ∃ v, (results fn a.tmps).run P w = .ok v w ∧ L3 G W I h Q (.returned v) w := by
  rintro ⟨ρ1, hh1, xs, h'', v, hrv, hsub, hq⟩
  obtain ⟨I1, m1, m2⟩ := v _ _ _ _ _ k1 k2
  obtain ⟨us, e1, e2⟩ := JM rfl m1 m2 hrv
  exact ⟨_, OF hr e1, _, h'', I1, hq, m1.sub hsub, XS e2⟩
 cases e with
 | normal => obtain ⟨v, e1, e2⟩ := fin k4; exact ⟨k3, v, e1, e2⟩
 | ret => obtain ⟨v, e1, e2⟩ := fin k4; exact ⟨k3, v, e1, e2⟩
 | panic ch => exact ⟨k3, _, h', I', k4, k1, rfl⟩
 | exit _ => exact k4.elim
 | goto _ => exact k4.elim
 | outgrown => exact k4.elim
theorem Tl {P : Program} {G : List (Nat × List D)} {rs : List ResultVar} {Q : AE → H → Prop} {e : Exit} {ρ ρ1 : Env} {h h1 h' : H} {xs : List AV} (v : VS ρ h ρ1 h1) (hrv : RVs P G ρ1 h1 rs xs) (he : QQ e = true) (hs : List.Sublist h' h1) (hq : Q (.ret (Kq xs)) h') : YP P G rs Q e ρ h := by
 cases e <;> first | exact ⟨ρ1, h1, xs, h', v, hrv, hs, hq⟩ | cases he
theorem Yi {P : Program} {G : List (Nat × List D)} {rs : List ResultVar} {Q : AE → H → Prop} {e : Exit} {ρ : Env} {h h' : H} {xs : List AV} (hrv : RVs P G ρ h rs xs) (he : QQ e = true) (hs : List.Sublist h' h) (hq : Q (.ret (Kq xs)) h') : YP P G rs Q e ρ h :=
 Tl (VS.of_le (Env.le_refl _)) hrv he hs hq
section
variable {P : Program} {G : List (Nat × List D)} {ρ : Env} {h : H}
theorem FP {t : Nat} {x : AV} (hx : Fg ρ t = some x) : RV1 P G ρ h (.tmp t) x := fun _ I _ a w _ _ s => ⟨a.tmps.getD t undef, by have := s.2 t; rw [BU hx] at this; exact this, rfl⟩
theorem Dt {r T b : Nat} {T0 : TypeId} {vs : List AV} {z : Value} {sz eb : Nat} (hT : BR P T = some true) (hE : El P T z sz eb) (hx : Fg ρ r = some (.val (.pointer (some ⟨b, 0, none⟩)))) (hm : Ent.cells b T0 vs ∈ h) (hn : sz = vs.length) : RV1 P G ρ h (.cell r T) (.agg vs) := fun _ I _ a w _ k s => by
 obtain ⟨i, hi, _, rfl, _⟩ := hE.get
 obtain ⟨cs, hc1, hc2⟩ := k.ent _ hm
 have hlen : cs.toList.length = vs.length := (AV.rels_length hc2).symm
 refine ⟨.agg cs.toList.toArray, ⟨_, rfl, hc2⟩, ?_⟩
 have e1 := AP (s.2 r) (BU hx)
 have hload := run_loadCells_list (P := P) w ⟨b, 0, none⟩ cs.toList fun j v hv => by
  rw [Addr.add_lit, Nat.zero_add, cell_of_row w b j cs T0 (0, 0) hc1]
  simpa using hv
 have hsz : cs.toList.length = i.size := by rw [hlen, hn]
 rw [hsz] at hload
 rw [Array.getD_eq_getD_getElem?] at e1
 simp [LD, e1, asAddr, loadVar, DL hT, sizeOf, typeInfo, hi, hload]
end

mutual
inductive Cv (v : Value) (d : D) : AV → AV → Prop where
 | same (x : AV) : Cv v d x x
 | here : Cv v d (.val v) (.d d)
 | agg {xs ys : List AV} (h : Cvs v d xs ys) : Cv v d (.agg xs) (.agg ys)
inductive Cvs (v : Value) (d : D) : List AV → List AV → Prop where
 | nil : Cvs v d [] []
 | cons {x y : AV} {xs ys : List AV} (h1 : Cv v d x y) (h2 : Cvs v d xs ys) : Cvs v d (x :: xs) (y :: ys)
end
mutual
theorem Cv.rel {v : Value} {d : D} {w : World} {I : Nat → Prop} (hr : Rel w I d v) : ∀ {x y : AV} {u : Value}, Cv v d x y → AV.rel w I x u → AV.rel w I y u
 | _, _, _, .same x, h => h
 | _, _, _, .here, h => by cases h; exact hr
 | _, _, _, .agg hc, ⟨vs, h1, h2⟩ => ⟨vs, h1, Cvs.rel hr hc h2⟩
theorem Cvs.rel {v : Value} {d : D} {w : World} {I : Nat → Prop} (hr : Rel w I d v) : ∀ {xs ys : List AV} {us : List Value}, Cvs v d xs ys → AV.rels w I xs us → AV.rels w I ys us
 | [], [], us, .nil, h => h
 | _ :: _, _ :: _, u :: us, .cons h1 h2, ⟨g1, g2⟩ => ⟨Cv.rel hr h1 g1, Cvs.rel hr h2 g2⟩
end
def CvE (v : Value) (d : D) (ρ ρ' : Env) : Prop := ∀ t, Cv v d (get ρ t) (get ρ' t)
theorem CvE.refl (v : Value) (d : D) (ρ : Env) : CvE v d ρ ρ := fun _ => .same _
theorem CvE.cons {v : Value} {d : D} {ρ ρ' : Env} {t : Nat} {x y : AV} (hx : Fg ρ t = some x) (hc : Cv v d x y) (h : CvE v d ρ ρ') : CvE v d ρ ((t, y) :: ρ') := fun s => by
 simp only [get]
 cases hb : Nat.beq t s with
 | true => rw [← Nat.eq_of_beq_eq_true hb, BU hx]; exact hc
 | false => exact h s
inductive CvH (v : Value) (d : D) : H → H → Prop where
 | refl (h : H) : CvH v d h h
 | keep {e : Ent} {h h' : H} (k : CvH v d h h') : CvH v d (e :: h) (e :: h')
 | cells {b : Nat} {T : TypeId} {vs vs' : List AV} {h h' : H} (hc : Cvs v d vs vs') (k : CvH v d h h') : CvH v d (.cells b T vs :: h) (.cells b T vs' :: h')
theorem CvH.blks {v : Value} {d : D} {h h' : H} (k : CvH v d h h') : blks h' = blks h := by
 induction k with
 | refl h => rfl
 | keep k ih => rename_i e _ _; simp only [Av.blks, List.filterMap_cons] at ih ⊢; rw [ih]
 | cells hc k ih => simp only [Av.blks, List.filterMap_cons, Ent.blk] at ih ⊢; rw [ih]
theorem CvH.ent {v : Value} {d : D} {w : World} {I : Nat → Prop} (hr : Rel w I d v) {h h' : H} (k : CvH v d h h') : (∀ e ∈ h, e.rel w I) → ∀ e ∈ h', e.rel w I := by
 induction k with
 | refl h => exact fun h => h
 | keep k ih =>
   intro hh e he
   rcases List.mem_cons.1 he with rfl | he
   · exact hh _ (by simp)
   · exact ih (fun e he => hh e (by simp [he])) e he
 | cells hc k ih =>
   intro hh e he
   rcases List.mem_cons.1 he with rfl | he
   · obtain ⟨cs, h1, h2⟩ := hh _ List.mem_cons_self
     exact ⟨cs, h1, hc.rel hr h2⟩
   · exact ih (fun e he => hh e (by simp [he])) e he
theorem Ok.conv {c : Cx} {I : Nat → Prop} {h h' : H} {w : World} {v : Value} {d : D} (k : Ok c I h w) (hr : Rel w I d v) (hc : CvH v d h h') : Ok c I h' w :=
 { ent := hc.ent hr k.ent, nd := hc.blks ▸ k.nd, imm := fun b hb => hc.blks ▸ k.imm b hb, new := fun b hb => k.new b (hc.blks ▸ hb), inew := k.inew, sup := k.sup, os := k.os, tape := k.tape, output := k.output, size := k.size, keep := k.keep, glob := k.glob }
theorem SF.conv {n : Nat} {w : World} {I : Nat → Prop} {ρ ρ' : Env} {a : Act} {v : Value} {d : D} (f : SF n w I ρ a) (hr : Rel w I d v) (hc : CvE v d ρ ρ') : SF n w I ρ' a := ⟨f.1, fun t => (hc t).rel hr (f.2 t)⟩

theorem X6 {c : Cx} {I : Nat → Prop} {w : World} {v : Value} {n : Nat} {E : TypeId} {sz : Nat} (eb : Nat) {rows : List (List D)} {h1 h2 : H} (k1 : Ok c I (h1 ++ .row v n E sz (rows.flatten.map D.av) :: h2) w) (h0 : 0 < sz) (hn : rows.length = n) (hsz : ∀ r ∈ rows, r.length = sz) (hb : n * eb ≤ 140737488355328) :
 ∃ I' : Nat → Prop, Ok c I' (h1 ++ h2) w ∧ (∀ b, I b → I' b) ∧ Rel w I' (.l sz eb rows) v := by
 obtain ⟨os, ho, hos⟩ := k1.ent (.row v n E sz (rows.flatten.map D.av)) (by simp)
 rcases ho.2 with ⟨rfl, rfl⟩ | ⟨g, cap, cur, rfl, _, hg, hnc, hcm, hcs, htake⟩
 · have : rows = [] := List.eq_nil_of_length_eq_zero hn
   subst this
   have hok : Ok c I (h1 ++ h2) w := by
    have hbe : blks (h1 ++ Ent.row (.slice none 0 0) 0 E sz (List.map D.av [].flatten) :: h2) = blks (h1 ++ h2) := by rw [Ag, Ag]; rfl
    exact { ent := fun e he => k1.ent e (((List.sublist_cons_self _ h2).append_left h1).subset he), nd := hbe ▸ k1.nd, imm := fun b hb => hbe ▸ k1.imm b hb, new := fun b hb => k1.new b (hbe ▸ hb), inew := k1.inew, sup := k1.sup, os := k1.os, tape := k1.tape, output := k1.output, size := k1.size, keep := k1.keep, glob := k1.glob }
   exact ⟨I, hok, fun _ h => h, .nil sz eb⟩
 · have hok := k1.release (b := g) (e := .row (.slice (some ⟨g, 0, none⟩) n cap) n E sz (rows.flatten.map D.av)) rfl
   refine ⟨_, hok, fun _ h => .inl h, ?_⟩
   subst hn
   have hcell : ∀ q x, rows.flatten[q]? = some x → ∃ c, w.cell? ((⟨g, 0, none⟩ : Addr).add q) = some c ∧ Rel w I x c := fun q x hx => by
    obtain ⟨c, hc1, hc2⟩ := AV.rels_get hos q x.av (by rw [List.getElem?_map, hx]; rfl)
    exact ⟨c, ho.cells (g := g) rfl q c hc1, D.av_rel' hc2⟩
   have hq : ∀ (j u : Nat) (r : List D) (x : D), rows[j]? = some r → r[u]? = some x → rows.flatten[j * sz + u]? = some x := fun j u r x hr hx => by
    have hu : u < sz := by
     have := (List.getElem?_eq_some_iff.1 hx).1
     rwa [hsz r (List.mem_of_getElem? hr)] at this
    rw [B9 h0 rows hsz, Nat.add_comm, Nat.add_mul_div_right _ _ h0, Nat.add_mul_mod_self_right, Nat.div_eq_of_lt hu, Nat.mod_eq_of_lt hu, Nat.zero_add, hr]
    exact hx
   refine .l sz eb rows ⟨g, 0, none⟩ cap (fun j u => (w.cell? ((⟨g, 0, none⟩ : Addr).add (j * sz + u))).getD undef) (.inr rfl) hnc hcm hb hsz (fun j u r x hr hx => ?_) (fun j u r x hr hx => ?_)
   · obtain ⟨c, hc1, _⟩ := hcell _ x (hq j u r x hr hx)
     simp only [hc1, Option.getD_some]
   · obtain ⟨c, hc1, hc2⟩ := hcell _ x (hq j u r x hr hx)
     simp only [hc1, Option.getD_some]
     exact hc2.mono (fun _ _ => rfl) fun _ h => .inl h
theorem TX {c : Cx} {I : Nat → Prop} {w : World} {b n : Nat} {E : TypeId} {sz : Nat} (eb : Nat) {rows : List (List D)} {h1 h2 : H} (k1 : Ok c I (h1 ++ .cells b E (rows.flatten.map D.av) :: h2) w) (h0 : 0 < sz) (hn : rows.length = n) (hsz : ∀ r ∈ rows, r.length = sz) (hb : n * eb ≤ 140737488355328) (hm : n ≤ maxLen) :
 ∃ I' : Nat → Prop, Ok c I' (h1 ++ h2) w ∧ (∀ b, I b → I' b) ∧ Rel w I' (.l sz eb rows) (.slice (some ⟨b, 0, none⟩) n n) := by
 subst hn
 have hbr := PQ (h := h1 ++ .cells b E (rows.flatten.map D.av) :: h2) (b := b) (E := E) (eb := eb) (by simp) h0 rfl rfl hsz hb hm
 refine ⟨_, k1.release (b := b) rfl, fun _ h => .inl h, ?_⟩
 obtain ⟨cs, hc1, hc2⟩ := k1.ent (.cells b E (rows.flatten.map D.av)) (by simp)
 have hcell : ∀ q x, rows.flatten[q]? = some x → ∃ c, w.cell? ((⟨b, 0, none⟩ : Addr).add q) = some c ∧ Rel w I x c := fun q x hx => by
  obtain ⟨c, hc3, hc4⟩ := AV.rels_get hc2 q x.av (by rw [List.getElem?_map, hx]; rfl)
  refine ⟨c, ?_, D.av_rel' hc4⟩
  rw [Addr.add_lit, Nat.zero_add, cell_of_row w b q cs E (0, 0) hc1]
  simpa using hc3
 have hq : ∀ (j u : Nat) (r : List D) (x : D), rows[j]? = some r → r[u]? = some x → rows.flatten[j * sz + u]? = some x := fun j u r x hr hx => by
  have hu : u < sz := by
   have := (List.getElem?_eq_some_iff.1 hx).1
   rwa [hsz r (List.mem_of_getElem? hr)] at this
  rw [B9 h0 rows hsz, Nat.add_comm, Nat.add_mul_div_right _ _ h0, Nat.add_mul_mod_self_right, Nat.div_eq_of_lt hu, Nat.mod_eq_of_lt hu, Nat.zero_add, hr]
  exact hx
 refine Rel.l sz eb rows ⟨b, 0, none⟩ rows.length (fun j u => (w.cell? ((⟨b, 0, none⟩ : Addr).add (j * sz + u))).getD undef) (.inr rfl) (Nat.le_refl _) hm hb hsz (fun j u r x hr hx => ?_) (fun j u r x hr hx => ?_)
 · obtain ⟨c, hc3, _⟩ := hcell _ x (hq j u r x hr hx)
   simp only [hc3, Option.getD_some]
 · obtain ⟨c, hc3, hc4⟩ := hcell _ x (hq j u r x hr hx)
   simp only [hc3, Option.getD_some]
   exact hc4.mono (fun _ _ => rfl) fun _ h => .inl h
theorem Gj {α : Type} {f : α → List D} {xs : List α} {ρ ρ' : Env} {h h1 h2 h' : H} {v : Value} {E : TypeId} {sz : Nat} (eb : Nat) (h0 : Nat.blt 0 sz = true) (hh : h = h1 ++ AM v E sz f xs :: h2) (hsz : ∀ a, (f a).length = sz) (hb : xs.length * eb ≤ 140737488355328)
 (hρ : CvE v (.l sz eb (xs.map f)) ρ ρ') (hH : CvH v (.l sz eb (xs.map f)) (h1 ++ h2) h') : VS ρ h ρ' h' := by
 subst hh
 intro c I m a w k1 k2
 obtain ⟨I', g1, g2, g3⟩ := X6 eb k1 (blt h0) (by simp) (fun r hr => by obtain ⟨a, _, rfl⟩ := List.mem_map.1 hr; exact hsz a) hb
 exact ⟨I', g1.conv g3 hH, (k2.wider g2).conv g3 hρ⟩
theorem Z7 {α : Type} {f : α → List D} {g : α → AV} {xs : List α} {ρ ρ' : Env} {h h1 h2 h' : H} {b n : Nat} {E : TypeId} {sz : Nat} (eb : Nat) (h0 : Nat.blt 0 sz = true) (hh : h = h1 ++ .cells b E (xs.map g) :: h2) (hv : xs.map g = ((xs.map f).flatten).map D.av) (hn : xs.length = n) (hsz : ∀ a, (f a).length = sz) (hb : n * eb ≤ 140737488355328) (hm : n ≤ 140737488355328)
 (hρ : CvE (.slice (some ⟨b, 0, none⟩) n n) (.l sz eb (xs.map f)) ρ ρ') (hH : CvH (.slice (some ⟨b, 0, none⟩) n n) (.l sz eb (xs.map f)) (h1 ++ h2) h') : VS ρ h ρ' h' := by
 subst hh
 rw [hv]
 intro c I m a w k1 k2
 obtain ⟨I', g1, g2, g3⟩ := TX (n := n) eb k1 (blt h0) (by simpa using hn) (fun r hr => by obtain ⟨a, _, rfl⟩ := List.mem_map.1 hr; exact hsz a) hb (by simp only [maxLen]; omega)
 exact ⟨I', g1.conv g3 hH, (k2.wider g2).conv g3 hρ⟩

def Bls (P : Program) (t : TypeId) (zs : List Value) (pl : List (Nat × Nat)) : Prop :=
 (match P.info? t, P.underlying t with
 | some it, some (.struct fields) =>
   match it.zero, fields.toList.mapM (fun f => (P.info? f.type).map fun i => (f.offset, i.size)) with
   | some z, some places => some (z.cells.toList, places)
   | _, _ => none
 | _, _ => none) = some (zs, pl)
theorem Bls.built {P : Program} {t : TypeId} {zs : List Value} {pl : List (Nat × Nat)} (h : Bls P t zs pl) (parts : List (Nat × Value)) : P.built t parts = Instr.fill (pl.toArray[·]?) zs.toArray parts := by
 unfold Bls at h
 unfold Program.built
 cases h1 : P.info? t with
 | none => rw [h1] at h; cases h
 | some it =>
   cases h2 : P.underlying t with
   | none => rw [h1, h2] at h; cases h
   | some d =>
     cases d with
     | struct fields =>
       rw [h1, h2] at h
       dsimp only at h ⊢
       cases h3 : it.zero with
       | none => rw [h3] at h; cases h
       | some z =>
         cases h4 : fields.toList.mapM (fun f => (P.info? f.type).map fun i => (f.offset, i.size)) with
         | none => rw [h3, h4] at h; cases h
         | some places =>
           rw [h3, h4] at h
           simp only [Option.some.injEq, Prod.mk.injEq] at h
           obtain ⟨h5, rfl⟩ := h
           subst h5
           rfl
     | _ => rw [h1, h2] at h; cases h
def N9 (pl : List (Nat × Nat)) : List AV → List (Nat × AV) → Option (List AV)
 | cs, [] => some cs
 | cs, (i, x) :: r =>
   match pl[i]? with
   | none => none
   | some p => bif Nat.beq x.cl.length p.2 && Nat.ble (p.1 + p.2) cs.length then N9 pl (setAt cs p.1 x.cl) r else none
inductive VY {α β : Type} (R : α → β → Prop) : List α → List β → Prop where
 | nil : VY R [] []
 | cons {a : α} {b : β} {as_ : List α} {bs : List β} (h : R a b) (t : VY R as_ bs) : VY R (a :: as_) (b :: bs)
theorem Pw {w : World} {I : Nat → Prop} {pl : List (Nat × Nat)} : ∀ {ps : List (Nat × AV)} {vs : List (Nat × Value)} {avs avs' : List AV} {cs : Array Value}, AV.rels w I avs cs.toList → VY (fun p q => p.1 = q.1 ∧ AV.rel w I p.2 q.2 ∧ p.2.stor = true) ps vs → N9 pl avs ps = some avs' →
 ∃ cs', Instr.fill (pl.toArray[·]?) cs vs = some cs' ∧ AV.rels w I avs' cs'.toList
 | [], [], avs, avs', cs, hr, _, hf => by cases hf; exact ⟨cs, rfl, hr⟩
 | (i, x) :: ps, (j, v) :: vs, avs, avs', cs, hr, .cons ⟨h1, h2, h3⟩ h4, hf => by
   cases h1
   simp only [N9] at hf
   cases hp : pl[i]? with
   | none => rw [hp] at hf; cases hf
   | some p =>
     rw [hp] at hf
     dsimp only at hf
     cases hc : Nat.beq x.cl.length p.2 && Nat.ble (p.1 + p.2) avs.length with
     | false => rw [hc] at hf; cases hf
     | true =>
       rw [hc] at hf
       simp only [cond_true] at hf
       rw [Bool.and_eq_true] at hc
       have e1 := Nat.eq_of_beq_eq_true hc.1
       have e2 := Nat.le_of_ble_eq_true hc.2
       have hcl := Km h3 h2
       have hvl : v.cells.toList.length = x.cl.length := (AV.rels_length hcl).symm
       have hcs : cs.toList.length = avs.length := (AV.rels_length hr).symm
       have hsz : v.cells.size = p.2 := by rw [← e1, ← hvl]; simp
       have hfold := LJ v.cells.toList 0 cs (cs.toList.take p.1) (cs.toList.drop p.1) (List.take_append_drop _ _).symm (by rw [List.length_drop, hcs, hvl, e1]; omega)
       have htl : (cs.toList.take p.1).length = p.1 := by rw [List.length_take, hcs]; omega
       rcases hfold with hfold | hfold
       case inr => omega
       rw [htl, Nat.sub_zero, List.drop_drop] at hfold
       have hstep : AV.rels w I (setAt avs p.1 x.cl) ((v.cells.zipIdx).foldl (fun cs q => cs.setIfInBounds (p.1 + q.2) q.1) cs).toList := by
        rw [← Array.foldl_toList, Array.toList_zipIdx, hfold]
        unfold setAt
        rw [hvl]
        exact AV.rels_append (AV.rels_append (DK _ hr) hcl) (FB _ hr)
       obtain ⟨cs', g1, g2⟩ := Pw hstep h4 hf
       refine ⟨cs', ?_, g2⟩
       have hb : (v.cells.size ≠ p.2 || p.1 + v.cells.size > cs.size) = false := by
        refine Bool.or_eq_false_iff.2 ⟨by simp [hsz], decide_eq_false ?_⟩
        have : cs.size = avs.length := by rw [← hcs]; simp
        omega
       simp only [Instr.fill]
       have hpa : (pl.toArray)[i]? = some p := by simpa using hp
       rw [hpa]
       dsimp only
       rw [hb]
       exact g1
def Ls (ρ : Env) : List (Nat × Operand) → Option (List (Nat × AV))
 | [] => some []
 | (i, x) :: r => (evO ρ x).bind fun a => (Ls ρ r).bind fun as_ => some ((i, a) :: as_)
theorem Lm {n : Nat} {w : World} {I : Nat → Prop} {ρ : Env} {a : Act} (f : SF n w I ρ a) : ∀ {ps : List (Nat × Operand)} {xs : List (Nat × AV)}, Ls ρ ps = some xs → xs.all (fun p => p.2.stor) = true → VY (fun p q => p.1 = q.1 ∧ AV.rel w I p.2 q.2 ∧ p.2.stor = true) xs (ps.map fun p => (p.1, a.eval p.2))
 | [], xs, h, _ => by cases h; exact .nil
 | (i, x) :: ps, xs, h, hs => by
   simp only [Ls] at h
   cases h1 : evO ρ x with
   | none => rw [h1] at h; cases h
   | some r =>
     cases h2 : Ls ρ ps with
     | none => rw [h1, h2] at h; cases h
     | some rs =>
       rw [h1, h2] at h
       cases h
       simp only [List.all_cons, Bool.and_eq_true] at hs
       refine .cons ⟨rfl, ?_, hs.1⟩ (Lm f h2 hs.2)
       have := f.ev x
       rw [AF h1] at this
       exact this
section
variable {P : Program} {G : List (Nat × List D)} {ρ : Env} {h : H} {dst : Option Tmp} {ty : TypeId} {pos : String} {after : Array Edge} {g : Option (Nat × Bool)}
theorem Uy {T : TypeId} {zs : List Value} {pl : List (Nat × Nat)} {parts : Array (Nat × Operand)} {xs : List (Nat × AV)} {cs : List AV} (hB : Bls P T zs pl) (hx : Ls ρ parts.toList = some xs) (hs : xs.all (fun p => p.2.stor) = true) (hf : N9 pl (zs.map AV.val) xs = some cs) :
 Pure P G ⟨dst, .build T parts, ty, pos, after, g⟩ ρ h (.agg cs) :=
 Am fun w I _ a k => by
  obtain ⟨cs', g1, g2⟩ := Pw (cs := zs.toArray) (by simpa using ED w I zs) (Lm k hx hs) hf
  refine ⟨.agg cs', ⟨cs'.toList, by simp, g2⟩, fun w' => ?_⟩
  have e : (parts.map fun (i, x) => (i, a.eval x)).toList = parts.toList.map fun p => (p.1, a.eval p.2) := by simp
  have := run_build (P := P) w' T (parts.map fun (i, x) => (i, a.eval x)) cs' (by rw [hB.built, e]; exact g1)
  simp [execOp, this]

def NC (b : UInt8) : List D := [.i .u8 b.toNat]
abbrev Ri (l : List UInt8) : D := .l 1 1 (l.map NC)
abbrev AV.byte (b : UInt8) : AV := .val (.int .u8 (b.toNat : Int))
theorem Ol {S T : TypeId} {x : Operand} {b : UInt8} (hS : (P.underlying S).isSome = true) (hT : P.underlying T = some (.int .i64)) (hx : evO ρ x = some (AV.byte b)) : Pure P G ⟨dst, .convert S T x, ty, pos, after, g⟩ ρ h (.int (b.toNat : Int)) := by
 have := OX (P := P) (G := G) (h := h) (dst := dst) (ty := ty) (pos := pos) (after := after) (g := g) hS hT (AF hx)
 have hb := b.toNat_lt
 rwa [Gg (by unfold A9; omega)] at this
theorem Q6 {T E E' : TypeId} {x : Operand} {v : Value} {n sz : Nat} {xs : List AV} (hT : P.underlying T = some (.slice E')) (hx : evO ρ x = some (.val v)) (hm : Ent.row v n E sz xs ∈ h) : Pure P G ⟨dst, .call { callee := .builtin .len, args := #[x], argTypes := #[T] }, ty, pos, after, g⟩ ρ h (.int n) := by
 intro c I m a w _ k s
 have e1 := AP (s.ev x) (AF hx)
 refine ⟨_, rfl, fun w' _ => ?_⟩
 obtain ⟨us, ho, _⟩ := k.ent _ hm
 rcases ho.2 with ⟨rfl, rfl⟩ | ⟨g, cap, cur, rfl, _⟩
 · simp [execOp, resolve, invoke, builtin, e1, Builtin.len_, run_underlying hT, goInt]
 · simp [execOp, resolve, invoke, builtin, e1, Builtin.len_, run_underlying hT, goInt]
end
section
variable {k : Kx} {Q : Exit → Env → H → Prop} {ρ ρ' : Env} {h h1 h2 : H} {ops : Array Oper} {l : List Oper} {d : Nat} {dst : Option Tmp} {ty : TypeId} {pos : String} {after : Array Edge} {g : Option (Nat × Bool)}
theorem Xl {α : Type} (f : α → List D) {T E : TypeId} {z : Value} {sz eb : Nat} (hT : k.P.underlying T = some (.slice E)) (he : El k.P E z sz eb) (hd : Nat.blt d k.n = true)
 (hj : All fun v => JL k ops l Q ((d, .val v) :: ρ) (AM v E sz f [] :: h)) : JL k ops (⟨some d, .buildSlice T 0 #[], ty, pos, after, none⟩ :: l) Q ρ h := by
 obtain ⟨i, hi, hz0, hz1, _⟩ := he.get
 refine Ed rfl (fun t ht => by cases ht; exact blt hd) fun I a w k1 k2 => ?_
 refine ⟨.slice (some ⟨w.heap.size, 0, none⟩) 0 0, w.alloc (.cells #[] E), I, .val (.slice (some ⟨w.heap.size, 0, none⟩) 0 0), _, ?_, k1.fresh _ (AM (.slice (some ⟨w.heap.size, 0, none⟩) 0 0) E sz f []) rfl ?_, k2.fresh k1 _, rfl, hj.get _⟩
 · simp [execOp, Instr.buildSlice, run_underlying hT, sizeOf, typeInfo, hi, Instr.fill, newRow]
   have : Array.range 0 = #[] := by apply Array.ext'; simp
   rw [this, Array.map_empty]
 · refine ⟨[], ⟨by simp, .inr ⟨w.heap.size, 0, #[], rfl, by simp, heap_alloc_new w _, ?_⟩⟩, trivial⟩
   simp
end

section
variable {k : Kx} {Q : Exit → Env → H → Prop} {ρ ρ' : Env} {h h1 h2 : H} {ops : Array Oper} {l : List Oper} {d : Nat} {dst : Option Tmp} {ty : TypeId} {pos : String} {after : Array Edge} {g : Option (Nat × Bool)} {e1 e2 e3 e4 e5 e6 : Ent}
theorem Vq {T T0 : TypeId} {x y : Operand} {b : Nat} {cs vs : List AV} {z : Value} {sz eb : Nat} (hx : evO ρ x = some (.val (.pointer (some ⟨b, 0, none⟩)))) (hy : evO ρ y = some (.agg cs)) (hs : cs.all AV.flat = true) (hE : El k.P T z sz eb) (hn : sz = cs.length) (hl : vs.length = cs.length) (hh : h = h1 ++ .cells b T0 vs :: h2)
 (hj : JL k ops l Q ρ (h1 ++ .cells b T0 cs :: h2)) : JL k ops (⟨none, .store T x y, ty, pos, after, none⟩ :: l) Q ρ h := by
 refine HT (off := 0) (r := .agg cs) (vs := vs) (AF hx) (AF hy) hs hE hn hh (by simp [AV.cl, hl]) ?_
 have : setAt vs 0 (AV.agg cs).cl = cs := by simp [setAt, AV.cl, ← hl]
 rw [this]
 exact hj
theorem Zc {β : Type} {X : β → AV} {en : β → Ent} {f : FuncId} {xs : Array Operand} {ats : Array TypeId} {args : List AV} (hargs : Io ρ xs.toList = some args) (hcal : Cal k.P f) (hac : AC k.P k.c.G f args [] fun r h => ∃ v, r = .ret (X v) ∧ h = [en v]) (hd : Nat.blt d k.n = true)
 (hj : All fun v => JL k ops l Q ((d, X v) :: ρ) (en v :: h)) : JL k ops (⟨some d, .call { callee := .value (.func f), args := xs, argTypes := ats }, ty, pos, after, none⟩ :: l) Q ρ h :=
 PB (hc := []) (hr := h) hargs hcal rfl hac hd (fun r h' hq => by obtain ⟨v, e1, e2⟩ := hq; cases e1; subst e2; exact hj.get v) (fun ch h' hq => by obtain ⟨v, e1, _⟩ := hq; cases e1)

theorem Ry {α : Type} {f : α → List D} {xs : List α} {v : Value} {E : TypeId} {sz : Nat} (eb : Nat) (hm : AM v E sz f xs ∈ h) (h0 : Nat.blt 0 sz = true) (hsz : ∀ a, (f a).length = sz) (hb : xs.length * eb ≤ 140737488355328) : Bor h (.val v) (.d (.l sz eb (xs.map f))) := by
 intro c I w u kk hr
 obtain rfl : u = v := hr
 obtain ⟨s, t, rfl⟩ := List.append_of_mem hm
 obtain ⟨os, ho, hos⟩ := kk.ent (AM u E sz f xs) (by simp)
 rcases ho.2 with ⟨rfl, hn⟩ | ⟨g, cap, cur, hv, _, hg, hnc, hcm, hcs, htake⟩
 · have : xs = [] := List.eq_nil_of_length_eq_zero hn
   subst this
   exact .nil sz eb
 · have hin : g ∈ blks (s ++ AM u E sz f xs :: t) := by
    rw [Ag]; subst hv
    exact List.mem_append.2 (.inr (by simp [blks, Ent.blk, Value.ownBlock]))
   have hcell : ∀ q x, (xs.map f).flatten[q]? = some x → ∃ c, w.cell? ((⟨g, 0, none⟩ : Addr).add q) = some c ∧ Rel w I x c := fun q x hx => by
    obtain ⟨c, hc1, hc2⟩ := AV.rels_get hos q x.av (by rw [List.getElem?_map, hx]; rfl)
    exact ⟨c, ho.cells (g := g) (by rw [hv]; rfl) q c hc1, D.av_rel' hc2⟩
   have hszs : ∀ r ∈ xs.map f, r.length = sz := fun r hr => by obtain ⟨a, _, rfl⟩ := List.mem_map.1 hr; exact hsz a
   have hq : ∀ (j u : Nat) (r : List D) (x : D), (xs.map f)[j]? = some r → r[u]? = some x → (xs.map f).flatten[j * sz + u]? = some x := fun j u r x hr hx => by
    have hu : u < sz := by
     have := (List.getElem?_eq_some_iff.1 hx).1
     rwa [hszs r (List.mem_of_getElem? hr)] at this
    rw [B9 (blt h0) _ hszs, Nat.add_comm, Nat.add_mul_div_right _ _ (blt h0), Nat.add_mul_mod_self_right, Nat.div_eq_of_lt hu, Nat.mod_eq_of_lt hu, Nat.zero_add, hr]
    exact hx
   have hres := Rel.l (w := w) (I := fun b => I b ∨ b ∈ blks (s ++ AM u E sz f xs :: t)) sz eb (xs.map f) ⟨g, 0, none⟩ cap (fun j u => (w.cell? ((⟨g, 0, none⟩ : Addr).add (j * sz + u))).getD undef) (.inr hin) (by simpa using hnc) hcm (by simpa using hb) hszs (fun j u r x hr hx => by
    obtain ⟨c, hc1, _⟩ := hcell _ x (hq j u r x hr hx)
    simp only [hc1, Option.getD_some]) (fun j u r x hr hx => by
    obtain ⟨c, hc1, hc2⟩ := hcell _ x (hq j u r x hr hx)
    simp only [hc1, Option.getD_some]
    exact hc2.mono (fun _ _ => rfl) fun _ h => .inl h)
   rw [List.length_map] at hres
   show Rel w (fun b => I b ∨ b ∈ blks (s ++ AM u E sz f xs :: t)) (.l sz eb (xs.map f)) u
   generalize (fun b => I b ∨ b ∈ blks (s ++ AM u E sz f xs :: t)) = J at hres ⊢
   rw [hv]
   exact hres

theorem Pm {α : Type} {f : α → List D} {ys : List α} {T E : TypeId} {z : Value} {sz eb len : Nat} {parts : Array (Nat × Operand)} {xs : List Operand} (hT : k.P.underlying T = some (.slice E)) (he : El k.P E z sz eb) (h0 : 0 < sz)
 (hp : parts = ((xs.zipIdx).map fun p => (p.2, p.1)).toArray) (hl : len = xs.length) (hr : xs.map (fun x => (ev ρ x).cl) = (ys.map f).map (·.map D.av)) (hs : ∀ x ∈ xs, (ev ρ x).stor = true) (hsz : ∀ y, (f y).length = sz) (hc : ys.length * sz ≤ 16777216)
 (hd : Nat.blt d k.n = true) (hj : All fun v => JL k ops l Q ((d, .val v) :: ρ) (AM v E sz f ys :: h)) : JL k ops (⟨some d, .buildSlice T len parts, ty, pos, after, none⟩ :: l) Q ρ h := by
 obtain ⟨i, hi, hz0, hz1, _⟩ := he.get
 have hxl : xs.length = ys.length := by have := congrArg List.length hr; simpa using this
 refine Ed rfl (fun t ht => by cases ht; exact blt hd) fun I a w k1 k2 => ?_
 obtain ⟨hrel, hcs⟩ := Li k2 xs (ys.map f) hr hs
 have hsv : ∀ v ∈ xs.map a.eval, v.cells.size = sz := fun v hv => by
  obtain ⟨r, h1, h2⟩ := hcs v hv
  obtain ⟨y, _, rfl⟩ := List.mem_map.1 h1
  rw [h2]; exact hsz y
 let zc : Array Value := if len * sz = 0 then #[] else z.cells
 obtain ⟨cells, hf1, hf2⟩ := Le (sz := sz) (xs.map a.eval) 0 ((Array.range (len * sz)).map (zc[· % zc.size]!)) [] ((Array.range (len * sz)).map (zc[· % zc.size]!)).toList hsv rfl (by simp) (by simp [hl])
 simp only [List.nil_append] at hf2
 have hrun : (Instr.buildSlice T len (parts.map fun (i, x) => (i, a.eval x))).run k.P w = .ok (.slice (some ⟨w.heap.size, 0, none⟩) len len) (w.alloc (.cells cells E)) := by
  have hparts : (parts.map fun (i, x) => (i, a.eval x)).toList = ((xs.map a.eval).zipIdx 0).map fun p => (p.2, p.1) := by
   rw [hp]; simp [List.zipIdx_map]
  have hlt : ¬ len * sz > 2 ^ 24 := by rw [hl, hxl]; omega
  simp only [Instr.buildSlice, Sem.run_bind, run_underlying hT, Result.andThen_ok, sizeOf, typeInfo, run_program, hi, Sem.run_pure, hz1, hlt, if_false, Sem.run_ite, zeroValue, hz0]
  by_cases hzz : len * sz = 0
  · simp only [zc, hzz, if_true] at hf1
    simp only [hzz, if_true, hparts]
    rw [hf1]; simp [newRow]
  · simp only [zc, hzz, if_false] at hf1
    simp only [hzz, if_false, hparts]
    rw [hf1]; simp [newRow]
 have hcl : cells.toList.length = ys.length * sz := by
  rw [hf2]
  have := AV.rels_length hrel
  rw [List.length_map, Bx (ys.map f) (fun r hr => by obtain ⟨y, _, rfl⟩ := List.mem_map.1 hr; exact hsz y), List.length_map] at this
  exact this.symm
 refine ⟨.slice (some ⟨w.heap.size, 0, none⟩) ys.length ys.length, w.alloc (.cells cells E), I, .val (.slice (some ⟨w.heap.size, 0, none⟩) ys.length ys.length), _, ?_, k1.fresh _ (AM (.slice (some ⟨w.heap.size, 0, none⟩) ys.length ys.length) E sz f ys) rfl ?_, k2.fresh k1 _, rfl, hj.get _⟩
 · rw [← hxl, ← hl]
   simp only [execOp, Sem.run_bind, hrun, Result.andThen_ok, Sem.run_pure]
 · have hmono : ∀ b, I b → (w.alloc (.cells cells E)).heap[b]? = w.heap[b]? := fun b hb => Go.RowKit.Below.heap_alloc w _ b (k1.imm b hb).1
   refine ⟨cells.toList, World.ownsRow_lit w cells ys.length (Nat.zero_le _) ?_ (by rw [← hcl]; simp), ?_⟩
   · have : ys.length ≤ ys.length * sz := Nat.le_mul_of_pos_right _ h0
     simp only [maxLen]; omega
   · rw [hf2]
     exact AV.rels_mono hmono (fun _ h => h) hrel
end
section
variable {P : Program} {G : List (Nat × List D)} {ρ : Env} {h : H} {dst : Option Tmp} {ty : TypeId} {pos : String} {after : Array Edge} {g : Option (Nat × Bool)}
theorem ZI {x y : Operand} {m n : Int} {ats : Array TypeId} (hx : evO ρ x = some (.int m)) (hy : evO ρ y = some (.int n)) : Pure P G ⟨dst, .call { callee := .builtin .min, args := #[x, y], argTypes := ats }, ty, pos, after, g⟩ ρ h (.int (min m n)) :=
 Am fun w I _ a hs => by
  have e1 := AP (hs.ev x) (AF hx)
  have e2 := AP (hs.ev y) (AF hy)
  refine ⟨_, rfl, fun w' => ?_⟩
  have e3 : (if n < m then n else m) = min m n := by omega
  have hr : (Builtin.min_ ats ty #[.int .i64 m, .int .i64 n]).run P w' = .ok (.int .i64 (min m n)) w' := by rw [← e3]; simp [Builtin.min_, Builtin.min2]
  simp [execOp, resolve, invoke, builtin, e1, e2, hr]
end
theorem AV.le_agg {xs ys : List AV} (h : AVs.le xs ys) : AV.le (.agg xs) (.agg ys) := fun _ _ _ ⟨vs, h1, h2⟩ => ⟨vs, h1, AVs.le_rel h h2⟩
theorem RV1.le {P : Program} {G : List (Nat × List D)} {ρ : Env} {h : H} {r : ResultVar} {x y : AV} (hr : RV1 P G ρ h r x) (hl : AV.le x y) : RV1 P G ρ h r y := fun c I n a w h1 h2 h3 => let ⟨v, e1, e2⟩ := hr c I n a w h1 h2 h3; ⟨v, hl _ _ _ e1, e2⟩
theorem RVs.le {P : Program} {G : List (Nat × List D)} {ρ : Env} {h : H} : ∀ {rs : List ResultVar} {xs ys : List AV}, RVs P G ρ h rs xs → AVs.le xs ys → RVs P G ρ h rs ys
 | [], [], [], _, _ => trivial
 | _ :: _, _ :: _, _ :: _, ⟨h1, h2⟩, ⟨g1, g2⟩ => ⟨h1.le g1, RVs.le h2 g2⟩
theorem J9 {P : Program} {G : List (Nat × List D)} {rs : List ResultVar} {Q : AE → H → Prop} {e : Exit} {ρ ρ1 : Env} {h h1 h' : H} {xs ys : List AV} (v : VS ρ h ρ1 h1) (hrv : RVs P G ρ1 h1 rs xs) (hle : AVs.le xs ys) (he : QQ e = true) (hs : List.Sublist h' h1) (hq : Q (.ret (Kq ys)) h') : YP P G rs Q e ρ h :=
 Tl v (hrv.le hle) he hs hq
theorem vid {ρ : Env} {h : H} : VS ρ h ρ h := VS.of_le (Env.le_refl _)

def Wv : Op → Bool
 | .store .. => true
 | .mapUpdate .. => true
 | _ => false
def YR (P : Program) (o : Oper) : Bool :=
 match o.op with
 | .call c => (match c.callee with
   | .value (.func _) => (match P.underlying o.type with
     | some (.int _) => false
     | some .bool => false
     | some .string => false
     | _ => true)
   | _ => false)
 | _ => false
def WX (P : Program) (ops : Array Oper) (n : Nat) : Bool :=
 ops.any (YR P) && Region.noSelect ops && decide (n ≤ ops.size) && (decide (n = ops.size) || (Region.sinkB .any ops n && Region.chainB .any ops n)) && (ops.toList.take n).all fun o => !Wv o.op
def HE (ops : Array Oper) (listed : Array Bool) (n i : Nat) : Bool := (Region.ready .any ops listed).contains i && Region.free .any ops listed i && decide (i < n)
structure JE (k : Kx) (ops : Array Oper) (n f : Nat) (listed : Array Bool) (l2 : List Oper) (s : Nat) (pend held : List (Nat × Bool)) (Q : Exit → Env → H → Prop) (ρ : Env) (h : H) : Prop where
 get : WX k.P ops n = true → HeadInv .any ops n listed → ∀ I a w, Ok k.c I h w → SF k.n w I ρ a → a.defers = k.df →
  HA k.P .any ops (F5 I h w) n (fun listed' a' w' => Region.seqB .any ops (ops.size - n) n listed' = true ∧ wpList k.P ops (lift k Q) l2 a' w') f listed a w

section
variable {k : Kx} {Q : Exit → Env → H → Prop} {ρ ρ' : Env} {h h' : H} {ops : Array Oper} {listed : Array Bool} {l2 : List Oper} {n f s i d : Nat} {op : Op} {ty : TypeId} {pos : String} {after : Array Edge} {pend held : List (Nat × Bool)} {b : Bool}

end
structure Sl where
 ad : Option Addr
 n : Nat
 c : Nat
abbrev Sl.v (q : Sl) : Value := .slice q.ad q.n q.c
abbrev Sl.nil : Sl := ⟨none, 0, 0⟩
section
variable {k : Kx} {Q : Exit → Env → H → Prop} {ρ ρ' : Env} {h h' h1 h2 : H} {ops : Array Oper} {l : List Oper} {d : Nat} {ty : TypeId} {pos : String} {after : Array Edge} {e1 e2 e3 e4 : Ent}
theorem Lw {v : Value} {n : Nat} {E : TypeId} {sz : Nat} {xs : List AV} (hh : h = h1 ++ .row v n E sz xs :: h2) (hj : ∀ q : Sl, v = q.v → JL k ops l Q ρ h) : JL k ops l Q ρ h := by
 intro I a w k1 k2 k3
 obtain ⟨os, ho, _⟩ := k1.ent (.row v n E sz xs) (by rw [hh]; simp)
 rcases ho.2 with ⟨rfl, _⟩ | ⟨g, cap, cur, rfl, _⟩
 · exact hj ⟨none, 0, 0⟩ rfl I a w k1 k2 k3
 · exact hj ⟨some ⟨g, 0, none⟩, n, cap⟩ rfl I a w k1 k2 k3
theorem Z2 {α : Type} {f : α → List D} {xs ys : List α} {T E : TypeId} {x y : Operand} {z : Value} {sz eb eb' : Nat} {v : Value} (hx : evO ρ x = some (.val v)) (hh : h = h1 ++ AM v E sz f xs :: h2) (hy : evO ρ y = some (.d (.l sz eb' (ys.map f)))) (hT : k.P.underlying T = some (.slice E)) (he : El k.P E z sz eb) (hz : z.cells.size = sz) (h0 : Nat.blt 0 sz = true)
 (hd : Nat.blt d k.n = true) (hb : (xs.length + ys.length) * eb ≤ 140737488355328) (hm : xs.length + ys.length ≤ 140737488355328)
 (hj : ∀ q : Sl, JL k ops l Q ((d, .val q.v) :: ρ) (h1 ++ AM q.v E sz f (xs ++ ys) :: h2)) :
 JL k ops (⟨some d, .call { callee := .builtin .append, args := #[x, y], argTypes := #[T, T] }, ty, pos, after, none⟩ :: l) Q ρ h := by
 refine Mb (h1 := h1) (h2 := h2) (n := xs.length) (rows := ys.map f) hT he hz (blt h0) (AF hx) (AF hy) hh (by simpa using hb) (by simpa using hm) (fun t ht => by cases ht; exact blt hd) fun v' => ?_
 refine Lw (h1 := h1) (h2 := h2) rfl fun q hq => ?_
 subst hq
 have := hj q
 rw [Hu]
 unfold AM at this
 rw [List.length_append] at this
 rw [List.length_map]
 exact this
theorem Ur {α : Type} (f : α → List D) {T E : TypeId} {z : Value} {sz eb : Nat} (hT : k.P.underlying T = some (.slice E)) (he : El k.P E z sz eb) (hd : Nat.blt d k.n = true)
 (hj : All fun q : Sl => JL k ops l Q ((d, .val q.v) :: ρ) (AM q.v E sz f [] :: h)) : JL k ops (⟨some d, .buildSlice T 0 #[], ty, pos, after, none⟩ :: l) Q ρ h :=
 Xl f hT he hd ⟨fun v => Lw (h1 := []) rfl fun q e => by subst e; exact hj.get q⟩
end

section
variable {k : Kx} {Q : Exit → Env → H → Prop} {ρ ρ' : Env} {h h' : H} {ops : Array Oper} {listed : Array Bool} {n f i j d : Nat} {op : Op} {ty : TypeId} {pos : String} {after : Array Edge}

theorem Ic {P : Program} {o : Oper} {a : Act} {w : World} {K K' : Act → World → Prop} {Q Q' : Exit → Act → World → Prop} (hK : ∀ a w, K a w → K' a w) (hQ : ∀ e a w, e ≠ .normal → ¬ Q e a w) (h : o.wp P a w K Q) : o.wp P a w K' Q' := by
 unfold Oper.wp at *
 generalize (execOp a.eval o).run P w = r at *
 cases r with
 | ok n w' =>
   cases n <;> simp only [Oper.upon] at h ⊢
   case value u => exact hK _ _ h
   case skip => exact hK _ _ h
   case defer d => exact hK _ _ h
   case enter f args =>
    refine Calls.mono h fun e w'' he => ?_
    cases e with
    | returned u => exact hK _ _ he
    | panicked c => exact absurd he (hQ _ _ _ (by simp))
    | outgrown => obtain ⟨_, _, hf⟩ := he; exact absurd hf (hQ _ _ _ (by simp))
   case row row args => exact Rows.mono h fun u w'' he => hK _ _ he
 | halt x w' =>
   cases x <;> simp only [Oper.upon] at h ⊢
   case panic u => exact absurd h (hQ _ _ _ (by simp))
structure JX (k : Kx) (ops : Array Oper) (f : Nat) (listed : Array Bool) (Q : Exit → Env → H → Prop) (ρ : Env) (h : H) : Prop where
 get : Region.noSelect ops = true → HeadInv .any ops ops.size listed → ∀ I a w, Ok k.c I h w → SF k.n w I ρ a → a.defers = k.df →
  HA k.P .any ops (fun _ => True) ops.size (fun listed' a' w' => Region.ready .any ops listed' = [] ∧ lift k Q .normal a' w') f listed a w

theorem OL {id : Nat} {l : List Oper} {P : Program} (hm : P.follows .mixedOrders = true) (hP : k.P = P) (hn : l.length = n) (hs : Region.noSelect l.toArray = true)
 (hj : JX k l.toArray n (Array.replicate l.length false) Q ρ h) : J k (.region id l.toArray true) Q ρ h := by
 subst hP
 subst hn
 intro I a w h1 h2 h3
 refine wp_region_any hm ?_
 have hsm : F5 I h w { w with drawn := w.drawn + 1 } := ⟨rfl, rfl, rfl, Nat.le_refl _, fun _ _ => rfl⟩
 have inv0 : HeadInv .any l.toArray l.toArray.size (Array.replicate l.length false) :=
  ⟨by simp, fun j oj _ hl => (by rw [getD_replicate_false] at hl; cases hl), fun t _ ht => getD_in (by simpa using ht) (getD_replicate_false _ _)⟩
 have H := hj.get hs inv0 I a _ (h1.same hsm) (SF.same h1 hsm h2) h3
 have K := Gd (Q := lift k Q) (g := 0) (fun listed' a' w' hL => ⟨hL.1, hL.2⟩) _ _ _ _ H
 simpa using K
theorem X9 (hr : Region.ready .any ops listed = []) (hj : Q .normal ρ h) : JX k ops 0 listed Q ρ h := ⟨fun _ _ I _ _ h1 h2 h3 => ⟨hr, I, ρ, h, h1, h2, h3, hj⟩⟩
theorem Xz (hn : Region.ready .any ops listed ≠ []) (hall : ∀ i ∈ Region.ready .any ops listed, ∃ o, ops[i]? = some o ∧ JL k ops [o] (fun e ρ' h' => e = .normal ∧ JX k ops f (listed.setIfInBounds i true) Q ρ' h') ρ h) : JX k ops (f + 1) listed Q ρ h := by
 refine ⟨fun hs inv I a w h1 h2 h3 => ⟨hn, fun i hi => ?_⟩⟩
 obtain ⟨o, ho, hj⟩ := hall i hi
 have hin : i < ops.size := (Array.getElem?_eq_some_iff.1 ho).1
 refine ⟨hin, ?_⟩
 have H := hj I a w h1 h2 h3
 unfold wpOp
 rw [ho]
 dsimp only
 have hK : ∀ a' w', lift k (fun e ρ' h' => e = .normal ∧ JX k ops f (listed.setIfInBounds i true) Q ρ' h') .normal a' w' → True ∧ HA k.P .any ops (fun _ => True) ops.size (fun listed' a' w' => Region.ready .any ops listed' = [] ∧ lift k Q .normal a' w') f (listed.setIfInBounds i true) a' w' := by
  rintro a' w' ⟨I', ρ', h', q1, q2, q3, _, q4⟩
  exact ⟨trivial, q4.get hs (inv.set hi hin) I' a' w' q1 q2 q3⟩
 have hQ : ∀ e a' w', e ≠ .normal → ¬ lift k (fun e ρ' h' => e = .normal ∧ JX k ops f (listed.setIfInBounds i true) Q ρ' h') e a' w' := by
  rintro e a' w' he ⟨_, _, _, _, _, _, q, _⟩
  exact he q
 rw [wpList] at H
 by_cases hw : Region.wanted o (yielded ops a.tmps) = true
 · rw [if_pos hw] at H ⊢
   rcases H with H | ⟨_, a', w', H⟩
   · exact .inl (Ic hK hQ H)
   · exact absurd H (hQ _ _ _ (by simp))
 · rw [if_neg hw] at H ⊢
   exact hK _ _ H
theorem Oa {o : Oper} {r : AV} (ho : ops[i]? = some o) (hc : HE ops listed ops.size i = true) (hd : ∀ t, o.dst = some t → t < k.n)
 (hy : ∀ I a w, Ok k.c I h w → SF k.n w I ρ a → ∃ v, AV.rel w I r v ∧ YieldsIf k.P ops (fun _ => True) o v a)
 (hj : JX k ops f (listed.setIfInBounds i true) Q (put ρ o.dst r) h) : JX k ops (f + 1) listed Q ρ h := by
 refine ⟨fun hs inv I a w h1 h2 h3 => ?_⟩
 simp only [HE, Bool.and_eq_true, decide_eq_true_eq] at hc
 obtain ⟨⟨hr, hf⟩, hin⟩ := hc
 have hr' : i ∈ Region.ready .any ops listed := by simpa using hr
 obtain ⟨v, hv, hyv⟩ := hy I a w h1 h2
 exact KJ ho (Region.noSelect_spec hs) (fun _ _ _ j hj => by obtain ⟨_, o, ho, _⟩ := mem_ready.1 hj; exact (Array.getElem?_eq_some_iff.1 ho).1) hin (fun _ _ _ hL j hj => by rw [hL.1] at hj; cases hj) f listed a w inv (Region.free_spec ho hf) hr' hyv trivial
  (hj.get hs (inv.set hr' hin) I _ w h1 (h2.put hd hv) (by rw [Act.defers_put]; exact h3))
theorem XZ {x : Operand} {r : AV} (ho : ops[i]? = some ⟨some d, .move x, ty, pos, after, none⟩) (hc : HE ops listed ops.size i = true) (hx : evO ρ x = some r) (hd : Nat.blt d k.n = true)
 (hj : JX k ops f (listed.setIfInBounds i true) Q ((d, r) :: ρ) h) : JX k ops (f + 1) listed Q ρ h :=
 Oa ho hc (fun t ht => by cases ht; exact blt hd) (fun _ a _ _ h2 => ⟨a.eval x, BY (h2.ev x) (AF hx), .inl ⟨by simp [Region.wanted], fun _ _ => rfl⟩⟩) hj
structure Stop (p : Prop) : Prop where
 get : p
theorem LU {X : Type} {x : Code} (S : X → Env) (G : X → H) (hx : J k x (fun e ρ' h' => e = .normal ∧ ∃ y, VS ρ' h' (S y) (G y)) ρ h) (hq : ∀ y, Q .normal (S y) (G y)) : J k x Q ρ h := by
 intro I a w h1 h2 h3
 refine wp_mono (hx I a w h1 h2 h3) ?_
 rintro e a' w' ⟨I', ρ', h', k1, k2, k3, rfl, y, hv⟩
 obtain ⟨I'', k4, k5⟩ := hv k.c I' k.n a' w' k1 k2
 exact ⟨I'', S y, G y, k4, k5, k3, hq y⟩
end

inductive Upd (e e' : Ent) : H → H → Prop where
 | here {h : H} : Upd e e' (e :: h) (e' :: h)
 | there {x : Ent} {h h' : H} (u : Upd e e' h h') : Upd e e' (x :: h) (x :: h')
theorem Upd.split {e e' : Ent} {h h' : H} (u : Upd e e' h h') : ∃ h1 h2, h = h1 ++ e :: h2 ∧ h' = h1 ++ e' :: h2 := by
 induction u with
 | here => exact ⟨[], _, rfl, rfl⟩
 | there _ ih =>
   obtain ⟨h1, h2, rfl, rfl⟩ := ih
   exact ⟨_ :: h1, h2, rfl, rfl⟩
theorem Upd.perm {e e' : Ent} {h h' : H} (u : Upd e e' h h') : ∃ r, h.Perm (e :: r) ∧ h'.Perm (e' :: r) := by
 obtain ⟨h1, h2, rfl, rfl⟩ := u.split
 exact ⟨h1 ++ h2, List.perm_middle, List.perm_middle⟩
inductive Sel (e : Ent) : H → H → Prop where
 | here {h : H} : Sel e (e :: h) h
 | there {x : Ent} {h h' : H} (u : Sel e h h') : Sel e (x :: h) (x :: h')
theorem Sel.perm {e : Ent} {h h' : H} (u : Sel e h h') : h.Perm (e :: h') := by
 induction u with
 | here => exact List.Perm.refl _
 | there _ ih => exact (ih.cons _).trans (List.Perm.swap ..)
inductive Take : H → H → H → Prop where
 | nil {h : H} : Take h [] h
 | cons {e : Ent} {h h1 hc hr : H} (s : Sel e h h1) (t : Take h1 hc hr) : Take h (e :: hc) hr
theorem Take.perm {h hc hr : H} (t : Take h hc hr) : h.Perm (hc ++ hr) := by
 induction t with
 | nil => exact List.Perm.refl _
 | cons s _ ih => exact s.perm.trans (ih.cons _)
inductive App : H → H → H → Prop where
 | nil {h : H} : App [] h h
 | cons {e : Ent} {a h h' : H} (p : App a h h') : App (e :: a) h (e :: h')
theorem App.eq {a h h' : H} (p : App a h h') : h' = a ++ h := by
 induction p with
 | nil => rfl
 | cons _ ih => rw [ih]; rfl

section
variable {k : Kx} {Q : Exit → Env → H → Prop} {ρ ρ' : Env} {h h' hr : H} {ops : Array Oper} {l : List Oper} {d : Nat} {dst : Option Tmp} {ty : TypeId} {pos : String} {after : Array Edge}

theorem VS.take {hc : H} (t : Take h hc hr) (hle : Env.le ρ ρ') : VS ρ h ρ' hc := VS.trans (VS.perm t.perm) (VS.trans (VS.drop (List.sublist_append_left hc hr)) (VS.of_le hle))

theorem js_u {T T0 : TypeId} {x y : Operand} {b off : Nat} {r : AV} {vs : List AV} {z : Value} {eb : Nat} (hx : evO ρ x = some (.val (.pointer (some ⟨b, off, none⟩)))) (hy : evO ρ y = some r) (hs : r.flat = true) (hE : El k.P T z 1 eb)
 (hu : Upd (.cells b T0 vs) (.cells b T0 (vs.set off r)) h h') (hl : Nat.blt off vs.length = true)
 (hj : JL k ops l Q ρ h') : JL k ops (⟨none, .store T x y, ty, pos, after, none⟩ :: l) Q ρ h := by
 obtain ⟨h1, h2, rfl, rfl⟩ := hu.split
 exact Q7 hx hy hs hE rfl (blt hl) hj
theorem Zy {α : Type} {f : α → AV} {T T0 : TypeId} {x y : Operand} {b off : Nat} {a : α} {vs : List α} {z : Value} {eb : Nat} (hx : evO ρ x = some (.val (.pointer (some ⟨b, off, none⟩))))
 (hu : Upd (.cells b T0 (vs.map f)) (.cells b T0 ((vs.set off a).map f)) h h') (hy : evO ρ y = some (f a)) (hs : (f a).flat = true) (hE : El k.P T z 1 eb) (hl : off < vs.length)
 (hj : JL k ops l Q ρ h') : JL k ops (⟨none, .store T x y, ty, pos, after, none⟩ :: l) Q ρ h := by
 obtain ⟨h1, h2, rfl, rfl⟩ := hu.split
 exact Zs hx rfl hy hs hE hl hj
theorem aJ {T T0 : TypeId} {x y : Operand} {b : Nat} {cs vs : List AV} {z : Value} {sz eb : Nat} (hx : evO ρ x = some (.val (.pointer (some ⟨b, 0, none⟩)))) (hy : evO ρ y = some (.agg cs)) (hs : cs.all AV.flat = true) (hE : El k.P T z sz eb) (hn : sz = cs.length)
 (hu : Upd (.cells b T0 vs) (.cells b T0 cs) h h') (hl : vs.length = cs.length)
 (hj : JL k ops l Q ρ h') : JL k ops (⟨none, .store T x y, ty, pos, after, none⟩ :: l) Q ρ h := by
 obtain ⟨h1, h2, rfl, rfl⟩ := hu.split
 exact Vq hx hy hs hE hn hl rfl hj
inductive Hm : List AV → Nat → List AV → List AV → Prop where
 | nil {l : List AV} : Hm l 0 [] l
 | put {x c : AV} {l cs l' : List AV} (h : Hm l 0 cs l') : Hm (x :: l) 0 (c :: cs) (c :: l')
 | skip {x : AV} {l cs l' : List AV} {n : Nat} (h : Hm l n cs l') : Hm (x :: l) (n + 1) cs (x :: l')
theorem Hm.eq {l cs l' : List AV} {n : Nat} (h : Hm l n cs l') : l' = setAt l n cs ∧ n + cs.length ≤ l.length := by
 induction h with
 | nil => simp [setAt]
 | put _ ih =>
   obtain ⟨rfl, h2⟩ := ih
   refine ⟨by simp [setAt, Nat.add_comm], by simp at h2 ⊢; omega⟩
 | skip _ ih =>
   obtain ⟨rfl, h2⟩ := ih
   refine ⟨by simp [setAt, Nat.add_right_comm], by simp at h2 ⊢; omega⟩
theorem Z6 {T T0 : TypeId} {x y : Operand} {b off : Nat} {r : AV} {vs vs' : List AV} {z : Value} {eb : Nat} (hx : evO ρ x = some (.val (.pointer (some ⟨b, off, none⟩)))) (hy : evO ρ y = some r) (hs : r.flat = true) (hE : El k.P T z 1 eb)
 (hu : Upd (.cells b T0 vs) (.cells b T0 vs') h h') (hv : Hm vs off [r] vs')
 (hj : JL k ops l Q ρ h') : JL k ops (⟨none, .store T x y, ty, pos, after, none⟩ :: l) Q ρ h := by
 obtain ⟨h1, h2, rfl, rfl⟩ := hu.split
 obtain ⟨rfl, hl⟩ := hv.eq
 simp only [List.length_cons, List.length_nil] at hl
 refine Q7 hx hy hs hE rfl (by omega) ?_
 rw [← H3 _ _ _ (by omega)]
 exact hj
theorem Z9 {α : Type} {f : α → List D} {xs ys : List α} {T E : TypeId} {x y : Operand} {z : Value} {sz eb eb' : Nat} {v : Value} {H' : Sl → H} (hx : evO ρ x = some (.val v)) (hT : k.P.underlying T = some (.slice E)) (he : El k.P E z sz eb)
 (hu : ∀ q : Sl, Upd (AM v E sz f xs) (AM q.v E sz f (xs ++ ys)) h (H' q)) (hy : evO ρ y = some (.d (.l sz eb' (ys.map f)))) (hz : z.cells.size = sz) (h0 : Nat.blt 0 sz = true)
 (hd : Nat.blt d k.n = true) (hb : (xs.length + ys.length) * eb ≤ 140737488355328) (hm : xs.length + ys.length ≤ 140737488355328)
 (hj : All fun q : Sl => JL k ops l Q ((d, .val q.v) :: ρ) (H' q)) :
 JL k ops (⟨some d, .call { callee := .builtin .append, args := #[x, y], argTypes := #[T, T] }, ty, pos, after, none⟩ :: l) Q ρ h := by
 obtain ⟨h1, h2, e1, _⟩ := (hu Sl.nil).split
 refine Z2 (h1 := h1) (h2 := h2) hx e1 hy hT he hz h0 hd hb hm fun q => ?_
 refine KU (VS.perm ?_) (hj.get q)
 obtain ⟨r, p1, p2⟩ := (hu q).perm
 refine List.perm_middle.trans (List.Perm.trans (List.Perm.cons _ ?_) p2.symm)
 rw [e1] at p1
 exact (List.perm_middle.symm.trans p1).cons_inv
theorem Ea {α : Type} {f : α → List D} {xs : List α} {u : α} {T E : TypeId} {x y : Operand} {z : Value} {sz eb eb' : Nat} {v : Value} {H' : Sl → H} (hx : evO ρ x = some (.val v)) (hT : k.P.underlying T = some (.slice E)) (he : El k.P E z sz eb)
 (hu : ∀ q : Sl, Upd (AM v E sz f xs) (AM q.v E sz f (xs ++ [u])) h (H' q)) (hy : evO ρ y = some (.d (.l sz eb' [f u]))) (hz : z.cells.size = sz) (h0 : Nat.blt 0 sz = true)
 (hd : Nat.blt d k.n = true) (hb : (xs.length + 1) * eb ≤ 140737488355328) (hm : xs.length + 1 ≤ 140737488355328)
 (hj : All fun q : Sl => JL k ops l Q ((d, .val q.v) :: ρ) (H' q)) :
 JL k ops (⟨some d, .call { callee := .builtin .append, args := #[x, y], argTypes := #[T, T] }, ty, pos, after, none⟩ :: l) Q ρ h := Z9 (ys := [u]) hx hT he hu hy hz h0 hd hb hm hj

theorem DW {β : Type} {X : β → AV} {en : β → H} {hc : H} {H' : β → H} {f : FuncId} {xs : Array Operand} {ats : Array TypeId} {args : List AV} (hargs : Io ρ xs.toList = some args) (hcal : Cal k.P f) (hac : AC k.P k.c.G f args hc fun r h => ∃ v, r = .ret (X v) ∧ h = en v)
 (ht : Take h hc hr) (hd : Nat.blt d k.n = true) (ha : ∀ v, App (en v) hr (H' v)) (hj : All fun v => JL k ops l Q ((d, X v) :: ρ) (H' v)) :
 JL k ops (⟨some d, .call { callee := .value (.func f), args := xs, argTypes := ats }, ty, pos, after, none⟩ :: l) Q ρ h :=
 KU (VS.perm ht.perm) (PB (hc := hc) (hr := hr) hargs hcal rfl hac hd (fun r h' hq => by obtain ⟨v, e1, e2⟩ := hq; cases e1; subst e2; rw [← (ha v).eq]; exact hj.get v) (fun ch h' hq => by obtain ⟨v, e1, _⟩ := hq; cases e1))
theorem Wt {f : FuncId} {x : Operand} {xs : Array Operand} {ats : Array TypeId} {caps : Array Value} {es : List AV} {hc hr : H} {R : AE → H → Prop} (hf : evO ρ x = some (.val (.func (.func f) #[] caps))) (hxs : Io ρ xs.toList = some es) (hcal : Cal k.P f) (hac : AC k.P k.c.G f (es ++ caps.toList.map AV.val) hc R) (hs : h = hc ++ hr) (hd : ∀ t, dst = some t → t < k.n)
 (hret : ∀ r h', R (.ret r) h' → JL k ops l Q (put ρ dst r) (h' ++ hr)) (hpan : ∀ ch h', R (.pan ch) h' → Q (.panic ch) ρ (h' ++ hr)) :
 JL k ops (⟨dst, .call { callee := .value x, args := xs, argTypes := ats }, ty, pos, after, none⟩ :: l) Q ρ h := by
 intro I a w h1 h2 h3
 subst hs
 refine wpList_plain rfl fun K hK => ?_
 unfold Oper.wp
 rw [Fe (AP (h2.ev x) (AF hf)), hcal]
 simp only [Oper.upon]
 have hr' : AV.rels w I (es ++ caps.toList.map AV.val) (xs.toList.map a.eval ++ caps.toList) := AV.rels_append (by rw [← C9 hxs]; exact FU h2 xs.toList) (Gq w I _)
 refine (hac I w _ (fun e he => h1.ent e (List.mem_append.2 (.inl he))) ?_ ?_ (fun q hq => h1.glob q hq) hr').mono ?_
 · have := h1.nd; rw [Ag] at this; exact (List.nodup_append.1 this).1
 · intro b hb
   have := h1.imm b hb
   rw [Ag, List.mem_append] at this
   exact ⟨this.1, fun hm => this.2 (.inl hm)⟩
 · rintro e w' ⟨r, h', I', hR, hok, hrel⟩
   obtain ⟨k1, k2⟩ := h1.call hok
   have hsf : SF k.n w' I' ρ a := h2.mono k2 (fun b hb => hok.sup b hb)
   cases r with
   | ret r =>
     cases e with
     | returned v => exact hK _ _ (hret r h' hR I' _ w' k1 (hsf.put hd hrel) (by rw [Act.defers_put]; exact h3))
     | panicked ch => exact hrel.elim
     | outgrown => exact hrel.elim
   | pan ch =>
     cases e with
     | returned v => exact hrel.elim
     | panicked ch' => subst hrel; exact ⟨I', ρ, h' ++ hr, k1, hsf, h3, hpan _ _ hR⟩
     | outgrown => exact hrel.elim
theorem DD {β : Type} {X : β → AV} {en : β → H} {hc : H} {H' : β → H} {f : FuncId} {x : Operand} {xs : Array Operand} {ats : Array TypeId} {caps : Array Value} {es : List AV} (hf : evO ρ x = some (.val (.func (.func f) #[] caps))) (hxs : Io ρ xs.toList = some es) (hcal : Cal k.P f)
 (hac : AC k.P k.c.G f (es ++ caps.toList.map AV.val) hc fun r h => ∃ v, r = .ret (X v) ∧ h = en v)
 (ht : Take h hc hr) (hd : Nat.blt d k.n = true) (ha : ∀ v, App (en v) hr (H' v)) (hj : All fun v => JL k ops l Q ((d, X v) :: ρ) (H' v)) :
 JL k ops (⟨some d, .call { callee := .value x, args := xs, argTypes := ats }, ty, pos, after, none⟩ :: l) Q ρ h :=
 KU (VS.perm ht.perm) (Wt (hc := hc) (hr := hr) hf hxs hcal hac rfl (fun t ht => by cases ht; exact blt hd) (fun r h' hq => by obtain ⟨v, e1, e2⟩ := hq; cases e1; subst e2; rw [← (ha v).eq]; exact hj.get v) (fun ch h' hq => by obtain ⟨v, e1, _⟩ := hq; cases e1))
end

def Sl.at (q : Sl) (off : Nat) : Addr := ⟨(q.ad.map (·.block)).getD 0, off, none⟩
theorem Ent.row_form {w : World} {I : Nat → Prop} {q : Sl} {n : Nat} {E : TypeId} {sz : Nat} {l : List AV} (h : (Ent.row q.v n E sz l).rel w I) (hn : 0 < n) :
 ∃ g cap cur, q = ⟨some ⟨g, 0, none⟩, n, cap⟩ ∧ w.heap[g]? = some (.cells cur E (0, 0)) ∧ n ≤ cap ∧ cap ≤ maxLen ∧ cur.size = cap * sz ∧ AV.rels w I l (cur.toList.take (n * sz)) := by
 obtain ⟨os, ho, hr⟩ := h
 rcases ho.2 with ⟨_, rfl⟩ | ⟨g, cap, cur, hv, _, hg, h1, h2, h3, rfl⟩
 · omega
 · obtain ⟨ad, m, c⟩ := q
   simp only [Sl.v, Value.slice.injEq] at hv
   obtain ⟨rfl, rfl, rfl⟩ := hv
   exact ⟨g, _, cur, rfl, hg, h1, h2, h3, hr⟩
section
variable {P : Program} {G : List (Nat × List D)} {ρ : Env} {h : H} {dst : Option Tmp} {ty : TypeId} {pos : String} {after : Array Edge} {g : Option (Nat × Bool)}
theorem PJ {α : Type} {f : α → List D} {xs : List α} {sz j u : Nat} {c : D} (hsz : ∀ a, (f a).length = sz) (hj : j < xs.length) (hc : (f xs[j])[u]? = some c) : (((xs.map f).flatten).map D.av)[j * sz + u]? = some c.av := by
 have hu : u < sz := by rw [← hsz xs[j]]; exact (List.getElem?_eq_some_iff.1 hc).1
 have h0 : 0 < sz := by omega
 rw [List.getElem?_map, B9 h0 _ (fun r hr => by obtain ⟨a, _, rfl⟩ := List.mem_map.1 hr; exact hsz a)]
 have e1 : (j * sz + u) / sz = j := by rw [Nat.mul_comm, Nat.mul_add_div (by omega), Nat.div_eq_of_lt hu, Nat.add_zero]
 have e2 : (j * sz + u) % sz = u := by rw [Nat.mul_comm, Nat.mul_add_mod, Nat.mod_eq_of_lt hu]
 rw [e1, e2, List.getElem?_map, List.getElem?_eq_getElem hj]
 simp [hc]
theorem It {α : Type} {f : α → List D} {xs : List α} {T E : TypeId} {x y : Operand} {q : Sl} {n sz eb : Nat} {z : Value} (hx : evO ρ x = some (.val q.v)) (hy : evO ρ y = some (.int (n : Int))) (hT : P.underlying T = some (.slice E)) (hE : El P E z sz eb)
 (hm : AM q.v E sz f xs ∈ h) (hn : n < xs.length) : Pure P G ⟨dst, .indexAddr T x y, ty, pos, after, g⟩ ρ h (.val (.pointer (some (q.at (n * sz))))) := by
 intro c I m a w _ hok hs
 obtain ⟨i, hi, _, hsz, _⟩ := hE.get
 obtain ⟨gb, cap, cur, rfl, _⟩ := Ent.row_form (hok.ent _ hm) (by omega)
 have e1 := AP (hs.ev x) (AF hx)
 have e2 := AP (hs.ev y) (AF hy)
 refine ⟨_, rfl, fun w' _ => ?_⟩
 simp [execOp, e1, e2, Instr.indexAt, run_underlying hT, asIntOf, hn, sizeOf, typeInfo, hi, hsz, Sl.at, Addr.add]
 exact fun h => h.symm
theorem MP {α : Type} {f : α → List D} {xs : List α} {T E : TypeId} {x y : Operand} {q : Sl} {n : Int} {sz eb : Nat} {z : Value} (hx : evO ρ x = some (.val q.v)) (hy : evO ρ y = some (.int n)) (hT : P.underlying T = some (.slice E)) (hE : El P E z sz eb)
 (hm : AM q.v E sz f xs ∈ h) (h0 : 0 ≤ n) (hn : n.toNat < xs.length) : Pure P G ⟨dst, .indexAddr T x y, ty, pos, after, g⟩ ρ h (.val (.pointer (some (q.at (n.toNat * sz))))) :=
 It (n := n.toNat) hx (by rw [Int.toNat_of_nonneg h0]; exact hy) hT hE hm hn
theorem P0 {T E : TypeId} {x y : Operand} {b len cap n : Nat} {eb : Nat} {z : Value} (hx : evO ρ x = some (.val (.slice (some ⟨b, 0, none⟩) len cap))) (hy : evO ρ y = some (.int (n : Int))) (hT : P.underlying T = some (.slice E)) (hE : El P E z 1 eb)
 (h1 : n < len) : Pure P G ⟨dst, .indexAddr T x y, ty, pos, after, g⟩ ρ h (.val (.pointer (some ⟨b, n, none⟩))) := by
 have := Fc (P := P) (G := G) (h := h) (dst := dst) (ty := ty) (pos := pos) (after := after) (g := g) hx hT hE (AF hy) (by omega) (by omega)
 simpa using this
theorem Ob {T E : TypeId} {x y : Operand} {b len cap : Nat} {n : Int} {eb : Nat} {z : Value} (hx : evO ρ x = some (.val (.slice (some ⟨b, 0, none⟩) len cap))) (hy : evO ρ y = some (.int n)) (hT : P.underlying T = some (.slice E)) (hE : El P E z 1 eb)
 (h0 : 0 ≤ n) (h1 : n < len) : Pure P G ⟨dst, .indexAddr T x y, ty, pos, after, g⟩ ρ h (.val (.pointer (some ⟨b, n.toNat, none⟩))) := by
 have := Fc (P := P) (G := G) (h := h) (dst := dst) (ty := ty) (pos := pos) (after := after) (g := g) hx hT hE (AF hy) h0 h1
 simpa using this
theorem Ix {α : Type} {f : α → List D} {xs : List α} {T E : TypeId} {x : Operand} {q : Sl} {j u sz : Nat} {c : D} (hT : BR P T = some false) (hx : evO ρ x = some (.val (.pointer (some (q.at (j * sz + u)))))) (hm : AM q.v E sz f xs ∈ h) (hsz : ∀ a, (f a).length = sz) (hj : j < xs.length) (hc : (f xs[j])[u]? = some c) :
 Pure P G ⟨dst, .load T x, ty, pos, after, g⟩ ρ h c.av := by
 intro cx I m a w _ hok hs
 obtain ⟨gb, cap, cur, rfl, hg, hnc, hcm, hcs, hrel⟩ := Ent.row_form (hok.ent _ hm) (by omega)
 have e1 := AP (hs.ev x) (AF hx)
 obtain ⟨v, hv, hr⟩ := AV.rels_get hrel _ _ (PJ hsz hj hc)
 refine ⟨v, hr, fun w' hw' => ?_⟩
 have hcell : w'.cell? ⟨gb, j * sz + u, none⟩ = some v := by
  have hbk : w'.heap[(⟨gb, j * sz + u, none⟩ : Addr).block]? = w.heap[(⟨gb, j * sz + u, none⟩ : Addr).block]? := hw'.own gb (Dz hm rfl)
  rw [World.cell?_of_block (w := w) hbk]
  have : cur.toList[j * sz + u]? = some v := by
   rw [List.getElem?_take] at hv
   split at hv
   · exact hv
   · cases hv
  simpa [World.cell?, hg] using this
 have e3 : a.eval x = .pointer (some ⟨gb, j * sz + u, none⟩) := e1
 simp [execOp, e3, Instr.loadAt, Instr.sureAddr, loadVar, DL hT, run_load, hcell]
theorem Nz {α : Type} {f : α → List D} {xs : List α} {T E : TypeId} {x : Operand} {q : Sl} {j sz : Nat} {c : D} (hT : BR P T = some false) (hx : evO ρ x = some (.val (.pointer (some (q.at (j * sz)))))) (hm : AM q.v E sz f xs ∈ h) (hsz : ∀ a, (f a).length = sz) (hj : j < xs.length) (hc : (f xs[j])[0]? = some c) :
 Pure P G ⟨dst, .load T x, ty, pos, after, g⟩ ρ h c.av := Ix (u := 0) hT hx hm hsz hj hc
theorem P4 {α : Type} {f : α → AV} {xs : List α} {T T0 : TypeId} {x : Operand} {b off : Nat} (hT : BR P T = some false) (hx : evO ρ x = some (.val (.pointer (some ⟨b, off, none⟩)))) (hh : Ent.cells b T0 (xs.map f) ∈ h) (hl : off < xs.length) : Pure P G ⟨dst, .load T x, ty, pos, after, g⟩ ρ h (f xs[off]) :=
 HG hT (AF hx) hh (by rw [List.getElem?_map, List.getElem?_eq_getElem hl]; rfl)
end
theorem AC.fact {α : Type} {f : α → List D} {xs : List α} {P : Program} {G : List (Nat × List D)} {fn : FuncId} {as_ : List AV} {h : H} {Q : AE → H → Prop} {sz eb : Nat} (hac : xs.length * eb ≤ 140737488355328 → AC P G fn (.d (.l sz eb (xs.map f)) :: as_) h Q) : AC P G fn (.d (.l sz eb (xs.map f)) :: as_) h Q := by
 intro I W vs h1 h2 h3 h4 h5
 cases vs with
 | nil => exact h5.elim
 | cons v vs =>
   have := (Rel.len_le h5.1).1
   rw [List.length_map] at this
   exact hac this I W (v :: vs) h1 h2 h3 h4 h5
section
variable {k : Kx} {Q : Exit → Env → H → Prop} {ρ : Env} {h : H} {ops : Array Oper} {listed : Array Bool} {n f i m d : Nat} {op : Op} {ty : TypeId} {pos : String} {after : Array Edge}
structure JXP (k : Kx) (ops : Array Oper) (n f : Nat) (listed : Array Bool) (i m : Nat) (Q : Exit → Env → H → Prop) (ρ : Env) (h : H) : Prop where
 get : JX k ops f listed Q ρ h
structure JXS (k : Kx) (ops : Array Oper) (n f : Nat) (listed : Array Bool) (i m : Nat) (Q : Exit → Env → H → Prop) (ρ : Env) (h : H) : Prop where
 get : ∀ j, i ≤ j → j < i + m → j ∈ Region.ready .any ops listed → ∃ o, ops[j]? = some o ∧ JL k ops [o] (fun e ρ' h' => e = .normal ∧ JXP k ops n f (listed.setIfInBounds j true) 0 n Q ρ' h') ρ h
theorem Wa (hn : Region.ready .any ops listed ≠ []) (hall : ∀ i ∈ Region.ready .any ops listed, ∃ o, ops[i]? = some o ∧ JL k ops [o] (fun e ρ' h' => e = .normal ∧ JXP k ops n f (listed.setIfInBounds i true) 0 n Q ρ' h') ρ h) : JX k ops (f + 1) listed Q ρ h := by
 refine ⟨fun hs inv I a w h1 h2 h3 => ⟨hn, fun i hi => ?_⟩⟩
 obtain ⟨o, ho, hj⟩ := hall i hi
 have hin : i < ops.size := (Array.getElem?_eq_some_iff.1 ho).1
 refine ⟨hin, ?_⟩
 have H := hj I a w h1 h2 h3
 unfold wpOp
 rw [ho]
 dsimp only
 have hK : ∀ a' w', lift k (fun e ρ' h' => e = .normal ∧ JXP k ops n f (listed.setIfInBounds i true) 0 n Q ρ' h') .normal a' w' → True ∧ HA k.P .any ops (fun _ => True) ops.size (fun listed' a' w' => Region.ready .any ops listed' = [] ∧ lift k Q .normal a' w') f (listed.setIfInBounds i true) a' w' := by
  rintro a' w' ⟨I', ρ', h', q1, q2, q3, _, q4⟩
  exact ⟨trivial, q4.get.get hs (inv.set hi hin) I' a' w' q1 q2 q3⟩
 have hQ : ∀ e a' w', e ≠ .normal → ¬ lift k (fun e ρ' h' => e = .normal ∧ JXP k ops n f (listed.setIfInBounds i true) 0 n Q ρ' h') e a' w' := by
  rintro e a' w' he ⟨_, _, _, _, _, _, q, _⟩
  exact he q
 rw [wpList] at H
 by_cases hw : Region.wanted o (yielded ops a.tmps) = true
 · rw [if_pos hw] at H ⊢
   rcases H with H | ⟨_, a', w', H⟩
   · exact .inl (Ic hK hQ H)
   · exact absurd H (hQ _ _ _ (by simp))
 · rw [if_neg hw] at H ⊢
   exact hK _ _ H
theorem JZ {id : Nat} {l : List Oper} {P : Program} (hm : P.follows .mixedOrders = true) (hP : k.P = P) (hn : l.length = n) (hs : Region.noSelect l.toArray = true)
 (hj : JXP k l.toArray n n (Array.replicate n false) 0 n Q ρ h) : J k (.region id l.toArray true) Q ρ h := by
 subst hn
 exact OL hm hP rfl hs hj.get
theorem PE {x : Operand} {r : AV} (ho : ops[i]? = some ⟨some d, .move x, ty, pos, after, none⟩) (hc : HE ops listed ops.size i = true) (hx : evO ρ x = some r) (hd : Nat.blt d k.n = true)
 (hj : JXP k ops n f (listed.setIfInBounds i true) 0 n Q ((d, r) :: ρ) h) : JXP k ops n (f + 1) listed i (m + 1) Q ρ h := ⟨XZ ho hc hx hd hj.get⟩
theorem QA (hj : JXP k ops n f listed (i + 1) m Q ρ h) : JXP k ops n f listed i (m + 1) Q ρ h := ⟨hj.get⟩
theorem Vh (hr : Region.ready .any ops listed = []) (hj : Q .normal ρ h) : JXP k ops n 0 listed i m Q ρ h := ⟨X9 hr hj⟩
theorem Xi (hne : (Region.ready .any ops listed).isEmpty = false) (hs : ops.size = n) (hj : JXS k ops n f listed 0 n Q ρ h) : JXP k ops n (f + 1) listed i 0 Q ρ h :=
 ⟨Wa (fun e => by rw [e] at hne; cases hne) fun j hr => by
  obtain ⟨_, o, ho, _⟩ := mem_ready.1 hr
  have := (Array.getElem?_eq_some_iff.1 ho).1
  exact hj.get j (Nat.zero_le _) (by omega) hr⟩
theorem Xy (_ht : True) : JXS k ops n f listed i 0 Q ρ h := ⟨fun j h1 h2 => by omega⟩
theorem Zq (hc : (Region.ready .any ops listed).contains i = false) (hj : JXS k ops n f listed (i + 1) m Q ρ h) : JXS k ops n f listed i (m + 1) Q ρ h :=
 ⟨fun j h1 h2 hr => by
  by_cases e : j = i
  · subst e
    have : (Region.ready .any ops listed).contains j = true := by simpa using hr
    rw [this] at hc; cases hc
  · exact hj.get j (by omega) (by omega) hr⟩
theorem YJ {o : Oper} (ho : ops[i]? = some o) (hd : JL k ops [o] (fun e ρ' h' => e = .normal ∧ JXP k ops n f (listed.setIfInBounds i true) 0 n Q ρ' h') ρ h) (hj : JXS k ops n f listed (i + 1) m Q ρ h) : JXS k ops n f listed i (m + 1) Q ρ h :=
 ⟨fun j h1 h2 hr => by
  by_cases e : j = i
  · subst e
    exact ⟨o, ho, hd⟩
  · exact hj.get j (by omega) (by omega) hr⟩
theorem UN {dst : Option Tmp} {g : Option (Nat × Bool)} (ho : ops[i]? = some ⟨dst, op, ty, pos, after, g⟩) (hj : Two (JL k ops [⟨dst, op, ty, pos, after, g⟩] (fun e ρ' h' => e = .normal ∧ JXP k ops n f (listed.setIfInBounds i true) 0 n Q ρ' h') ρ h) (JXS k ops n f listed (i + 1) m Q ρ h)) : JXS k ops n f listed i (m + 1) Q ρ h := YJ ho hj.fst hj.snd
theorem aI {p : Prop} (hp : p) : Exit.normal = Exit.normal ∧ p := ⟨rfl, hp⟩
end

theorem Ok.reent {c : Cx} {I : Nat → Prop} {h1 h2 : H} {e e' : Ent} {w : World} (k : Ok c I (h1 ++ e :: h2) w) (hb : e'.blk = e.blk) (he : e'.rel w I) : Ok c I (h1 ++ e' :: h2) w := by
 have hblk : blks (h1 ++ e' :: h2) = blks (h1 ++ e :: h2) := by
  simp only [blks, List.filterMap_append, List.filterMap_cons, hb]
 refine { k with ent := fun x hx => ?_, nd := by rw [hblk]; exact k.nd, imm := fun b hb' => by rw [hblk]; exact k.imm b hb', new := fun b hb' => k.new b (by rw [← hblk]; exact hb') }
 rcases List.mem_append.1 hx with hx | hx
 · exact k.ent x (List.mem_append.2 (.inl hx))
 · rcases List.mem_cons.1 hx with rfl | hx
   · exact he
   · exact k.ent x (List.mem_append.2 (.inr (List.mem_cons_of_mem _ hx)))
section
variable {k : Kx} {Q : Exit → Env → H → Prop} {ρ ρ' : Env} {h h' h1 h2 hr : H} {ops : Array Oper} {l : List Oper} {d : Nat} {dst : Option Tmp} {ty : TypeId} {pos : String} {after : Array Edge}
theorem Xa {q : Sl} {n : Nat} {E : TypeId} {sz : Nat} {cs : List AV} (hn : 0 < n)
 (hj : ∀ (g cap : Nat) (js : List Value), q = ⟨some ⟨g, 0, none⟩, n, cap⟩ → n ≤ cap → cap ≤ maxLen → cs.length = n * sz → cs.length + js.length = cap * sz → JL k ops l Q ρ (h1 ++ .cells g E (cs ++ js.map AV.val) :: h2)) :
 JL k ops l Q ρ (h1 ++ .row q.v n E sz cs :: h2) := by
 intro I a w k1 k2 k3
 have he := k1.ent (.row q.v n E sz cs) (by simp)
 obtain ⟨g, cap, cur, rfl, hg, m1, m2, m3, hrel⟩ := Ent.row_form he hn
 have hl : cs.length = n * sz := by
  have h1 := AV.rels_length hrel
  have h2 : n * sz ≤ cap * sz := Nat.mul_le_mul_right _ m1
  rw [List.length_take, Array.length_toList (xs := cur), m3] at h1
  omega
 have e := hj g cap (cur.toList.drop (n * sz)) rfl m1 m2 hl (by rw [hl, List.length_drop, Array.length_toList (xs := cur), m3]; have h2 : n * sz ≤ cap * sz := Nat.mul_le_mul_right _ m1; omega)
 refine e I a w (k1.reent rfl ⟨cur, hg, ?_⟩) k2 k3
 have := AV.rels_append hrel (ED w I (cur.toList.drop (n * sz)))
 rwa [List.take_append_drop] at this
theorem Vn {g cap n : Nat} {E : TypeId} {sz : Nat} {cs : List AV} {js : List Value} (m1 : n ≤ cap) (m2 : cap ≤ maxLen) (hl : cs.length = n * sz) (hc : cs.length + js.length = cap * sz)
 (hj : JL k ops l Q ρ (h1 ++ .row (.slice (some ⟨g, 0, none⟩) n cap) n E sz cs :: h2)) : JL k ops l Q ρ (h1 ++ .cells g E (cs ++ js.map AV.val) :: h2) := by
 intro I a w k1 k2 k3
 obtain ⟨cur, hg, hrel⟩ := k1.ent (.cells g E (cs ++ js.map AV.val)) (by simp)
 have hlen := AV.rels_length hrel
 rw [List.length_append, List.length_map, Array.length_toList (xs := cur)] at hlen
 refine hj I a w (k1.reent rfl ⟨cur.toList.take (n * sz), ⟨?_, .inr ⟨g, cap, cur, rfl, Nat.zero_le _, hg, m1, m2, by omega, rfl⟩⟩, ?_⟩) k2 k3
 · rw [List.length_take, Array.length_toList (xs := cur)]; omega
 · have := DK (n * sz) hrel
   rwa [List.take_append_of_le_length (by omega), List.take_of_length_le (by omega)] at this
theorem Qd {cs js rs : List AV} {off : Nat} (h : off + rs.length ≤ cs.length) : setAt (cs ++ js) off rs = setAt cs off rs ++ js := by
 unfold setAt
 rw [List.take_append_of_le_length (by omega), List.drop_append_of_le_length h]
 simp [List.append_assoc]
theorem MV {T E : TypeId} {x y : Operand} {q : Sl} {off n sz0 : Nat} {r : AV} {cs : List AV} {z : Value} {sz eb : Nat} (hx : ev ρ x = .val (.pointer (some (q.at off)))) (hy : ev ρ y = r) (hs : r.stor = true) (hE : El k.P T z sz eb) (hn : sz = r.cl.length) (h0 : 0 < n)
 (hoff : off + r.cl.length ≤ cs.length) (hj : JL k ops l Q ρ (h1 ++ .row q.v n E sz0 (setAt cs off r.cl) :: h2)) : JL k ops (⟨none, .store T x y, ty, pos, after, none⟩ :: l) Q ρ (h1 ++ .row q.v n E sz0 cs :: h2) := by
 refine Xa h0 fun g cap js hq m1 m2 m3 m4 => ?_
 subst hq
 refine HT (b := g) (off := off) (r := r) (vs := cs ++ js.map AV.val) hx hy hs hE hn rfl (by rw [List.length_append]; omega) ?_
 rw [Qd hoff]
 have hl : (setAt cs off r.cl).length = cs.length := by
  unfold setAt
  simp only [List.length_append, List.length_take, List.length_drop]
  omega
 exact Vn m1 m2 (by rw [hl]; exact m3) (by rw [hl]; exact m4) hj
theorem L2 {α : Type} {f : α → List D} {sz : Nat} (hsz : ∀ a, (f a).length = sz) : ∀ (xs : List α) (j : Nat) (a : α), j < xs.length → setAt (((xs.map f).flatten).map D.av) (j * sz) ((f a).map D.av) = (((xs.set j a).map f).flatten).map D.av
 | [], j, a, h => by simp at h
 | x :: xs, 0, a, _ => by
   have e : ((f x).map D.av).length = sz := by rw [List.length_map, hsz]
   have e' : ((f a).map D.av).length = sz := by rw [List.length_map, hsz]
   simp only [setAt, Nat.zero_mul, List.take_zero, List.nil_append, Nat.zero_add, List.map_cons, List.flatten_cons, List.map_append, List.set_cons_zero]
   rw [e', ← e, List.drop_left]
 | x :: xs, j + 1, a, h => by
   have ih := L2 hsz xs j a (by simpa using h)
   have e : ((f x).map D.av).length = sz := by rw [List.length_map, hsz]
   simp only [List.map_cons, List.flatten_cons, List.map_append, List.set_cons_succ]
   rw [← ih]
   unfold setAt
   have e2 : (j + 1) * sz = ((f x).map D.av).length + j * sz := by rw [e, Nat.add_mul]; omega
   rw [e2, List.take_length_add_append, Nat.add_assoc, List.drop_length_add_append]
   simp [List.append_assoc]
theorem Yw {α : Type} {f : α → List D} {xs : List α} {a : α} {T E : TypeId} {x y : Operand} {q : Sl} {j sz : Nat} {r : AV} {z : Value} {eb : Nat} (hx : evO ρ x = some (.val (.pointer (some (q.at (j * sz)))))) (hy : evO ρ y = some r) (hu : Upd (AM q.v E sz f xs) (AM q.v E sz f (xs.set j a)) h h') (hr : r.cl = (f a).map D.av) (hs : r.stor = true) (hE : El k.P T z sz eb) (hsz : ∀ a, (f a).length = sz) (hjl : j < xs.length)
 (hj : JL k ops l Q ρ h') : JL k ops (⟨none, .store T x y, ty, pos, after, none⟩ :: l) Q ρ h := by
 obtain ⟨h1, h2, rfl, rfl⟩ := hu.split
 have hfl : ((((xs.map f).flatten).map D.av)).length = xs.length * sz := by
  rw [List.length_map, Bx _ (fun r hr => by obtain ⟨a, _, rfl⟩ := List.mem_map.1 hr; exact hsz a), List.length_map]
 have hlen : r.cl.length = sz := by rw [hr, List.length_map, hsz]
 refine MV (off := j * sz) (r := r) (AF hx) (AF hy) hs hE hlen.symm (by omega) ?_ ?_
 · rw [hfl, hlen]
   have : (j + 1) * sz ≤ xs.length * sz := Nat.mul_le_mul_right _ (by omega)
   rw [Nat.add_mul] at this
   omega
 · rw [hr, L2 hsz xs j a hjl]
   unfold AM at hj
   rwa [List.length_set] at hj
theorem XK {α : Type} {f : α → List D} {xs : List α} {a : α} {T E : TypeId} {x y : Operand} {q : Sl} {j : Nat} {r : AV} {z : Value} {eb : Nat} (hx : evO ρ x = some (.val (.pointer (some (q.at (j * 1)))))) (hy : evO ρ y = some r) (hE : El k.P T z 1 eb) (hs : r.flat = true) (hu : Upd (AM q.v E 1 f xs) (AM q.v E 1 f (xs.set j a)) h h') (hr : [r] = (f a).map D.av) (hsz : ∀ a, (f a).length = 1) (hjl : j < xs.length)
 (hj : JL k ops l Q ρ h') : JL k ops (⟨none, .store T x y, ty, pos, after, none⟩ :: l) Q ρ h :=
 Yw hx hy hu (by rw [(OO hs).1]; exact hr) (OO hs).2 hE hsz hjl hj
theorem ZS {α : Type} {f : α → List D} {xs : List α} {T E : TypeId} {x hi : Operand} {q : Sl} {n : Int} {sz eb : Nat} {z : Value} {H' : Sl → H} (hx : evO ρ x = some (.val q.v)) (hhi : evO ρ hi = some (.int n)) (hT : k.P.underlying T = some (.slice E)) (hE : El k.P E z sz eb)
 (hu : ∀ q' : Sl, Upd (AM q.v E sz f xs) (AM q'.v E sz f (xs.take n.toNat)) h (H' q')) (hsz : ∀ a, (f a).length = sz) (h0 : 0 ≤ n) (hn : n ≤ xs.length) (hd : Nat.blt d k.n = true)
 (hj : All fun q' : Sl => JL k ops l Q ((d, .val q'.v) :: ρ) (H' q')) : JL k ops (⟨some d, .slice T x none (some hi) none, ty, pos, after, none⟩ :: l) Q ρ h := by
 obtain ⟨h1, h2, e1, _⟩ := (hu Sl.nil).split
 have hperm : ∀ q' : Sl, (h1 ++ AM q'.v E sz f (xs.take n.toNat) :: h2).Perm (H' q') := fun q' => by
  obtain ⟨r, p1, p2⟩ := (hu q').perm
  refine List.perm_middle.trans (List.Perm.trans (List.Perm.cons _ ?_) p2.symm)
  rw [e1] at p1
  exact (List.perm_middle.symm.trans p1).cons_inv
 subst e1
 obtain ⟨i, hi', _, hsz', _⟩ := hE.get
 refine Ed rfl (fun t ht => by cases ht; exact blt hd) fun I a w k1 k2 => ?_
 have v1 := AP (k2.ev x) (AF hx)
 have v2 := AP (k2.ev hi) (AF hhi)
 have hfl : ∀ ys : List α, ((((ys.map f).flatten).map D.av)).length = ys.length * sz := fun ys => by
  rw [List.length_map, Bx _ (fun r hr => by obtain ⟨a, _, rfl⟩ := List.mem_map.1 hr; exact hsz a), List.length_map]
 have htake : (((xs.take n.toNat).map f).flatten).map D.av = ((((xs.map f).flatten).map D.av)).take (n.toNat * sz) := by
  have hl0 : ((((xs.take n.toNat).map f).flatten).map D.av).length = n.toNat * sz := by rw [hfl, List.length_take, Nat.min_eq_left (by omega)]
  have e : ((xs.map f).flatten).map D.av = (((xs.take n.toNat).map f).flatten).map D.av ++ (((xs.drop n.toNat).map f).flatten).map D.av := by
   rw [← List.map_append, ← List.flatten_append, ← List.map_append, List.take_append_drop]
  rw [e, List.take_append_of_le_length (by omega)]
  exact (List.take_of_length_le (by omega)).symm
 have hlt : (xs.take n.toNat).length = n.toNat := by rw [List.length_take]; omega
 by_cases hx0 : 0 < xs.length
 · obtain ⟨g, cap, cur, rfl, hg, m1, m2, m3, hrel⟩ := Ent.row_form (k1.ent (AM q.v E sz f xs) (by simp)) hx0
   have b1 : 0 ≤ n ∧ n ≤ (cap : Int) := by omega
   have hle : n.toNat * sz ≤ cap * sz := Nat.mul_le_mul_right _ (by omega)
   have hle2 : n.toNat * sz ≤ xs.length * sz := Nat.mul_le_mul_right _ (by omega)
   refine ⟨.slice (some ⟨g, 0, none⟩) n.toNat cap, w, I, .val (Sl.v ⟨some ⟨g, 0, none⟩, n.toNat, cap⟩), _, ?_, (Ok.reent k1 (e' := AM (Sl.v ⟨some ⟨g, 0, none⟩, n.toNat, cap⟩) E sz f (xs.take n.toNat)) rfl ?_), k2, rfl, KU (VS.perm (hperm _)) (hj.get _)⟩
   · simp [execOp, v1, v2, Instr.sliceAt, run_underlying hT, Instr.slice, Instr.sliceBounds, Instr.sliceBound, asIntOf, b1, sizeOf, typeInfo, hi', Addr.add]
   · refine ⟨cur.toList.take (n.toNat * sz), ⟨?_, .inr ⟨g, cap, cur, by rw [hlt], Nat.zero_le _, hg, by rw [hlt]; omega, m2, m3, by rw [hlt]⟩⟩, ?_⟩
     · rw [List.length_take, Array.length_toList (xs := cur), m3, hlt]; omega
     · rw [htake]
       have := DK (n.toNat * sz) hrel
       rwa [List.take_take, Nat.min_eq_left hle2] at this
 · obtain rfl : xs = [] := List.eq_nil_of_length_eq_zero (by omega)
   have hn0 : n = 0 := by simp at hn; omega
   subst hn0
   have he := k1.ent (AM q.v E sz f []) (by simp)
   obtain ⟨os, ho, _⟩ := he
   obtain ⟨ad, c, hq⟩ : ∃ ad c, q = ⟨ad, 0, c⟩ := by
    rcases ho.2 with ⟨hv, _⟩ | ⟨g, cap, cur, hv, _⟩
    · obtain ⟨a1, a2, a3⟩ := q
      simp only [Sl.v, Value.slice.injEq] at hv
      exact ⟨a1, a3, by rw [hv.2.1]⟩
    · obtain ⟨a1, a2, a3⟩ := q
      simp only [Sl.v, Value.slice.injEq] at hv
      exact ⟨a1, a3, by rw [hv.2.1]; rfl⟩
   subst hq
   refine ⟨.slice ad 0 c, w, I, .val (Sl.v ⟨ad, 0, c⟩), _, ?_, k1, k2, rfl, KU (VS.perm (hperm ⟨ad, 0, c⟩)) (hj.get _)⟩
   have e0 : ad.map (fun x => x.add 0) = ad := by cases ad <;> simp [Addr.add]
   simp [execOp, v1, v2, Instr.sliceAt, run_underlying hT, Instr.slice, Instr.sliceBounds, Instr.sliceBound, asIntOf, sizeOf, typeInfo, hi', e0]
end
def Sl.sub (q : Sl) (m sz : Nat) : Sl := ⟨if q.c = m then q.ad else q.ad.map (·.add (m * sz)), q.n - m, q.c - m⟩
section
variable {P : Program} {G : List (Nat × List D)} {ρ : Env} {h : H} {dst : Option Tmp} {ty : TypeId} {pos : String} {after : Array Edge} {g : Option (Nat × Bool)}
theorem Rl {c : Cx} {I : Nat → Prop} {w : World} {α : Type} {f : α → List D} {xs : List α} {E : TypeId} {q : Sl} {sz : Nat} (hok : Ok c I h w) (hm : AM q.v E sz f xs ∈ h) : q.n = xs.length ∧ q.n ≤ q.c := by
 obtain ⟨os, ho, _⟩ := hok.ent _ hm
 obtain ⟨a1, a2, a3⟩ := q
 rcases ho.2 with ⟨hv, h0⟩ | ⟨g, cap, cur, hv, _, _, m1, _⟩
 · simp only [Sl.v, Value.slice.injEq] at hv
   obtain ⟨rfl, rfl, rfl⟩ := hv
   exact ⟨by dsimp only; omega, Nat.le_refl _⟩
 · simp only [Sl.v, Value.slice.injEq] at hv
   obtain ⟨rfl, rfl, rfl⟩ := hv
   exact ⟨rfl, m1⟩
theorem OZ {α : Type} {f : α → List D} {xs : List α} {T E : TypeId} {x lo : Operand} {q : Sl} {m : Int} {sz eb : Nat} {z : Value} (hx : evO ρ x = some (.val q.v)) (hlo : evO ρ lo = some (.int m)) (hT : P.underlying T = some (.slice E)) (hE : El P E z sz eb)
 (hm : AM q.v E sz f xs ∈ h) (h0 : 0 ≤ m) (hn : m ≤ xs.length) : Pure P G ⟨dst, .slice T x (some lo) none none, ty, pos, after, g⟩ ρ h (.val (q.sub m.toNat sz).v) := by
 intro c I n a w _ hok hs
 obtain ⟨i, hi, _, hsz, _⟩ := hE.get
 have e1 := AP (hs.ev x) (AF hx)
 have e2 := AP (hs.ev lo) (AF hlo)
 obtain ⟨r1, r2⟩ := Rl hok hm
 refine ⟨_, rfl, fun w' _ => ?_⟩
 have b1 : 0 ≤ m ∧ m ≤ (q.n : Int) := by omega
 have b2 : (0 : Int) ≤ q.n ∧ (q.n : Int) ≤ q.c := by omega
 simp [execOp, e1, e2, Instr.sliceAt, run_underlying hT, Instr.slice, Instr.sliceBounds, Instr.sliceBound, asIntOf, b1, b2, sizeOf, typeInfo, hi, hsz, Sl.sub]
theorem RY {α : Type} {f : α → List D} {xs : List α} {T E E' : TypeId} {x : Operand} {q : Sl} {m sz sz' : Nat} (hx : evO ρ x = some (.val (q.sub m sz).v)) (hT : P.underlying T = some (.slice E')) (hm : AM q.v E sz' f xs ∈ h) : Pure P G ⟨dst, .call { callee := .builtin .len, args := #[x], argTypes := #[T] }, ty, pos, after, g⟩ ρ h (.int ((xs.length - m : Nat) : Int)) := by
 intro c I n a w _ hok hs
 obtain ⟨r1, r2⟩ := Rl hok hm
 have e1 := AP (hs.ev x) (AF hx)
 refine ⟨_, rfl, fun w' _ => ?_⟩
 have e2 : a.eval x = .slice (q.sub m sz).ad (q.n - m) (q.c - m) := e1
 simp [execOp, resolve, invoke, builtin, e2, Builtin.len_, run_underlying hT, goInt, r1]
theorem OV {α : Type} {f : α → List D} {xs : List α} {T E : TypeId} {x y : Operand} {q : Sl} {m n sz eb : Nat} {z : Value} (hx : evO ρ x = some (.val (q.sub m sz).v)) (hy : evO ρ y = some (.int (n : Int))) (hT : P.underlying T = some (.slice E)) (hE : El P E z sz eb)
 (hm : AM q.v E sz f xs ∈ h) (hn : m + n < xs.length) : Pure P G ⟨dst, .indexAddr T x y, ty, pos, after, g⟩ ρ h (.val (.pointer (some (q.at ((m + n) * sz))))) := by
 intro c I o a w _ hok hs
 obtain ⟨i, hi, _, hsz, _⟩ := hE.get
 obtain ⟨gb, cap, cur, rfl, hg, m1, _⟩ := Ent.row_form (hok.ent _ hm) (by omega)
 have e1 := AP (hs.ev x) (AF hx)
 have e2 := AP (hs.ev y) (AF hy)
 have hc : cap ≠ m := by omega
 have e3 : a.eval x = .slice (some ⟨gb, m * sz, none⟩) (xs.length - m) (cap - m) := by
  rw [e1]; simp [Sl.sub, Sl.v, hc, Addr.add_lit]
 refine ⟨_, rfl, fun w' _ => ?_⟩
 have h1 : n < xs.length - m := by omega
 simp [execOp, e3, e2, Instr.indexAt, run_underlying hT, asIntOf, h1, sizeOf, typeInfo, hi, hsz, Sl.at, Addr.add_lit, Nat.add_mul]
end
inductive InA (d : D) : List AV → Prop where
 | here {as_ : List AV} : InA d (.d d :: as_)
 | agg {cs as_ : List AV} (h : InA d cs) : InA d (.agg cs :: as_)
 | there {a : AV} {as_ : List AV} (h : InA d as_) : InA d (a :: as_)
theorem InA.rel {d : D} {w : World} {I : Nat → Prop} {args : List AV} (h : InA d args) : ∀ {vs : List Value}, AV.rels w I args vs → ∃ v, Rel w I d v := by
 induction h with
 | here => intro vs hr; cases vs with | nil => exact hr.elim | cons v vs => exact ⟨v, hr.1⟩
 | agg _ ih => intro vs hr; cases vs with | nil => exact hr.elim | cons v vs => obtain ⟨us, _, h⟩ := hr.1; exact ih h
 | there _ ih => intro vs hr; cases vs with | nil => exact hr.elim | cons v vs => exact ih hr.2
theorem AC.factI {α : Type} {f : α → List D} {xs : List α} {P : Program} {G : List (Nat × List D)} {fn : FuncId} {args : List AV} {h : H} {Q : AE → H → Prop} {sz eb : Nat} (hm : InA (.l sz eb (xs.map f)) args) (hac : xs.length * eb ≤ 140737488355328 → AC P G fn args h Q) : AC P G fn args h Q := by
 intro I W vs h1 h2 h3 h4 h5
 obtain ⟨v, hv⟩ := hm.rel h5
 have := (Rel.len_le hv).1
 rw [List.length_map] at this
 exact hac this I W vs h1 h2 h3 h4 h5
theorem AC.factN {α : Type} {f : α → List D} {g : List α → List D} {xss : List (List α)} {P : Program} {G : List (Nat × List D)} {fn : FuncId} {args : List AV} {h : H} {Q : AE → H → Prop} {sz eb : Nat} (sz' eb' : Nat) (hg : ∀ x, g x = [.l sz' eb' (x.map f)]) (hm : InA (.l sz eb (xss.map g)) args) (hac : (∀ x ∈ xss, x.length * eb' ≤ 140737488355328) → AC P G fn args h Q) : AC P G fn args h Q := by
 intro I W vs h1 h2 h3 h4 h5
 obtain ⟨v, hv⟩ := hm.rel h5
 refine hac (fun x hx => ?_) I W vs h1 h2 h3 h4 h5
 obtain ⟨j, hj, rfl⟩ := List.getElem_of_mem hx
 have key : ∀ rows, rows = xss.map g → Rel W I (.l sz eb rows) v → ∃ u, Rel W I (.l sz' eb' (xss[j].map f)) u := fun rows hr hrel => by
  have hrow : rows[j]? = some [D.l sz' eb' (xss[j].map f)] := by rw [hr, List.getElem?_map, List.getElem?_eq_getElem hj, ← hg]; rfl
  cases hrel with
  | nil => simp at hrow
  | emp => simp at hrow
  | l _ _ _ ad cap css hI hcap hm hb hsz hc hr => exact ⟨_, hr j 0 _ _ hrow rfl⟩
 obtain ⟨u, hu⟩ := key _ rfl hv
 have := (Rel.len_le hu).1
 rwa [List.length_map] at this

def Sl.cut (q : Sl) (n : Nat) : Sl := ⟨q.ad, n, q.c⟩
section
variable {k : Kx} {Q : Exit → Env → H → Prop} {ρ ρ' : Env} {h h' h1 h2 hr : H} {ops : Array Oper} {l : List Oper} {d : Nat} {dst : Option Tmp} {ty : TypeId} {pos : String} {after : Array Edge}
theorem VS.cut {α : Type} {f : α → List D} {xs : List α} {E : TypeId} {sz : Nat} {q : Sl} {n : Nat} (hu : Upd (AM q.v E sz f xs) (AM (q.cut n).v E sz f (xs.take n)) h h') (hsz : ∀ a, (f a).length = sz) (hn : n ≤ xs.length) : VS ρ h ρ h' := by
 obtain ⟨h1, h2, rfl, rfl⟩ := hu.split
 intro c I m a w k1 k2
 have hfl : ∀ ys : List α, ((((ys.map f).flatten).map D.av)).length = ys.length * sz := fun ys => by
  rw [List.length_map, Bx _ (fun r hr => by obtain ⟨a, _, rfl⟩ := List.mem_map.1 hr; exact hsz a), List.length_map]
 have htake : (((xs.take n).map f).flatten).map D.av = ((((xs.map f).flatten).map D.av)).take (n * sz) := by
  have hl0 : ((((xs.take n).map f).flatten).map D.av).length = n * sz := by rw [hfl, List.length_take, Nat.min_eq_left (by omega)]
  have e : ((xs.map f).flatten).map D.av = (((xs.take n).map f).flatten).map D.av ++ (((xs.drop n).map f).flatten).map D.av := by
   rw [← List.map_append, ← List.flatten_append, ← List.map_append, List.take_append_drop]
  rw [e, List.take_append_of_le_length (by omega)]
  exact (List.take_of_length_le (by omega)).symm
 have hlt : (xs.take n).length = n := by rw [List.length_take]; omega
 by_cases hx0 : 0 < xs.length
 · obtain ⟨g, cap, cur, rfl, hg, m1, m2, m3, hrel⟩ := Ent.row_form (k1.ent (AM q.v E sz f xs) (by simp)) hx0
   have hle : n * sz ≤ cap * sz := Nat.mul_le_mul_right _ (by omega)
   have hle2 : n * sz ≤ xs.length * sz := Nat.mul_le_mul_right _ hn
   refine ⟨I, Ok.reent k1 (e' := AM (Sl.v ⟨some ⟨g, 0, none⟩, n, cap⟩) E sz f (xs.take n)) rfl ?_, k2⟩
   refine ⟨cur.toList.take (n * sz), ⟨?_, .inr ⟨g, cap, cur, by rw [hlt], Nat.zero_le _, hg, by rw [hlt]; omega, m2, m3, by rw [hlt]⟩⟩, ?_⟩
   · rw [List.length_take, Array.length_toList (xs := cur), m3, hlt]; omega
   · rw [htake]
     have := DK (n * sz) hrel
     rwa [List.take_take, Nat.min_eq_left hle2] at this
 · obtain rfl : xs = [] := List.eq_nil_of_length_eq_zero (by omega)
   have hn0 : n = 0 := by simpa using hn
   subst hn0
   obtain ⟨r1, r2⟩ := Rl k1 (q := q) (f := f) (xs := []) (E := E) (sz := sz) (by simp)
   have : q.cut 0 = q := by
    obtain ⟨a1, a2, a3⟩ := q
    simp only [Sl.cut]
    simp at r1
    rw [r1]
   rw [this]
   exact ⟨I, k1, k2⟩
theorem Vg {fr : Nat × Nat → List D} {xs : List (Nat × Nat)} {T E : TypeId} {x y : Operand} {q : Sl} {j : Nat} {v : Int} {z : Value} {eb : Nat} (hx : evO ρ x = some (.val (.pointer (some (q.at (j * 2 + 1)))))) (hy : evO ρ y = some (.int v)) (hE : El k.P T z 1 eb) (hjl : j < xs.length)
 (hu : Upd (AM q.v E 2 fr xs) (AM q.v E 2 fr (xs.set j (xs[j].1, xs[j].2 + 1))) h h') (hfr : ∀ p, fr p = [.i .i64 (p.1 : Int), .i .i64 (p.2 : Int)]) (hv : v = (xs[j].2 : Int) + 1)
 (hj : JL k ops l Q ρ h') : JL k ops (⟨none, .store T x y, ty, pos, after, none⟩ :: l) Q ρ h := by
 obtain ⟨h1, h2, rfl, rfl⟩ := hu.split
 have hsz : ∀ a, (fr a).length = 2 := fun a => by rw [hfr]; rfl
 have hfl : ((((xs.map fr).flatten).map D.av)).length = xs.length * 2 := by
  rw [List.length_map, Bx _ (fun r hr => by obtain ⟨a, _, rfl⟩ := List.mem_map.1 hr; exact hsz a), List.length_map]
 refine MV (off := j * 2 + 1) (r := .int v) (AF hx) (AF hy) rfl hE rfl (by omega) (by rw [hfl]; simp [AV.cl]; omega) ?_
 have e : setAt (((xs.map fr).flatten).map D.av) (j * 2 + 1) (AV.cl (.int v)) = (((xs.set j (xs[j].1, xs[j].2 + 1)).map fr).flatten).map D.av := by
  rw [← L2 hsz xs j _ hjl, hfr]
  have hg0 : (((xs.map fr).flatten).map D.av)[j * 2]? = some (.int (xs[j].1 : Int)) := by
   have := PJ (f := fr) (xs := xs) (sz := 2) (j := j) (u := 0) (c := .i .i64 (xs[j].1 : Int)) hsz hjl (by rw [hfr]; rfl)
   simpa [D.av] using this
  generalize (((xs.map fr).flatten).map D.av) = cs at hg0
  have hlt := (List.getElem?_eq_some_iff.1 hg0).1
  have hge := (List.getElem?_eq_some_iff.1 hg0).2
  subst hv
  simp only [setAt, AV.cl, List.map_cons, List.map_nil, D.av, List.length_cons, List.length_nil]
  rw [List.take_succ_eq_append_getElem hlt, hge]
  simp [List.append_assoc]
 rw [e]
 unfold AM at hj
 rwa [List.length_set] at hj
end
section
variable {P : Program} {G : List (Nat × List D)} {ρ : Env} {h : H} {dst : Option Tmp} {ty : TypeId} {pos : String} {after : Array Edge} {g : Option (Nat × Bool)}
theorem Nw {α : Type} {f : α → List D} {xs : List α} {T E : TypeId} {x hi : Operand} {q : Sl} {n : Int} {sz eb : Nat} {z : Value} (hx : evO ρ x = some (.val q.v)) (hhi : evO ρ hi = some (.int n)) (hT : P.underlying T = some (.slice E)) (hE : El P E z sz eb)
 (hm : AM q.v E sz f xs ∈ h) (h0 : 0 ≤ n) (hn : n ≤ xs.length) : Pure P G ⟨dst, .slice T x none (some hi) none, ty, pos, after, g⟩ ρ h (.val (q.cut n.toNat).v) := by
 intro c I o a w _ hok hs
 obtain ⟨i, hi', _, hsz, _⟩ := hE.get
 have e1 := AP (hs.ev x) (AF hx)
 have e2 := AP (hs.ev hi) (AF hhi)
 obtain ⟨r1, r2⟩ := Rl hok hm
 refine ⟨_, rfl, fun w' _ => ?_⟩
 have b1 : 0 ≤ n ∧ n ≤ (q.c : Int) := by omega
 have e0 : q.ad.map (fun x => x.add 0) = q.ad := by cases q.ad <;> simp [Addr.add_lit, Addr.add]
 simp [execOp, e1, e2, Instr.sliceAt, run_underlying hT, Instr.slice, Instr.sliceBounds, Instr.sliceBound, asIntOf, b1, sizeOf, typeInfo, hi', Sl.cut, e0]
end

def YE : List Nat → List (List Nat)
 | [] => [[]]
 | x :: l => YE l ++ (YE l).map (x :: ·)
theorem Ws {S l : List Nat} (h : S.Sublist l) : S ∈ YE l := by
 induction h with
 | slnil => exact List.mem_cons_self
 | cons a _ ih => exact List.mem_append.2 (.inl ih)
 | cons_cons a _ ih => exact List.mem_append.2 (.inr (List.mem_map.2 ⟨_, ih, rfl⟩))
def marks (listed : Array Bool) : List Nat → Array Bool
 | [] => listed
 | i :: l => (marks listed l).setIfInBounds i true
theorem LS {listed : Array Bool} {l l' : List Nat} (h : l.Perm l') : marks listed l = marks listed l' := by
 induction h with
 | nil => rfl
 | cons x _ ih => simp only [marks, ih]
 | swap x y l =>
   simp only [marks]
   by_cases e : x = y
   · rw [e]
   · rw [Array.setIfInBounds_comm _ _ (Ne.symm e)]
 | trans _ _ ih1 ih2 => exact ih1.trans ih2
def WL (ops : Array Oper) (listed : Array Bool) (is : List Nat) : Bool :=
 (YE is).all fun T => decide (T.length = is.length) || (!(Region.ready .any ops (marks listed T)).isEmpty && (Region.ready .any ops (marks listed T)).all fun j => is.contains j && !T.contains j)
section
variable {k : Kx} {Q : Exit → Env → H → Prop} {ρ ρ' : Env} {h : H} {ops : Array Oper} {listed : Array Bool} {n f : Nat}
theorem aK (hle : Env.le ρ ρ') (hj : JX k ops f listed Q ρ' h) : JX k ops f listed Q ρ h := ⟨fun h1 h2 I a w k1 k2 k3 => hj.get h1 h2 I a w k1 (k2.le hle) k3⟩
inductive Reads (k : Kx) (ops : Array Oper) (ρ : Env) (h : H) : List (Nat × Nat × AV) → Prop where
 | nil : Reads k ops ρ h []
 | cons {i d : Nat} {r : AV} {op : Op} {ty : TypeId} {pos : String} {after : Array Edge} {l : List (Nat × Nat × AV)} (ho : ops[i]? = some ⟨some d, op, ty, pos, after, none⟩) (hp : Pure k.P k.c.G ⟨some d, op, ty, pos, after, none⟩ ρ h r) (hd : Nat.blt d k.n = true) (hf : Fg ρ d = none) (t : Reads k ops ρ h l) : Reads k ops ρ h ((i, d, r) :: l)
theorem Reads.get {l : List (Nat × Nat × AV)} (t : Reads k ops ρ h l) {p : Nat × Nat × AV} (hp : p ∈ l) : ∃ op ty pos after, ops[p.1]? = some ⟨some p.2.1, op, ty, pos, after, none⟩ ∧ Pure k.P k.c.G ⟨some p.2.1, op, ty, pos, after, none⟩ ρ h p.2.2 ∧ p.2.1 < k.n ∧ Fg ρ p.2.1 = none := by
 induction t with
 | nil => cases hp
 | cons ho h1 h2 h3 _ ih =>
   rcases List.mem_cons.1 hp with rfl | hp
   · exact ⟨_, _, _, _, ho, h1, blt h2, h3⟩
   · exact ih hp
def GQ (T : List (Nat × Nat × AV)) (ρ : Env) : Env := T.map (fun p => (p.2.1, p.2.2)) ++ ρ
theorem get_none : ∀ {ρ : Env} {t : Nat}, Fg ρ t = none → Av.get ρ t = .any
 | [], _, _ => rfl
 | (u, v) :: r, t, h => by
   simp only [Fg, Av.get] at h ⊢
   cases hb : Nat.beq u t with
   | true => rw [hb] at h; cases h
   | false => rw [hb] at h; simp only [cond_false] at h ⊢; exact get_none h
theorem WU {T : List (Nat × Nat × AV)} (hf : ∀ p ∈ T, Fg ρ p.2.1 = none) : Env.le (GQ T ρ) ρ := by
 induction T with
 | nil => exact Env.le_refl _
 | cons p T ih =>
   intro t
   have h1 := ih (fun q hq => hf q (List.mem_cons_of_mem _ hq)) t
   show AV.le (bif Nat.beq p.2.1 t then p.2.2 else Av.get (GQ T ρ) t) (Av.get ρ t)
   cases hb : Nat.beq p.2.1 t with
   | true =>
     have e : p.2.1 = t := Nat.eq_of_beq_eq_true hb
     rw [← e, get_none (hf p List.mem_cons_self)]
     exact AV.le_any _
   | false => exact h1
theorem RH {T T' : List (Nat × Nat × AV)} (hp : T.Perm T') (hn : (T.map fun p => p.2.1).Nodup) : ∀ t, Av.get (GQ T ρ) t = Av.get (GQ T' ρ) t := by
 induction hp with
 | nil => intro t; rfl
 | cons x _ ih =>
   intro t
   show (bif Nat.beq x.2.1 t then x.2.2 else Av.get (GQ _ ρ) t) = (bif Nat.beq x.2.1 t then x.2.2 else Av.get (GQ _ ρ) t)
   rw [ih (List.nodup_cons.1 hn).2 t]
 | swap x y l =>
   intro t
   show (bif Nat.beq y.2.1 t then y.2.2 else bif Nat.beq x.2.1 t then x.2.2 else Av.get (GQ l ρ) t) = (bif Nat.beq x.2.1 t then x.2.2 else bif Nat.beq y.2.1 t then y.2.2 else Av.get (GQ l ρ) t)
   have hne : y.2.1 ≠ x.2.1 := fun e => (List.nodup_cons.1 hn).1 (by show y.2.1 ∈ _; rw [e]; exact List.mem_cons_self)
   cases h1 : Nat.beq y.2.1 t with
   | false => rfl
   | true =>
     have e1 : y.2.1 = t := Nat.eq_of_beq_eq_true h1
     cases h2 : Nat.beq x.2.1 t with
     | false => rfl
     | true => exact absurd (e1.trans (Nat.eq_of_beq_eq_true h2).symm) hne
 | trans h1 _ ih1 ih2 =>
   intro t
   rw [ih1 hn t, ih2 ((h1.map _).nodup_iff.1 hn) t]
theorem Vv {L : List (Nat × Nat × AV)} (t : Reads k ops ρ h L) (hc : WL ops listed (L.map (·.1)) = true) (hn : (L.map fun p => p.2.1).Nodup) (hi : (L.map (·.1)).Nodup)
 (hj : JX k ops f (marks listed (L.map (·.1))) Q (GQ L ρ) h) : ∀ (m : Nat) (T R : List (Nat × Nat × AV)), R.length = m → (T ++ R).Perm L → JX k ops (f + m) (marks listed (T.map (·.1))) Q (GQ T ρ) h := by
 intro m
 induction m with
 | zero =>
   intro T R hR hp
   obtain rfl : R = [] := List.eq_nil_of_length_eq_zero hR
   rw [List.append_nil] at hp
   rw [LS (hp.map _)]
   exact aK (fun t => AV.le_of_eq (RH hp ((hp.map _).nodup_iff.2 hn) t)) hj
 | succ m ih =>
   intro T R hR hp
   have hpi := hp.map (·.1)
   rw [List.map_append] at hpi
   have hnd := hpi.nodup_iff.2 hi
   have hS : ((L.map (·.1)).filter fun j => (T.map (·.1)).contains j).Perm (T.map (·.1)) := by
    refine (hpi.symm.filter _).trans ?_
    rw [List.filter_append]
    have e1 : (T.map (·.1)).filter (fun j => (T.map (·.1)).contains j) = T.map (·.1) := List.filter_eq_self.2 fun a ha => by simpa using ha
    have e2 : (R.map (·.1)).filter (fun j => (T.map (·.1)).contains j) = [] := List.filter_eq_nil_iff.2 fun a ha hc => (List.nodup_append.1 hnd).2.2 a (by simpa using hc) a ha rfl
    rw [e1, e2, List.append_nil]
   have hsub := Ws (List.filter_sublist (p := fun j => (T.map (·.1)).contains j) (l := L.map (·.1)))
   have hchk := List.all_eq_true.1 hc _ hsub
   have hlen : ((L.map (·.1)).filter fun j => (T.map (·.1)).contains j).length ≠ (L.map (·.1)).length := by
    rw [hS.length_eq, ← hpi.length_eq]
    simp only [List.length_append, List.length_map]
    omega
   rw [decide_eq_false hlen, Bool.false_or, LS hS, Bool.and_eq_true] at hchk
   refine Xz (fun e => by rw [e] at hchk; simp at hchk) fun j hjr => ?_
   have hjc := List.all_eq_true.1 hchk.2 j hjr
   simp only [Bool.and_eq_true, Bool.not_eq_true'] at hjc
   have hjL : j ∈ L.map (·.1) := by simpa using hjc.1
   have hjT : j ∉ T.map (·.1) := fun hm => by
    have : ((L.map (·.1)).filter fun j => (T.map (·.1)).contains j).contains j = true := by simpa using hS.mem_iff.2 hm
    rw [this] at hjc
    exact absurd hjc.2 (by decide)
   have hjR : j ∈ R.map (·.1) := by
    rcases List.mem_append.1 (hpi.mem_iff.2 hjL) with h1 | h1
    · exact absurd h1 hjT
    · exact h1
   obtain ⟨p, hpR, rfl⟩ := List.mem_map.1 hjR
   obtain ⟨R1, R2, rfl⟩ := List.append_of_mem hpR
   have hpL : p ∈ L := hp.mem_iff.1 (by simp)
   obtain ⟨op, ty, pos, after, ho, hpu, hd, hfr⟩ := t.get hpL
   have hle : Env.le (GQ T ρ) ρ := WU fun q hq => by
    obtain ⟨_, _, _, _, _, _, _, h4⟩ := t.get (hp.mem_iff.1 (List.mem_append.2 (.inl hq)))
    exact h4
   have hpu' : Pure k.P k.c.G ⟨some p.2.1, op, ty, pos, after, none⟩ (GQ T ρ) h p.2.2 := fun c I n a w e1 e2 e3 => hpu c I n a w e1 e2 (e3.le hle)
   refine ⟨_, ho, Rx hpu' rfl (fun t ht => by cases ht; exact hd) (NR ⟨rfl, ?_⟩)⟩
   have hperm : (p :: T ++ (R1 ++ R2)).Perm L := by
    refine List.Perm.trans ?_ hp
    rw [List.cons_append, ← List.append_assoc, ← List.append_assoc]
    exact (List.perm_middle (l₁ := T ++ R1) (l₂ := R2) (a := p)).symm
   have := ih (p :: T) (R1 ++ R2) (by simp at hR ⊢; omega) hperm
   exact this
theorem Tr (L : List (Nat × Nat × AV)) (is ds : List Nat) {g i m : Nat} (t : Reads k ops ρ h L) (his : L.map (·.1) = is) (hds : (L.map fun p => p.2.1) = ds) (hf : f + L.length = g) (hc : WL ops listed is = true) (hn : ds.Nodup) (hi : is.Nodup)
 (hj : JXP k ops n f (marks listed is) 0 n Q (GQ L ρ) h) : JXP k ops n g listed i m Q ρ h := by
 subst his hds
 exact ⟨by rw [← hf]; exact Vv t hc hn hi hj.get L.length [] L rfl (by simp)⟩
end

structure Sam (T : List Nat) (w w' : World) : Prop where
 os : w'.os = w.os
 tape : w'.tape = w.tape
 output : w'.output = w.output
 size : w.heap.size ≤ w'.heap.size
 block : ∀ b, b < w.heap.size → b ∉ T → w'.heap[b]? = w.heap[b]?
theorem Sam.refl (T : List Nat) (w : World) : Sam T w w := ⟨rfl, rfl, rfl, Nat.le_refl _, fun _ _ _ => rfl⟩
def Ir (ops : Array Oper) (n : Nat) : Bool :=
 Region.noSelect ops && decide (n ≤ ops.size) && (decide (n = ops.size) || (Region.sinkB .any ops n && Region.chainB .any ops n))
structure JH (k : Kx) (ops : Array Oper) (n f : Nat) (listed : Array Bool) (l2 : List Oper) (i m : Nat) (pr : Bool) (Q : Exit → Env → H → Prop) (hT : H) (ρ : Env) (h : H) : Prop where
 get : Ir ops n = true → HeadInv .any ops n listed → ∀ I a w, Ok k.c I (hT ++ h) w → SF k.n w I ρ a → a.defers = k.df →
  HA k.P .any ops (Sam (blks hT) w) n (fun listed' a' w' => Region.seqB .any ops (ops.size - n) n listed' = true ∧ wpList k.P ops (lift k Q) l2 a' w') f listed a w
structure JHS (k : Kx) (ops : Array Oper) (n f : Nat) (listed : Array Bool) (l2 : List Oper) (i m : Nat) (Q : Exit → Env → H → Prop) (hT : H) (ρ : Env) (h : H) : Prop where
 get : ∀ j, i ≤ j → j < i + m → j ∈ Region.ready .any ops listed → ∃ o, ops[j]? = some o ∧ ∀ c : World × (Nat → Prop) × List Nat, JL ⟨k.P, ⟨c.1, c.2.1, c.2.2, k.c.G⟩, k.n, k.df⟩ ops [o] (fun e ρ' hT' => e = .normal ∧ JH k ops n f (listed.setIfInBounds j true) l2 0 n false Q hT' ρ' h) ρ hT
theorem K1 {ops : Array Oper} {n : Nat} (hs : Ir ops n = true) {i : Nat} (hi : i < n) : ∀ listed, HeadInv .any ops n listed → i ∈ Region.ready .any ops listed → ∀ j ∈ Region.ready .any ops listed, j < n := by
 simp only [Ir, Bool.and_eq_true, Bool.or_eq_true, decide_eq_true_eq] at hs
 obtain ⟨⟨hsel, hle⟩, hor⟩ := hs
 intro listed inv hr j hj
 rcases hor with hn | ⟨hs, hc⟩
 · obtain ⟨_, o, ho, _⟩ := mem_ready.1 hj
   rw [hn]; exact (Array.getElem?_eq_some_iff.1 ho).1
 · rcases Nat.lt_or_ge j n with h | h
   · exact h
   · obtain ⟨_, o, ho, _⟩ := mem_ready.1 hj
     have hlt := (Array.getElem?_eq_some_iff.1 ho).1
     exact absurd hj (tail_waits hs hc (by omega) inv _ i rfl hi (mem_ready.1 hr).1 j h)
theorem Xj {ops : Array Oper} {n : Nat} (hs : Ir ops n = true) : Region.noSelect ops = true := by
 simp only [Ir, Bool.and_eq_true] at hs
 exact hs.1.1
section
variable {k : Kx} {Q : Exit → Env → H → Prop} {ρ ρ' : Env} {h h' hT : H} {ops : Array Oper} {listed : Array Bool} {l2 : List Oper} {n f i m d : Nat} {op : Op} {ty : TypeId} {pos : String} {after : Array Edge} {pr : Bool}

theorem Ok.right {c : Cx} {I : Nat → Prop} {w : World} (k1 : Ok c I (hT ++ h) w) : Ok c I h w where
 ent e he := k1.ent e (List.mem_append.2 (.inr he))
 nd := by have := k1.nd; rw [Ag] at this; exact (List.nodup_append.1 this).2.1
 imm b hb := ⟨(k1.imm b hb).1, fun hm => (k1.imm b hb).2 (by rw [Ag]; exact List.mem_append.2 (.inr hm))⟩
 new b hb := k1.new b (by rw [Ag]; exact List.mem_append.2 (.inr hb))
 inew := k1.inew
 sup := k1.sup
 os := k1.os
 tape := k1.tape
 output := k1.output
 size := k1.size
 keep := k1.keep
 glob := k1.glob
theorem Ok.left {c : Cx} {I : Nat → Prop} {w : World} (k1 : Ok c I (hT ++ h) w) : Ok ⟨w, I, blks hT, c.G⟩ I hT w where
 ent e he := k1.ent e (List.mem_append.2 (.inl he))
 nd := by have := k1.nd; rw [Ag] at this; exact (List.nodup_append.1 this).1
 imm b hb := ⟨(k1.imm b hb).1, fun hm => (k1.imm b hb).2 (by rw [Ag]; exact List.mem_append.2 (.inl hm))⟩
 new b hb := .inl hb
 inew b hb := .inl hb
 sup b hb := hb
 os := rfl
 tape := rfl
 output := rfl
 size := Nat.le_refl _
 keep _ _ _ := rfl
 glob := k1.glob
theorem Sam.weak {c : Cx} {I : Nat → Prop} {w w' : World} (k1 : Ok c I (hT ++ h) w) (s : Sam (blks hT) w w') : Mg I h w w' where
 imm b hb := s.block b (k1.imm b hb).1 fun hm => (k1.imm b hb).2 (by rw [Ag]; exact List.mem_append.2 (.inl hm))
 own b hb := s.block b (by
  obtain ⟨e, he, heb⟩ := List.mem_filterMap.1 hb
  exact Ent.blk_lt (k1.ent e (List.mem_append.2 (.inr he))) heb) fun hm => by
  have := k1.nd
  rw [Ag] at this
  exact (List.nodup_append.1 this).2.2 b hm b hb rfl
theorem NP {o : Oper} {r : AV} (ho : ops[i]? = some o) (hc : HE ops listed n i = true) (hd : ∀ t, o.dst = some t → t < k.n)
 (hy : ∀ I a w, Ok k.c I (hT ++ h) w → SF k.n w I ρ a → ∃ v, AV.rel w I r v ∧ YieldsIf k.P ops (Sam (blks hT) w) o v a)
 (hj : JH k ops n f (listed.setIfInBounds i true) l2 (i + 1) m true Q hT (put ρ o.dst r) h) : JH k ops n (f + 1) listed l2 i (m + 1) pr Q hT ρ h := by
 refine ⟨fun hs inv I a w h1 h2 h3 => ?_⟩
 simp only [HE, Bool.and_eq_true, decide_eq_true_eq] at hc
 obtain ⟨⟨hr, hf⟩, hin⟩ := hc
 have hr' : i ∈ Region.ready .any ops listed := by simpa using hr
 obtain ⟨v, hv, hyv⟩ := hy I a w h1 h2
 exact KJ ho (Region.noSelect_spec (Xj hs)) (K1 hs hin) hin (fun _ _ _ h => seqB_ready h.1) f listed a w inv (Region.free_spec ho hf) hr' hyv (Sam.refl _ _)
  (hj.get hs (inv.set hr' hin) I _ w h1 (h2.put hd hv) (by rw [Act.defers_put]; exact h3))
theorem Iu {r : AV} (ho : ops[i]? = some ⟨some d, op, ty, pos, after, none⟩) (hc : HE ops listed n i = true) (hp : Pure k.P k.c.G ⟨some d, op, ty, pos, after, none⟩ ρ h r) (hd : Nat.blt d k.n = true)
 (hj : JH k ops n f (listed.setIfInBounds i true) l2 (i + 1) m true Q hT ((d, r) :: ρ) h) : JH k ops n (f + 1) listed l2 i (m + 1) pr Q hT ρ h :=
 NP ho hc (fun t ht => by cases ht; exact blt hd) (fun I a w h1 h2 => by
  obtain ⟨v, hv, hrun⟩ := hp k.c I k.n a w rfl h1.right h2
  exact ⟨v, hv, .inl ⟨by simp [Region.wanted], fun w' hw' => hrun w' (hw'.weak h1)⟩⟩) hj
theorem YZ {j dj : Nat} {want : Bool} {oj : Oper} {r : AV} (ho : ops[i]? = some ⟨some d, op, ty, pos, after, some (j, want)⟩) (hoj : ops[j]? = some oj) (hdj : oj.dst = some dj) (hr : get ρ dj = .val (.bool want)) (hn : Nat.blt dj k.n = true) (hc : HE ops listed n i = true)
 (hp : Pure k.P k.c.G ⟨some d, op, ty, pos, after, some (j, want)⟩ ρ h r) (hd : Nat.blt d k.n = true)
 (hj : JH k ops n f (listed.setIfInBounds i true) l2 (i + 1) m true Q hT ((d, r) :: ρ) h) : JH k ops n (f + 1) listed l2 i (m + 1) pr Q hT ρ h :=
 NP ho hc (fun t ht => by cases ht; exact blt hd) (fun I a w h1 h2 => by
  obtain ⟨v, hv, hrun⟩ := hp k.c I k.n a w rfl h1.right h2
  have hw := FC (ops := ops) (o := ⟨some d, op, ty, pos, after, some (j, want)⟩) h2 rfl hoj hdj hr (blt hn)
  exact ⟨v, hv, .inl ⟨by rw [hw]; simp, fun w' hw' => hrun w' (hw'.weak h1)⟩⟩) hj
theorem Yl {j dj : Nat} {want : Bool} {oj : Oper} (ho : ops[i]? = some ⟨some d, op, ty, pos, after, some (j, want)⟩) (hoj : ops[j]? = some oj) (hdj : oj.dst = some dj) (hr : get ρ dj = .val (.bool (!want))) (hn : Nat.blt dj k.n = true) (hc : HE ops listed n i = true) (hd : Nat.blt d k.n = true)
 (hj : JH k ops n f (listed.setIfInBounds i true) l2 (i + 1) m true Q hT ((d, .val undef) :: ρ) h) : JH k ops n (f + 1) listed l2 i (m + 1) pr Q hT ρ h :=
 NP ho hc (fun t ht => by cases ht; exact blt hd) (fun I a w h1 h2 => by
  have hw := FC (ops := ops) (o := ⟨some d, op, ty, pos, after, some (j, want)⟩) h2 rfl hoj hdj hr (blt hn)
  exact ⟨undef, rfl, .inr ⟨by rw [hw]; cases want <;> simp, rfl⟩⟩) hj
theorem Yj (hle : Env.le ρ ρ') (hj : JH k ops n f listed l2 i m pr Q hT ρ' h) : JH k ops n f listed l2 i m pr Q hT ρ h := ⟨fun hs inv I a w h1 h2 h3 => hj.get hs inv I a w h1 (h2.le hle) h3⟩
theorem PF {j dj : Nat} {c want : Bool} {oj : Oper} (ho : ops[i]? = some ⟨some d, op, ty, pos, after, some (j, want)⟩) (hoj : ops[j]? = some oj) (hdj : oj.dst = some dj) (hr : get ρ dj = .val (.bool c)) (hc : HE ops listed n i = true)
 (hb : CB c (JH k ops n (f + 1) listed l2 i (m + 1) pr Q hT ((dj, .bool true) :: ρ) h) (JH k ops n (f + 1) listed l2 i (m + 1) pr Q hT ((dj, .bool false) :: ρ) h)) : JH k ops n (f + 1) listed l2 i (m + 1) pr Q hT ρ h := by
 cases c with
 | true => exact Yj (Env.le_cons (AV.le_of_eq hr) (Env.le_refl _)) (hb.1 rfl)
 | false => exact Yj (Env.le_cons (AV.le_of_eq hr) (Env.le_refl _)) (hb.2 rfl)
theorem SD (hj : JH k ops n f listed l2 (i + 1) m pr Q hT ρ h) : JH k ops n f listed l2 i (m + 1) pr Q hT ρ h := ⟨hj.get⟩
theorem Rt (hj : JH k ops n f listed l2 0 n false Q hT ρ h) : JH k ops n f listed l2 i 0 true Q hT ρ h := ⟨hj.get⟩
theorem Rn (hc : Region.seqB .any ops (ops.size - n) n listed = true) (ha : App hT h h') (hj : JL k ops l2 Q ρ h') : JH k ops n 0 listed l2 i m pr Q hT ρ h :=
 ⟨fun _ _ I a w h1 h2 h3 => ⟨hc, hj I a w (by rw [ha.eq]; exact h1) h2 h3⟩⟩
theorem Wg (hne : (Region.ready .any ops listed).isEmpty = false) (hs : (Region.ready .any ops listed).all (fun j => decide (j < n)) = true) (hj : JHS k ops n f listed l2 0 n Q hT ρ h) : JH k ops n (f + 1) listed l2 i 0 false Q hT ρ h := by
 refine ⟨fun hsh inv I a w h1 h2 h3 => ⟨fun e => by rw [e] at hne; simp at hne, fun j hjr => ?_⟩⟩
 have hjn : j < n := by simpa using List.all_eq_true.1 hs j hjr
 refine ⟨hjn, ?_⟩
 obtain ⟨o, ho, hJ⟩ := hj.get j (Nat.zero_le _) (by omega) hjr
 have H := hJ (w, I, blks hT) I a w h1.left h2 h3
 unfold wpOp
 rw [ho]
 dsimp only at H ⊢
 have hK : ∀ a' w', lift ⟨k.P, ⟨w, I, blks hT, k.c.G⟩, k.n, k.df⟩ (fun e ρ' hT' => e = .normal ∧ JH k ops n f (listed.setIfInBounds j true) l2 0 n false Q hT' ρ' h) .normal a' w' →
  Sam (blks hT) w w' ∧ HA k.P .any ops (Sam (blks hT) w) n (fun listed' a' w' => Region.seqB .any ops (ops.size - n) n listed' = true ∧ wpList k.P ops (lift k Q) l2 a' w') f (listed.setIfInBounds j true) a' w' := by
  rintro a' w' ⟨I', ρ', hT', q1, q2, q3, _, q4⟩
  obtain ⟨k1, _⟩ := Ok.call (hc := hT) (hr := h) h1 q1
  have hsm : Sam (blks hT) w w' := ⟨q1.os, q1.tape, q1.output, q1.size, fun b hb hE => q1.keep b hb hE⟩
  refine ⟨hsm, LN (S := Sam (blks hT') w') (fun u hu => ?_) _ _ _ _ (q4.get hsh (inv.set hjr hjn) I' a' w' k1 q2 q3)⟩
  refine ⟨hu.os.trans hsm.os, hu.tape.trans hsm.tape, hu.output.trans hsm.output, Nat.le_trans hsm.size hu.size, fun b hb hE => (hu.block b (Nat.lt_of_lt_of_le hb hsm.size) fun hm => ?_).trans (hsm.block b hb hE)⟩
  rcases q1.new b hm with hx | hx
  · exact hE hx
  · exact absurd hb (Nat.not_lt.2 hx)
 have hQ : ∀ e a' w', e ≠ .normal → ¬ lift ⟨k.P, ⟨w, I, blks hT, k.c.G⟩, k.n, k.df⟩ (fun e ρ' hT' => e = .normal ∧ JH k ops n f (listed.setIfInBounds j true) l2 0 n false Q hT' ρ' h) e a' w' := by
  rintro e a' w' he ⟨_, _, _, _, _, _, q, _⟩
  exact he q
 rw [wpList] at H
 by_cases hw : Region.wanted o (yielded ops a.tmps) = true
 · rw [if_pos hw] at H ⊢
   rcases H with H | ⟨_, a', w', H⟩
   · exact .inl (Ic hK hQ H)
   · exact absurd H (hQ _ _ _ (by simp))
 · rw [if_neg hw] at H ⊢
   exact hK _ _ H
theorem SP (_ht : True) : JHS k ops n f listed l2 i 0 Q hT ρ h := ⟨fun j h1 h2 => by omega⟩
theorem Uc (hc : (Region.ready .any ops listed).contains i = false) (hj : JHS k ops n f listed l2 (i + 1) m Q hT ρ h) : JHS k ops n f listed l2 i (m + 1) Q hT ρ h :=
 ⟨fun j h1 h2 hr => by
  by_cases e : j = i
  · subst e
    have : (Region.ready .any ops listed).contains j = true := by simpa using hr
    rw [this] at hc; cases hc
  · exact hj.get j (by omega) (by omega) hr⟩
structure aQ (p : World × (Nat → Prop) × List Nat → Prop) : Prop where
 get : ∀ c, p c
theorem AB {p : World × (Nat → Prop) × List Nat → Prop} (h : ∀ c, p c) : aQ p := ⟨h⟩
theorem R3 {dst : Option Tmp} {g : Option (Nat × Bool)} (ho : ops[i]? = some ⟨dst, op, ty, pos, after, g⟩)
 (hj : Two (aQ fun c => JL ⟨k.P, ⟨c.1, c.2.1, c.2.2, k.c.G⟩, k.n, k.df⟩ ops [⟨dst, op, ty, pos, after, g⟩] (fun e ρ' hT' => e = .normal ∧ JH k ops n f (listed.setIfInBounds i true) l2 0 n false Q hT' ρ' h) ρ hT) (JHS k ops n f listed l2 (i + 1) m Q hT ρ h)) : JHS k ops n f listed l2 i (m + 1) Q hT ρ h :=
 ⟨fun j h1 h2 hr => by
  by_cases e : j = i
  · subst e
    exact ⟨_, ho, hj.fst.get⟩
  · exact hj.snd.get j (by omega) (by omega) hr⟩
theorem Wr {k' : Kx} (hj : JH k ops n f listed l2 i m pr Q hT ρ h) : JL k' ops [] (fun e ρ' hT' => e = .normal ∧ JH k ops n f listed l2 i m pr Q hT' ρ' h) ρ hT := NR ⟨rfl, hj⟩

def effB : Op → Bool
 | .makeSlice _ _ _ => true
 | .alloc _ => true
 | .box _ _ => true
 | .buildSlice _ _ _ => true
 | .call c => (match c.callee with
   | .value _ => true
   | .builtin .append => true
   | _ => false)
 | _ => false
theorem LG {X : Type} {x : Code} {N : Env → H → Prop} (S : X → Env) (G : X → H) (hx : J k x (fun e ρ' h' => e = .normal ∧ ∃ y, VS ρ' h' (S y) (G y)) ρ h) (hq : ∀ y, N (S y) (G y)) : J k x (KR N Q) ρ h :=
 LU S G hx fun y => EF (hq y)

inductive Hd : List Oper → Nat → List Oper → Prop where
 | nil {l : List Oper} : Hd l 0 l
 | cons {d : Option Tmp} {op : Op} {ty : TypeId} {pos : String} {after : Array Edge} {g : Option (Nat × Bool)} {l l2 : List Oper} {n : Nat} (hb : Wv op = false) (h : Hd l n l2) : Hd (⟨d, op, ty, pos, after, g⟩ :: l) (n + 1) l2
theorem Hd.drop {l l2 : List Oper} {n : Nat} (h : Hd l n l2) : l.drop n = l2 ∧ n ≤ l.length := by
 induction h with
 | nil => exact ⟨rfl, Nat.zero_le _⟩
 | cons _ h ih => exact ⟨by simpa using ih.1, by simp; omega⟩
theorem B7 {id t : Nat} {l l2 : List Oper} {P : Program} (hT : H) (hm : P.follows .mixedOrders = true) (hP : k.P = P) (hx : Hd l n l2) (hn : l.length = t) (hs : Ir l.toArray n = true) (ht : Take h hT h')
 (hj : JH k l.toArray n n (Array.replicate t false) l2 0 n false Q hT ρ h') : J k (.region id l.toArray true) Q ρ h := by
 refine Ho (VS.perm ht.perm) ?_
 subst hP
 subst hn
 intro I a w h1 h2 h3
 obtain ⟨hd, hle⟩ := hx.drop
 refine wp_region_any hm ?_
 have hsm : F5 I (hT ++ h') w { w with drawn := w.drawn + 1 } := ⟨rfl, rfl, rfl, Nat.le_refl _, fun _ _ => rfl⟩
 have inv0 : HeadInv .any l.toArray n (Array.replicate l.length false) :=
  ⟨by simp, fun j oj _ hl => (by rw [getD_replicate_false] at hl; cases hl), fun t _ ht => getD_in (by simpa using ht) (getD_replicate_false _ _)⟩
 have H := hj.get hs inv0 I a _ (h1.same hsm) (SF.same h1 hsm h2) h3
 have K := Gd (Q := lift k Q) (g := l.length - n) (fun listed' a' w' hL => by
  have := wpAny_of_seq (md := .any) (Q' := lift k Q) l2 n listed' a' w' (fun j => by rw [← hd]; simp [List.getElem?_drop]) (by
   have e : l2.length = l.toArray.size - n := by rw [← hd]; simp
   rw [e]; exact hL.1) hL.2
  have e : l2.length = l.length - n := by rw [← hd]; simp
  rwa [e] at this) _ _ _ _ H
 rw [show n + (l.length - n) = l.toArray.size by simp; omega] at K
 simpa using K
theorem KS {id t : Nat} {l l2 : List Oper} {P : Program} (hm : P.follows .mixedOrders = true) (hP : k.P = P) (hx : Hd l n l2) (hn : l.length = t) (hs : Ir l.toArray n = true)
 (hj : JH k l.toArray n n (Array.replicate t false) l2 0 n false Q [] ρ h) : J k (.region id l.toArray true) Q ρ h := B7 [] hm hP hx hn hs .nil hj
end

abbrev D3 {α : Type} (E : TypeId) (sz : Nat) (f : α → List D) (qs : List Sl) (ls : List (List α)) : H := List.zipWith (fun q l => AM q.v E sz f l) qs ls
section
variable {ρ : Env} {h h' : H} {α : Type} {f : α → List D} {E : TypeId} {sz : Nat} {qs : List Sl} {ls : List (List α)}
theorem VS.refl : VS ρ h ρ h := VS.of_le (Env.le_refl _)
theorem VS.rows0 (E : TypeId) (sz : Nat) (f : α → List D) : ∀ (n : Nat) (h : H), VS ρ h ρ (h ++ D3 E sz f (List.replicate n Sl.nil) (List.replicate n []))
 | 0, h => by simpa using VS.refl
 | n + 1, h => by
   have h1 : VS ρ h ρ (AM Sl.nil.v E sz f [] :: h) := VS.nilrow E sz
   refine VS.trans h1 (VS.trans (VS.rows0 E sz f n _) (VS.perm ?_))
   simp only [List.replicate_succ, List.zipWith_cons_cons]
   exact (List.perm_middle).symm
theorem Is {β : Type} : ∀ (l : List β) (i : Nat) (h : i < l.length), (l[i] :: l.eraseIdx i).Perm l
 | [], i, h => by simp at h
 | x :: l, 0, h => by simp
 | x :: l, i + 1, h => by
   have ih := Is l i (by simpa using h)
   simp only [List.getElem_cons_succ, List.eraseIdx_cons_succ]
   exact (List.Perm.swap x (l[i]'(by simpa using h)) _).trans (List.Perm.cons x ih)
theorem Sh (i : Nat) (hi : i < (D3 E sz f qs ls).length) : (D3 E sz f qs ls).Perm ((D3 E sz f qs ls)[i] :: (D3 E sz f qs ls).eraseIdx i) := (Is _ i hi).symm
theorem VS.pickR (h0 : H) (i : Nat) (h1 : i < qs.length) (h2 : i < ls.length) : VS ρ (h0 ++ D3 E sz f qs ls) ρ (AM qs[i].v E sz f ls[i] :: (h0 ++ (D3 E sz f qs ls).eraseIdx i)) := by
 refine VS.perm ?_
 have hi : i < (D3 E sz f qs ls).length := by rw [List.length_zipWith]; omega
 have hp := Sh i hi
 rw [show (D3 E sz f qs ls)[i] = AM qs[i].v E sz f ls[i] from List.getElem_zipWith] at hp
 exact (List.Perm.append_left h0 hp).trans List.perm_middle
theorem VS.putR (h0 : H) (i : Nat) (q : Sl) (l : List α) (h1 : i < qs.length) (h2 : i < ls.length) : VS ρ (AM q.v E sz f l :: (h0 ++ (D3 E sz f qs ls).eraseIdx i)) ρ (h0 ++ D3 E sz f (qs.set i q) (ls.set i l)) := by
 refine VS.perm ?_
 have e : D3 E sz f (qs.set i q) (ls.set i l) = (D3 E sz f qs ls).set i (AM q.v E sz f l) := by
  apply List.ext_getElem
  · simp
  · intro j a b
    simp only [List.getElem_zipWith, List.getElem_set]
    split <;> rfl
 have hi : i < ((D3 E sz f qs ls).set i (AM q.v E sz f l)).length := by rw [List.length_set, List.length_zipWith]; omega
 have hp := (Is _ i hi).symm
 rw [List.getElem_set_self, List.eraseIdx_set_eq, ← e] at hp
 exact (List.perm_middle.symm.trans (List.Perm.append_left h0 hp.symm))
theorem Cvs.refl (v : Value) (d : D) : ∀ xs : List AV, Cvs v d xs xs
 | [] => .nil
 | x :: xs => .cons (.same x) (Cvs.refl v d xs)
theorem Cvs.mid (v : Value) (d : D) (r : List AV) : ∀ xs : List AV, Cvs v d (xs ++ .val v :: r) (xs ++ .d d :: r)
 | [] => .cons .here (Cvs.refl v d r)
 | x :: xs => .cons (.same x) (Cvs.mid v d r xs)
theorem CvH.under (v : Value) (d : D) {h h' : H} (k : CvH v d h h') : ∀ h0 : H, CvH v d (h0 ++ h) (h0 ++ h')
 | [] => k
 | _ :: h0 => .keep (CvH.under v d k h0)
theorem VS.frzR {b : Nat} {T : TypeId} (eb : Nat) (h0s : Nat.blt 0 sz = true) (hsz : ∀ a, (f a).length = sz) (h0 h1 : H) : ∀ (qs : List Sl) (ls : List (List α)) (xs : List AV), qs.length = ls.length → (∀ l ∈ ls, l.length * eb ≤ 140737488355328) →
 VS ρ (h0 ++ .cells b T (xs ++ qs.map fun q => .val q.v) :: (h1 ++ D3 E sz f qs ls)) ρ (h0 ++ .cells b T (xs ++ ls.map fun l => .d (.l sz eb (l.map f))) :: h1)
 | [], [], xs, _, _ => by simpa using VS.refl
 | q :: qs, l :: ls, xs, hl, hb => by
   have ih := VS.frzR (b := b) (T := T) eb h0s hsz h0 h1 qs ls (xs ++ [.d (.l sz eb (l.map f))]) (by simpa using hl) fun l hl => hb l (List.mem_cons_of_mem _ hl)
   simp only [List.append_assoc, List.singleton_append] at ih
   simp only [List.map_cons, List.zipWith_cons_cons]
   refine VS.trans ?_ ih
   refine Gj (v := q.v) (f := f) (xs := l) (E := E) (sz := sz) (h1 := h0 ++ .cells b T (xs ++ .val q.v :: qs.map fun q => .val q.v) :: h1) (h2 := D3 E sz f qs ls) eb h0s (by simp) hsz (hb l List.mem_cons_self) (CvE.refl _ _ _) ?_
   simp only [List.append_assoc, List.cons_append]
   exact CvH.under _ _ (.cells (Cvs.mid _ _ _ _) (.refl _)) h0
end
end Go.Av
namespace Go.Proofs.YtibahljljjkceaaGreatDoor
open Go Go.Av
class ElC (P : Program) (t : TypeId) (z : outParam Value) (s b : outParam Nat) : Prop where h : El P t z s b
class FdC (P : Program) (t f : Nat) (o : outParam Nat) : Prop where h : Fld P t f o
class BlC (P : Program) (t : TypeId) : Prop where h : Bl2 P t
class Jn (P : Program) (t : TypeId) (zs : outParam (List Value)) (pl : outParam (List (Nat × Nat))) : Prop where h : Bls P t zs pl
class EqC (P : Program) (t : TypeId) : Prop where h : Eq2 P t
class aO (P : Program) (t : TypeId) : Prop where h : WH P t
theorem Nu : El Tryz.prog 3 (.int .i64 0) 1 8 := by unfold El; kernel_rfl
instance : ElC Tryz.prog 3 (.int .i64 0) 1 8 := ⟨Nu⟩
theorem XO : El Tryz.prog 4 (.bool false) 1 1 := by unfold El; kernel_rfl
instance : ElC Tryz.prog 4 (.bool false) 1 1 := ⟨XO⟩
theorem YK : El Tryz.prog 5 (.int .u8 0) 1 1 := by unfold El; kernel_rfl
instance : ElC Tryz.prog 5 (.int .u8 0) 1 1 := ⟨YK⟩
theorem JP : El Tryz.prog 36 (.int .i64 0) 1 8 := by unfold El; kernel_rfl
instance : ElC Tryz.prog 36 (.int .i64 0) 1 8 := ⟨JP⟩
theorem Xe : El Tryz.prog 196 (.agg #[]) 0 0 := by unfold El; kernel_rfl
instance : ElC Tryz.prog 196 (.agg #[]) 0 0 := ⟨Xe⟩
theorem Wx : Bls Tryz.prog 196 [] [] := by unfold Bls; kernel_rfl
instance : Jn Tryz.prog 196 [] [] := ⟨Wx⟩
theorem Ke : El Tryz.prog 31 (.slice none 0 0) 1 24 := by unfold El; kernel_rfl
instance : ElC Tryz.prog 31 (.slice none 0 0) 1 24 := ⟨Ke⟩
theorem Uk : El Tryz.prog 95 (.slice none 0 0) 1 24 := by unfold El; kernel_rfl
instance : ElC Tryz.prog 95 (.slice none 0 0) 1 24 := ⟨Uk⟩
theorem ZV : El Tryz.prog 27 (.slice none 0 0) 1 24 := by unfold El; kernel_rfl
instance : ElC Tryz.prog 27 (.slice none 0 0) 1 24 := ⟨ZV⟩
theorem UU : El Tryz.prog 60 (.slice none 0 0) 1 24 := by unfold El; kernel_rfl
instance : ElC Tryz.prog 60 (.slice none 0 0) 1 24 := ⟨UU⟩
theorem VU : El Tryz.prog 59 (.slice none 0 0) 1 24 := by unfold El; kernel_rfl
instance : ElC Tryz.prog 59 (.slice none 0 0) 1 24 := ⟨VU⟩
theorem RF : El Tryz.prog 92 (.slice none 0 0) 1 24 := by unfold El; kernel_rfl
instance : ElC Tryz.prog 92 (.slice none 0 0) 1 24 := ⟨RF⟩
theorem UB : El Tryz.prog 178 (.slice none 0 0) 1 24 := by unfold El; kernel_rfl
instance : ElC Tryz.prog 178 (.slice none 0 0) 1 24 := ⟨UB⟩
theorem VW : El Tryz.prog 23 (.slice none 0 0) 1 24 := by unfold El; kernel_rfl
instance : ElC Tryz.prog 23 (.slice none 0 0) 1 24 := ⟨VW⟩
theorem XD : El Tryz.prog 129 (.slice none 0 0) 1 24 := by unfold El; kernel_rfl
instance : ElC Tryz.prog 129 (.slice none 0 0) 1 24 := ⟨XD⟩
theorem Z8 : El Tryz.prog 144 (.agg #[.int .i64 0, .int .i64 0]) 2 16 := by unfold El; kernel_rfl
instance : ElC Tryz.prog 144 (.agg #[.int .i64 0, .int .i64 0]) 2 16 := ⟨Z8⟩
theorem Yx : Fld Tryz.prog 144 0 0 := by unfold Fld; kernel_rfl
instance : FdC Tryz.prog 144 0 0 := ⟨Yx⟩
theorem ZK : Fld Tryz.prog 144 1 1 := by unfold Fld; kernel_rfl
instance : FdC Tryz.prog 144 1 1 := ⟨ZK⟩
theorem RA : Fld Tryz.prog 213 0 0 := by unfold Fld; kernel_rfl
instance : FdC Tryz.prog 213 0 0 := ⟨RA⟩
theorem RE : Fld Tryz.prog 213 1 1 := by unfold Fld; kernel_rfl
instance : FdC Tryz.prog 213 1 1 := ⟨RE⟩
theorem Sv : Bl2 Tryz.prog 213 := by unfold Bl2; kernel_rfl
instance : BlC Tryz.prog 213 := ⟨Sv⟩
theorem Vu : Fld Tryz.prog 217 0 0 := by unfold Fld; kernel_rfl
instance : FdC Tryz.prog 217 0 0 := ⟨Vu⟩
theorem Vx : Fld Tryz.prog 217 1 1 := by unfold Fld; kernel_rfl
instance : FdC Tryz.prog 217 1 1 := ⟨Vx⟩
theorem XN : Bl2 Tryz.prog 217 := by unfold Bl2; kernel_rfl
instance : BlC Tryz.prog 217 := ⟨XN⟩
theorem Pc : Fld Tryz.prog 209 0 0 := by unfold Fld; kernel_rfl
instance : FdC Tryz.prog 209 0 0 := ⟨Pc⟩
theorem QZ : Fld Tryz.prog 209 1 1 := by unfold Fld; kernel_rfl
instance : FdC Tryz.prog 209 1 1 := ⟨QZ⟩
theorem P6 : Bls Tryz.prog 209 [.slice none 0 0, .slice none 0 0] [(0, 1), (1, 1)] := by unfold Bls; kernel_rfl
instance : Jn Tryz.prog 209 [.slice none 0 0, .slice none 0 0] [(0, 1), (1, 1)] := ⟨P6⟩
theorem YB : El Tryz.prog 82 (.agg #[.int .i64 0, .int .i64 0]) 2 16 := by unfold El; kernel_rfl
instance : ElC Tryz.prog 82 (.agg #[.int .i64 0, .int .i64 0]) 2 16 := ⟨YB⟩
theorem U3 : Fld Tryz.prog 82 0 0 := by unfold Fld; kernel_rfl
instance : FdC Tryz.prog 82 0 0 := ⟨U3⟩
theorem WY : Fld Tryz.prog 82 1 1 := by unfold Fld; kernel_rfl
instance : FdC Tryz.prog 82 1 1 := ⟨WY⟩
theorem Xo : Bl2 Tryz.prog 82 := by unfold Bl2; kernel_rfl
instance : BlC Tryz.prog 82 := ⟨Xo⟩
theorem UP : El Tryz.prog 62 (.agg #[.slice none 0 0, .int .i64 0, .slice none 0 0, .slice none 0 0, .int .i64 0]) 5 88 := by unfold El; kernel_rfl
instance : ElC Tryz.prog 62 (.agg #[.slice none 0 0, .int .i64 0, .slice none 0 0, .slice none 0 0, .int .i64 0]) 5 88 := ⟨UP⟩
theorem UG : Fld Tryz.prog 62 0 0 := by unfold Fld; kernel_rfl
instance : FdC Tryz.prog 62 0 0 := ⟨UG⟩
theorem TU : Fld Tryz.prog 62 1 1 := by unfold Fld; kernel_rfl
instance : FdC Tryz.prog 62 1 1 := ⟨TU⟩
theorem Sy : Fld Tryz.prog 62 2 2 := by unfold Fld; kernel_rfl
instance : FdC Tryz.prog 62 2 2 := ⟨Sy⟩
theorem S4 : Fld Tryz.prog 62 3 3 := by unfold Fld; kernel_rfl
instance : FdC Tryz.prog 62 3 3 := ⟨S4⟩
theorem TK : Fld Tryz.prog 62 4 4 := by unfold Fld; kernel_rfl
instance : FdC Tryz.prog 62 4 4 := ⟨TK⟩
theorem UA : Bls Tryz.prog 62 [.slice none 0 0, .int .i64 0, .slice none 0 0, .slice none 0 0, .int .i64 0] [(0, 1), (1, 1), (2, 1), (3, 1), (4, 1)] := by unfold Bls; kernel_rfl
instance : Jn Tryz.prog 62 [.slice none 0 0, .int .i64 0, .slice none 0 0, .slice none 0 0, .int .i64 0] [(0, 1), (1, 1), (2, 1), (3, 1), (4, 1)] := ⟨UA⟩
theorem X3 : El Tryz.prog 94 (.agg #[.slice none 0 0, .slice none 0 0]) 2 48 := by unfold El; kernel_rfl
instance : ElC Tryz.prog 94 (.agg #[.slice none 0 0, .slice none 0 0]) 2 48 := ⟨X3⟩
theorem UR : Fld Tryz.prog 94 0 0 := by unfold Fld; kernel_rfl
instance : FdC Tryz.prog 94 0 0 := ⟨UR⟩
theorem VF : Fld Tryz.prog 94 1 1 := by unfold Fld; kernel_rfl
instance : FdC Tryz.prog 94 1 1 := ⟨VF⟩
theorem Qg : Fld Tryz.prog 180 0 0 := by unfold Fld; kernel_rfl
instance : FdC Tryz.prog 180 0 0 := ⟨Qg⟩
theorem RK : Fld Tryz.prog 180 1 5 := by unfold Fld; kernel_rfl
instance : FdC Tryz.prog 180 1 5 := ⟨RK⟩
theorem RZ : Fld Tryz.prog 180 2 6 := by unfold Fld; kernel_rfl
instance : FdC Tryz.prog 180 2 6 := ⟨RZ⟩
theorem Re : Fld Tryz.prog 180 3 7 := by unfold Fld; kernel_rfl
instance : FdC Tryz.prog 180 3 7 := ⟨Re⟩
theorem Qk : Fld Tryz.prog 180 4 8 := by unfold Fld; kernel_rfl
instance : FdC Tryz.prog 180 4 8 := ⟨Qk⟩
theorem Qi : Fld Tryz.prog 180 5 9 := by unfold Fld; kernel_rfl
instance : FdC Tryz.prog 180 5 9 := ⟨Qi⟩
theorem Q4 : Fld Tryz.prog 180 6 10 := by unfold Fld; kernel_rfl
instance : FdC Tryz.prog 180 6 10 := ⟨Q4⟩
theorem Qb : Bls Tryz.prog 180 [.slice none 0 0, .int .i64 0, .slice none 0 0, .slice none 0 0, .int .i64 0, .slice none 0 0, .slice none 0 0, .slice none 0 0, .slice none 0 0, .slice none 0 0, .int .i64 0] [(0, 5), (5, 1), (6, 1), (7, 1), (8, 1), (9, 1), (10, 1)] := by unfold Bls; kernel_rfl
instance : Jn Tryz.prog 180 [.slice none 0 0, .int .i64 0, .slice none 0 0, .slice none 0 0, .int .i64 0, .slice none 0 0, .slice none 0 0, .slice none 0 0, .slice none 0 0, .slice none 0 0, .int .i64 0] [(0, 5), (5, 1), (6, 1), (7, 1), (8, 1), (9, 1), (10, 1)] := ⟨Qb⟩
theorem VP : El Tryz.prog 219 (.agg #[.int .i64 0, .int .i64 0]) 2 16 := by unfold El; kernel_rfl
instance : ElC Tryz.prog 219 (.agg #[.int .i64 0, .int .i64 0]) 2 16 := ⟨VP⟩
theorem Ti : Fld Tryz.prog 219 0 0 := by unfold Fld; kernel_rfl
instance : FdC Tryz.prog 219 0 0 := ⟨Ti⟩
theorem S6 : Fld Tryz.prog 219 1 1 := by unfold Fld; kernel_rfl
instance : FdC Tryz.prog 219 1 1 := ⟨S6⟩
theorem T5 : Bls Tryz.prog 219 [.int .i64 0, .int .i64 0] [(0, 1), (1, 1)] := by unfold Bls; kernel_rfl
instance : Jn Tryz.prog 219 [.int .i64 0, .int .i64 0] [(0, 1), (1, 1)] := ⟨T5⟩
theorem Us : El Tryz.prog 33 (.agg #[.slice none 0 0, .slice none 0 0]) 2 48 := by unfold El; kernel_rfl
instance : ElC Tryz.prog 33 (.agg #[.slice none 0 0, .slice none 0 0]) 2 48 := ⟨Us⟩
theorem Th : Fld Tryz.prog 33 0 0 := by unfold Fld; kernel_rfl
instance : FdC Tryz.prog 33 0 0 := ⟨Th⟩
theorem UJ : Fld Tryz.prog 33 1 1 := by unfold Fld; kernel_rfl
instance : FdC Tryz.prog 33 1 1 := ⟨UJ⟩
theorem TM : Bls Tryz.prog 33 [.slice none 0 0, .slice none 0 0] [(0, 1), (1, 1)] := by unfold Bls; kernel_rfl
instance : Jn Tryz.prog 33 [.slice none 0 0, .slice none 0 0] [(0, 1), (1, 1)] := ⟨TM⟩
theorem W0 : Bl2 Tryz.prog 33 := by unfold Bl2; kernel_rfl
instance : BlC Tryz.prog 33 := ⟨W0⟩
theorem Qv : El Tryz.prog 35 (.agg #[.bool false, .slice none 0 0, .slice none 0 0]) 3 56 := by unfold El; kernel_rfl
instance : ElC Tryz.prog 35 (.agg #[.bool false, .slice none 0 0, .slice none 0 0]) 3 56 := ⟨Qv⟩
theorem QX : Fld Tryz.prog 35 0 0 := by unfold Fld; kernel_rfl
instance : FdC Tryz.prog 35 0 0 := ⟨QX⟩
theorem Pz : Fld Tryz.prog 35 1 1 := by unfold Fld; kernel_rfl
instance : FdC Tryz.prog 35 1 1 := ⟨Pz⟩
theorem QT : Bls Tryz.prog 35 [.bool false, .slice none 0 0, .slice none 0 0] [(0, 1), (1, 2)] := by unfold Bls; kernel_rfl
instance : Jn Tryz.prog 35 [.bool false, .slice none 0 0, .slice none 0 0] [(0, 1), (1, 2)] := ⟨QT⟩
theorem QL : El Tryz.prog 142 (.agg #[.string ByteArray.empty, .int .i64 0, .int .i64 0, .int .i64 0]) 4 40 := by unfold El; kernel_rfl
instance : ElC Tryz.prog 142 (.agg #[.string ByteArray.empty, .int .i64 0, .int .i64 0, .int .i64 0]) 4 40 := ⟨QL⟩
theorem OA : Fld Tryz.prog 142 0 0 := by unfold Fld; kernel_rfl
instance : FdC Tryz.prog 142 0 0 := ⟨OA⟩
theorem Na : Fld Tryz.prog 142 1 1 := by unfold Fld; kernel_rfl
instance : FdC Tryz.prog 142 1 1 := ⟨Na⟩
theorem Ns : Fld Tryz.prog 142 2 2 := by unfold Fld; kernel_rfl
instance : FdC Tryz.prog 142 2 2 := ⟨Ns⟩
theorem OH : Fld Tryz.prog 142 3 3 := by unfold Fld; kernel_rfl
instance : FdC Tryz.prog 142 3 3 := ⟨OH⟩
theorem Zt : El Tryz.prog 133 (.agg #[.int .i64 0, .slice none 0 0]) 2 32 := by unfold El; kernel_rfl
instance : ElC Tryz.prog 133 (.agg #[.int .i64 0, .slice none 0 0]) 2 32 := ⟨Zt⟩
theorem Xb : Fld Tryz.prog 133 0 0 := by unfold Fld; kernel_rfl
instance : FdC Tryz.prog 133 0 0 := ⟨Xb⟩
theorem YV : Fld Tryz.prog 133 1 1 := by unfold Fld; kernel_rfl
instance : FdC Tryz.prog 133 1 1 := ⟨YV⟩
theorem Zj : Bl2 Tryz.prog 133 := by unfold Bl2; kernel_rfl
instance : BlC Tryz.prog 133 := ⟨Zj⟩
theorem YS : El Tryz.prog 131 (.agg #[.slice none 0 0, .slice none 0 0]) 2 48 := by unfold El; kernel_rfl
instance : ElC Tryz.prog 131 (.agg #[.slice none 0 0, .slice none 0 0]) 2 48 := ⟨YS⟩
theorem Vs : Fld Tryz.prog 131 0 0 := by unfold Fld; kernel_rfl
instance : FdC Tryz.prog 131 0 0 := ⟨Vs⟩
theorem WC : Fld Tryz.prog 131 1 1 := by unfold Fld; kernel_rfl
instance : FdC Tryz.prog 131 1 1 := ⟨WC⟩
theorem UT : Bls Tryz.prog 131 [.slice none 0 0, .slice none 0 0] [(0, 1), (1, 1)] := by unfold Bls; kernel_rfl
instance : Jn Tryz.prog 131 [.slice none 0 0, .slice none 0 0] [(0, 1), (1, 1)] := ⟨UT⟩
theorem Uz : El Tryz.prog 25 (.agg #[.slice none 0 0, .slice none 0 0]) 2 48 := by unfold El; kernel_rfl
instance : ElC Tryz.prog 25 (.agg #[.slice none 0 0, .slice none 0 0]) 2 48 := ⟨Uz⟩
theorem TW : Fld Tryz.prog 25 0 0 := by unfold Fld; kernel_rfl
instance : FdC Tryz.prog 25 0 0 := ⟨TW⟩
theorem Sj : Fld Tryz.prog 25 1 1 := by unfold Fld; kernel_rfl
instance : FdC Tryz.prog 25 1 1 := ⟨Sj⟩
theorem Te : Bls Tryz.prog 25 [.slice none 0 0, .slice none 0 0] [(0, 1), (1, 1)] := by unfold Bls; kernel_rfl
instance : Jn Tryz.prog 25 [.slice none 0 0, .slice none 0 0] [(0, 1), (1, 1)] := ⟨Te⟩
theorem XV : El Tryz.prog 29 (.agg #[.slice none 0 0, .slice none 0 0, .slice none 0 0, .slice none 0 0]) 4 96 := by unfold El; kernel_rfl
instance : ElC Tryz.prog 29 (.agg #[.slice none 0 0, .slice none 0 0, .slice none 0 0, .slice none 0 0]) 4 96 := ⟨XV⟩
theorem Vk : Fld Tryz.prog 29 0 0 := by unfold Fld; kernel_rfl
instance : FdC Tryz.prog 29 0 0 := ⟨Vk⟩
theorem Wb : Fld Tryz.prog 29 1 2 := by unfold Fld; kernel_rfl
instance : FdC Tryz.prog 29 1 2 := ⟨Wb⟩
theorem VB : Fld Tryz.prog 29 2 3 := by unfold Fld; kernel_rfl
instance : FdC Tryz.prog 29 2 3 := ⟨VB⟩
theorem U8 : Bls Tryz.prog 29 [.slice none 0 0, .slice none 0 0, .slice none 0 0, .slice none 0 0] [(0, 2), (2, 1), (3, 1)] := by unfold Bls; kernel_rfl
instance : Jn Tryz.prog 29 [.slice none 0 0, .slice none 0 0, .slice none 0 0, .slice none 0 0] [(0, 2), (2, 1), (3, 1)] := ⟨U8⟩
theorem Wu : El Tryz.prog 136 (.agg #[.slice none 0 0, .int .i64 0, .slice none 0 0, .slice none 0 0, .int .i64 0]) 5 88 := by unfold El; kernel_rfl
instance : ElC Tryz.prog 136 (.agg #[.slice none 0 0, .int .i64 0, .slice none 0 0, .slice none 0 0, .int .i64 0]) 5 88 := ⟨Wu⟩
theorem TQ : Fld Tryz.prog 136 0 0 := by unfold Fld; kernel_rfl
instance : FdC Tryz.prog 136 0 0 := ⟨TQ⟩
theorem UC : Bls Tryz.prog 136 [.slice none 0 0, .int .i64 0, .slice none 0 0, .slice none 0 0, .int .i64 0] [(0, 5)] := by unfold Bls; kernel_rfl
instance : Jn Tryz.prog 136 [.slice none 0 0, .int .i64 0, .slice none 0 0, .slice none 0 0, .int .i64 0] [(0, 5)] := ⟨UC⟩
theorem Zk : Eq2 Tryz.prog 144 := ⟨by kernel_rfl, fun a b c d w => by
  have u3 := Tryz.underlying3
  rw [show (10000 : Nat) = 9999 + 1 from rfl, run_equalIn_agg w 9999 144 _ _ (by kernel_rfl) (by kernel_rfl)]
  simp only [Program.fieldsOf, Tryz.underlying144]
  go_simp
  by_cases h1 : a = c <;> by_cases h2 : b = d <;> simp [h1, h2]⟩
instance : EqC Tryz.prog 144 := ⟨Zk⟩
theorem By : Eq2 Tryz.prog 82 := ⟨by kernel_rfl, fun a b c d w => by
  have u3 := Tryz.underlying3
  rw [show (10000 : Nat) = 9999 + 1 from rfl, run_equalIn_agg w 9999 82 _ _ (by kernel_rfl) (by kernel_rfl)]
  simp only [Program.fieldsOf, Tryz.underlying82]
  go_simp
  by_cases h1 : a = c <;> by_cases h2 : b = d <;> simp [h1, h2]⟩
theorem Sz : WH Tryz.prog 36 := ⟨_, Tryz.underlying36, fun _ h => by cases h⟩
instance : aO Tryz.prog 36 := ⟨Sz⟩
theorem mixed : Tryz.prog.follows .mixedOrders = true := by kernel_rfl
def Ih : List D := [-1, 0, 0, 2, 2, 2, 2, 2, 2, 2, 1, 0, 0, 0, 1, 2, 2, 1, 1].map fun n => D.i .i64 n
def GP : List (Nat × List D) := [(0, Ih)]
theorem ZG : (0, Ih) ∈ GP := by simp [GP]
end Go.Proofs.YtibahljljjkceaaGreatDoor
namespace Go.Av
open Go
class Mj : Prop
class Rk : Prop
class OT (n : outParam Nat) : Prop
theorem useA [Mj] {p : Prop} (h : p) : p := h
theorem useH [Rk] {p : Prop} (h : p) : p := h
section
variable {k : Kx} {Q : Exit → Env → H → Prop} {ρ : Env} {h : H}
theorem ZD {n : Nat} [OT n] {id : Nat} {l : List Oper} (_hA : Nat.ble n (l.countP fun o => effB o.op) = true) (hj : Stop (J k (.region id l.toArray true) Q ρ h)) : J k (.region id l.toArray true) Q ρ h := hj.get
end
theorem Zw {p : Prop} {i : Decidable p} (h : @decide p i = true) : p := of_decide_eq_true h
theorem aU {p : Prop} {i : Decidable p} (h : @decide p i = false) : ¬ p := of_decide_eq_false h
theorem BI {p : Prop} (h : p := by (first | omega | (simp only [List.length_map, List.length_range, List.length_append, List.length_cons, List.length_nil, List.length_take, List.length_drop, List.length_set, List.length_replicate]; omega))) : p := h
theorem CV {p : Prop} (h : p := by ((repeat (first | with_reducible exact Upd.here | with_reducible apply Upd.there)); first | done | fail)) : p := h
theorem Db {p : Prop} (h : p := by (intro q_; (repeat (first | with_reducible exact Upd.here | with_reducible apply Upd.there)); first | done | fail)) : p := h
theorem Zz {p : Prop} (h : p := by ((repeat (first | exact Hm.nil | apply Hm.put | apply Hm.skip)); first | done | fail)) : p := h
theorem Az {p : Prop} (h : p := by ((repeat (first | exact List.mem_cons_self | apply List.mem_cons_of_mem)); first | done | fail)) : p := h
theorem Hs {p : Prop} (h : p := by ((repeat (first | exact List.nil_sublist _ | (with_reducible apply List.Sublist.cons_cons) | apply List.Sublist.cons)); first | done | fail)) : p := h
theorem AI {p : Prop} (h : p := by ((repeat (first | exact Take.nil | ((with_reducible apply Take.cons); (focus ((repeat (first | exact Sel.here | with_reducible apply Sel.there)); done))))); first | done | fail)) : p := h
theorem leD {p : Prop} (h : p := by
 repeat (first
  | exact Env.le_nil _
  | refine Env.le_cons (AV.le_refl _) ?_
  | refine Env.le_cons (AV.le_int rfl (by first | rfl | omega | (dsimp only; omega))) ?_)
 first | done | fail) : p := h
theorem cx {c q : Prop} (hc : c) (h : c → q := by intro hc; first | contradiction | (exfalso; omega)) : q := h hc
theorem cx1 {c q : Prop} (hc : c) (h : c → q := by intro hc; first | contradiction | (exfalso; omega) | (exfalso; exact absurd (Zw hc) (by assumption)) | (exfalso; exact aU hc (by assumption))) : q := h hc
theorem HD {p : Prop} (h : p := by
 (first
  | (first
    | ((with_reducible apply Rj); rfl)
    | ((with_reducible apply MZ); rfl)
    | ((with_reducible apply NU); rfl; rfl)
    | ((with_reducible apply WG); rfl; rfl)
    | ((with_reducible apply VM); rfl; rfl)
    | ((with_reducible apply Ww); rfl; rfl)
    | ((with_reducible apply MD); rfl; rfl; rfl)
    | ((with_reducible apply MH); rfl; rfl; rfl)
    | ((with_reducible apply UK); rfl; rfl)
    )
  | (first
    | ((with_reducible apply Vw); rfl; rfl)
    | ((with_reducible apply VT); rfl; rfl)
    | ((with_reducible apply UW); rfl; rfl; (focus (first | (unfold A9; omega) | (unfold A9; simp only [Int.reduceToNat, Int.reducePow]; omega) | assumption)))
    | ((with_reducible apply VG); rfl; rfl; (focus (first | (unfold A9; omega) | (unfold A9; simp only [Int.reduceToNat, Int.reducePow]; omega) | assumption)))
    | ((with_reducible apply WW); rfl; rfl; (focus (first | (unfold A9; omega) | (unfold A9; simp only [Int.reduceToNat, Int.reducePow]; omega) | assumption)))
    | ((with_reducible apply VX); rfl; rfl; omega; omega; omega)
    | ((with_reducible apply UM); rfl; rfl; omega; omega)
    | ((with_reducible apply US); rfl; rfl; omega; omega; (focus (first | (unfold A9; omega) | (unfold A9; simp only [Int.reduceToNat, Int.reducePow]; omega) | assumption)))
    | ((with_reducible apply UX); rfl; rfl; omega; omega)
    )
  | (first
    | ((with_reducible apply pure_shl_u); rfl; rfl; omega; omega; (focus (first | (unfold A9; omega) | (unfold A9; simp only [Int.reduceToNat, Int.reducePow]; omega) | assumption)))
    | ((with_reducible apply pure_shr_u); rfl; rfl; omega; omega)
    | ((with_reducible apply pure_and1); rfl; rfl; omega; omega)
    | ((with_reducible apply pure_and); rfl; rfl)
    | ((with_reducible apply pure_or); rfl; rfl)
    | ((with_reducible apply pure_neg); rfl; (focus (first | (unfold A9; omega) | (unfold A9; simp only [Int.reduceToNat, Int.reducePow]; omega) | assumption)))
    | ((with_reducible apply KZ); rfl; rfl)
    | ((with_reducible apply pure_neq_string); rfl; rfl)
    | ((with_reducible apply Ng); rfl; rfl)
    )
  | (first
    | ((with_reducible apply MC); rfl; rfl)
    | ((with_reducible apply Wm); rfl)
    | ((with_reducible apply Yo); rfl; rfl)
    | ((with_reducible apply PA); rfl; rfl)
    | ((with_reducible apply pu_max); rfl; rfl)
    | ((with_reducible apply ZI); rfl; rfl)
    | ((with_reducible apply pu_slice_to3); rfl; rfl; rfl; rfl; (focus (with_reducible exact ElC.h)); omega; (focus exact BI))
    | ((with_reducible apply QU); rfl; (focus rfl); rfl; (focus (with_reducible exact ElC.h)); (focus exact BI))
    | ((with_reducible apply Ln); rfl; rfl; rfl; (focus (with_reducible exact ElC.h)); (focus exact BI))
    | ((with_reducible apply Pd); rfl; rfl; rfl; (focus (with_reducible exact ElC.h)); omega; (focus exact BI))
    | ((with_reducible apply VE); rfl; rfl)
    )
  | (first
    | ((with_reducible apply WM); rfl; rfl; rfl)
    | ((with_reducible apply pu_slice); rfl; rfl; rfl; rfl; (focus (with_reducible exact ElC.h)); omega; omega; (focus exact BI))
    | ((with_reducible apply MA); rfl; rfl; rfl; (focus (with_reducible exact ElC.h)); omega; (focus exact BI))
    | ((with_reducible apply Oh); rfl; rfl; rfl; (focus (with_reducible exact ElC.h)); omega; (focus exact BI))
    | ((with_reducible apply P0); rfl; rfl; rfl; (focus (with_reducible exact ElC.h)); omega)
    | ((with_reducible apply Ob); rfl; rfl; rfl; (focus (with_reducible exact ElC.h)); omega; omega)
    | ((with_reducible apply Fc); rfl; rfl; (focus (with_reducible exact ElC.h)); rfl; omega; omega)
    | ((with_reducible apply It); rfl; rfl; rfl; (focus (with_reducible exact ElC.h)); (focus exact Az); (focus exact BI))
    | ((with_reducible apply MP); rfl; rfl; rfl; (focus (with_reducible exact ElC.h)); (focus exact Az); omega; (focus exact BI))
    | ((with_reducible apply K6); (focus (with_reducible exact FdC.h)); rfl)
    | ((with_reducible apply Mt); rfl; rfl)
    | ((with_reducible apply P2); rfl; rfl; (focus (with_reducible exact ElC.h)); rfl)
    | ((with_reducible apply XL); (focus (with_reducible exact EqC.h)); rfl; rfl)
    )
  | (first
    | ((with_reducible apply QH); rfl)
    | ((with_reducible apply pu_nilCheck_pd); rfl)
    | ((with_reducible apply K0); (focus (with_reducible exact FdC.h)); rfl)
    | ((with_reducible apply P4); rfl; rfl; (focus exact Az); (focus exact BI))
    | ((with_reducible apply IM); rfl; rfl; (focus exact Az); (first | rfl | assumption | ((apply set_ne_get); (focus assumption); (focus (first | omega | exact Nat.ne_of_lt (Nat.lt_succ_self _))))))
    | ((with_reducible apply Nz); rfl; rfl; (focus exact Az); (focus exact fun _ => rfl); rfl; (focus exact BI))
    | ((with_reducible apply Ix); rfl; rfl; (focus exact Az); (focus exact fun _ => rfl); rfl; (focus exact BI))
    | ((with_reducible apply pu_field_row); (focus (with_reducible exact FdC.h)); rfl)
    | ((with_reducible apply JY); rfl; rfl; (focus (with_reducible exact ElC.h)); (focus exact Az); rfl)
    | ((with_reducible apply U2); (focus (with_reducible exact aO.h)); rfl)
    | ((with_reducible apply Ph); (focus (with_reducible exact BlC.h)); rfl; rfl; rfl; rfl)
    | ((with_reducible apply Uy); (focus (with_reducible exact Jn.h)); rfl; rfl; rfl)
    | ((with_reducible apply Ol); rfl; rfl; rfl)
    )
  | (first
    | ((with_reducible apply pu_int_byte); rfl; rfl; rfl)
    | ((with_reducible apply pu_int_int); rfl; rfl; rfl; (focus (first | (unfold A9; omega) | (unfold A9; simp only [Int.reduceToNat, Int.reducePow]; omega) | assumption)))
    | ((with_reducible apply pu_bytes_string); rfl; rfl; rfl; rfl)
    | ((with_reducible apply RY); rfl; rfl; (focus exact Az))
    | ((with_reducible apply Nw); rfl; rfl; rfl; (focus (with_reducible exact ElC.h)); (focus exact Az); omega; (focus exact BI))
    | ((with_reducible apply pu_index_cut); rfl; rfl; rfl; (focus (with_reducible exact ElC.h)); (focus exact Az); omega; omega; (focus exact BI))
    | ((with_reducible apply Q6); rfl; rfl; (focus exact Az))
    | ((with_reducible apply pu_len_cut); rfl; rfl; (focus exact Az))
    | ((with_reducible apply OY); rfl; rfl)
    | ((with_reducible apply OZ); rfl; rfl; rfl; (focus (with_reducible exact ElC.h)); (focus exact Az); omega; (focus exact BI))
    | ((with_reducible apply OV); rfl; rfl; rfl; (focus (with_reducible exact ElC.h)); (focus exact Az); (focus exact BI))
    | ((with_reducible apply P1); rfl; exact Nu; exact ZG; rfl; omega; omega)
    | ((with_reducible apply pu_index_arr); rfl; rfl; rfl; (focus (with_reducible exact ElC.h)); omega; omega)
    )
  )) : p := h
theorem ca {P C p q : Prop} (k : P) (c : C) (hp : p) (h : P → C → p → q := by
 intro k_ c_
 apply cmp; (focus (first
  | ((with_reducible apply JW); (focus rfl); (focus exact k_); (focus exact c_); (focus rfl))
  | ((with_reducible apply je_call0); (focus rfl); (focus (decide +kernel)); (focus rfl); (focus exact k_); (focus exact c_); (focus rfl))))
 exact fun h => h) : q := h k c hp
theorem cae {P C p q : Prop} (k : P) (c : C) (hp : p) (h : P → C → p → q := by
 intro k_ c_
 apply cmp; (focus (first
  | ((with_reducible apply Zc); (focus rfl); (focus exact k_); (focus exact c_); (focus rfl))
  | ((with_reducible apply je_callE); (focus rfl); (focus (decide +kernel)); (focus rfl); (focus exact k_); (focus exact c_); (focus rfl))))
 exact fun h => h) : q := h k c hp
theorem caq {P C p q : Prop} (k : P) (c : C) (hp : p) (h : P → C → p → q := by
 intro k_ c_
 apply cmp; (focus ((with_reducible apply Z3); (focus rfl); (focus exact k_); (focus exact c_); (focus rfl)))
 exact fun h => h) : q := h k c hp
theorem cag {P C p q : Prop} (k : P) (c : C) (hp : p) (h : P → C → p → q := by
 intro k_ c_
 apply cmp; (focus ((with_reducible apply DW); (focus rfl); (focus exact k_); (focus exact c_); (focus ((repeat (first | with_reducible exact Take.nil | ((with_reducible apply Take.cons); (focus ((repeat (first | with_reducible exact Sel.here | with_reducible apply Sel.there)); done))))); done)); (focus rfl); (focus (intro v_; (repeat (first | exact App.nil | apply App.cons)); done))))
 exact fun h => h) : q := h k c hp
theorem cgv {P C p q : Prop} (k : P) (c : C) (hp : p) (h : P → C → p → q := by
 intro k_ c_
 apply cmp; (focus ((with_reducible apply DD); (focus rfl); (focus rfl); (focus exact k_); (focus exact c_); (focus ((repeat (first | with_reducible exact Take.nil | ((with_reducible apply Take.cons); (focus ((repeat (first | with_reducible exact Sel.here | with_reducible apply Sel.there)); done))))); done)); (focus rfl); (focus (intro v_; (repeat (first | exact App.nil | apply App.cons)); done))))
 exact fun h => h) : q := h k c hp
end Go.Av
namespace Go.Proofs.YtibahljljjkceaaGreatDoor
open Go Go.Av

theorem Wz {p q : Prop} (h : p → q := by
 apply cmp; (focus (first
  | ((with_reducible apply Z5); (focus rfl); (focus rfl); (focus rfl))
  | ((with_reducible apply WZ); (focus (with_reducible exact ElC.h)); (focus rfl); (focus rfl))
  | ((with_reducible apply YM); (focus (with_reducible exact ElC.h)); (focus rfl))
  | ((with_reducible apply Wh); (focus rfl); (focus rfl); (focus (with_reducible exact ElC.h)); (focus omega); (focus omega); (focus rfl))
  | ((with_reducible apply XX); (focus rfl); (focus rfl); (focus (with_reducible exact ElC.h)); (focus omega); (focus omega); (focus rfl))
  | ((with_reducible apply Zy); (focus rfl); (focus exact CV); (focus rfl); (focus rfl); (focus (with_reducible exact ElC.h)); (focus exact BI))
  | ((with_reducible apply aJ); (focus rfl); (focus rfl); (focus rfl); (focus (with_reducible exact ElC.h)); (focus rfl); (focus exact CV); (focus rfl))
  | ((with_reducible apply Z6); (focus rfl); (focus rfl); (focus rfl); (focus (with_reducible exact ElC.h)); (focus exact CV); (focus exact Zz))
  | ((with_reducible apply js_us); (focus rfl); (focus rfl); (focus rfl); (focus (with_reducible exact ElC.h)); (focus rfl); (focus exact CV); (focus exact Zz))
  ))
 exact fun h => h) : p → q := h
theorem B6 {p q : Prop} (hp : p) (h : p → q := by exact Wz) : q := h hp
theorem TE {p q : Prop} (h : p → q := by
 repeat1' (apply cmp; (focus (first
  | ((with_reducible apply ZD); (focus (decide +kernel)))
  | ((refine useA ?_); (first
   | ((with_reducible apply Ea); (focus rfl); (focus rfl); (focus (with_reducible exact ElC.h)); (focus exact Db); (focus rfl); (focus rfl); (focus rfl); (focus rfl); (focus exact BI); (focus exact BI))
   | ((with_reducible apply Z9); (focus rfl); (focus rfl); (focus (with_reducible exact ElC.h)); (focus exact Db); (focus rfl); (focus rfl); (focus rfl); (focus rfl); (focus exact BI); (focus exact BI))
   | exact Wz
   | ((with_reducible apply Vg); (focus rfl); (focus rfl); (focus (with_reducible exact ElC.h)); (focus exact CV); (focus exact fun _ => rfl); (focus rfl); (focus exact BI))
   | ((with_reducible apply XK); (focus rfl); (focus rfl); (focus (with_reducible exact ElC.h)); (focus rfl); (focus exact CV); (focus rfl); (focus exact fun _ => rfl); (focus exact BI))
   | ((with_reducible apply ZS); (focus rfl); (focus rfl); (focus rfl); (focus (with_reducible exact ElC.h)); (focus exact Db); (focus exact fun _ => rfl); (focus omega); (focus exact BI); (focus rfl))
   ))
  | ((refine useH ?_); (first
   | (first
    | ((with_reducible apply KS); (focus exact mixed); (focus rfl); (focus ((repeat ((with_reducible apply Hd.cons); (focus rfl))); exact Hd.nil)); (focus ((repeat (with_reducible apply Ax)); exact len_nil)); (focus (decide +kernel)))
    | ((with_reducible apply Rn); (focus (decide +kernel)); (focus ((repeat (with_reducible apply App.cons)); exact App.nil)))
    | ((with_reducible apply Iu); (focus rfl); (focus (decide +kernel)); (focus exact HD); (focus rfl))
    | ((with_reducible apply YZ); (focus rfl); (focus rfl); (focus rfl); (focus rfl); (focus rfl); (focus (decide +kernel)); (focus exact HD); (focus rfl))
    | ((with_reducible apply Yl); (focus rfl); (focus rfl); (focus rfl); (focus rfl); (focus rfl); (focus (decide +kernel)); (focus rfl))
    | ((with_reducible apply jh_gu); (focus rfl); (focus rfl); (focus rfl); (focus rfl); (focus (decide +kernel)); (focus rfl))
    | ((with_reducible apply PF); (focus rfl); (focus rfl); (focus rfl); (focus rfl); (focus (decide +kernel)))
    | with_reducible apply SD
    | with_reducible apply Rt
    | ((with_reducible apply Wg); (focus (decide +kernel)); (focus (decide +kernel)))
    | with_reducible exact SP
    | ((with_reducible apply Uc); (focus (decide +kernel)))
    | ((with_reducible apply R3); (focus rfl))
    | with_reducible apply Wr
    )
   ))
  | (first
    | (first
     | with_reducible exact NR
     | ((with_reducible apply jp); (focus exact HD); (focus rfl))
     | ((with_reducible apply jgt); (focus rfl); (focus rfl); (focus rfl); (focus rfl); (focus rfl))
     | ((with_reducible apply jgf); (focus rfl); (focus rfl); (focus rfl); (focus rfl); (focus rfl))
     | ((with_reducible apply jgu); (focus rfl); (focus rfl); (focus rfl); (focus rfl))
     | ((with_reducible apply jqu); (focus rfl); (focus rfl); (focus rfl); (focus rfl))
     | with_reducible exact EF
     | with_reducible exact Zp
     | with_reducible exact Xk
     )
    | (first
     | with_reducible exact WT
     | with_reducible exact Tg
     | with_reducible exact ZZ
     | with_reducible exact YL
     | ((with_reducible apply WE); (focus decide))
     | with_reducible exact U9
     | ((with_reducible apply jpan); (focus rfl))
     | with_reducible exact Iz
     | with_reducible exact Kt
     )
    | (first
     | ((with_reducible apply J_region_anyA); (focus exact mixed); (focus rfl); (focus ((repeat (with_reducible apply Ax)); exact len_nil)); (focus (decide +kernel)))
     )
    | (first
     | ((with_reducible apply (J_region_mix 0)); (focus exact mixed); (focus rfl); (focus ((repeat (with_reducible apply Ax)); exact len_nil)); (focus (decide +kernel)); (focus ((repeat (with_reducible apply Mix.cons)); exact Mix.nil)))
     | ((with_reducible apply (J_region_mix 1)); (focus exact mixed); (focus rfl); (focus ((repeat (with_reducible apply Ax)); exact len_nil)); (focus (decide +kernel)); (focus ((repeat (with_reducible apply Mix.cons)); exact Mix.nil)))
     | ((with_reducible apply (J_region_mix 2)); (focus exact mixed); (focus rfl); (focus ((repeat (with_reducible apply Ax)); exact len_nil)); (focus (decide +kernel)); (focus ((repeat (with_reducible apply Mix.cons)); exact Mix.nil)))
     | ((with_reducible apply (J_region_mix 3)); (focus exact mixed); (focus rfl); (focus ((repeat (with_reducible apply Ax)); exact len_nil)); (focus (decide +kernel)); (focus ((repeat (with_reducible apply Mix.cons)); exact Mix.nil)))
     | ((with_reducible apply (J_region_mix 4)); (focus exact mixed); (focus rfl); (focus ((repeat (with_reducible apply Ax)); exact len_nil)); (focus (decide +kernel)); (focus ((repeat (with_reducible apply Mix.cons)); exact Mix.nil)))
     | ((with_reducible apply (J_region_mix 5)); (focus exact mixed); (focus rfl); (focus ((repeat (with_reducible apply Ax)); exact len_nil)); (focus (decide +kernel)); (focus ((repeat (with_reducible apply Mix.cons)); exact Mix.nil)))
     | ((with_reducible apply (J_region_mix 6)); (focus exact mixed); (focus rfl); (focus ((repeat (with_reducible apply Ax)); exact len_nil)); (focus (decide +kernel)); (focus ((repeat (with_reducible apply Mix.cons)); exact Mix.nil)))
     | ((with_reducible apply (J_region_mix 7)); (focus exact mixed); (focus rfl); (focus ((repeat (with_reducible apply Ax)); exact len_nil)); (focus (decide +kernel)); (focus ((repeat (with_reducible apply Mix.cons)); exact Mix.nil)))
     | ((with_reducible apply (J_region_mix 8)); (focus exact mixed); (focus rfl); (focus ((repeat (with_reducible apply Ax)); exact len_nil)); (focus (decide +kernel)); (focus ((repeat (with_reducible apply Mix.cons)); exact Mix.nil)))
     )
    | (first
     | with_reducible exact Rs
     | ((with_reducible apply L7); (focus exact mixed); (focus ((repeat (with_reducible apply Ax)); exact len_nil)); (focus (decide +kernel)))
     | ((with_reducible apply (J_region_tailT 2)); (focus exact mixed); (focus ((repeat (with_reducible apply Ax)); exact len_nil)); (focus (decide +kernel)))
     | ((with_reducible apply (J_region_tailT 3)); (focus exact mixed); (focus ((repeat (with_reducible apply Ax)); exact len_nil)); (focus (decide +kernel)))
     | ((with_reducible apply (J_region_tailT 4)); (focus exact mixed); (focus ((repeat (with_reducible apply Ax)); exact len_nil)); (focus (decide +kernel)))
     | ((with_reducible apply (J_region_tailT 5)); (focus exact mixed); (focus ((repeat (with_reducible apply Ax)); exact len_nil)); (focus (decide +kernel)))
     | ((with_reducible apply (J_region_tailT 6)); (focus exact mixed); (focus ((repeat (with_reducible apply Ax)); exact len_nil)); (focus (decide +kernel)))
     | ((with_reducible apply (J_region_tailT 7)); (focus exact mixed); (focus ((repeat (with_reducible apply Ax)); exact len_nil)); (focus (decide +kernel)))
     | ((with_reducible apply J_region_draw); (focus exact mixed); (focus (decide +kernel)); (focus ((repeat (with_reducible apply Ax)); exact len_nil)))
     | with_reducible exact Yn
     | ((with_reducible apply jqp); (focus exact HD); (focus rfl))
     | ((with_reducible apply jqt); (focus rfl); (focus rfl); (focus rfl); (focus rfl); (focus rfl))
     | ((with_reducible apply jqf); (focus rfl); (focus rfl); (focus rfl); (focus rfl); (focus rfl))
     | (first
      | ((with_reducible apply jbuild_byte); (focus rfl); (focus rfl); (focus (with_reducible exact ElC.h)); (focus rfl); (focus rfl))
      | ((with_reducible apply Rf); (focus rfl); (focus rfl); (focus (with_reducible exact ElC.h)); (focus rfl); (focus rfl))
      | ((with_reducible apply Pj); (focus rfl); (focus rfl); (focus (with_reducible exact ElC.h)); (focus rfl); (focus rfl))
      | ((with_reducible apply PL); (focus rfl); (focus rfl); (focus (with_reducible exact ElC.h)); (focus rfl); (focus rfl))
      | ((with_reducible apply Ij); (focus rfl); (focus rfl); (focus (with_reducible exact ElC.h)); (focus rfl); (focus rfl); (focus rfl); (focus rfl); (focus rfl))
      | ((with_reducible apply Q5); (focus rfl); (focus rfl); (focus (with_reducible exact ElC.h)); (focus rfl); (focus rfl)))
     | ((with_reducible apply japp); (focus rfl); (focus rfl); (focus rfl); (focus (with_reducible exact ElC.h)); (focus rfl); (focus rfl); (focus rfl); (focus exact BI); (focus exact BI))
     )
    | (first
     | ((with_reducible apply TH); (focus rfl); (focus rfl); (focus rfl); (focus (with_reducible exact ElC.h)); (focus rfl); (focus rfl); (focus rfl); (focus exact fun _ => rfl); (focus exact BI); (focus exact BI))
     | with_reducible exact Zg
     | with_reducible exact aW
     | with_reducible exact Zl
     | ((with_reducible apply aE); (focus rfl))
     | with_reducible exact XY
     | with_reducible exact VC
     | with_reducible exact Xm
     | with_reducible exact ZE
     )
    | (first
     | with_reducible exact Ss
     )
    | (first
     | ((with_reducible apply je_q); (focus rfl); (focus (decide +kernel)); (focus exact HD); (focus rfl))
     | ((with_reducible apply je_qy); (focus rfl); (focus rfl); (focus rfl); (focus rfl); (focus rfl); (focus (decide +kernel)); (focus exact HD); (focus rfl))
     | ((with_reducible apply je_gt); (focus rfl); (focus rfl); (focus rfl); (focus rfl); (focus rfl); (focus (decide +kernel)); (focus rfl))
     | ((with_reducible apply je_gf); (focus rfl); (focus rfl); (focus rfl); (focus rfl); (focus rfl); (focus (decide +kernel)); (focus rfl))
     | ((with_reducible apply je_gu); (focus rfl); (focus rfl); (focus rfl); (focus rfl); (focus (decide +kernel)); (focus rfl))
     | ((with_reducible apply je_done); (focus (decide +kernel)))
     | ((with_reducible apply je_swap); (focus ((repeat (with_reducible apply Rv.cons)); exact Rv.nil)))
     | ((with_reducible apply je_hold); (focus (decide +kernel)))
     )
    | (first
     | ((with_reducible apply JZ); (focus exact mixed); (focus rfl); (focus ((repeat (with_reducible apply Ax)); exact len_nil)); (focus (decide +kernel)))
     | ((with_reducible apply Vh); (focus (decide +kernel)))
     | ((with_reducible apply PE); (focus rfl); (focus (decide +kernel)); (focus rfl); (focus rfl))
     | ((with_reducible apply jxp_assign); (focus rfl); (focus (decide +kernel)); (focus rfl); (focus rfl))
     | ((with_reducible apply jxp_extract); (focus rfl); (focus (decide +kernel)); (focus rfl); (focus rfl); (focus rfl))
     | with_reducible apply QA
     | ((with_reducible apply Xi); (focus (decide +kernel)); (focus rfl))
     | with_reducible exact Xy
     | ((with_reducible apply Zq); (focus (decide +kernel)))
     | ((with_reducible apply UN); (focus rfl))
     | with_reducible apply jxp_nil
     | with_reducible apply aI
     )
    ))))
 exact fun h => h) : p → q := h
theorem stp {p q : Prop} (hp : p) (h : p → q := by exact TE) : q := h hp
theorem AR {p q : Prop} (hp : p) (h : p → q := by haveI fA_ : Mj := ⟨⟩; exact TE) : q := h hp
theorem AD {p q : Prop} (hp : p) (h : p → q := by haveI fA_ : Mj := ⟨⟩; haveI fH_ : Rk := ⟨⟩; exact TE) : q := h hp
theorem WK {p q : Prop} (hp : p) (h : p → q := by haveI fA_ : Mj := ⟨⟩; haveI fH_ : Rk := ⟨⟩; haveI fS_ : OT 1 := ⟨⟩; exact TE) : q := h hp
theorem CJ {p q : Prop} (hp : p) (h : p → q := by haveI fA_ : Mj := ⟨⟩; haveI fH_ : Rk := ⟨⟩; haveI fS_ : OT 2 := ⟨⟩; exact TE) : q := h hp
theorem stpB {p q : Prop} (hp : p) (h : p → q := by haveI fA_ : Mj := ⟨⟩; haveI fS_ : OT 2 := ⟨⟩; exact TE) : q := h hp
theorem Ap {p : Prop} (h : p := by (repeat (first | with_reducible exact Take.nil | ((with_reducible apply Take.cons); (focus ((repeat (first | with_reducible exact Sel.here | with_reducible apply Sel.there)); done))))); first | done | fail) : p := h
theorem C5 {p : Prop} (h : p := by intro v_; (repeat (first | exact App.nil | apply App.cons)); first | done | fail) : p := h
open Go Go.Av Go.Sp

theorem DC : Cal Tryz.prog 193 := Cal.of Tryz.func193 (by kernel_rfl) (by kernel_rfl)
theorem FA : Cal Tryz.prog 190 := Cal.of Tryz.func190 (by kernel_rfl) (by kernel_rfl)
theorem Ev : Cal Tryz.prog 161 := Cal.of Tryz.func161 (by kernel_rfl) (by kernel_rfl)

theorem Gz (G : List (Nat × List D)) (x : Int) : ACr Tryz.prog G 193 [.int x] (.tup [.int (partsOf x).1, .int (partsOf x).2]) := by
 refine DU (ts := [2, 3]) 26 Tryz.func193 rfl rfl rfl (by simp) fun W I => ?_
 repeat' (first
  | exact True.intro
  | refine stp ?_
  | refine two ?_ ?_
  | (refine imp fun hc => ?_) <;> try exact cx hc
  | refine all fun v_ => ?_)
 all_goals ((with_reducible apply rq2); rfl; rfl; rfl)
 all_goals (refine AA ?_; simp [partsOf, *])

theorem Ta (x : Int) (h1 : ¬ x < 1) (h2 : ¬ 18 < x) : Ih[x.toNat]? = some (.i .i64 (partsOf x).1) ∧ (partsOf x).2 = 0 := by
 have : x = 1 ∨ x = 2 ∨ x = 3 ∨ x = 4 ∨ x = 5 ∨ x = 6 ∨ x = 7 ∨ x = 8 ∨ x = 9 ∨ x = 10 ∨ x = 11 ∨ x = 12 ∨ x = 13 ∨ x = 14 ∨ x = 15 ∨ x = 16 ∨ x = 17 ∨ x = 18 := by omega
 rcases this with h | h | h | h | h | h | h | h | h | h | h | h | h | h | h | h | h | h <;> subst h <;> exact ⟨rfl, rfl⟩

theorem Mv (x : Int) : ACr Tryz.prog GP 190 [.int x] (.tup [.int (partsOf x).1, .int (partsOf x).2]) := by
 refine DU (ts := [2, 3]) 13 Tryz.func190 rfl rfl rfl (by simp) fun W I => ?_
 repeat' (first
  | exact True.intro
  | refine stp ?_
  | refine two ?_ ?_
  | (refine imp fun hc => ?_) <;> try exact cx hc
  | refine all fun v_ => ?_)
 · ((with_reducible apply rq2); rfl; rfl; rfl)
   refine AA ?_
   rw [Ck x (by omega)]
 · ((with_reducible apply rq2); rfl; rfl; rfl)
   refine AA ?_
   rw [Ck x (by omega)]
 · obtain ⟨h1, h2⟩ := Ta x (by omega) (by omega)
   refine jp (Ni (c := .i .i64 (partsOf x).1) rfl rfl (by rw [List.getElem?_drop, Nat.mul_one]; exact h1)) rfl ?_
   repeat' (first
    | exact True.intro
    | refine stp ?_
    | refine two ?_ ?_
    | (refine imp fun hc => ?_) <;> try exact cx hc
    | refine all fun v_ => ?_)
   ((with_reducible apply rq2); rfl; rfl; rfl)
   refine AA ?_
   rw [h2]; rfl

theorem AJ (l : List Fo) (a : Int) (G : List (Nat × List D)) (h0 : 0 ≤ a) (ha : a ≤ 140737488355328) : ACr Tryz.prog G 161 [.d (AO l), .int a] (.tup [.int (Sp.AJ l a).1, .int (Sp.AJ l a).2]) := by
 refine DU (ts := [4, 5]) 37 Tryz.func161 rfl rfl rfl (by simp) fun W I => ?_
 refine Bs (t := 0) rfl fun hl => ?_
 repeat' (first
  | refine ca DC (Gz _ _) ?_
  | exact True.intro
  | refine stp ?_
  | refine two ?_ ?_
  | (refine imp fun hc => ?_) <;> try exact cx hc
  | refine all fun v_ => ?_)
 refine D8 (X := Nat × Int) (fun p => [(0, .d (AO l)), (6, .int p.2), (7, .int p.1)]) (fun _ => []) (fun p => a ≤ p.1 ∧ (p.1 ≤ l.length ∨ p.1 = a) ∧ 0 < p.2 ∧ p.2 ≤ 1 + (p.1 : Int) + (p.1 : Int) ∧ Sp.AJ l a = scan (l.drop p.1) p.2 p.1) (fun p => l.length - p.1) (a.toNat, 1) ?_ ?_ rfl ?_
 · refine ⟨by omega, by omega, by omega, by omega, ?_⟩
   simp only [Sp.AJ]; rw [Int.toNat_of_nonneg h0]
 · exact leD
 rintro ⟨i, w⟩ ⟨h1, h2, h3, h4, h5⟩
 dsimp only at h1 h2 h3 h4 h5 ⊢
 by_cases hi : i < l.length
 · have hd : l.drop i = l[i] :: l.drop (i + 1) := List.drop_eq_getElem_cons hi
   have hp := Bn l[i].kind
   rw [hd, Ch] at h5
   repeat' (first
    | refine ca DC (Gz _ _) ?_
    | exact True.intro
    | refine stp ?_
    | refine two ?_ ?_
    | (refine imp fun hc => ?_) <;> try exact cx hc
    | refine all fun v_ => ?_)
   · ((with_reducible apply rq2); rfl; rfl; rfl)
     refine AA ?_
     rw [h5, if_pos hc]
   · ((with_reducible apply rq2); rfl; rfl; rfl)
     refine AA ?_
     rw [h5, if_neg (by assumption), if_pos hc]
   · refine ⟨(i + 1, w + (partsOf l[i].kind).1 - 1), ⟨by omega, by omega, by dsimp only; omega, by dsimp only; omega, ?_⟩, by dsimp only; omega, ?_, rfl⟩
     · rw [h5, if_neg (by assumption), if_neg hc]; rfl
     · exact leD
 · repeat' (first
    | refine ca DC (Gz _ _) ?_
    | exact True.intro
    | refine stp ?_
    | refine two ?_ ?_
    | (refine imp fun hc => ?_) <;> try exact cx hc
    | refine all fun v_ => ?_)
   ((with_reducible apply rq2); rfl; rfl; rfl)
   refine AA ?_
   rw [h5, List.drop_eq_nil_of_le (by omega)]; rfl

theorem O7 : Cal Tryz.prog 155 := Cal.of Tryz.func155 (by kernel_rfl) (by kernel_rfl)
theorem Mx : Cal Tryz.prog 154 := Cal.of Tryz.func154 (by kernel_rfl) (by kernel_rfl)
theorem A3 : Cal Tryz.prog 106 := Cal.of Tryz.func106 (by kernel_rfl) (by kernel_rfl)

theorem Rh (p q : Addr) (w : World) :
 CallsD Tryz.prog 154 #[.pointer (some p), .pointer (some q)] .returning w fun e u' w' => e = .returned (.tuple #[]) ∧ u' = .returning ∧ w' = w := by
 refine callsD_of_wpS Tryz.func154 rfl fun c₀ cs hu => ?_
 apply wpS_seq
 apply wpS_region
 simp [wpOpsS, go_sem, recoverD, hu, Tryz.ntmps154, Exit.thenS]
 apply wpS_seq
 apply wpS_region
 simp [wpOpsS, go_sem, Exit.thenS]
 refine wpS_cond (t := false) (by simp [Act.eval, Array.replicate]) ?_
 simp only [Bool.false_eq_true, if_false]
 refine wpS_of_wp (wp_skip ?_)
 cases c₀
 simp_all [bodyPostS, results, Tryz.results154]

theorem Tq (b c : Nat) (hbc : b ≠ c) (x y : Value) (n : Int) (w : World) (hb : w.heap[b]? = some (.cells #[x] 31 (0, 0))) (hc : w.heap[c]? = some (.cells #[y] 36 (0, 0))) :
 CallsD Tryz.prog 154 #[.pointer (some ⟨b, 0, none⟩), .pointer (some ⟨c, 0, none⟩)] (.panicking [{ v := .iface 36 (.int .i64 n), recovered := false }]) w fun e u' w' =>
  e = .returned (.tuple #[]) ∧ u' = .panicking [{ v := .iface 36 (.int .i64 n), recovered := true }] ∧ w' = ((w.setCell ⟨b, 0, none⟩ (.slice none 0 0)).setCell ⟨c, 0, none⟩ (.int .i64 n)).drew := by
 refine callsD_of_wpS Tryz.func154 rfl fun c₀ cs hu => ?_
 apply wpS_seq
 apply wpS_region
 simp [wpOpsS, go_sem, recoverD, hu, Tryz.ntmps154, Exit.thenS]
 apply wpS_seq
 apply wpS_region
 simp [wpOpsS, go_sem, Exit.thenS]
 refine wpS_cond (t := true) (by simp [Act.eval, Array.replicate]) ?_
 simp only [if_true]
 refine wpS_of_wp ?_
 have hcb : w.cell? ⟨b, 0, none⟩ = some x := by rw [cell_of_row w b 0 _ _ _ hb]; rfl
 have hcc : w.cell? ⟨c, 0, none⟩ = some y := by rw [cell_of_row w c 0 _ _ _ hc]; rfl
 have fb : w.frozen? ⟨b, 0, none⟩ = false := by simp [World.frozen?, hb]
 have fc : w.frozen? ⟨c, 0, none⟩ = false := by simp [World.frozen?, hc]
 have hta : ∀ w : World, (Instr.typeAssert (.iface 36 (.int .i64 n)) 20 36 false).run Tryz.prog w = .ok (.int .i64 n) w := fun w => by
  simp [Instr.typeAssert, run_underlying Tryz.underlying36]
 go_region
 all_goals
  cases c₀
  simp_all [bodyPostS, results, Tryz.results154]

theorem MJ (p q : Addr) (h : H) : CD Tryz.prog 154 #[.pointer (some p), .pointer (some q)] .returning h h .returning :=
 fun _ _ w hok => (Rh p q w).mono fun _ _ _ ⟨h1, h2, h3⟩ => ⟨h1, h2, h3 ▸ hok, fun _ _ => by rw [h3]⟩
theorem Nc (b c : Nat) (x y : AV) (n : Int) : CD Tryz.prog 154 #[.pointer (some ⟨b, 0, none⟩), .pointer (some ⟨c, 0, none⟩)] (.panicking [{ v := .iface 36 (.int .i64 n), recovered := false }])
 [.cells c 36 [y], .cells b 31 [x]] [.cells c 36 [.int n], .cells b 31 [.val (.slice none 0 0)]] (.panicking [{ v := .iface 36 (.int .i64 n), recovered := true }]) := by
 intro cx I w hok
 obtain ⟨u1, d1⟩ := Ent.cells_one (hok.ent (.cells b 31 [x]) (by simp))
 obtain ⟨u2, d2⟩ := Ent.cells_one (hok.ent (.cells c 36 [y]) (by simp))
 have hbc : b ≠ c := by
  have := hok.nd
  simp [blks, Ent.blk] at this
  exact fun e => this e.symm
 refine (Tq b c hbc u1 u2 n w d1 d2).mono ?_
 rintro e u' w' ⟨h1, h2, rfl⟩
 obtain ⟨k1, k2⟩ := Ok.set1 (h1 := [.cells c 36 [y]]) (h2 := []) (v := .slice none 0 0) hok
 obtain ⟨k3, k4⟩ := Ok.set1 (h1 := []) (v := .int .i64 n) k1
 exact ⟨h1, h2, k3.same (F5.drewN 1), fun z hz => (k4 z hz).trans (k2 z hz)⟩

def UQ (l : List Fo) (b b' i : Nat) (es : List Int) (e : AE) (h : H) : Prop :=
 ∃ es' : List Int, es'.length = l.length ∧ h = [.cells b 213 [.d (AO l), .val (.slice (some ⟨b', 0, none⟩) l.length l.length)], .cells b' 3 (es'.map AV.int)] ∧
  ((∃ n : Nat, e = .ret (.int n) ∧ Sp.AJ l i = ((n : Int), 0) ∧ (∀ j, i ≤ j → j < n → (Sp.AJ l j).2 = 0 ∧ es'[j]? = some (Sp.AJ l j).1) ∧ ∀ j, (j < i ∨ n ≤ j) → es'[j]? = es[j]?) ∨
   ((Sp.AJ l i).2 ≠ 0 ∧ e = .pan [{ v := .iface 36 (.int .i64 (Sp.AJ l i).2), recovered := false }]))

theorem skip (l : List Fo) (b b' : Nat) (hl : l.length ≤ 60) : ∀ (m i : Nat) (es : List Int), l.length ≤ i + m → es.length = l.length →
 AC Tryz.prog GP 155 [.val (.pointer (some ⟨b, 0, none⟩)), .int i] [.cells b 213 [.d (AO l), .val (.slice (some ⟨b', 0, none⟩) l.length l.length)], .cells b' 3 (es.map AV.int)] (UQ l b b' i es) := by
 have done : ∀ (i : Nat) (es : List Int), es.length = l.length → (l.length : Int) ≤ i → UQ l b b' i es (.pan [{ v := .iface 36 (.int .i64 4), recovered := false }]) [.cells b 213 [.d (AO l), .val (.slice (some ⟨b', 0, none⟩) l.length l.length)], .cells b' 3 (es.map AV.int)] := fun i es hes hi =>
  ⟨es, hes, rfl, .inr ⟨by rw [Ig l i (by omega)]; decide, by rw [Ig l i (by omega)]⟩⟩
 intro m
 induction m with
 | zero =>
   intro i es hm hes
   refine DU (ts := [4]) 49 Tryz.func155 rfl rfl rfl (by simp) fun W I => ?_
   repeat' (first
    | refine ca FA (Mv _) ?_
    | exact True.intro
    | refine stp ?_
    | refine two ?_ ?_
    | (refine imp fun hc => ?_) <;> try exact cx hc
    | refine all fun v_ => ?_)
   exact done i es hes (by assumption)
 | succ m ih =>
   intro i es hm hes
   refine DU (ts := [4]) 49 Tryz.func155 rfl rfl rfl (by simp) fun W I => ?_
   repeat' (first
    | refine ca FA (Mv _) ?_
    | exact True.intro
    | refine stp ?_
    | refine two ?_ ?_
    | (refine imp fun hc => ?_) <;> try exact cx hc
    | refine all fun v_ => ?_)
   · exact done i es hes (by assumption)
   · have he := FT l i (by omega)
     rw [if_pos hc] at he
     exact ⟨es, hes, rfl, .inr ⟨by rw [he]; exact hc, by rw [he]⟩⟩
   have hi : i < l.length := by omega
   have he := FT l i hi
   have hp := Bn l[i].kind
   rw [if_neg hc] at he
   generalize hn : (partsOf l[i].kind).1 = n at he hp ⊢
   refine D8 (X := Nat × Nat × List Int) (fun y => [(0, .val (.pointer (some ⟨b, 0, none⟩))), (1, .int i), (34, .int n), (35, .int y.1), (7, .int y.2.1)])
    (fun y => [.cells b 213 [.d (AO l), .val (.slice (some ⟨b', 0, none⟩) l.length l.length)], .cells b' 3 (y.2.2.map AV.int)])
    (fun y => (y.1 : Int) ≤ n ∧ i < y.2.1 ∧ y.2.1 ≤ l.length ∧ y.2.2.length = l.length ∧ Sp.AJ l i = (if n - y.1 = 0 then ((y.2.1 : Int), 0) else scan (l.drop y.2.1) (n - y.1) y.2.1) ∧
     (∀ j, i < j → j < y.2.1 → (Sp.AJ l j).2 = 0 ∧ y.2.2[j]? = some (Sp.AJ l j).1) ∧ ∀ j, (j ≤ i ∨ y.2.1 ≤ j) → y.2.2[j]? = es[j]?)
    (fun y => n.toNat - y.1) (0, i + 1, es) ?_ ?_ rfl ?_
   · refine ⟨by omega, by dsimp only; omega, by dsimp only; omega, hes, ?_, fun j h1 h2 => by dsimp only at h2; omega, fun _ _ => rfl⟩
     rw [he]
     have : (1 : Int) + n - 1 = n - ((0 : Nat) : Int) := by omega
     dsimp only
     rw [this]
     rfl
   · exact leD
   rintro ⟨j, e, fs⟩ ⟨h1, h2, h3, h4, h5, h6, h7⟩
   dsimp only at h1 h2 h3 h4 h5 h6 h7 ⊢
   repeat' (first
    | refine ca FA (Mv _) ?_
    | exact True.intro
    | refine stp ?_
    | refine two ?_ ?_
    | (refine imp fun hc => ?_) <;> try exact cx hc
    | refine all fun v_ => ?_)
   · refine aP rfl O7 (ih e fs (by omega) h4) rfl (fun r h' hq => ?_) (fun ch h' hq => ?_)
     · obtain ⟨es', k1, rfl, ⟨n', k2, k3, k4, k5⟩ | ⟨_, k2⟩⟩ := hq
       · cases k2
         repeat' (first
          | refine ca FA (Mv _) ?_
          | exact True.intro
          | refine stp ?_
          | refine two ?_ ?_
          | (refine imp fun hc => ?_) <;> try exact cx hc
          | refine all fun v_ => ?_)
         have hb := Al l e (by rw [k3])
         rw [k3] at hb
         refine ⟨(j + 1, n', es'), ⟨by dsimp only; omega, by dsimp only at hb ⊢; omega, by dsimp only at hb ⊢; omega, k1, ?_, ?_, ?_⟩, by dsimp only; omega, ?_, rfl⟩
         · rw [h5, if_neg (by omega)]
           dsimp only
           by_cases hlast : n - ((j + 1 : Nat) : Int) = 0
           · rw [if_pos hlast]
             have : n - (j : Int) = 1 := by omega
             rw [this]
             have := k3
             unfold Sp.AJ at this
             rwa [Int.toNat_natCast] at this
           · rw [if_neg hlast]
             have : n - (j : Int) = (n - ((j + 1 : Nat) : Int)) + 1 := by omega
             rw [this, GV l e _ (by omega), k3]
             rfl
         · intro p hp1 hp2
           dsimp only at hp2 ⊢
           by_cases hpe : e ≤ p
           · exact k4 p hpe hp2
           · rw [k5 p (.inl (by omega))]
             exact h6 p hp1 (by omega)
         · intro p hp1
           dsimp only at hp1 ⊢
           dsimp only at hb
           rw [k5 p (by omega)]
           exact h7 p (by omega)
         · exact leD
       · cases k2
     · obtain ⟨es', k1, rfl, ⟨n', k2, k3, k4⟩ | ⟨k3, k2⟩⟩ := hq
       · cases k2
       · cases k2
         repeat' (refine stp ?_)
         refine ⟨es', k1, rfl, .inr ?_⟩
         have : (Sp.AJ l i).2 = (Sp.AJ l e).2 := by
          rw [h5, if_neg (by omega)]
          by_cases hlast : n - (j : Int) = 1
          · rw [hlast]; unfold Sp.AJ; rw [Int.toNat_natCast]
          · have h : n - (j : Int) = (n - ((j + 1 : Nat) : Int)) + 1 := by omega
            rw [h, GV l e _ (by omega), if_pos k3]
         rw [this]
         exact ⟨k3, rfl⟩
   · repeat' (first
      | refine ca FA (Mv _) ?_
      | exact True.intro
      | refine stp ?_
      | refine two ?_ ?_
      | (refine imp fun hc => ?_) <;> try exact cx hc
      | refine all fun v_ => ?_)
     refine Zf (h1 := [_]) rfl rfl Nu rfl (by omega) ?_
     simp only [List.cons_append, List.nil_append, Int.toNat_natCast, Nat.mul_one]
     repeat' (first
      | refine ca FA (Mv _) ?_
      | exact True.intro
      | refine stp ?_
      | refine two ?_ ?_
      | (refine imp fun hc => ?_) <;> try exact cx hc
      | refine all fun v_ => ?_)
     ((with_reducible apply rq1); rfl; rfl)
     have hz : n - (j : Int) = 0 := by omega
     rw [if_pos hz] at h5
     refine ⟨fs.set i e, by simpa using h4, rfl, .inl ⟨e, rfl, h5, fun p hp1 hp2 => ?_, fun p hp1 => ?_⟩⟩
     · by_cases hpi : p = i
       · subst hpi
         rw [h5]
         exact ⟨rfl, by rw [List.getElem?_set_self (by omega)]⟩
       · rw [List.getElem?_set_ne (by omega)]
         exact h6 p (by omega) hp2
     · rw [List.getElem?_set_ne (by omega)]
       exact h7 p (by omega)

theorem Ends (l : List Fo) : ACr Tryz.prog GP 106 [.d (AO l)] (.tup [.d (AK (Ah l).1), .int (Ah l).2]) := by
 refine Ua 25 Tryz.func106 rfl rfl (by simp) fun W I => ?_
 apply Ep
 repeat' (first
  | exact True.intro
  | refine stp ?_
  | refine two ?_ ?_
  | (refine imp fun hc => ?_) <;> try exact cx hc
  | refine all fun v_ => ?_)
 refine OB Ke rfl rfl fun b2 => ?_
 refine OB JP rfl rfl fun b3 => ?_
 repeat' (first
  | exact True.intro
  | refine stp ?_
  | refine two ?_ ?_
  | (refine imp fun hc => ?_) <;> try exact cx hc
  | refine all fun v_ => ?_)
 apply CA
 apply Ep
 repeat' (first
  | exact True.intro
  | refine stp ?_
  | refine two ?_ ?_
  | (refine imp fun hc => ?_) <;> try exact cx hc
  | refine all fun v_ => ?_)
 · refine Nf (h1 := [_]) rfl rfl rfl Ke rfl ?_
   simp only [List.cons_append, List.nil_append]
   refine Nf (h1 := []) rfl rfl rfl JP rfl ?_
   simp only [List.nil_append]
   repeat' (first
    | exact True.intro
    | refine stp ?_
    | refine two ?_ ?_
    | (refine imp fun hc => ?_) <;> try exact cx hc
    | refine all fun v_ => ?_)
   apply OW
   refine D9 rfl (by unfold BR; kernel_rfl) (by unfold BR; kernel_rfl) rfl rfl (List.mem_cons_of_mem _ List.mem_cons_self) List.mem_cons_self rfl (List.nil_sublist _) (AV.le_nil 1 8) (AV.le_refl _) ?_
   refine AA ?_
   rw [Ah, if_pos (by omega)]; rfl
 apply CA
 dsimp only
 refine Rg (Px (vs := [.pointer (some ⟨b2, 0, none⟩), .pointer (some ⟨b3, 0, none⟩)]) rfl rfl ?_)
 apply CA
 dsimp only
 apply Ep
 repeat' (first
  | exact True.intro
  | refine stp ?_
  | refine two ?_ ?_
  | (refine imp fun hc => ?_) <;> try exact cx hc
  | refine all fun v_ => ?_)
 refine UI rfl rfl Nu (by omega) (by omega) rfl fun b' => ?_
 repeat' (first
  | exact True.intro
  | refine stp ?_
  | refine two ?_ ?_
  | (refine imp fun hc => ?_) <;> try exact cx hc
  | refine all fun v_ => ?_)
 refine aX rfl rfl rfl fun b => ?_
 repeat' (first
  | exact True.intro
  | refine stp ?_
  | refine two ?_ ?_
  | (refine imp fun hc => ?_) <;> try exact cx hc
  | refine all fun v_ => ?_)
 apply CA
 dsimp only
 apply Ep
 repeat' (first
  | exact True.intro
  | refine stp ?_
  | refine two ?_ ?_
  | (refine imp fun hc => ?_) <;> try exact cx hc
  | refine all fun v_ => ?_)
 have hk : AC Tryz.prog GP 155 [.val (.pointer (some ⟨b, 0, none⟩)), .int 0] [.cells b 213 [.d (AO l), .val (.slice (some ⟨b', 0, none⟩) l.length l.length)], .cells b' 3 ((List.replicate l.length 0).map AV.int)] (UQ l b b' 0 (List.replicate l.length 0)) :=
  skip l b b' (by omega) l.length 0 (List.replicate l.length 0) (by omega) (by simp)
 have pan : ∀ (n : Int) (ρ : Env) (es : List Int), n = (Ah l).2 → (Ah l).1 = [] →
  LQ ⟨Tryz.prog, ⟨W, I, [], GP⟩, 25, [{ target := .fn (.func 154) #[.pointer (some ⟨b2, 0, none⟩), .pointer (some ⟨b3, 0, none⟩)], args := #[] }]⟩ Tryz.f106
   (L3 GP W I [] fun e h => e = .ret (.tup [.d (AK (Ah l).1), .int (Ah l).2]) ∧ h = []) (some (.panicking [{ v := .iface 36 (.int .i64 n), recovered := false }]))
   ((2, .val (.pointer (some ⟨b2, 0, none⟩))) :: (3, .val (.pointer (some ⟨b3, 0, none⟩))) :: ρ)
   [.cells b 213 [.d (AO l), .val (.slice (some ⟨b', 0, none⟩) l.length l.length)], .cells b' 3 (es.map AV.int), .cells b3 36 [.val (.int .i64 0)], .cells b2 31 [.val (.slice none 0 0)]]
   [{ target := .fn (.func 154) #[.pointer (some ⟨b2, 0, none⟩), .pointer (some ⟨b3, 0, none⟩)], args := #[] }] := by
  intro n ρ es h1 h2
  refine SG (VS.drop (h' := [.cells b3 36 [.val (.int .i64 0)], .cells b2 31 [.val (.slice none 0 0)]]) (.cons _ (.cons _ (.refl _)))) ?_
  refine I5 (by simp) Mx (Nc b2 b3 _ _ n) (m := .returning) rfl ?_
  refine D9 (h0 := []) (y1 := .d (AK [])) rfl (by unfold BR; kernel_rfl) (by unfold BR; kernel_rfl) rfl rfl (List.mem_cons_of_mem _ List.mem_cons_self) List.mem_cons_self rfl (List.nil_sublist _) (AV.le_nil 1 8) (AV.le_refl _) ?_
  refine AA ?_
  rw [h1, h2]
 have h60 : ¬ 60 < l.length := by omega
 refine PB (hc := [_, _]) rfl O7 rfl hk rfl (fun r h' hq => ?_) (fun ch h' hq => ?_)
 · obtain ⟨es', k1, rfl, ⟨n', k2, k3, k4, k5⟩ | ⟨_, k2⟩⟩ := hq
   · cases k2
     have hb := Al l 0 (by rw [show ((0 : Nat) : Int) = 0 from rfl]; rw [show ((0 : Nat) : Int) = 0 from rfl] at k3; rw [k3])
     rw [show ((0 : Nat) : Int) = 0 from rfl] at k3 hb
     rw [k3] at hb
     simp only [List.cons_append, List.nil_append]
     repeat' (first
      | exact True.intro
      | refine stp ?_
      | refine two ?_ ?_
      | (refine imp fun hc => ?_) <;> try exact cx hc
      | refine all fun v_ => ?_)
     · apply Je
       dsimp only at hb
       have h3 : (Ah l) = ([], 3) := by rw [Ah, if_neg h60, k3, if_neg (by simp), if_pos (by dsimp only; omega)]
       refine SG (VS.of_le ?_) (pan _ [] es' ?_ ?_)
       · exact leD
       · rw [h3]
       · rw [h3]
     · have hn : n' = l.length := by omega
       have he : es' = (List.range l.length).map fun i : Nat => (Sp.AJ l i).1 := by
        apply List.ext_getElem?
        intro j
        by_cases hj : j < l.length
        · rw [(k4 j (Nat.zero_le _) (by omega)).2, List.getElem?_map, List.getElem?_range hj]; rfl
        · rw [List.getElem?_eq_none (by omega), List.getElem?_eq_none (by simp; omega)]
       have h3 : (Ah l) = (es', 0) := by rw [Ah, if_neg h60, k3, if_neg (by simp), if_neg (by dsimp only; omega), he]
       apply CA
       dsimp only
       apply Uv
       repeat' (first
        | exact True.intro
        | refine stp ?_
        | refine two ?_ ?_
        | (refine imp fun hc => ?_) <;> try exact cx hc
        | refine all fun v_ => ?_)
       refine KU (VS.freezeCells (t := 24) (h1 := [_]) (rows := es'.map AW) (sz := 1) (eb := 8) (by decide) rfl rfl (Hw es') (by simp [k1]) (by simp [AW]) (by omega) (by simp only [maxLen]; omega)) ?_
       simp only [List.cons_append, List.nil_append]
       refine Nf (h1 := [_, _]) rfl rfl rfl Ke rfl ?_
       simp only [List.cons_append, List.nil_append]
       refine Nf (h1 := [_]) rfl rfl rfl JP rfl ?_
       simp only [List.cons_append, List.nil_append]
       repeat' (first
        | exact True.intro
        | refine stp ?_
        | refine two ?_ ?_
        | (refine imp fun hc => ?_) <;> try exact cx hc
        | refine all fun v_ => ?_)
       refine I5 (by simp) Mx (MJ _ _ _) (m := .returning) rfl ?_
       refine D9 (h0 := []) rfl (by unfold BR; kernel_rfl) (by unfold BR; kernel_rfl) rfl rfl (List.mem_cons_of_mem _ (List.mem_cons_of_mem _ List.mem_cons_self)) (List.mem_cons_of_mem _ List.mem_cons_self) rfl (List.nil_sublist _) (AV.le_refl _) (AV.le_refl _) ?_
       refine AA ?_
       rw [h3]
   · cases k2
 · obtain ⟨es', k1, rfl, ⟨n', k2, k3, k4⟩ | ⟨k3, k2⟩⟩ := hq
   · cases k2
   · cases k2
     have k3 : (Sp.AJ l 0).2 ≠ 0 := k3
     repeat' (refine stp ?_)
     apply Je
     refine SG (VS.of_le ?_) (pan _ [] es' ?_ ?_)
     · exact leD
     · rw [Ah, if_neg h60, if_pos k3]; rfl
     · rw [Ah, if_neg h60, if_pos k3]

theorem AL : Cal Tryz.prog 40 := Cal.of Tryz.func40 (by kernel_rfl) (by kernel_rfl)
theorem Fm : Cal Tryz.prog 31 := Cal.of Tryz.func31 (by kernel_rfl) (by kernel_rfl)
theorem B8 : Cal Tryz.prog 37 := Cal.of Tryz.func37 (by kernel_rfl) (by kernel_rfl)
theorem ML : Cal Tryz.prog 36 := Cal.of Tryz.func36 (by kernel_rfl) (by kernel_rfl)
theorem A5 {P : Program} {G : List (Nat × List D)} {f : FuncId} {xs : List AV} {p : Prop} [Decidable p] (h : ACr P G f xs (.bool (decide p))) (hp : p) : ACr P G f xs (.bool true) := by rwa [decide_eq_true hp] at h
theorem DO {P : Program} {G : List (Nat × List D)} {f : FuncId} {xs : List AV} {p : Prop} [Decidable p] (h : ACr P G f xs (.bool (decide p))) (hp : ¬ p) : ACr P G f xs (.bool false) := by rwa [decide_eq_false hp] at h
theorem In (G : List (Nat × List D)) (x a b : Int) : ACr Tryz.prog G 40 [.int x, .int a, .int b] (.bool (decide (a ≤ x ∧ x ≤ b))) := by
 refine DU (ts := [6]) 15 Tryz.func40 rfl rfl rfl (by simp) fun W I => ?_
 repeat' (first
  | exact True.intro
  | refine stp ?_
  | refine two ?_ ?_
  | (refine imp fun hc => ?_) <;> try exact cx hc
  | refine all fun v_ => ?_)
 all_goals
  ((with_reducible apply rq1); rfl; rfl)
  refine AA (congrArg AV.bool ?_)
  (first | rfl | (refine decide_eq_decide.2 ?_; omega) | (refine (decide_eq_true ?_).symm; omega) | (refine (decide_eq_false ?_).symm; omega) | (refine decide_eq_true ?_; omega) | (refine decide_eq_false ?_; omega))
theorem ops (G : List (Nat × List D)) (a : List Fo) (ha : a.length * 16 ≤ 140737488355328) : ACr Tryz.prog G 31 [.d (AO a)] (.d (AO a)) := by
 refine AN (ts := [2]) 5 Tryz.func31 rfl rfl rfl (by simp) fun W I => ?_
 repeat' (first
  | exact True.intro
  | refine stp ?_
  | refine two ?_ ?_
  | (refine imp fun hc => ?_) <;> try exact cx hc
  | refine all fun v_ => ?_)
 refine Bi ?_
 ((with_reducible apply rq1); rfl; rfl)
 exact AA rfl
theorem O2 (G : List (Nat × List D)) (a : List Fo) : ACr Tryz.prog G 31 [.d (AO a)] (.d (AO a)) := AC.fact fun h => ops G a h
theorem I4 (G : List (Nat × List D)) (a b : List Fo) : ACr Tryz.prog G 37 [.d (AO a), .d (AO b)] (.bool (decide (a = b))) := by
 refine DU (ts := [4]) 26 Tryz.func37 rfl rfl rfl (by simp) fun W I => ?_
 refine Bs (t := 0) rfl fun hl0 => ?_
 refine Bs (t := 1) rfl fun hl1 => ?_
 repeat' (first
  | exact True.intro
  | refine stp ?_
  | refine two ?_ ?_
  | (refine imp fun hc => ?_) <;> try exact cx hc
  | refine all fun v_ => ?_)
 · ((with_reducible apply rq1); rfl; rfl)
   refine AA ?_
   rw [decide_eq_false]
   intro e; subst e; omega
 refine D8 (X := Nat) (fun i => [(0, .d (AO a)), (1, .d (AO b)), (5, .int i)]) (fun _ => []) (fun i => i ≤ a.length ∧ a.take i = b.take i) (fun i => a.length - i) 0 ⟨Nat.zero_le _, rfl⟩ ?_ rfl ?_
 · exact leD
 rintro i ⟨h1, h2⟩
 repeat' (first
  | exact True.intro
  | refine stp ?_
  | refine two ?_ ?_
  | (refine imp fun hc => ?_) <;> try exact cx hc
  | refine all fun v_ => ?_)
 all_goals first
  | (((with_reducible apply rq1); rfl; rfl)
     refine AA ?_
     rw [decide_eq_false]
     intro e; subst e
     simp at hc)
  | (refine ⟨i + 1, ⟨by omega, NK (by omega) (by omega) h2 ?_⟩, by first | omega | (dsimp only; omega), ?_, rfl⟩
     · (simp only [Bool.and_eq_true, beq_iff_eq] at hc; exact Fo.ext' hc.1 hc.2)
     · exact leD)
  | (((with_reducible apply rq1); rfl; rfl)
     refine AA ?_
     rw [decide_eq_true]
     rwa [List.take_of_length_le (by omega), List.take_of_length_le (by omega)] at h2)
end Go.Proofs.YtibahljljjkceaaGreatDoor
