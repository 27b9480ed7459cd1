/- A bundle of this claim's own texts: N6 G15 G16 G18 E8 E9 G19 G24 G25 G27 G26 G29 G33 S2 G30 G31 G32 H1 H2 H3 H6 Q2 Q3. -/
import Derived.Laws.Cover3
import Derived.Shelf.Sort.Plain
import Derived.Shelf.Slices.In.SortNone
import Derived.Shelf.Slices.CompactI
import Derived.Test.YtnlfhnbcdfdhgaaGreatDoorProg
import Derived.Test.YtnlfhnbcdfdhgaaGreatDoorF1
import Derived.Test.YtnlfhnbcdfdhgaaGreatDoorF2
import Derived.Test.YtnlfhnbcdfdhgaaGreatDoorF3
import Derived.Test.YtnlfhnbcdfdhgaaGreatDoorF5
import Derived.Test.YtnlfhnbcdfdhgaaGreatDoorF12
import Derived.Test.YtnlfhnbcdfdhgaaGreatDoorF13
import Derived.Test.YtnlfhnbcdfdhgaaGreatDoorF15
set_option linter.unusedVariables false
set_option linter.unusedSimpArgs false
set_option maxRecDepth 100000
set_option maxHeartbeats 4000000
namespace Go.Sp
open Go Go.Av
theorem IN (l : List Fo) (p : Int) : (Ai l p).1.length ≤ 6 := by
 unfold Ai
 by_cases h : DT l p ≠ 0
 · rw [if_pos h]; exact Nat.zero_le _
 · rw [if_neg h, FM]; exact (Kb (Decidable.not_not.1 h)).ah
def BK (t : Tk) : Nat := 2 ^ (Ai t.formula t.props.length).1.length
theorem cA {n : Nat} (h : n ≤ 6) : 1 ≤ 2 ^ n ∧ 2 ^ n ≤ 64 := by
 have : n = 0 ∨ n = 1 ∨ n = 2 ∨ n = 3 ∨ n = 4 ∨ n = 5 ∨ n = 6 := by omega
 rcases this with rfl | rfl | rfl | rfl | rfl | rfl | rfl <;> decide
theorem Dr (t : Tk) : 1 ≤ BK t ∧ BK t ≤ 64 := cA (IN _ _)
theorem C0 {t : Tk} (h : BL t = 0) : Cd t.model t.props = 0 ∧ DT t.formula t.props.length = 0 ∧ Ag t.model = 0 := by
 unfold BL at h
 by_cases c : Cd t.model t.props ≠ 0
 · rw [if_pos c] at h; exact absurd h c
 · rw [if_neg c] at h
   exact ⟨Decidable.not_not.1 c, h, (Kq (Decidable.not_not.1 c)).1⟩
noncomputable abbrev Cc (m : Md) : Int := (codeF m (inits m)).1
theorem Qb {m : Md} (h : Ag m = 0) : (codeF m (inits m)).2 = 0 ∧ 0 ≤ Cc m ∧ Cc m < AQ m.vars := by
 have hl : (inits m).length = m.vars.length := by simp [inits]
 have h2 : (codeF m (inits m)).2 = 0 := by
  rw [N8 h hl]
  refine Jb _ _ _ fun i h1 h2 => ?_
  have := (KI (Be h)).range m.vars[i] (List.getElem_mem h1)
  unfold D5 at this
  simp only [inits, List.getElem_map]
  omega
 exact ⟨h2, KG h hl h2⟩
noncomputable abbrev Di (t : Tk) (c : Int) : List Bool := (List.range t.props.length).map (QB t.props (CQ t.model.vars c))
theorem Lc {t : Tk} (h : BL t = 0) {c : Int} (h0 : 0 ≤ c) (h1 : c < AQ t.model.vars) : KQ t.model t.props c = (Di t c, 0) := by
 obtain ⟨a1, a2, a3⟩ := C0 h
 have hv : CJ t.model c = (CQ t.model.vars c, 0) := by unfold CJ; rw [if_neg (fun k => k a3), if_pos ⟨h0, h1⟩]
 unfold KQ
 rw [if_neg (fun k => k a1), hv, if_neg (by simp)]
theorem Ju (t : Tk) (c : Int) : (Di t c).length = t.props.length := by simp
theorem Uw {t : Tk} (h : BL t = 0) : BK t = 2 ^ CG t.formula t.formula.length := by
 unfold BK Ai
 rw [if_neg (fun k => k (C0 h).2.1), FM]
theorem Jx {t : Tk} (h : BL t = 0) (x : List Bool) (hx : x.length = t.props.length) {c : Int} (h0 : 0 ≤ c) (h1 : c < BK t) : BN t.formula x c = ((List.range t.formula.length).map (tAt t.formula x c), 0) := by
 have hf : DT t.formula x.length = 0 := by rw [hx]; exact (C0 h).2.1
 have ha : Ai t.formula x.length = (DU t.formula 0, 0) := by unfold Ai; rw [if_neg (fun k => k hf)]
 unfold BN
 rw [ha, if_neg (by simp), if_neg]
 rw [FM]
 rw [Uw h] at h1
 have e : ((2 ^ CG t.formula t.formula.length : Nat) : Int) = 2 ^ CG t.formula t.formula.length := by simp
 omega
theorem QN {l : List Fo} (h : 0 < l.length) (f : Nat → Bool) : ∃ r, (List.range l.length).map f = f 0 :: r := by
 cases hl : l.length with
 | zero => omega
 | succ n => exact ⟨_, by rw [List.range_succ_eq_map, List.map_cons]⟩
noncomputable def DV (t : Tk) (n : Nat) : List Fo := ((List.range n).filter fun c : Nat => !tAt t.formula (Di t (Cc t.model)) c 0).map fun c : Nat => ⟨Cc t.model, c⟩
theorem TT {t : Tk} {n : Nat} (h : tAt t.formula (Di t (Cc t.model)) n 0 = false) : DV t (n + 1) = DV t n ++ [⟨Cc t.model, n⟩] := by
 unfold DV
 rw [List.range_succ, List.filter_append, List.map_append]
 simp [h]
theorem VW {t : Tk} {n : Nat} (h : tAt t.formula (Di t (Cc t.model)) n 0 = true) : DV t (n + 1) = DV t n := by
 unfold DV
 rw [List.range_succ, List.filter_append, List.map_append]
 simp [h]
theorem MR (t : Tk) (n : Nat) : (DV t n).length ≤ n := by
 unfold DV
 rw [List.length_map]
 exact Nat.le_trans (List.length_filter_le _ _) (by simp)
noncomputable def A3 (t : Tk) : List Fo × Int := if BL t ≠ 0 then ([], BL t) else (DV t (BK t), 0)
end Go.Sp
namespace Go.Proofs.YtnlfhnbcdfdhgaaGreatDoor
open Go Go.Av Go.Sp
theorem DA : Cal Tryz.prog 77 := Cal.of Tryz.func77 (by kernel_rfl) (by kernel_rfl)
theorem Jm : Cal Tryz.prog 44 := Cal.of Tryz.func44 (by kernel_rfl) (by kernel_rfl)
theorem SZ (t : Tk) : ACr Tryz.prog GP 77 [tkA t] (.int (BK t)) := by
 have hA := YX t.formula t.props.length
 have hfew := IN t.formula t.props.length
 unfold BK
 generalize Ai t.formula t.props.length = q at hA hfew ⊢
 obtain ⟨ps, e⟩ := q
 dsimp only at hA hfew ⊢
 have hp := cA hfew
 have hi : (1 : Int) * 2 ^ (ps.length : Int).toNat = ((2 ^ ps.length : Nat) : Int) := by simp
 refine AJ (ts := [2]) Tryz.f77.ntmps Tryz.func77 rfl rfl rfl (by simp [Tryz.ntmps77]) fun W I => ?_
 have hin : AX ((1 : Int) * 2 ^ (ps.length : Int).toNat) := by rw [hi]; generalize (2 ^ ps.length : Nat) = x at hp ⊢; unfold AX; omega
 repeat' (first
  | refine ca CL (hA) ?_
  | exact True.intro | refine AG ?_ | refine two ?_ ?_ | refine AF fun c_ => ?_
  | (refine imp fun hc => ?_) <;> try exact cx1 hc
  | refine all fun v_ => ?_)
 refine AN (VS.drop (List.nil_sublist _)) ?_
 ((with_reducible apply rq1); rfl; rfl)
 exact AB (by rw [← hi])
theorem Wy (t : Tk) : ACr Tryz.prog GP 44 [tkA t] (.tup [.d (AO (A3 t).1), .int (A3 t).2]) := by
 have hP := Wm t
 unfold A3
 refine AJ (ts := [2, 3]) Tryz.f44.ntmps Tryz.func44 rfl rfl rfl (by simp [Tryz.ntmps44]) fun W I => ?_
 by_cases h1 : BL t ≠ 0
 · rw [if_pos h1]
   generalize BL t = e at hP h1
   repeat' (first
    | refine ca FE (hP) ?_
    | exact True.intro | refine AG ?_ | refine two ?_ ?_ | refine AF fun c_ => ?_
    | (refine imp fun hc => ?_) <;> try exact cx1 hc
    | refine all fun v_ => ?_)
   refine AN (VS.trans (VS.drop (List.nil_sublist _)) (EZ (t := 2) 2 16 rfl)) ?_
   ((with_reducible apply rq2); rfl; rfl; rfl)
   exact AB rfl
 rw [if_neg h1]
 replace h1 := Decidable.not_not.1 h1
 rw [h1] at hP
 obtain ⟨a1, a2, a3⟩ := C0 h1
 obtain ⟨f1, f2, f3⟩ := Qb a3
 have gf := Kb a2
 have hpos := gf.pos
 have h60 := gf.h60
 have hF : ACr Tryz.prog GP 76 [mdA t.model] (.tup [.int (Cc t.model), .int 0]) := by
  have h := eN t.model
  rw [f1] at h
  exact h
 have hL := PH t.model t.props (Cc t.model)
 have hM := SZ t
 rw [Lc h1 f2 f3] at hL
 dsimp only at hL
 obtain ⟨m1, m2⟩ := Dr t
 have hll := Ju t (Cc t.model)
 have hin : ∀ n : Nat, n < BK t → BN t.formula (Di t (Cc t.model)) n = ((List.range t.formula.length).map (tAt t.formula (Di t (Cc t.model)) n), 0) := fun n hn => Jx h1 _ hll (by omega) (by omega)
 have hyes := fun n => TT (t := t) (n := n)
 have hno := fun n => VW (t := t) (n := n)
 have hbl := MR t
 have hb0 : DV t 0 = [] := rfl
 generalize DV t = B at hyes hno hbl hb0 ⊢
 generalize Di t (Cc t.model) = lt at hL hll hin hyes hno
 generalize Cc t.model = fst at hF hL f2 f3 hyes hno
 generalize BK t = N at hM m1 m2 hin ⊢
 repeat' (first
  | refine ca FE (hP) ?_
  | refine ca WH (hF) ?_
  | refine ca GG (hL) ?_
  | refine ca DA (hM) ?_
  | exact True.intro | refine AG ?_ | refine two ?_ ?_ | refine AF fun c_ => ?_
  | (refine imp fun hc => ?_) <;> try exact cx1 hc
  | refine all fun v_ => ?_)
 refine F6 (E := 106) (sz := 2) Fo.cells ?_
 refine AM (X := Nat × Sl) (fun y => [(1, .val (.pointer (some ⟨v_, 0, none⟩))), (5, .int fst), (7, .d (Bt lt)), (9, .val y.2.v), (34, .int N), (35, .int y.1)]) (fun y => [AH y.2.v 106 2 Fo.cells (B y.1), .cells v_ 29 [.d (BT t.model.vars), .d (A2 t.model.rules), .d (BU t.props), .d (AO t.formula)]]) (fun y => y.1 ≤ N) (fun y => N - y.1) (0, Sl.nil) (Nat.zero_le _) (VS.take (by rw [hb0]; exact AD) ?_) ?_
 · exact leD
 rintro ⟨i, q⟩ hi
 dsimp only at hi ⊢
 have hbi := hbl i
 by_cases hil : i < N
 · have hT := OY t.formula lt i
   rw [hin i hil] at hT
   have hyes := hyes i
   have hno := hno i
   obtain ⟨rest, hr⟩ := QN hpos (tAt t.formula lt i)
   rw [hr] at hT
   dsimp only at hT
   cases hb : tAt t.formula lt i 0 with
   | true =>
     rw [hb] at hT
     have hno := hno hb
     repeat' (first
      | refine ca Ay (hT) ?_
      | ((with_reducible apply (BX (f := Fo.cells) (u := ⟨fst, (i : Int)⟩))); (focus rfl); (focus rfl); (focus (with_reducible exact ElC.h)); (focus exact BS); (focus rfl); (focus rfl); (focus rfl); (focus rfl); (focus exact Af); (focus exact Af))
      | exact True.intro | refine AG ?_ | refine two ?_ ?_ | refine AF fun c_ => ?_
      | (refine imp fun hc => ?_) <;> try exact cx1 hc
      | refine all fun v_ => ?_)
     refine ⟨(i + 1, q), by dsimp only; omega, by dsimp only; omega, VS.take (by dsimp only; rw [hno]; exact AD) ?_⟩
     exact leD
   | false =>
     rw [hb] at hT
     have hyes := hyes hb
     repeat' (first
      | refine ca Ay (hT) ?_
      | ((with_reducible apply (BX (f := Fo.cells) (u := ⟨fst, (i : Int)⟩))); (focus rfl); (focus rfl); (focus (with_reducible exact ElC.h)); (focus exact BS); (focus rfl); (focus rfl); (focus rfl); (focus rfl); (focus exact Af); (focus exact Af))
      | exact True.intro | refine AG ?_ | refine two ?_ ?_ | refine AF fun c_ => ?_
      | (refine imp fun hc => ?_) <;> try exact cx1 hc
      | refine all fun v_ => ?_)
     refine ⟨(i + 1, v_), by dsimp only; omega, by dsimp only; omega, VS.take (by dsimp only; rw [hyes]; exact AD) ?_⟩
     exact leD
 obtain rfl : i = N := by omega
 repeat' (first
  | exact True.intro | refine AG ?_ | refine two ?_ ?_ | refine AF fun c_ => ?_
  | (refine imp fun hc => ?_) <;> try exact cx1 hc
  | refine all fun v_ => ?_)
 refine AN (VS.trans (By (t := 2) (eb := 16) rfl rfl (fun x => rfl) (by omega)) (VS.drop (List.nil_sublist _))) ?_
 ((with_reducible apply rq2); rfl; rfl; rfl)
 exact AB rfl
end Go.Proofs.YtnlfhnbcdfdhgaaGreatDoor
namespace Go.Sp
open Go Go.Av

theorem J5 (m : Md) (vs : List Int) (l : List Ru) (i : Nat) (h : i < l.length) : CW m vs (l.take (i + 1)) = CW m vs (l.take i) ++ (match Ch m l[i] vs with | none => [] | some out => [(codeF m out).1]) := by
 unfold CW
 rw [List.take_succ_eq_append_getElem h, List.filterMap_append, List.filterMap_cons, List.filterMap_nil]
 cases Ch m l[i] vs <;> rfl
theorem QG {m : Md} {vs : List Int} {l : List Ru} {i : Nat} (h : i < l.length) (ho : Ch m l[i] vs = none) : CW m vs (l.take (i + 1)) = CW m vs (l.take i) := by
 rw [J5 m vs l i h, ho, List.append_nil]
theorem Ql {m : Md} {vs : List Int} {l : List Ru} {i : Nat} {out : List Int} (h : i < l.length) (ho : Ch m l[i] vs = some out) : CW m vs (l.take (i + 1)) = CW m vs (l.take i) ++ [(codeF m out).1] := by
 rw [J5 m vs l i h, ho]
theorem L1 (m : Md) (vs : List Int) (l : List Ru) : (CW m vs l).length ≤ l.length := List.length_filterMap_le _ _
theorem Qg (l : List Int) (n : Nat) (hn : l.length ≤ n) : (Lib.compact l).length ≤ n := by
 unfold Lib.compact Lib.compactUpTo
 rw [List.length_map]
 exact Nat.le_trans (List.length_filter_le _ _) (by simpa using hn)
theorem RY (k : Nat) (l : List Int) : (Hw k l).length ≤ k := by
 unfold Hw
 rw [List.length_map]
 exact Nat.le_trans (List.length_filter_le _ _) (by simp)
theorem XL (n : Nat) : Hw n [] = [] := by
 unfold Hw; simp
theorem Je {m : Md} {c : Int} (h : (CJ m c).2 ≠ 0) : EI m c = ([], (CJ m c).2) := by unfold EI; rw [if_pos h]
theorem Lj {m : Md} {c : Int} (h : (CJ m c).2 = 0) : EI m c = (if CW m (CQ m.vars c) m.rules = [] then [c] else Hw (AQ m.vars).toNat (CW m (CQ m.vars c) m.rules), 0) := by
 obtain ⟨_, _, _, e⟩ := MM h
 unfold EI
 rw [if_neg (fun k => k h), e]
theorem MA {m : Md} (h : Ag m = 0) : m.rules.length ≤ 12 := by
 have hv := Be h
 unfold Ag at h
 rw [if_neg (fun k => k hv)] at h
 by_cases c : 12 < m.rules.length
 · rw [if_pos c] at h; exact absurd h (by decide)
 · omega
theorem FC {m : Md} (h : Ag m = 0) : ∃ n : Nat, AQ m.vars = n ∧ 1 ≤ n ∧ n ≤ 4096 := by
 have g := KI (Be h)
 have h1 := Dy fun v hv => (g.span v hv).1
 have h2 := g.all
 exact ⟨(AQ m.vars).toNat, by omega, by omega, by omega⟩

theorem KD {m : Md} (hm : Ag m = 0) (c : Int) : ∀ x ∈ (EI m c).1, 0 ≤ x ∧ x < AQ m.vars := fun x hx => by
 by_cases h : (CJ m c).2 ≠ 0
 · rw [Je h] at hx; cases hx
 · rw [Lj (Decidable.not_not.1 h)] at hx
   obtain ⟨_, h0, h1, _⟩ := MM (Decidable.not_not.1 h)
   dsimp only at hx
   by_cases hc : CW m (CQ m.vars c) m.rules = []
   · rw [if_pos hc] at hx; rw [List.mem_singleton.1 hx]; exact ⟨h0, h1⟩
   · rw [if_neg hc] at hx
     have := K0 hx
     obtain ⟨n, hn, _, _⟩ := FC hm
     rw [hn] at this ⊢
     rw [Int.toNat_natCast] at this
     exact ⟨this.1, this.2.1⟩
noncomputable def nxM (m : Md) (c : Nat) : List Nat := (EI m c).1.map Int.toNat
structure RM (m : Md) (n : Nat) (i : Nat) (xs : List Int) : Prop where
 nodup : xs.Nodup
 range : ∀ x ∈ xs, 0 ≤ x ∧ x < n
 sound : ∀ x ∈ xs, cL (nxM m) [(Cc m).toNat] x.toNat
 first : Cc m ∈ xs
 done : ∀ (j : Nat) (h : j < xs.length), j < i → ∀ y ∈ (EI m xs[j]).1, y ∈ xs
theorem Nk : ∀ (n : Nat) (xs : List Int), xs.Nodup → (∀ x ∈ xs, 0 ≤ x ∧ x < (n : Int)) → xs.length ≤ n
 | 0, [], _, _ => Nat.le_refl _
 | 0, x :: _, _, h => by have := h x List.mem_cons_self; omega
 | n + 1, xs, hn, h => by
   have ih := Nk n (xs.erase n) (hn.erase _) fun x hx => by
    have h1 := h x (List.mem_of_mem_erase hx)
    have h2 : x ≠ n := fun e => by
     subst e
     exact (List.Nodup.not_mem_erase hn) hx
    omega
   have := List.length_erase (a := (n : Int)) (l := xs)
   split at this <;> omega

noncomputable def Vp (t : Tk) (st cl c : Int) (d : Int) : Bool := decide (kept t.formula (tAt t.formula (Di t st) cl) (tAt t.formula (Di t c) d))
theorem Rz {t : Tk} (h : BL t = 0) {st cl c d : Int} (h0 : 0 ≤ cl) (h1 : cl < BK t) (h2 : 0 ≤ d) (h3 : d < BK t) : Dt t.formula (Di t st) cl (Di t c) d = (Vp t st cl c d, 0) := by
 have e1 := Jx h (Di t st) (Ju t st) h0 h1
 have e2 := Jx h (Di t c) (Ju t c) h2 h3
 unfold Dt
 rw [if_neg (by simp), e1, e2, if_neg (by simp), if_neg (by simp)]
 rfl
noncomputable def IK (t : Tk) (st cl c : Int) (k : Nat) : List Fo := ((List.range k).filter fun d : Nat => Vp t st cl c d).map fun d : Nat => ⟨c, d⟩
theorem Xs {t : Tk} {st cl c : Int} {k : Nat} (h : Vp t st cl c k = true) : IK t st cl c (k + 1) = IK t st cl c k ++ [⟨c, k⟩] := by
 unfold IK
 rw [List.range_succ, List.filter_append, List.map_append]
 simp [h]
theorem aa {t : Tk} {st cl c : Int} {k : Nat} (h : Vp t st cl c k = false) : IK t st cl c (k + 1) = IK t st cl c k := by
 unfold IK
 rw [List.range_succ, List.filter_append, List.map_append]
 simp [h]
theorem Pj (t : Tk) (st cl c : Int) (k : Nat) : (IK t st cl c k).length ≤ k := by
 unfold IK
 rw [List.length_map]
 exact Nat.le_trans (List.length_filter_le _ _) (by simp)
noncomputable def Jd (t : Tk) (st cl : Int) (cs : List Int) : List Fo := cs.flatMap fun c => IK t st cl c (BK t)
theorem Vo (t : Tk) (st cl : Int) (cs : List Int) (i : Nat) (h : i < cs.length) : Jd t st cl (cs.take (i + 1)) = Jd t st cl (cs.take i) ++ IK t st cl cs[i] (BK t) := by
 unfold Jd
 rw [List.take_succ_eq_append_getElem h, List.flatMap_append]
 simp
theorem Il (t : Tk) (st cl : Int) : ∀ cs : List Int, (Jd t st cl cs).length ≤ cs.length * 64
 | [] => by simp [Jd]
 | c :: cs => by
   have ih := Il t st cl cs
   have h1 := Pj t st cl c (BK t)
   have h2 := (Dr t).2
   have e : Jd t st cl (c :: cs) = IK t st cl c (BK t) ++ Jd t st cl cs := by simp [Jd]
   rw [e, List.length_append, List.length_cons]
   omega
noncomputable def Ad (t : Tk) (st cl : Int) : List Fo × Int :=
 if BL t ≠ 0 then ([], BL t)
 else if ¬ ((0 ≤ st ∧ st < AQ t.model.vars) ∧ 0 ≤ cl ∧ cl < BK t) then ([], 9)
 else (Jd t st cl (EI t.model st).1, 0)
theorem NA {m : Md} (hm : Ag m = 0) (c : Int) : (EI m c).1.length ≤ 4096 := by
 by_cases h : (CJ m c).2 ≠ 0
 · rw [Je h]; exact Nat.zero_le _
 · rw [Lj (Decidable.not_not.1 h)]
   obtain ⟨n, hn, n1, n2⟩ := FC hm
   dsimp only
   split
   · simp
   · rw [hn, Int.toNat_natCast]; exact Nat.le_trans (RY _ _) n2
end Go.Sp
namespace Go.Av
open Go

section
variable {k : Kx} {Q : Exit → Env → H → Prop} {ρ : Env} {h : H} {ops : Array Oper} {l : List Oper} {d : Nat} {ty : TypeId} {pos : String} {after : Array Edge}
theorem Tr {α : Type} {f : α → List D} {xs : List α} {T T' E : TypeId} {x y : Operand} {sz eb : Nat} (hx : evO ρ x = some (.d (.l sz eb (xs.map f)))) (hy : evO ρ y = some (.val (.slice none 0 0))) (hT : k.P.underlying T = some (.slice E)) (hd : Nat.blt d k.n = true)
 (hj : Two (Imp (xs = []) (JL k ops l Q ((d, .bool true) :: ρ) h)) (JL k ops l Q ((d, .bool false) :: ρ) h)) : JL k ops (⟨some d, .binOp .eql T x y T', ty, pos, after, none⟩ :: l) Q ρ h := by
 refine D3 rfl (fun t ht => by cases ht; exact blt hd) fun I a w h1 h2 => ?_
 have ex : Rel w I (.l sz eb (xs.map f)) (a.eval x) := by have := h2.ev x; rw [AA hx] at this; exact this
 have ey : a.eval y = .slice none 0 0 := AL (h2.ev y) (AA hy)
 have key : ∀ (ad : Option Addr) (n c : Nat), a.eval x = .slice ad n c → (execOp a.eval ⟨some d, .binOp .eql T x y T', ty, pos, after, none⟩).run k.P w = .ok (.value (.bool ad.isNone)) w := by
  intro ad n c e
  have r : (binOp .eql T (.slice ad n c) (.slice none 0 0)).run k.P w = .ok (.bool ad.isNone) w := by
   simp only [binOp]
   simp [run_equal_slice_nil w T E ad n c hT]
  simp [execOp, e, ey, eqGuard_at_slice, r]
 have go : ∀ b, (b = true → xs = []) → JL k ops l Q (put ρ (some d) (.bool b)) h := by
  intro b hb
  cases b with
  | true => exact hj.1.get (hb rfl)
  | false => exact hj.2
 generalize hR : xs.map f = R at ex
 generalize hv : a.eval x = v at ex key
 cases ex with
 | nil => exact ⟨_, w, I, .bool true, h, key _ _ _ rfl, h1, h2, rfl, go true fun _ => List.map_eq_nil_iff.1 hR⟩
 | emp => exact ⟨_, w, I, .bool false, h, key _ _ _ rfl, h1, h2, rfl, go false fun h => (by cases h)⟩
 | l => exact ⟨_, w, I, .bool false, h, key _ _ _ rfl, h1, h2, rfl, go false fun h => (by cases h)⟩
end
open Go Go.Instr

structure VQ (P : Program) (KT : TypeId) {α : Type} (kv : α → Value) [DecidableEq α] : Prop where
 find : ∀ {β : Type} (vv : β → Value) (ps : List (α × β)) (a : α) (w : World), ∃ r : Option (Nat × Value), (findKey KT (kv a) (BV (Ac kv vv ps) 0)).run P w = .ok r w ∧ r.map (·.2) = (getM ps a).map vv
 easy : ∀ (e : Bool) (a : α) (w : World), (checkKey e 10000 KT (kv a)).run P w = .ok () w
section
variable {α β : Type} [DecidableEq α] {kv : α → Value}
theorem Kv {P : Program} {KT : TypeId} (he : ∀ a b w, (Op.equal KT (kv a) (kv b)).run P w = .ok (decide (a = b)) w) (vv : β → Value) (a : α) : ∀ (ps : List (α × β)) (i j : Nat) (w : World),
 ∃ r : Option (Nat × Value), (findAsking KT (kv a) (BV (Ac kv vv ps) i) j).run P w = .ok r w ∧ r.map (·.2) = (getM ps a).map vv
 | [], i, j, w => ⟨none, rfl, rfl⟩
 | (b, c) :: ps, i, j, w => by
   by_cases h : a = b
   · subst h
     refine ⟨some (j, vv c), ?_, by simp [getM]⟩
     simp [Ac, BV, findAsking, he]
   · obtain ⟨r, h1, h2⟩ := Kv he vv a ps (i + 1) (j + 1) w
     have hb : ¬ b = a := fun k => h k.symm
     refine ⟨r, ?_, by rw [h2]; simp [getM, hb]⟩
     have e : BV (Ac kv vv ((b, c) :: ps)) i = ⟨kv b, vv c, i⟩ :: BV (Ac kv vv ps) (i + 1) := rfl
     rw [e, findAsking]
     simp [he, h, h1]
theorem QV {P : Program} {KT : TypeId} {fs : Array Field} (hK : P.underlying KT = some (.struct fs)) (he : ∀ a b w, (Op.equal KT (kv a) (kv b)).run P w = .ok (decide (a = b)) w)
 (hc : ∀ e a w, (checkKey e 10000 KT (kv a)).run P w = .ok () w) : VQ P KT kv where
 easy := hc
 find vv ps a w := by
  cases ps with
  | nil => exact ⟨none, by simp [findKey, run_underlying hK, Ac, BV, findNow], rfl⟩
  | cons p ps =>
    obtain ⟨r, h1, h2⟩ := Kv he vv a (p :: ps) 0 0 w
    refine ⟨r, ?_, h2⟩
    have e : findNow (.struct fs) (kv a) (BV (Ac kv vv (p :: ps)) 0) 0 = none := by
     have e1 : BV (Ac kv vv (p :: ps)) 0 = ⟨kv p.1, vv p.2, 0⟩ :: BV (Ac kv vv ps) 1 := rfl
     rw [e1, findNow]
     have e2 : sameNow (.struct fs) (kv a) (kv p.1) = none := by unfold sameNow; split <;> simp_all
     simp only [e2]
    simp [findKey, run_underlying hK, e, h1]
end
section
variable {k : Kx} {Q : Exit → Env → H → Prop} {ρ : Env} {h h' : H} {ops : Array Oper} {l : List Oper} {ty : TypeId} {pos : String} {after : Array Edge}
theorem bF {α β : Type} [DecidableEq α] {kv : α → Value} {vv : β → Value} {T KT ET : TypeId} (K : VQ k.P KT kv) {x y u : Operand} {r s : AV} {b : Nat} {ps : List (α × β)} {a : α} {c : β}
 (hx : evO ρ x = some (.val (.map (some b)))) (hy : evO ρ y = some s) (hs : ∀ w I v, AV.rel w I s v → v = kv a) (hv : evO ρ u = some r) (hr : ∀ w I v, AV.rel w I r v → v = vv c) (hT : k.P.underlying T = some (.map KT ET))
 (hu : Upd (.raw b (A1 (Ac kv vv ps))) (.raw b (A1 (Ac kv vv (ps ++ [(a, c)])))) h h') (hno : getM ps a = none)
 (hj : JL k ops l Q ρ h') : JL k ops (⟨none, .mapUpdate T x y u, ty, pos, after, none⟩ :: l) Q ρ h := by
 obtain ⟨h1, h2, rfl, rfl⟩ := hu.split
 refine FP rfl rfl fun I ac w k1 k2 => ?_
 have e1 := AL (k2.ev x) (AA hx)
 have e2 := hs _ _ _ (BW (k2.ev y) (AA hy))
 have e3 := hr _ _ _ (BW (k2.ev u) (AA hv))
 have hb : w.heap[b]? = some (A1 (Ac kv vv ps)) := k1.ent (.raw b (A1 (Ac kv vv ps))) (by simp)
 obtain ⟨q, hfind, hq⟩ := K.find vv ps a w
 obtain rfl : q = none := by
  rw [hno] at hq
  cases q with
  | none => rfl
  | some _ => cases hq
 have hnew : Obj.map (BV (Ac kv vv ps) 0 ++ [(⟨kv a, vv c, (Ac kv vv ps).length⟩ : MapEntry)]).toArray ((Ac kv vv ps).length + 1) = A1 (Ac kv vv (ps ++ [(a, c)])) := by
  have e : Ac kv vv (ps ++ [(a, c)]) = Ac kv vv ps ++ [(kv a, vv c)] := by simp [Ac]
  unfold A1
  rw [e, EW]
  simp [BV]
 obtain ⟨g1, g2⟩ := k1.write (w' := { w with heap := w.heap.setIfInBounds b (A1 (Ac kv vv (ps ++ [(a, c)]))) }) (e' := .raw b (A1 (Ac kv vv (ps ++ [(a, c)])))) (b := b) rfl rfl rfl rfl rfl (by simp)
  (fun x hx => by simp [Array.getElem?_setIfInBounds, Ne.symm hx]) (by
   have hlt := (Array.getElem?_eq_some_iff.1 hb).1
   show _ = _
   simp [Array.getElem?_setIfInBounds, hlt])
 refine ⟨{ w with heap := w.heap.setIfInBounds b (A1 (Ac kv vv (ps ++ [(a, c)]))) }, I, h1 ++ .raw b (A1 (Ac kv vv (ps ++ [(a, c)]))) :: h2, ?_, g1, k2.mono g2 (fun _ h => h), hj⟩
 have hobj : (getObj b).run k.P w = .ok (.map (BV (Ac kv vv ps) 0).toArray (Ac kv vv ps).length) w := by simp [getObj, Sem.run, hb, A1]
 have hset := Lh (P := k.P) (w := w) (r := b) (A1 (Ac kv vv (ps ++ [(a, c)]))) (es := (BV (Ac kv vv ps) 0).toArray) (clock := (Ac kv vv ps).length) hb
 simp only [execOp, e1, e2, e3, mapUpdate]
 simp [run_underlying hT, hobj, K.easy false a w, hfind, hnew, hset]
end
section
variable {P : Program} {G : List (Nat × List D)} {ρ : Env} {h : H} {dst : Option Tmp} {ty : TypeId} {pos : String} {after : Array Edge} {g : Option (Nat × Bool)}
theorem Rh {α β : Type} [DecidableEq α] {kv : α → Value} {vv : β → Value} {T KT ET : TypeId} (K : VQ P KT kv) {x y : Operand} {s : AV} {b : Nat} {ps : List (α × β)} {a : α} {z : Value} {sz eb : Nat}
 (hx : evO ρ x = some (.val (.map (some b)))) (hy : evO ρ y = some s) (hs : ∀ w I v, AV.rel w I s v → v = kv a) (hT : P.underlying T = some (.map KT ET)) (hE : El P ET z sz eb) (hm : Ent.raw b (A1 (Ac kv vv ps)) ∈ h) :
 Pure P G ⟨dst, .lookup T x y true, ty, pos, after, g⟩ ρ h (.tup [.val (((getM ps a).map vv).getD z), .bool (getM ps a).isSome]) := by
 intro c I n ac w _ hok hs'
 obtain ⟨i, hi, hz, _, _⟩ := hE.get
 have e1 := AL (hs'.ev x) (AA hx)
 have e2 := hs _ _ _ (BW (hs'.ev y) (AA hy))
 have hb : w.heap[b]? = some (A1 (Ac kv vv ps)) := hok.ent _ hm
 refine ⟨.tuple #[((getM ps a).map vv).getD z, .bool (getM ps a).isSome], ⟨[_, _], rfl, rfl, rfl, trivial⟩, fun w' hw' => ?_⟩
 have hb' : w'.heap[b]? = some (A1 (Ac kv vv ps)) := (hw'.own b (DY hm rfl)).trans hb
 have hobj : (getObj b).run P w' = .ok (.map (BV (Ac kv vv ps) 0).toArray (Ac kv vv ps).length) w' := by simp [getObj, Sem.run, hb', A1]
 obtain ⟨r, hr1, hr2⟩ := K.find vv ps a w'
 simp only [execOp, e1, e2, lookup]
 cases r with
 | none =>
   have hr3 : (getM ps a).map vv = none := hr2.symm
   have hr4 : getM ps a = none := by simpa using hr3
   simp [run_underlying hT, hobj, K.easy _ a w', hr1, hr4, zeroValue, typeInfo, hi, hz]
 | some r =>
   obtain ⟨j, v⟩ := r
   have hr3 : (getM ps a).map vv = some v := hr2.symm
   obtain ⟨bb, hb1, hb2⟩ := Option.map_eq_some_iff.1 hr3
   simp [run_underlying hT, hobj, K.easy _ a w', hr1, hb1, hb2]
theorem Gk {α : Type} {f : α → List D} {xs : List α} {T E : TypeId} {x : Operand} {q : Sl} {j sz eb : Nat} {z : Value} (hT : A0 P T = some true) (hE : El P T z sz eb) (hx : evO ρ x = some (.val (.pointer (some (q.at (j * sz)))))) (hm : AH q.v E sz f xs ∈ h) (hsz : ∀ a, (f a).length = sz) (hj : j < xs.length) :
 Pure P G ⟨dst, .load T x, ty, pos, after, g⟩ ρ h (.agg ((f xs[j]).map D.av)) := by
 intro cx I m a w _ hok hs
 obtain ⟨i, hi, _, rfl, _⟩ := hE.get
 obtain ⟨gb, cap, cur, rfl, hg, hnc, hcm, hcs, hrel⟩ := Ent.row_form (hok.ent _ hm) (by omega)
 have e1 : a.eval x = .pointer (some ⟨gb, j * i.size, none⟩) := AL (hs.ev x) (AA hx)
 have hle : (j + 1) * i.size ≤ xs.length * i.size := Nat.mul_le_mul_right _ hj
 rw [Nat.add_mul, Nat.one_mul] at hle
 have hcl : xs.length * i.size ≤ cur.toList.length := by
  have e : cur.toList.length = cap * i.size := hcs
  rw [e]; exact Nat.mul_le_mul_right _ hnc
 have hfl : ∀ l : List α, ((l.map f).flatten).length = l.length * i.size := fun l => by
  rw [Bd _ fun r hr => by obtain ⟨b, _, rfl⟩ := List.mem_map.1 hr; exact hsz b, List.length_map]
 have hsplit : (xs.map f).flatten = ((xs.take j).map f).flatten ++ (f xs[j] ++ ((xs.drop (j + 1)).map f).flatten) := by
  have e : xs = xs.take j ++ xs[j] :: xs.drop (j + 1) := by rw [← List.drop_eq_getElem_cons hj, List.take_append_drop]
  have e2 : ((xs.take j ++ xs[j] :: xs.drop (j + 1)).map f).flatten = (xs.map f).flatten := by rw [← e]
  rw [List.map_append, List.map_cons, List.flatten_append, List.flatten_cons] at e2
  exact e2.symm
 have htl : ((xs.take j).map f).flatten.length = j * i.size := by rw [hfl, List.length_take, Nat.min_eq_left (by omega)]
 have hl1 : ((((xs.map f).flatten.map D.av).drop (j * i.size)).take i.size) = (f xs[j]).map D.av := by
  rw [hsplit, List.map_append, List.map_append, List.drop_left' (by rw [List.length_map, htl]), List.take_left' (by rw [List.length_map, hsz])]
 have hr1 : ((cur.toList.take (xs.length * i.size)).drop (j * i.size)).take i.size = (cur.toList.drop (j * i.size)).take i.size := by
  rw [List.drop_take, List.take_take, Nat.min_eq_left (by omega)]
 have hrels := DI i.size (Fs (j * i.size) hrel)
 rw [hl1, hr1] at hrels
 refine ⟨.agg ((cur.toList.drop (j * i.size)).take i.size).toArray, ⟨_, rfl, hrels⟩, fun w' hw' => ?_⟩
 have hheap : w'.heap[gb]? = some (.cells cur E (0, 0)) := (hw'.own gb (DY hm rfl)).trans hg
 have hload := run_loadCells_list (P := P) w' ⟨gb, j * i.size, none⟩ ((cur.toList.drop (j * i.size)).take i.size) fun u v hv => by
  rw [Addr.add_lit, cell_of_row w' gb (j * i.size + u) cur E (0, 0) hheap]
  rw [List.getElem?_take] at hv
  split at hv
  · rw [List.getElem?_drop] at hv; simpa using hv
  · cases hv
 have hln : ((cur.toList.drop (j * i.size)).take i.size).length = i.size := by
  rw [List.length_take, List.length_drop]; omega
 rw [hln] at hload
 simp [execOp, e1, Instr.loadAt, Instr.sureAddr, loadVar, Cq hT, sizeOf, typeInfo, hi, hload]
end
end Go.Av
namespace Go.Sp
open Go Go.Av

instance : DecidableEq Fo := fun a b => decidable_of_iff (a.kind = b.kind ∧ a.val = b.val) ⟨fun h => Fo.ext' h.1 h.2, fun h => by subst h; exact ⟨rfl, rfl⟩⟩
def plc (b : Fo) : List Fo → Nat
 | [] => 0
 | a :: l => if a = b then 0 else plc b l + 1
theorem XX (b : Fo) : ∀ l : List Fo, plc b l ≤ l.length
 | [] => Nat.le_refl _
 | a :: l => by
   have := XX b l
   rw [plc]; split
   · exact Nat.zero_le _
   · simp; omega
theorem WX {b : Fo} : ∀ {l : List Fo}, b ∈ l ↔ plc b l < l.length
 | [] => by simp [plc]
 | a :: l => by
   rw [List.mem_cons, plc]
   by_cases h : a = b
   · rw [if_pos h]; simp [h]
   · rw [if_neg h, List.length_cons, WX (l := l)]
     exact ⟨fun k => k.elim (fun e => absurd e.symm h) (fun k => by omega), fun k => .inr (by omega)⟩
theorem Tc {b : Fo} {l : List Fo} (h : b ∉ l) : plc b l = l.length := by
 have h1 := XX b l
 have h2 : ¬ plc b l < l.length := fun k => h (WX.2 k)
 omega
def Ey (sp : List Fo) (b : Fo) : List Fo := if b ∈ sp then sp else sp ++ [b]
theorem bT {sp : List Fo} {b : Fo} (h : b ∈ sp) : Ey sp b = sp := if_pos h
theorem Yk {sp : List Fo} {b : Fo} (h : b ∉ sp) : Ey sp b = sp ++ [b] := if_neg h
theorem Ph (sp : List Fo) (b : Fo) : sp.length ≤ (Ey sp b).length := by
 unfold Ey; split
 · exact Nat.le_refl _
 · simp
def BM : List Fo → List Fo → List Fo × List Int
 | sp, [] => (sp, [])
 | sp, b :: bs => ((BM (Ey sp b) bs).1, (plc b sp : Int) :: (BM (Ey sp b) bs).2)
theorem Wi : ∀ (bs sp : List Fo), sp.length ≤ (BM sp bs).1.length
 | [], sp => Nat.le_refl _
 | b :: bs, sp => Nat.le_trans (Ph sp b) (Wi bs _)
theorem HC : ∀ (bs sp : List Fo), (BM sp bs).2.length = bs.length
 | [], sp => rfl
 | b :: bs, sp => by rw [BM]; simp [HC bs]
structure Exp where
 spots : List Fo
 next : List (List Int)
 sets : List Int
noncomputable def GM (t : Tk) : Nat → Nat → List Fo → List (List Int) → List Int → Option Exp
 | 0, _, _, _, _ => none
 | f + 1, i, sp, nx, st =>
   match sp[i]? with
   | none => some ⟨sp, nx, st⟩
   | some s =>
     if 20000 < (BM sp (Ad t s.kind s.val).1).1.length then none
     else GM t f (i + 1) (BM sp (Ad t s.kind s.val).1).1 (nx ++ [(BM sp (Ad t s.kind s.val).1).2]) (st ++ [(D6 t.formula (KQ t.model t.props s.kind).1 s.val).1])
theorem Kw (t : Tk) (f i : Nat) (sp : List Fo) (nx : List (List Int)) (st : List Int) (h : sp.length ≤ i) : GM t (f + 1) i sp nx st = some ⟨sp, nx, st⟩ := by
 rw [GM, List.getElem?_eq_none h]
theorem M9 (t : Tk) (f i : Nat) (sp : List Fo) (nx : List (List Int)) (st : List Int) (h : i < sp.length) (hl : 20000 < (BM sp (Ad t sp[i].kind sp[i].val).1).1.length) : GM t (f + 1) i sp nx st = none := by
 rw [GM, List.getElem?_eq_getElem h]; exact if_pos hl
theorem Ny (t : Tk) (f i : Nat) (sp : List Fo) (nx : List (List Int)) (st : List Int) (h : i < sp.length) (hl : ¬ 20000 < (BM sp (Ad t sp[i].kind sp[i].val).1).1.length) : GM t (f + 1) i sp nx st = GM t f (i + 1) (BM sp (Ad t sp[i].kind sp[i].val).1).1 (nx ++ [(BM sp (Ad t sp[i].kind sp[i].val).1).2]) (st ++ [(D6 t.formula (KQ t.model t.props sp[i].kind).1 sp[i].val).1]) := by
 rw [GM, List.getElem?_eq_getElem h]; exact if_neg hl
noncomputable def An (t : Tk) : Option Exp × Int :=
 if BL t ≠ 0 then (none, BL t)
 else match GM t 20002 0 (A3 t).1 [] [] with
  | none => (none, 12)
  | some e => (some e, 0)
theorem QS (t : Tk) (n : Nat) : (DV t n).Nodup := by
 unfold DV
 refine List.Pairwise.map _ (fun a b h e => h ?_) ((List.nodup_range (n := n)).filter _)
 have := congrArg Fo.val e
 exact Int.ofNat.inj this
def spV (s : Fo) : Value := .agg #[.int .i64 s.kind, .int .i64 s.val]
def Fu (n : Nat) : Value := .int .i64 n
def HK (sp : List Fo) : List (Fo × Nat) := sp.zipIdx
theorem Uc (sp : List Fo) (b : Fo) : HK (sp ++ [b]) = HK sp ++ [(b, sp.length)] := by
 unfold HK; rw [List.zipIdx_append]; simp
theorem Jl (b : Fo) : ∀ (sp : List Fo) (i : Nat), getM (sp.zipIdx i) b = if b ∈ sp then some (plc b sp + i) else none
 | [], i => by simp [getM]
 | a :: sp, i => by
   have ih := Jl b sp (i + 1)
   rw [List.zipIdx_cons]
   by_cases h : a = b
   · subst h
     simp [getM, plc]
   · have hb : ¬ b = a := fun e => h e.symm
     have e : getM ((a, i) :: sp.zipIdx (i + 1)) b = getM (sp.zipIdx (i + 1)) b := by simp [getM, h]
     rw [e, ih, plc, if_neg h]
     by_cases hm : b ∈ sp
     · rw [if_pos hm, if_pos (List.mem_cons_of_mem _ hm)]; congr 1; omega
     · rw [if_neg hm, if_neg (fun k => by rcases List.mem_cons.1 k with k | k; exact hb k; exact hm k)]
theorem bD {b : Fo} {sp : List Fo} (h : b ∈ sp) : getM (HK sp) b = some (plc b sp) := by
 have := Jl b sp 0
 rw [if_pos h] at this; exact this
theorem QH {b : Fo} {sp : List Fo} (h : b ∉ sp) : getM (HK sp) b = none := by
 have := Jl b sp 0
 rw [if_neg h] at this; exact this

theorem YQ {sp : List Fo} {b c : Fo} : c ∈ Ey sp b ↔ c ∈ sp ∨ c = b := by
 unfold Ey
 by_cases h : b ∈ sp
 · rw [if_pos h]; exact ⟨.inl, fun k => k.elim id fun e => e ▸ h⟩
 · rw [if_neg h]; simp
theorem WY (sp : List Fo) (b : Fo) : ∃ r, Ey sp b = sp ++ r := by
 unfold Ey
 split
 · exact ⟨[], by simp⟩
 · exact ⟨[b], rfl⟩
theorem Im : ∀ (bs sp : List Fo), ∃ r, (BM sp bs).1 = sp ++ r
 | [], sp => ⟨[], by simp [BM]⟩
 | b :: bs, sp => by
   obtain ⟨r, h⟩ := WY sp b
   obtain ⟨r', h'⟩ := Im bs (Ey sp b)
   exact ⟨r ++ r', by rw [BM]; dsimp only; rw [h', h, List.append_assoc]⟩
theorem Ig : ∀ (bs sp : List Fo) (c : Fo), c ∈ (BM sp bs).1 ↔ c ∈ sp ∨ c ∈ bs
 | [], sp, c => by simp [BM]
 | b :: bs, sp, c => by
   rw [BM]; dsimp only
   rw [Ig bs, YQ, List.mem_cons, or_assoc]
theorem TQ {sp : List Fo} (h : sp.Nodup) (b : Fo) : (Ey sp b).Nodup := by
 unfold Ey
 by_cases hb : b ∈ sp
 · rw [if_pos hb]; exact h
 · rw [if_neg hb, List.nodup_append]
   exact ⟨h, by simp, fun x hx y hy e => by rw [List.mem_singleton.1 hy] at e; exact hb (e ▸ hx)⟩
theorem Lz : ∀ (bs : List Fo) {sp : List Fo}, sp.Nodup → (BM sp bs).1.Nodup
 | [], _, h => h
 | b :: bs, _, h => Lz bs (TQ h b)
theorem UH {b : Fo} : ∀ {l : List Fo}, b ∈ l → l[plc b l]? = some b
 | [], h => by cases h
 | a :: l, h => by
   rw [plc]
   by_cases e : a = b
   · rw [if_pos e, e]; rfl
   · rw [if_neg e, List.getElem?_cons_succ]
     exact UH ((List.mem_cons.1 h).resolve_left fun k => e k.symm)
theorem X6 (sp : List Fo) (b : Fo) : (Ey sp b)[plc b sp]? = some b := by
 unfold Ey
 by_cases h : b ∈ sp
 · rw [if_pos h]; exact UH h
 · rw [if_neg h, Tc h]; simp
theorem Th {α : Type} {a b r : List α} (h : b = a ++ r) {i : Nat} {x : α} (hx : a[i]? = some x) : b[i]? = some x := by
 rw [h, List.getElem?_append_left (List.getElem?_eq_some_iff.1 hx).1]; exact hx
theorem Rj : ∀ (bs sp : List Fo) (k : Nat) (b : Fo), bs[k]? = some b → ∃ p : Nat, (BM sp bs).2[k]? = some (p : Int) ∧ (BM sp bs).1[p]? = some b
 | [], _, k, b, h => by simp at h
 | c :: bs, sp, 0, b, h => by
   simp at h; subst h
   refine ⟨plc c sp, by simp [BM], ?_⟩
   obtain ⟨r, hr⟩ := Im bs (Ey sp c)
   exact Th hr (X6 sp c)
 | c :: bs, sp, k + 1, b, h => by
   obtain ⟨p, h1, h2⟩ := Rj bs (Ey sp c) k b (by simpa using h)
   exact ⟨p, by rw [BM]; simpa using h1, h2⟩
noncomputable def spF (t : Tk) : Nat → List Fo
 | 0 => (A3 t).1
 | i + 1 => match (spF t i)[i]? with
   | none => spF t i
   | some s => (BM (spF t i) (Ad t s.kind s.val).1).1
noncomputable def plF (t : Tk) (i : Nat) : List Int := match (spF t i)[i]? with
 | none => []
 | some s => (BM (spF t i) (Ad t s.kind s.val).1).2
noncomputable def seF (t : Tk) (i : Nat) : Int := match (spF t i)[i]? with
 | none => 0
 | some s => (D6 t.formula (KQ t.model t.props s.kind).1 s.val).1
theorem Km (t : Tk) (i : Nat) : ∀ d, ∃ r, spF t (i + d) = spF t i ++ r
 | 0 => ⟨[], by simp⟩
 | d + 1 => by
   obtain ⟨r, h⟩ := Km t i d
   rw [← Nat.add_assoc, spF]
   split
   · exact ⟨r, h⟩
   · obtain ⟨r', h'⟩ := Im _ (spF t (i + d))
     exact ⟨r ++ r', by rw [h', h, List.append_assoc]⟩
theorem Lv (t : Tk) {i j : Nat} (h : i ≤ j) : (spF t i).length ≤ (spF t j).length := by
 obtain ⟨r, hr⟩ := Km t i (j - i)
 rw [show i + (j - i) = j by omega] at hr
 rw [hr, List.length_append]; omega
theorem TP (t : Tk) {i j k : Nat} (h : i ≤ j) {s : Fo} (hs : (spF t i)[k]? = some s) : (spF t j)[k]? = some s := by
 obtain ⟨r, hr⟩ := Km t i (j - i)
 rw [show i + (j - i) = j by omega] at hr
 exact Th hr hs
theorem Dv (t : Tk) : ∀ i, (spF t i).Nodup
 | 0 => by
   unfold spF A3
   split
   · exact List.nodup_nil
   · exact QS _ _
 | i + 1 => by
   rw [spF]
   split
   · exact Dv t i
   · exact Lz _ (Dv t i)
theorem LJ (t : Tk) : ∀ (f i : Nat) (nx : List (List Int)) (st : List Int) (e : Exp), GM t f i (spF t i) nx st = some e →
 ∃ d, e = ⟨spF t (i + d), nx ++ (List.range d).map (fun j => plF t (i + j)), st ++ (List.range d).map (fun j => seF t (i + j))⟩ ∧ (spF t (i + d)).length ≤ i + d ∧ ∀ j, j < d → i + j < (spF t (i + j)).length ∧ (spF t (i + j + 1)).length ≤ 20000
 | 0, i, nx, st, e, h => by rw [GM] at h; cases h
 | f + 1, i, nx, st, e, h => by
   by_cases hi : i < (spF t i).length
   · by_cases hl : 20000 < (BM (spF t i) (Ad t (spF t i)[i].kind (spF t i)[i].val).1).1.length
     · rw [M9 t f i _ nx st hi hl] at h; cases h
     · rw [Ny t f i _ nx st hi hl] at h
       have hg : (spF t i)[i]? = some (spF t i)[i] := List.getElem?_eq_getElem hi
       have e1 : spF t (i + 1) = (BM (spF t i) (Ad t (spF t i)[i].kind (spF t i)[i].val).1).1 := by rw [spF, hg]
       have e2 : plF t i = (BM (spF t i) (Ad t (spF t i)[i].kind (spF t i)[i].val).1).2 := by rw [plF, hg]
       have e3 : seF t i = (D6 t.formula (KQ t.model t.props (spF t i)[i].kind).1 (spF t i)[i].val).1 := by rw [seF, hg]
       rw [← e1, ← e2, ← e3] at h
       rw [← e1] at hl
       obtain ⟨d, h1, h2, h3⟩ := LJ t f (i + 1) _ _ e h
       refine ⟨d + 1, ?_, by rw [show i + (d + 1) = i + 1 + d by omega]; exact h2, fun j hj => ?_⟩
       · rw [h1, show i + (d + 1) = i + 1 + d by omega]
         congr 1
         · rw [List.append_assoc]
           congr 1
           rw [List.range_succ_eq_map, List.map_cons, List.map_map]
           simp only [List.singleton_append, Nat.add_zero, List.cons.injEq, true_and]
           exact List.map_congr_left fun j _ => by show _ = plF t (i + (j + 1)); rw [show i + (j + 1) = i + 1 + j by omega]
         · rw [List.append_assoc]
           congr 1
           rw [List.range_succ_eq_map, List.map_cons, List.map_map]
           simp only [List.singleton_append, Nat.add_zero, List.cons.injEq, true_and]
           exact List.map_congr_left fun j _ => by show _ = seF t (i + (j + 1)); rw [show i + (j + 1) = i + 1 + j by omega]
       · cases j with
         | zero => exact ⟨hi, by show (spF t (i + 1)).length ≤ _; omega⟩
         | succ j =>
           have := h3 j (by omega)
           rw [show i + (j + 1) = i + 1 + j by omega]
           exact this
   · rw [Kw t f i _ nx st (by omega)] at h
     cases h
     exact ⟨0, by simp, by simpa using hi, fun j hj => absurd hj (Nat.not_lt_zero j)⟩
structure Grown (t : Tk) (e : Exp) : Prop where
 task : BL t = 0
 spots : e.spots = spF t e.spots.length
 next : e.next = (List.range e.spots.length).map (plF t)
 sets : e.sets = (List.range e.spots.length).map (seF t)
 few : e.spots.length ≤ 20000
 room : ∀ j, j < e.spots.length → j < (spF t j).length
theorem HO {t : Tk} {e : Exp} (h : An t = (some e, 0)) : Grown t e := by
 unfold An at h
 by_cases ht : BL t ≠ 0
 · rw [if_pos ht] at h; simp at h
 rw [if_neg ht] at h
 cases hx : GM t 20002 0 (A3 t).1 [] [] with
 | none => rw [hx] at h; simp at h
 | some e' =>
   rw [hx] at h
   simp only [Prod.mk.injEq, Option.some.injEq, and_true] at h
   subst h
   obtain ⟨d, h1, h2, h3⟩ := LJ t 20002 0 [] [] e' hx
   simp only [Nat.zero_add, List.nil_append] at h1 h2 h3
   have hd : (spF t d).length = d := by
    cases d with
    | zero => omega
    | succ d =>
      have h4 := (h3 d (by omega)).1
      have h5 := Lv t (i := d) (j := d + 1) (by omega)
      omega
   have hs : e'.spots = spF t d := by rw [h1]
   have hl : e'.spots.length = d := by rw [hs, hd]
   refine ⟨Decidable.not_not.1 ht, by rw [hl]; exact hs, by rw [hl, h1], by rw [hl, h1], ?_, fun j hj => (h3 j (by omega)).1⟩
   rw [hl]
   cases d with
   | zero => omega
   | succ d => have := (h3 d (by omega)).2; omega
section
variable {t : Tk} {e : Exp}
theorem Grown.at (g : Grown t e) {j : Nat} (h : j < e.spots.length) : (spF t j)[j]? = some e.spots[j] := by
 have h1 := g.room j h
 have h2 := TP t (Nat.le_of_lt h) (List.getElem?_eq_getElem h1)
 rw [← g.spots, List.getElem?_eq_getElem h] at h2
 rw [h2, List.getElem?_eq_getElem h1]
theorem Grown.step (g : Grown t e) {j : Nat} (h : j < e.spots.length) : spF t (j + 1) = (BM (spF t j) (Ad t e.spots[j].kind e.spots[j].val).1).1 ∧ plF t j = (BM (spF t j) (Ad t e.spots[j].kind e.spots[j].val).1).2 := by
 rw [spF, plF, g.at h]; exact ⟨rfl, rfl⟩
theorem Grown.get (g : Grown t e) {p : Nat} {b : Fo} (h : (spF t e.spots.length)[p]? = some b) : e.spots[p]? = some b := by
 have hs := g.spots
 generalize e.spots.length = n at hs h
 rw [hs]; exact h
theorem Grown.leads (g : Grown t e) {j : Nat} (h : j < e.spots.length) {y : Int} (hy : y ∈ plF t j) : ∃ p : Nat, y = p ∧ ∃ b, e.spots[p]? = some b ∧ b ∈ (Ad t e.spots[j].kind e.spots[j].val).1 := by
 rw [(g.step h).2] at hy
 obtain ⟨k, hk, rfl⟩ := List.getElem_of_mem hy
 have hl := HC (Ad t e.spots[j].kind e.spots[j].val).1 (spF t j)
 have hk' : k < (Ad t e.spots[j].kind e.spots[j].val).1.length := by omega
 obtain ⟨p, h1, h2⟩ := Rj (Ad t e.spots[j].kind e.spots[j].val).1 (spF t j) k _ (List.getElem?_eq_getElem hk')
 rw [List.getElem?_eq_getElem hk] at h1
 refine ⟨p, Option.some.inj h1, _, ?_, List.getElem_mem hk'⟩
 rw [← (g.step h).1] at h2
 exact g.get (TP t (by omega) h2)
theorem Grown.first (g : Grown t e) {p : Nat} (h : p < (A3 t).1.length) : e.spots[p]? = some (A3 t).1[p] :=
 g.get (TP t (i := 0) (Nat.zero_le _) (List.getElem?_eq_getElem h))
theorem Grown.init (g : Grown t e) : (A3 t).1.length ≤ e.spots.length := by
 rw [g.spots]; exact Lv t (i := 0) (Nat.zero_le _)
end

abbrev Sm (t : Tk) (b : Fo) : Prop := (0 ≤ b.kind ∧ b.kind < AQ t.model.vars) ∧ 0 ≤ b.val ∧ b.val < BK t
theorem Vn {t : Tk} (h : BL t = 0) (b : Fo) : b ∈ (A3 t).1 ↔ b.kind = Cc t.model ∧ ∃ c : Nat, b.val = c ∧ c < BK t ∧ tAt t.formula (Di t (Cc t.model)) c 0 = false := by
 unfold A3
 rw [if_neg (fun k => k h)]
 unfold DV
 rw [List.mem_map]
 constructor
 · rintro ⟨c, hc, rfl⟩
   rw [List.mem_filter, List.mem_range] at hc
   exact ⟨rfl, c, rfl, hc.1, by simpa using hc.2⟩
 · rintro ⟨h1, c, h2, h3, h4⟩
   refine ⟨c, by rw [List.mem_filter, List.mem_range]; exact ⟨h3, by simpa using h4⟩, ?_⟩
   exact Fo.ext' h1.symm h2.symm
theorem SN {t : Tk} (h : BL t = 0) {s : Fo} (hs : Sm t s) (b : Fo) : b ∈ (Ad t s.kind s.val).1 ↔ b.kind ∈ (EI t.model s.kind).1 ∧ ∃ c : Nat, b.val = c ∧ c < BK t ∧ Vp t s.kind s.val b.kind c = true := by
 unfold Ad
 rw [if_neg (fun k => k h), if_neg (fun k => k hs)]
 unfold Jd
 rw [List.mem_flatMap]
 constructor
 · rintro ⟨x, hx, hb⟩
   unfold IK at hb
   obtain ⟨c, hc, rfl⟩ := List.mem_map.1 hb
   rw [List.mem_filter, List.mem_range] at hc
   exact ⟨hx, c, rfl, hc.1, hc.2⟩
 · rintro ⟨h1, c, h2, h3, h4⟩
   refine ⟨b.kind, h1, ?_⟩
   unfold IK
   rw [List.mem_map]
   exact ⟨c, by rw [List.mem_filter, List.mem_range]; exact ⟨h3, h4⟩, Fo.ext' rfl h2.symm⟩
theorem Uq {t : Tk} (h : BL t = 0) {b : Fo} (hb : b ∈ (A3 t).1) : Sm t b := by
 obtain ⟨h1, c, h2, h3, _⟩ := (Vn h b).1 hb
 have hf := Qb (C0 h).2.2
 exact ⟨h1 ▸ hf.2, by omega, by omega⟩
theorem TL {t : Tk} (h : BL t = 0) {s b : Fo} (hb : b ∈ (Ad t s.kind s.val).1) : Sm t b := by
 by_cases hs : Sm t s
 · obtain ⟨h1, c, h2, h3, _⟩ := (SN h hs b).1 hb
   exact ⟨KD (C0 h).2.2 _ _ h1, by omega, by omega⟩
 · unfold Ad at hb
   rw [if_neg (fun k => k h), if_pos hs] at hb
   cases hb
theorem Ke {t : Tk} (h : BL t = 0) : ∀ i, ∀ b ∈ spF t i, Sm t b
 | 0, b, hb => Uq h hb
 | i + 1, b, hb => by
   rw [spF] at hb
   cases hs : (spF t i)[i]? with
   | none => rw [hs] at hb; exact Ke h i b hb
   | some s =>
     rw [hs] at hb
     rcases (Ig _ _ _).1 hb with hb | hb
     · exact Ke h i b hb
     · exact TL h hb
noncomputable def gnF (t : Tk) (e : Exp) : Gn := ⟨e.spots, (A3 t).1.length, e.next.map (·.map Int.toNat), e.sets.map Int.toNat, (Ai t.formula t.props.length).1.length⟩
section
variable {t : Tk} {e : Exp}
theorem Grown.nx (g : Grown t e) {j : Nat} (h : j < e.spots.length) (k : Nat) : k ∈ (gnF t e).nx j ↔ (k : Int) ∈ plF t j := by
 have hl : j < (gnF t e).next.length := by simp [gnF, g.next, h]
 rw [Gn.nx_get _ _ hl]
 have e1 : (gnF t e).next[j] = (plF t j).map Int.toNat := by simp [gnF, g.next]
 rw [e1, List.mem_map]
 constructor
 · rintro ⟨y, hy, rfl⟩
   obtain ⟨p, rfl, _⟩ := g.leads h hy
   simpa using hy
 · intro hk
   exact ⟨_, hk, by simp⟩
end

theorem NG (b : Fo) : ∀ (bs sp : List Fo), BM sp (bs ++ [b]) = (Ey (BM sp bs).1 b, (BM sp bs).2 ++ [(plc b (BM sp bs).1 : Int)])
 | [], sp => by simp [BM]
 | c :: bs, sp => by
   rw [List.cons_append, BM, NG b bs]
   simp [BM]
theorem Jk (bs sp : List Fo) (k : Nat) (h : k < bs.length) : BM sp (bs.take (k + 1)) = (Ey (BM sp (bs.take k)).1 bs[k], (BM sp (bs.take k)).2 ++ [(plc bs[k] (BM sp (bs.take k)).1 : Int)]) := by
 rw [List.take_succ_eq_append_getElem h, NG]
theorem NR (bs sp : List Fo) : ∀ (k d : Nat), (BM sp (bs.take k)).1.length ≤ (BM sp (bs.take (k + d))).1.length
 | k, 0 => Nat.le_refl _
 | k, d + 1 => by
   refine Nat.le_trans (NR bs sp k d) ?_
   by_cases h : k + d < bs.length
   · rw [← Nat.add_assoc, Jk bs sp (k + d) h]; exact Ph _ _
   · rw [List.take_of_length_le (by omega), List.take_of_length_le (by omega)]; exact Nat.le_refl _
structure FT (t : Tk) (i : Nat) : Prop where
 task : BL t = 0
 room : ∀ j, j < i → j < (spF t j).length ∧ (spF t (j + 1)).length ≤ 20000
theorem Jv (t : Tk) : (A3 t).1.length ≤ 64 := by
 unfold A3
 split
 · exact Nat.zero_le _
 · exact Nat.le_trans (MR t _) (Dr t).2
theorem FT.few {t : Tk} {i : Nat} (g : FT t i) : (spF t i).length ≤ 20000 := by
 cases i with
 | zero => have := Jv t; rw [spF]; omega
 | succ i => exact (g.room i (by omega)).2
theorem FT.le {t : Tk} {i : Nat} (g : FT t i) : i ≤ (spF t i).length := by
 cases i with
 | zero => exact Nat.zero_le _
 | succ i =>
   have h1 := (g.room i (by omega)).1
   have h2 := Lv t (i := i) (j := i + 1) (by omega)
   omega
theorem Pg {t : Tk} {i : Nat} (h : i < (spF t i).length) : spF t (i + 1) = (BM (spF t i) (Ad t (spF t i)[i].kind (spF t i)[i].val).1).1 ∧ plF t i = (BM (spF t i) (Ad t (spF t i)[i].kind (spF t i)[i].val).1).2 ∧ seF t i = (D6 t.formula (KQ t.model t.props (spF t i)[i].kind).1 (spF t i)[i].val).1 := by
 rw [spF, plF, seF, List.getElem?_eq_getElem h]
 exact ⟨rfl, rfl, rfl⟩
theorem FT.next {t : Tk} {i : Nat} (g : FT t i) (h : i < (spF t i).length) (hl : (spF t (i + 1)).length ≤ 20000) : FT t (i + 1) :=
 ⟨g.task, fun j hj => by
  by_cases e : j = i
  · subst e; exact ⟨h, hl⟩
  · exact g.room j (by omega)⟩
theorem QR (t : Tk) : ∀ (d f i : Nat) (nx : List (List Int)) (st : List Int), d < f → (∀ j, j < d → i + j < (spF t (i + j)).length ∧ (spF t (i + j + 1)).length ≤ 20000) →
 GM t f i (spF t i) nx st = GM t (f - d) (i + d) (spF t (i + d)) (nx ++ (List.range d).map (fun j => plF t (i + j))) (st ++ (List.range d).map (fun j => seF t (i + j)))
 | 0, f, i, nx, st, _, _ => by simp
 | d + 1, f, i, nx, st, hf, h => by
   obtain ⟨f', rfl⟩ : ∃ f', f = f' + 1 := ⟨f - 1, by omega⟩
   have h0 := h 0 (by omega)
   rw [Nat.add_zero] at h0
   obtain ⟨e1, e2, e3⟩ := Pg h0.1
   rw [Ny t f' i _ nx st h0.1 (by rw [← e1]; omega), ← e1, ← e2, ← e3]
   rw [QR t d f' (i + 1) _ _ (by omega) (fun j hj => by
    have := h (j + 1) (by omega)
    rw [show i + (j + 1) = i + 1 + j by omega] at this
    exact this)]
   rw [show f' + 1 - (d + 1) = f' - d by omega, show i + 1 + d = i + (d + 1) by omega]
   congr 1
   · rw [List.append_assoc]
     congr 1
     rw [List.range_succ_eq_map, List.map_cons, List.map_map]
     simp only [List.singleton_append, Nat.add_zero, List.cons.injEq, true_and]
     exact List.map_congr_left fun j _ => by show _ = plF t (i + (j + 1)); rw [show i + (j + 1) = i + 1 + j by omega]
   · rw [List.append_assoc]
     congr 1
     rw [List.range_succ_eq_map, List.map_cons, List.map_map]
     simp only [List.singleton_append, Nat.add_zero, List.cons.injEq, true_and]
     exact List.map_congr_left fun j _ => by show _ = seF t (i + (j + 1)); rw [show i + (j + 1) = i + 1 + j by omega]
theorem FT.run {t : Tk} {i : Nat} (g : FT t i) : GM t 20002 0 (A3 t).1 [] [] = GM t (20002 - i) i (spF t i) ((List.range i).map (plF t)) ((List.range i).map (seF t)) := by
 have h1 := g.le
 have h2 := g.few
 have := QR t i 20002 0 [] [] (by omega) (fun j hj => by rw [Nat.zero_add]; exact g.room j hj)
 simp only [Nat.zero_add, List.nil_append] at this
 exact this
theorem FT.all {t : Tk} {i : Nat} (g : FT t i) (h : (spF t i).length ≤ i) : An t = (some ⟨spF t i, (List.range i).map (plF t), (List.range i).map (seF t)⟩, 0) := by
 have h1 := g.le
 have h2 := g.few
 unfold An
 rw [if_neg (fun k => k g.task), g.run]
 obtain ⟨f, hf⟩ : ∃ f, 20002 - i = f + 1 := ⟨20001 - i, by omega⟩
 rw [hf, Kw t f i _ _ _ h]
theorem FT.full {t : Tk} {i : Nat} (g : FT t i) (h : i < (spF t i).length) (hl : 20000 < (BM (spF t i) (Ad t (spF t i)[i].kind (spF t i)[i].val).1).1.length) : An t = (none, 12) := by
 have h2 := g.few
 unfold An
 rw [if_neg (fun k => k g.task), g.run]
 obtain ⟨f, hf⟩ : ∃ f, 20002 - i = f + 1 := ⟨20001 - i, by omega⟩
 rw [hf, M9 t f i _ _ _ h hl]
noncomputable def exG (t : Tk) : Gr := match (An t).1 with
 | none => ⟨[], 0, [], [], 0⟩
 | some e => ⟨e.spots, (A3 t).1.length, e.next, e.sets, (Ai t.formula t.props.length).1.length⟩
theorem TC (t : Tk) (st cl : Int) (hm : Ag t.model = 0) : (Ad t st cl).1.length ≤ 262144 := by
 unfold Ad
 split
 · exact Nat.zero_le _
 · split
   · exact Nat.zero_le _
   · have h1 := Il t st cl (EI t.model st).1
     have h2 := NA hm st
     dsimp only
     omega

structure Sto where
 loose : List Int
 runs : List (List Int)
abbrev stA (s : Sto) : AV := .agg [.d (AK s.loose), .d (Ah s.runs)]
def EU (n : Int) : Prop := 0 ≤ n ∧ n ≤ 2147483647
instance (n : Int) : Decidable (EU n) := by unfold EU; infer_instance
def BR (s : Sto) : List Int := s.runs.flatten ++ s.loose
structure DK (s : Sto) : Prop where
 loose : s.loose.length ≤ 7
 runs : ∀ r ∈ s.runs, r ≠ [] ∧ r.Pairwise (· < ·)
 few : s.loose.length + s.runs.flatten.length ≤ 20000
 range : ∀ k ∈ BR s, EU k
 nodup : (BR s).Nodup
noncomputable def PT (s : Sto) : Int := open Classical in if DK s then 0 else 9
theorem Ob {s : Sto} (h : DK s) : PT s = 0 := if_pos h
theorem GS {s : Sto} (h : ¬ DK s) : PT s = 9 := if_neg h
theorem QE {s : Sto} : PT s = 0 ↔ DK s := by
 constructor
 · intro h
   by_cases c : DK s
   · exact c
   · rw [GS c] at h; cases h
 · exact Ob
noncomputable def Fj (s : Sto) (n : Int) : Bool × Int := if PT s ≠ 0 then (false, PT s) else if ¬ EU n then (false, 2) else (decide (n ∈ BR s), 0)
def FB (runs : List (List Int)) : Nat → List Int → List (List Int)
 | 0, last => [last]
 | k + 1, last => if ((runs[k]?).getD []).length ≤ last.length then FB runs k (A9 ((runs[k]?).getD [] ++ last)) else runs.take (k + 1) ++ [last]
noncomputable def EJ (s : Sto) (n : Int) : (Sto × Bool) × Int :=
 if (Fj s n).2 ≠ 0 then ((⟨[], []⟩, false), (Fj s n).2)
 else if (Fj s n).1 = true then ((s, false), 0)
 else if (BR s).length = 20000 then ((⟨[], []⟩, false), 12)
 else if s.loose.length + 1 < 8 then ((⟨s.loose ++ [n], s.runs⟩, true), 0)
 else ((⟨[], FB s.runs s.runs.length (A9 (s.loose ++ [n]))⟩, true), 0)
theorem HF (l : List Int) : (A9 l).Pairwise (· ≤ ·) := by
 have := List.pairwise_mergeSort (le := fun x y : Int => decide (x ≤ y)) (fun a b c h1 h2 => by simp only [decide_eq_true_eq] at *; omega) (fun a b => by simp only [Bool.or_eq_true, decide_eq_true_eq]; omega) l
 exact this.imp fun h => by simpa using h
theorem Cn (l : List Int) : (A9 l).Perm l := List.mergeSort_perm l _
theorem Ed (l : List Int) : (A9 l).length = l.length := (Cn l).length_eq
theorem U8 {a b : List Int} (ha : a.Pairwise (· ≤ ·)) (hb : b.Pairwise (· ≤ ·)) (h : a.Perm b) : a = b :=
 List.Perm.eq_of_pairwise (le := (· ≤ ·)) (fun x y _ _ h1 h2 => by omega) ha hb h
theorem XW {a l : List Int} (ha : a.Pairwise (· ≤ ·)) (h : a.Perm l) : a = A9 l := U8 ha (HF l) (h.trans (Cn l).symm)
structure fR (l : List Int) (i : Nat) (x : Int) (A B : List Int) : Prop where
 sort : A ++ B = A9 (l.take i)
 high : ∀ b ∈ B, x ≤ b
theorem fR.swap {l : List Int} {i : Nat} {x y : Int} {A B : List Int} (w : fR l i x (A ++ [y]) B) (h : x < y) : fR l i x A (y :: B) :=
 ⟨by rw [← w.sort]; simp, fun b hb => by
  rcases List.mem_cons.1 hb with rfl | hb
  · omega
  · exact w.high b hb⟩
theorem X9 {up : List Int} (hs : up.Pairwise (· ≤ ·)) (h : ∀ (j : Nat) (hj : j + 1 < up.length), up[j] ≠ up[j + 1]) : up.Pairwise (· < ·) := by
 rw [List.pairwise_iff_getElem] at hs ⊢
 intro i j hi hj hij
 obtain ⟨k, rfl⟩ : ∃ k, j = k + 1 := ⟨j - 1, by omega⟩
 have h1 := hs k (k + 1) (by omega) hj (by omega)
 have h2 := h k hj
 by_cases e : i = k
 · subst e; omega
 · have := hs i k hi (by omega) (by omega); omega
theorem ZJ {up : List Int} (h : up.Pairwise (· < ·)) : up.Nodup := h.imp fun h => by omega
theorem Ur {up : List Int} {j : Nat} (hj : j + 1 < up.length) (h : up[j] = up[j + 1]) : ¬ up.Nodup := fun hn => by
 have := (List.getElem_inj hn).1 h; omega
theorem Z0 {r : List Int} (h : ∀ (j : Nat) (hj : j + 1 < r.length), r[j] < r[j + 1]) : r.Pairwise (· < ·) := by
 rw [List.pairwise_iff_getElem]
 intro i j hi hj hij
 induction j with
 | zero => omega
 | succ j ih =>
   have h1 := h j hj
   by_cases e : i = j
   · subst e; exact h1
   · have := ih (by omega) (by omega); omega
theorem Zg {r : List Int} {j : Nat} (hj : j + 1 < r.length) (h : r[j + 1] ≤ r[j]) : ¬ r.Pairwise (· < ·) := fun hp => by
 have := (List.pairwise_iff_getElem.1 hp) j (j + 1) (by omega) hj (by omega); omega
structure J4 (s : Sto) (i : Nat) : Prop where
 le : i ≤ s.runs.length
 runs : ∀ r ∈ s.runs.take i, r ≠ [] ∧ r.Pairwise (· < ·)
 few : s.loose.length + (s.runs.take i).flatten.length ≤ 20000
theorem J4.start {s : Sto} (h : s.loose.length ≤ 7) : J4 s 0 := ⟨Nat.zero_le _, fun r hr => (by cases hr), by simp; omega⟩
theorem CZ (ls : List (List Int)) (i : Nat) (h : i < ls.length) : (ls.take (i + 1)).flatten = (ls.take i).flatten ++ ls[i] := by
 rw [List.take_succ_eq_append_getElem h, List.flatten_append]; simp
theorem J4.next {s : Sto} {i : Nat} (w : J4 s i) (hi : i < s.runs.length) (h1 : s.runs[i] ≠ []) (h2 : s.runs[i].Pairwise (· < ·)) (h3 : s.loose.length + (s.runs.take i).flatten.length + s.runs[i].length ≤ 20000) : J4 s (i + 1) :=
 ⟨hi, fun r hr => by
  rw [List.take_succ_eq_append_getElem hi] at hr
  rcases List.mem_append.1 hr with hr | hr
  · exact w.runs r hr
  · rw [List.mem_singleton.1 hr]; exact ⟨h1, h2⟩, by rw [CZ _ _ hi, List.length_append]; omega⟩
theorem DK.no_run {s : Sto} (p : DK s) {i : Nat} (hi : i < s.runs.length) : s.runs[i] ≠ [] ∧ s.runs[i].Pairwise (· < ·) := p.runs _ (List.getElem_mem hi)
theorem Tf (ls : List (List Int)) (i : Nat) : (ls.take i).flatten.length ≤ ls.flatten.length := by
 conv => rhs; rw [← List.take_append_drop i ls, List.flatten_append, List.length_append]
 omega
theorem DK.no_few {s : Sto} (p : DK s) {i : Nat} (hi : i < s.runs.length) : s.loose.length + (s.runs.take i).flatten.length + s.runs[i].length ≤ 20000 := by
 have h1 := Tf s.runs (i + 1)
 rw [CZ _ _ hi, List.length_append] at h1
 have := p.few; omega
theorem DK.of {s : Sto} (w : J4 s s.runs.length) (h7 : s.loose.length ≤ 7) (hk : ∀ k ∈ BR s, EU k) (hn : (BR s).Nodup) : DK s := by
 have h1 := w.runs
 have h2 := w.few
 rw [List.take_length] at h1 h2
 exact ⟨h7, h1, h2, hk, hn⟩
theorem keys_perm (s : Sto) : (s.loose ++ s.runs.flatten).Perm (BR s) := List.perm_append_comm
theorem Hg (s : Sto) : (BR s).length = s.loose.length + s.runs.flatten.length := by unfold BR; rw [List.length_append]; omega
structure Iv (a b : List Int) (o x y : List Int) : Prop where
 perm : (o ++ (x ++ y)).Perm (a ++ b)
 sort : o.Pairwise (· ≤ ·)
 left : x.Pairwise (· ≤ ·)
 right : y.Pairwise (· ≤ ·)
 low : ∀ u ∈ o, ∀ v ∈ x ++ y, u ≤ v
theorem Iv.start {a b : List Int} (ha : a.Pairwise (· ≤ ·)) (hb : b.Pairwise (· ≤ ·)) : Iv a b [] a b := ⟨.refl _, .nil, ha, hb, fun u hu => (by cases hu)⟩
theorem Iv.swap {a b o x y : List Int} (w : Iv a b o x y) : Iv a b o y x :=
 ⟨(List.Perm.append_left o List.perm_append_comm).trans w.perm, w.sort, w.right, w.left, fun u hu v hv => w.low u hu v (by simp at hv ⊢; exact hv.symm)⟩
theorem Iv.step {a b o x y : List Int} {u v : Int} (w : Iv a b o (u :: x) (v :: y)) (h : u ≤ v) : Iv a b (o ++ [u]) x (v :: y) := by
 have hl := List.pairwise_cons.1 w.left
 have hr := List.pairwise_cons.1 w.right
 refine ⟨by have := w.perm; simpa using this, ?_, hl.2, w.right, fun p hp q hq => ?_⟩
 · rw [List.pairwise_append]
   exact ⟨w.sort, by simp, fun p hp q hq => by rw [List.mem_singleton.1 hq]; exact w.low p hp u (by simp)⟩
 · rcases List.mem_append.1 hp with hp | hp
   · exact w.low p hp q (by simp at hq ⊢; rcases hq with h | h | h <;> simp [h])
   · rw [List.mem_singleton.1 hp]
     rcases List.mem_append.1 hq with hq | hq
     · exact hl.1 q hq
     · rcases List.mem_cons.1 hq with rfl | hq
       · exact h
       · have := hr.1 q hq; omega
theorem Iv.done {a b o x y : List Int} (w : Iv a b o x y) (h : x = [] ∨ y = []) : o ++ x ++ y = A9 (a ++ b) := by
 refine XW ?_ (by have := w.perm; rwa [← List.append_assoc] at this)
 have hxy : (x ++ y).Pairwise (· ≤ ·) := by rcases h with rfl | rfl <;> simp [w.left, w.right]
 rw [List.append_assoc, List.pairwise_append]
 exact ⟨w.sort, hxy, w.low⟩
theorem Iv.len {a b o x y : List Int} (w : Iv a b o x y) : o.length + (x.length + y.length) = a.length + b.length := by
 have := w.perm.length_eq; simp only [List.length_append] at this; omega
theorem fD {r : List Int} (h : r.Pairwise (· < ·)) : r.Pairwise (· ≤ ·) := h.imp fun h => by omega

theorem RR {l : List Int} (h : l.Nodup) : (A9 l).Pairwise (· < ·) := by
 have h2 : (A9 l).Nodup := (Cn l).nodup_iff.2 h
 exact List.Pairwise.imp (fun h => by omega) ((HF l).and h2)
theorem It (runs : List (List Int)) (k : Nat) (last : List Int) (h : k < runs.length) : FB runs (k + 1) last = if runs[k].length ≤ last.length then FB runs k (A9 (runs[k] ++ last)) else runs.take (k + 1) ++ [last] := by
 rw [FB, List.getElem?_eq_getElem h]; rfl
theorem L4 (runs : List (List Int)) : ∀ (k : Nat) (last : List Int), k ≤ runs.length → (FB runs k last).flatten.Perm ((runs.take k).flatten ++ last)
 | 0, last, _ => by simp [FB]
 | k + 1, last, h => by
   rw [It runs k last h, CZ runs k h]
   split
   · refine (L4 runs k _ (by omega)).trans ?_
     rw [List.append_assoc]
     exact List.Perm.append_left _ (Cn _)
   · rw [List.flatten_append, CZ runs k h]
     simp
theorem Ls (runs : List (List Int)) (hr : ∀ r ∈ runs, r ≠ [] ∧ r.Pairwise (· < ·)) : ∀ (k : Nat) (last : List Int), k ≤ runs.length → last ≠ [] → last.Pairwise (· < ·) → ((runs.take k).flatten ++ last).Nodup → ∀ r ∈ FB runs k last, r ≠ [] ∧ r.Pairwise (· < ·)
 | 0, last, _, h1, h2, _ => fun r h => by
   rw [FB, List.mem_singleton] at h
   rw [h]; exact ⟨h1, h2⟩
 | k + 1, last, h, h1, h2, hn => by
   rw [It runs k last h]
   rw [CZ runs k h, List.append_assoc] at hn
   have hn2 : (runs[k] ++ last).Nodup := (List.nodup_append.1 hn).2.1
   split
   · refine Ls runs hr k _ (by omega) (fun e => ?_) (RR hn2) ?_
     · have := congrArg List.length e
       rw [Ed, List.length_append, List.length_nil] at this
       exact h1 (List.length_eq_zero_iff.1 (by omega))
     · exact ((List.Perm.append_left _ (Cn _)).nodup_iff).2 hn
   · intro r hm
     rcases List.mem_append.1 hm with hm | hm
     · exact hr r (List.mem_of_mem_take hm)
     · rw [List.mem_singleton.1 hm]; exact ⟨h1, h2⟩
theorem DK.perm {s : Sto} {l : List Int} (h7 : s.loose.length ≤ 7) (hr : ∀ r ∈ s.runs, r ≠ [] ∧ r.Pairwise (· < ·)) (hp : (BR s).Perm l) (hl : l.length ≤ 20000) (hk : ∀ k ∈ l, EU k) (hn : l.Nodup) : DK s :=
 ⟨h7, hr, by rw [← Hg, hp.length_eq]; exact hl, fun k h => hk k (hp.mem_iff.1 h), hp.nodup_iff.2 hn⟩
theorem Tn {s : Sto} (p : DK s) {n : Int} (hk : EU n) : Fj s n = (decide (n ∈ BR s), 0) := by
 unfold Fj
 rw [if_neg (fun h => h (Ob p)), if_neg (fun h => h hk)]
theorem Zb {s : Sto} (p : DK s) {n : Int} (hk : EU n) (hn : n ∉ BR s) (hl : (BR s).length < 20000) : ∃ s', EJ s n = ((s', true), 0) ∧ DK s' ∧ (BR s').Perm (BR s ++ [n]) := by
 have h0 : Fj s n = (false, 0) := by rw [Tn p hk, decide_eq_false hn]
 have hd : (BR s ++ [n]).Nodup := by
  rw [List.nodup_append]
  exact ⟨p.nodup, by simp, fun a ha b hb e => by rw [List.mem_singleton.1 hb] at e; exact hn (e ▸ ha)⟩
 have hr : ∀ k ∈ BR s ++ [n], EU k := fun k h => by
  rcases List.mem_append.1 h with h | h
  · exact p.range k h
  · rw [List.mem_singleton.1 h]; exact hk
 have hL : (BR s ++ [n]).length ≤ 20000 := by rw [List.length_append]; simp only [List.length_singleton]; omega
 unfold EJ
 rw [if_neg (by rw [h0]; simp), if_neg (by rw [h0]; simp), if_neg (by omega)]
 by_cases c : s.loose.length + 1 < 8
 · rw [if_pos c]
   have hp : (BR ⟨s.loose ++ [n], s.runs⟩).Perm (BR s ++ [n]) := by simp [BR]
   exact ⟨_, rfl, DK.perm (by simp; omega) p.runs hp hL hr hd, hp⟩
 · rw [if_neg c]
   have h1 := L4 s.runs s.runs.length (A9 (s.loose ++ [n])) (Nat.le_refl _)
   rw [List.take_length] at h1
   have hp : (BR ⟨[], FB s.runs s.runs.length (A9 (s.loose ++ [n]))⟩).Perm (BR s ++ [n]) := by
    simp only [BR, List.append_nil]
    rw [List.append_assoc]
    exact h1.trans (List.Perm.append_left _ (Cn _))
   have hd2 : (s.runs.flatten ++ (s.loose ++ [n])).Nodup := by rw [← List.append_assoc]; exact hd
   refine ⟨_, rfl, DK.perm (Nat.zero_le _) (Ls s.runs p.runs s.runs.length _ (Nat.le_refl _) (fun e => ?_) (RR (List.nodup_append.1 hd2).2.1) ?_) hp hL hr hd, hp⟩
   · have := congrArg List.length e
     rw [Ed, List.length_append, List.length_nil] at this
     simp at this
   · rw [List.take_length]
     exact ((List.Perm.append_left _ (Cn _)).nodup_iff).2 hd2
theorem Y4 {s : Sto} {n : Int} (h : (Fj s n).2 = 0) : DK s := by
 unfold Fj at h
 by_cases c : PT s ≠ 0
 · rw [if_pos c] at h; exact absurd h c
 · exact QE.1 (Decidable.not_not.1 c)
theorem DK.nil : DK ⟨[], []⟩ := ⟨Nat.zero_le _, fun r h => (by cases h), Nat.zero_le _, fun k h => (by simp [BR] at h), by simp [BR]⟩
structure PkI (runs : List (List Int)) (L0 : List Int) (m : Nat) (last : List Int) : Prop where
 le : m ≤ runs.length
 up : last.Pairwise (· ≤ ·)
 pk : FB runs runs.length L0 = FB runs m last
 few : last.length + (runs.take m).flatten.length ≤ 30000
theorem PkI.zero {runs : List (List Int)} {L0 last : List Int} (h : PkI runs L0 0 last) : FB runs runs.length L0 = [last] := h.pk
theorem PkI.stop {runs : List (List Int)} {L0 last : List Int} {m : Nat} (h : PkI runs L0 (m + 1) last) (hl : ¬ (runs[m]'h.le).length ≤ last.length) : FB runs runs.length L0 = runs.take (m + 1) ++ [last] := by
 rw [h.pk, It runs m last h.le, if_neg hl]
theorem PkI.next {runs : List (List Int)} {L0 last : List Int} {m : Nat} (h : PkI runs L0 (m + 1) last) (hl : (runs[m]'h.le).length ≤ last.length) : PkI runs L0 m (A9 (runs[m]'h.le ++ last)) := by
 have h1 := h.le
 have h2 := h.few
 rw [CZ runs m h1, List.length_append] at h2
 refine ⟨by omega, HF _, by rw [h.pk, It runs m last h1, if_pos hl], ?_⟩
 rw [Ed, List.length_append]; omega

def CU (s : Fo) : Int := s.kind * 64 + s.val
def fC (n : Int) : Fo := ⟨n / 64, n % 64⟩
def CX (s : Fo) : Prop := (0 ≤ s.kind ∧ s.kind < 4096) ∧ 0 ≤ s.val ∧ s.val < 64
theorem key_inj {a b : Fo} (ha : CX a) (hb : CX b) (h : CU a = CU b) : a = b := by
 obtain ⟨⟨a1, a2⟩, a3, a4⟩ := ha
 obtain ⟨⟨b1, b2⟩, b3, b4⟩ := hb
 unfold CU at h
 exact Fo.ext' (by omega) (by omega)
theorem YB {a : Fo} (ha : CX a) : fC (CU a) = a := by
 obtain ⟨⟨a1, a2⟩, a3, a4⟩ := ha
 exact Fo.ext' (show (a.kind * 64 + a.val) / 64 = a.kind by omega) (show (a.kind * 64 + a.val) % 64 = a.val by omega)
theorem SW {a : Fo} (ha : CX a) : EU (CU a) := by
 obtain ⟨⟨a1, a2⟩, a3, a4⟩ := ha
 unfold CU EU; omega
structure HN (s : Sto) (l : List Fo) : Prop where
 ok : DK s
 keys : (BR s).Perm (l.map CU)
theorem HN.nil : HN ⟨[], []⟩ [] := ⟨DK.nil, by simp [BR]⟩
theorem HN.mem {s : Sto} {l : List Fo} (h : HN s l) {x : Fo} (hx : CX x) (hl : ∀ b ∈ l, CX b) : CU x ∈ BR s ↔ x ∈ l := by
 rw [h.keys.mem_iff, List.mem_map]
 exact ⟨fun ⟨b, hb, e⟩ => key_inj (hl b hb) hx e ▸ hb, fun hb => ⟨x, hb, rfl⟩⟩
theorem HN.add {s : Sto} {l : List Fo} (h : HN s l) {x : Fo} (hx : CX x) (hl : ∀ b ∈ l, CX b) (hn : x ∉ l) (hL : l.length < 20000) : ∃ s', EJ s (CU x) = ((s', true), 0) ∧ HN s' (l ++ [x]) := by
 obtain ⟨s', e, p, q⟩ := Zb h.ok (SW hx) (fun k => hn ((h.mem hx hl).1 k)) (by rw [h.keys.length_eq, List.length_map]; exact hL)
 exact ⟨s', e, p, q.trans (by rw [List.map_append]; exact h.keys.append_right _)⟩
theorem HN.has {s : Sto} {l : List Fo} (h : HN s l) {x : Fo} (hx : CX x) (hl : ∀ b ∈ l, CX b) : Fj s (CU x) = (decide (x ∈ l), 0) := by
 rw [Tn h.ok (SW hx)]
 exact Prod.ext (decide_eq_decide.2 (h.mem hx hl)) rfl
structure Ou where
 up : Bool
 found : Int
 thr : Int
 safe : Int
 again : Int
 done : Bool
 holds : Bool
abbrev ouA (o : Ou) : AV := .agg [.bool o.up, .int o.found, .int o.thr, .int o.safe, .int o.again, .bool o.done, .bool o.holds]
def Tx : Ou := ⟨false, 0, 0, 0, 0, false, false⟩
open Go.Av

def Ra : List UInt8 → Int → Int
 | [], s => s
 | c :: r, s => Ra r ((s * 257 + c.toNat) % 2147483629)
def sumOf (l : List UInt8) : Int := Ra l 1
theorem aU (l : List UInt8) (i : Nat) (hi : i < l.length) (s : Int) : Ra (l.drop i) s = Ra (l.drop (i + 1)) ((s * 257 + l[i].toNat) % 2147483629) := by
 rw [List.drop_eq_getElem_cons hi]; rfl
theorem ZB (l : List UInt8) (i : Nat) (hi : l.length ≤ i) (s : Int) : Ra (l.drop i) s = s := by rw [List.drop_eq_nil_of_le hi]; rfl
theorem LY : ∀ (l : List UInt8) (s : Int), 0 ≤ s → s < 2147483629 → 0 ≤ Ra l s ∧ Ra l s < 2147483629
 | [], s, h1, h2 => ⟨h1, h2⟩
 | c :: r, s, h1, h2 => LY r _ (Int.emod_nonneg _ (by decide)) (Int.emod_lt_of_pos _ (by decide))
theorem Pn (l : List UInt8) : 0 ≤ sumOf l ∧ sumOf l < 2147483629 := LY l 1 (by decide) (by decide)

def Lm : List Fo → Int
 | [] => 0
 | m :: r => if m.kind < 1 ∨ 4 < m.kind then 13 else if m.val < 0 ∨ 2147483647 < m.val then 2 else Lm r
def Hy (l : List Fo) : Int := if 5000 < l.length then 1 else Lm l
theorem ax (l : List Fo) (i : Nat) (hi : i < l.length) : Lm (l.drop i) = if l[i].kind < 1 ∨ 4 < l[i].kind then 13 else if l[i].val < 0 ∨ 2147483647 < l[i].val then 2 else Lm (l.drop (i + 1)) := by
 rw [List.drop_eq_getElem_cons hi]; rfl
theorem Xp (l : List Fo) (i : Nat) (hi : l.length ≤ i) : Lm (l.drop i) = 0 := by rw [List.drop_eq_nil_of_le hi]; rfl

structure Tp where
 data : List UInt8
 synced : Int
abbrev tpA (t : Tp) : AV := .agg [.d (B0 t.data), .int t.synced]
def DD : Tp := ⟨[], 0⟩
def EO (t : Tp) : Prop := t.data.length ≤ 1048576 ∧ 0 ≤ t.synced ∧ t.synced ≤ t.data.length
instance (t : Tp) : Decidable (EO t) := by unfold EO; infer_instance
def L7 (t : Tp) : Tp × Int := if EO t then (⟨t.data, t.data.length⟩, 0) else (DD, 9)
def EX (t : Tp) (keep : Int) : Tp × Int :=
 if ¬ EO t then (DD, 9) else if keep < 0 then (DD, 2)
 else (⟨t.data.take (t.synced + min keep (t.data.length - t.synced)).toNat, t.synced + min keep (t.data.length - t.synced)⟩, 0)

def b4 (n : Int) : List UInt8 := [UInt8.ofInt (n / 16777216), UInt8.ofInt (n / 65536), UInt8.ofInt (n / 256), UInt8.ofInt n]
theorem GA (n : Int) : (b4 n).length = 4 := rfl
def CO (l : List Int) : Prop := ∀ n ∈ l, 0 ≤ n ∧ n ≤ 2147483647
instance (l : List Int) : Decidable (CO l) := by unfold CO; infer_instance
def Fc (l : List Int) (i : Nat) : List UInt8 := b4 l.length ++ (l.take i).flatMap b4
def FW (l : List Int) : List UInt8 := Fc l l.length
def Ao (l : List Int) : List UInt8 := FW l ++ b4 (sumOf (FW l))
def Mm (l : List Int) : List UInt8 × Int := if 4000 < l.length then ([], 1) else if CO l then (Ao l, 0) else ([], 2)
theorem Ik : ∀ l : List Int, (l.flatMap b4).length = 4 * l.length
 | [] => rfl
 | n :: r => by rw [List.flatMap_cons, List.length_append, Ik r, GA, List.length_cons]; omega
theorem I7 (l : List Int) (i : Nat) (hi : i ≤ l.length) : (Fc l i).length = 4 + 4 * i := by
 rw [Fc, List.length_append, Ik, GA, List.length_take]; omega
theorem TR (l : List Int) : Fc l 0 = b4 l.length := by simp [Fc]
theorem TH (l : List Int) (i : Nat) (hi : i < l.length) : Fc l (i + 1) = Fc l i ++ b4 l[i] := by
 unfold Fc
 rw [List.take_succ_eq_append_getElem hi, List.flatMap_append, List.append_assoc]
 simp
theorem EA (l : List Int) : (Ao l).length = 8 + 4 * l.length := by
 rw [Ao, List.length_append, FW, I7 _ _ (Nat.le_refl _), GA]; omega
theorem Pc (l : List Int) : CO (l.take 0) := by simp [CO]
theorem Py (l : List Int) (i : Nat) (hi : i < l.length) (h : CO (l.take i)) (h2 : 0 ≤ l[i] ∧ l[i] ≤ 2147483647) : CO (l.take (i + 1)) := by
 rw [List.take_succ_eq_append_getElem hi]
 intro n hn
 rcases List.mem_append.1 hn with hn | hn
 · exact h n hn
 · rw [List.mem_singleton.1 hn]; exact h2
theorem Uk (l : List Int) (i : Nat) (hi : i < l.length) (h : l[i] < 0 ∨ 2147483647 < l[i]) : ¬ CO l := by
 intro hk
 have := hk l[i] (List.getElem_mem _)
 omega
theorem SB (l : List Int) (i : Nat) (hi : l.length ≤ i) (h : CO (l.take i)) : CO l := by rwa [List.take_of_length_le hi] at h
def DR (t : Tp) (l : List Int) : Tp × Int :=
 if ¬ EO t then (DD, 9)
 else if (Mm l).2 ≠ 0 then (DD, (Mm l).2)
 else if 1048576 < t.data.length + (Mm l).1.length then (DD, 12)
 else (⟨t.data ++ (Mm l).1, t.synced⟩, 0)
theorem WQ {t : Tp} {l : List Int} (hm : EO t) (h : 4000 < l.length) : DR t l = (DD, 1) := by
 have e : Mm l = ([], 1) := by rw [Mm, if_pos h]
 rw [DR, if_neg (fun h => h hm), e]; rfl
theorem VX {t : Tp} {l : List Int} (hm : EO t) (h : ¬ 4000 < l.length) (h2 : ¬ CO l) : DR t l = (DD, 2) := by
 have e : Mm l = ([], 2) := by rw [Mm, if_neg h, if_neg h2]
 rw [DR, if_neg (fun h => h hm), e]; rfl
theorem UE {l : List Int} (h : ¬ 4000 < l.length) (h2 : CO l) : Mm l = (Ao l, 0) := by rw [Mm, if_neg h, if_pos h2]
theorem LV {t : Tp} {l : List Int} (hm : EO t) (h : ¬ 4000 < l.length) (h2 : CO l) (h3 : 1048576 < t.data.length + (Ao l).length) : DR t l = (DD, 12) := by
 rw [DR, if_neg (fun h => h hm), UE h h2, if_neg (by simp), if_pos h3]
theorem LM {t : Tp} {l : List Int} (hm : EO t) (h : ¬ 4000 < l.length) (h2 : CO l) (h3 : ¬ 1048576 < t.data.length + (Ao l).length) : DR t l = (⟨t.data ++ Ao l, t.synced⟩, 0) := by
 rw [DR, if_neg (fun h => h hm), UE h h2, if_neg (by simp), if_neg h3]

def at8 (b : List UInt8) (i : Nat) : Int := (((b[i]?).getD 0).toNat : Int)
def g4 (b : List UInt8) (i : Nat) : Int := 16777216 * at8 b i + 65536 * at8 b (i + 1) + 256 * at8 b (i + 2) + at8 b (i + 3)
theorem DE (b : List UInt8) (i : Nat) : 0 ≤ at8 b i ∧ at8 b i ≤ 255 := by
 have := ((b[i]?).getD 0).toNat_lt
 unfold at8
 omega
theorem HQ (b : List UInt8) (i : Nat) : 0 ≤ g4 b i ∧ g4 b i ≤ 4294967295 := by
 have h0 := DE b i
 have h1 := DE b (i + 1)
 have h2 := DE b (i + 2)
 have h3 := DE b (i + 3)
 unfold g4
 omega
theorem FY (b : List UInt8) (i : Nat) (h : i < b.length) : at8 b i = (b[i].toNat : Int) := by simp [at8, List.getElem?_eq_getElem h]
theorem Xx (b : List UInt8) (k i : Nat) : at8 (b.drop k) i = at8 b (k + i) := by simp [at8, List.getElem?_drop]
theorem Gb (b : List UInt8) (k i : Nat) : g4 (b.drop k) i = g4 b (k + i) := by simp [g4, Xx, Nat.add_assoc]
def Dk (b : List UInt8) (at_ n : Nat) : List Int := (List.range n).map fun i => g4 b (at_ + 4 * i)
theorem JR (b : List UInt8) (a n : Nat) : (Dk b a n).length = n := by simp [Dk]
theorem IS (b : List UInt8) (a n : Nat) : Dk b a (n + 1) = Dk b a n ++ [g4 b (a + 4 * n)] := by simp [Dk, List.range_succ]
def wholeAt (b : List UInt8) : Prop :=
 4 ≤ b.length ∧ g4 b 0 ≤ 4000 ∧ 8 + 4 * (g4 b 0).toNat ≤ b.length ∧ g4 b (4 + 4 * (g4 b 0).toNat) = sumOf (b.take (4 + 4 * (g4 b 0).toNat)) ∧ CO (Dk b 4 (g4 b 0).toNat)
instance (b : List UInt8) : Decidable (wholeAt b) := by unfold wholeAt; infer_instance
def BG (b : List UInt8) : List Int × Nat := (Dk b 4 (g4 b 0).toNat, 8 + 4 * (g4 b 0).toNat)
def Gg : Nat → List UInt8 → List (List Int) × Nat
 | 0, _ => ([], 0)
 | f + 1, b => if wholeAt b then ((BG b).1 :: (Gg f (b.drop (BG b).2)).1, (BG b).2 + (Gg f (b.drop (BG b).2)).2) else ([], 0)
def Cz (b : List UInt8) : List (List Int) × Nat := Gg b.length b
theorem Gx {b : List UInt8} (h : wholeAt b) : (BG b).2 ≤ b.length ∧ 8 ≤ (BG b).2 := ⟨h.2.2.1, by simp [BG]⟩
theorem MS : ∀ (f g : Nat) (b : List UInt8), b.length ≤ f → b.length ≤ g → Gg f b = Gg g b
 | 0, 0, _, _, _ => rfl
 | 0, g + 1, b, h, _ => by
   have : ¬ wholeAt b := fun hw => by have := hw.1; omega
   simp [Gg, this]
 | f + 1, 0, b, _, h => by
   have : ¬ wholeAt b := fun hw => by have := hw.1; omega
   simp [Gg, this]
 | f + 1, g + 1, b, h1, h2 => by
   unfold Gg
   by_cases hw : wholeAt b
   · obtain ⟨q1, q2⟩ := Gx hw
     rw [if_pos hw, if_pos hw, MS f g (b.drop (BG b).2) (by rw [List.length_drop]; omega) (by rw [List.length_drop]; omega)]
   · rw [if_neg hw, if_neg hw]
theorem J8 {b : List UInt8} (h : wholeAt b) : Cz b = ((BG b).1 :: (Cz (b.drop (BG b).2)).1, (BG b).2 + (Cz (b.drop (BG b).2)).2) := by
 obtain ⟨q1, q2⟩ := Gx h
 unfold Cz
 have e : b.length = (b.length - 1) + 1 := by omega
 rw [e, Gg, if_pos h, MS (b.length - 1) (b.drop (BG b).2).length _ (by rw [List.length_drop]; omega) (Nat.le_refl _)]
theorem LX {b : List UInt8} (h : ¬ wholeAt b) : Cz b = ([], 0) := by
 unfold Cz
 cases b.length with
 | zero => rfl
 | succ n => rw [Gg, if_neg h]
theorem RU : ∀ (f : Nat) (b : List UInt8), (Gg f b).2 ≤ b.length
 | 0, _ => Nat.zero_le _
 | f + 1, b => by
   unfold Gg
   by_cases hw : wholeAt b
   · obtain ⟨q1, q2⟩ := Gx hw
     rw [if_pos hw]
     have := RU f (b.drop (BG b).2)
     rw [List.length_drop] at this
     dsimp only
     omega
   · rw [if_neg hw]; exact Nat.zero_le _
theorem XF (b : List UInt8) : (Cz b).2 ≤ b.length := RU _ b
def Lo (b : List UInt8) (l : List (List Int)) (a : Nat) : Prop := a ≤ b.length ∧ Cz b = (l ++ (Cz (b.drop a)).1, a + (Cz (b.drop a)).2)
theorem Qv (b : List UInt8) : Lo b [] 0 := ⟨Nat.zero_le _, by simp⟩
theorem Qe {b : List UInt8} {l : List (List Int)} {a : Nat} (h : Lo b l a) (hw : wholeAt (b.drop a)) : Lo b (l ++ [(BG (b.drop a)).1]) (a + (BG (b.drop a)).2) := by
 have q := Gx hw
 rw [List.length_drop] at q
 refine ⟨by have := h.1; omega, ?_⟩
 rw [h.2, J8 hw, List.drop_drop]
 simp [Nat.add_assoc]
theorem TW {b : List UInt8} {l : List (List Int)} {a : Nat} (h : Lo b l a) (hw : ¬ wholeAt (b.drop a)) : Cz b = (l, a) := by
 rw [h.2, LX hw]; simp
def GZ (t : Tp) : (List (List Int) × Int) × Int := if EO t then (((Cz t.data).1, ((Cz t.data).2 : Int)), 0) else (([], 0), 9)
def Fy (t : Tp) : Tp × Int := if EO t then (⟨t.data.take (Cz t.data).2, min t.synced (Cz t.data).2⟩, 0) else (DD, 9)

theorem Kc {a b : UInt8} (h : (a.toNat : Int) = b.toNat) : a = b := UInt8.toNat_inj.1 (by omega)
theorem YJ (b : List UInt8) (i : Nat) (h : i + 4 ≤ b.length) : b4 (g4 b i) = (b.drop i).take 4 := by
 have e0 := FY b i (by omega)
 have e1 := FY b (i + 1) (by omega)
 have e2 := FY b (i + 2) (by omega)
 have e3 := FY b (i + 3) (by omega)
 have h0 := DE b i
 have h1 := DE b (i + 1)
 have h2 := DE b (i + 2)
 have h3 := DE b (i + 3)
 rw [List.drop_eq_getElem_cons (by omega), List.drop_eq_getElem_cons (by omega), List.drop_eq_getElem_cons (by omega), List.drop_eq_getElem_cons (by omega)]
 simp only [List.take_succ_cons, List.take_zero, b4, g4]
 refine congr (congrArg List.cons (Kc ?_)) (congr (congrArg List.cons (Kc ?_)) (congr (congrArg List.cons (Kc ?_)) (congr (congrArg List.cons (Kc ?_)) rfl)))
 · rw [B4]; (try simp only [Nat.add_assoc, Nat.reduceAdd]); omega
 · rw [B4]; (try simp only [Nat.add_assoc, Nat.reduceAdd]); omega
 · rw [B4]; (try simp only [Nat.add_assoc, Nat.reduceAdd]); omega
 · rw [B4]; (try simp only [Nat.add_assoc, Nat.reduceAdd]); omega
theorem Tg (n : Int) (h0 : 0 ≤ n) (h1 : n ≤ 4294967295) (r : List UInt8) : g4 (b4 n ++ r) 0 = n := by
 have e0 := B4 (n / 16777216)
 have e1 := B4 (n / 65536)
 have e2 := B4 (n / 256)
 have e3 := B4 n
 simp only [g4, at8, b4, List.cons_append, List.nil_append, List.getElem?_cons_zero, List.getElem?_cons_succ, Nat.zero_add, Option.getD_some]
 rw [e0, e1, e2, e3]
 omega
theorem Lg (b : List UInt8) : ∀ (n a : Nat), a + 4 * n ≤ b.length → (Dk b a n).flatMap b4 = (b.drop a).take (4 * n)
 | 0, a, _ => by simp [Dk]
 | n + 1, a, h => by
   rw [IS, List.flatMap_append, Lg b n a (by omega), List.flatMap_singleton, YJ b _ (by omega)]
   rw [show 4 * (n + 1) = 4 * n + 4 by omega, List.take_add, List.drop_drop]
theorem bj (b : List UInt8) (i k : Nat) (h : i + 4 ≤ k) : g4 (b.take k) i = g4 b i := by
 have : ∀ j, j < k → at8 (b.take k) j = at8 b j := fun j hj => by simp [at8, List.getElem?_take, hj]
 unfold g4
 rw [this i (by omega), this (i + 1) (by omega), this (i + 2) (by omega), this (i + 3) (by omega)]
theorem WM (b : List UInt8) (h4 : 4 ≤ b.length) (hn : g4 b 0 ≤ 4000) (hl : 8 + 4 * (g4 b 0).toNat ≤ b.length) :
 wholeAt b ↔ CO (Dk b 4 (g4 b 0).toNat) ∧ Ao (Dk b 4 (g4 b 0).toNat) = b.take (8 + 4 * (g4 b 0).toNat) := by
 have hg := HQ b 0
 have hbody : FW (Dk b 4 (g4 b 0).toNat) = b.take (4 + 4 * (g4 b 0).toNat) := by
  unfold FW Fc
  rw [List.take_of_length_le (Nat.le_refl _), JR, Int.toNat_of_nonneg hg.1, Lg b _ 4 (by omega), YJ b 0 (by omega), List.drop_zero, List.take_add]
 have hall : Ao (Dk b 4 (g4 b 0).toNat) = b.take (4 + 4 * (g4 b 0).toNat) ++ b4 (sumOf (b.take (4 + 4 * (g4 b 0).toNat))) := by rw [Ao, hbody]
 have hs := Pn (b.take (4 + 4 * (g4 b 0).toNat))
 have htake : b.take (8 + 4 * (g4 b 0).toNat) = b.take (4 + 4 * (g4 b 0).toNat) ++ b4 (g4 b (4 + 4 * (g4 b 0).toNat)) := by
  rw [YJ b _ (by omega), ← List.take_add]; congr 1; omega
 constructor
 · rintro ⟨_, _, _, q4, q5⟩
   exact ⟨q5, by rw [hall, htake, q4]⟩
 · rintro ⟨q5, q⟩
   refine ⟨h4, hn, hl, ?_, q5⟩
   rw [hall, htake] at q
   have q' := List.append_cancel_left q
   have e1 := Tg (sumOf (b.take (4 + 4 * (g4 b 0).toNat))) hs.1 (by omega) []
   have e2 := Tg (g4 b (4 + 4 * (g4 b 0).toNat)) (HQ _ _).1 (HQ _ _).2 []
   rw [List.append_nil] at e1 e2
   rw [← e1, q', e2]

theorem Fq {t : Tk} (h : BL t = 0) (i : Nat) : ∀ b ∈ spF t i, CX b := fun b hb => by
 obtain ⟨⟨h1, h2⟩, h3, h4⟩ := Ke h i b hb
 obtain ⟨n, hn, n1, n2⟩ := FC (C0 h).2.2
 have h5 := (Dr t).2
 unfold CX
 exact ⟨⟨h1, by omega⟩, h3, by omega⟩
def wr (L : List (List Int)) : List UInt8 := L.flatMap Ao
def HT : List (List Int) → Nat → Nat
 | [], _ => 0
 | l :: L, p => if (Ao l).length ≤ p then HT L (p - (Ao l).length) + 1 else 0
def goodRc (l : List Int) : Prop := l.length ≤ 4000 ∧ CO l
theorem Nl : ∀ (l : List Int) (r : List UInt8), CO l → (List.range l.length).map (fun i => g4 (l.flatMap b4 ++ r) (4 * i)) = l
 | [], _, _ => rfl
 | n :: l, r, h => by
   have hn := h n List.mem_cons_self
   have ih := Nl l r fun m hm => h m (List.mem_cons_of_mem _ hm)
   rw [List.length_cons, List.range_succ_eq_map, List.map_cons, List.map_map, List.flatMap_cons, List.append_assoc]
   refine congr (congrArg List.cons (Tg n hn.1 (by omega) _)) ?_
   · refine Eq.trans (List.map_congr_left fun i _ => ?_) ih
     have := Gb (b4 n ++ (l.flatMap b4 ++ r)) 4 (4 * i)
     rw [List.drop_left' (GA n)] at this
     show g4 (b4 n ++ (l.flatMap b4 ++ r)) (4 * (i + 1)) = _
     rw [this, Nat.mul_succ, Nat.add_comm]
theorem Nb (l : List Int) (r : List UInt8) : Ao l ++ r = b4 l.length ++ (l.flatMap b4 ++ (b4 (sumOf (FW l)) ++ r)) := by
 unfold Ao
 conv => lhs; arg 1; arg 1; rw [FW, Fc, List.take_length]
 simp only [List.append_assoc]
theorem Xm {l : List Int} (h : goodRc l) (r : List UInt8) : g4 (Ao l ++ r) 0 = l.length := by
 rw [Nb]; have := h.1; exact Tg _ (by omega) (by omega) _
theorem Yc {l : List Int} (h : goodRc l) (r : List UInt8) : Dk (Ao l ++ r) 4 l.length = l := by
 unfold Dk
 refine Eq.trans (List.map_congr_left fun i _ => ?_) (Nl l (b4 (sumOf (FW l)) ++ r) h.2)
 rw [← Gb, Nb, List.drop_left' (GA _)]
theorem UW {l : List Int} (h : goodRc l) (r : List UInt8) : wholeAt (Ao l ++ r) ∧ BG (Ao l ++ r) = (l, (Ao l).length) := by
 have e := Xm h r
 have hl := EA l
 have h1 := h.1
 have hf := Yc h r
 constructor
 · rw [WM _ (by rw [List.length_append]; omega) (by rw [e]; omega) (by rw [e, List.length_append]; omega), e, Int.toNat_natCast, hf]
   exact ⟨h.2, by rw [← hl, List.take_left]⟩
 · unfold BG
   rw [e, Int.toNat_natCast, hf, hl]
theorem ZP {l : List Int} (h : goodRc l) (r : List UInt8) {p : Nat} (hp : p < (Ao l).length) : ¬ wholeAt ((Ao l ++ r).take p) := fun hw => by
 have h4 := hw.1
 have hl := EA l
 have h3 := hw.2.2.1
 rw [List.length_take] at h4 h3
 rw [bj _ 0 p (by omega), Xm h r, Int.toNat_natCast] at h3
 omega
theorem QJ : ∀ (L : List (List Int)), (∀ l ∈ L, goodRc l) → ∀ p, Cz ((wr L).take p) = (L.take (HT L p), (wr (L.take (HT L p))).length)
 | [], _, p => by
   rw [show wr [] = [] from rfl, List.take_nil, LX (fun hw => by have := hw.1; simp at this)]
   rfl
 | l :: L, h, p => by
   have hg := h l List.mem_cons_self
   have ih := QJ L fun m hm => h m (List.mem_cons_of_mem _ hm)
   rw [show wr (l :: L) = Ao l ++ wr L from List.flatMap_cons]
   rw [HT]
   by_cases c : (Ao l).length ≤ p
   · obtain ⟨q, rfl⟩ : ∃ q, p = (Ao l).length + q := ⟨p - (Ao l).length, by omega⟩
     obtain ⟨w1, w2⟩ := UW hg ((wr L).take q)
     rw [if_pos c, List.take_length_add_append, J8 w1, w2, List.drop_left, ih q, Nat.add_sub_cancel_left, List.take_succ_cons]
     rw [show wr (l :: L.take (HT L q)) = Ao l ++ wr (L.take (HT L q)) from List.flatMap_cons, List.length_append]
   · rw [if_neg c, LX (ZP hg _ (by omega))]
     rfl
theorem X5 : ∀ (L : List (List Int)) (p : Nat), HT L p ≤ L.length
 | [], _ => Nat.le_refl _
 | l :: L, p => by
   rw [HT]; split
   · have := X5 L (p - (Ao l).length); rw [List.length_cons]; omega
   · exact Nat.zero_le _
theorem W5 : ∀ (L : List (List Int)) (p : Nat), (wr (L.take (HT L p))).length ≤ p
 | [], _ => Nat.zero_le _
 | l :: L, p => by
   rw [HT]; split
   · have := W5 L (p - (Ao l).length)
     rw [List.take_succ_cons, show wr (l :: L.take (HT L (p - (Ao l).length))) = Ao l ++ wr (L.take (HT L (p - (Ao l).length))) from List.flatMap_cons, List.length_append]
     omega
   · exact Nat.zero_le _
theorem Tq : ∀ (L : List (List Int)) (p : Nat), HT L p < L.length → p < (wr (L.take (HT L p + 1))).length
 | [], _, h => absurd h (Nat.not_lt_zero _)
 | l :: L, p, h => by
   rw [HT] at h ⊢
   rw [List.take_succ_cons, show ∀ M, wr (l :: M) = Ao l ++ wr M from fun M => List.flatMap_cons, List.length_append]
   by_cases c : (Ao l).length ≤ p
   · rw [if_pos c] at h ⊢
     rw [List.length_cons] at h
     have := Tq L (p - (Ao l).length) (by omega)
     omega
   · rw [if_neg c]; omega

noncomputable def nkF (t : Tk) (i : Nat) : Nat := (spF t i).length
noncomputable def newK (t : Tk) (i : Nat) : List Int := ((spF t (i + 1)).drop (nkF t i)).map CU
noncomputable def Fm (t : Tk) (i : Nat) : List Int := (i : Int) :: newK t i
noncomputable def rsF (t : Tk) (i : Nat) : Nat := 12 + 4 * (nkF t (i + 1) - nkF t i)
noncomputable def byF (t : Tk) : Nat → Nat
 | 0 => 0
 | n + 1 => byF t n + rsF t n
noncomputable def Bz (t : Tk) (n : Nat) : List (List Int) := (List.range n).map (Fm t)
noncomputable def dtF (t : Tk) (n : Nat) : List UInt8 := wr (Bz t n)
theorem LW (t : Tk) (i : Nat) : (Fm t i).length = 1 + (nkF t (i + 1) - nkF t i) := by
 unfold Fm newK nkF
 rw [List.length_cons, List.length_map, List.length_drop]; omega
theorem Y7 (t : Tk) (i : Nat) : (Ao (Fm t i)).length = rsF t i := by
 rw [EA, LW]; unfold rsF; omega
theorem Sh (t : Tk) (n : Nat) : Bz t (n + 1) = Bz t n ++ [Fm t n] := by
 unfold Bz; rw [List.range_succ, List.map_append]; rfl
theorem Hf (t : Tk) (n : Nat) : (Bz t n).length = n := by unfold Bz; simp
theorem MG (t : Tk) (n : Nat) : dtF t (n + 1) = dtF t n ++ Ao (Fm t n) := by
 unfold dtF wr; rw [Sh, List.flatMap_append]; simp
theorem Cg (t : Tk) : ∀ n, (dtF t n).length = byF t n
 | 0 => rfl
 | n + 1 => by rw [MG, List.length_append, Cg t n, Y7]; rfl
theorem GR (t : Tk) {k n : Nat} (h : k ≤ n) : (Bz t n).take k = Bz t k := by
 unfold Bz
 rw [← List.map_take, List.take_range, Nat.min_eq_left h]
theorem bP (t : Tk) {k n : Nat} (h : k ≤ n) : ∃ r, dtF t n = dtF t k ++ r := by
 refine ⟨wr ((Bz t n).drop k), ?_⟩
 unfold dtF wr
 rw [← List.flatMap_append, ← GR t h, List.take_append_drop]
theorem E0 (t : Tk) {k n : Nat} (h : k ≤ n) : (dtF t n).take (byF t k) = dtF t k := by
 obtain ⟨r, e⟩ := bP t h
 rw [e, ← Cg, List.take_left]
theorem Wb (t : Tk) (n : Nat) : byF t n < byF t (n + 1) := by
 show _ < byF t n + rsF t n
 unfold rsF; omega
theorem Dx (t : Tk) {k n : Nat} (h : k ≤ n) : byF t k ≤ byF t n := by
 obtain ⟨d, rfl⟩ : ∃ d, n = k + d := ⟨n - k, by omega⟩
 clear h
 induction d with
 | zero => exact Nat.le_refl _
 | succ d ih => have := Wb t (k + d); rw [← Nat.add_assoc]; omega
noncomputable def kpF (t : Tk) (b : Nat) : Nat → Nat
 | 0 => 0
 | n + 1 => if byF t (n + 1) ≤ b then n + 1 else kpF t b n
theorem HR (t : Tk) (b : Nat) : ∀ n, kpF t b n ≤ n
 | 0 => Nat.le_refl _
 | n + 1 => by have := HR t b n; rw [kpF]; split <;> omega
theorem Pz (t : Tk) (b : Nat) : ∀ n, byF t (kpF t b n) ≤ b
 | 0 => Nat.zero_le _
 | n + 1 => by
   rw [kpF]; split
   · assumption
   · exact Pz t b n
theorem Oi (t : Tk) {b k : Nat} : ∀ n, k ≤ n → byF t k ≤ b → k ≤ kpF t b n
 | 0, h, _ => h
 | n + 1, h, hb => by
   rw [kpF]; split
   · exact h
   · by_cases e : k = n + 1
     · subst e; contradiction
     · exact Oi t n (by omega) hb
theorem UF (t : Tk) {b k n : Nat} (hk : k ≤ n) (h1 : byF t k ≤ b) (h2 : k = n ∨ b < byF t (k + 1)) : kpF t b n = k := by
 have a1 := Oi t n hk h1
 rcases Nat.lt_or_ge k (kpF t b n) with a2 | a2
 · have a3 := HR t b n
   have a4 := Pz t b n
   have a5 := Dx t (k := k + 1) (n := kpF t b n) a2
   omega
 · omega
theorem cn (t : Tk) (b n : Nat) : kpF t (min b (byF t n)) n = kpF t b n := by
 refine UF t (HR t b n) ?_ ?_
 · have := Pz t b n
   have := Dx t (HR t b n)
   omega
 · by_cases e : kpF t b n = n
   · exact .inl e
   · refine .inr ?_
     have h1 := HR t b n
     rcases Nat.lt_or_ge b (byF t (kpF t b n + 1)) with h | h
     · omega
     · have := Oi t n (k := kpF t b n + 1) (by omega) h
       omega
theorem cP (t : Tk) (n p : Nat) : HT (Bz t n) p = kpF t p n := by
 have h1 := X5 (Bz t n) p
 rw [Hf] at h1
 refine (UF t h1 ?_ ?_).symm
 · have := W5 (Bz t n) p
   rw [GR t h1] at this
   rw [← Cg]; exact this
 · by_cases e : HT (Bz t n) p = n
   · exact .inl e
   · have := Tq (Bz t n) p (by rw [Hf]; omega)
     rw [GR t (by omega)] at this
     refine .inr ?_
     rw [← Cg]; exact this
theorem UB {t : Tk} {n : Nat} (hg : ∀ i, i < n → goodRc (Fm t i)) (p : Nat) : Cz ((dtF t n).take p) = (Bz t (kpF t p n), byF t (kpF t p n)) := by
 have h := QJ (Bz t n) (fun l hl => by
  unfold Bz at hl
  obtain ⟨i, hi, rfl⟩ := List.mem_map.1 hl
  exact hg i (List.mem_range.1 hi)) p
 rw [cP, GR t (HR t p n)] at h
 rw [← Cg]; exact h
theorem Js : ∀ (bs sp : List Fo), (BM sp bs).1.length ≤ sp.length + bs.length
 | [], sp => Nat.le_refl _
 | b :: bs, sp => by
   have h := Js bs (Ey sp b)
   have h2 : (Ey sp b).length ≤ sp.length + 1 := by unfold Ey; split <;> simp
   rw [BM, List.length_cons]; dsimp only; omega
theorem TG {n : Nat} {l : List Int} : (Hw n l).length ≤ l.length := by
 have hn : (Hw n l).Nodup := (Tv n l).imp fun h => by omega
 exact List.Nodup.length_le_of_subset hn fun x hx => (K0 hx).2.2
theorem XE {m : Md} (hm : Ag m = 0) (c : Int) : (EI m c).1.length ≤ 13 := by
 unfold EI
 split
 · exact Nat.zero_le _
 · dsimp only
   split
   · simp
   · have h1 := L1 m (CJ m c).1 m.rules
     have h2 := TG (n := (AQ m.vars).toNat) (l := CW m (CJ m c).1 m.rules)
     have h3 := MA hm
     omega
theorem J3 {t : Tk} (h : BL t = 0) (st cl : Int) : (Ad t st cl).1.length ≤ 832 := by
 unfold Ad
 split
 · exact Nat.zero_le _
 · split
   · exact Nat.zero_le _
   · have h1 := Il t st cl (EI t.model st).1
     have h2 := XE (C0 h).2.2 st
     dsimp only
     omega
section
variable {t : Tk} {e : Exp}
theorem Grown.rooms (g : Grown t e) : spF t e.spots.length = e.spots := g.spots.symm
theorem Grown.nk (g : Grown t e) {i : Nat} (h : i ≤ e.spots.length) : nkF t i ≤ e.spots.length := by
 have := Lv t h
 rw [g.rooms] at this
 exact this
theorem Grown.goodRc (g : Grown t e) {i : Nat} (h : i < e.spots.length) : goodRc (Fm t i) := by
 have h1 := g.step h
 have h2 := Js (Ad t e.spots[i].kind e.spots[i].val).1 (spF t i)
 have h3 := J3 g.task e.spots[i].kind e.spots[i].val
 have h4 := g.few
 constructor
 · rw [LW]; unfold nkF; rw [h1.1]; omega
 · intro n hn
   unfold Fm newK at hn
   rcases List.mem_cons.1 hn with rfl | hn
   · omega
   · obtain ⟨b, hb, rfl⟩ := List.mem_map.1 hn
     exact SW (Fq g.task _ b (List.mem_of_mem_drop hb))
end
structure Ms where
 up : Bool
 n : Nat
 s : Nat
 m : Nat
 a : Nat
def B7 : Ms := ⟨true, 0, 0, 0, 0⟩
def Ms.go (x : Ms) : Ms := ⟨x.up, x.n + 1, x.s, max x.m (x.n + 1), if x.n < x.m then x.a + 1 else x.a⟩
def Gu (t : Tk) (x : Ms) : Prop := x.n < nkF t x.n ∧ byF t (x.n + 1) ≤ 1048576
noncomputable instance (t : Tk) (x : Ms) : Decidable (Gu t x) := by unfold Gu; infer_instance
noncomputable def wkF (t : Tk) : Nat → Ms → Ms
 | 0, x => x
 | k + 1, x => if Gu t x then wkF t k x.go else x
noncomputable def mvF (t : Tk) (x : Ms) (m : Fo) : Ms :=
 if m.kind = 4 then ⟨true, x.n, x.s, x.m, x.a⟩
 else if x.up = false then x
 else if m.kind = 1 then wkF t m.val.toNat x
 else if m.kind = 2 then ⟨x.up, x.n, x.n, x.m, x.a⟩
 else ⟨false, kpF t (byF t x.s + m.val.toNat) x.n, kpF t (byF t x.s + m.val.toNat) x.n, x.m, x.a⟩
noncomputable def runM (t : Tk) (l : List Fo) : Ms := l.foldl (mvF t) B7
noncomputable def ML (t : Tk) (x : Ms) : Ou :=
 ⟨x.up, nkF t x.n, x.n, x.s, x.a, x.up && decide (x.n = nkF t x.n), x.up && decide (x.n = nkF t x.n) && decide ((C5 (exG t)).2 ≠ 0)⟩
noncomputable def Cr (t : Tk) (l : List Fo) : Ou × Int :=
 if (An t).2 ≠ 0 then (Tx, (An t).2)
 else if Hy l ≠ 0 then (Tx, Hy l)
 else (ML t (runM t l), 0)
structure MsI (t : Tk) (e : Exp) (x : Ms) : Prop where
 s : x.s ≤ x.n
 n : x.n ≤ x.m
 m : x.m ≤ e.spots.length
 b : byF t x.n ≤ 1048576
section
variable {t : Tk} {e : Exp}
theorem MsI.nil : MsI t e B7 := ⟨Nat.le_refl _, Nat.le_refl _, Nat.zero_le _, Nat.zero_le _⟩
theorem MsI.nN {x : Ms} (h : MsI t e x) : x.n ≤ e.spots.length := Nat.le_trans h.n h.m
theorem Grown.nk_at (g : Grown t e) {i : Nat} (h : i < e.spots.length) : i < nkF t i := g.room i h
theorem Grown.nk_end (g : Grown t e) : nkF t e.spots.length = e.spots.length := by unfold nkF; rw [g.rooms]
theorem MsI.lt (g : Grown t e) {x : Ms} (h : MsI t e x) (hk : x.n < nkF t x.n) : x.n < e.spots.length := by
 have := g.nk h.nN
 omega
theorem MsI.go (g : Grown t e) {x : Ms} (h : MsI t e x) (hk : Gu t x) : MsI t e x.go := by
 have h1 := h.lt g hk.1
 have h2 := h.m
 have h3 := h.s
 exact ⟨show x.s ≤ x.n + 1 by omega, show x.n + 1 ≤ max x.m (x.n + 1) by omega, show max x.m (x.n + 1) ≤ _ by omega, hk.2⟩
theorem MsI.wk (g : Grown t e) : ∀ (k : Nat) {x : Ms}, MsI t e x → MsI t e (wkF t k x)
 | 0, x, h => h
 | k + 1, x, h => by
   rw [wkF]; split
   · exact MsI.wk g k (h.go g (by assumption))
   · exact h
theorem JF (t : Tk) : ∀ (k : Nat) (x : Ms), x.a ≤ (wkF t k x).a ∧ (wkF t k x).a + x.n ≤ x.a + (wkF t k x).n ∧ x.n ≤ (wkF t k x).n
 | 0, x => ⟨Nat.le_refl _, Nat.le_refl _, Nat.le_refl _⟩
 | k + 1, x => by
   rw [wkF]; split
   · have h := JF t k x.go
     have h1 : x.go.a ≤ x.a + 1 ∧ x.a ≤ x.go.a := by unfold Ms.go; dsimp only; split <;> omega
     have h2 : x.go.n = x.n + 1 := rfl
     omega
   · exact ⟨Nat.le_refl _, Nat.le_refl _, Nat.le_refl _⟩
theorem MsI.mv (g : Grown t e) {x : Ms} (h : MsI t e x) (m : Fo) : MsI t e (mvF t x m) := by
 unfold mvF
 split
 · exact ⟨h.s, h.n, h.m, h.b⟩
 split
 · exact h
 split
 · exact h.wk g _
 split
 · exact ⟨Nat.le_refl _, h.n, h.m, h.b⟩
 · have h1 := HR t (byF t x.s + m.val.toNat) x.n
   have h2 := h.n
   have h3 := Dx t h1
   have h4 := h.b
   exact ⟨Nat.le_refl _, Nat.le_trans h1 h2, h.m, Nat.le_trans h3 h4⟩
theorem XA (g : Grown t e) {x : Ms} (h : MsI t e x) (m : Fo) : (mvF t x m).a ≤ x.a + 20000 := by
 have hN := g.few
 unfold mvF
 split
 · exact Nat.le_add_right _ _
 split
 · exact Nat.le_add_right _ _
 split
 · have h1 := JF t m.val.toNat x
   have h2 := (h.wk g m.val.toNat).nN
   omega
 split <;> exact Nat.le_add_right _ _
end

theorem OQ (t : Tk) {i j : Nat} (h : i ≤ j) : nkF t i ≤ nkF t j := Lv t h
noncomputable def nwF (sp bs : List Fo) (k : Nat) : List Fo := (BM sp (bs.take k)).1.drop sp.length
theorem Jt (sp bs : List Fo) (k : Nat) : (BM sp (bs.take k)).1 = sp ++ nwF sp bs k := by
 obtain ⟨r, h⟩ := Im (bs.take k) sp
 unfold nwF; rw [h, List.drop_left]
theorem aN (sp bs : List Fo) : nwF sp bs 0 = [] := by unfold nwF; simp [BM]
theorem aH (sp bs : List Fo) (k : Nat) (h : k < bs.length) : nwF sp bs (k + 1) = if bs[k] ∈ sp ++ nwF sp bs k then nwF sp bs k else nwF sp bs k ++ [bs[k]] := by
 have e := Jk bs sp k h
 have e1 := congrArg Prod.fst e
 rw [Jt, Jt] at e1
 dsimp only at e1
 unfold Ey at e1
 split at e1
 · rw [if_pos (by assumption)]; exact List.append_cancel_left e1
 · rw [if_neg (by assumption)]
   rw [List.append_assoc] at e1
   exact List.append_cancel_left e1
theorem dJ (sp bs : List Fo) (k : Nat) : (nwF sp bs k).length ≤ k := by
 have h := Js (bs.take k) sp
 rw [Jt, List.length_append, List.length_take] at h
 omega
section
variable {t : Tk} {e : Exp}
theorem Grown.nw (g : Grown t e) {i : Nat} (h : i < e.spots.length) : spF t (i + 1) = spF t i ++ nwF (spF t i) (Ad t e.spots[i].kind e.spots[i].val).1 (Ad t e.spots[i].kind e.spots[i].val).1.length := by
 rw [(g.step h).1, ← Jt, List.take_length]
theorem Grown.newK (g : Grown t e) {i : Nat} (h : i < e.spots.length) : newK t i = (nwF (spF t i) (Ad t e.spots[i].kind e.spots[i].val).1 (Ad t e.spots[i].kind e.spots[i].val).1.length).map CU := by
 unfold Go.Sp.newK nkF
 rw [g.nw h, List.drop_left]
end
theorem Wc {α : Type} {l : List α} (h : l.Nodup) {i : Nat} (hi : i < l.length) : l[i] ∉ l.take i := fun hm => by
 obtain ⟨j, hj, e⟩ := List.getElem_of_mem hm
 rw [List.getElem_take] at e
 have := (List.getElem_inj h).1 e
 rw [List.length_take] at hj; omega
theorem Ng {α : Type} {l r : List α} (h : (l ++ r).Nodup) {i : Nat} (hi : i < r.length) : r[i] ∉ l ++ r.take i := by
 have h1 := Wc h (i := l.length + i) (by rw [List.length_append]; omega)
 rw [List.getElem_append_right (by omega), List.take_length_add_append] at h1
 simpa using h1
theorem Ib {t : Tk} {x : Ms} (h : ¬ Gu t x) : ∀ k, wkF t k x = x
 | 0 => rfl
 | k + 1 => by rw [wkF, if_neg h]
theorem KY {t : Tk} {x : Ms} (h : Gu t x) (k : Nat) : wkF t (k + 1) x = wkF t k x.go := by rw [wkF, if_pos h]

inductive Wf (K : Fo → Prop) : List Fo → Prop
 | leaf {o : Fo} (k : K o) (h : partsOf o.kind = (0, 0)) : Wf K [o]
 | one {o : Fo} {a : List Fo} (k : K o) (h : partsOf o.kind = (1, 0)) (ha : Wf K a) : Wf K (o :: a)
 | two {o : Fo} {a b : List Fo} (k : K o) (h : partsOf o.kind = (2, 0)) (ha : Wf K a) (hb : Wf K b) : Wf K (o :: (a ++ b))
section
variable {K : Fo → Prop} {l : List Fo}
theorem Wf.pos (w : Wf K l) : 0 < l.length := by cases w <;> simp
theorem Wf.all (w : Wf K l) : ∀ o ∈ l, K o := by
 induction w with
 | leaf k h => intro o ho; rw [List.mem_singleton.1 ho]; exact k
 | one k h ha ih =>
   intro o ho
   rcases List.mem_cons.1 ho with rfl | ho
   · exact k
   · exact ih o ho
 | two k h ha hb iha ihb =>
   intro o ho
   rcases List.mem_cons.1 ho with rfl | ho
   · exact k
   · rcases List.mem_append.1 ho with ho | ho
     · exact iha o ho
     · exact ihb o ho
theorem Wf.scanE (w : Wf K l) : ∀ (r : List Fo) (n i : Int), 1 ≤ n → scan (l ++ r) n i = if n = 1 then (i + l.length, 0) else scan r (n - 1) (i + l.length) := by
 induction w with
 | @leaf o k h =>
   intro r n i hn
   rw [List.singleton_append, B2, h]
   dsimp only
   rw [if_neg (fun c => c rfl), show n + 0 - 1 = n - 1 by omega, List.length_singleton]
   by_cases c : n = 1
   · rw [if_pos c, if_pos (by omega)]; rfl
   · rw [if_neg c, if_neg (by omega)]; rfl
 | @one o a k h ha ih =>
   intro r n i hn
   rw [List.cons_append, B2, h]
   dsimp only
   rw [if_neg (fun c => c rfl), if_neg (by omega), show n + 1 - 1 = n by omega, ih r n (i + 1) hn, List.length_cons, show i + 1 + (a.length : Int) = i + ((a.length + 1 : Nat) : Int) by omega]
 | @two o a b k h ha hb iha ihb =>
   intro r n i hn
   rw [List.cons_append, B2, h]
   dsimp only
   rw [if_neg (fun c => c rfl), if_neg (by omega), show n + 2 - 1 = n + 1 by omega, List.append_assoc, iha (b ++ r) (n + 1) (i + 1) (by omega), if_neg (by omega), show n + 1 - 1 = n by omega, ihb r n _ hn, List.length_cons, List.length_append,
    show i + 1 + (a.length : Int) + (b.length : Int) = i + ((a.length + b.length + 1 : Nat) : Int) by omega]
theorem Wf.endE (w : Wf K l) (p r : List Fo) : AR (p ++ l ++ r) (p.length : Nat) = (((p.length + l.length : Nat) : Int), 0) := by
 unfold AR
 rw [Int.toNat_natCast, List.append_assoc, List.drop_left, w.scanE _ _ _ (by omega), if_pos rfl, Int.natCast_add]
theorem Wf.ends (w : Wf K l) (h : l.length ≤ 60) : (Aw l).2 = 0 := by
 have h0 := w.endE [] []
 rw [List.nil_append, List.append_nil, List.length_nil, Nat.zero_add] at h0
 unfold Aw
 have h1 : AR l 0 = ((l.length : Int), 0) := h0
 rw [if_neg (by omega), h1, if_neg (fun c => c rfl), if_neg (by dsimp only; omega)]
theorem DG (p : List Fo) (o : Fo) (s : List Fo) : BJ (p ++ o :: s) p.length = o.kind := by simp [BJ]
end
def nAh (l : List Fo) : Nat := (l.filter fun o => decide (Ar o.kind)).length
theorem Es (o : Fo) (l : List Fo) : nAh (o :: l) = (if Ar o.kind then 1 else 0) + nAh l := by
 unfold nAh
 by_cases c : Ar o.kind
 · rw [if_pos c, List.filter_cons, if_pos (decide_eq_true c), List.length_cons, Nat.add_comm]
 · rw [if_neg c, List.filter_cons, if_neg (by simpa using c), Nat.zero_add]
theorem Nh (props : Int) : ∀ (l : List Fo) (n : Nat), (∀ o ∈ l, FJ o.kind o.val props = 0) → n + nAh l ≤ 6 → Hb l props n = 0
 | [], n, _, h => by rw [Hb, if_neg (by simp [nAh] at h; omega)]
 | o :: r, n, h, h6 => by
   have h0 := h o List.mem_cons_self
   rw [Hb, if_neg (fun c => c h0)]
   refine Nh props r _ (fun x hx => h x (List.mem_cons_of_mem _ hx)) ?_
   rw [Es] at h6
   by_cases c : Ar o.kind
   · rw [if_pos c] at h6 ⊢; omega
   · rw [if_neg c] at h6 ⊢; omega
theorem Tu (a b : List Fo) : nAh (a ++ b) = nAh a + nAh b := by simp [nAh]
abbrev FoK (p : Int) (o : Fo) : Prop := FJ o.kind o.val p = 0
theorem Wf.form {p : Int} {l : List Fo} (w : Wf (FoK p) l) (h60 : l.length ≤ 60) (h6 : nAh l ≤ 6) (hp : 0 ≤ p ∧ p ≤ 6) : DT l p = 0 := by
 unfold DT
 rw [if_neg (by omega), if_neg (fun c => c (w.ends h60)), Nh p l 0 w.all (by omega)]

inductive WfE (K : Fo → Prop) : Bool → List Fo → Prop
 | leaf {o : Fo} (k : K o) (h : partsOf o.kind = (0, 0)) : WfE K (decide (C6 o.kind)) [o]
 | one {o : Fo} {a : List Fo} (k : K o) (h : partsOf o.kind = (1, 0)) (ha : WfE K (decide (GV o.kind)) a) : WfE K (decide (C6 o.kind)) (o :: a)
 | two {o : Fo} {a b : List Fo} (k : K o) (h : partsOf o.kind = (2, 0)) (ha : WfE K (decide (GV o.kind)) a) (hb : WfE K (decide (GV o.kind)) b) : WfE K (decide (C6 o.kind)) (o :: (a ++ b))
section
variable {K : Fo → Prop} {l : List Fo} {b : Bool}
theorem WfE.wf (w : WfE K b l) : Wf K l := by
 induction w with
 | leaf k h => exact .leaf k h
 | one k h _ ih => exact .one k h ih
 | two k h _ _ iha ihb => exact .two k h iha ihb
theorem WfE.head (w : WfE K b l) (p r : List Fo) : decide (C6 (BJ (p ++ l ++ r) p.length)) = b := by
 cases w with
 | @leaf o k h => rw [show p ++ [o] ++ r = p ++ o :: r by simp, DG]
 | @one o a k h ha => rw [show p ++ (o :: a) ++ r = p ++ o :: (a ++ r) by simp, DG]
 | @two o a c k h ha hb => rw [show p ++ (o :: (a ++ c)) ++ r = p ++ o :: (a ++ c ++ r) by simp, DG]
theorem IZ {p q : Prop} [Decidable p] [Decidable q] (h : decide p = decide q) : p ↔ q := by
 by_cases hp : p
 · rw [decide_eq_true hp] at h; exact ⟨fun _ => of_decide_eq_true h.symm, fun _ => hp⟩
 · rw [decide_eq_false hp] at h; exact ⟨fun c => absurd c hp, fun c => absurd c (of_decide_eq_false h.symm)⟩
theorem WfE.typed (w : WfE K b l) : ∀ (p r : List Fo) (i : Nat), p.length ≤ i → i < p.length + l.length → Od (p ++ l ++ r) i := by
 induction w with
 | @leaf o k h =>
   intro p r i h1 h2
   rw [List.length_singleton] at h2
   obtain rfl : i = p.length := by omega
   have e : p ++ [o] ++ r = p ++ o :: r := by simp
   unfold Od
   rw [e, DG, h]
   intro q hq
   exact absurd hq (by simp [EK])
 | @one o a k h ha ih =>
   intro p r i h1 h2
   have e : p ++ (o :: a) ++ r = p ++ o :: (a ++ r) := by simp
   have f : p ++ [o] ++ a ++ r = p ++ o :: (a ++ r) := by simp
   rw [e]
   by_cases c : i = p.length
   · subst c
     unfold Od
     rw [DG, h]
     intro q hq
     have hq : q = p.length + 1 := by simpa [EK] using hq
     subst hq
     have := ha.head (p ++ [o]) r
     rw [f, List.length_append, List.length_singleton] at this
     unfold JJ
     rw [DG]
     exact IZ this
   · have := ih (p ++ [o]) r i (by rw [List.length_append, List.length_singleton]; omega) (by rw [List.length_append, List.length_singleton]; rw [List.length_cons] at h2; omega)
     rwa [f] at this
 | @two o a c k h ha hb iha ihb =>
   intro p r i h1 h2
   rw [List.length_cons, List.length_append] at h2
   have e : p ++ (o :: (a ++ c)) ++ r = p ++ o :: (a ++ (c ++ r)) := by simp
   have f : p ++ [o] ++ a ++ (c ++ r) = p ++ o :: (a ++ (c ++ r)) := by simp
   have g : p ++ [o] ++ a ++ c ++ r = p ++ o :: (a ++ (c ++ r)) := by simp
   rw [e]
   have hl : (p ++ [o]).length = p.length + 1 := by simp
   have hl2 : (p ++ [o] ++ a).length = p.length + 1 + a.length := by simp; omega
   by_cases c0 : i = p.length
   · subst c0
     have he := ha.wf.endE (p ++ [o]) (c ++ r)
     rw [f, hl] at he
     have k1 := ha.head (p ++ [o]) (c ++ r)
     rw [f, hl] at k1
     have k2 := hb.head (p ++ [o] ++ a) r
     rw [g, hl2] at k2
     unfold Od
     rw [DG, h]
     intro q hq
     have hq : q = p.length + 1 ∨ q = p.length + 1 + a.length := by
      simp only [EK, show (2 : Int).toNat = 1 + 1 from rfl, List.mem_cons, List.not_mem_nil, or_false] at hq
      rw [he, Int.toNat_natCast] at hq
      exact hq
     unfold JJ
     rw [DG]
     rcases hq with rfl | rfl
     · exact IZ k1
     · exact IZ k2
   · by_cases c1 : i < p.length + 1 + a.length
     · have := iha (p ++ [o]) (c ++ r) i (by omega) (by omega)
       rwa [f] at this
     · have := ihb (p ++ [o] ++ a) r i (by omega) (by omega)
       rwa [g] at this
abbrev ExK (n : Int) (o : Fo) : Prop := opZ o.kind o.val n = 0
theorem Rn (n : Int) : ∀ l : List Fo, (∀ o ∈ l, ExK n o) → IX l n = 0
 | [], _ => rfl
 | o :: r, h => by
   rw [IX, if_neg (fun c => c (h o List.mem_cons_self))]
   exact Rn n r fun x hx => h x (List.mem_cons_of_mem _ hx)
theorem WfE.expr {n : Int} (w : WfE (ExK n) b l) (h60 : l.length ≤ 60) (hn : 0 ≤ n ∧ n ≤ 6) : Cp l n = (b, 0) := by
 have ht : II l := fun i hi => by
  have := w.typed [] [] i (Nat.zero_le _) (by simpa using hi)
  rwa [List.nil_append, List.append_nil] at this
 have hd := w.head [] []
 rw [List.nil_append, List.append_nil, List.length_nil] at hd
 unfold Cp
 rw [if_neg (by omega), if_neg (fun c => c (w.wf.ends h60)), if_neg (fun c => c (Rn n l w.wf.all)), if_pos ht, hd]
theorem WfE.kind0 {n : Int} (w : WfE (ExK n) b l) (h60 : l.length ≤ 60) (hn : 0 ≤ n ∧ n ≤ 6) : Cj l n b = 0 := by
 unfold Cj
 rw [w.expr h60 hn]
 simp
end
def pk (n many : Int) : Int := (if n < 0 then -(n + 1) else n) % many
theorem BE (n : Int) {many : Int} (h : 0 < many) : 0 ≤ pk n many ∧ pk n many < many :=
 ⟨Int.emod_nonneg _ (by omega), Int.emod_lt_of_pos _ h⟩
def tk (raw : List Fo) (a : Nat) : Fo := (raw[a]?).getD ⟨0, 0⟩
def EG (raw : List Fo) (d a : Nat) : Int := if d = 0 ∨ 14 < a + 1 then pk (tk raw a).kind 2 else pk (tk raw a).kind 5
def QT (raw : List Fo) (vars : Int) (a : Nat) (k : Int) : Fo := if k = 1 ∧ 0 < vars then ⟨2, pk (tk raw a).val vars⟩ else ⟨1, pk (tk raw a).val 9 - 4⟩
def Bb (raw : List Fo) (vars : Int) : Nat → Nat → List Fo
 | 0, a => [QT raw vars a (EG raw 0 a)]
 | d + 1, a => if EG raw (d + 1) a < 2 then [QT raw vars a (EG raw (d + 1) a)] else ⟨EG raw (d + 1) a + 1, 0⟩ :: (Bb raw vars d (a + 1) ++ Bb raw vars d (a + 1 + (Bb raw vars d (a + 1)).length))
theorem Ge (raw : List Fo) (d a : Nat) : 0 ≤ EG raw d a ∧ EG raw d a < 5 ∧ (d = 0 → EG raw d a < 2) := by
 have h2 := BE (tk raw a).kind (many := 2) (by decide)
 have h5 := BE (tk raw a).kind (many := 5) (by decide)
 unfold EG
 split
 · exact ⟨h2.1, by omega, fun _ => h2.2⟩
 · exact ⟨h5.1, h5.2, fun c => by omega⟩
theorem Yd (raw : List Fo) {vars : Int} (a : Nat) (k : Int) : ExK vars (QT raw vars a k) ∧ partsOf (QT raw vars a k).kind = (0, 0) ∧ decide (C6 (QT raw vars a k).kind) = false := by
 have h9 := BE (tk raw a).val (many := 9) (by decide)
 unfold QT
 split
 · rename_i h
   have hv := BE (tk raw a).val h.2
   refine ⟨?_, rfl, rfl⟩
   unfold ExK opZ
   dsimp only
   rw [if_neg (by omega), if_neg (by omega)]
 · refine ⟨?_, rfl, rfl⟩
   unfold ExK opZ
   dsimp only
   rw [if_neg (by omega), if_neg (by omega)]
theorem Mv {vars k : Int} (h : 3 ≤ k ∧ k ≤ 12) : ExK vars ⟨k, 0⟩ := by
 unfold ExK opZ
 dsimp only
 rw [if_neg (by omega), if_neg (by omega)]
theorem JS (raw : List Fo) (vars : Int) : ∀ (d a : Nat), WfE (ExK vars) false (Bb raw vars d a)
 | 0, a => by
   obtain ⟨h1, h2, h3⟩ := Yd raw (vars := vars) a (EG raw 0 a)
   rw [Bb, ← h3]; exact .leaf h1 h2
 | d + 1, a => by
   rw [Bb]
   split
   · obtain ⟨h1, h2, h3⟩ := Yd raw (vars := vars) a (EG raw (d + 1) a)
     rw [← h3]; exact .leaf h1 h2
   · rename_i h
     have hb := Ge raw (d + 1) a
     have w1 := JS raw vars d (a + 1)
     have w2 := JS raw vars d (a + 1 + (Bb raw vars d (a + 1)).length)
     have hk : EG raw (d + 1) a = 2 ∨ EG raw (d + 1) a = 3 ∨ EG raw (d + 1) a = 4 := by omega
     generalize Bb raw vars d (a + 1) = x at w1 w2 ⊢
     generalize Bb raw vars d (a + 1 + x.length) = y at w2 ⊢
     rcases hk with e | e | e
     · rw [e]; exact .two (o := ⟨2 + 1, 0⟩) (Mv (by decide)) rfl w1 w2
     · rw [e]; exact .two (o := ⟨3 + 1, 0⟩) (Mv (by decide)) rfl w1 w2
     · rw [e]; exact .two (o := ⟨4 + 1, 0⟩) (Mv (by decide)) rfl w1 w2
theorem HW (raw : List Fo) (vars : Int) : ∀ (d a : Nat), 1 ≤ (Bb raw vars d a).length ∧ (Bb raw vars d a).length + 1 ≤ 2 ^ (d + 1)
 | 0, a => by simp [Bb]
 | d + 1, a => by
   have h1 := HW raw vars d (a + 1)
   have h2 := HW raw vars d (a + 1 + (Bb raw vars d (a + 1)).length)
   have e : 2 ^ (d + 1 + 1) = 2 * 2 ^ (d + 1) := by rw [Nat.pow_succ]; omega
   rw [Bb]
   split
   · simp only [List.length_singleton]; omega
   · simp only [List.length_cons, List.length_append]; omega
theorem Lb (raw : List Fo) (vars : Int) (a : Nat) : (Bb raw vars 1 a).length ≤ 3 := by
 have := (HW raw vars 1 a).2
 omega
theorem Po (raw : List Fo) (vars : Int) (a : Nat) : (Bb raw vars 2 a).length ≤ 7 := by
 have := (HW raw vars 2 a).2
 omega
def B1 (raw : List Fo) (d a : Nat) : Int := if d = 0 ∨ 10 < a + 1 then pk (tk raw a).kind 3 else pk (tk raw a).kind 9
def OI (raw : List Fo) (vars : Int) (a : Nat) (k : Int) : List Fo :=
 if k = 0 then [⟨11 + pk (tk raw a).val 2, 0⟩] else ⟨6 + k % 2, 0⟩ :: (Bb raw vars 1 (a + 1) ++ Bb raw vars 1 (a + 1 + (Bb raw vars 1 (a + 1)).length))
def Da (raw : List Fo) (vars : Int) : Nat → Nat → List Fo
 | 0, a => OI raw vars a (B1 raw 0 a)
 | d + 1, a =>
   if B1 raw (d + 1) a < 5 then OI raw vars a (B1 raw (d + 1) a)
   else if B1 raw (d + 1) a = 5 then ⟨10, 0⟩ :: Da raw vars d (a + 1)
   else ⟨8 + B1 raw (d + 1) a % 2, 0⟩ :: (Da raw vars d (a + 1) ++ Da raw vars d (a + 1 + (Da raw vars d (a + 1)).length))
theorem Dw (raw : List Fo) (d a : Nat) : 0 ≤ B1 raw d a ∧ B1 raw d a < 9 ∧ (d = 0 ∨ 10 < a + 1 → B1 raw d a < 3) := by
 have h2 := BE (tk raw a).kind (many := 3) (by decide)
 have h5 := BE (tk raw a).kind (many := 9) (by decide)
 unfold B1
 split
 · exact ⟨h2.1, by omega, fun _ => h2.2⟩
 · rename_i c; exact ⟨h5.1, h5.2, fun c' => absurd c' c⟩
theorem Tb (raw : List Fo) (vars : Int) (a : Nat) (k : Int) : WfE (ExK vars) true (OI raw vars a k) := by
 unfold OI
 split
 · have h2 := BE (tk raw a).val (many := 2) (by decide)
   have : pk (tk raw a).val 2 = 0 ∨ pk (tk raw a).val 2 = 1 := by omega
   rcases this with e | e
   · rw [e]; exact .leaf (o := ⟨11 + 0, 0⟩) (Mv (by decide)) rfl
   · rw [e]; exact .leaf (o := ⟨11 + 1, 0⟩) (Mv (by decide)) rfl
 · have w1 := JS raw vars 1 (a + 1)
   have w2 := JS raw vars 1 (a + 1 + (Bb raw vars 1 (a + 1)).length)
   have : k % 2 = 0 ∨ k % 2 = 1 := by omega
   rcases this with e | e
   · rw [e]; exact .two (o := ⟨6 + 0, 0⟩) (Mv (by decide)) rfl w1 w2
   · rw [e]; exact .two (o := ⟨6 + 1, 0⟩) (Mv (by decide)) rfl w1 w2
theorem QO (raw : List Fo) (vars : Int) (a : Nat) (k : Int) : 1 ≤ (OI raw vars a k).length ∧ (OI raw vars a k).length ≤ 7 := by
 have h1 := Lb raw vars (a + 1)
 have h2 := Lb raw vars (a + 1 + (Bb raw vars 1 (a + 1)).length)
 unfold OI
 split
 · simp
 · simp only [List.length_cons, List.length_append]; omega
theorem Oo (raw : List Fo) (vars : Int) : ∀ (d a : Nat), WfE (ExK vars) true (Da raw vars d a)
 | 0, a => Tb _ _ _ _
 | d + 1, a => by
   have w1 := Oo raw vars d (a + 1)
   have w2 := Oo raw vars d (a + 1 + (Da raw vars d (a + 1)).length)
   rw [Da]
   split
   · exact Tb _ _ _ _
   · split
     · exact .one (o := ⟨10, 0⟩) (Mv (by decide)) rfl w1
     · have : B1 raw (d + 1) a % 2 = 0 ∨ B1 raw (d + 1) a % 2 = 1 := by omega
       rcases this with e | e
       · rw [e]; exact .two (o := ⟨8 + 0, 0⟩) (Mv (by decide)) rfl w1 w2
       · rw [e]; exact .two (o := ⟨8 + 1, 0⟩) (Mv (by decide)) rfl w1 w2
theorem Iw (raw : List Fo) (vars : Int) : ∀ (d a : Nat), 1 ≤ (Da raw vars d a).length ∧ a + (Da raw vars d a).length ≤ max a 10 + 7 * (d + 1) ∧ (10 ≤ a → (Da raw vars d a).length ≤ 7)
 | 0, a => by
   have := QO raw vars a (B1 raw 0 a)
   rw [Da]
   refine ⟨this.1, by omega, fun _ => this.2⟩
 | d + 1, a => by
   have h1 := Iw raw vars d (a + 1)
   have h2 := Iw raw vars d (a + 1 + (Da raw vars d (a + 1)).length)
   have hb := Dw raw (d + 1) a
   have ht := QO raw vars a (B1 raw (d + 1) a)
   rw [Da]
   split
   · exact ⟨ht.1, by omega, fun _ => ht.2⟩
   · rename_i c
     have ha : a < 10 := by
      by_cases hh : 10 < a + 1
      · have := hb.2.2 (.inr hh); omega
      · omega
     split
     · simp only [List.length_cons]
       refine ⟨by omega, by omega, fun _ => by omega⟩
     · simp only [List.length_cons, List.length_append]
       refine ⟨by omega, ?_, fun _ => by omega⟩
       by_cases hc : 10 ≤ a + 1 + (Da raw vars d (a + 1)).length
       · have := h2.2.2 hc; omega
       · omega
theorem Ma (raw : List Fo) (vars : Int) : (Da raw vars 3 0).length ≤ 38 := by
 have := (Iw raw vars 3 0).2.1
 omega
def Cl (raw : List Fo) (d a t : Nat) : Int :=
 if 8 < (if d = 0 ∨ 12 < a + 1 then pk (tk raw a).kind 4 else pk (tk raw a).kind 16) ∧ t = 0 then 4 + (if d = 0 ∨ 12 < a + 1 then pk (tk raw a).kind 4 else pk (tk raw a).kind 16) % 5
 else (if d = 0 ∨ 12 < a + 1 then pk (tk raw a).kind 4 else pk (tk raw a).kind 16)
def aY (k : Int) : Int := if k = 9 then 14 else if k = 11 then 18 else 17
def Qt (raw : List Fo) (props : Int) (a : Nat) : Fo := ⟨13, pk (tk raw a).val props⟩
def Bj (raw : List Fo) (props : Int) : Nat → Nat → Nat → List Fo × Nat
 | 0, a, t => ([Qt raw props a], t)
 | d + 1, a, t =>
   if Cl raw (d + 1) a t < 4 then ([Qt raw props a], t)
   else if Cl raw (d + 1) a t < 6 then (⟨10, 0⟩ :: (Bj raw props d (a + 1) t).1, (Bj raw props d (a + 1) t).2)
   else if Cl raw (d + 1) a t < 9 then
    (⟨8 + Cl raw (d + 1) a t % 2, 0⟩ :: ((Bj raw props d (a + 1) t).1 ++ (Bj raw props d (a + 1 + (Bj raw props d (a + 1) t).1.length) (Bj raw props d (a + 1) t).2).1), (Bj raw props d (a + 1 + (Bj raw props d (a + 1) t).1.length) (Bj raw props d (a + 1) t).2).2)
   else if Cl raw (d + 1) a t < 13 then (⟨aY (Cl raw (d + 1) a t), 0⟩ :: (Bj raw props d (a + 1) (t - 1)).1, (Bj raw props d (a + 1) (t - 1)).2)
   else (⟨15 + Cl raw (d + 1) a t % 2, 0⟩ :: ((Bj raw props d (a + 1) (t - 1)).1 ++ (Bj raw props d (a + 1 + (Bj raw props d (a + 1) (t - 1)).1.length) (Bj raw props d (a + 1) (t - 1)).2).1), (Bj raw props d (a + 1 + (Bj raw props d (a + 1) (t - 1)).1.length) (Bj raw props d (a + 1) (t - 1)).2).2)
theorem IP (raw : List Fo) (d a t : Nat) : 0 ≤ Cl raw d a t ∧ Cl raw d a t < 16 ∧ (d = 0 ∨ 12 < a + 1 → Cl raw d a t < 4) ∧ (t = 0 → Cl raw d a t < 9) := by
 have h2 := BE (tk raw a).kind (many := 4) (by decide)
 have h5 := BE (tk raw a).kind (many := 16) (by decide)
 have hk : 0 ≤ (if d = 0 ∨ 12 < a + 1 then pk (tk raw a).kind 4 else pk (tk raw a).kind 16) ∧ (if d = 0 ∨ 12 < a + 1 then pk (tk raw a).kind 4 else pk (tk raw a).kind 16) < 16 ∧ (d = 0 ∨ 12 < a + 1 → (if d = 0 ∨ 12 < a + 1 then pk (tk raw a).kind 4 else pk (tk raw a).kind 16) < 4) := by
  split
  · exact ⟨h2.1, by omega, fun _ => h2.2⟩
  · rename_i c; exact ⟨h5.1, h5.2, fun c' => absurd c' c⟩
 unfold Cl
 generalize (if d = 0 ∨ 12 < a + 1 then pk (tk raw a).kind 4 else pk (tk raw a).kind 16) = k at hk ⊢
 split
 · rename_i c
   refine ⟨by omega, by omega, fun h => ?_, fun _ => by omega⟩
   have := hk.2.2 h; omega
 · rename_i c
   refine ⟨hk.1, hk.2.1, hk.2.2, fun h => ?_⟩
   by_cases h8 : 8 < k
   · exact absurd ⟨h8, h⟩ c
   · omega
theorem RE {p k : Int} (h : 8 ≤ k ∧ k ≠ 13) : FoK p ⟨k, 0⟩ := by
 unfold FoK FJ
 dsimp only
 rw [if_neg (by omega), if_neg (by omega)]
theorem Xd (raw : List Fo) {p : Int} (hp : 0 < p) (a : Nat) : FoK p (Qt raw p a) := by
 have h := BE (tk raw a).val hp
 unfold Qt FoK FJ
 dsimp only
 rw [if_neg (by omega), if_neg (by omega)]
theorem T5 : nAh [] = 0 := rfl
theorem FV (raw : List Fo) {p : Int} (hp : 0 < p) : ∀ (d a t : Nat), Wf (FoK p) (Bj raw p d a t).1 ∧ nAh (Bj raw p d a t).1 + (Bj raw p d a t).2 ≤ t
 | 0, a, t => ⟨.leaf (Xd raw hp a) rfl, by rw [Bj, Es, T5, if_neg (by unfold Qt Ar; dsimp only; omega)]; omega⟩
 | d + 1, a, t => by
   have hb := IP raw (d + 1) a t
   rw [Bj]
   split
   · exact ⟨.leaf (Xd raw hp a) rfl, by rw [Es, T5, if_neg (by unfold Qt Ar; dsimp only; omega)]; omega⟩
   split
   · obtain ⟨w, h⟩ := FV raw hp d (a + 1) t
     refine ⟨.one (o := ⟨10, 0⟩) (RE (by decide)) rfl w, ?_⟩
     rw [Es, if_neg (by unfold Ar; dsimp only; omega)]; dsimp only; omega
   split
   · obtain ⟨w1, h1⟩ := FV raw hp d (a + 1) t
     obtain ⟨w2, h2⟩ := FV raw hp d (a + 1 + (Bj raw p d (a + 1) t).1.length) (Bj raw p d (a + 1) t).2
     generalize Bj raw p d (a + 1) t = x at w1 h1 w2 h2 ⊢
     generalize Bj raw p d (a + 1 + x.1.length) x.2 = y at w2 h2 ⊢
     have : Cl raw (d + 1) a t % 2 = 0 ∨ Cl raw (d + 1) a t % 2 = 1 := by omega
     refine ⟨?_, ?_⟩
     · rcases this with e | e
       · rw [e]; exact .two (o := ⟨8 + 0, 0⟩) (RE (by decide)) rfl w1 w2
       · rw [e]; exact .two (o := ⟨8 + 1, 0⟩) (RE (by decide)) rfl w1 w2
     · rw [Es, Tu, if_neg (by unfold Ar; dsimp only; omega)]; dsimp only; omega
   have ht : 1 ≤ t := by
    by_cases c : t = 0
    · have := hb.2.2.2 c; omega
    · omega
   split
   · obtain ⟨w, h⟩ := FV raw hp d (a + 1) (t - 1)
     refine ⟨?_, ?_⟩
     · unfold aY
       split
       · exact .one (o := ⟨14, 0⟩) (RE (by decide)) rfl w
       · split
         · exact .one (o := ⟨18, 0⟩) (RE (by decide)) rfl w
         · exact .one (o := ⟨17, 0⟩) (RE (by decide)) rfl w
     · rw [Es]
       split <;> (dsimp only; omega)
   · obtain ⟨w1, h1⟩ := FV raw hp d (a + 1) (t - 1)
     obtain ⟨w2, h2⟩ := FV raw hp d (a + 1 + (Bj raw p d (a + 1) (t - 1)).1.length) (Bj raw p d (a + 1) (t - 1)).2
     generalize Bj raw p d (a + 1) (t - 1) = x at w1 h1 w2 h2 ⊢
     generalize Bj raw p d (a + 1 + x.1.length) x.2 = y at w2 h2 ⊢
     have : Cl raw (d + 1) a t % 2 = 0 ∨ Cl raw (d + 1) a t % 2 = 1 := by omega
     refine ⟨?_, ?_⟩
     · rcases this with e | e
       · rw [e]; exact .two (o := ⟨15 + 0, 0⟩) (RE (by decide)) rfl w1 w2
       · rw [e]; exact .two (o := ⟨15 + 1, 0⟩) (RE (by decide)) rfl w1 w2
     · rw [Es, Tu]
       split <;> (dsimp only; omega)
theorem EH (raw : List Fo) (p : Int) : ∀ (d a t : Nat), 1 ≤ (Bj raw p d a t).1.length ∧ a + (Bj raw p d a t).1.length ≤ max a 12 + (d + 1) ∧ (12 ≤ a → (Bj raw p d a t).1.length = 1)
 | 0, a, t => by rw [Bj]; refine ⟨by simp, ?_, fun _ => rfl⟩; simp only [List.length_singleton]; omega
 | d + 1, a, t => by
   have hb := IP raw (d + 1) a t
   rw [Bj]
   split
   · refine ⟨by simp, ?_, fun _ => rfl⟩; simp only [List.length_singleton]; omega
   rename_i c
   have ha : a < 12 := by
    by_cases hh : 12 < a + 1
    · have := hb.2.2.1 (.inr hh); omega
    · omega
   split
   · have h := EH raw p d (a + 1) t
     simp only [List.length_cons]
     exact ⟨by omega, by omega, fun _ => by omega⟩
   split
   · have h1 := EH raw p d (a + 1) t
     have h2 := EH raw p d (a + 1 + (Bj raw p d (a + 1) t).1.length) (Bj raw p d (a + 1) t).2
     simp only [List.length_cons, List.length_append]
     refine ⟨by omega, ?_, fun _ => by omega⟩
     by_cases hc : 12 ≤ a + 1 + (Bj raw p d (a + 1) t).1.length
     · have := h2.2.2 hc; omega
     · omega
   split
   · have h := EH raw p d (a + 1) (t - 1)
     simp only [List.length_cons]
     exact ⟨by omega, by omega, fun _ => by omega⟩
   · have h1 := EH raw p d (a + 1) (t - 1)
     have h2 := EH raw p d (a + 1 + (Bj raw p d (a + 1) (t - 1)).1.length) (Bj raw p d (a + 1) (t - 1)).2
     simp only [List.length_cons, List.length_append]
     refine ⟨by omega, ?_, fun _ => by omega⟩
     by_cases hc : 12 ≤ a + 1 + (Bj raw p d (a + 1) (t - 1)).1.length
     · have := h2.2.2 hc; omega
     · omega
def Bi (raw : List Fo) (t : Nat) : List Fo := (Bj raw 3 4 0 t).1
theorem RF (raw : List Fo) (t : Nat) : Wf (FoK 3) (Bi raw t) ∧ nAh (Bi raw t) ≤ t ∧ (Bi raw t).length ≤ 17 := by
 have h1 := FV raw (p := 3) (by decide) 4 0 t
 have h2 := EH raw 3 4 0 t
 unfold Bi
 exact ⟨h1.1, by omega, by omega⟩

structure Pl where
 guard : List Fo
 var : Int
 value : List Fo
 both : Bool
def Pl.cells (p : Pl) : List D := [AO p.guard, .i .i64 p.var, AO p.value, .b p.both]
abbrev GL (l : List Pl) : D := .l 4 64 (l.map Pl.cells)
structure De where
 s0 : Int
 s1 : Int
 l0 : Int
 l1 : Int
 i0 : Int
 i1 : Int
 rules : List Pl
def De.cells (d : De) : List D := [.i .i64 d.s0, .i .i64 d.s1, .i .i64 d.l0, .i .i64 d.l1, .i .i64 d.i0, .i .i64 d.i1, GL d.rules]
abbrev deA (d : De) : AV := .agg [.int d.s0, .int d.s1, .int d.l0, .int d.l1, .int d.i0, .int d.i1, .d (GL d.rules)]
abbrev xS : ByteArray := ⟨#[120]⟩
abbrev y2S : ByteArray := ⟨#[121, 50]⟩
def WO (l : Int) : Int := pk l 3 - 1
def Qx (s l : Int) : Int := WO l + pk s 4
def bz (s l i : Int) : Int := WO l + pk i (Qx s l - WO l + 1)
def Iq (n : ByteArray) (s l i : Int) : Vr := ⟨n, WO l, Qx s l, bz s l i⟩
def UU (p : Pl) : List St := ⟨pk p.var 2, Bb p.value 2 2 0⟩ :: (if p.both then [⟨1 - pk p.var 2, [⟨2, pk p.var 2⟩]⟩] else [])
def Dc (p : Pl) : Ru := ⟨Da p.guard 2 3 0, UU p⟩
def CP (d : De) : Md := ⟨[Iq xS d.s0 d.l0 d.i0, Iq y2S d.s1 d.l1 d.i1], (d.rules.take 5).map Dc⟩
def MQ : List (List Fo) := [[⟨7, 0⟩, ⟨2, 0⟩, ⟨1, 1⟩], [⟨7, 0⟩, ⟨2, 0⟩, ⟨2, 1⟩], [⟨6, 0⟩, ⟨2, 0⟩, ⟨2, 1⟩]]
def DP (d : De) (f : List Fo) : Tk := ⟨CP d, MQ, f⟩
theorem Hp (n : ByteArray) (s l i : Int) : D5 (Iq n s l i) ∧ 1 ≤ BD (Iq n s l i) ∧ BD (Iq n s l i) ≤ 4 := by
 have h1 := BE l (many := 3) (by decide)
 have h2 := BE s (many := 4) (by decide)
 have h3 := BE i (many := Qx s l - WO l + 1) (by unfold Qx; omega)
 unfold D5 BD Iq bz
 dsimp only
 unfold Qx WO at *
 omega
theorem fP : KF xS := by
 refine ⟨⟨by decide, by decide⟩, ?_, ?_, fun i h => ?_⟩
 · intro h; exact absurd (congrArg (fun b : ByteArray => b.data.toList.length) h) (by decide)
 · intro h; exact absurd (congrArg (fun b : ByteArray => b.data.toList.length) h) (by decide)
 · have : i < 1 := h
   obtain rfl : i = 0 := by omega
   show Mg 0 (120 : UInt8)
   exact .inl ⟨by decide, by decide⟩
theorem eJ : KF y2S := by
 refine ⟨⟨by decide, by decide⟩, ?_, ?_, fun i h => ?_⟩
 · intro h; exact absurd (congrArg (fun b : ByteArray => b.data.toList.length) h) (by decide)
 · intro h; exact absurd (congrArg (fun b : ByteArray => b.data.toList) h) (by decide)
 · have : i < 2 := h
   have : i = 0 ∨ i = 1 := by omega
   rcases this with rfl | rfl
   · show Mg 0 (121 : UInt8)
     exact .inl ⟨by decide, by decide⟩
   · show Mg 1 (50 : UInt8)
     exact .inr ⟨by decide, by decide, by decide⟩
theorem Y9 {p q : Int} (hp : 1 ≤ p ∧ p ≤ 4) (hq : 1 ≤ q ∧ q ≤ 4) : 1 ≤ p * q ∧ p * q ≤ 16 := by
 have : p = 1 ∨ p = 2 ∨ p = 3 ∨ p = 4 := by omega
 rcases this with rfl | rfl | rfl | rfl <;> omega
theorem aI (d : De) : Ez (CP d).vars = 0 := by
 obtain ⟨r0, a0, b0⟩ := Hp xS d.s0 d.l0 d.i0
 obtain ⟨r1, a1, b1⟩ := Hp y2S d.s1 d.l1 d.i1
 have hp := Y9 ⟨a0, b0⟩ ⟨a1, b1⟩
 unfold Ez CP
 dsimp only
 rw [if_neg (by simp), Fa, if_neg (fun c => c fP), if_neg List.not_mem_nil, if_neg (fun c => c r0), if_neg (by omega), if_neg (by omega), Fa, if_neg (fun c => c eJ), if_neg, if_neg (fun c => c r1), if_neg (by omega), if_neg, Fa]
 · rw [Int.one_mul]; omega
 · intro h
   have h2 : y2S = xS := List.mem_singleton.1 h
   exact absurd (congrArg (fun b : ByteArray => b.data.toList.length) h2) (by decide)
theorem aL (d : De) : 1 ≤ AQ (CP d).vars ∧ AQ (CP d).vars ≤ 16 := by
 obtain ⟨r0, a0, b0⟩ := Hp xS d.s0 d.l0 d.i0
 obtain ⟨r1, a1, b1⟩ := Hp y2S d.s1 d.l1 d.i1
 have hp := Y9 ⟨a0, b0⟩ ⟨a1, b1⟩
 unfold CP
 rw [AQ, AQ, AQ, Int.mul_one]
 exact hp
theorem aT (p : Pl) : ED (Dc p) 2 = 0 := by
 have hv := BE p.var (many := 2) (by decide)
 have hg := (Oo p.guard 2 3 0).kind0 (by have := Ma p.guard 2; omega) (by decide)
 have hn := (JS p.value 2 2 0).kind0 (by have := Po p.value 2 0; omega) (by decide)
 unfold ED Dc UU
 dsimp only
 rw [if_neg (by split <;> simp), if_neg (fun c => c hg), FL, if_neg (fun c => c hv), if_neg List.not_mem_nil, if_neg (fun c => c hn)]
 split
 · have hw : WfE (ExK 2) false [⟨2, pk p.var 2⟩] := .leaf (o := ⟨2, pk p.var 2⟩) (by
    unfold ExK opZ
    dsimp only
    rw [if_neg (by omega), if_neg (by omega)]) rfl
   have hk := hw.kind0 (by simp) (by decide)
   rw [FL, if_neg (fun c => c (by dsimp only; omega)), if_neg, if_neg (fun c => c hk), FL]
   intro h
   have h2 : (1 : Int) - pk p.var 2 = pk p.var 2 := List.mem_singleton.1 h
   omega
 · rw [FL]
theorem Nd (n : Int) : ∀ l : List Ru, (∀ r ∈ l, ED r n = 0) → D0 n l = 0
 | [], _ => rfl
 | r :: l, h => by
   rw [D0, if_neg (fun c => c (h r List.mem_cons_self))]
   exact Nd n l fun x hx => h x (List.mem_cons_of_mem _ hx)
theorem XJ (d : De) : Ag (CP d) = 0 := by
 unfold Ag
 rw [if_neg (fun c => c (aI d)), if_neg]
 · refine Nd _ _ fun r hr => ?_
   obtain ⟨p, _, rfl⟩ := List.mem_map.1 hr
   exact aT p
 · unfold CP
   rw [List.length_map, List.length_take]
   omega
theorem ZV (d : De) : Cd (CP d) MQ = 0 := by
 have h : ∀ a b c : Fo, a.kind = 6 ∨ a.kind = 7 → ExK 2 a → b.kind = 2 → ExK 2 b → c.kind = 1 ∨ c.kind = 2 → ExK 2 c → Cj [a, b, c] 2 true = 0 := fun a b c ha ka hb kb hc kc => by
  have w : WfE (ExK 2) (decide (C6 a.kind)) (a :: ([b] ++ [c])) := by
   refine .two ka (by rcases ha with e | e <;> rw [e] <;> rfl) ?_ ?_
   · have : decide (GV a.kind) = decide (C6 b.kind) := by rcases ha with e | e <;> rw [e, hb] <;> rfl
     rw [this]; exact .leaf kb (by rw [hb]; rfl)
   · have : decide (GV a.kind) = decide (C6 c.kind) := by rcases ha with e | e <;> rcases hc with f | f <;> rw [e, f] <;> rfl
     rw [this]; exact .leaf kc (by rcases hc with e | e <;> rw [e] <;> rfl)
  have e : decide (C6 a.kind) = true := by rcases ha with e | e <;> rw [e] <;> rfl
  rw [e] at w
  exact w.kind0 (by simp) (by decide)
 unfold Cd
 rw [if_neg (fun c => c (XJ d)), if_neg (by decide)]
 show DX 2 MQ = 0
 unfold MQ
 rw [DX, if_neg (fun c => c (h _ _ _ (.inr rfl) rfl rfl rfl (.inl rfl) rfl)), DX, if_neg (fun c => c (h _ _ _ (.inr rfl) rfl rfl rfl (.inr rfl) rfl)), DX, if_neg (fun c => c (h _ _ _ (.inl rfl) rfl rfl rfl (.inr rfl) rfl)), DX]
structure FoG (f : List Fo) : Prop where
 wf : Wf (FoK 3) f
 len : f.length ≤ 60
 ah : nAh f ≤ 6
theorem bC (d : De) {f : List Fo} (h : FoG f) : BL (DP d f) = 0 := by
 unfold BL DP
 dsimp only
 rw [if_neg (fun c => c (ZV d))]
 exact h.wf.form h.len h.ah (by decide)
theorem bk {t : Tk} (h : BL t = 0) (hp : AQ t.model.vars ≤ 16) (i : Nat) : (spF t i).length ≤ 1024 := by
 have hc := Dr t
 have hv := Ke h i
 have hn : ((spF t i).map fun b => b.kind * 64 + b.val).Nodup := by
  unfold List.Nodup
  rw [List.pairwise_map]
  refine List.Pairwise.imp_of_mem ?_ (Dv t i)
  intro a b ha hb hne he
  have h1 := hv a ha
  have h2 := hv b hb
  unfold Sm at h1 h2
  refine hne (Fo.ext' ?_ ?_) <;> omega
 have := Nk 1024 _ hn fun x hx => by
  obtain ⟨b, hb, rfl⟩ := List.mem_map.1 hx
  have h1 := hv b hb
  unfold Sm at h1
  omega
 rwa [List.length_map] at this
theorem Nc (t : Tk) {B : Nat} (hB : ∀ i, (spF t i).length ≤ B) (h2 : B ≤ 20000) : ∀ (f i : Nat) (nx : List (List Int)) (st : List Int), i ≤ B → B + 2 ≤ f + i → ∃ e, GM t f i (spF t i) nx st = some e
 | 0, i, nx, st, h, h' => by omega
 | f + 1, i, nx, st, h, h' => by
   by_cases hi : i < (spF t i).length
   · have hg : (spF t i)[i]? = some (spF t i)[i] := List.getElem?_eq_getElem hi
     have e1 : spF t (i + 1) = (BM (spF t i) (Ad t (spF t i)[i].kind (spF t i)[i].val).1).1 := by rw [spF, hg]
     have hl := hB (i + 1)
     rw [e1] at hl
     rw [Ny t f i _ nx st hi (by omega), ← e1]
     have := hB i
     exact Nc t hB h2 f (i + 1) _ _ (by omega) (by omega)
   · exact ⟨_, Kw t f i _ nx st (by omega)⟩
theorem Og {t : Tk} (h : BL t = 0) (hp : AQ t.model.vars ≤ 16) : ∃ e, An t = (some e, 0) := by
 obtain ⟨e, he⟩ := Nc t (bk h hp) (by decide) 20002 0 [] [] (by omega) (by omega)
 refine ⟨e, ?_⟩
 have he' : GM t 20002 0 (A3 t).1 [] [] = some e := he
 unfold An
 rw [if_neg (fun c => c h), he']
theorem Ho (d : De) {f : List Fo} (h : FoG f) : ∃ e, An (DP d f) = (some e, 0) := Og (bC d h) (aL d).2

section
variable {t : Tk} {e : Exp}
theorem XK (t : Tk) : ∀ n, byF t n + 4 * nkF t 0 = 12 * n + 4 * nkF t n
 | 0 => by show 0 + 4 * nkF t 0 = 12 * 0 + 4 * nkF t 0; omega
 | n + 1 => by
   have h := XK t n
   have h1 := OQ t (Nat.zero_le n)
   have h2 := OQ t (Nat.le_add_right n 1)
   show byF t n + rsF t n + 4 * nkF t 0 = _
   unfold rsF
   omega
theorem Grown.fits (g : Grown t e) {n : Nat} (h : n ≤ e.spots.length) : byF t n ≤ 1048576 := by
 have h1 := XK t n
 have h2 := g.nk h
 have h3 := g.few
 omega
theorem Grown.goes (g : Grown t e) {x : Ms} (h : x.n ≤ e.spots.length) : Gu t x ↔ x.n < e.spots.length := by
 constructor
 · intro k
   have := k.1
   have := g.nk h
   omega
 · intro k
   exact ⟨g.nk_at k, g.fits k⟩
theorem HE (g : Grown t e) : ∀ (k : Nat) {x : Ms}, MsI t e x →
 (wkF t k x).up = x.up ∧ (wkF t k x).s = x.s ∧ (wkF t k x).n = min (x.n + k) e.spots.length ∧ (wkF t k x).a + ((wkF t k x).m - (wkF t k x).n) = x.a + (x.m - x.n)
 | 0, x, h => by
   have := h.nN
   exact ⟨rfl, rfl, by rw [wkF]; omega, rfl⟩
 | k + 1, x, h => by
   have h1 := h.nN
   have h2 := h.n
   rw [wkF]
   by_cases c : Gu t x
   · rw [if_pos c]
     have c' := (g.goes h1).1 c
     obtain ⟨a1, a2, a3, a4⟩ := HE g k (h.go g c)
     rw [a1, a2, a3, ← a3, a4]
     refine ⟨rfl, rfl, ?_, ?_⟩
     · rw [a3]; show min (x.n + 1 + k) _ = _; omega
     · show (if x.n < x.m then x.a + 1 else x.a) + (max x.m (x.n + 1) - (x.n + 1)) = _
       split <;> omega
   · rw [if_neg c]
     have : ¬ x.n < e.spots.length := fun k => c ((g.goes h1).2 k)
     exact ⟨rfl, rfl, by omega, rfl⟩
def DnI (x : Ms) : Prop := x.up = false → x.s = x.n
theorem DnI.mv {x : Ms} (h : DnI x) (m : Fo) (hw : ∀ k, (wkF t k x).up = x.up) : DnI (mvF t x m) := by
 unfold mvF DnI
 split
 · intro h; cases h
 split
 · exact h
 split
 · intro k; rw [hw] at k; rename_i u _; exact absurd k u
 split
 · intro k; rfl
 · intro k; rfl
theorem Wr (t : Tk) (l : List Fo) (m : Fo) : runM t (l ++ [m]) = mvF t (runM t l) m := by unfold runM; rw [List.foldl_append]; rfl
structure DL (t : Tk) (e : Exp) (x : Ms) : Prop where
 ms : MsI t e x
 dn : DnI x
theorem DL.mv (g : Grown t e) {x : Ms} (h : DL t e x) (m : Fo) : DL t e (mvF t x m) :=
 ⟨h.ms.mv g m, h.dn.mv m fun k => (HE g k h.ms).1⟩
theorem DL.run (g : Grown t e) : ∀ (l : List Fo) {x : Ms}, DL t e x → DL t e (l.foldl (mvF t) x)
 | [], _, h => h
 | m :: l, _, h => DL.run g l (h.mv g m)
theorem DL.nil : DL t e B7 := ⟨MsI.nil, fun h => by cases h⟩
theorem Grown.runI (g : Grown t e) (l : List Fo) : DL t e (runM t l) := DL.run g l DL.nil
theorem HG (x : Ms) (k : Int) : mvF t x ⟨4, k⟩ = ⟨true, x.n, x.s, x.m, x.a⟩ := by unfold mvF; rw [if_pos rfl]
theorem Ip {x : Ms} (h : x.up = false) {m : Fo} (hm : m.kind ≠ 4) : mvF t x m = x := by unfold mvF; rw [if_neg hm, if_pos h]
theorem Hh {x : Ms} (h : x.up = true) (k : Int) : mvF t x ⟨1, k⟩ = wkF t k.toNat x := by
 unfold mvF; rw [if_neg (by dsimp only; decide), if_neg (by rw [h]; decide), if_pos rfl]
theorem Ih {x : Ms} (h : x.up = true) (k : Int) : mvF t x ⟨2, k⟩ = ⟨x.up, x.n, x.n, x.m, x.a⟩ := by
 unfold mvF; rw [if_neg (by dsimp only; decide), if_neg (by rw [h]; decide), if_neg (by dsimp only; decide), if_pos rfl]
theorem Ij {x : Ms} (h : x.up = true) (k : Int) : mvF t x ⟨3, k⟩ = ⟨false, kpF t (byF t x.s + k.toNat) x.n, kpF t (byF t x.s + k.toNat) x.n, x.m, x.a⟩ := by
 unfold mvF; rw [if_neg (by dsimp only; decide), if_neg (by rw [h]; decide), if_neg (by dsimp only; decide), if_neg (by dsimp only; decide)]
theorem UJ (t : Tk) {s n : Nat} (h : s ≤ n) (b : Nat) : s ≤ kpF t (byF t s + b) n := Oi t n h (Nat.le_add_right _ _)
theorem Ta (t : Tk) {s n : Nat} (h : s ≤ n) : kpF t (byF t s + 0) n = s := by
 refine UF t h (Nat.le_refl _) (.inr ?_)
 exact Wb t s
theorem DL.bounds (g : Grown t e) {x : Ms} (h : DL t e x) : x.s ≤ x.n ∧ x.n ≤ nkF t x.n ∧ nkF t x.n ≤ e.spots.length ∧ nkF t 0 ≤ nkF t x.n := by
 have h1 := h.ms.nN
 refine ⟨h.ms.s, ?_, g.nk h1, OQ t (Nat.zero_le _)⟩
 rcases Nat.lt_or_ge x.n e.spots.length with c | c
 · have := g.nk_at c; omega
 · have e1 : x.n = e.spots.length := by omega
   rw [e1, g.nk_end]; exact Nat.le_refl _
theorem DL.saved (g : Grown t e) {x : Ms} (h : DL t e x) (m : Fo) : x.s ≤ (mvF t x m).s := by
 have h1 := h.ms.s
 unfold mvF
 split
 · exact Nat.le_refl _
 split
 · exact Nat.le_refl _
 split
 · rw [(HE g _ h.ms).2.1]; exact Nat.le_refl _
 split
 · exact h1
 · exact UJ t h1 _
theorem DL.save {x : Ms} {m : Fo} (hm : m.kind = 2) (hu : (mvF t x m).up = true) : (mvF t x m).s = (mvF t x m).n := by
 obtain ⟨k, v⟩ := m
 subst hm
 by_cases c : x.up = true
 · rw [Ih c]
 · rw [Ip (by simpa using c) (by dsimp only; decide)] at hu
   exact absurd hu c
theorem DL.crash (g : Grown t e) {x : Ms} (h : DL t e x) (k : Int) : (mvF t x ⟨3, k⟩).up = false ∧ x.s ≤ (mvF t x ⟨3, k⟩).n ∧ (mvF t x ⟨3, k⟩).n ≤ x.n ∧ (mvF t x ⟨3, k⟩).s = (mvF t x ⟨3, k⟩).n := by
 by_cases c : x.up = true
 · rw [Ij c]
   exact ⟨rfl, UJ t h.ms.s _, HR t _ _, rfl⟩
 · have c' : x.up = false := by simpa using c
   rw [Ip c' (by dsimp only; decide)]
   exact ⟨c', h.ms.s, Nat.le_refl _, h.dn c'⟩
theorem DL.crash0 {x : Ms} (h : DL t e x) : (mvF t x ⟨3, 0⟩).n = x.s := by
 by_cases c : x.up = true
 · rw [Ij c]; exact Ta t h.ms.s
 · have c' : x.up = false := by simpa using c
   rw [Ip c' (by dsimp only; decide)]; exact (h.dn c').symm
def QK (was : Nat) (m : Fo) (now : Nat) : Nat := if m.kind = 3 then was - now else 0
theorem DL.again (g : Grown t e) {x : Ms} (h : DL t e x) {m : Fo} (hk : m.kind = 1 ∨ m.kind = 2 ∨ m.kind = 3 ∨ m.kind = 4) : (mvF t x m).a + ((mvF t x m).m - (mvF t x m).n) ≤ x.a + (x.m - x.n) + QK x.n m (mvF t x m).n := by
 have h1 := h.ms.n
 by_cases c4 : m.kind = 4
 · obtain ⟨k, v⟩ := m
   subst c4
   rw [HG]; dsimp only; omega
 by_cases cu : x.up = true
 · by_cases c1 : m.kind = 1
   · obtain ⟨k, v⟩ := m
     subst c1
     rw [Hh cu]
     have := (HE g v.toNat h.ms).2.2.2
     omega
   · by_cases c2 : m.kind = 2
     · obtain ⟨k, v⟩ := m
       subst c2
       rw [Ih cu]; dsimp only; omega
     · have e3 : mvF t x m = ⟨false, kpF t (byF t x.s + m.val.toNat) x.n, kpF t (byF t x.s + m.val.toNat) x.n, x.m, x.a⟩ := by
        unfold mvF; rw [if_neg c4, if_neg (by rw [cu]; decide), if_neg c1, if_neg c2]
       have hk := HR t (byF t x.s + m.val.toNat) x.n
       rw [e3]; dsimp only
       unfold QK
       rw [if_pos (by omega)]; omega
 · rw [Ip (by simpa using cu) c4]; omega
end
end Go.Sp
namespace Go.Proofs
open Go.Shelf
def Tryz.lays189_ren : Go.Shelf.Ren := ⟨fun | 189 => 143 | 125 => 181 | 257 => 180 | 128 => 202 | 129 => 203 | 294 => 194 | 295 => 195 | 296 => 196 | 297 => 197 | 298 => 198 | 299 => 199 | 216 => 185 | 300 => 200 | 301 => 201 | 328 => 209 | 329 => 210 | 330 => 211 | 331 => 212 | 332 => 213 | 215 => 205 | 343 => 214 | n => n, fun | 28 => 49 | 3 => 3 | 46 => 207 | 0 => 0 | 51 => 250 | 53 => 252 | 4 => 4 | 183 => 244 | 182 => 243 | 131 => 107 | 5 => 5 | 9 => 9 | 218 => 255 | 222 => 259 | 228 => 261 | 229 => 262 | n => n, fun | n => n⟩
theorem Tryz.lays189 : Go.Proofs.Lays.n189 Tryz.prog Tryz.lays189_ren := {
 mixed := by kernel_rfl
 f125 := Tryz.func181.trans (congrArg some (by kernel_rfl))
 f128 := Tryz.func202.trans (congrArg some (by kernel_rfl))
 f129 := Tryz.func203.trans (congrArg some (by kernel_rfl))
 f189 := Tryz.func143.trans (congrArg some (by kernel_rfl))
 f215 := Tryz.func205.trans (congrArg some (by kernel_rfl))
 f216 := Tryz.func185.trans (congrArg some (by kernel_rfl))
 f257 := Tryz.func180.trans (congrArg some (by kernel_rfl))
 f294 := Tryz.func194.trans (congrArg some (by kernel_rfl))
 f295 := Tryz.func195.trans (congrArg some (by kernel_rfl))
 f296 := Tryz.func196.trans (congrArg some (by kernel_rfl))
 f297 := Tryz.func197.trans (congrArg some (by kernel_rfl))
 f298 := Tryz.func198.trans (congrArg some (by kernel_rfl))
 f299 := Tryz.func199.trans (congrArg some (by kernel_rfl))
 f300 := Tryz.func200.trans (congrArg some (by kernel_rfl))
 f301 := Tryz.func201.trans (congrArg some (by kernel_rfl))
 f328 := Tryz.func209.trans (congrArg some (by kernel_rfl))
 f329 := Tryz.func210.trans (congrArg some (by kernel_rfl))
 f330 := Tryz.func211.trans (congrArg some (by kernel_rfl))
 f331 := Tryz.func212.trans (congrArg some (by kernel_rfl))
 f332 := Tryz.func213.trans (congrArg some (by kernel_rfl))
 f343 := Tryz.func214.trans (congrArg some (by kernel_rfl))
 t0 := Tryz.underlying0
 a0 := Tryz.isAgg0
 z0 := Tryz.sizeOf0
 v0 := Tryz.zeroValue0
 t3 := Tryz.underlying3
 a3 := Tryz.isAgg3
 z3 := Tryz.sizeOf3
 v3 := Tryz.zeroValue3
 t4 := Tryz.underlying4
 a4 := Tryz.isAgg4
 z4 := Tryz.sizeOf4
 v4 := Tryz.zeroValue4
 t5 := Tryz.underlying5
 a5 := Tryz.isAgg5
 z5 := Tryz.sizeOf5
 v5 := Tryz.zeroValue5
 t9 := Tryz.underlying9
 a9 := Tryz.isAgg9
 z9 := Tryz.sizeOf9
 v9 := Tryz.zeroValue9
 t28 := Tryz.underlying49
 a28 := Tryz.isAgg49
 z28 := Tryz.sizeOf49
 v28 := Tryz.zeroValue49
 t46 := Tryz.underlying207
 a46 := Tryz.isAgg207
 z46 := Tryz.sizeOf207
 v46 := Tryz.zeroValue207
 t51 := Tryz.underlying250
 a51 := Tryz.isAgg250
 z51 := Tryz.sizeOf250
 v51 := Tryz.zeroValue250
 t53 := Tryz.underlying252
 a53 := Tryz.isAgg252
 z53 := Tryz.sizeOf252
 v53 := Tryz.zeroValue252
 t131 := Tryz.underlying107
 a131 := Tryz.isAgg107
 z131 := Tryz.sizeOf107
 v131 := Tryz.zeroValue107
 t182 := Tryz.underlying243
 a182 := Tryz.isAgg243
 z182 := Tryz.sizeOf243
 v182 := Tryz.zeroValue243
 t183 := Tryz.underlying244
 a183 := Tryz.isAgg244
 z183 := Tryz.sizeOf244
 v183 := Tryz.zeroValue244
 t218 := Tryz.underlying255
 a218 := Tryz.isAgg255
 z218 := Tryz.sizeOf255
 v218 := Tryz.zeroValue255
 t222 := Tryz.underlying259
 a222 := Tryz.isAgg259
 z222 := Tryz.sizeOf259
 v222 := Tryz.zeroValue259
 t228 := Tryz.underlying261
 a228 := Tryz.isAgg261
 z228 := Tryz.sizeOf261
 v228 := Tryz.zeroValue261
 t229 := Tryz.underlying262
 a229 := Tryz.isAgg262
 z229 := Tryz.sizeOf262
 v229 := Tryz.zeroValue262 }
def Tryz.lays20_ren : Go.Shelf.Ren := ⟨fun | 20 => 178 | n => n, fun | 22 => 49 | 3 => 3 | 4 => 4 | 0 => 0 | n => n, fun | n => n⟩
theorem Tryz.lays20 : Go.Proofs.Lays2.n20 Tryz.prog Tryz.lays20_ren := {
 mixed := by kernel_rfl
 f20 := Tryz.func178.trans (congrArg some (by kernel_rfl))
 t0 := Tryz.underlying0
 a0 := Tryz.isAgg0
 z0 := Tryz.sizeOf0
 v0 := Tryz.zeroValue0
 t3 := Tryz.underlying3
 a3 := Tryz.isAgg3
 z3 := Tryz.sizeOf3
 v3 := Tryz.zeroValue3
 t4 := Tryz.underlying4
 a4 := Tryz.isAgg4
 z4 := Tryz.sizeOf4
 v4 := Tryz.zeroValue4
 t22 := Tryz.underlying49
 a22 := Tryz.isAgg49
 z22 := Tryz.sizeOf49
 v22 := Tryz.zeroValue49
 i3 := by kernel_rfl }
end Go.Proofs
namespace Go.Proofs.YtnlfhnbcdfdhgaaGreatDoor
open Go Go.Av Go.Sp
theorem DJ : Cal Tryz.prog 143 := Cal.of Tryz.func143 (by kernel_rfl) (by kernel_rfl)
theorem OE : Cal Tryz.prog 178 := Cal.of Tryz.func178 (by kernel_rfl) (by kernel_rfl)
theorem R8 : Cal Tryz.prog 184 := Cal.of Tryz.func184 (by kernel_rfl) (by kernel_rfl)
theorem Mq : Cal Tryz.prog 148 := Cal.of Tryz.func148 (by kernel_rfl) (by kernel_rfl)
theorem bu (G : List (Nat × List D)) (q : Sl) (xs : List Int) (hb : xs.length < 4611686018427387904) : AC Tryz.prog G 143 [.val q.v] [AH q.v 3 1 Aa xs] fun e h => e = .ret (.tup []) ∧ h = [AH q.v 3 1 Aa (A9 xs)] :=
 X7 q xs hb (fun blk cap zs w h1 h2 h3 => Any.slices_Sort_int Tryz.lays189 blk 0 cap zs w h1 h2 h3) fun w => Any.slices_Sort_int_none Tryz.lays189 none 0 w
theorem CompactI (G : List (Nat × List D)) (q : Sl) (xs : List Int) (hb : xs.length ≤ 9223372036854775807) (hk : (Lib.compact xs).length ≤ xs.length) : AC Tryz.prog G 178 [.val q.v] [AH q.v 3 1 Aa xs] fun e h => ∃ q' : Sl, e = .ret (.val q'.v) ∧ h = [AH q'.v 3 1 Aa (Lib.compact xs)] :=
 Pd q xs hb hk (fun blk cap zs w h1 h2 h3 => Any.slices_Compact_int Tryz.lays20 blk 0 cap zs w h1 h2 h3) fun w => Any.slices_Compact_int_empty Tryz.lays20 none 0 w
def EL (v : Int) : List Int → Nat → Int
 | [], _ => -1
 | x :: l, i => if v = x then i else EL v l (i + 1)
theorem Vk (v : Int) (l : List Int) (i : Nat) (h : i < l.length) : EL v (l.drop i) i = if v = l[i] then (i : Int) else EL v (l.drop (i + 1)) (i + 1) := by
 rw [List.drop_eq_getElem_cons h, EL]
theorem TI (v : Int) (l : List Int) (i : Nat) (h : l.length ≤ i) : EL v (l.drop i) i = -1 := by
 rw [List.drop_of_length_le h, EL]
theorem NC (v : Int) : ∀ (l : List Int) (i : Nat), 0 ≤ EL v l i ↔ v ∈ l
 | [], i => by simp [EL]
 | x :: l, i => by
   rw [EL, List.mem_cons]
   by_cases h : v = x
   · rw [if_pos h]; exact ⟨fun _ => .inl h, fun _ => by omega⟩
   · rw [if_neg h, NC v l (i + 1)]; exact ⟨.inr, fun k => k.resolve_left h⟩
theorem da (G : List (Nat × List D)) (l : List Int) (v : Int) : ACr Tryz.prog G 184 [.d (AK l), .int v] (.int (EL v l 0)) := by
 refine AJ (ts := [4]) Tryz.f184.ntmps Tryz.func184 rfl rfl rfl (by simp [Tryz.ntmps184]) fun W I => ?_
 refine DB (t := 0) rfl fun hl => ?_
 repeat' (first
  | exact True.intro | refine AG ?_ | refine two ?_ ?_ | refine AF fun c_ => ?_
  | (refine imp fun hc => ?_) <;> try exact cx1 hc
  | refine all fun v_ => ?_)
 refine AM (X := Nat) (fun i => [(0, .d (AK l)), (1, .int v), (7, .int l.length), (8, .int i)]) (fun _ => []) (fun i => i ≤ l.length ∧ EL v l 0 = EL v (l.drop i) i) (fun i => l.length - i) 0 ⟨Nat.zero_le _, rfl⟩ (VS.of_le ?_) ?_
 · exact leD
 rintro i ⟨h1, h2⟩
 by_cases hi : i < l.length
 · rw [Vk v l i hi] at h2
   by_cases hv : v = l[i]
   · rw [if_pos hv] at h2
     repeat' (first
      | exact True.intro | refine AG ?_ | refine two ?_ ?_ | refine AF fun c_ => ?_
      | (refine imp fun hc => ?_) <;> try exact cx1 hc
      | refine all fun v_ => ?_)
     refine A6 ?_
     ((with_reducible apply rq1); rfl; rfl)
     exact AB (by rw [h2])
   · rw [if_neg hv] at h2
     repeat' (first
      | exact True.intro | refine AG ?_ | refine two ?_ ?_ | refine AF fun c_ => ?_
      | (refine imp fun hc => ?_) <;> try exact cx1 hc
      | refine all fun v_ => ?_)
     refine ⟨i + 1, ⟨by omega, h2⟩, by omega, VS.of_le ?_⟩
     exact leD
 rw [TI v l i (by omega)] at h2
 repeat' (first
  | exact True.intro | refine AG ?_ | refine two ?_ ?_ | refine AF fun c_ => ?_
  | (refine imp fun hc => ?_) <;> try exact cx1 hc
  | refine all fun v_ => ?_)
 refine A6 ?_
 ((with_reducible apply rq1); rfl; rfl)
 exact AB (by rw [h2])
theorem WR (G : List (Nat × List D)) (l : List Int) (v : Int) : ACr Tryz.prog G 148 [.d (AK l), .int v] (.bool (decide (v ∈ l))) := by
 refine AJ (ts := [4]) Tryz.f148.ntmps Tryz.func148 rfl rfl rfl (by simp [Tryz.ntmps148]) fun W I => ?_
 repeat' (first
  | refine ca R8 (da _ _ _) ?_
  | exact True.intro | refine AG ?_ | refine two ?_ ?_ | refine AF fun c_ => ?_
  | (refine imp fun hc => ?_) <;> try exact cx1 hc
  | refine all fun v_ => ?_)
 refine A6 ?_
 ((with_reducible apply rq1); rfl; rfl)
 refine AB (congrArg AV.bool ?_)
 exact decide_eq_decide.2 (NC v l 0)
end Go.Proofs.YtnlfhnbcdfdhgaaGreatDoor
