/- A bundle of this claim's own texts: W6 W7 W8 W9 W11 N15 Sg G18. -/
import Derived.Lib.AppendZerosOnto
import Derived.Lib.SliceRun
import Derived.Test.YtibahljljjkceaaGreatDoorA2
import Derived.Test.YtibahljljjkceaaGreatDoorA7
import Derived.Test.YtibahljljjkceaaGreatDoorA11
import Derived.Test.YtibahljljjkceaaGreatDoorA13
import Derived.Test.YtibahljljjkceaaGreatDoorA20
import Derived.Test.YtibahljljjkceaaGreatDoorA21
import Derived.Test.YtibahljljjkceaaGreatDoorA23
import Derived.Test.YtibahljljjkceaaGreatDoorA24
import Derived.Test.YtibahljljjkceaaGreatDoorA26
import Derived.Test.YtibahljljjkceaaGreatDoorA27
set_option linter.unusedVariables false
set_option linter.unusedSimpArgs false
set_option maxRecDepth 100000
set_option maxHeartbeats 4000000
namespace Go.Proofs.YtibahljljjkceaaGreatDoor
open Go Go.Av Go.Sp




theorem YN (l : List Fo) (al : List (List Bool)) (s : Nat) : ((List.replicate l.length ()).map fun _ => AV.val (.slice none 0 0)) = Fh l al s l.length := by rw [Q8]; simp

abbrev wal (w : Wd) : List (List Bool) := w.stem ++ w.loop
theorem YH (G : List (Nat × List D)) (l : List Fo) (w : Wd) (p : Int) (g : Hg l p) (hs12 : w.stem.length ≤ 400) (hl1 : 1 ≤ w.loop.length) (hl12 : w.loop.length ≤ 400) (hal6 : ∀ x ∈ w.stem ++ w.loop, (x.length : Int) = p) : ACr Tryz.prog G 43 [.d (AO l), wdA w] (.d (C6 (R5 l (wal w) w.stem.length))) := by
 have h60 := g.h60
 have hN : (w.stem ++ w.loop).length = w.stem.length + w.loop.length := List.length_append
 refine AN (ts := [4]) Tryz.f43.ntmps Tryz.func43 rfl rfl rfl (by simp [Tryz.ntmps43]) fun W I => ?_
 repeat' (first
  | ((with_reducible apply (jmk (fun _ : Unit => .val (.slice none 0 0)) ())); (focus rfl); (focus rfl); (focus (with_reducible exact ElC.h)); (focus rfl); (focus rfl); (focus omega); (focus omega); (focus rfl))
  | exact True.intro | refine AD ?_ | refine two ?_ ?_ | refine AB fun c_ => ?_
  | (refine imp fun hc => ?_) <;> try exact cx1 hc
  | refine all fun v_ => ?_)
 rename_i bw
 rename Nat => br
 rw [YN l (w.stem ++ w.loop) w.stem.length]
 refine AG (X := Nat) (fun i => [(0, .d (AO l)), (3, .val (.pointer (some ⟨bw, 0, none⟩))), (5, .int ((w.stem.length : Int) + w.loop.length)), (6, .val (.slice (some ⟨br, 0, none⟩) l.length l.length)), (7, .int ((i : Int) - 1))]) (fun i => [.cells br 95 (Fh l (w.stem ++ w.loop) w.stem.length i), .cells bw 94 [.d (C6 w.stem), .d (C6 w.loop)]]) (fun i => i ≤ l.length) (fun i => i) l.length (Nat.le_refl _) (VS.of_le ?_) ?_
 · exact leD
 intro i hi
 cases i with
 | zero =>
   repeat' (first
    | exact True.intro | refine AD ?_ | refine two ?_ ?_ | refine AB fun c_ => ?_
    | (refine imp fun hc => ?_) <;> try exact cx1 hc
    | refine all fun v_ => ?_)
   rw [U7]
   refine AH (vfz (t := 4) (f := IE) (h1 := []) 1 24 rfl rfl rfl (Qc _) (by simp) (fun _ => rfl) (by omega) (by omega)) ?_
   ((with_reducible apply rq1); rfl; rfl)
   exact AA rfl
 | succ m =>
   have hm : m < l.length := by omega
   have hm1 : ((m + 1 : Nat) : Int) - 1 = (m : Int) := by omega
   have hblt : Nat.blt m (Fh l (w.stem ++ w.loop) w.stem.length (m + 1)).length = true := ZO (by rw [Uh]; exact hm)
   rw [hm1]
   repeat' (first
    | exact True.intro | refine AD ?_ | refine two ?_ ?_ | refine AB fun c_ => ?_
    | (refine imp fun hc => ?_) <;> try exact cx1 hc
    | refine all fun v_ => ?_)
   refine AG (X := Nat × Sl) (fun y => [(0, .d (AO l)), (3, .val (.pointer (some ⟨bw, 0, none⟩))), (5, .int ((w.stem.length : Int) + w.loop.length)), (6, .val (.slice (some ⟨br, 0, none⟩) l.length l.length)), (7, .int m), (8, .val y.2.v), (9, .int y.1)]) (fun y => [AM y.2.v 4 1 Dq ((List.range y.1).map (wAt l (w.stem ++ w.loop) w.stem.length m)), .cells br 95 (Fh l (w.stem ++ w.loop) w.stem.length (m + 1)), .cells bw 94 [.d (C6 w.stem), .d (C6 w.loop)]]) (fun y => y.1 ≤ w.stem.length + w.loop.length) (fun y => w.stem.length + w.loop.length - y.1) (0, Sl.nil) (Nat.zero_le _) (VS.trans (VS.nilrow 4 1) (VS.of_le ?_)) ?_
   · exact leD
   rintro ⟨j, q⟩ hj
   dsimp only at hj ⊢
   have hlj : ((List.range j).map (wAt l (w.stem ++ w.loop) w.stem.length m)).length = j := by simp
   by_cases hjl : j < w.stem.length + w.loop.length
   · have S := said G l w p br m j (Fh l (w.stem ++ w.loop) w.stem.length (m + 1)) g hm (by omega) hs12 hl1 hl12 hal6 (fun j' h1 h2 => Up (by omega) h2)
     have hsn : (List.range j).map (wAt l (w.stem ++ w.loop) w.stem.length m) ++ [wAt l (w.stem ++ w.loop) w.stem.length m j] = (List.range (j + 1)).map (wAt l (w.stem ++ w.loop) w.stem.length m) := by simp [List.range_succ]
     repeat' (first
      | refine cag Wj (S) ?_
      | exact True.intro | refine AD ?_ | refine two ?_ ?_ | refine AB fun c_ => ?_
      | (refine imp fun hc => ?_) <;> try exact cx1 hc
      | refine all fun v_ => ?_)
     rw [hsn]
     refine ⟨(j + 1, v_), by dsimp only; omega, by dsimp only; omega, VS.take (by exact Ap) ?_⟩
     exact leD
   obtain rfl : j = w.stem.length + w.loop.length := by omega
   repeat' (first
    | ((with_reducible apply js_u); (focus rfl); (focus rfl); (focus rfl); (focus (with_reducible exact ElC.h)); (focus exact CV); (focus exact hblt))
    | exact True.intro | refine AD ?_ | refine two ?_ ?_ | refine AB fun c_ => ?_
    | (refine imp fun hc => ?_) <;> try exact cx1 hc
    | refine all fun v_ => ?_)
   rw [← hN]
   refine ⟨m, by omega, by omega, VS.trans (VS.take (hc := [AM q.v 4 1 Dq (EI l (w.stem ++ w.loop) w.stem.length m), .cells br 95 ((Fh l (w.stem ++ w.loop) w.stem.length (m + 1)).set m (.val q.v)), .cells bw 94 [.d (C6 w.stem), .d (C6 w.loop)]]) (by exact AI) (Env.le_refl _)) (VS.trans (Gj (f := Dq) (h1 := []) (h2 := [.cells br 95 ((Fh l (w.stem ++ w.loop) w.stem.length (m + 1)).set m (.val q.v)), .cells bw 94 [.d (C6 w.stem), .d (C6 w.loop)]]) (h' := [.cells br 95 (Fh l (w.stem ++ w.loop) w.stem.length m), .cells bw 94 [.d (C6 w.stem), .d (C6 w.loop)]]) 1 rfl rfl (fun _ => rfl) (by rw [Pp]; omega) (CvE.refl _ _ _) (.cells (by rw [← VA hm]; exact Cvs.at _ _ _ _) (.refl _))) (VS.of_le ?_))⟩
   exact leD
end Go.Proofs.YtibahljljjkceaaGreatDoor
namespace Go.Sp
open Go Go.Av
noncomputable def Aa (t : Tk) (l : List Int) : List (List Bool) := l.map fun c => (EU t.model t.props c).1
end Go.Sp
namespace Go.Proofs.YtibahljljjkceaaGreatDoor
open Go Go.Av Go.Sp
theorem IH (t : Tk) (l : List Int) (i : Nat) (h : i < l.length) : Aa t (l.take (i + 1)) = Aa t (l.take i) ++ [(EU t.model t.props l[i]).1] := by
 unfold Aa
 rw [List.take_succ_eq_append_getElem h, List.map_append]; rfl
theorem Ek (t : Tk) (l : List Int) : (Aa t l).length = l.length := by simp [Aa]
end Go.Proofs.YtibahljljjkceaaGreatDoor
namespace Go.Sp
open Go.Av

def H5 (k : Int) (a1 s b b1 : Bool) : Bool := if k = 14 then b1 else if k = 17 then a1 || b else if k = 18 then a1 && b else if k = 15 then s || (a1 && b) else s && (a1 || b)
theorem Od {k : Int} (a1 u v b b1 : Bool) (hk : Ao k) (hu : k = 15 ∨ k = 16 → u = v) : H5 k a1 u b b1 = H5 k a1 v b b1 := by
 by_cases h : k = 15 ∨ k = 16
 · rw [hu h]
 · unfold Ao at hk
   unfold H5
   by_cases h14 : k = 14
   · rw [if_pos h14, if_pos h14]
   by_cases h17 : k = 17
   · rw [if_neg h14, if_neg h14, if_pos h17, if_pos h17]
   rw [if_neg h14, if_neg h14, if_neg h17, if_neg h17, if_pos (by omega), if_pos (by omega)]
def TJ (k : Int) (a a1 s : Bool) : Bool := if k = 17 then !a || a1 else if k = 18 then a || !a1 else if k = 15 then !a || s else if k = 16 then a || !s else true
def F9 (l : List Fo) (A B : Nat → Bool) (i : Nat) : Prop := Ao (AQ l i) → A i = H5 (AQ l i) (A (i + 1)) (A (second l i)) (B i) (B (i + 1))
instance (l : List Fo) (A B : Nat → Bool) (i : Nat) : Decidable (F9 l A B i) := by unfold F9; infer_instance
def kept (l : List Fo) (A B : Nat → Bool) : Prop := ∀ i, i < l.length → F9 l A B i
instance (l : List Fo) (A B : Nat → Bool) : Decidable (kept l A B) := by unfold kept; infer_instance
def CN (l : List Fo) (x : List Bool) (c : Int) (y : List Bool) (d : Int) : Bool × Int :=
 if x.length ≠ y.length then (false, 1)
 else if (A0 l x c).2 ≠ 0 then (false, (A0 l x c).2)
 else if (A0 l y d).2 ≠ 0 then (false, (A0 l y d).2)
 else (decide (kept l (tAt l x c) (tAt l y d)), 0)
def metAt (l : List Fo) (A : Nat → Bool) (i : Nat) : Bool := TJ (AQ l i) (A i) (A (i + 1)) (A (second l i))
def Ee (l : List Fo) (A : Nat → Bool) : Nat → Int
 | 0 => 0
 | i + 1 => Ee l A i + if Ao (AQ l i) ∧ metAt l A i = true then 2 ^ Ay l i else 0
def CI (l : List Fo) (x : List Bool) (c : Int) : Int × Int :=
 if (A0 l x c).2 ≠ 0 then (0, (A0 l x c).2) else (Ee l (tAt l x c) l.length, 0)
theorem FF (l : List Fo) (A : Nat → Bool) : ∀ i, 0 ≤ Ee l A i ∧ Ee l A i < 2 ^ Ay l i
 | 0 => by simp [Ee, Ay]
 | i + 1 => by
   have ih := FF l A i
   simp only [Ee, Ay]
   by_cases h1 : Ao (AQ l i)
   · rw [if_pos h1, Int.pow_succ]
     by_cases h2 : metAt l A i = true
     · rw [if_pos ⟨h1, h2⟩]; omega
     · rw [if_neg (fun h => h2 h.2)]; omega
   · rw [if_neg h1, if_neg (fun h => h1 h.1), Nat.add_zero]; omega
structure TV (l : List Fo) (a : List Bool) (A : Nat → Bool) : Prop where
 len : a.length = l.length
 get : ∀ (i : Nat) (h : i < a.length), a[i] = A i
theorem Dk {l : List Fo} {x : List Bool} {c : Int} {a : List Bool} (h : A0 l x c = (a, 0)) : Hg l x.length ∧ TV l a (tAt l x c) := by
 unfold A0 at h
 by_cases h1 : (AZ l x.length).2 ≠ 0
 · rw [if_pos h1] at h; simp at h; exact absurd h.2 h1
 rw [if_neg h1] at h
 by_cases h2 : c < 0 ∨ 2 ^ (AZ l x.length).1.length ≤ c
 · rw [if_pos h2] at h; simp at h
 rw [if_neg h2] at h
 simp only [Prod.mk.injEq, and_true] at h
 subst h
 have := Hj (l := l) (p := x.length) (ps := (AZ l x.length).1) (Prod.ext rfl (by simpa using h1))
 exact ⟨Eu this.1, by simp, fun i hi => by simp⟩
open Go Go.Av

noncomputable def QY (t : Tk) (st cl c : Int) (d : Int) : Bool := decide (kept t.formula (tAt t.formula (Bh t st) cl) (tAt t.formula (Bh t c) d))
theorem L1 {t : Tk} (h : BH t = 0) {st cl c d : Int} (h0 : 0 ≤ cl) (h1 : cl < A4 t) (h2 : 0 ≤ d) (h3 : d < A4 t) : CN t.formula (Bh t st) cl (Bh t c) d = (QY t st cl c d, 0) := by
 have e1 := Ew h (Bh t st) (EN t st) h0 h1
 have e2 := Ew h (Bh t c) (EN t c) h2 h3
 unfold CN
 rw [if_neg (by simp), e1, e2, if_neg (by simp), if_neg (by simp)]
 rfl
noncomputable def Ht (t : Tk) (st cl c : Int) (k : Nat) : List Fo := ((List.range k).filter fun d : Nat => QY t st cl c d).map fun d : Nat => ⟨c, d⟩
theorem Pb {t : Tk} {st cl c : Int} {k : Nat} (h : QY t st cl c k = true) : Ht t st cl c (k + 1) = Ht t st cl c k ++ [⟨c, k⟩] := by
 unfold Ht
 rw [List.range_succ, List.filter_append, List.map_append]
 simp [h]
theorem SI {t : Tk} {st cl c : Int} {k : Nat} (h : QY t st cl c k = false) : Ht t st cl c (k + 1) = Ht t st cl c k := by
 unfold Ht
 rw [List.range_succ, List.filter_append, List.map_append]
 simp [h]
theorem Ld (t : Tk) (st cl c : Int) (k : Nat) : (Ht t st cl c k).length ≤ k := by
 unfold Ht
 rw [List.length_map]
 exact Nat.le_trans (List.length_filter_le _ _) (by simp)
noncomputable def H7 (t : Tk) (st cl : Int) (cs : List Int) : List Fo := cs.flatMap fun c => Ht t st cl c (A4 t)
theorem Mr (t : Tk) (st cl : Int) (cs : List Int) (i : Nat) (h : i < cs.length) : H7 t st cl (cs.take (i + 1)) = H7 t st cl (cs.take i) ++ Ht t st cl cs[i] (A4 t) := by
 unfold H7
 rw [List.take_succ_eq_append_getElem h, List.flatMap_append]
 simp
theorem Jb (t : Tk) (st cl : Int) : ∀ cs : List Int, (H7 t st cl cs).length ≤ cs.length * 64
 | [] => by simp [H7]
 | c :: cs => by
   have ih := Jb t st cl cs
   have h1 := Ld t st cl c (A4 t)
   have h2 := (DA t).2
   have e : H7 t st cl (c :: cs) = Ht t st cl c (A4 t) ++ H7 t st cl cs := by simp [H7]
   rw [e, List.length_append, List.length_cons]
   omega
noncomputable def A2 (t : Tk) (st cl : Int) : List Fo × Int :=
 if BH t ≠ 0 then ([], BH t)
 else if ¬ ((0 ≤ st ∧ st < AS t.model.vars) ∧ 0 ≤ cl ∧ cl < A4 t) then ([], 9)
 else (H7 t st cl (DV t.model st).1, 0)
theorem Jm {m : Md} (hm : AU m = 0) (c : Int) : (DV m c).1.length ≤ 4096 := by
 by_cases h : (BL m c).2 ≠ 0
 · rw [Ga h]; exact Nat.zero_le _
 · rw [JN (Decidable.not_not.1 h)]
   obtain ⟨n, hn, n1, n2⟩ := DJ hm
   dsimp only
   split
   · simp
   · rw [hn, Int.toNat_natCast]; exact Nat.le_trans (Lu _ _) n2
end Go.Sp
