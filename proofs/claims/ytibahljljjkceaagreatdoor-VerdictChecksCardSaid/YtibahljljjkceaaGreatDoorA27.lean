/- A bundle of this claim's own texts: W10. -/
import Derived.Test.YtibahljljjkceaaGreatDoorA7
import Derived.Test.YtibahljljjkceaaGreatDoorA11
import Derived.Test.YtibahljljjkceaaGreatDoorA20
import Derived.Test.YtibahljljjkceaaGreatDoorA21
import Derived.Test.YtibahljljjkceaaGreatDoorA26
set_option linter.unusedVariables false
set_option linter.unusedSimpArgs false
set_option maxRecDepth 100000
set_option maxHeartbeats 4000000
namespace Go.Sp
open Go Go.Av
theorem MS {s L j : Nat} (hL : 0 < L) : Dh s L (j + 1) = wnx s (s + L) (Dh s L j) := by
 unfold wnx
 by_cases h : j + 1 < s + L
 · rw [Cm h, Cm (show j < s + L by omega), if_pos h]
 · unfold Dh
   rw [if_neg h]
   by_cases h2 : j < s + L
   · rw [if_pos h2, if_neg h]
     have e : j + 1 - s = L := by omega
     rw [e, Nat.mod_self]; rfl
   · rw [if_neg h2]
     have e : j + 1 - s = (j - s) + 1 := by omega
     have hm := Nat.mod_lt (j - s) hL
     rw [e, Nat.add_mod]
     by_cases c : s + (j - s) % L + 1 < s + L
     · rw [if_pos c]
       have : 1 % L = 1 := Nat.mod_eq_of_lt (by omega)
       rw [this, Nat.mod_eq_of_lt (by omega)]; omega
     · rw [if_neg c]
       by_cases c1 : L = 1
       · subst c1; simp [Nat.mod_one]
       · have : 1 % L = 1 := Nat.mod_eq_of_lt (by omega)
         rw [this, show (j - s) % L + 1 = L by omega, Nat.mod_self]; rfl
theorem Jd {a : La} {s L i j : Nat} (hL : 0 < L) (hn : a.nxt = wnx s (s + L)) (hj : j ≤ i + (s + L)) : a.up (i + (s + L) + 1 - j) (Dh s L j) = a.step (Dh s L j) (a.up (i + (s + L) + 1 - (j + 1)) (Dh s L (j + 1))) := by
 rw [show i + (s + L) + 1 - j = (i + (s + L) + 1 - (j + 1)) + 1 by omega, La.up, hn, MS hL]
abbrev R5 (l : List Fo) (al : List (List Bool)) (s : Nat) : List (List Bool) := (List.range l.length).map (EI l al s)
theorem U7 (l : List Fo) (al : List (List Bool)) (s : Nat) : Fh l al s 0 = (R5 l al s).map fun r => AV.d (.l 1 1 (r.map Dq)) := by
 unfold Fh
 rw [List.map_map]
 refine List.map_congr_left fun j _ => ?_
 simp
end Go.Sp
namespace Go.Proofs.YtibahljljjkceaaGreatDoor
open Go Go.Av Go.Sp
theorem Qc (ls : List (List Bool)) : (ls.map fun r => AV.d (.l 1 1 (r.map Dq))) = ((ls.map IE).flatten).map D.av := by
 induction ls with
 | nil => rfl
 | cons l ls ih => simp [IE, D.av, ih]

theorem Wj : Cal Tryz.prog 83 := Cal.of Tryz.func83 (by kernel_rfl) (by kernel_rfl)
theorem Qe : Cal Tryz.prog 43 := Cal.of Tryz.func43 (by kernel_rfl) (by kernel_rfl)
theorem said (G : List (Nat × List D)) (l : List Fo) (w : Wd) (p : Int) (br at_ i : Nat) (R : List AV) (g : Hg l p) (hat : at_ < l.length) (hi : i < (w.stem ++ w.loop).length) (hs12 : w.stem.length ≤ 400) (hl1 : 1 ≤ w.loop.length) (hl12 : w.loop.length ≤ 400) (hal6 : ∀ x ∈ w.stem ++ w.loop, (x.length : Int) = p) (hR : ∀ j, at_ < j → j < l.length → R[j]? = some (.d (Ai (EI l (w.stem ++ w.loop) w.stem.length j)))) :
 AC Tryz.prog G 83 [.d (AO l), wdA w, .val (.slice (some ⟨br, 0, none⟩) l.length l.length), .int at_, .int i] [.cells br 95 R] fun r h => ∃ v : Unit, r = .ret (.bool (wAt l (w.stem ++ w.loop) w.stem.length at_ i)) ∧ h = [.cells br 95 R] := by
 have h60 := g.h60
 have hk := g.kind at_ hat
 have hlen := Pp l (w.stem ++ w.loop) w.stem.length
 have hget := Uu l (w.stem ++ w.loop) w.stem.length
 have hw := congrFun (WD l (w.stem ++ w.loop) w.stem.length at_ hat) i
 have hN : (w.stem ++ w.loop).length = w.stem.length + w.loop.length := List.length_append
 have EL := WN G w i (by omega) (by omega) (by omega) (by omega) (by rw [Cm (by omega)]; exact hi)
 simp only [Cm (show i < w.stem.length + w.loop.length by omega)] at EL
 have EM : ∀ j : Nat, j ≤ 2000 → ACr Tryz.prog G 129 [wdA w, .int j] (.int (Dh w.stem.length w.loop.length j : Nat)) := fun j hj => PX G w j (by omega) (by omega) (by omega) (by omega)
 unfold SS at hw
 rw [An l at_ hat, Du l at_ hat] at hw
 refine AN (ts := [10]) Tryz.f83.ntmps Tryz.func83 rfl rfl rfl (by simp [Tryz.ntmps83]) fun W I => ?_
 by_cases k13 : l[at_].kind = 13
 · obtain ⟨v0, v1⟩ := g.prop at_ hat k13
   have halj := hal6 (w.stem ++ w.loop)[i] (List.getElem_mem hi)
   have hv : l[at_].val.toNat < (w.stem ++ w.loop)[i].length := by omega
   rw [if_pos k13, Of, List.getElem?_eq_getElem hi] at hw
   have hw2 : wAt l (w.stem ++ w.loop) w.stem.length at_ i = (w.stem ++ w.loop)[i][l[at_].val.toNat] := by rw [hw]; simp [hv]
   repeat' (first
    | refine ca OI (EL) ?_
    | exact True.intro | refine AD ?_ | refine two ?_ ?_ | refine AB fun c_ => ?_
    | (refine imp fun hc => ?_) <;> try exact cx1 hc
    | refine all fun v_ => ?_)
   refine AH (VS.take (hc := [.cells br 95 R]) (by exact Ap) (Env.le_refl _)) ?_
   ((with_reducible apply rq1); rfl; rfl)
   refine ⟨(), by rw [hw2]; rfl, rfl⟩
 rw [if_neg k13] at hw
 by_cases k11 : l[at_].kind = 11
 · rw [if_pos k11] at hw
   repeat' (first
    | exact True.intro | refine AD ?_ | refine two ?_ ?_ | refine AB fun c_ => ?_
    | (refine imp fun hc => ?_) <;> try exact cx1 hc
    | refine all fun v_ => ?_)
   refine AH (VS.take (hc := [.cells br 95 R]) (by exact Ap) (Env.le_refl _)) ?_
   ((with_reducible apply rq1); rfl; rfl)
   refine ⟨(), by rw [hw]; simp [k11], rfl⟩
 rw [if_neg k11] at hw
 by_cases k12 : l[at_].kind = 12
 · rw [if_pos k12] at hw
   repeat' (first
    | exact True.intro | refine AD ?_ | refine two ?_ ?_ | refine AB fun c_ => ?_
    | (refine imp fun hc => ?_) <;> try exact cx1 hc
    | refine all fun v_ => ?_)
   refine AH (VS.take (hc := [.cells br 95 R]) (by exact Ap) (Env.le_refl _)) ?_
   ((with_reducible apply rq1); rfl; rfl)
   refine ⟨(), by rw [hw]; simp [k12], rfl⟩
 rw [if_neg k12] at hw
 have hq : 1 ≤ (partsOf l[at_].kind).1 := by
  have : l[at_].kind = 8 ∨ l[at_].kind = 9 ∨ l[at_].kind = 10 ∨ l[at_].kind = 14 ∨ l[at_].kind = 15 ∨ l[at_].kind = 16 ∨ l[at_].kind = 17 ∨ l[at_].kind = 18 := by omega
  rcases this with h | h | h | h | h | h | h | h <;> (rw [h]; decide)
 obtain ⟨q1, q2, q3, q4, q5⟩ := Cu hat (g.well at_ hat) hq
 have hA := hR (at_ + 1) (by omega) q1
 have lA := hlen (at_ + 1)
 have dA : i < (EI l (w.stem ++ w.loop) w.stem.length (at_ + 1)).length := by omega
 have gA := hget (at_ + 1) i dA
 by_cases k10 : l[at_].kind = 10
 · rw [if_pos k10] at hw
   repeat' (first
    | exact True.intro | refine AD ?_ | refine two ?_ ?_ | refine AB fun c_ => ?_
    | (refine imp fun hc => ?_) <;> try exact cx1 hc
    | refine all fun v_ => ?_)
   refine AH (VS.take (hc := [.cells br 95 R]) (by exact Ap) (Env.le_refl _)) ?_
   ((with_reducible apply rq1); rfl; rfl)
   refine ⟨(), by rw [hw, ← gA], rfl⟩
 rw [if_neg k10] at hw
 by_cases k14 : l[at_].kind = 14
 · rw [if_neg (by omega), if_neg (by omega), if_pos k14] at hw
   have E1 : ACr Tryz.prog G 129 [wdA w, .int ((i : Int) + 1)] (.int (Dh w.stem.length w.loop.length (i + 1) : Nat)) := EM (i + 1) (by omega)
   rw [MS hl1, Cm (by omega), ← hN] at E1
   have dX : wnx w.stem.length (w.stem ++ w.loop).length i < (EI l (w.stem ++ w.loop) w.stem.length (at_ + 1)).length := by rw [hlen]; unfold wnx; split <;> omega
   have gX := hget (at_ + 1) _ dX
   repeat' (first
    | refine ca Cs (E1) ?_
    | exact True.intro | refine AD ?_ | refine two ?_ ?_ | refine AB fun c_ => ?_
    | (refine imp fun hc => ?_) <;> try exact cx1 hc
    | refine all fun v_ => ?_)
   refine AH (VS.take (hc := [.cells br 95 R]) (by exact Ap) (Env.le_refl _)) ?_
   ((with_reducible apply rq1); rfl; rfl)
   refine ⟨(), by rw [hw, ← gX]; rfl, rfl⟩
 rw [if_neg k14] at hw
 have mlt : ∀ j, Dh w.stem.length w.loop.length j < (w.stem ++ w.loop).length := fun j => by rw [hN]; exact YQ hl1
 by_cases k17 : l[at_].kind = 17
 · rw [if_neg (by omega), if_neg (by omega)] at hw
   repeat' (first
    | exact True.intro | refine AD ?_ | refine two ?_ ?_ | refine AB fun c_ => ?_
    | (refine imp fun hc => ?_) <;> try exact cx1 hc
    | refine all fun v_ => ?_)
   generalize hB : (if at_ < second l at_ then wAt l (w.stem ++ w.loop) w.stem.length (second l at_) else fun _ => false) = B at hw
   have sc := fun j hj => Jd (a := C8 l[at_].kind (wAt l (w.stem ++ w.loop) w.stem.length (at_ + 1)) B (wnx w.stem.length (w.stem ++ w.loop).length)) (s := w.stem.length) (L := w.loop.length) (i := i) (j := j) hl1 (by rw [FZ, hN]) hj
   rw [hN] at hw
   rename Nat => bw
   refine AG (X := Nat) (fun j => [(2, .val (.slice (some ⟨br, 0, none⟩) l.length l.length)), (3, .int at_), (6, .val (.pointer (some ⟨bw, 0, none⟩))), (11, .int l[at_].kind), (12, .int ((i : Int) + w.stem.length + w.loop.length)), (13, .int j)]) (fun _ => [.cells bw 94 [.d (C6 w.stem), .d (C6 w.loop)], .cells br 95 R])
    (fun j => i ≤ j ∧ j ≤ i + (w.stem.length + w.loop.length) + 1 ∧ wAt l (w.stem ++ w.loop) w.stem.length at_ i = (C8 l[at_].kind (wAt l (w.stem ++ w.loop) w.stem.length (at_ + 1)) B (wnx w.stem.length (w.stem ++ w.loop).length)).up (i + (w.stem.length + w.loop.length) + 1 - j) (Dh w.stem.length w.loop.length j)) (fun j => i + (w.stem.length + w.loop.length) + 1 - j) i ⟨Nat.le_refl _, by omega, by rw [hw, Cm (by omega), hN]; congr 1; omega⟩ (VS.of_le ?_) ?_
   · exact leD
   rintro j ⟨j1, j2, j3⟩
   by_cases hj : j ≤ i + (w.stem.length + w.loop.length)
   · rw [sc j hj] at j3
     have mj := mlt j
     have lX : Dh w.stem.length w.loop.length j < (EI l (w.stem ++ w.loop) w.stem.length (at_ + 1)).length := by rw [lA]; exact mj
     have gX := hget (at_ + 1) _ lX
     have E1 := EM j (by omega)
     generalize hm : Dh w.stem.length w.loop.length j = m at *
     generalize hx : (EI l (w.stem ++ w.loop) w.stem.length (at_ + 1))[m] = x at *
     rw [k17, Y0, ← gX] at j3
     cases x
     all_goals
      repeat' (first
       | refine ca Cs (E1) ?_
       | exact True.intro | refine AD ?_ | refine two ?_ ?_ | refine AB fun c_ => ?_
       | (refine imp fun hc => ?_) <;> try exact cx1 hc
       | refine all fun v_ => ?_)
      all_goals first
      | (exfalso; simp [k17, hx] at hc; done)
      | (refine AH (VS.take (hc := [.cells br 95 R]) (by exact Ap) (Env.le_refl _)) ?_
         ((with_reducible apply rq1); rfl; rfl)
         refine ⟨(), by rw [j3]; simp [k17]; done, rfl⟩)
      | (refine ⟨j + 1, ⟨by omega, by omega, (by rw [j3, k17]; rfl)⟩, by omega, VS.of_le ?_⟩
         exact leD)
   · rw [show i + (w.stem.length + w.loop.length) + 1 - j = 0 by omega] at j3
     repeat' (first
      | exact True.intro | refine AD ?_ | refine two ?_ ?_ | refine AB fun c_ => ?_
      | (refine imp fun hc => ?_) <;> try exact cx1 hc
      | refine all fun v_ => ?_)
     refine AH (VS.take (hc := [.cells br 95 R]) (by exact Ap) (Env.le_refl _)) ?_
     ((with_reducible apply rq1); rfl; rfl)
     refine ⟨(), by rw [j3, La.up]; simp [k17, C8]; done, rfl⟩
 by_cases k18 : l[at_].kind = 18
 · rw [if_neg (by omega), if_neg (by omega)] at hw
   repeat' (first
    | exact True.intro | refine AD ?_ | refine two ?_ ?_ | refine AB fun c_ => ?_
    | (refine imp fun hc => ?_) <;> try exact cx1 hc
    | refine all fun v_ => ?_)
   generalize hB : (if at_ < second l at_ then wAt l (w.stem ++ w.loop) w.stem.length (second l at_) else fun _ => false) = B at hw
   have sc := fun j hj => Jd (a := C8 l[at_].kind (wAt l (w.stem ++ w.loop) w.stem.length (at_ + 1)) B (wnx w.stem.length (w.stem ++ w.loop).length)) (s := w.stem.length) (L := w.loop.length) (i := i) (j := j) hl1 (by rw [FZ, hN]) hj
   rw [hN] at hw
   rename Nat => bw
   refine AG (X := Nat) (fun j => [(2, .val (.slice (some ⟨br, 0, none⟩) l.length l.length)), (3, .int at_), (6, .val (.pointer (some ⟨bw, 0, none⟩))), (11, .int l[at_].kind), (12, .int ((i : Int) + w.stem.length + w.loop.length)), (13, .int j)]) (fun _ => [.cells bw 94 [.d (C6 w.stem), .d (C6 w.loop)], .cells br 95 R])
    (fun j => i ≤ j ∧ j ≤ i + (w.stem.length + w.loop.length) + 1 ∧ wAt l (w.stem ++ w.loop) w.stem.length at_ i = (C8 l[at_].kind (wAt l (w.stem ++ w.loop) w.stem.length (at_ + 1)) B (wnx w.stem.length (w.stem ++ w.loop).length)).up (i + (w.stem.length + w.loop.length) + 1 - j) (Dh w.stem.length w.loop.length j)) (fun j => i + (w.stem.length + w.loop.length) + 1 - j) i ⟨Nat.le_refl _, by omega, by rw [hw, Cm (by omega), hN]; congr 1; omega⟩ (VS.of_le ?_) ?_
   · exact leD
   rintro j ⟨j1, j2, j3⟩
   by_cases hj : j ≤ i + (w.stem.length + w.loop.length)
   · rw [sc j hj] at j3
     have mj := mlt j
     have lX : Dh w.stem.length w.loop.length j < (EI l (w.stem ++ w.loop) w.stem.length (at_ + 1)).length := by rw [lA]; exact mj
     have gX := hget (at_ + 1) _ lX
     have E1 := EM j (by omega)
     generalize hm : Dh w.stem.length w.loop.length j = m at *
     generalize hx : (EI l (w.stem ++ w.loop) w.stem.length (at_ + 1))[m] = x at *
     rw [k18, ZH, ← gX] at j3
     cases x
     all_goals
      repeat' (first
       | refine ca Cs (E1) ?_
       | exact True.intro | refine AD ?_ | refine two ?_ ?_ | refine AB fun c_ => ?_
       | (refine imp fun hc => ?_) <;> try exact cx1 hc
       | refine all fun v_ => ?_)
      all_goals first
      | (exfalso; simp [k18, hx] at hc; done)
      | (refine AH (VS.take (hc := [.cells br 95 R]) (by exact Ap) (Env.le_refl _)) ?_
         ((with_reducible apply rq1); rfl; rfl)
         refine ⟨(), by rw [j3]; simp [k18]; done, rfl⟩)
      | (refine ⟨j + 1, ⟨by omega, by omega, (by rw [j3, k18]; rfl)⟩, by omega, VS.of_le ?_⟩
         exact leD)
   · rw [show i + (w.stem.length + w.loop.length) + 1 - j = 0 by omega] at j3
     repeat' (first
      | exact True.intro | refine AD ?_ | refine two ?_ ?_ | refine AB fun c_ => ?_
      | (refine imp fun hc => ?_) <;> try exact cx1 hc
      | refine all fun v_ => ?_)
     refine AH (VS.take (hc := [.cells br 95 R]) (by exact Ap) (Env.le_refl _)) ?_
     ((with_reducible apply rq1); rfl; rfl)
     refine ⟨(), by rw [j3, La.up]; simp [k18, C8]; done, rfl⟩
 have hq2 : (partsOf l[at_].kind).1 = 2 := by
  have : l[at_].kind = 8 ∨ l[at_].kind = 9 ∨ l[at_].kind = 15 ∨ l[at_].kind = 16 := by omega
  rcases this with h | h | h | h <;> (rw [h]; decide)
 obtain ⟨r1, r2⟩ := DS hat (g.well at_ hat) hq2
 have hB := hR (second l at_) (by omega) r1
 have ES := Hp G l at_ (by omega)
 rw [q4] at ES
 have lB := hlen (second l at_)
 have dB : i < (EI l (w.stem ++ w.loop) w.stem.length (second l at_)).length := by omega
 have gB := hget (second l at_) i dB
 rw [if_pos (show at_ < second l at_ by omega)] at hw
 by_cases k8 : l[at_].kind = 8
 · rw [if_pos k8, ← gA, ← gB] at hw
   repeat' (first
    | refine ca BA (ES) ?_
    | exact True.intro | refine AD ?_ | refine two ?_ ?_ | refine AB fun c_ => ?_
    | (refine imp fun hc => ?_) <;> try exact cx1 hc
    | refine all fun v_ => ?_)
   all_goals
    refine AH (VS.take (hc := [.cells br 95 R]) (by exact Ap) (Env.le_refl _)) ?_
    ((with_reducible apply rq1); rfl; rfl)
    refine ⟨(), by rw [hw, hc]; rfl, rfl⟩
 by_cases k9 : l[at_].kind = 9
 · rw [if_neg k8, if_pos k9, ← gA, ← gB] at hw
   repeat' (first
    | refine ca BA (ES) ?_
    | exact True.intro | refine AD ?_ | refine two ?_ ?_ | refine AB fun c_ => ?_
    | (refine imp fun hc => ?_) <;> try exact cx1 hc
    | refine all fun v_ => ?_)
   all_goals
    refine AH (VS.take (hc := [.cells br 95 R]) (by exact Ap) (Env.le_refl _)) ?_
    ((with_reducible apply rq1); rfl; rfl)
    refine ⟨(), by rw [hw, hc]; rfl, rfl⟩
 rw [if_neg (by omega), if_neg (by omega)] at hw
 repeat' (first
  | refine ca BA (ES) ?_
  | exact True.intro | refine AD ?_ | refine two ?_ ?_ | refine AB fun c_ => ?_
  | (refine imp fun hc => ?_) <;> try exact cx1 hc
  | refine all fun v_ => ?_)
 have sc := fun j hj => Jd (a := C8 l[at_].kind (wAt l (w.stem ++ w.loop) w.stem.length (at_ + 1)) (wAt l (w.stem ++ w.loop) w.stem.length (second l at_)) (wnx w.stem.length (w.stem ++ w.loop).length)) (s := w.stem.length) (L := w.loop.length) (i := i) (j := j) hl1 (by rw [FZ, hN]) hj
 rw [hN] at hw
 rename Nat => bw
 refine AG (X := Nat) (fun j => [(6, .val (.pointer (some ⟨bw, 0, none⟩))), (11, .int l[at_].kind), (12, .int ((i : Int) + w.stem.length + w.loop.length)), (14, .d (Ai (EI l (w.stem ++ w.loop) w.stem.length (at_ + 1)))), (15, .d (Ai (EI l (w.stem ++ w.loop) w.stem.length (second l at_)))), (16, .int j)]) (fun _ => [.cells bw 94 [.d (C6 w.stem), .d (C6 w.loop)], .cells br 95 R])
  (fun j => i ≤ j ∧ j ≤ i + (w.stem.length + w.loop.length) + 1 ∧ wAt l (w.stem ++ w.loop) w.stem.length at_ i = (C8 l[at_].kind (wAt l (w.stem ++ w.loop) w.stem.length (at_ + 1)) (wAt l (w.stem ++ w.loop) w.stem.length (second l at_)) (wnx w.stem.length (w.stem ++ w.loop).length)).up (i + (w.stem.length + w.loop.length) + 1 - j) (Dh w.stem.length w.loop.length j)) (fun j => i + (w.stem.length + w.loop.length) + 1 - j) i ⟨Nat.le_refl _, by omega, by rw [hw, Cm (by omega), hN]; congr 1; omega⟩ (VS.of_le ?_) ?_
 · exact leD
 rintro j ⟨j1, j2, j3⟩
 by_cases hj : j ≤ i + (w.stem.length + w.loop.length)
 · rw [sc j hj] at j3
   have mj := mlt j
   have lX : Dh w.stem.length w.loop.length j < (EI l (w.stem ++ w.loop) w.stem.length (at_ + 1)).length := by rw [lA]; exact mj
   have gX := hget (at_ + 1) _ lX
   have lY : Dh w.stem.length w.loop.length j < (EI l (w.stem ++ w.loop) w.stem.length (second l at_)).length := by rw [lB]; exact mj
   have gY := hget (second l at_) _ lY
   have E1 := EM j (by omega)
   generalize hm : Dh w.stem.length w.loop.length j = m at *
   generalize hx : (EI l (w.stem ++ w.loop) w.stem.length (at_ + 1))[m] = x at *
   generalize hy : (EI l (w.stem ++ w.loop) w.stem.length (second l at_))[m] = y at *
   have nA : ∀ b, (EI l (w.stem ++ w.loop) w.stem.length (at_ + 1))[m] = b → b = x := fun b h => h.symm.trans hx
   have nB : ∀ b, (EI l (w.stem ++ w.loop) w.stem.length (second l at_))[m] = b → b = y := fun b h => h.symm.trans hy
   by_cases k15 : l[at_].kind = 15
   · skip
     rw [k15, Zi, ← gX, ← gY] at j3
     repeat' (first
      | refine ca Cs (E1) ?_
      | exact True.intro | refine AD ?_ | refine two ?_ ?_ | refine AB fun c_ => ?_
      | (refine imp fun hc => ?_) <;> try exact cx1 hc
      | refine all fun v_ => ?_)
     all_goals (cases x <;> cases y)
     all_goals first
     | (exfalso; exact absurd (nA true (by assumption)) (by decide))
     | (exfalso; exact absurd (nA false (by assumption)) (by decide))
     | (exfalso; exact absurd (nB true (by assumption)) (by decide))
     | (exfalso; exact absurd (nB false (by assumption)) (by decide))
     | (refine AH (VS.take (hc := [.cells br 95 R]) (by exact Ap) (Env.le_refl _)) ?_
        ((with_reducible apply rq1); rfl; rfl)
        refine ⟨(), by rw [j3]; simp [k15]; done, rfl⟩)
     | (refine ⟨j + 1, ⟨by omega, by omega, (by rw [j3, k15]; rfl)⟩, by omega, VS.of_le ?_⟩
        exact leD)
   · have k16 : l[at_].kind = 16 := by omega
     rw [k16, Yu, ← gX, ← gY] at j3
     repeat' (first
      | refine ca Cs (E1) ?_
      | exact True.intro | refine AD ?_ | refine two ?_ ?_ | refine AB fun c_ => ?_
      | (refine imp fun hc => ?_) <;> try exact cx1 hc
      | refine all fun v_ => ?_)
     all_goals (cases x <;> cases y)
     all_goals first
     | (exfalso; exact absurd (nA true (by assumption)) (by decide))
     | (exfalso; exact absurd (nA false (by assumption)) (by decide))
     | (exfalso; exact absurd (nB true (by assumption)) (by decide))
     | (exfalso; exact absurd (nB false (by assumption)) (by decide))
     | (refine AH (VS.take (hc := [.cells br 95 R]) (by exact Ap) (Env.le_refl _)) ?_
        ((with_reducible apply rq1); rfl; rfl)
        refine ⟨(), by rw [j3]; simp [k16]; done, rfl⟩)
     | (refine ⟨j + 1, ⟨by omega, by omega, (by rw [j3, k16]; rfl)⟩, by omega, VS.of_le ?_⟩
        exact leD)
 · rw [show i + (w.stem.length + w.loop.length) + 1 - j = 0 by omega] at j3
   repeat' (first
    | exact True.intro | refine AD ?_ | refine two ?_ ?_ | refine AB fun c_ => ?_
    | (refine imp fun hc => ?_) <;> try exact cx1 hc
    | refine all fun v_ => ?_)
   have kU : l[at_].kind = 15 ∨ l[at_].kind = 16 := by omega
   refine AH (VS.take (hc := [.cells br 95 R]) (by exact Ap) (Env.le_refl _)) ?_
   ((with_reducible apply rq1); rfl; rfl)
   refine ⟨(), by rw [j3, La.up]; rcases kU with h | h <;> (simp [h, C8]; done), rfl⟩
end Go.Proofs.YtibahljljjkceaaGreatDoor
