/- A bundle of this claim's own texts: K5. -/
import Derived.Test.YtnlfhnbcdfdhgaaGreatDoorF35
import Derived.Test.YtnlfhnbcdfdhgaaGreatDoorF36
set_option linter.unusedVariables false
set_option linter.unusedSimpArgs false
set_option maxRecDepth 100000
set_option maxHeartbeats 4000000
namespace Go.Proofs.YtnlfhnbcdfdhgaaGreatDoor
open Go Go.Av Go.Sp
theorem Oh : Cal Tryz.prog 43 := Cal.of Tryz.func43 (by kernel_rfl) (by kernel_rfl)
theorem Gc : Cal Tryz.prog 71 := Cal.of Tryz.func71 (by kernel_rfl) (by kernel_rfl)
theorem FU : Cal Tryz.prog 72 := Cal.of Tryz.func72 (by kernel_rfl) (by kernel_rfl)
theorem HZ : Cal Tryz.prog 73 := Cal.of Tryz.func73 (by kernel_rfl) (by kernel_rfl)
theorem SA : Cal Tryz.prog 42 := Cal.of Tryz.func42 (by kernel_rfl) (by kernel_rfl)
theorem Yw (G : List (Nat × List D)) (raw : List Fo) (hr : BH raw) (t : Nat) (ht : t ≤ 100) : ACr Tryz.prog G 43 [.d (AO raw), .int 3, .int t] (.d (AO (Bi raw t))) := by
 have hl := (RF raw t).2.2
 have hF := fun bg => formula G bg raw 0 3 hr (by decide) 4 0 t Sl.nil [] (by decide) (by decide) (by decide) ht
 refine AJ (ts := [6]) Tryz.f43.ntmps Tryz.func43 rfl rfl rfl (by simp [Tryz.ntmps43]) fun W I => ?_
 repeat' (first
  | exact True.intro | refine AG ?_ | refine two ?_ ?_ | refine AF fun c_ => ?_
  | (refine imp fun hc => ?_) <;> try exact cx1 hc
  | refine all fun v_ => ?_)
 obtain ⟨bg, rfl⟩ : ∃ x, x = v_ := ⟨v_, rfl⟩
 refine C3 (VS.trans (VS.nilrow 137 2) (VS.take (hc := [.cells bg 145 [.d (AO raw), .int ((0 : Nat) : Int), .int 0, .int 3, .int t, .val Sl.nil.v], AH Sl.nil.v 137 2 Fo.cells []]) (by exact AD) (Env.le_refl _))) ?_
 repeat' (first
  | refine cag CF (hF bg) ?_
  | exact True.intro | refine AG ?_ | refine two ?_ ?_ | refine AF fun c_ => ?_
  | (refine imp fun hc => ?_) <;> try exact cx1 hc
  | refine all fun v_ => ?_)
 refine AN (VS.trans (VS.take (hc := [AH v_.v 137 2 Fo.cells (Bi raw t)]) (by exact AD) (Env.le_refl _)) (By (t := 6) (eb := 16) rfl rfl (fun x => rfl) (by omega))) ?_
 ((with_reducible apply rq1); rfl; rfl)
 exact AB rfl
theorem OL (G : List (Nat × List D)) (raw : List Fo) (hr : BH raw) : ACr Tryz.prog G 71 [.d (AO raw), .int 2] (.d (AO (Da raw 2 3 0))) := by
 have hl := Ma raw 2
 have hF := fun bg => OX G bg raw 2 0 hr (by decide) 0 3 0 Sl.nil [] (by decide) (by decide) (by decide)
 refine AJ (ts := [4]) Tryz.f71.ntmps Tryz.func71 rfl rfl rfl (by simp [Tryz.ntmps71]) fun W I => ?_
 repeat' (first
  | exact True.intro | refine AG ?_ | refine two ?_ ?_ | refine AF fun c_ => ?_
  | (refine imp fun hc => ?_) <;> try exact cx1 hc
  | refine all fun v_ => ?_)
 obtain ⟨bg, rfl⟩ : ∃ x, x = v_ := ⟨v_, rfl⟩
 refine C3 (VS.trans (VS.nilrow 137 2) (VS.take (hc := [.cells bg 145 [.d (AO raw), .int ((0 : Nat) : Int), .int 2, .int 0, .int 0, .val Sl.nil.v], AH Sl.nil.v 137 2 Fo.cells []]) (by exact AD) (Env.le_refl _))) ?_
 repeat' (first
  | refine cag Gd (hF bg) ?_
  | exact True.intro | refine AG ?_ | refine two ?_ ?_ | refine AF fun c_ => ?_
  | (refine imp fun hc => ?_) <;> try exact cx1 hc
  | refine all fun v_ => ?_)
 refine AN (VS.trans (VS.take (hc := [AH v_.v 137 2 Fo.cells (Da raw 2 3 0)]) (by exact AD) (Env.le_refl _)) (By (t := 4) (eb := 16) rfl rfl (fun x => rfl) (by omega))) ?_
 ((with_reducible apply rq1); rfl; rfl)
 exact AB rfl
theorem Ka (G : List (Nat × List D)) (raw : List Fo) (hr : BH raw) : ACr Tryz.prog G 72 [.d (AO raw), .int 2] (.d (AO (Bb raw 2 2 0))) := by
 have hl := Po raw 2 0
 have hF := fun bg => number G bg raw 2 0 hr (by decide) 0 2 0 Sl.nil [] (by decide) (by decide)
 refine AJ (ts := [4]) Tryz.f72.ntmps Tryz.func72 rfl rfl rfl (by simp [Tryz.ntmps72]) fun W I => ?_
 repeat' (first
  | exact True.intro | refine AG ?_ | refine two ?_ ?_ | refine AF fun c_ => ?_
  | (refine imp fun hc => ?_) <;> try exact cx1 hc
  | refine all fun v_ => ?_)
 obtain ⟨bg, rfl⟩ : ∃ x, x = v_ := ⟨v_, rfl⟩
 refine C3 (VS.trans (VS.nilrow 137 2) (VS.take (hc := [.cells bg 145 [.d (AO raw), .int ((0 : Nat) : Int), .int 2, .int 0, .int 0, .val Sl.nil.v], AH Sl.nil.v 137 2 Fo.cells []]) (by exact AD) (Env.le_refl _))) ?_
 repeat' (first
  | refine cag Er (hF bg) ?_
  | exact True.intro | refine AG ?_ | refine two ?_ ?_ | refine AF fun c_ => ?_
  | (refine imp fun hc => ?_) <;> try exact cx1 hc
  | refine all fun v_ => ?_)
 refine AN (VS.trans (VS.take (hc := [AH v_.v 137 2 Fo.cells (Bb raw 2 2 0)]) (by exact AD) (Env.le_refl _)) (By (t := 4) (eb := 16) rfl rfl (fun x => rfl) (by omega))) ?_
 ((with_reducible apply rq1); rfl; rfl)
 exact AB rfl
theorem WC (ls : List (List Fo)) (i : Nat) (h : i < ls.length) : (ls.take (i + 1)).flatten = (ls.take i).flatten ++ ls[i] := by
 rw [List.take_succ_eq_append_getElem h, List.flatten_append]; simp
theorem Rs (ls : List (List Fo)) (i : Nat) : (ls.take i).flatten.length ≤ ls.flatten.length := by
 conv => rhs; rw [← List.take_append_drop i ls, List.flatten_append, List.length_append]
 omega
theorem N5 (G : List (Nat × List D)) (kind : Int) (ls : List (List Fo)) (hl : ls.flatten.length ≤ 1000) : ACr Tryz.prog G 73 [.int kind, .d (BU ls)] (.d (AO (⟨kind, 0⟩ :: ls.flatten))) := by
 refine AC.factI (f := cH) (xs := ls) (.there .here) fun hls => ?_
 refine AJ (ts := [4]) Tryz.f73.ntmps Tryz.func73 rfl rfl rfl (by simp [Tryz.ntmps73]) fun W I => ?_
 repeat' (first
  | ((with_reducible apply (Zu (f := Fo.cells) (u := ⟨kind, 0⟩))); (iterate 3 focus rfl); (focus (with_reducible exact ElC.h)); (focus exact fun _ => rfl); (focus rfl); (focus rfl); (focus rfl))
  | with_reducible apply L3
  | with_reducible apply Lr
  | with_reducible apply O8
  | with_reducible apply LU
  | ((with_reducible apply jp); (focus exact ER); (focus rfl))
  | with_reducible apply DH
  | refine all fun v_ => ?_)
 refine AM (X := Nat × Sl) (fun y => [(1, .d (BU ls)), (5, .val y.2.v), (6, .int y.1)]) (fun y => [AH y.2.v 137 2 Fo.cells (⟨kind, 0⟩ :: (ls.take y.1).flatten)]) (fun y => y.1 ≤ ls.length) (fun y => ls.length - y.1) (0, v_) (Nat.zero_le _) (VS.take (by dsimp only; rw [List.take_zero, List.flatten_nil]; exact AD) ?_) ?_
 · exact leD
 rintro ⟨i, q⟩ hi
 dsimp only at hi ⊢
 have hf := Rs ls i
 by_cases hil : i < ls.length
 · have et := WC ls i hil
   have hf1 := Rs ls (i + 1)
   rw [et, List.length_append] at hf1
   have hc1 : ((⟨kind, 0⟩ : Fo) :: (ls.take i).flatten).length = (ls.take i).flatten.length + 1 := rfl
   repeat' (first
    | exact True.intro | refine AG ?_ | refine two ?_ ?_ | refine AF fun c_ => ?_
    | (refine imp fun hc => ?_) <;> try exact cx1 hc
    | refine all fun v_ => ?_)
   refine ⟨(i + 1, v_), by dsimp only; omega, by dsimp only; omega, VS.take (by dsimp only; rw [et, ← List.cons_append]; exact AD) ?_⟩
   exact leD
 obtain rfl : i = ls.length := by omega
 rw [List.take_length]
 have hc1 : ((⟨kind, 0⟩ : Fo) :: ls.flatten).length = ls.flatten.length + 1 := rfl
 repeat' (first
  | exact True.intro | refine AG ?_ | refine two ?_ ?_ | refine AF fun c_ => ?_
  | (refine imp fun hc => ?_) <;> try exact cx1 hc
  | refine all fun v_ => ?_)
 refine AN (By (t := 4) (eb := 16) rfl rfl (fun x => rfl) (by omega)) ?_
 ((with_reducible apply rq1); rfl; rfl)
 exact AB rfl
theorem cg (G : List (Nat × List D)) : ACr Tryz.prog G 42 [] (.d (BU MQ)) := by
 have h1 := N5 G 7 [[⟨2, 0⟩], [⟨1, 1⟩]] (by decide)
 have h2 := N5 G 7 [[⟨2, 0⟩], [⟨2, 1⟩]] (by decide)
 have h3 := N5 G 6 [[⟨2, 0⟩], [⟨2, 1⟩]] (by decide)
 refine AJ (ts := [0]) Tryz.f42.ntmps Tryz.func42 rfl rfl rfl (by simp [Tryz.ntmps42]) fun W I => ?_
 repeat' (first
  | refine ca HZ (h1) ?_
  | refine ca HZ (h2) ?_
  | refine ca HZ (h3) ?_
  | ((with_reducible apply PC); (iterate 3 focus rfl); (focus (with_reducible exact ElC.h)); (focus rfl); (focus rfl))
  | ((with_reducible apply O6); (iterate 4 focus rfl); (focus (with_reducible exact ElC.h)); (focus rfl); (focus rfl))
  | exact True.intro | refine AG ?_ | refine two ?_ ?_ | refine AF fun c_ => ?_
  | (refine imp fun hc => ?_) <;> try exact cx1 hc
  | refine all fun v_ => ?_)
 refine A6 ?_
 ((with_reducible apply rq1); rfl; rfl)
 exact AB rfl
end Go.Proofs.YtnlfhnbcdfdhgaaGreatDoor
