/- A bundle of this claim's own texts: K5 T13. -/
import Derived.Test.YtajnpfgelpkijaaGreatDoorA5
import Derived.Test.YtajnpfgelpkijaaGreatDoorA18
import Derived.Test.YtajnpfgelpkijaaGreatDoorA28
import Derived.Test.YtajnpfgelpkijaaGreatDoorA30
import Derived.Test.YtajnpfgelpkijaaGreatDoorA31
set_option linter.unusedVariables false
set_option linter.unusedSimpArgs false
set_option maxRecDepth 100000
set_option maxHeartbeats 4000000
namespace Go.Proofs.YtajnpfgelpkijaaGreatDoor
open Go Go.Av Go.Sp
theorem Pu : Cal Tryz.prog 26 := Cal.of Tryz.func26 (by kernel_rfl) (by kernel_rfl)
theorem GL : Cal Tryz.prog 48 := Cal.of Tryz.func48 (by kernel_rfl) (by kernel_rfl)
theorem FK : Cal Tryz.prog 49 := Cal.of Tryz.func49 (by kernel_rfl) (by kernel_rfl)
theorem HV : Cal Tryz.prog 50 := Cal.of Tryz.func50 (by kernel_rfl) (by kernel_rfl)
theorem Lw : Cal Tryz.prog 25 := Cal.of Tryz.func25 (by kernel_rfl) (by kernel_rfl)
theorem Sn : Cal Tryz.prog 70 := Cal.of Tryz.func70 (by kernel_rfl) (by kernel_rfl)
theorem ZF (G : List (Nat × List D)) (raw : List Fo) (hr : Bd raw) (t : Nat) (ht : t ≤ 100) : ACr Tryz.prog G 26 [.d (AN raw), .int 3, .int t] (.d (AN (IA raw t))) := by
 have hl := (LK raw t).2.2
 have hF := fun bg => formula G bg raw 0 3 hr (by decide) 4 0 t Sl.nil [] (by decide) (by decide) (by decide) ht
 refine AK (ts := [6]) Tryz.f26.ntmps Tryz.func26 rfl rfl rfl (by simp [Tryz.ntmps26]) fun W I => ?_
 repeat' (first
  | exact True.intro | refine AJ ?_ | refine two ?_ ?_ | refine AG fun c_ => ?_
  | (refine imp fun hc => ?_) <;> try exact cx1 hc
  | refine all fun v_ => ?_)
 obtain ⟨bg, rfl⟩ : ∃ x, x = v_ := ⟨v_, rfl⟩
 refine FX (VS.trans (VS.nilrow 53 2) (VS.take (hc := [.cells bg 122 [.d (AN raw), .int ((0 : Nat) : Int), .int 0, .int 3, .int t, .val Sl.nil.v], AF Sl.nil.v 53 2 Fo.cells []]) (by exact AB) (Env.le_refl _))) ?_
 repeat' (first
  | refine cag CG (hF bg) ?_
  | exact True.intro | refine AJ ?_ | refine two ?_ ?_ | refine AG fun c_ => ?_
  | (refine imp fun hc => ?_) <;> try exact cx1 hc
  | refine all fun v_ => ?_)
 refine AO (VS.trans (VS.take (hc := [AF v_.v 53 2 Fo.cells (IA raw t)]) (by exact AB) (Env.le_refl _)) (Ci (t := 6) (eb := 16) rfl rfl (fun x => rfl) (by omega))) ?_
 ((with_reducible apply rq1); rfl; rfl)
 exact AD rfl
theorem PE (G : List (Nat × List D)) (raw : List Fo) (hr : Bd raw) : ACr Tryz.prog G 48 [.d (AN raw), .int 2] (.d (AN (Db raw 2 3 0))) := by
 have hl := IQ raw 2
 have hF := fun bg => Pt G bg raw 2 0 hr (by decide) 0 3 0 Sl.nil [] (by decide) (by decide) (by decide)
 refine AK (ts := [4]) Tryz.f48.ntmps Tryz.func48 rfl rfl rfl (by simp [Tryz.ntmps48]) fun W I => ?_
 repeat' (first
  | exact True.intro | refine AJ ?_ | refine two ?_ ?_ | refine AG fun c_ => ?_
  | (refine imp fun hc => ?_) <;> try exact cx1 hc
  | refine all fun v_ => ?_)
 obtain ⟨bg, rfl⟩ : ∃ x, x = v_ := ⟨v_, rfl⟩
 refine FX (VS.trans (VS.nilrow 53 2) (VS.take (hc := [.cells bg 122 [.d (AN raw), .int ((0 : Nat) : Int), .int 2, .int 0, .int 0, .val Sl.nil.v], AF Sl.nil.v 53 2 Fo.cells []]) (by exact AB) (Env.le_refl _))) ?_
 repeat' (first
  | refine cag F8 (hF bg) ?_
  | exact True.intro | refine AJ ?_ | refine two ?_ ?_ | refine AG fun c_ => ?_
  | (refine imp fun hc => ?_) <;> try exact cx1 hc
  | refine all fun v_ => ?_)
 refine AO (VS.trans (VS.take (hc := [AF v_.v 53 2 Fo.cells (Db raw 2 3 0)]) (by exact AB) (Env.le_refl _)) (Ci (t := 4) (eb := 16) rfl rfl (fun x => rfl) (by omega))) ?_
 ((with_reducible apply rq1); rfl; rfl)
 exact AD rfl
theorem LD (G : List (Nat × List D)) (raw : List Fo) (hr : Bd raw) : ACr Tryz.prog G 49 [.d (AN raw), .int 2] (.d (AN (BZ raw 2 2 0))) := by
 have hl := Lh raw 2 0
 have hF := fun bg => number G bg raw 2 0 hr (by decide) 0 2 0 Sl.nil [] (by decide) (by decide)
 refine AK (ts := [4]) Tryz.f49.ntmps Tryz.func49 rfl rfl rfl (by simp [Tryz.ntmps49]) fun W I => ?_
 repeat' (first
  | exact True.intro | refine AJ ?_ | refine two ?_ ?_ | refine AG fun c_ => ?_
  | (refine imp fun hc => ?_) <;> try exact cx1 hc
  | refine all fun v_ => ?_)
 obtain ⟨bg, rfl⟩ : ∃ x, x = v_ := ⟨v_, rfl⟩
 refine FX (VS.trans (VS.nilrow 53 2) (VS.take (hc := [.cells bg 122 [.d (AN raw), .int ((0 : Nat) : Int), .int 2, .int 0, .int 0, .val Sl.nil.v], AF Sl.nil.v 53 2 Fo.cells []]) (by exact AB) (Env.le_refl _))) ?_
 repeat' (first
  | refine cag Ea (hF bg) ?_
  | exact True.intro | refine AJ ?_ | refine two ?_ ?_ | refine AG fun c_ => ?_
  | (refine imp fun hc => ?_) <;> try exact cx1 hc
  | refine all fun v_ => ?_)
 refine AO (VS.trans (VS.take (hc := [AF v_.v 53 2 Fo.cells (BZ raw 2 2 0)]) (by exact AB) (Env.le_refl _)) (Ci (t := 4) (eb := 16) rfl rfl (fun x => rfl) (by omega))) ?_
 ((with_reducible apply rq1); rfl; rfl)
 exact AD rfl
theorem VR (ls : List (List Fo)) (i : Nat) (h : i < ls.length) : (ls.take (i + 1)).flatten = (ls.take i).flatten ++ ls[i] := by
 rw [List.take_succ_eq_append_getElem h, List.flatten_append]; simp
theorem QA (ls : List (List Fo)) (i : Nat) : (ls.take i).flatten.length ≤ ls.flatten.length := by
 conv => rhs; rw [← List.take_append_drop i ls, List.flatten_append, List.length_append]
 omega
theorem PM (G : List (Nat × List D)) (kind : Int) (ls : List (List Fo)) (hl : ls.flatten.length ≤ 1000) : ACr Tryz.prog G 50 [.int kind, .d (Bi ls)] (.d (AN (⟨kind, 0⟩ :: ls.flatten))) := by
 refine AC.factI (f := Jc) (xs := ls) (.there .here) fun hls => ?_
 refine AK (ts := [4]) Tryz.f50.ntmps Tryz.func50 rfl rfl rfl (by simp [Tryz.ntmps50]) fun W I => ?_
 repeat' (first
  | ((with_reducible apply (au (f := Fo.cells) (u := ⟨kind, 0⟩))); (focus rfl); (focus rfl); (focus rfl); (focus (with_reducible exact ElC.h)); (focus exact fun _ => rfl); (focus rfl); (focus rfl); (focus rfl))
  | with_reducible apply FF
  | with_reducible apply I5
  | with_reducible apply I6
  | with_reducible apply L3
  | ((with_reducible apply jp); (focus exact Hc); (focus rfl))
  | with_reducible apply Cw
  | refine all fun v_ => ?_)
 refine AL (X := Nat × Sl) (fun y => [(1, .d (Bi ls)), (5, .val y.2.v), (6, .int y.1)]) (fun y => [AF y.2.v 53 2 Fo.cells (⟨kind, 0⟩ :: (ls.take y.1).flatten)]) (fun y => y.1 ≤ ls.length) (fun y => ls.length - y.1) (0, v_) (Nat.zero_le _) (VS.take (by dsimp only; rw [List.take_zero, List.flatten_nil]; exact AB) ?_) ?_
 · exact leD
 rintro ⟨i, q⟩ hi
 dsimp only at hi ⊢
 have hf := QA ls i
 by_cases hil : i < ls.length
 · have et := VR ls i hil
   have hf1 := QA ls (i + 1)
   rw [et, List.length_append] at hf1
   have hc1 : ((⟨kind, 0⟩ : Fo) :: (ls.take i).flatten).length = (ls.take i).flatten.length + 1 := rfl
   repeat' (first
    | exact True.intro | refine AJ ?_ | refine two ?_ ?_ | refine AG fun c_ => ?_
    | (refine imp fun hc => ?_) <;> try exact cx1 hc
    | refine all fun v_ => ?_)
   refine ⟨(i + 1, v_), by dsimp only; omega, by dsimp only; omega, VS.take (by dsimp only; rw [et, ← List.cons_append]; exact AB) ?_⟩
   exact leD
 obtain rfl : i = ls.length := by omega
 rw [List.take_length]
 have hc1 : ((⟨kind, 0⟩ : Fo) :: ls.flatten).length = ls.flatten.length + 1 := rfl
 repeat' (first
  | exact True.intro | refine AJ ?_ | refine two ?_ ?_ | refine AG fun c_ => ?_
  | (refine imp fun hc => ?_) <;> try exact cx1 hc
  | refine all fun v_ => ?_)
 refine AO (Ci (t := 4) (eb := 16) rfl rfl (fun x => rfl) (by omega)) ?_
 ((with_reducible apply rq1); rfl; rfl)
 exact AD rfl
theorem Yp (G : List (Nat × List D)) : ACr Tryz.prog G 25 [] (.d (Bi HF)) := by
 have h1 := PM G 7 [[⟨2, 0⟩], [⟨1, 1⟩]] (by decide)
 have h2 := PM G 7 [[⟨2, 0⟩], [⟨2, 1⟩]] (by decide)
 have h3 := PM G 6 [[⟨2, 0⟩], [⟨2, 1⟩]] (by decide)
 refine AK (ts := [0]) Tryz.f25.ntmps Tryz.func25 rfl rfl rfl (by simp [Tryz.ntmps25]) fun W I => ?_
 repeat' (first
  | refine ca HV (h1) ?_
  | refine ca HV (h2) ?_
  | refine ca HV (h3) ?_
  | ((with_reducible apply Pg); (focus rfl); (focus rfl); (focus rfl); (focus (with_reducible exact ElC.h)); (focus rfl); (focus rfl))
  | ((with_reducible apply Oc); (focus rfl); (focus rfl); (focus rfl); (focus rfl); (focus (with_reducible exact ElC.h)); (focus rfl); (focus rfl))
  | exact True.intro | refine AJ ?_ | refine two ?_ ?_ | refine AG fun c_ => ?_
  | (refine imp fun hc => ?_) <;> try exact cx1 hc
  | refine all fun v_ => ?_)
 refine CY ?_
 ((with_reducible apply rq1); rfl; rfl)
 exact AD rfl
theorem dm (G : List (Nat × List D)) : ACr Tryz.prog G 70 [] (.d (Bi HF)) := by
 have hP := Yp G
 refine AK (ts := [0]) Tryz.f70.ntmps Tryz.func70 rfl rfl rfl (by simp [Tryz.ntmps70]) fun W I => ?_
 repeat' (first
  | refine ca Lw (hP) ?_
  | exact True.intro | refine AJ ?_ | refine two ?_ ?_ | refine AG fun c_ => ?_
  | (refine imp fun hc => ?_) <;> try exact cx1 hc
  | refine all fun v_ => ?_)
 refine CY ?_
 ((with_reducible apply rq1); rfl; rfl)
 exact AD rfl

theorem VP : Cal Tryz.prog 60 := Cal.of Tryz.func60 (by kernel_rfl) (by kernel_rfl)
theorem Wa {l : List Fo} {A : Nat → Bool} {i : Nat} {hi : i < l.length} (h : AU l[i].kind) {m : Bool} (hm : metAt l A i = m) : FR l A (i + 1) = FR l A i + if m = true then 2 ^ Aw l i else 0 := by
 simp only [FR, BN l i hi]
 cases m with
 | true => rw [if_pos ⟨h, hm⟩, if_pos rfl]
 | false => rw [if_neg (fun k => by rw [hm] at k; exact absurd k.2 (by decide)), if_neg (by decide)]
theorem Vi {l : List Fo} {A : Nat → Bool} {i : Nat} {hi : i < l.length} (h : ¬ AU l[i].kind) : FR l A (i + 1) = FR l A i := by
 simp only [FR, BN l i hi]
 rw [if_neg (fun k => h k.1), Int.add_zero]
set_option maxHeartbeats 4000000 in
theorem gS (l : List Fo) (x : List Bool) (c : Int) : ACr Tryz.prog GP 60 [.d (AN l), .d (Bv x), .int c] (.tup [.int (DW l x c).1, .int (DW l x c).2]) := by
 have hX := PO l x c
 have hE := Ends l
 generalize hx : BL l x c = p at hX
 obtain ⟨a, e⟩ := p
 generalize he : Az l = q at hE
 obtain ⟨es, e2⟩ := q
 dsimp only at hX hE
 refine AK (ts := [6, 7]) Tryz.f60.ntmps Tryz.func60 rfl rfl rfl (by simp [Tryz.ntmps60]) fun W I => ?_
 refine EC (t := 0) rfl fun hl0 => ?_
 refine EC (t := 1) rfl fun hl1 => ?_
 repeat' (first
  | refine ca A3 (hX) ?_
  | refine ca An (hE) ?_
  | refine ca BO (ahead _ _) ?_
  | exact True.intro | refine AM ?_ | refine two ?_ ?_
  | (refine imp fun hc => ?_) <;> try exact cx hc
  | refine all fun v_ => ?_)
 · refine CY ?_
   ((with_reducible apply rq2); rfl; rfl; rfl)
   refine AD ?_
   unfold DW
   rw [hx, if_pos hc]
 have h1 : e = 0 := by omega
 subst h1
 have hs : DW l x c = (FR l (tAt l x c) l.length, 0) := by
  unfold DW
  rw [hx]; rfl
 obtain ⟨g, ta⟩ := HX hx
 have h60 := g.h60
 have hal := ta.len
 have hr6 := g.ah
 have he2 : e2 = 0 := by have := g.ends; rw [he] at this; exact this
 subst he2
 obtain ⟨_, _, _, hlen, hes⟩ := Cb he
 refine AL (X := Nat) (fun i => [(8, .d (Bv a)), (10, .d (AP es)), (12, .int (FR l (tAt l x c) i)), (13, .int (Aw l i : Nat)), (32, .d (AN l)), (33, .int l.length), (34, .int i)]) (fun _ => []) (fun i => i ≤ l.length) (fun i => l.length - i) 0 (Nat.zero_le _) (VS.of_le ?_) ?_
 · exact leD
 rintro i k1
 have hmb := GS l (tAt l x c) i
 by_cases hi : i < l.length
 · have hki := BN l i hi
   have hrk := FY l i hi
   have hrl := Uf (l := l) (i := i + 1) (by omega)
   by_cases hah : AU l[i].kind
   · rw [if_pos hah] at hrk
     obtain ⟨pa, pb⟩ := Dz hah
     obtain ⟨q1, q2, q3, q4, q5⟩ := E0 hi (g.well i hi) pa
     have he1 : es[i + 1] = (second l i : Int) := by rw [hes (i + 1) (by omega), ← q4]
     have hp6 := gq (j := Aw l i) (by omega)
     have hin : Aj (1 * 2 ^ ((Aw l i : Nat) : Int).toNat) := by rw [Int.toNat_natCast]; unfold Aj; omega
     have hor : bits .or .i64 (FR l (tAt l x c) i) (1 * 2 ^ ((Aw l i : Nat) : Int).toNat) = FR l (tAt l x c) i + 2 ^ Aw l i := by
      rw [Int.toNat_natCast, Int.one_mul]
      exact cU (Aw l i) hmb.1 hmb.2 (by omega) Int.emod_self (by omega) (by omega)
     have hst : ∀ m, metAt l (tAt l x c) i = m → FR l (tAt l x c) (i + 1) = FR l (tAt l x c) i + if m = true then 2 ^ Aw l i else 0 := fun m hm => Wa hah hm
     have hma : metAt l (tAt l x c) i = SE l[i].kind a[i] a[i + 1] (tAt l x c (second l i)) := by
      unfold metAt
      rw [hki, ta.get, ta.get]
     have hsec : l[i].kind = 15 ∨ l[i].kind = 16 → ∃ h : second l i < a.length, a[second l i] = tAt l x c (second l i) := fun h => ⟨by have := (Fx hi (g.well i hi) (pb h)).1; omega, ta.get _ _⟩
     generalize hS : tAt l x c (second l i) = S at hma hsec
     unfold SE at hma
     by_cases h56 : l[i].kind = 15 ∨ l[i].kind = 16
     · obtain ⟨s1, s2⟩ := hsec h56
       have he1' : es[((i : Int) + 1).toNat]'(by omega) = (second l i : Int) := he1
       have s2' : a[(es[((i : Int) + 1).toNat]'(by omega)).toNat]'(by omega) = S := by simp only [he1', Int.toNat_natCast]; exact s2
       repeat' (first
        | refine ca A3 (hX) ?_
        | refine ca An (hE) ?_
        | refine ca BO (ahead _ _) ?_
        | exact True.intro | refine AM ?_ | refine two ?_ ?_
        | (refine imp fun hc => ?_) <;> try exact cx hc
        | refine all fun v_ => ?_)
       all_goals
        cases hmm : metAt l (tAt l x c) i with
        | true =>
          have hm := hst true hmm
          rw [if_pos rfl] at hm
          first
           | (refine ⟨i + 1, by omega, by omega, vle (List.nil_sublist _) ?_⟩
              exact leD
              done)
           | (exfalso
              rw [hma] at hmm
              clear hst hma hX hE hs hx ta hor hin
              simp_all)
        | false =>
          have hm := hst false hmm
          rw [if_neg (by decide), Int.add_zero] at hm
          first
           | (refine ⟨i + 1, by omega, by omega, vle (List.nil_sublist _) ?_⟩
              exact leD
              done)
           | (exfalso
              rw [hma] at hmm
              clear hst hma hX hE hs hx ta hor hin
              simp_all)
     · repeat' (first
        | refine ca A3 (hX) ?_
        | refine ca An (hE) ?_
        | refine ca BO (ahead _ _) ?_
        | exact True.intro | refine AM ?_ | refine two ?_ ?_
        | (refine imp fun hc => ?_) <;> try exact cx hc
        | refine all fun v_ => ?_)
       all_goals
        cases hmm : metAt l (tAt l x c) i with
        | true =>
          have hm := hst true hmm
          rw [if_pos rfl] at hm
          first
           | (refine ⟨i + 1, by omega, by omega, vle (List.nil_sublist _) ?_⟩
              exact leD
              done)
           | (exfalso
              rw [hma] at hmm
              clear hst hma hX hE hs hx ta hor hin
              simp_all)
        | false =>
          have hm := hst false hmm
          rw [if_neg (by decide), Int.add_zero] at hm
          first
           | (refine ⟨i + 1, by omega, by omega, vle (List.nil_sublist _) ?_⟩
              exact leD
              done)
           | (exfalso
              rw [hma] at hmm
              clear hst hma hX hE hs hx ta hor hin
              simp_all)
   · rw [if_neg hah] at hrk
     have hsk := Vi (A := tAt l x c) (hi := hi) hah
     repeat' (first
      | refine ca A3 (hX) ?_
      | refine ca An (hE) ?_
      | refine ca BO (ahead _ _) ?_
      | exact True.intro | refine AM ?_ | refine two ?_ ?_
      | (refine imp fun hc => ?_) <;> try exact cx hc
      | refine all fun v_ => ?_)
     refine ⟨i + 1, by omega, by omega, vle (List.nil_sublist _) ?_⟩
     exact leD
 · repeat' (first
    | refine ca A3 (hX) ?_
    | refine ca An (hE) ?_
    | refine ca BO (ahead _ _) ?_
    | exact True.intro | refine AM ?_ | refine two ?_ ?_
    | (refine imp fun hc => ?_) <;> try exact cx hc
    | refine all fun v_ => ?_)
   refine AO (VS.drop (List.nil_sublist _)) ?_
   ((with_reducible apply rq2); rfl; rfl; rfl)
   refine AD ?_
   rw [hs, show i = l.length by omega]
end Go.Proofs.YtajnpfgelpkijaaGreatDoor
