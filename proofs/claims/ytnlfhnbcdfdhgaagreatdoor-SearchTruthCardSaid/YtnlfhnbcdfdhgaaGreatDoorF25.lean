/- A bundle of this claim's own texts: T13. -/
import Derived.Test.YtnlfhnbcdfdhgaaGreatDoorF22
set_option linter.unusedVariables false
set_option linter.unusedSimpArgs false
set_option maxRecDepth 100000
set_option maxHeartbeats 4000000
namespace Go.Proofs.YtnlfhnbcdfdhgaaGreatDoor
open Go Go.Av Go.Sp

theorem Ve : Cal Tryz.prog 48 := Cal.of Tryz.func48 (by kernel_rfl) (by kernel_rfl)
theorem UZ {l : List Fo} {A : Nat → Bool} {i : Nat} {hi : i < l.length} (h : Ar l[i].kind) {m : Bool} (hm : metAt l A i = m) : Gq l A (i + 1) = Gq l A i + if m = true then 2 ^ CG l i else 0 := by
 simp only [Gq, Bq l i hi]
 cases m with
 | true => rw [if_pos ⟨h, hm⟩, if_pos rfl]
 | false => rw [if_neg (fun k => by rw [hm] at k; exact absurd k.2 (by decide)), if_neg (by decide)]
theorem WK {l : List Fo} {A : Nat → Bool} {i : Nat} {hi : i < l.length} (h : ¬ Ar l[i].kind) : Gq l A (i + 1) = Gq l A i := by
 simp only [Gq, Bq l i hi]
 rw [if_neg (fun k => h k.1), Int.add_zero]
set_option maxHeartbeats 4000000 in
theorem eY (l : List Fo) (x : List Bool) (c : Int) : ACr Tryz.prog GP 48 [.d (AO l), .d (Bt x), .int c] (.tup [.int (D6 l x c).1, .int (D6 l x c).2]) := by
 have hX := OY l x c
 have hE := Ends l
 generalize hx : BN l x c = p at hX
 obtain ⟨a, e⟩ := p
 generalize he : Aw l = q at hE
 obtain ⟨es, e2⟩ := q
 dsimp only at hX hE
 refine AJ (ts := [6, 7]) Tryz.f48.ntmps Tryz.func48 rfl rfl rfl (by simp [Tryz.ntmps48]) fun W I => ?_
 refine DB (t := 0) rfl fun hl0 => ?_
 refine DB (t := 1) rfl fun hl1 => ?_
 repeat' (first
  | refine ca Ay (hX) ?_
  | refine ca Am (hE) ?_
  | refine ca BQ (ahead _ _) ?_
  | exact True.intro | refine AP ?_ | refine two ?_ ?_
  | (refine imp fun hc => ?_) <;> try exact cx hc
  | refine all fun v_ => ?_)
 · refine A6 ?_
   ((with_reducible apply rq2); rfl; rfl; rfl)
   refine AB ?_
   unfold D6
   rw [hx, if_pos hc]
 have h1 : e = 0 := by omega
 subst h1
 have hs : D6 l x c = (Gq l (tAt l x c) l.length, 0) := by
  unfold D6
  rw [hx]; rfl
 obtain ⟨g, ta⟩ := HL hx
 have h60 := g.h60
 have hal := ta.len
 have hr6 := g.ah
 have he2 : e2 = 0 := by have := g.ends; rw [he] at this; exact this
 subst he2
 obtain ⟨_, _, _, hlen, hes⟩ := Ct he
 refine AM (X := Nat) (fun i => [(8, .d (Bt a)), (10, .d (AK es)), (12, .int (Gq l (tAt l x c) i)), (13, .int (CG l i : Nat)), (32, .d (AO l)), (33, .int l.length), (34, .int i)]) (fun _ => []) (fun i => i ≤ l.length) (fun i => l.length - i) 0 (Nat.zero_le _) (VS.of_le ?_) ?_
 · exact leD
 rintro i k1
 have hmb := Lx l (tAt l x c) i
 by_cases hi : i < l.length
 · have hki := Bq l i hi
   have hrk := Hj l i hi
   have hrl := Tz (l := l) (i := i + 1) (by omega)
   by_cases hah : Ar l[i].kind
   · rw [if_pos hah] at hrk
     obtain ⟨pa, pb⟩ := KA hah
     obtain ⟨q1, q2, q3, q4, q5⟩ := FF hi (g.well i hi) pa
     have he1 : es[i + 1] = (second l i : Int) := by rw [hes (i + 1) (by omega), ← q4]
     have hp6 := dq (j := CG l i) (by omega)
     have hin : AX (1 * 2 ^ ((CG l i : Nat) : Int).toNat) := by rw [Int.toNat_natCast]; unfold AX; omega
     have hor : bits .or .i64 (Gq l (tAt l x c) i) (1 * 2 ^ ((CG l i : Nat) : Int).toNat) = Gq l (tAt l x c) i + 2 ^ CG l i := by
      rw [Int.toNat_natCast, Int.one_mul]
      exact aR (CG l i) hmb.1 hmb.2 (by omega) Int.emod_self (by omega) (by omega)
     have hst : ∀ m, metAt l (tAt l x c) i = m → Gq l (tAt l x c) (i + 1) = Gq l (tAt l x c) i + if m = true then 2 ^ CG l i else 0 := fun m hm => UZ hah hm
     have hma : metAt l (tAt l x c) i = cW l[i].kind a[i] a[i + 1] (tAt l x c (second l i)) := by
      unfold metAt
      rw [hki, ta.get, ta.get]
     have hsec : l[i].kind = 15 ∨ l[i].kind = 16 → ∃ h : second l i < a.length, a[second l i] = tAt l x c (second l i) := fun h => ⟨by have := (Fz hi (g.well i hi) (pb h)).1; omega, ta.get _ _⟩
     generalize hS : tAt l x c (second l i) = S at hma hsec
     unfold cW at hma
     by_cases h56 : l[i].kind = 15 ∨ l[i].kind = 16
     · obtain ⟨s1, s2⟩ := hsec h56
       have he1' : es[((i : Int) + 1).toNat]'(by omega) = (second l i : Int) := he1
       have s2' : a[(es[((i : Int) + 1).toNat]'(by omega)).toNat]'(by omega) = S := by simp only [he1', Int.toNat_natCast]; exact s2
       repeat' (first
        | refine ca Ay (hX) ?_
        | refine ca Am (hE) ?_
        | refine ca BQ (ahead _ _) ?_
        | exact True.intro | refine AP ?_ | refine two ?_ ?_
        | (refine imp fun hc => ?_) <;> try exact cx hc
        | refine all fun v_ => ?_)
       all_goals
        cases hmm : metAt l (tAt l x c) i with
        | true =>
          have hm := hst true hmm
          rw [if_pos rfl] at hm
          first
           | (refine ⟨i + 1, by omega, by omega, vle (List.nil_sublist _) ?_⟩
              exact leD
              done)
           | (exfalso
              rw [hma] at hmm
              clear hst hma hX hE hs hx ta hor hin
              simp_all)
        | false =>
          have hm := hst false hmm
          rw [if_neg (by decide), Int.add_zero] at hm
          first
           | (refine ⟨i + 1, by omega, by omega, vle (List.nil_sublist _) ?_⟩
              exact leD
              done)
           | (exfalso
              rw [hma] at hmm
              clear hst hma hX hE hs hx ta hor hin
              simp_all)
     · repeat' (first
        | refine ca Ay (hX) ?_
        | refine ca Am (hE) ?_
        | refine ca BQ (ahead _ _) ?_
        | exact True.intro | refine AP ?_ | refine two ?_ ?_
        | (refine imp fun hc => ?_) <;> try exact cx hc
        | refine all fun v_ => ?_)
       all_goals
        cases hmm : metAt l (tAt l x c) i with
        | true =>
          have hm := hst true hmm
          rw [if_pos rfl] at hm
          first
           | (refine ⟨i + 1, by omega, by omega, vle (List.nil_sublist _) ?_⟩
              exact leD
              done)
           | (exfalso
              rw [hma] at hmm
              clear hst hma hX hE hs hx ta hor hin
              simp_all)
        | false =>
          have hm := hst false hmm
          rw [if_neg (by decide), Int.add_zero] at hm
          first
           | (refine ⟨i + 1, by omega, by omega, vle (List.nil_sublist _) ?_⟩
              exact leD
              done)
           | (exfalso
              rw [hma] at hmm
              clear hst hma hX hE hs hx ta hor hin
              simp_all)
   · rw [if_neg hah] at hrk
     have hsk := WK (A := tAt l x c) (hi := hi) hah
     repeat' (first
      | refine ca Ay (hX) ?_
      | refine ca Am (hE) ?_
      | refine ca BQ (ahead _ _) ?_
      | exact True.intro | refine AP ?_ | refine two ?_ ?_
      | (refine imp fun hc => ?_) <;> try exact cx hc
      | refine all fun v_ => ?_)
     refine ⟨i + 1, by omega, by omega, vle (List.nil_sublist _) ?_⟩
     exact leD
 · repeat' (first
    | refine ca Ay (hX) ?_
    | refine ca Am (hE) ?_
    | refine ca BQ (ahead _ _) ?_
    | exact True.intro | refine AP ?_ | refine two ?_ ?_
    | (refine imp fun hc => ?_) <;> try exact cx hc
    | refine all fun v_ => ?_)
   refine AN (VS.drop (List.nil_sublist _)) ?_
   ((with_reducible apply rq2); rfl; rfl; rfl)
   refine AB ?_
   rw [hs, show i = l.length by omega]
end Go.Proofs.YtnlfhnbcdfdhgaaGreatDoor
