/- A bundle of this claim's own texts: T13. -/
import Derived.Test.YtibahljljjkceaaGreatDoorA29
set_option linter.unusedVariables false
set_option linter.unusedSimpArgs false
set_option maxRecDepth 100000
set_option maxHeartbeats 4000000
namespace Go.Proofs.YtibahljljjkceaaGreatDoor
open Go Go.Av Go.Sp

theorem S2 : Cal Tryz.prog 59 := Cal.of Tryz.func59 (by kernel_rfl) (by kernel_rfl)
theorem TT : Cal Tryz.prog 73 := Cal.of Tryz.func73 (by kernel_rfl) (by kernel_rfl)
theorem M0 {l : List Fo} {A : Nat → Bool} {i : Nat} {hi : i < l.length} (h : Ao l[i].kind) {m : Bool} (hm : metAt l A i = m) : Ee l A (i + 1) = Ee l A i + if m = true then 2 ^ Ay l i else 0 := by
 simp only [Ee, An l i hi]
 cases m with
 | true => rw [if_pos ⟨h, hm⟩, if_pos rfl]
 | false => rw [if_neg (fun k => by rw [hm] at k; exact absurd k.2 (by decide)), if_neg (by decide)]
theorem Me {l : List Fo} {A : Nat → Bool} {i : Nat} {hi : i < l.length} (h : ¬ Ao l[i].kind) : Ee l A (i + 1) = Ee l A i := by
 simp only [Ee, An l i hi]
 rw [if_neg (fun k => h k.1), Int.add_zero]
set_option maxHeartbeats 4000000 in
theorem aB (l : List Fo) (x : List Bool) (c : Int) : ACr Tryz.prog GP 59 [.d (AO l), .d (Ai x), .int c] (.tup [.int (CI l x c).1, .int (CI l x c).2]) := by
 have hX := Nh l x c
 have hE := Ends l
 generalize hx : A0 l x c = p at hX
 obtain ⟨a, e⟩ := p
 generalize he : Ah l = q at hE
 obtain ⟨es, e2⟩ := q
 dsimp only at hX hE
 refine AN (ts := [6, 7]) Tryz.f59.ntmps Tryz.func59 rfl rfl rfl (by simp [Tryz.ntmps59]) fun W I => ?_
 refine Bs (t := 0) rfl fun hl0 => ?_
 refine Bs (t := 1) rfl fun hl1 => ?_
 repeat' (first
  | refine ca BK (hX) ?_
  | refine ca A3 (hE) ?_
  | refine ca Bg (ahead _ _) ?_
  | exact True.intro | refine AR ?_ | refine two ?_ ?_
  | (refine imp fun hc => ?_) <;> try exact cx hc
  | refine all fun v_ => ?_)
 · refine Bi ?_
   ((with_reducible apply rq2); rfl; rfl; rfl)
   refine AA ?_
   unfold CI
   rw [hx, if_pos hc]
 have h1 : e = 0 := by omega
 subst h1
 have hs : CI l x c = (Ee l (tAt l x c) l.length, 0) := by
  unfold CI
  rw [hx]; rfl
 obtain ⟨g, ta⟩ := Dk hx
 have h60 := g.h60
 have hal := ta.len
 have hr6 := g.ah
 have he2 : e2 = 0 := by have := g.ends; rw [he] at this; exact this
 subst he2
 obtain ⟨_, _, _, hlen, hes⟩ := Bp he
 refine AG (X := Nat) (fun i => [(8, .d (Ai a)), (10, .d (AK es)), (12, .int (Ee l (tAt l x c) i)), (13, .int (Ay l i : Nat)), (32, .d (AO l)), (33, .int l.length), (34, .int i)]) (fun _ => []) (fun i => i ≤ l.length) (fun i => l.length - i) 0 (Nat.zero_le _) (VS.of_le ?_) ?_
 · exact leD
 rintro i k1
 have hmb := FF l (tAt l x c) i
 by_cases hi : i < l.length
 · have hki := An l i hi
   have hrk := EB l i hi
   have hrl := NN (l := l) (i := i + 1) (by omega)
   by_cases hah : Ao l[i].kind
   · rw [if_pos hah] at hrk
     obtain ⟨pa, pb⟩ := Ft hah
     obtain ⟨q1, q2, q3, q4, q5⟩ := Cu hi (g.well i hi) pa
     have he1 : es[i + 1] = (second l i : Int) := by rw [hes (i + 1) (by omega), ← q4]
     have hp6 := XH (j := Ay l i) (by omega)
     have hin : A9 (1 * 2 ^ ((Ay l i : Nat) : Int).toNat) := by rw [Int.toNat_natCast]; unfold A9; omega
     have hor : bits .or .i64 (Ee l (tAt l x c) i) (1 * 2 ^ ((Ay l i : Nat) : Int).toNat) = Ee l (tAt l x c) i + 2 ^ Ay l i := by
      rw [Int.toNat_natCast, Int.one_mul]
      exact XU (Ay l i) hmb.1 hmb.2 (by omega) Int.emod_self (by omega) (by omega)
     have hst : ∀ m, metAt l (tAt l x c) i = m → Ee l (tAt l x c) (i + 1) = Ee l (tAt l x c) i + if m = true then 2 ^ Ay l i else 0 := fun m hm => M0 hah hm
     have hma : metAt l (tAt l x c) i = TJ l[i].kind a[i] a[i + 1] (tAt l x c (second l i)) := by
      unfold metAt
      rw [hki, ta.get, ta.get]
     have hsec : l[i].kind = 15 ∨ l[i].kind = 16 → ∃ h : second l i < a.length, a[second l i] = tAt l x c (second l i) := fun h => ⟨by have := (DS hi (g.well i hi) (pb h)).1; omega, ta.get _ _⟩
     generalize hS : tAt l x c (second l i) = S at hma hsec
     unfold TJ at hma
     by_cases h56 : l[i].kind = 15 ∨ l[i].kind = 16
     · obtain ⟨s1, s2⟩ := hsec h56
       have he1' : es[((i : Int) + 1).toNat]'(by omega) = (second l i : Int) := he1
       have s2' : a[(es[((i : Int) + 1).toNat]'(by omega)).toNat]'(by omega) = S := by simp only [he1', Int.toNat_natCast]; exact s2
       repeat' (first
        | refine ca BK (hX) ?_
        | refine ca A3 (hE) ?_
        | refine ca Bg (ahead _ _) ?_
        | exact True.intro | refine AR ?_ | refine two ?_ ?_
        | (refine imp fun hc => ?_) <;> try exact cx hc
        | refine all fun v_ => ?_)
       all_goals
        cases hmm : metAt l (tAt l x c) i with
        | true =>
          have hm := hst true hmm
          rw [if_pos rfl] at hm
          first
           | (refine ⟨i + 1, by omega, by omega, vle (List.nil_sublist _) ?_⟩
              exact leD
              done)
           | (exfalso
              rw [hma] at hmm
              clear hst hma hX hE hs hx ta hor hin
              simp_all)
        | false =>
          have hm := hst false hmm
          rw [if_neg (by decide), Int.add_zero] at hm
          first
           | (refine ⟨i + 1, by omega, by omega, vle (List.nil_sublist _) ?_⟩
              exact leD
              done)
           | (exfalso
              rw [hma] at hmm
              clear hst hma hX hE hs hx ta hor hin
              simp_all)
     · repeat' (first
        | refine ca BK (hX) ?_
        | refine ca A3 (hE) ?_
        | refine ca Bg (ahead _ _) ?_
        | exact True.intro | refine AR ?_ | refine two ?_ ?_
        | (refine imp fun hc => ?_) <;> try exact cx hc
        | refine all fun v_ => ?_)
       all_goals
        cases hmm : metAt l (tAt l x c) i with
        | true =>
          have hm := hst true hmm
          rw [if_pos rfl] at hm
          first
           | (refine ⟨i + 1, by omega, by omega, vle (List.nil_sublist _) ?_⟩
              exact leD
              done)
           | (exfalso
              rw [hma] at hmm
              clear hst hma hX hE hs hx ta hor hin
              simp_all)
        | false =>
          have hm := hst false hmm
          rw [if_neg (by decide), Int.add_zero] at hm
          first
           | (refine ⟨i + 1, by omega, by omega, vle (List.nil_sublist _) ?_⟩
              exact leD
              done)
           | (exfalso
              rw [hma] at hmm
              clear hst hma hX hE hs hx ta hor hin
              simp_all)
   · rw [if_neg hah] at hrk
     have hsk := Me (A := tAt l x c) (hi := hi) hah
     repeat' (first
      | refine ca BK (hX) ?_
      | refine ca A3 (hE) ?_
      | refine ca Bg (ahead _ _) ?_
      | exact True.intro | refine AR ?_ | refine two ?_ ?_
      | (refine imp fun hc => ?_) <;> try exact cx hc
      | refine all fun v_ => ?_)
     refine ⟨i + 1, by omega, by omega, vle (List.nil_sublist _) ?_⟩
     exact leD
 · repeat' (first
    | refine ca BK (hX) ?_
    | refine ca A3 (hE) ?_
    | refine ca Bg (ahead _ _) ?_
    | exact True.intro | refine AR ?_ | refine two ?_ ?_
    | (refine imp fun hc => ?_) <;> try exact cx hc
    | refine all fun v_ => ?_)
   refine AH (VS.drop (List.nil_sublist _)) ?_
   ((with_reducible apply rq2); rfl; rfl; rfl)
   refine AA ?_
   rw [hs, show i = l.length by omega]
set_option maxRecDepth 100000 in
set_option maxHeartbeats 4000000 in
theorem aM (G : List (Nat × List D)) (l : List Fo) (x : List Bool) (c : Int) : ACr Tryz.prog G 73 [.d (AO l), .d (Ai x), .int c] (.tup [.int (CI l x c).1, .int (CI l x c).2]) := by
 have hX := Hr G l x c
 generalize hx : A0 l x c = p at hX
 obtain ⟨a, e⟩ := p
 dsimp only at hX
 have hsa := True.intro
 refine AN (ts := [6, 7]) Tryz.f73.ntmps Tryz.func73 rfl rfl rfl (by simp [Tryz.ntmps73]) fun W I => ?_
 refine Bs (t := 0) rfl fun hl0 => ?_
 refine Bs (t := 1) rfl fun hl1 => ?_
 repeat' (first
  | refine ca Au (hX) ?_
  | refine ca Ar (BQ _ _) ?_
  | refine ca BA (hsa) ?_
  | exact True.intro | refine AR ?_ | refine two ?_ ?_
  | (refine imp fun hc => ?_) <;> try exact cx hc
  | refine all fun v_ => ?_)
 · refine Bi ?_
   ((with_reducible apply rq2); rfl; rfl; rfl)
   refine AA ?_
   unfold CI
   rw [hx, if_pos hc]
 have h1 : e = 0 := by omega
 subst h1
 have hs : CI l x c = (Ee l (tAt l x c) l.length, 0) := by
  unfold CI
  rw [hx]; rfl
 obtain ⟨g, ta⟩ := Dk hx
 have h60 := g.h60
 have hal := ta.len
 have hr6 := g.ah
 refine AG (X := Nat) (fun i => [(0, .d (AO l)), (8, .d (Ai a)), (10, .int (Ee l (tAt l x c) i)), (11, .int (2 ^ Ay l i)), (12, .int i)]) (fun _ => []) (fun i => i ≤ l.length) (fun i => l.length - i) 0 (Nat.zero_le _) (VS.of_le ?_) ?_
 · exact leD
 rintro i k1
 have hmb := FF l (tAt l x c) i
 by_cases hi : i < l.length
 · have hki := An l i hi
   have hrk := EB l i hi
   have hrl := NN (l := l) (i := i + 1) (by omega)
   by_cases hah : Ao l[i].kind
   · rw [if_pos hah] at hrk
     obtain ⟨pa, pb⟩ := Ft hah
     obtain ⟨q1, q2, q3, q4, q5⟩ := Cu hi (g.well i hi) pa
     have hsa := Hp G l i (by omega)
     rw [q4] at hsa
     have hp6 := XH (j := Ay l i) (by omega)
     have hpw : (2 : Int) ^ Ay l (i + 1) = 2 ^ Ay l i * 2 := by rw [hrk, Int.pow_succ]
     have hor := True.intro
     have hin := True.intro
     have hst : ∀ m, metAt l (tAt l x c) i = m → Ee l (tAt l x c) (i + 1) = Ee l (tAt l x c) i + if m = true then 2 ^ Ay l i else 0 := fun m hm => M0 hah hm
     have hma : metAt l (tAt l x c) i = TJ l[i].kind a[i] a[i + 1] (tAt l x c (second l i)) := by
      unfold metAt
      rw [hki, ta.get, ta.get]
     have hsec : l[i].kind = 15 ∨ l[i].kind = 16 → ∃ h : second l i < a.length, a[second l i] = tAt l x c (second l i) := fun h => ⟨by have := (DS hi (g.well i hi) (pb h)).1; omega, ta.get _ _⟩
     generalize hS : tAt l x c (second l i) = S at hma hsec
     unfold TJ at hma
     have hE := True.intro
     by_cases h56 : l[i].kind = 15 ∨ l[i].kind = 16
     · obtain ⟨s1, s2⟩ := hsec h56
       repeat' (first
        | refine ca Au (hX) ?_
        | refine ca Ar (BQ _ _) ?_
        | refine ca BA (hsa) ?_
        | exact True.intro | refine AR ?_ | refine two ?_ ?_
        | (refine imp fun hc => ?_) <;> try exact cx hc
        | refine all fun v_ => ?_)
       all_goals
        cases hmm : metAt l (tAt l x c) i with
        | true =>
          have hm := hst true hmm
          rw [if_pos rfl] at hm
          first
           | (refine ⟨i + 1, by omega, by omega, vle (List.nil_sublist _) ?_⟩
              exact leD
              done)
           | (exfalso
              rw [hma] at hmm
              clear hst hma hX hE hs hx ta hor hin
              simp_all)
        | false =>
          have hm := hst false hmm
          rw [if_neg (by decide), Int.add_zero] at hm
          first
           | (refine ⟨i + 1, by omega, by omega, vle (List.nil_sublist _) ?_⟩
              exact leD
              done)
           | (exfalso
              rw [hma] at hmm
              clear hst hma hX hE hs hx ta hor hin
              simp_all)
     · repeat' (first
        | refine ca Au (hX) ?_
        | refine ca Ar (BQ _ _) ?_
        | refine ca BA (hsa) ?_
        | exact True.intro | refine AR ?_ | refine two ?_ ?_
        | (refine imp fun hc => ?_) <;> try exact cx hc
        | refine all fun v_ => ?_)
       all_goals
        cases hmm : metAt l (tAt l x c) i with
        | true =>
          have hm := hst true hmm
          rw [if_pos rfl] at hm
          first
           | (refine ⟨i + 1, by omega, by omega, vle (List.nil_sublist _) ?_⟩
              exact leD
              done)
           | (exfalso
              rw [hma] at hmm
              clear hst hma hX hE hs hx ta hor hin
              simp_all)
        | false =>
          have hm := hst false hmm
          rw [if_neg (by decide), Int.add_zero] at hm
          first
           | (refine ⟨i + 1, by omega, by omega, vle (List.nil_sublist _) ?_⟩
              exact leD
              done)
           | (exfalso
              rw [hma] at hmm
              clear hst hma hX hE hs hx ta hor hin
              simp_all)
   · rw [if_neg hah] at hrk
     rw [Nat.add_zero] at hrk
     have hsk := Me (A := tAt l x c) (hi := hi) hah
     have hpw : (2 : Int) ^ Ay l (i + 1) = 2 ^ Ay l i := by rw [hrk]; try rfl
     repeat' (first
      | refine ca Au (hX) ?_
      | refine ca Ar (BQ _ _) ?_
      | refine ca BA (hsa) ?_
      | exact True.intro | refine AR ?_ | refine two ?_ ?_
      | (refine imp fun hc => ?_) <;> try exact cx hc
      | refine all fun v_ => ?_)
     refine ⟨i + 1, by omega, by omega, vle (List.nil_sublist _) ?_⟩
     exact leD
 · repeat' (first
    | refine ca Au (hX) ?_
    | refine ca Ar (BQ _ _) ?_
    | refine ca BA (hsa) ?_
    | exact True.intro | refine AR ?_ | refine two ?_ ?_
    | (refine imp fun hc => ?_) <;> try exact cx hc
    | refine all fun v_ => ?_)
   refine AH (VS.drop (List.nil_sublist _)) ?_
   ((with_reducible apply rq2); rfl; rfl; rfl)
   refine AA ?_
   rw [hs, show i = l.length by omega]
end Go.Proofs.YtibahljljjkceaaGreatDoor
