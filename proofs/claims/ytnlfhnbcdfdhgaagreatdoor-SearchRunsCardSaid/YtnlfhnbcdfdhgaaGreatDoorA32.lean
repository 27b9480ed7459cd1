/- Own texts. -/
import Derived.Test.YtnlfhnbcdfdhgaaGreatDoorA29
set_option linter.unusedVariables false
set_option linter.unusedSimpArgs false
set_option maxRecDepth 100000
set_option maxHeartbeats 4000000
namespace Go.Proofs.YtnlfhnbcdfdhgaaGreatDoor
open Go Go.Av Go.Sp
theorem Xa : Cal Tryz.prog 48 := Cal.of Tryz.func48 (by kernel_rfl) (by kernel_rfl)
theorem XU : Cal Tryz.prog 66 := Cal.of Tryz.func66 (by kernel_rfl) (by kernel_rfl)
theorem Pf {l : List Fo} {A : Nat → Bool} {i : Nat} {hi : i < l.length} (h : Ay l[i].kind) {m : Bool} (hm : metAt l A i = m) : GI l A (i + 1) = GI l A i + if m = true then 2 ^ BU l i else 0 := by
 simp only [GI, Aq l i hi]
 cases m with
 | true => rw [if_pos ⟨h, hm⟩, if_pos rfl]
 | false => rw [if_neg (fun k => by rw [hm] at k; exact absurd k.2 (by decide)), if_neg (by decide)]
theorem PU {l : List Fo} {A : Nat → Bool} {i : Nat} {hi : i < l.length} (h : ¬ Ay l[i].kind) : GI l A (i + 1) = GI l A i := by
 simp only [GI, Aq l i hi]
 rw [if_neg (fun k => h k.1), Int.add_zero]
set_option maxHeartbeats 4000000 in
theorem gu (l : List Fo) (x : List Bool) (c : Int) : ACr Tryz.prog GP 48 [.d (AO l), .d (Ap x), .int c] (.tup [.int (Ca l x c).1, .int (Ca l x c).2]) := by
 have hX := QH l x c
 have hE := Ends l
 generalize hx : A2 l x c = p at hX
 obtain ⟨a, e⟩ := p
 generalize he : Af l = q at hE
 obtain ⟨es, e2⟩ := q
 dsimp only at hX hE
 refine AK (ts := [6, 7]) Tryz.f48.ntmps Tryz.func48 rfl rfl rfl (by simp [Tryz.ntmps48]) fun W I => ?_
 refine Bn (t := 0) rfl fun hl0 => ?_
 refine Bn (t := 1) rfl fun hl1 => ?_
 repeat' (first | refine ca BN (hX) ?_ | refine ca A1 (hE) ?_ | refine ca Bv (ahead _ _) ?_ | exact jA | refine AP ?_ | refine two ?_ ?_ | refine imp fun hc => ?_; try exact cx hc | refine all fun v_ => ?_)
 · refine A0 ?_
   ((with_reducible apply rq2); rfl; rfl; rfl)
   refine AA ?_
   unfold Ca
   rw [hx, if_pos hc]
 have h1 : e = 0 := by omega
 subst h1
 have hs : Ca l x c = (GI l (tAt l x c) l.length, 0) := by
  unfold Ca
  rw [hx]; rfl
 obtain ⟨g, ta⟩ := D6 hx
 have h60 := g.h60
 have hal := ta.len
 have hr6 := g.ah
 have he2 : e2 = 0 := by have := g.ends; rw [he] at this; exact this
 subst he2
 obtain ⟨_, _, _, hlen, hes⟩ := B1 he
 refine AG (X := Nat) (fun i => [(8, .d (Ap a)), (10, .d (AJ es)), (12, .int (GI l (tAt l x c) i)), (13, .int (BU l i : Nat)), (32, .d (AO l)), (33, .int l.length), (34, .int i)]) (fun _ => []) (fun i => i ≤ l.length) (fun i => l.length - i) 0 (Nat.zero_le _) (VS.of_le ?_) ?_
 · exact leD
 rintro i k1
 have hmb := KC l (tAt l x c) i
 by_cases hi : i < l.length
 · have hki := Aq l i hi
   have hrk := Ek l i hi
   have hrl := Qs (l := l) (i := i + 1) jB
   by_cases hah : Ay l[i].kind
   · rw [if_pos hah] at hrk
     obtain ⟨pa, pb⟩ := GL hah
     obtain ⟨q1, q2, q3, q4, q5⟩ := DY hi (g.well i hi) pa
     have he1 : es[i + 1] = (second l i : Int) := by rw [hes (i + 1) jB, ← q4]
     have hp6 := dq (j := BU l i) jB
     have hin : Ao (1 * 2 ^ ((BU l i : Nat) : Int).toNat) := by rw [Int.toNat_natCast]; unfold Ao; omega
     have hor : bits .or .i64 (GI l (tAt l x c) i) (1 * 2 ^ ((BU l i : Nat) : Int).toNat) = GI l (tAt l x c) i + 2 ^ BU l i := by
      rw [Int.toNat_natCast, Int.one_mul]
      exact cE (BU l i) hmb.1 hmb.2 jB Int.emod_self jB jB
     have hst : ∀ m, metAt l (tAt l x c) i = m → GI l (tAt l x c) (i + 1) = GI l (tAt l x c) i + if m = true then 2 ^ BU l i else 0 := fun m hm => Pf hah hm
     have hma : metAt l (tAt l x c) i = ZR l[i].kind a[i] a[i + 1] (tAt l x c (second l i)) := by
      unfold metAt
      rw [hki, ta.get, ta.get]
     have hsec : l[i].kind = 15 ∨ l[i].kind = 16 → ∃ h : second l i < a.length, a[second l i] = tAt l x c (second l i) := fun h => ⟨by have := (D9 hi (g.well i hi) (pb h)).1; omega, ta.get _ _⟩
     generalize hS : tAt l x c (second l i) = S at hma hsec
     unfold ZR at hma
     by_cases h56 : l[i].kind = 15 ∨ l[i].kind = 16
     · obtain ⟨s1, s2⟩ := hsec h56
       have he1' : es[((i : Int) + 1).toNat]'jB = (second l i : Int) := he1
       have s2' : a[(es[((i : Int) + 1).toNat]'jB).toNat]'jB = S := by simp only [he1', Int.toNat_natCast]; exact s2
       repeat' (first | refine ca BN (hX) ?_ | refine ca A1 (hE) ?_ | refine ca Bv (ahead _ _) ?_ | exact jA | refine AP ?_ | refine two ?_ ?_ | refine imp fun hc => ?_; try exact cx hc | refine all fun v_ => ?_)
       all_goals
        cases hmm : metAt l (tAt l x c) i with
        | true =>
          have hm := hst true hmm
          rw [if_pos rfl] at hm
          first
           | (refine ⟨i + 1, by omega, by omega, vle (jc _) ?_⟩
              exact leD
              done)
           | (exfalso
              rw [hma] at hmm
              clear hst hma hX hE hs hx ta hor hin
              simp_all)
        | false =>
          have hm := hst false hmm
          rw [if_neg (by decide), Int.add_zero] at hm
          first
           | (refine ⟨i + 1, by omega, by omega, vle (jc _) ?_⟩
              exact leD
              done)
           | (exfalso
              rw [hma] at hmm
              clear hst hma hX hE hs hx ta hor hin
              simp_all)
     · repeat' (first | refine ca BN (hX) ?_ | refine ca A1 (hE) ?_ | refine ca Bv (ahead _ _) ?_ | exact jA | refine AP ?_ | refine two ?_ ?_ | refine imp fun hc => ?_; try exact cx hc | refine all fun v_ => ?_)
       all_goals
        cases hmm : metAt l (tAt l x c) i with
        | true =>
          have hm := hst true hmm
          rw [if_pos rfl] at hm
          first
           | (refine ⟨i + 1, by omega, by omega, vle (jc _) ?_⟩
              exact leD
              done)
           | (exfalso
              rw [hma] at hmm
              clear hst hma hX hE hs hx ta hor hin
              simp_all)
        | false =>
          have hm := hst false hmm
          rw [if_neg (by decide), Int.add_zero] at hm
          first
           | (refine ⟨i + 1, by omega, by omega, vle (jc _) ?_⟩
              exact leD
              done)
           | (exfalso
              rw [hma] at hmm
              clear hst hma hX hE hs hx ta hor hin
              simp_all)
   · rw [if_neg hah] at hrk
     have hsk := PU (A := tAt l x c) (hi := hi) hah
     repeat' (first | refine ca BN (hX) ?_ | refine ca A1 (hE) ?_ | refine ca Bv (ahead _ _) ?_ | exact jA | refine AP ?_ | refine two ?_ ?_ | refine imp fun hc => ?_; try exact cx hc | refine all fun v_ => ?_)
     refine ⟨i + 1, by omega, by omega, vle (jc _) ?_⟩
     exact leD
 · repeat' (first | refine ca BN (hX) ?_ | refine ca A1 (hE) ?_ | refine ca Bv (ahead _ _) ?_ | exact jA | refine AP ?_ | refine two ?_ ?_ | refine imp fun hc => ?_; try exact cx hc | refine all fun v_ => ?_)
   refine AI jE ?_
   ((with_reducible apply rq2); rfl; rfl; rfl)
   refine AA ?_
   rw [hs, show i = l.length by omega]
set_option maxRecDepth 100000 in
set_option maxHeartbeats 4000000 in
theorem iA (G : List (Nat × List D)) (l : List Fo) (x : List Bool) (c : Int) : ACr Tryz.prog G 66 [.d (AO l), .d (Ap x), .int c] (.tup [.int (Ca l x c).1, .int (Ca l x c).2]) := by
 have hX := Ir G l x c
 generalize hx : A2 l x c = p at hX
 obtain ⟨a, e⟩ := p
 dsimp only at hX
 have hsa := True.intro
 refine AK (ts := [6, 7]) Tryz.f66.ntmps Tryz.func66 rfl rfl rfl (by simp [Tryz.ntmps66]) fun W I => ?_
 refine Bn (t := 0) rfl fun hl0 => ?_
 refine Bn (t := 1) rfl fun hl1 => ?_
 repeat' (first | refine ca Aw (hX) ?_ | refine ca As (BW _ _) ?_ | refine ca Bj (hsa) ?_ | exact jA | refine AP ?_ | refine two ?_ ?_ | refine imp fun hc => ?_; try exact cx hc | refine all fun v_ => ?_)
 · refine A0 ?_
   ((with_reducible apply rq2); rfl; rfl; rfl)
   refine AA ?_
   unfold Ca
   rw [hx, if_pos hc]
 have h1 : e = 0 := by omega
 subst h1
 have hs : Ca l x c = (GI l (tAt l x c) l.length, 0) := by
  unfold Ca
  rw [hx]; rfl
 obtain ⟨g, ta⟩ := D6 hx
 have h60 := g.h60
 have hal := ta.len
 have hr6 := g.ah
 refine AG (X := Nat) (fun i => [(0, .d (AO l)), (8, .d (Ap a)), (10, .int (GI l (tAt l x c) i)), (11, .int (2 ^ BU l i)), (12, .int i)]) (fun _ => []) (fun i => i ≤ l.length) (fun i => l.length - i) 0 (Nat.zero_le _) (VS.of_le ?_) ?_
 · exact leD
 rintro i k1
 have hmb := KC l (tAt l x c) i
 by_cases hi : i < l.length
 · have hki := Aq l i hi
   have hrk := Ek l i hi
   have hrl := Qs (l := l) (i := i + 1) jB
   by_cases hah : Ay l[i].kind
   · rw [if_pos hah] at hrk
     obtain ⟨pa, pb⟩ := GL hah
     obtain ⟨q1, q2, q3, q4, q5⟩ := DY hi (g.well i hi) pa
     have hsa := Kg G l i jB
     rw [q4] at hsa
     have hp6 := dq (j := BU l i) jB
     have hpw : (2 : Int) ^ BU l (i + 1) = 2 ^ BU l i * 2 := by rw [hrk, Int.pow_succ]
     have hor := True.intro
     have hin := True.intro
     have hst : ∀ m, metAt l (tAt l x c) i = m → GI l (tAt l x c) (i + 1) = GI l (tAt l x c) i + if m = true then 2 ^ BU l i else 0 := fun m hm => Pf hah hm
     have hma : metAt l (tAt l x c) i = ZR l[i].kind a[i] a[i + 1] (tAt l x c (second l i)) := by
      unfold metAt
      rw [hki, ta.get, ta.get]
     have hsec : l[i].kind = 15 ∨ l[i].kind = 16 → ∃ h : second l i < a.length, a[second l i] = tAt l x c (second l i) := fun h => ⟨by have := (D9 hi (g.well i hi) (pb h)).1; omega, ta.get _ _⟩
     generalize hS : tAt l x c (second l i) = S at hma hsec
     unfold ZR at hma
     have hE := True.intro
     by_cases h56 : l[i].kind = 15 ∨ l[i].kind = 16
     · obtain ⟨s1, s2⟩ := hsec h56
       repeat' (first | refine ca Aw (hX) ?_ | refine ca As (BW _ _) ?_ | refine ca Bj (hsa) ?_ | exact jA | refine AP ?_ | refine two ?_ ?_ | refine imp fun hc => ?_; try exact cx hc | refine all fun v_ => ?_)
       all_goals
        cases hmm : metAt l (tAt l x c) i with
        | true =>
          have hm := hst true hmm
          rw [if_pos rfl] at hm
          first
           | (refine ⟨i + 1, by omega, by omega, vle (jc _) ?_⟩
              exact leD
              done)
           | (exfalso
              rw [hma] at hmm
              clear hst hma hX hE hs hx ta hor hin
              simp_all)
        | false =>
          have hm := hst false hmm
          rw [if_neg (by decide), Int.add_zero] at hm
          first
           | (refine ⟨i + 1, by omega, by omega, vle (jc _) ?_⟩
              exact leD
              done)
           | (exfalso
              rw [hma] at hmm
              clear hst hma hX hE hs hx ta hor hin
              simp_all)
     · repeat' (first | refine ca Aw (hX) ?_ | refine ca As (BW _ _) ?_ | refine ca Bj (hsa) ?_ | exact jA | refine AP ?_ | refine two ?_ ?_ | refine imp fun hc => ?_; try exact cx hc | refine all fun v_ => ?_)
       all_goals
        cases hmm : metAt l (tAt l x c) i with
        | true =>
          have hm := hst true hmm
          rw [if_pos rfl] at hm
          first
           | (refine ⟨i + 1, by omega, by omega, vle (jc _) ?_⟩
              exact leD
              done)
           | (exfalso
              rw [hma] at hmm
              clear hst hma hX hE hs hx ta hor hin
              simp_all)
        | false =>
          have hm := hst false hmm
          rw [if_neg (by decide), Int.add_zero] at hm
          first
           | (refine ⟨i + 1, by omega, by omega, vle (jc _) ?_⟩
              exact leD
              done)
           | (exfalso
              rw [hma] at hmm
              clear hst hma hX hE hs hx ta hor hin
              simp_all)
   · rw [if_neg hah] at hrk
     rw [Nat.add_zero] at hrk
     have hsk := PU (A := tAt l x c) (hi := hi) hah
     have hpw : (2 : Int) ^ BU l (i + 1) = 2 ^ BU l i := by rw [hrk]; try rfl
     repeat' (first | refine ca Aw (hX) ?_ | refine ca As (BW _ _) ?_ | refine ca Bj (hsa) ?_ | exact jA | refine AP ?_ | refine two ?_ ?_ | refine imp fun hc => ?_; try exact cx hc | refine all fun v_ => ?_)
     refine ⟨i + 1, by omega, by omega, vle (jc _) ?_⟩
     exact leD
 · repeat' (first | refine ca Aw (hX) ?_ | refine ca As (BW _ _) ?_ | refine ca Bj (hsa) ?_ | exact jA | refine AP ?_ | refine two ?_ ?_ | refine imp fun hc => ?_; try exact cx hc | refine all fun v_ => ?_)
   refine AI jE ?_
   ((with_reducible apply rq2); rfl; rfl; rfl)
   refine AA ?_
   rw [hs, show i = l.length by omega]
end Go.Proofs.YtnlfhnbcdfdhgaaGreatDoor
