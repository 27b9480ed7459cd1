/- A bundle of this claim's own texts: T13. -/
import Derived.Test.YtniklgkoiaeipaaGreatDoorD24
set_option linter.unusedVariables false
set_option linter.unusedSimpArgs false
set_option maxRecDepth 100000
set_option maxHeartbeats 4000000
namespace Go.Proofs.YtniklgkoiaeipaaGreatDoor
open Go Go.Av Go.Sp

theorem cal_Meets : Cal Tryz.prog 46 := Cal.of Tryz.func46 (by kernel_rfl) (by kernel_rfl)
theorem mets_step {l : List Fo} {A : Nat → Bool} {i : Nat} {hi : i < l.length} (h : aheadP l[i].kind) {m : Bool} (hm : metAt l A i = m) : mets l A (i + 1) = mets l A i + if m = true then 2 ^ rank l i else 0 := by
 simp only [mets, kindAt_eq l i hi]
 cases m with
 | true => rw [if_pos ⟨h, hm⟩, if_pos rfl]
 | false => rw [if_neg (fun k => by rw [hm] at k; exact absurd k.2 (by decide)), if_neg (by decide)]
theorem mets_skip {l : List Fo} {A : Nat → Bool} {i : Nat} {hi : i < l.length} (h : ¬ aheadP l[i].kind) : mets l A (i + 1) = mets l A i := by
 simp only [mets, kindAt_eq l i hi]
 rw [if_neg (fun k => h k.1), Int.add_zero]
theorem armXT13_1 {p q : Prop} (hp : p) (h : p → q := by
 apply cmp; (focus (first
  | ((with_reducible apply call0); (focus rfl); (focus exact cal_Truths); (focus exact hX); (focus rfl))
  | ((with_reducible apply je_call0); (focus rfl); (focus (decide +kernel)); (focus rfl); (focus exact cal_Truths); (focus exact hX); (focus rfl))
  | ((with_reducible apply call0); (focus rfl); (focus exact cal_Ends); (focus exact hE); (focus rfl))
  | ((with_reducible apply je_call0); (focus rfl); (focus (decide +kernel)); (focus rfl); (focus exact cal_Ends); (focus exact hE); (focus rfl))
  | ((with_reducible apply call0); (focus rfl); (focus exact cal_ahead); (focus exact ahead _ _); (focus rfl))
  | ((with_reducible apply je_call0); (focus rfl); (focus (decide +kernel)); (focus rfl); (focus exact cal_ahead); (focus exact ahead _ _); (focus rfl))
  ))
 exact fun h => h) : q := h hp
set_option maxHeartbeats 4000000 in
theorem Meets (l : List Fo) (x : List Bool) (c : Int) : ACr Tryz.prog GP 46 [.d (opsD l), .d (boolsD x), .int c] (.tup [.int (meetsOf l x c).1, .int (meetsOf l x c).2]) := by
 have hX := Truths l x c
 have hE := Ends l
 generalize hx : truthsOf l x c = p at hX
 obtain ⟨a, e⟩ := p
 generalize he : endsOf l = q at hE
 obtain ⟨es, e2⟩ := q
 dsimp only at hX hE
 refine AC_ofV (ts := [6, 7]) Tryz.f46.ntmps Tryz.func46 rfl rfl rfl (by simp [Tryz.ntmps46]) fun W I => ?_
 refine jfact (t := 0) rfl fun hl0 => ?_
 refine jfact (t := 1) rfl fun hl1 => ?_
 repeat' (first
  | refine armXT13_1 ?_
  | exact True.intro | refine stpA ?_ | refine two ?_ ?_
  | (refine imp fun hc => ?_) <;> try exact cx hc
  | refine all fun v_ => ?_)
 · refine retv0 ?_
   ((with_reducible apply rq2); rfl; rfl; rfl)
   refine ret_eq ?_
   unfold meetsOf
   rw [hx, if_pos hc]
 have h1 : e = 0 := by omega
 subst h1
 have hs : meetsOf l x c = (mets l (tAt l x c) l.length, 0) := by
  unfold meetsOf
  rw [hx]; rfl
 obtain ⟨g, ta⟩ := truthsOf_ok hx
 have h60 := g.h60
 have hal := ta.len
 have hr6 := g.ah
 have he2 : e2 = 0 := by have := g.ends; rw [he] at this; exact this
 subst he2
 obtain ⟨_, _, _, hlen, hes⟩ := endsOf_ok he
 refine J_loopV (X := Nat) (fun i => [(8, .d (boolsD a)), (10, .d (intsD es)), (12, .int (mets l (tAt l x c) i)), (13, .int (rank l i : Nat)), (32, .d (opsD l)), (33, .int l.length), (34, .int i)]) (fun _ => []) (fun i => i ≤ l.length) (fun i => l.length - i) 0 (Nat.zero_le _) (VS.of_le ?_) ?_
 · exact leD
 rintro i k1
 have hmb := mets_bound l (tAt l x c) i
 by_cases hi : i < l.length
 · have hki := kindAt_eq l i hi
   have hrk := rank_succ l i hi
   have hrl := rank_le (l := l) (i := i + 1) (by omega)
   by_cases hah : aheadP l[i].kind
   · rw [if_pos hah] at hrk
     obtain ⟨pa, pb⟩ := ahead_parts hah
     obtain ⟨q1, q2, q3, q4, q5⟩ := first_in hi (g.well i hi) pa
     have he1 : es[i + 1] = (second l i : Int) := by rw [hes (i + 1) (by omega), ← q4]
     have hp6 := pow6 (j := rank l i) (by omega)
     have hin : inI64 (1 * 2 ^ ((rank l i : Nat) : Int).toNat) := by rw [Int.toNat_natCast]; unfold inI64; omega
     have hor : bits .or .i64 (mets l (tAt l x c) i) (1 * 2 ^ ((rank l i : Nat) : Int).toNat) = mets l (tAt l x c) i + 2 ^ rank l i := by
      rw [Int.toNat_natCast, Int.one_mul]
      exact or_join (rank l i) hmb.1 hmb.2 (by omega) Int.emod_self (by omega) (by omega)
     have hst : ∀ m, metAt l (tAt l x c) i = m → mets l (tAt l x c) (i + 1) = mets l (tAt l x c) i + if m = true then 2 ^ rank l i else 0 := fun m hm => mets_step hah hm
     have hma : metAt l (tAt l x c) i = metB l[i].kind a[i] a[i + 1] (tAt l x c (second l i)) := by
      unfold metAt
      rw [hki, ta.get, ta.get]
     have hsec : l[i].kind = 15 ∨ l[i].kind = 16 → ∃ h : second l i < a.length, a[second l i] = tAt l x c (second l i) := fun h => ⟨by have := (second_in hi (g.well i hi) (pb h)).1; omega, ta.get _ _⟩
     generalize hS : tAt l x c (second l i) = S at hma hsec
     unfold metB at hma
     by_cases h56 : l[i].kind = 15 ∨ l[i].kind = 16
     · obtain ⟨s1, s2⟩ := hsec h56
       have he1' : es[((i : Int) + 1).toNat]'(by omega) = (second l i : Int) := he1
       have s2' : a[(es[((i : Int) + 1).toNat]'(by omega)).toNat]'(by omega) = S := by simp only [he1', Int.toNat_natCast]; exact s2
       repeat' (first
        | refine armXT13_1 ?_
        | exact True.intro | refine stpA ?_ | refine two ?_ ?_
        | (refine imp fun hc => ?_) <;> try exact cx hc
        | refine all fun v_ => ?_)
       all_goals
        cases hmm : metAt l (tAt l x c) i with
        | true =>
          have hm := hst true hmm
          rw [if_pos rfl] at hm
          first
           | (refine ⟨i + 1, by omega, by omega, vle (List.nil_sublist _) ?_⟩
              exact leD
              done)
           | (exfalso
              rw [hma] at hmm
              clear hst hma hX hE hs hx ta hor hin
              simp_all)
        | false =>
          have hm := hst false hmm
          rw [if_neg (by decide), Int.add_zero] at hm
          first
           | (refine ⟨i + 1, by omega, by omega, vle (List.nil_sublist _) ?_⟩
              exact leD
              done)
           | (exfalso
              rw [hma] at hmm
              clear hst hma hX hE hs hx ta hor hin
              simp_all)
     · repeat' (first
        | refine armXT13_1 ?_
        | exact True.intro | refine stpA ?_ | refine two ?_ ?_
        | (refine imp fun hc => ?_) <;> try exact cx hc
        | refine all fun v_ => ?_)
       all_goals
        cases hmm : metAt l (tAt l x c) i with
        | true =>
          have hm := hst true hmm
          rw [if_pos rfl] at hm
          first
           | (refine ⟨i + 1, by omega, by omega, vle (List.nil_sublist _) ?_⟩
              exact leD
              done)
           | (exfalso
              rw [hma] at hmm
              clear hst hma hX hE hs hx ta hor hin
              simp_all)
        | false =>
          have hm := hst false hmm
          rw [if_neg (by decide), Int.add_zero] at hm
          first
           | (refine ⟨i + 1, by omega, by omega, vle (List.nil_sublist _) ?_⟩
              exact leD
              done)
           | (exfalso
              rw [hma] at hmm
              clear hst hma hX hE hs hx ta hor hin
              simp_all)
   · rw [if_neg hah] at hrk
     have hsk := mets_skip (A := tAt l x c) (hi := hi) hah
     repeat' (first
      | refine armXT13_1 ?_
      | exact True.intro | refine stpA ?_ | refine two ?_ ?_
      | (refine imp fun hc => ?_) <;> try exact cx hc
      | refine all fun v_ => ?_)
     refine ⟨i + 1, by omega, by omega, vle (List.nil_sublist _) ?_⟩
     exact leD
 · repeat' (first
    | refine armXT13_1 ?_
    | exact True.intro | refine stpA ?_ | refine two ?_ ?_
    | (refine imp fun hc => ?_) <;> try exact cx hc
    | refine all fun v_ => ?_)
   refine retv (VS.drop (List.nil_sublist _)) ?_
   ((with_reducible apply rq2); rfl; rfl; rfl)
   refine ret_eq ?_
   rw [hs, show i = l.length by omega]
end Go.Proofs.YtniklgkoiaeipaaGreatDoor
