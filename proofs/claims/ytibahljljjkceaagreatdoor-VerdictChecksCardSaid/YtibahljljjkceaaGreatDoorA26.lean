/- A bundle of this claim's own texts: N13 Cg W4 W5. -/
import Derived.Lib.AppendZerosOnto
import Derived.Lib.SliceRun
import Derived.Test.YtibahljljjkceaaGreatDoorA2
import Derived.Test.YtibahljljjkceaaGreatDoorA7
import Derived.Test.YtibahljljjkceaaGreatDoorA23
import Derived.Test.YtibahljljjkceaaGreatDoorA25
set_option linter.unusedVariables false
set_option linter.unusedSimpArgs false
set_option maxRecDepth 100000
set_option maxHeartbeats 4000000
namespace Go.Proofs.YtibahljljjkceaaGreatDoor
open Go Go.Av Go.Sp
theorem K4 : Cal Tryz.prog 19 := Cal.of Tryz.func19 (by kernel_rfl) (by kernel_rfl)
theorem Yz (G : List (Nat × List D)) (m : Md) (stem loop : List Int) (hb : stem.length + loop.length ≤ 1048576) : ACr Tryz.prog G 19 [mdA m, .agg [.d (AK stem), .d (AK loop)]] (.tup [.bool (MM m stem loop).1, .int (MM m stem loop).2]) := by
 have hC := Gi G m
 have hF := Jo G m
 refine AN (ts := [4, 5]) Tryz.f19.ntmps Tryz.func19 rfl rfl rfl (by simp [Tryz.ntmps19]) fun W I => ?_
 unfold DX at hC
 by_cases h0 : AU m ≠ 0
 · have hr : MM m stem loop = (false, AU m) := by unfold MM; rw [if_pos h0]
   rw [hr]
   rw [if_pos h0] at hC
   dsimp only at hC ⊢
   generalize AU m = e at hC h0 ⊢
   repeat' (first
    | refine ca A1 (hC) ?_
    | exact True.intro | refine AD ?_ | refine two ?_ ?_ | refine AB fun c_ => ?_
    | (refine imp fun hc => ?_) <;> try exact cx1 hc
    | refine all fun v_ => ?_)
   refine AH (VS.drop (List.nil_sublist _)) ?_
   ((with_reducible apply rq2); rfl; rfl; rfl)
   exact AA rfl
 rw [if_neg h0] at hC
 replace h0 := Decidable.not_not.1 h0
 obtain ⟨n, hn, n1, n2⟩ := DJ h0
 obtain ⟨f1, f2, f3⟩ := Hf h0
 have hF : ACr Tryz.prog G 39 [mdA m] (.tup [.int (BB m), .int 0]) := by
  rw [f1] at hF; exact hF
 rw [hn] at hC
 dsimp only at hC
 have hno := Xq (m := m) (stem := stem) (loop := loop) h0
 have hat := fun b => Ro (m := m) (stem := stem) (loop := loop) (b := b) h0 hn
 generalize hfst : BB m = fst at hF hno hat
 repeat' (first
  | refine ca A1 (hC) ?_
  | refine ca F4 (hF) ?_
  | exact True.intro | refine AD ?_ | refine two ?_ ?_ | refine AB fun c_ => ?_
  | (refine imp fun hc => ?_) <;> try exact cx1 hc
  | refine all fun v_ => ?_)
 obtain ⟨bl, rfl⟩ : ∃ x, x = v_ := ⟨v_, rfl⟩
 obtain ⟨bm, rfl⟩ : ∃ x, x = v_ := ⟨v_, rfl⟩
 refine C4 (E := 3) (sz := 1) AW ?_
 refine AG (X := Nat × Sl) (fun y => [(2, .val (.pointer (some ⟨bm, 0, none⟩))), (3, .val (.pointer (some ⟨bl, 0, none⟩))), (6, .int n), (8, .int fst), (10, .val y.2.v), (11, .int y.1)]) (fun y => [AM y.2.v 3 1 AW (stem.take y.1), .cells bl 33 [.d (AK stem), .d (AK loop)], .cells bm 25 [.d (Aq m.vars), .d (Ad m.rules)]]) (fun y => y.1 ≤ stem.length) (fun y => stem.length - y.1) (0, Sl.nil) (Nat.zero_le _) (VS.take (by exact AI) ?_) ?_
 · exact leD
 rintro ⟨i, q⟩ hi
 dsimp only at hi ⊢
 have hlen : (stem.take i).length = i := by rw [List.length_take]; omega
 by_cases hil : i < stem.length
 · have et := List.take_succ_eq_append_getElem hil
   repeat' (first
    | exact True.intro | refine AD ?_ | refine two ?_ ?_ | refine AB fun c_ => ?_
    | (refine imp fun hc => ?_) <;> try exact cx1 hc
    | refine all fun v_ => ?_)
   refine ⟨(i + 1, v_), by dsimp only; omega, by dsimp only; omega, VS.take (by dsimp only; rw [et]; exact AI) ?_⟩
   exact leD
 obtain rfl : i = stem.length := by omega
 rw [List.take_length]
 clear hil hlen hi
 repeat' (first
  | exact True.intro | refine AD ?_ | refine two ?_ ?_ | refine AB fun c_ => ?_
  | (refine imp fun hc => ?_) <;> try exact cx1 hc
  | refine all fun v_ => ?_)
 have e0 : stem = stem ++ loop.take 0 := by simp
 refine AG (X := Nat × Sl) (fun y => [(2, .val (.pointer (some ⟨bm, 0, none⟩))), (3, .val (.pointer (some ⟨bl, 0, none⟩))), (6, .int n), (8, .int fst), (10, .val y.2.v), (12, .int y.1)]) (fun y => [AM y.2.v 3 1 AW (stem ++ loop.take y.1), .cells bl 33 [.d (AK stem), .d (AK loop)], .cells bm 25 [.d (Aq m.vars), .d (Ad m.rules)]]) (fun y => y.1 ≤ loop.length) (fun y => loop.length - y.1) (0, q) (Nat.zero_le _) (VS.take (by dsimp only; rw [← e0]; exact AI) ?_) ?_
 · exact leD
 clear e0
 rintro ⟨i, q⟩ hi
 dsimp only at hi ⊢
 have hlen : (stem ++ loop.take i).length = stem.length + i := by rw [List.length_append, List.length_take]; omega
 by_cases hil : i < loop.length
 · have et : stem ++ loop.take (i + 1) = (stem ++ loop.take i) ++ [loop[i]] := by rw [List.take_succ_eq_append_getElem hil, List.append_assoc]
   repeat' (first
    | exact True.intro | refine AD ?_ | refine two ?_ ?_ | refine AB fun c_ => ?_
    | (refine imp fun hc => ?_) <;> try exact cx1 hc
    | refine all fun v_ => ?_)
   refine ⟨(i + 1, v_), by dsimp only; omega, by dsimp only; omega, VS.take (by dsimp only; rw [et]; exact AI) ?_⟩
   exact leD
 obtain rfl : i = loop.length := by omega
 rw [List.take_length] at hlen ⊢
 clear hil hi
 cases loop with
 | nil =>
   rw [hno (.inl rfl)]
   repeat' (first
    | exact True.intro | refine AD ?_ | refine two ?_ ?_ | refine AB fun c_ => ?_
    | (refine imp fun hc => ?_) <;> try exact cx1 hc
    | refine all fun v_ => ?_)
   all_goals
    refine AH (VS.drop (List.nil_sublist _)) ?_
    ((with_reducible apply rq2); rfl; rfl; rfl)
    exact AA rfl
 | cons b lr =>
   have hlb : (b :: lr).length = lr.length + 1 := rfl
   have hrl : Lk stem (b :: lr) = stem ++ (b :: lr) ++ [b] := rfl
   have hne : stem ++ (b :: lr) ≠ [] := by simp
   rw [hrl] at hat
   generalize hall : stem ++ (b :: lr) = alls at hno hat hne hlen ⊢
   cases alls with
   | nil => exact absurd rfl hne
   | cons a ar =>
     by_cases ha : a ≠ fst
     · rw [hno (.inr (by simpa using ha))]
       repeat' (first
        | exact True.intro | refine AD ?_ | refine two ?_ ?_ | refine AB fun c_ => ?_
        | (refine imp fun hc => ?_) <;> try exact cx1 hc
        | refine all fun v_ => ?_)
       all_goals
        refine AH (VS.drop (List.nil_sublist _)) ?_
        ((with_reducible apply rq2); rfl; rfl; rfl)
        exact AA rfl
     replace ha := Decidable.not_not.1 ha
     have hat := fun x => hat x (by simp) (by simp [ha])
     have hAl : ((a :: ar) ++ [b]).length = (a :: ar).length + 1 := by simp
     have hcl : (a :: ar).length = ar.length + 1 := rfl
     repeat' (first
      | exact True.intro | refine AD ?_ | refine two ?_ ?_ | refine AB fun c_ => ?_
      | (refine imp fun hc => ?_) <;> try exact cx1 hc
      | refine all fun v_ => ?_)
     obtain ⟨q2, rfl⟩ : ∃ x, x = v_ := ⟨v_, rfl⟩
     refine AG (X := Nat) (fun i => [(2, .val (.pointer (some ⟨bm, 0, none⟩))), (6, .int n), (10, .val q2.v), (13, .int i)]) (fun _ => [AM q2.v 3 1 AW ((a :: ar) ++ [b]), .cells bm 25 [.d (Aq m.vars), .d (Ad m.rules)]]) (fun i => i + 1 ≤ ((a :: ar) ++ [b]).length ∧ ∀ j, j < i → Kr m n ((a :: ar) ++ [b]) j) (fun i => ((a :: ar) ++ [b]).length - i) 0 ⟨by omega, fun j h => absurd h (Nat.not_lt_zero j)⟩ (VS.take (by exact AI) ?_) ?_
     · exact leD
     rintro i ⟨hi, hok⟩
     by_cases hil : i + 1 < ((a :: ar) ++ [b]).length
     · have hc0 := SE ((a :: ar) ++ [b]) i (by omega)
       have hc1 := SE ((a :: ar) ++ [b]) (i + 1) hil
       have hbad : ¬ Kr m n ((a :: ar) ++ [b]) i → MM m stem (b :: lr) = (false, 0) := fun h => hat false ⟨fun k => (by cases k), fun k => absurd (k i hil) h⟩
       have hled : Kr m n ((a :: ar) ++ [b]) i ↔ ((0 ≤ ((a :: ar) ++ [b])[i] ∧ ((a :: ar) ++ [b])[i] < n) ∧ ((a :: ar) ++ [b])[i + 1] ∈ (DV m ((a :: ar) ++ [b])[i]).1) := by unfold Kr; rw [hc0, hc1]
       clear hc0 hc1
       by_cases c0 : ¬ (0 ≤ ((a :: ar) ++ [b])[i] ∧ ((a :: ar) ++ [b])[i] ≤ (n : Int) - 1)
       · rw [hbad fun k => by have := (hled.1 k).1; omega]
         repeat' (first
          | refine ca AL (In _ _ _ _) ?_
          | exact True.intro | refine AD ?_ | refine two ?_ ?_ | refine AB fun c_ => ?_
          | (refine imp fun hc => ?_) <;> try exact cx1 hc
          | refine all fun v_ => ?_)
         refine AH (VS.drop (List.nil_sublist _)) ?_
         ((with_reducible apply rq2); rfl; rfl; rfl)
         exact AA rfl
       replace c0 := Decidable.not_not.1 c0
       have hN := WO G m ((a :: ar) ++ [b])[i]
       generalize DV m ((a :: ar) ++ [b])[i] = p at hN hled
       obtain ⟨ns, e⟩ := p
       dsimp only at hN hled
       repeat' (first
        | refine ca AL (In _ _ _ _) ?_
        | refine ca Lp (hN) ?_
        | exact True.intro | refine AD ?_ | refine two ?_ ?_ | refine AB fun c_ => ?_
        | (refine imp fun hc => ?_) <;> try exact cx1 hc
        | refine all fun v_ => ?_)
       refine Bs (t := 14) rfl fun hnb => ?_
       refine AG (X := Nat) (fun k => [(2, .val (.pointer (some ⟨bm, 0, none⟩))), (6, .int n), (10, .val q2.v), (13, .int i), (14, .d (AK ns)), (16, .bool (decide (((a :: ar) ++ [b])[i + 1] ∈ ns.take k))), (17, .int k)]) (fun _ => [AM q2.v 3 1 AW ((a :: ar) ++ [b]), .cells bm 25 [.d (Aq m.vars), .d (Ad m.rules)]]) (fun k => k ≤ ns.length) (fun k => ns.length - k) 0 (Nat.zero_le _) (VS.take (by exact AI) ?_) ?_
       · exact leD
       rintro k hk
       by_cases hkl : k < ns.length
       · have hst : ((a :: ar) ++ [b])[i + 1] ∈ ns.take (k + 1) ↔ ((a :: ar) ++ [b])[i + 1] ∈ ns.take k ∨ ns[k] = ((a :: ar) ++ [b])[i + 1] := by
          rw [List.take_succ_eq_append_getElem hkl, List.mem_append, List.mem_singleton, eq_comm (a := ns[k])]
         by_cases hin : ((a :: ar) ++ [b])[i + 1] ∈ ns.take k
         · rw [decide_eq_true hin]
           repeat' (first
            | exact True.intro | refine AD ?_ | refine two ?_ ?_ | refine AB fun c_ => ?_
            | (refine imp fun hc => ?_) <;> try exact cx1 hc
            | refine all fun v_ => ?_)
           refine ⟨k + 1, by omega, by omega, VS.take (by exact AI) ?_⟩
           rw [decide_eq_true (hst.2 (.inl hin))]
           exact leD
         · rw [decide_eq_false hin]
           repeat' (first
            | exact True.intro | refine AD ?_ | refine two ?_ ?_ | refine AB fun c_ => ?_
            | (refine imp fun hc => ?_) <;> try exact cx1 hc
            | refine all fun v_ => ?_)
           refine ⟨k + 1, by omega, by omega, VS.take (by exact AI) ?_⟩
           rw [decide_eq_decide.2 (⟨fun h => (hst.1 h).resolve_left hin, fun h => hst.2 (.inr h)⟩ : ((a :: ar) ++ [b])[i + 1] ∈ ns.take (k + 1) ↔ ns[k] = ((a :: ar) ++ [b])[i + 1])]
           exact leD
       obtain rfl : k = ns.length := by omega
       rw [List.take_length]
       by_cases hin : ((a :: ar) ++ [b])[i + 1] ∈ ns
       · rw [decide_eq_true hin]
         repeat' (first
          | exact True.intro | refine AD ?_ | refine two ?_ ?_ | refine AB fun c_ => ?_
          | (refine imp fun hc => ?_) <;> try exact cx1 hc
          | refine all fun v_ => ?_)
         refine ⟨i + 1, ⟨by omega, fun j hj => ?_⟩, by omega, VS.take (by exact AI) ?_⟩
         · by_cases e : j = i
           · rw [e]; exact hled.2 ⟨⟨by omega, by omega⟩, hin⟩
           · exact hok j (by omega)
         · exact leD
       · rw [decide_eq_false hin, hbad fun k => hin (hled.1 k).2]
         repeat' (first
          | exact True.intro | refine AD ?_ | refine two ?_ ?_ | refine AB fun c_ => ?_
          | (refine imp fun hc => ?_) <;> try exact cx1 hc
          | refine all fun v_ => ?_)
         refine AH (VS.drop (List.nil_sublist _)) ?_
         ((with_reducible apply rq2); rfl; rfl; rfl)
         exact AA rfl
     rw [hat true ⟨fun _ j hj => hok j (by omega), fun _ => rfl⟩]
     repeat' (first
      | exact True.intro | refine AD ?_ | refine two ?_ ?_ | refine AB fun c_ => ?_
      | (refine imp fun hc => ?_) <;> try exact cx1 hc
      | refine all fun v_ => ?_)
     refine AH (VS.drop (List.nil_sublist _)) ?_
     ((with_reducible apply rq2); rfl; rfl; rfl)
     exact AA rfl
def IE (l : List Bool) : List D := [Ai l]
abbrev C6 (l : List (List Bool)) : D := .l 1 24 (l.map IE)
structure Wd where
 stem : List (List Bool)
 loop : List (List Bool)
abbrev wdA (w : Wd) : AV := .agg [.d (C6 w.stem), .d (C6 w.loop)]

theorem Cs : Cal Tryz.prog 129 := Cal.of Tryz.func129 (by kernel_rfl) (by kernel_rfl)
theorem OI : Cal Tryz.prog 128 := Cal.of Tryz.func128 (by kernel_rfl) (by kernel_rfl)
end Go.Proofs.YtibahljljjkceaaGreatDoor
namespace Go.Sp
open Go Go.Av
def Dh (s l i : Nat) : Nat := if i < s + l then i else s + (i - s) % l
theorem Cm {s l i : Nat} (h : i < s + l) : Dh s l i = i := if_pos h
theorem Sn {s l i : Nat} (h : ¬ i < s + l) : Dh s l (i - l) = Dh s l i := by
 unfold Dh
 rw [if_neg h]
 have e : i - s = (i - l - s) + l := by omega
 by_cases h2 : i - l < s + l
 · rw [if_pos h2, e, Nat.add_mod_right, Nat.mod_eq_of_lt (by omega)]
   omega
 · rw [if_neg h2, e, Nat.add_mod_right]
theorem YQ {s l i : Nat} (hl : 0 < l) : Dh s l i < s + l := by
 unfold Dh
 split
 · assumption
 · have := Nat.mod_lt (i - s) hl
   omega
end Go.Sp
namespace Go.Proofs.YtibahljljjkceaaGreatDoor
open Go Go.Av Go.Sp

theorem PX (G : List (Nat × List D)) (w : Wd) (i : Nat) (hi : i ≤ 1000000) (h0 : 0 < w.loop.length) (hs : w.stem.length ≤ 1000000) (hl : w.loop.length ≤ 1000000) : ACr Tryz.prog G 129 [wdA w, .int i] (.int (Dh w.stem.length w.loop.length i : Nat)) := by
 refine AN (ts := [4]) Tryz.f129.ntmps Tryz.func129 rfl rfl rfl (by simp [Tryz.ntmps129]) fun W I => ?_
 repeat' (first
  | exact True.intro | refine AD ?_ | refine two ?_ ?_ | refine AB fun c_ => ?_
  | (refine imp fun hc => ?_) <;> try exact cx1 hc
  | refine all fun v_ => ?_)
 rename Nat => bw
 refine AG (X := Nat) (fun j => [(1, .int j), (2, .val (.pointer (some ⟨bw, 0, none⟩)))]) (fun _ => [.cells bw 94 [.d (C6 w.stem), .d (C6 w.loop)]]) (fun j => j ≤ i ∧ Dh w.stem.length w.loop.length j = Dh w.stem.length w.loop.length i) (fun j => j) i ⟨Nat.le_refl _, rfl⟩ (VS.of_le ?_) ?_
 · exact leD
 rintro j ⟨h1, h2⟩
 by_cases hj : j < w.stem.length + w.loop.length
 · repeat' (first
    | exact True.intro | refine AD ?_ | refine two ?_ ?_ | refine AB fun c_ => ?_
    | (refine imp fun hc => ?_) <;> try exact cx1 hc
    | refine all fun v_ => ?_)
   refine AH (VS.drop (List.nil_sublist _)) ?_
   ((with_reducible apply rq1); rfl; rfl)
   exact AA (by rw [← h2, Cm hj])
 · have e := Sn hj
   repeat' (first
    | exact True.intro | refine AD ?_ | refine two ?_ ?_ | refine AB fun c_ => ?_
    | (refine imp fun hc => ?_) <;> try exact cx1 hc
    | refine all fun v_ => ?_)
   refine ⟨j - w.loop.length, ⟨by omega, by rw [e, h2]⟩, by omega, VS.of_le ?_⟩
   exact leD
theorem WN (G : List (Nat × List D)) (w : Wd) (i : Nat) (hi : i ≤ 1000000) (h0 : 0 < w.loop.length) (hs : w.stem.length ≤ 1000000) (hl : w.loop.length ≤ 1000000) (hm : Dh w.stem.length w.loop.length i < (w.stem ++ w.loop).length) : ACr Tryz.prog G 128 [wdA w, .int i] (.d (Ai (w.stem ++ w.loop)[Dh w.stem.length w.loop.length i])) := by
 refine AN (ts := [4]) Tryz.f128.ntmps Tryz.func128 rfl rfl rfl (by simp [Tryz.ntmps128]) fun W I => ?_
 have E := PX G w i hi h0 hs hl
 have hlen : (w.stem ++ w.loop).length = w.stem.length + w.loop.length := List.length_append
 have hm' := hm
 rw [hlen] at hm'
 generalize Dh w.stem.length w.loop.length i = j at E hm hm' ⊢
 by_cases c : j < w.stem.length
 · repeat' (first
    | refine ca Cs (E) ?_
    | exact True.intro | refine AD ?_ | refine two ?_ ?_ | refine AB fun c_ => ?_
    | (refine imp fun hc => ?_) <;> try exact cx1 hc
    | refine all fun v_ => ?_)
   refine AH (VS.drop (List.nil_sublist _)) ?_
   ((with_reducible apply rq1); rfl; rfl)
   exact AA (by simp only [List.getElem_append, dif_pos c]; rfl)
 · repeat' (first
    | refine ca Cs (E) ?_
    | exact True.intro | refine AD ?_ | refine two ?_ ?_ | refine AB fun c_ => ?_
    | (refine imp fun hc => ?_) <;> try exact cx1 hc
    | refine all fun v_ => ?_)
   refine AH (VS.drop (List.nil_sublist _)) ?_
   ((with_reducible apply rq1); rfl; rfl)
   refine AA ?_
   have e : ((j : Int) - (w.stem.length : Int)).toNat = j - w.stem.length := by omega
   simp only [List.getElem_append, dif_neg c, e]
   rfl
end Go.Proofs.YtibahljljjkceaaGreatDoor
