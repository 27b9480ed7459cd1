/- Contracts: slices.Sort, Compact (of ints) over own rows; slices.Index, Contains. -/
import Derived.Test.YtnlfhnbcdfdhgaaQ1
import Derived.Test.YtnlfhnbcdfdhgaaQ2
import Derived.Test.YtnlfhnbcdfdhgaaT0
import Derived.Test.YtnlfhnbcdfdhgaaE8
namespace Go.Proofs.Ytnlfhnbcdfdhgaa
open Go Go.Av Go.Sp
set_option linter.unusedVariables false
set_option linter.unusedSimpArgs false
set_option maxRecDepth 100000
set_option maxHeartbeats 4000000
theorem cal_SortI : Cal Try.prog 12 := Cal.of Try.func12 (by kernel_rfl) (by kernel_rfl)
theorem cal_IndexI : Cal Try.prog 31 := Cal.of Try.func31 (by kernel_rfl) (by kernel_rfl)
theorem cal_ContainsI : Cal Try.prog 22 := Cal.of Try.func22 (by kernel_rfl) (by kernel_rfl)
theorem SortI (G : List (Nat × List D)) (q : Sl) (xs : List Int) (hb : xs.length < 4611686018427387904) : AC Try.prog G 12 [.val q.v] [rowE q.v 3 1 intC xs] fun e h => e = .ret (.tup []) ∧ h = [rowE q.v 3 1 intC (sortI xs)] :=
 AC_sortI q xs hb (fun blk cap zs w h1 h2 h3 => Any.slices_Sort_int Try.lays189 blk 0 cap zs w h1 h2 h3) fun w => Any.slices_Sort_int_none Try.lays189 none 0 w
/-- Where a number stands first; -1: nowhere. -/
def indexZ (v : Int) : List Int → Nat → Int
 | [], _ => -1
 | x :: l, i => if v = x then i else indexZ v l (i + 1)
theorem indexZ_at (v : Int) (l : List Int) (i : Nat) (h : i < l.length) : indexZ v (l.drop i) i = if v = l[i] then (i : Int) else indexZ v (l.drop (i + 1)) (i + 1) := by
 rw [List.drop_eq_getElem_cons h, indexZ]
theorem indexZ_end (v : Int) (l : List Int) (i : Nat) (h : l.length ≤ i) : indexZ v (l.drop i) i = -1 := by
 rw [List.drop_of_length_le h, indexZ]
theorem indexZ_in (v : Int) : ∀ (l : List Int) (i : Nat), 0 ≤ indexZ v l i ↔ v ∈ l
 | [], i => by simp [indexZ]
 | x :: l, i => by
   rw [indexZ, List.mem_cons]
   by_cases h : v = x
   · rw [if_pos h]; exact ⟨fun _ => .inl h, fun _ => by omega⟩
   · rw [if_neg h, indexZ_in v l (i + 1)]; exact ⟨.inr, fun k => k.resolve_left h⟩
theorem IndexI (G : List (Nat × List D)) (l : List Int) (v : Int) : ACr Try.prog G 31 [.d (intsD l), .int v] (.int (indexZ v l 0)) := by
 refine AC_ofV (ts := [4]) Try.f31.ntmps Try.func31 rfl rfl rfl (by simp [Try.ntmps31]) fun W I => ?_
 refine jfact (t := 0) rfl fun hl => ?_
 all_goals haveI fA_ : FlagA := ⟨⟩
 all_goals haveI fH_ : FlagH := ⟨⟩
 repeat' (first
  | exact True.intro
  | refine stp ?_
  | refine two ?_ ?_
  | refine allc fun c_ => ?_
  | (refine imp fun hc => ?_) <;> try exact cx1 hc
  | refine all fun v_ => ?_)
 all_goals clear fA_ fH_
 refine J_loopV (X := Nat) (fun i => [(0, .d (intsD l)), (1, .int v), (7, .int l.length), (8, .int i)]) (fun _ => []) (fun i => i ≤ l.length ∧ indexZ v l 0 = indexZ v (l.drop i) i) (fun i => l.length - i) 0 ⟨Nat.zero_le _, rfl⟩ (VS.of_le ?_) ?_
 · exact leD
 rintro i ⟨h1, h2⟩
 by_cases hi : i < l.length
 · rw [indexZ_at v l i hi] at h2
   by_cases hv : v = l[i]
   · rw [if_pos hv] at h2
     all_goals haveI fA_ : FlagA := ⟨⟩
     all_goals haveI fH_ : FlagH := ⟨⟩
     repeat' (first
      | exact True.intro
      | refine stp ?_
      | refine two ?_ ?_
      | refine allc fun c_ => ?_
      | (refine imp fun hc => ?_) <;> try exact cx1 hc
      | refine all fun v_ => ?_)
     all_goals clear fA_ fH_
     refine retv0 ?_
     ((with_reducible apply rq1); rfl; rfl)
     exact ret_eq (by rw [h2])
   · rw [if_neg hv] at h2
     all_goals haveI fA_ : FlagA := ⟨⟩
     all_goals haveI fH_ : FlagH := ⟨⟩
     repeat' (first
      | exact True.intro
      | refine stp ?_
      | refine two ?_ ?_
      | refine allc fun c_ => ?_
      | (refine imp fun hc => ?_) <;> try exact cx1 hc
      | refine all fun v_ => ?_)
     all_goals clear fA_ fH_
     refine ⟨i + 1, ⟨by omega, h2⟩, by omega, VS.of_le ?_⟩
     exact leD
 rw [indexZ_end v l i (by omega)] at h2
 all_goals haveI fA_ : FlagA := ⟨⟩
 all_goals haveI fH_ : FlagH := ⟨⟩
 repeat' (first
  | exact True.intro
  | refine stp ?_
  | refine two ?_ ?_
  | refine allc fun c_ => ?_
  | (refine imp fun hc => ?_) <;> try exact cx1 hc
  | refine all fun v_ => ?_)
 all_goals clear fA_ fH_
 refine retv0 ?_
 ((with_reducible apply rq1); rfl; rfl)
 exact ret_eq (by rw [h2])
theorem ContainsI (G : List (Nat × List D)) (l : List Int) (v : Int) : ACr Try.prog G 22 [.d (intsD l), .int v] (.bool (decide (v ∈ l))) := by
 refine AC_ofV (ts := [4]) Try.f22.ntmps Try.func22 rfl rfl rfl (by simp [Try.ntmps22]) fun W I => ?_
 all_goals haveI fA_ : FlagA := ⟨⟩
 all_goals haveI fH_ : FlagH := ⟨⟩
 repeat' (first
  | refine ca cal_IndexI (IndexI _ _ _) ?_
  | exact True.intro
  | refine stp ?_
  | refine two ?_ ?_
  | refine allc fun c_ => ?_
  | (refine imp fun hc => ?_) <;> try exact cx1 hc
  | refine all fun v_ => ?_)
 all_goals clear fA_ fH_
 refine retv0 ?_
 ((with_reducible apply rq1); rfl; rfl)
 refine ret_eq (congrArg AV.bool ?_)
 exact decide_eq_decide.2 (indexZ_in v l 0)
end Go.Proofs.Ytnlfhnbcdfdhgaa
