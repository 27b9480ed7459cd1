/- Contracts: slices.BinarySearch (of ints); store.Has, foretellref.KeyIn. -/
import Derived.Test.YtnlfhnbcdfdhgaaO3
import Derived.Test.YtnlfhnbcdfdhgaaO4
namespace Go.Av
open Go Go.Instr
set_option linter.unusedVariables false
set_option linter.unusedSimpArgs false
section
variable {P : Program} {G : List (Nat × List D)} {ρ : Env} {h : H} {dst : Option Tmp} {ty : TypeId} {pos : String} {after : Array Edge} {g : Option (Nat × Bool)}
theorem pu_to_u {S T : TypeId} {x : Operand} {n : Int} (hS : (P.underlying S).isSome = true) (hT : P.underlying T = some (.int .u64)) (hx : evO ρ x = some (.int n)) (h0 : 0 ≤ n) (h1 : n < 18446744073709551616) : Pure P G ⟨dst, .convert S T x, ty, pos, after, g⟩ ρ h (.val (.int .u64 n)) := by
 have := pure_convert (P := P) (G := G) (h := h) (dst := dst) (ty := ty) (pos := pos) (after := after) (g := g) hS hT (ev_of_evO hx)
 have e : IntKind.u64.wrap n = n := by rw [IntKind.wrap_u64]; omega
 rwa [e] at this
theorem pu_from_u {S T : TypeId} {x : Operand} {n : Int} (hS : (P.underlying S).isSome = true) (hT : P.underlying T = some (.int .i64)) (hx : evO ρ x = some (.val (.int .u64 n))) (hb : inI64 n) : Pure P G ⟨dst, .convert S T x, ty, pos, after, g⟩ ρ h (.int n) := by
 have := pure_convert (P := P) (G := G) (h := h) (dst := dst) (ty := ty) (pos := pos) (after := after) (g := g) hS hT (ev_of_evO hx)
 rwa [wrap_in hb] at this
theorem pu_half_u {T T' : TypeId} {x : Operand} {m : Int} (hx : evO ρ x = some (.val (.int .u64 m))) : Pure P G ⟨dst, .binOp .shr T x (.const (.int .u64 1)) T', ty, pos, after, g⟩ ρ h (.val (.int .u64 (m / 2))) := by
 refine pure_bin (v := .int .u64 1) (ev_of_evO hx) rfl (fun _ => by rw [eqGuard_shr]; rfl) fun _ => ?_
 rw [binOp_shr, shift_shr .u64 .u64 m 1 (by decide) (by decide)]; rfl
end
end Go.Av
namespace Go.Proofs.Ytnlfhnbcdfdhgaa
open Go Go.Av Go.Sp
set_option linter.unusedVariables false
set_option linter.unusedSimpArgs false
set_option maxRecDepth 100000
set_option maxHeartbeats 4000000
theorem cal_LessI : Cal Try.prog 32 := Cal.of Try.func32 (by kernel_rfl) (by kernel_rfl)
theorem cal_isNaNS : Cal Try.prog 33 := Cal.of Try.func33 (by kernel_rfl) (by kernel_rfl)
theorem cal_isNaNC : Cal Try.prog 45 := Cal.of Try.func45 (by kernel_rfl) (by kernel_rfl)
theorem cal_BinarySearch : Cal Try.prog 23 := Cal.of Try.func23 (by kernel_rfl) (by kernel_rfl)
theorem cal_SHas : Cal Try.prog 9 := Cal.of Try.func9 (by kernel_rfl) (by kernel_rfl)
theorem cal_KeyIn : Cal Try.prog 14 := Cal.of Try.func14 (by kernel_rfl) (by kernel_rfl)
theorem isNaNS (G : List (Nat × List D)) (n : Int) : ACr Try.prog G 33 [.int n] (.bool false) := by
 refine AC_ofV (ts := [2]) Try.f33.ntmps Try.func33 rfl rfl rfl (by simp [Try.ntmps33]) fun W I => ?_
 all_goals haveI fA_ : FlagA := ⟨⟩
 all_goals haveI fH_ : FlagH := ⟨⟩
 repeat' (first
  | exact True.intro
  | refine stp ?_
  | refine two ?_ ?_
  | refine allc fun c_ => ?_
  | (refine imp fun hc => ?_) <;> try exact cx1 hc
  | refine all fun v_ => ?_)
 all_goals clear fA_ fH_
 refine retv0 ?_
 ((with_reducible apply rq1); rfl; rfl)
 exact ret_eq (by simp)
theorem isNaNC (G : List (Nat × List D)) (n : Int) : ACr Try.prog G 45 [.int n] (.bool false) := by
 refine AC_ofV (ts := [2]) Try.f45.ntmps Try.func45 rfl rfl rfl (by simp [Try.ntmps45]) fun W I => ?_
 all_goals haveI fA_ : FlagA := ⟨⟩
 all_goals haveI fH_ : FlagH := ⟨⟩
 repeat' (first
  | exact True.intro
  | refine stp ?_
  | refine two ?_ ?_
  | refine allc fun c_ => ?_
  | (refine imp fun hc => ?_) <;> try exact cx1 hc
  | refine all fun v_ => ?_)
 all_goals clear fA_ fH_
 refine retv0 ?_
 ((with_reducible apply rq1); rfl; rfl)
 exact ret_eq (by simp)
theorem LessI (G : List (Nat × List D)) (a b : Int) : ACr Try.prog G 32 [.int a, .int b] (.bool (decide (a < b))) := by
 refine AC_ofV (ts := [4]) Try.f32.ntmps Try.func32 rfl rfl rfl (by simp [Try.ntmps32]) fun W I => ?_
 all_goals haveI fA_ : FlagA := ⟨⟩
 all_goals haveI fH_ : FlagH := ⟨⟩
 repeat' (first
  | refine ca cal_isNaNC (isNaNC _ _) ?_
  | refine caq cal_isNaNC (isNaNC _ _) ?_
  | exact True.intro
  | refine stp ?_
  | refine two ?_ ?_
  | refine allc fun c_ => ?_
  | (refine imp fun hc => ?_) <;> try exact cx1 hc
  | refine all fun v_ => ?_)
 all_goals clear fA_ fH_
 all_goals
  refine retv0 ?_
  ((with_reducible apply rq1); rfl; rfl)
  exact ret_eq rfl
theorem BinarySearch (G : List (Nat × List D)) (l : List Int) (n : Int) (hs : l.Pairwise (· < ·)) : AC Try.prog G 23 [.d (intsD l), .int n] [] fun r h => ∃ v : Nat, r = .ret (.tup [.int v, .bool (decide (n ∈ l))]) ∧ h = [] := by
 have hs' := List.pairwise_iff_getElem.1 hs
 refine AC_ofV (ts := [4, 5]) Try.f23.ntmps Try.func23 rfl rfl rfl (by simp [Try.ntmps23]) fun W I => ?_
 refine jfact (t := 0) rfl fun hl => ?_
 all_goals haveI fA_ : FlagA := ⟨⟩
 repeat' (first
  | ((with_reducible apply jp); (focus ((with_reducible apply pu_to_u); (focus rfl); (focus rfl); (focus rfl); (focus omega); (focus omega))); (focus rfl))
  | ((with_reducible apply jp); (focus ((with_reducible apply pu_half_u); (focus rfl))); (focus rfl))
  | ((with_reducible apply jp); (focus ((with_reducible apply pu_from_u); (focus rfl); (focus rfl); (focus rfl); (focus (unfold inI64; omega)))); (focus rfl))
  | refine ca cal_LessI (LessI _ _ _) ?_
  | refine ca cal_isNaNS (isNaNS _ _) ?_
  | refine caq cal_isNaNS (isNaNS _ _) ?_
  | exact True.intro
  | refine stp ?_
  | refine two ?_ ?_
  | (refine imp fun hc => ?_) <;> try exact cx hc
  | refine all fun v_ => ?_)
 all_goals clear fA_
 refine J_loopV (X := Nat × Nat) (fun y => [(0, .d (intsD l)), (1, .int n), (6, .int l.length), (7, .int y.1), (8, .int y.2)]) (fun _ => []) (fun y => y.1 ≤ y.2 ∧ y.2 ≤ l.length ∧ (∀ (a : Nat) (h : a < l.length), a < y.1 → l[a] < n) ∧ ∀ (a : Nat) (h : a < l.length), y.2 ≤ a → n ≤ l[a]) (fun y => y.2 - y.1) (0, l.length) ⟨Nat.zero_le _, Nat.le_refl _, fun a h h2 => absurd h2 (Nat.not_lt_zero a), fun a h h2 => by omega⟩ (VS.of_le ?_) ?_
 · exact leD
 rintro ⟨i, j⟩ ⟨h1, h2, h3, h4⟩
 dsimp only at h1 h2 h3 h4 ⊢
 by_cases hij : i < j
 · have eh : (((i : Int) + j) / 2).toNat = (i + j) / 2 := by omega
   have hlt : (((i : Int) + j) / 2).toNat < l.length := by omega
   by_cases hc0 : l[(((i : Int) + j) / 2).toNat] < n
   · all_goals haveI fA_ : FlagA := ⟨⟩
     all_goals haveI fH_ : FlagH := ⟨⟩
     repeat' (first
      | ((with_reducible apply jp); (focus ((with_reducible apply pu_to_u); (focus rfl); (focus rfl); (focus rfl); (focus omega); (focus omega))); (focus rfl))
      | ((with_reducible apply jp); (focus ((with_reducible apply pu_half_u); (focus rfl))); (focus rfl))
      | ((with_reducible apply jp); (focus ((with_reducible apply pu_from_u); (focus rfl); (focus rfl); (focus rfl); (focus (unfold inI64; omega)))); (focus rfl))
      | refine ca cal_LessI (LessI _ _ _) ?_
      | refine ca cal_isNaNS (isNaNS _ _) ?_
      | refine caq cal_isNaNS (isNaNS _ _) ?_
      | exact True.intro
      | refine stp ?_
      | refine two ?_ ?_
      | refine allc fun c_ => ?_
      | (refine imp fun hc => ?_) <;> try exact cx1 hc
      | refine all fun v_ => ?_)
     all_goals clear fA_ fH_
     refine ⟨((((i : Int) + j) / 2).toNat + 1, j), ⟨by dsimp only; omega, h2, fun a h ha => ?_, h4⟩, by dsimp only; omega, VS.of_le ?_⟩
     · by_cases e : a = (((i : Int) + j) / 2).toNat
       · subst e; exact hc0
       · have := hs' a _ h hlt (by dsimp only at ha; omega); omega
     · exact leD
   · all_goals haveI fA_ : FlagA := ⟨⟩
     all_goals haveI fH_ : FlagH := ⟨⟩
     repeat' (first
      | ((with_reducible apply jp); (focus ((with_reducible apply pu_to_u); (focus rfl); (focus rfl); (focus rfl); (focus omega); (focus omega))); (focus rfl))
      | ((with_reducible apply jp); (focus ((with_reducible apply pu_half_u); (focus rfl))); (focus rfl))
      | ((with_reducible apply jp); (focus ((with_reducible apply pu_from_u); (focus rfl); (focus rfl); (focus rfl); (focus (unfold inI64; omega)))); (focus rfl))
      | refine ca cal_LessI (LessI _ _ _) ?_
      | refine ca cal_isNaNS (isNaNS _ _) ?_
      | refine caq cal_isNaNS (isNaNS _ _) ?_
      | exact True.intro
      | refine stp ?_
      | refine two ?_ ?_
      | refine allc fun c_ => ?_
      | (refine imp fun hc => ?_) <;> try exact cx1 hc
      | refine all fun v_ => ?_)
     all_goals clear fA_ fH_
     refine ⟨(i, (((i : Int) + j) / 2).toNat), ⟨by dsimp only; omega, by dsimp only; omega, h3, fun a h ha => ?_⟩, by dsimp only; omega, VS.of_le ?_⟩
     · by_cases e : a = (((i : Int) + j) / 2).toNat
       · subst e; omega
       · have := hs' _ a hlt h (by dsimp only at ha; omega); omega
     · exact leD
 obtain rfl : j = i := by omega
 by_cases hil : j < l.length
 · by_cases he : l[j] = n
   · have hm : n ∈ l := by rw [← he]; exact List.getElem_mem hil
     all_goals haveI fA_ : FlagA := ⟨⟩
     all_goals haveI fH_ : FlagH := ⟨⟩
     repeat' (first
      | ((with_reducible apply jp); (focus ((with_reducible apply pu_to_u); (focus rfl); (focus rfl); (focus rfl); (focus omega); (focus omega))); (focus rfl))
      | ((with_reducible apply jp); (focus ((with_reducible apply pu_half_u); (focus rfl))); (focus rfl))
      | ((with_reducible apply jp); (focus ((with_reducible apply pu_from_u); (focus rfl); (focus rfl); (focus rfl); (focus (unfold inI64; omega)))); (focus rfl))
      | refine ca cal_LessI (LessI _ _ _) ?_
      | refine ca cal_isNaNS (isNaNS _ _) ?_
      | refine caq cal_isNaNS (isNaNS _ _) ?_
      | exact True.intro
      | refine stp ?_
      | refine two ?_ ?_
      | refine allc fun c_ => ?_
      | (refine imp fun hc => ?_) <;> try exact cx1 hc
      | refine all fun v_ => ?_)
     all_goals clear fA_ fH_
     all_goals
      refine retv0 ?_
      ((with_reducible apply rq2); rfl; rfl; rfl)
      exact ⟨j, by rw [decide_eq_true hm], rfl⟩
   · have hm : n ∉ l := fun hm => by
      obtain ⟨a, ha, e⟩ := List.getElem_of_mem hm
      by_cases c : a < j
      · have := h3 a ha c; omega
      · by_cases c2 : a = j
        · subst c2; exact he e
        · have h5 := hs' j a hil ha (by omega)
          have h6 := h4 j hil (Nat.le_refl _)
          omega
     all_goals haveI fA_ : FlagA := ⟨⟩
     all_goals haveI fH_ : FlagH := ⟨⟩
     repeat' (first
      | ((with_reducible apply jp); (focus ((with_reducible apply pu_to_u); (focus rfl); (focus rfl); (focus rfl); (focus omega); (focus omega))); (focus rfl))
      | ((with_reducible apply jp); (focus ((with_reducible apply pu_half_u); (focus rfl))); (focus rfl))
      | ((with_reducible apply jp); (focus ((with_reducible apply pu_from_u); (focus rfl); (focus rfl); (focus rfl); (focus (unfold inI64; omega)))); (focus rfl))
      | refine ca cal_LessI (LessI _ _ _) ?_
      | refine ca cal_isNaNS (isNaNS _ _) ?_
      | refine caq cal_isNaNS (isNaNS _ _) ?_
      | exact True.intro
      | refine stp ?_
      | refine two ?_ ?_
      | refine allc fun c_ => ?_
      | (refine imp fun hc => ?_) <;> try exact cx1 hc
      | refine all fun v_ => ?_)
     all_goals clear fA_ fH_
     all_goals
      refine retv0 ?_
      ((with_reducible apply rq2); rfl; rfl; rfl)
      exact ⟨j, by rw [decide_eq_false hm], rfl⟩
 · have hm : n ∉ l := fun hm => by
    obtain ⟨a, ha, e⟩ := List.getElem_of_mem hm
    have := h3 a ha (by omega); omega
   all_goals haveI fA_ : FlagA := ⟨⟩
   all_goals haveI fH_ : FlagH := ⟨⟩
   repeat' (first
    | ((with_reducible apply jp); (focus ((with_reducible apply pu_to_u); (focus rfl); (focus rfl); (focus rfl); (focus omega); (focus omega))); (focus rfl))
    | ((with_reducible apply jp); (focus ((with_reducible apply pu_half_u); (focus rfl))); (focus rfl))
    | ((with_reducible apply jp); (focus ((with_reducible apply pu_from_u); (focus rfl); (focus rfl); (focus rfl); (focus (unfold inI64; omega)))); (focus rfl))
    | refine ca cal_LessI (LessI _ _ _) ?_
    | refine ca cal_isNaNS (isNaNS _ _) ?_
    | refine caq cal_isNaNS (isNaNS _ _) ?_
    | exact True.intro
    | refine stp ?_
    | refine two ?_ ?_
    | refine allc fun c_ => ?_
    | (refine imp fun hc => ?_) <;> try exact cx1 hc
    | refine all fun v_ => ?_)
   all_goals clear fA_ fH_
   all_goals
    refine retv0 ?_
    ((with_reducible apply rq2); rfl; rfl; rfl)
    exact ⟨j, by rw [decide_eq_false hm], rfl⟩
theorem SHas (G : List (Nat × List D)) (s : Sto) (n : Int) : ACr Try.prog G 9 [stA s, .int n] (.tup [.bool (hasF s n).1, .int (hasF s n).2]) := by
 have hC := StCheck G s
 refine AC.factI (f := listC) (xs := s.runs) (.agg (.there .here)) fun hlr => ?_
 refine AC_ofV (ts := [4, 5]) Try.f9.ntmps Try.func9 rfl rfl rfl (by simp [Try.ntmps9]) fun W I => ?_
 unfold hasF
 by_cases h0 : stoF s ≠ 0
 · rw [if_pos h0]
   generalize stoF s = e at hC h0
   all_goals haveI fA_ : FlagA := ⟨⟩
   all_goals haveI fH_ : FlagH := ⟨⟩
   repeat' (first
    | refine ca cal_StCheck (hC) ?_
    | exact True.intro
    | refine stp ?_
    | refine two ?_ ?_
    | refine allc fun c_ => ?_
    | (refine imp fun hc => ?_) <;> try exact cx1 hc
    | refine all fun v_ => ?_)
   all_goals clear fA_ fH_
   refine retv (VS.drop (List.nil_sublist _)) ?_
   ((with_reducible apply rq2); rfl; rfl; rfl)
   exact ret_eq rfl
 rw [if_neg h0]
 replace h0 := Decidable.not_not.1 h0
 have hP := stoF_iff.1 h0
 rw [h0] at hC
 have hK := key G n
 have hI := ContainsI G s.loose n
 by_cases hk : keyP n
 · rw [if_neg (fun k => k hk)]
   rw [decide_eq_true hk] at hK
   all_goals haveI fA_ : FlagA := ⟨⟩
   all_goals haveI fH_ : FlagH := ⟨⟩
   repeat' (first
    | refine ca cal_StCheck (hC) ?_
    | refine ca cal_key (hK) ?_
    | refine ca cal_ContainsI (hI) ?_
    | exact True.intro
    | refine stp ?_
    | refine two ?_ ?_
    | refine allc fun c_ => ?_
    | (refine imp fun hc => ?_) <;> try exact cx1 hc
    | refine all fun v_ => ?_)
   all_goals clear fA_ fH_
   refine J_loopV (X := Nat) (fun i => [(1, .int n), (7, .bool (decide (n ∈ s.loose ∨ n ∈ (s.runs.take i).flatten))), (25, .d (listsD s.runs)), (26, .int s.runs.length), (27, .int i)]) (fun _ => []) (fun i => i ≤ s.runs.length) (fun i => s.runs.length - i) 0 (Nat.zero_le _) (VS.trans (VS.drop (List.nil_sublist _)) (VS.of_le ?_)) ?_
   · simp only [List.take_zero, List.flatten_nil, List.not_mem_nil, or_false]
     exact leD
   intro i hi
   by_cases hil : i < s.runs.length
   · have hB := BinarySearch G s.runs[i] n (hP.no_run hil).2
     have hst : decide (n ∈ s.loose ∨ n ∈ (s.runs.take (i + 1)).flatten) = (decide (n ∈ s.loose ∨ n ∈ (s.runs.take i).flatten) || decide (n ∈ s.runs[i])) := by
      rw [flat_succ _ _ hil, ← Bool.decide_or]
      simp only [List.mem_append, or_assoc]
     cases hb : decide (n ∈ s.loose ∨ n ∈ (s.runs.take i).flatten) with
     | true =>
       rw [hb, Bool.true_or] at hst
       all_goals haveI fA_ : FlagA := ⟨⟩
       all_goals haveI fH_ : FlagH := ⟨⟩
       repeat' (first
        | refine cag cal_BinarySearch (hB) ?_
        | exact True.intro
        | refine stp ?_
        | refine two ?_ ?_
        | refine allc fun c_ => ?_
        | (refine imp fun hc => ?_) <;> try exact cx1 hc
        | refine all fun v_ => ?_)
       all_goals clear fA_ fH_
       refine ⟨i + 1, hil, by omega, VS.of_le ?_⟩
       rw [hst]
       exact leD
     | false =>
       rw [hb, Bool.false_or] at hst
       all_goals haveI fA_ : FlagA := ⟨⟩
       all_goals haveI fH_ : FlagH := ⟨⟩
       repeat' (first
        | refine cag cal_BinarySearch (hB) ?_
        | exact True.intro
        | refine stp ?_
        | refine two ?_ ?_
        | refine allc fun c_ => ?_
        | (refine imp fun hc => ?_) <;> try exact cx1 hc
        | refine all fun v_ => ?_)
       all_goals clear fA_ fH_
       refine ⟨i + 1, hil, by omega, VS.of_le ?_⟩
       rw [hst]
       exact leD
   obtain rfl : i = s.runs.length := by omega
   rw [List.take_length]
   all_goals haveI fA_ : FlagA := ⟨⟩
   all_goals haveI fH_ : FlagH := ⟨⟩
   repeat' (first
    | exact True.intro
    | refine stp ?_
    | refine two ?_ ?_
    | refine allc fun c_ => ?_
    | (refine imp fun hc => ?_) <;> try exact cx1 hc
    | refine all fun v_ => ?_)
   all_goals clear fA_ fH_
   refine retv0 ?_
   ((with_reducible apply rq2); rfl; rfl; rfl)
   refine ret_eq ?_
   have : decide (n ∈ s.loose ∨ n ∈ s.runs.flatten) = decide (n ∈ keysL s) := decide_eq_decide.2 (by unfold keysL; rw [List.mem_append]; exact or_comm)
   rw [this]
 · rw [if_pos hk]
   rw [decide_eq_false hk] at hK
   all_goals haveI fA_ : FlagA := ⟨⟩
   all_goals haveI fH_ : FlagH := ⟨⟩
   repeat' (first
    | refine ca cal_StCheck (hC) ?_
    | refine ca cal_key (hK) ?_
    | exact True.intro
    | refine stp ?_
    | refine two ?_ ?_
    | refine allc fun c_ => ?_
    | (refine imp fun hc => ?_) <;> try exact cx1 hc
    | refine all fun v_ => ?_)
   all_goals clear fA_ fH_
   refine retv (VS.drop (List.nil_sublist _)) ?_
   ((with_reducible apply rq2); rfl; rfl; rfl)
   exact ret_eq rfl
theorem KeyIn (G : List (Nat × List D)) (s : Sto) (n : Int) : ACr Try.prog G 14 [stA s, .int n] (.tup [.bool (hasF s n).1, .int (hasF s n).2]) := by
 have hC := StoreFault G s
 refine AC_ofV (ts := [4, 5]) Try.f14.ntmps Try.func14 rfl rfl rfl (by simp [Try.ntmps14]) fun W I => ?_
 unfold hasF
 by_cases h0 : stoF s ≠ 0
 · rw [if_pos h0]
   generalize stoF s = e at hC h0
   all_goals haveI fA_ : FlagA := ⟨⟩
   all_goals haveI fH_ : FlagH := ⟨⟩
   repeat' (first
    | refine ca cal_StoreFault (hC) ?_
    | exact True.intro
    | refine stp ?_
    | refine two ?_ ?_
    | refine allc fun c_ => ?_
    | (refine imp fun hc => ?_) <;> try exact cx1 hc
    | refine all fun v_ => ?_)
   all_goals clear fA_ fH_
   refine retv (VS.drop (List.nil_sublist _)) ?_
   ((with_reducible apply rq2); rfl; rfl; rfl)
   exact ret_eq rfl
 rw [if_neg h0]
 replace h0 := Decidable.not_not.1 h0
 have hP := stoF_iff.1 h0
 rw [h0] at hC
 have hrl := runs_few s.runs fun r hr => (hP.runs r hr).1
 have hfew := hP.few
 have h7 := hP.loose
 have hK := keysOf G s (by omega) (by omega) (by omega)
 have hkl := keysL_len s
 generalize keysL s = L at hK hkl
 by_cases hk : keyP n
 · rw [if_neg (fun k => k hk)]
   have hk' : 0 ≤ n ∧ n ≤ 2147483647 := hk
   all_goals haveI fA_ : FlagA := ⟨⟩
   all_goals haveI fH_ : FlagH := ⟨⟩
   repeat' (first
    | refine ca cal_StoreFault (hC) ?_
    | refine ca cal_In (In _ _ _ _) ?_
    | refine ca cal_keysOf (hK) ?_
    | exact True.intro
    | refine stp ?_
    | refine two ?_ ?_
    | refine allc fun c_ => ?_
    | (refine imp fun hc => ?_) <;> try exact cx1 hc
    | refine all fun v_ => ?_)
   all_goals clear fA_ fH_
   refine J_loopV (X := Nat) (fun i => [(1, .int n), (7, .d (intsD L)), (8, .int i)]) (fun _ => []) (fun i => i ≤ L.length ∧ (n ∈ L ↔ n ∈ L.drop i)) (fun i => L.length - i) 0 ⟨Nat.zero_le _, by simp⟩ (VS.trans (VS.drop (List.nil_sublist _)) (VS.of_le ?_)) ?_
   · exact leD
   rintro i ⟨hi, hin⟩
   by_cases hil : i < L.length
   · by_cases he : L[i] = n
     · have hm : n ∈ L := by rw [← he]; exact List.getElem_mem hil
       all_goals haveI fA_ : FlagA := ⟨⟩
       all_goals haveI fH_ : FlagH := ⟨⟩
       repeat' (first
        | refine ca cal_StoreFault (hC) ?_
        | refine ca cal_In (In _ _ _ _) ?_
        | refine ca cal_keysOf (hK) ?_
        | exact True.intro
        | refine stp ?_
        | refine two ?_ ?_
        | refine allc fun c_ => ?_
        | (refine imp fun hc => ?_) <;> try exact cx1 hc
        | refine all fun v_ => ?_)
       all_goals clear fA_ fH_
       refine retv0 ?_
       ((with_reducible apply rq2); rfl; rfl; rfl)
       exact ret_eq (by rw [decide_eq_true hm])
     · all_goals haveI fA_ : FlagA := ⟨⟩
       all_goals haveI fH_ : FlagH := ⟨⟩
       repeat' (first
        | refine ca cal_StoreFault (hC) ?_
        | refine ca cal_In (In _ _ _ _) ?_
        | refine ca cal_keysOf (hK) ?_
        | exact True.intro
        | refine stp ?_
        | refine two ?_ ?_
        | refine allc fun c_ => ?_
        | (refine imp fun hc => ?_) <;> try exact cx1 hc
        | refine all fun v_ => ?_)
       all_goals clear fA_ fH_
       refine ⟨i + 1, ⟨hil, ?_⟩, by omega, VS.of_le ?_⟩
       · rw [hin, List.drop_eq_getElem_cons hil, List.mem_cons]
         exact ⟨fun k => k.resolve_left fun e => he e.symm, .inr⟩
       · exact leD
   have hm : n ∉ L := by rw [hin, List.drop_of_length_le (by omega)]; exact List.not_mem_nil
   all_goals haveI fA_ : FlagA := ⟨⟩
   all_goals haveI fH_ : FlagH := ⟨⟩
   repeat' (first
    | refine ca cal_StoreFault (hC) ?_
    | refine ca cal_In (In _ _ _ _) ?_
    | refine ca cal_keysOf (hK) ?_
    | exact True.intro
    | refine stp ?_
    | refine two ?_ ?_
    | refine allc fun c_ => ?_
    | (refine imp fun hc => ?_) <;> try exact cx1 hc
    | refine all fun v_ => ?_)
   all_goals clear fA_ fH_
   refine retv0 ?_
   ((with_reducible apply rq2); rfl; rfl; rfl)
   exact ret_eq (by rw [decide_eq_false hm])
 · rw [if_pos hk]
   have hk' : ¬ (0 ≤ n ∧ n ≤ 2147483647) := hk
   all_goals haveI fA_ : FlagA := ⟨⟩
   all_goals haveI fH_ : FlagH := ⟨⟩
   repeat' (first
    | refine ca cal_StoreFault (hC) ?_
    | refine ca cal_In (In _ _ _ _) ?_
    | refine ca cal_keysOf (hK) ?_
    | exact True.intro
    | refine stp ?_
    | refine two ?_ ?_
    | refine allc fun c_ => ?_
    | (refine imp fun hc => ?_) <;> try exact cx1 hc
    | refine all fun v_ => ?_)
   all_goals clear fA_ fH_
   refine retv (VS.drop (List.nil_sublist _)) ?_
   ((with_reducible apply rq2); rfl; rfl; rfl)
   exact ret_eq rfl
end Go.Proofs.Ytnlfhnbcdfdhgaa
