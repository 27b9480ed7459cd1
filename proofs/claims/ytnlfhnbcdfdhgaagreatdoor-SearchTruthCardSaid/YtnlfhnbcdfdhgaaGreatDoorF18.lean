/- A bundle of this claim's own texts: O5 Em U1 U3 U2. -/
import Derived.Test.YtnlfhnbcdfdhgaaGreatDoorF3
import Derived.Test.YtnlfhnbcdfdhgaaGreatDoorF16
import Derived.Test.YtnlfhnbcdfdhgaaGreatDoorF17
set_option linter.unusedVariables false
set_option linter.unusedSimpArgs false
set_option maxRecDepth 100000
set_option maxHeartbeats 4000000
namespace Go.Av
open Go Go.Instr
section
variable {P : Program} {G : List (Nat × List D)} {ρ : Env} {h : H} {dst : Option Tmp} {ty : TypeId} {pos : String} {after : Array Edge} {g : Option (Nat × Bool)}
theorem Hu {S T : TypeId} {x : Operand} {n : Int} (hS : (P.underlying S).isSome = true) (hT : P.underlying T = some (.int .u64)) (hx : evO ρ x = some (.int n)) (h0 : 0 ≤ n) (h1 : n < 18446744073709551616) : Pure P G ⟨dst, .convert S T x, ty, pos, after, g⟩ ρ h (.val (.int .u64 n)) := by
 have := EY (P := P) (G := G) (h := h) (dst := dst) (ty := ty) (pos := pos) (after := after) (g := g) hS hT (AA hx)
 have e : IntKind.u64.wrap n = n := by rw [IntKind.wrap_u64]; omega
 rwa [e] at this
theorem Eg {S T : TypeId} {x : Operand} {n : Int} (hS : (P.underlying S).isSome = true) (hT : P.underlying T = some (.int .i64)) (hx : evO ρ x = some (.val (.int .u64 n))) (hb : AX n) : Pure P G ⟨dst, .convert S T x, ty, pos, after, g⟩ ρ h (.int n) := by
 have := EY (P := P) (G := G) (h := h) (dst := dst) (ty := ty) (pos := pos) (after := after) (g := g) hS hT (AA hx)
 rwa [D9 hb] at this
theorem Ei {T T' : TypeId} {x : Operand} {m : Int} (hx : evO ρ x = some (.val (.int .u64 m))) : Pure P G ⟨dst, .binOp .shr T x (.const (.int .u64 1)) T', ty, pos, after, g⟩ ρ h (.val (.int .u64 (m / 2))) := by
 refine BC (v := .int .u64 1) (AA hx) rfl (fun _ => by rw [eqGuard_shr]; rfl) fun _ => ?_
 rw [binOp_shr, shift_shr .u64 .u64 m 1 (by decide) (by decide)]; rfl
end
end Go.Av
namespace Go.Proofs.YtnlfhnbcdfdhgaaGreatDoor
open Go Go.Av Go.Sp
theorem Ef : Cal Tryz.prog 185 := Cal.of Tryz.func185 (by kernel_rfl) (by kernel_rfl)
theorem Bh : Cal Tryz.prog 186 := Cal.of Tryz.func186 (by kernel_rfl) (by kernel_rfl)
theorem LP : Cal Tryz.prog 205 := Cal.of Tryz.func205 (by kernel_rfl) (by kernel_rfl)
theorem F9 : Cal Tryz.prog 149 := Cal.of Tryz.func149 (by kernel_rfl) (by kernel_rfl)
theorem EF : Cal Tryz.prog 98 := Cal.of Tryz.func98 (by kernel_rfl) (by kernel_rfl)
theorem EN (G : List (Nat × List D)) (n : Int) : ACr Tryz.prog G 186 [.int n] (.bool false) := by
 refine AJ (ts := [2]) Tryz.f186.ntmps Tryz.func186 rfl rfl rfl (by simp [Tryz.ntmps186]) fun W I => ?_
 repeat' (first
  | exact True.intro | refine AG ?_ | refine two ?_ ?_ | refine AF fun c_ => ?_
  | (refine imp fun hc => ?_) <;> try exact cx1 hc
  | refine all fun v_ => ?_)
 refine A6 ?_
 ((with_reducible apply rq1); rfl; rfl)
 exact AB (by simp)
theorem XM (G : List (Nat × List D)) (n : Int) : ACr Tryz.prog G 205 [.int n] (.bool false) := by
 refine AJ (ts := [2]) Tryz.f205.ntmps Tryz.func205 rfl rfl rfl (by simp [Tryz.ntmps205]) fun W I => ?_
 repeat' (first
  | exact True.intro | refine AG ?_ | refine two ?_ ?_ | refine AF fun c_ => ?_
  | (refine imp fun hc => ?_) <;> try exact cx1 hc
  | refine all fun v_ => ?_)
 refine A6 ?_
 ((with_reducible apply rq1); rfl; rfl)
 exact AB (by simp)
theorem No (G : List (Nat × List D)) (a b : Int) : ACr Tryz.prog G 185 [.int a, .int b] (.bool (decide (a < b))) := by
 refine AJ (ts := [4]) Tryz.f185.ntmps Tryz.func185 rfl rfl rfl (by simp [Tryz.ntmps185]) fun W I => ?_
 repeat' (first
  | refine ca LP (XM _ _) ?_
  | refine caq LP (XM _ _) ?_
  | exact True.intro | refine AG ?_ | refine two ?_ ?_ | refine AF fun c_ => ?_
  | (refine imp fun hc => ?_) <;> try exact cx1 hc
  | refine all fun v_ => ?_)
 all_goals
  refine A6 ?_
  ((with_reducible apply rq1); rfl; rfl)
  exact AB rfl
theorem Oa (G : List (Nat × List D)) (l : List Int) (n : Int) (hs : l.Pairwise (· < ·)) : AC Tryz.prog G 149 [.d (AK l), .int n] [] fun r h => ∃ v : Nat, r = .ret (.tup [.int v, .bool (decide (n ∈ l))]) ∧ h = [] := by
 have hs' := List.pairwise_iff_getElem.1 hs
 refine AJ (ts := [4, 5]) Tryz.f149.ntmps Tryz.func149 rfl rfl rfl (by simp [Tryz.ntmps149]) fun W I => ?_
 refine DB (t := 0) rfl fun hl => ?_
 repeat' (first
  | ((with_reducible apply jp); (focus ((with_reducible apply Hu); (focus rfl); (focus rfl); (focus rfl); (focus omega); (focus omega))); (focus rfl))
  | ((with_reducible apply jp); (focus ((with_reducible apply Ei); (focus rfl))); (focus rfl))
  | ((with_reducible apply jp); (focus ((with_reducible apply Eg); (focus rfl); (focus rfl); (focus rfl); (focus (unfold AX; omega)))); (focus rfl))
  | refine ca Ef (No _ _ _) ?_
  | refine ca Bh (EN _ _) ?_
  | refine caq Bh (EN _ _) ?_
  | exact True.intro | refine AP ?_ | refine two ?_ ?_
  | (refine imp fun hc => ?_) <;> try exact cx hc
  | refine all fun v_ => ?_)
 refine AM (X := Nat × Nat) (fun y => [(0, .d (AK l)), (1, .int n), (6, .int l.length), (7, .int y.1), (8, .int y.2)]) (fun _ => []) (fun y => y.1 ≤ y.2 ∧ y.2 ≤ l.length ∧ (∀ (a : Nat) (h : a < l.length), a < y.1 → l[a] < n) ∧ ∀ (a : Nat) (h : a < l.length), y.2 ≤ a → n ≤ l[a]) (fun y => y.2 - y.1) (0, l.length) ⟨Nat.zero_le _, Nat.le_refl _, fun a h h2 => absurd h2 (Nat.not_lt_zero a), fun a h h2 => by omega⟩ (VS.of_le ?_) ?_
 · exact leD
 rintro ⟨i, j⟩ ⟨h1, h2, h3, h4⟩
 dsimp only at h1 h2 h3 h4 ⊢
 by_cases hij : i < j
 · have eh : (((i : Int) + j) / 2).toNat = (i + j) / 2 := by omega
   have hlt : (((i : Int) + j) / 2).toNat < l.length := by omega
   by_cases hc0 : l[(((i : Int) + j) / 2).toNat] < n
   · repeat' (first
      | ((with_reducible apply jp); (focus ((with_reducible apply Hu); (focus rfl); (focus rfl); (focus rfl); (focus omega); (focus omega))); (focus rfl))
      | ((with_reducible apply jp); (focus ((with_reducible apply Ei); (focus rfl))); (focus rfl))
      | ((with_reducible apply jp); (focus ((with_reducible apply Eg); (focus rfl); (focus rfl); (focus rfl); (focus (unfold AX; omega)))); (focus rfl))
      | refine ca Ef (No _ _ _) ?_
      | refine ca Bh (EN _ _) ?_
      | refine caq Bh (EN _ _) ?_
      | exact True.intro | refine AG ?_ | refine two ?_ ?_ | refine AF fun c_ => ?_
      | (refine imp fun hc => ?_) <;> try exact cx1 hc
      | refine all fun v_ => ?_)
     refine ⟨((((i : Int) + j) / 2).toNat + 1, j), ⟨by dsimp only; omega, h2, fun a h ha => ?_, h4⟩, by dsimp only; omega, VS.of_le ?_⟩
     · by_cases e : a = (((i : Int) + j) / 2).toNat
       · subst e; exact hc0
       · have := hs' a _ h hlt (by dsimp only at ha; omega); omega
     · exact leD
   · repeat' (first
      | ((with_reducible apply jp); (focus ((with_reducible apply Hu); (focus rfl); (focus rfl); (focus rfl); (focus omega); (focus omega))); (focus rfl))
      | ((with_reducible apply jp); (focus ((with_reducible apply Ei); (focus rfl))); (focus rfl))
      | ((with_reducible apply jp); (focus ((with_reducible apply Eg); (focus rfl); (focus rfl); (focus rfl); (focus (unfold AX; omega)))); (focus rfl))
      | refine ca Ef (No _ _ _) ?_
      | refine ca Bh (EN _ _) ?_
      | refine caq Bh (EN _ _) ?_
      | exact True.intro | refine AG ?_ | refine two ?_ ?_ | refine AF fun c_ => ?_
      | (refine imp fun hc => ?_) <;> try exact cx1 hc
      | refine all fun v_ => ?_)
     refine ⟨(i, (((i : Int) + j) / 2).toNat), ⟨by dsimp only; omega, by dsimp only; omega, h3, fun a h ha => ?_⟩, by dsimp only; omega, VS.of_le ?_⟩
     · by_cases e : a = (((i : Int) + j) / 2).toNat
       · subst e; omega
       · have := hs' _ a hlt h (by dsimp only at ha; omega); omega
     · exact leD
 obtain rfl : j = i := by omega
 by_cases hil : j < l.length
 · by_cases he : l[j] = n
   · have hm : n ∈ l := by rw [← he]; exact List.getElem_mem hil
     repeat' (first
      | ((with_reducible apply jp); (focus ((with_reducible apply Hu); (focus rfl); (focus rfl); (focus rfl); (focus omega); (focus omega))); (focus rfl))
      | ((with_reducible apply jp); (focus ((with_reducible apply Ei); (focus rfl))); (focus rfl))
      | ((with_reducible apply jp); (focus ((with_reducible apply Eg); (focus rfl); (focus rfl); (focus rfl); (focus (unfold AX; omega)))); (focus rfl))
      | refine ca Ef (No _ _ _) ?_
      | refine ca Bh (EN _ _) ?_
      | refine caq Bh (EN _ _) ?_
      | exact True.intro | refine AG ?_ | refine two ?_ ?_ | refine AF fun c_ => ?_
      | (refine imp fun hc => ?_) <;> try exact cx1 hc
      | refine all fun v_ => ?_)
     all_goals
      refine A6 ?_
      ((with_reducible apply rq2); rfl; rfl; rfl)
      exact ⟨j, by rw [decide_eq_true hm], rfl⟩
   · have hm : n ∉ l := fun hm => by
      obtain ⟨a, ha, e⟩ := List.getElem_of_mem hm
      by_cases c : a < j
      · have := h3 a ha c; omega
      · by_cases c2 : a = j
        · subst c2; exact he e
        · have h5 := hs' j a hil ha (by omega)
          have h6 := h4 j hil (Nat.le_refl _)
          omega
     repeat' (first
      | ((with_reducible apply jp); (focus ((with_reducible apply Hu); (focus rfl); (focus rfl); (focus rfl); (focus omega); (focus omega))); (focus rfl))
      | ((with_reducible apply jp); (focus ((with_reducible apply Ei); (focus rfl))); (focus rfl))
      | ((with_reducible apply jp); (focus ((with_reducible apply Eg); (focus rfl); (focus rfl); (focus rfl); (focus (unfold AX; omega)))); (focus rfl))
      | refine ca Ef (No _ _ _) ?_
      | refine ca Bh (EN _ _) ?_
      | refine caq Bh (EN _ _) ?_
      | exact True.intro | refine AG ?_ | refine two ?_ ?_ | refine AF fun c_ => ?_
      | (refine imp fun hc => ?_) <;> try exact cx1 hc
      | refine all fun v_ => ?_)
     all_goals
      refine A6 ?_
      ((with_reducible apply rq2); rfl; rfl; rfl)
      exact ⟨j, by rw [decide_eq_false hm], rfl⟩
 · have hm : n ∉ l := fun hm => by
    obtain ⟨a, ha, e⟩ := List.getElem_of_mem hm
    have := h3 a ha (by omega); omega
   repeat' (first
    | ((with_reducible apply jp); (focus ((with_reducible apply Hu); (focus rfl); (focus rfl); (focus rfl); (focus omega); (focus omega))); (focus rfl))
    | ((with_reducible apply jp); (focus ((with_reducible apply Ei); (focus rfl))); (focus rfl))
    | ((with_reducible apply jp); (focus ((with_reducible apply Eg); (focus rfl); (focus rfl); (focus rfl); (focus (unfold AX; omega)))); (focus rfl))
    | refine ca Ef (No _ _ _) ?_
    | refine ca Bh (EN _ _) ?_
    | refine caq Bh (EN _ _) ?_
    | exact True.intro | refine AG ?_ | refine two ?_ ?_ | refine AF fun c_ => ?_
    | (refine imp fun hc => ?_) <;> try exact cx1 hc
    | refine all fun v_ => ?_)
   all_goals
    refine A6 ?_
    ((with_reducible apply rq2); rfl; rfl; rfl)
    exact ⟨j, by rw [decide_eq_false hm], rfl⟩
theorem VM (G : List (Nat × List D)) (s : Sto) (n : Int) : ACr Tryz.prog G 98 [stA s, .int n] (.tup [.bool (Fj s n).1, .int (Fj s n).2]) := by
 have hC := Z9 G s
 refine AC.factI (f := BP) (xs := s.runs) (.agg (.there .here)) fun hlr => ?_
 refine AJ (ts := [4, 5]) Tryz.f98.ntmps Tryz.func98 rfl rfl rfl (by simp [Tryz.ntmps98]) fun W I => ?_
 unfold Fj
 by_cases h0 : PT s ≠ 0
 · rw [if_pos h0]
   generalize PT s = e at hC h0
   repeat' (first
    | refine ca Gz (hC) ?_
    | exact True.intro | refine AG ?_ | refine two ?_ ?_ | refine AF fun c_ => ?_
    | (refine imp fun hc => ?_) <;> try exact cx1 hc
    | refine all fun v_ => ?_)
   refine AN (VS.drop (List.nil_sublist _)) ?_
   ((with_reducible apply rq2); rfl; rfl; rfl)
   exact AB rfl
 rw [if_neg h0]
 replace h0 := Decidable.not_not.1 h0
 have hP := QE.1 h0
 rw [h0] at hC
 have hK := key G n
 have hI := WR G s.loose n
 by_cases hk : EU n
 · rw [if_neg (fun k => k hk)]
   rw [decide_eq_true hk] at hK
   repeat' (first
    | refine ca Gz (hC) ?_
    | refine ca PA (hK) ?_
    | refine ca Mq (hI) ?_
    | exact True.intro | refine AG ?_ | refine two ?_ ?_ | refine AF fun c_ => ?_
    | (refine imp fun hc => ?_) <;> try exact cx1 hc
    | refine all fun v_ => ?_)
   refine AM (X := Nat) (fun i => [(1, .int n), (7, .bool (decide (n ∈ s.loose ∨ n ∈ (s.runs.take i).flatten))), (25, .d (Ah s.runs)), (26, .int s.runs.length), (27, .int i)]) (fun _ => []) (fun i => i ≤ s.runs.length) (fun i => s.runs.length - i) 0 (Nat.zero_le _) (VS.trans (VS.drop (List.nil_sublist _)) (VS.of_le ?_)) ?_
   · simp only [List.take_zero, List.flatten_nil, List.not_mem_nil, or_false]
     exact leD
   intro i hi
   by_cases hil : i < s.runs.length
   · have hB := Oa G s.runs[i] n (hP.no_run hil).2
     have hst : decide (n ∈ s.loose ∨ n ∈ (s.runs.take (i + 1)).flatten) = (decide (n ∈ s.loose ∨ n ∈ (s.runs.take i).flatten) || decide (n ∈ s.runs[i])) := by
      rw [CZ _ _ hil, ← Bool.decide_or]
      simp only [List.mem_append, or_assoc]
     cases hb : decide (n ∈ s.loose ∨ n ∈ (s.runs.take i).flatten) with
     | true =>
       rw [hb, Bool.true_or] at hst
       repeat' (first
        | refine cag F9 (hB) ?_
        | exact True.intro | refine AG ?_ | refine two ?_ ?_ | refine AF fun c_ => ?_
        | (refine imp fun hc => ?_) <;> try exact cx1 hc
        | refine all fun v_ => ?_)
       refine ⟨i + 1, hil, by omega, VS.of_le ?_⟩
       rw [hst]
       exact leD
     | false =>
       rw [hb, Bool.false_or] at hst
       repeat' (first
        | refine cag F9 (hB) ?_
        | exact True.intro | refine AG ?_ | refine two ?_ ?_ | refine AF fun c_ => ?_
        | (refine imp fun hc => ?_) <;> try exact cx1 hc
        | refine all fun v_ => ?_)
       refine ⟨i + 1, hil, by omega, VS.of_le ?_⟩
       rw [hst]
       exact leD
   obtain rfl : i = s.runs.length := by omega
   rw [List.take_length]
   repeat' (first
    | exact True.intro | refine AG ?_ | refine two ?_ ?_ | refine AF fun c_ => ?_
    | (refine imp fun hc => ?_) <;> try exact cx1 hc
    | refine all fun v_ => ?_)
   refine A6 ?_
   ((with_reducible apply rq2); rfl; rfl; rfl)
   refine AB ?_
   have : decide (n ∈ s.loose ∨ n ∈ s.runs.flatten) = decide (n ∈ BR s) := decide_eq_decide.2 (by unfold BR; rw [List.mem_append]; exact or_comm)
   rw [this]
 · rw [if_pos hk]
   rw [decide_eq_false hk] at hK
   repeat' (first
    | refine ca Gz (hC) ?_
    | refine ca PA (hK) ?_
    | exact True.intro | refine AG ?_ | refine two ?_ ?_ | refine AF fun c_ => ?_
    | (refine imp fun hc => ?_) <;> try exact cx1 hc
    | refine all fun v_ => ?_)
   refine AN (VS.drop (List.nil_sublist _)) ?_
   ((with_reducible apply rq2); rfl; rfl; rfl)
   exact AB rfl
open Go Go.Av
theorem WL : Fld Tryz.prog 104 0 0 := by unfold Fld; kernel_rfl
instance : FdC Tryz.prog 104 0 0 := ⟨WL⟩
theorem Vv : Fld Tryz.prog 104 1 5 := by unfold Fld; kernel_rfl
instance : FdC Tryz.prog 104 1 5 := ⟨Vv⟩
theorem Uo : Bls Tryz.prog 104 [.slice none 0 0, .int .i64 0, .slice none 0 0, .slice none 0 0, .int .i64 0, .map none] [(0, 5), (5, 1)] := by unfold Bls; kernel_rfl
instance : Gs Tryz.prog 104 [.slice none 0 0, .int .i64 0, .slice none 0 0, .slice none 0 0, .int .i64 0, .map none] [(0, 5), (5, 1)] := ⟨Uo⟩
theorem Ry : Fld Tryz.prog 82 0 0 := by unfold Fld; kernel_rfl
instance : FdC Tryz.prog 82 0 0 := ⟨Ry⟩
theorem R5 : Fld Tryz.prog 82 1 4 := by unfold Fld; kernel_rfl
instance : FdC Tryz.prog 82 1 4 := ⟨R5⟩
theorem TX : Fld Tryz.prog 82 2 5 := by unfold Fld; kernel_rfl
instance : FdC Tryz.prog 82 2 5 := ⟨TX⟩
theorem Sv : Fld Tryz.prog 82 3 6 := by unfold Fld; kernel_rfl
instance : FdC Tryz.prog 82 3 6 := ⟨Sv⟩
theorem Sj : Fld Tryz.prog 82 4 8 := by unfold Fld; kernel_rfl
instance : FdC Tryz.prog 82 4 8 := ⟨Sj⟩
theorem Sn : Fld Tryz.prog 82 5 9 := by unfold Fld; kernel_rfl
instance : FdC Tryz.prog 82 5 9 := ⟨Sn⟩
theorem Sa : Fld Tryz.prog 82 6 10 := by unfold Fld; kernel_rfl
instance : FdC Tryz.prog 82 6 10 := ⟨Sa⟩
theorem SD : Fld Tryz.prog 82 7 12 := by unfold Fld; kernel_rfl
instance : FdC Tryz.prog 82 7 12 := ⟨SD⟩
theorem S4 : Bls Tryz.prog 82 [.slice none 0 0, .slice none 0 0, .slice none 0 0, .slice none 0 0, .bool false, .slice none 0 0, .slice none 0 0, .slice none 0 0, .int .i64 0, .int .i64 0, .slice none 0 0, .int .i64 0, .bool false, .int .i64 0, .int .i64 0, .int .i64 0, .int .i64 0, .bool false, .bool false] [(0, 4), (4, 1), (5, 1), (6, 2), (8, 1), (9, 1), (10, 2), (12, 7)] := by unfold Bls; kernel_rfl
instance : Gs Tryz.prog 82 [.slice none 0 0, .slice none 0 0, .slice none 0 0, .slice none 0 0, .bool false, .slice none 0 0, .slice none 0 0, .slice none 0 0, .int .i64 0, .int .i64 0, .slice none 0 0, .int .i64 0, .bool false, .int .i64 0, .int .i64 0, .int .i64 0, .int .i64 0, .bool false, .bool false] [(0, 4), (4, 1), (5, 1), (6, 2), (8, 1), (9, 1), (10, 2), (12, 7)] := ⟨S4⟩

theorem D8 : Cal Tryz.prog 151 := Cal.of Tryz.func151 (by kernel_rfl) (by kernel_rfl)
theorem L5 : Cal Tryz.prog 28 := Cal.of Tryz.func28 (by kernel_rfl) (by kernel_rfl)
theorem Sum (G : List (Nat × List D)) (l : List UInt8) : ACr Tryz.prog G 151 [.d (B0 l)] (.int (sumOf l)) := by
 refine Dl (ts := [2]) 20 Tryz.func151 rfl rfl rfl (by simp) fun W I => ?_
 refine DB (t := 0) rfl fun hl => ?_
 repeat' (first
  | exact True.intro
  | refine stp ?_
  | refine two ?_ ?_
  | (refine imp fun hc => ?_) <;> try exact cx hc
  | refine all fun v_ => ?_)
 refine Ku (X := Nat × Int) (fun y => [(3, .int y.2), (6, .d (B0 l)), (7, .int l.length), (8, .int y.1)]) (fun _ => []) (fun y => y.1 ≤ l.length ∧ 0 ≤ y.2 ∧ y.2 < 2147483629 ∧ sumOf l = Ra (l.drop y.1) y.2) (fun y => l.length - y.1) (0, 1) ⟨Nat.zero_le _, by decide, by decide, rfl⟩ ?_ rfl ?_
 · exact leD
 rintro ⟨i, s⟩ ⟨k1, k2, k3, k4⟩
 dsimp only at k1 k2 k3 k4 ⊢
 by_cases hi : i < l.length
 · have hb := (l[i]).toNat_lt
   rw [aU l i hi] at k4
   repeat' (first
    | exact True.intro
    | refine stp ?_
    | refine two ?_ ?_
    | (refine imp fun hc => ?_) <;> try exact cx hc
    | refine all fun v_ => ?_)
   refine ⟨(i + 1, _), ⟨by dsimp only; omega, ?_, ?_, k4⟩, by dsimp only; omega, ?_, rfl⟩
   · exact Int.emod_nonneg _ (by decide)
   · exact Int.emod_lt_of_pos _ (by decide)
   · exact leD
 · rw [ZB l i (by omega)] at k4
   repeat' (first
    | exact True.intro
    | refine stp ?_
    | refine two ?_ ?_
    | (refine imp fun hc => ?_) <;> try exact cx hc
    | refine all fun v_ => ?_)
   ((with_reducible apply rq1); rfl; rfl)
   exact AB (congrArg AV.int k4.symm)
theorem W4 (G : List (Nat × List D)) (l : List Fo) : ACr Tryz.prog G 28 [.d (AO l)] (.int (Hy l)) := by
 refine AJ (ts := [2]) Tryz.f28.ntmps Tryz.func28 rfl rfl rfl (by simp [Tryz.ntmps28]) fun W I => ?_
 refine DB (t := 0) rfl fun hl => ?_
 repeat' (first
  | exact True.intro | refine AP ?_ | refine two ?_ ?_
  | (refine imp fun hc => ?_) <;> try exact cx hc
  | refine all fun v_ => ?_)
 · refine A6 ?_
   ((with_reducible apply rq1); rfl; rfl)
   refine AB (congrArg AV.int ?_)
   rw [Hy, if_pos (by omega)]
 have hs : Hy l = Lm l := by rw [Hy, if_neg (by omega)]
 refine AM (X := Nat) (fun i => [(8, .d (AO l)), (9, .int l.length), (10, .int i)]) (fun _ => []) (fun i => i ≤ l.length ∧ Hy l = Lm (l.drop i)) (fun i => l.length - i) 0 ⟨Nat.zero_le _, hs⟩ (VS.of_le ?_) ?_
 · exact leD
 rintro i ⟨k1, k2⟩
 by_cases hi : i < l.length
 · rw [ax l i hi] at k2
   repeat' (first
    | exact True.intro | refine AP ?_ | refine two ?_ ?_
    | (refine imp fun hc => ?_) <;> try exact cx hc
    | refine all fun v_ => ?_)
   all_goals first
    | (refine AN (VS.drop (List.nil_sublist _)) ?_
       ((with_reducible apply rq1); rfl; rfl)
       refine AB (congrArg AV.int ?_)
       rw [k2]
       first
        | rw [if_pos (by omega)]
        | rw [if_neg (by omega), if_pos (by omega)])
    | (rw [if_neg (by omega), if_neg (by omega)] at k2
       refine ⟨i + 1, ⟨by omega, k2⟩, by omega, vle (List.nil_sublist _) ?_⟩
       exact leD)
 · rw [Xp l i (by omega)] at k2
   repeat' (first
    | exact True.intro | refine AP ?_ | refine two ?_ ?_
    | (refine imp fun hc => ?_) <;> try exact cx hc
    | refine all fun v_ => ?_)
   refine A6 ?_
   ((with_reducible apply rq1); rfl; rfl)
   exact AB (congrArg AV.int k2.symm)

theorem Aj : Cal Tryz.prog 150 := Cal.of Tryz.func150 (by kernel_rfl) (by kernel_rfl)
theorem put (G : List (Nat × List D)) (v : Value) (xs : List UInt8) (n : Int) (hl : xs.length ≤ 1000000000) : AC Tryz.prog G 150 [.val v, .int n] [AH v 5 1 Cy xs] fun e h => ∃ q : Sl, e = .ret (.val q.v) ∧ h = [AH q.v 5 1 Cy (xs ++ b4 n)] := by
 refine AJ (ts := [4]) 19 Tryz.func150 rfl rfl rfl (by simp) fun W I => ?_
 repeat' (first
  | ((with_reducible apply PL); (focus rfl); (focus rfl); (focus rfl); (focus rfl); (focus rfl); (focus (with_reducible exact ElC.h)); (focus rfl))
  | exact True.intro | refine AP ?_ | refine two ?_ ?_
  | (refine imp fun hc => ?_) <;> try exact cx hc
  | refine all fun v_ => ?_)
 refine A6 ?_
 ((with_reducible apply rq1); rfl; rfl)
 exact ⟨_, rfl, rfl⟩

theorem Hm : Cal Tryz.prog 145 := Cal.of Tryz.func145 (by kernel_rfl) (by kernel_rfl)
theorem BA : Cal Tryz.prog 100 := Cal.of Tryz.func100 (by kernel_rfl) (by kernel_rfl)
theorem Yq : Cal Tryz.prog 55 := Cal.of Tryz.func55 (by kernel_rfl) (by kernel_rfl)
theorem NF : Cal Tryz.prog 56 := Cal.of Tryz.func56 (by kernel_rfl) (by kernel_rfl)
theorem Zf (G : List (Nat × List D)) (l : List UInt8) (hl : l.length ≤ 140737488355328) : AC Tryz.prog G 145 [.d (B0 l)] [] fun e h => ∃ q : Sl, e = .ret (.val q.v) ∧ h = [AH q.v 5 1 Cy l] := by
 refine AJ (ts := [2]) 8 Tryz.func145 rfl rfl rfl (by simp) fun W I => ?_
 repeat' (first
  | ((with_reducible apply dR); (focus rfl); (focus rfl); (focus rfl); (focus rfl))
  | ((with_reducible apply LD Cy); (focus rfl); (focus (with_reducible exact ElC.h)); (focus rfl))
  | exact True.intro | refine AP ?_ | refine two ?_ ?_
  | (refine imp fun hc => ?_) <;> try exact cx hc
  | refine all fun v_ => ?_)
 · rename_i hn
   have : l = [] := by simpa using hn hc
   subst this
   refine AN (VS.nilrow 5 1) ?_
   ((with_reducible apply rq1); rfl; rfl)
   exact ⟨Sl.nil, rfl, rfl⟩
 · refine A6 ?_
   ((with_reducible apply rq1); rfl; rfl)
   exact ⟨_, rfl, rfl⟩
theorem P0 {p q : Prop} (hp : p) (h : p → q := by
 apply cmp; (focus (first
  | ((with_reducible apply XV); (focus rfl); (focus exact Hm); (focus exact Zf _ _ (by omega)); (focus rfl))
  | ((with_reducible apply RZ); (focus rfl); (focus (decide +kernel)); (focus rfl); (focus exact Hm); (focus exact Zf _ _ (by omega)); (focus rfl))
  ))
 exact fun h => h) : q := h hp
theorem DM (G : List (Nat × List D)) (t : Tp) (hm : EO t) : AC Tryz.prog G 100 [tpA t] [] fun e h => ∃ q : Sl, e = .ret (.tup [.agg [.val q.v, .int t.synced], .bool true]) ∧ h = [AH q.v 5 1 Cy t.data] := by
 obtain ⟨h1, h2, h3⟩ := hm
 refine Bm (rs := [.cell 2 80, .tmp 3]) 28 Tryz.func100 rfl rfl rfl (by simp) fun W I => ?_
 repeat' (first
  | refine P0 ?_
  | exact True.intro | refine AP ?_ | refine two ?_ ?_
  | (refine imp fun hc => ?_) <;> try exact cx hc
  | refine all fun v_ => ?_)
 refine NO (xs := [.agg [.val v_.v, .int t.synced], .bool true]) ⟨Ax rfl CT rfl (by exact Ab) rfl, Az rfl, trivial⟩ rfl (h' := [AH v_.v 5 1 Cy t.data]) (by exact HX) ⟨v_, rfl, rfl⟩
theorem DN (G : List (Nat × List D)) (t : Tp) (hm : ¬ EO t) : ACr Tryz.prog G 100 [tpA t] (.tup [tpA DD, .bool false]) := by
 unfold EO at hm
 refine Bm (rs := [.cell 2 80, .tmp 3]) 28 Tryz.func100 rfl rfl rfl (by simp) fun W I => ?_
 repeat' (first
  | refine P0 ?_
  | exact True.intro | refine AP ?_ | refine two ?_ ?_
  | (refine imp fun hc => ?_) <;> try exact cx hc
  | refine all fun v_ => ?_)
 all_goals
  exact Eo (xs := [.agg [.val (.slice none 0 0), .int 0], .bool false]) (ys := [tpA DD, .bool false]) vid ⟨Ax rfl CT rfl (by exact Ab) rfl, Az rfl, trivial⟩ ⟨AV.le_agg ⟨AV.le_nil 1 1, AV.le_refl _, trivial⟩, AV.le_refl _, trivial⟩ rfl (h' := []) (List.nil_sublist _) ⟨rfl, rfl⟩
theorem Sync (G : List (Nat × List D)) (t : Tp) : ACr Tryz.prog G 55 [tpA t] (.tup [tpA (L7 t).1, .int (L7 t).2]) := by
 by_cases hm : EO t
 · refine Bm (rs := [.cell 2 80, .tmp 3]) 19 Tryz.func55 rfl rfl rfl (by simp) fun W I => ?_
   repeat' (first
    | refine cae BA (DM _ _ hm) ?_
    | refine ca BA (DN _ _ hm) ?_
    | exact True.intro | refine AP ?_ | refine two ?_ ?_
    | (refine imp fun hc => ?_) <;> try exact cx hc
    | refine all fun v_ => ?_)
   rename_i bp br q
   have hb := hm.1
   refine HA (VS.trans (VS.drop (h' := [AH q.v 5 1 Cy t.data, .cells br 80 [.val q.v, .int t.data.length]]) (.cons _ (.cons_cons _ (.cons_cons _ (.cons _ .slnil))))) (D1 (h1 := []) 1 rfl rfl (fun _ => rfl) (by omega) (CvE.refl _ _ _) (CvH.cells (.cons .here (.cons (.same _) .nil)) (.refl _)))) (xs := [.agg [.d (B0 t.data), .int t.data.length], .int 0]) ⟨Ax rfl CT rfl (by exact Ab) rfl, Az rfl, trivial⟩ rfl (h' := []) (List.nil_sublist _) (AB (by rw [L7, if_pos hm]; rfl))
 · refine Bm (rs := [.cell 2 80, .tmp 3]) 19 Tryz.func55 rfl rfl rfl (by simp) fun W I => ?_
   repeat' (first
    | refine cae BA (DM _ _ hm) ?_
    | refine ca BA (DN _ _ hm) ?_
    | exact True.intro | refine AP ?_ | refine two ?_ ?_
    | (refine imp fun hc => ?_) <;> try exact cx hc
    | refine all fun v_ => ?_)
   exact Eo (xs := [.agg [.val (.slice none 0 0), .int 0], .int 9]) (ys := [tpA DD, .int 9]) vid ⟨Ax rfl CT rfl (by exact Ab) rfl, Az rfl, trivial⟩ ⟨AV.le_agg ⟨AV.le_nil 1 1, AV.le_refl _, trivial⟩, AV.le_refl _, trivial⟩ rfl (h' := []) (List.nil_sublist _) (AB (by rw [L7, if_neg hm]; rfl))
theorem cJ (G : List (Nat × List D)) (t : Tp) (keep : Int) : ACr Tryz.prog G 56 [tpA t, .int keep] (.tup [tpA (EX t keep).1, .int (EX t keep).2]) := by
 by_cases hm : EO t
 · obtain ⟨m1, m2, m3⟩ := hm
   have hm : EO t := ⟨m1, m2, m3⟩
   refine Bm (rs := [.cell 4 80, .tmp 5]) 40 Tryz.func56 rfl rfl rfl (by simp) fun W I => ?_
   repeat' (first
    | refine cae BA (DM _ _ hm) ?_
    | refine ca BA (DN _ _ hm) ?_
    | exact True.intro | refine AP ?_ | refine two ?_ ?_
    | (refine imp fun hc => ?_) <;> try exact cx hc
    | refine all fun v_ => ?_)
   · exact Eo (xs := [.agg [.val (.slice none 0 0), .int 0], .int 2]) (ys := [tpA DD, .int 2]) vid ⟨Ax rfl CT rfl (by exact Ab) rfl, Az rfl, trivial⟩ ⟨AV.le_agg ⟨AV.le_nil 1 1, AV.le_refl _, trivial⟩, AV.le_refl _, trivial⟩ rfl (h' := []) (List.nil_sublist _) (AB (by rw [EX, if_neg (fun h => h hm), if_pos hc]; rfl))
   refine C3 (D1 (h1 := [_]) (h' := [_, _, _]) 1 rfl rfl (fun _ => rfl) (by omega) (CvE.cons (t := 34) rfl .here (CvE.refl _ _ _)) (CvH.refl _)) ?_
   repeat' (first
    | refine cae BA (DM _ _ hm) ?_
    | refine ca BA (DN _ _ hm) ?_
    | exact True.intro | refine AP ?_ | refine two ?_ ?_
    | (refine imp fun hc => ?_) <;> try exact cx hc
    | refine all fun v_ => ?_)
   refine NO (xs := [.agg [.d (B0 (t.data.take (t.synced + min keep (t.data.length - t.synced)).toNat)), .int (t.synced + min keep (t.data.length - t.synced))], .int 0]) ⟨Ax rfl CT rfl (by exact Ab) rfl, Az rfl, trivial⟩ rfl (h' := []) (List.nil_sublist _) (AB ?_)
   rw [EX, if_neg (fun h => h hm), if_neg hc]; rfl
 · refine Bm (rs := [.cell 4 80, .tmp 5]) 40 Tryz.func56 rfl rfl rfl (by simp) fun W I => ?_
   repeat' (first
    | refine cae BA (DM _ _ hm) ?_
    | refine ca BA (DN _ _ hm) ?_
    | exact True.intro | refine AP ?_ | refine two ?_ ?_
    | (refine imp fun hc => ?_) <;> try exact cx hc
    | refine all fun v_ => ?_)
   exact Eo (xs := [.agg [.val (.slice none 0 0), .int 0], .int 9]) (ys := [tpA DD, .int 9]) vid ⟨Ax rfl CT rfl (by exact Ab) rfl, Az rfl, trivial⟩ ⟨AV.le_agg ⟨AV.le_nil 1 1, AV.le_refl _, trivial⟩, AV.le_refl _, trivial⟩ rfl (h' := []) (List.nil_sublist _) (AB (by rw [EX, if_pos hm]; rfl))
end Go.Proofs.YtnlfhnbcdfdhgaaGreatDoor
